/- The logical machine: equal data, by computation. -/
import Derived.Test.YtnmnccboggljhaaGreatDoorLmRun
namespace Go.Lm
open Go Go.RowKit
def bytesB : List UInt8 → List UInt8 → Bool
  | [], [] => true
  | a :: l, b :: m => a == b && bytesB l m
  | _, _ => false
theorem bytesB_eq : ∀ {l m : List UInt8}, bytesB l m = true → l = m
  | [], [], _ => rfl
  | a :: l, b :: m, h => by
    simp only [bytesB, Bool.and_eq_true, beq_iff_eq] at h
    rw [h.1, bytesB_eq h.2]
  | [], _ :: _, h => by cases h
  | _ :: _, [], h => by cases h
mutual
def D.eqB : D → D → Bool
  | .k q n, .k r m => decide (q = r) && decide (n = m)
  | .b p, .b q => p == q
  | .s l, .s m => bytesB l m
  | .nil, .nil => true
  | .sl z r, .sl z' r' => Nat.beq z z' && D.eqR r r'
  | .agg l, .agg m => D.eqL l m
  | .tup l, .tup m => D.eqL l m
  | _, _ => false
def D.eqL : List D → List D → Bool
  | [], [] => true
  | u :: l, v :: m => D.eqB u v && D.eqL l m
  | _, _ => false
def D.eqR : List (List D) → List (List D) → Bool
  | [], [] => true
  | u :: l, v :: m => D.eqL u v && D.eqR l m
  | _, _ => false
end
mutual
theorem D.eqB_eq : ∀ (u v : D), D.eqB u v = true → u = v
  | .k q n, v, h => by
    cases v <;> simp only [D.eqB, Bool.and_eq_true, decide_eq_true_eq, Bool.false_eq_true] at h
    rw [h.1, h.2]
  | .b p, v, h => by
    cases v <;> simp only [D.eqB, beq_iff_eq, Bool.false_eq_true] at h
    rw [h]
  | .s l, v, h => by
    cases v <;> simp only [D.eqB, Bool.false_eq_true] at h
    rw [bytesB_eq h]
  | .nil, v, h => by
    cases v <;> simp only [D.eqB, Bool.false_eq_true] at h
    rfl
  | .sl z r, v, h => by
    cases v <;> simp only [D.eqB, Bool.and_eq_true, Bool.false_eq_true] at h
    rw [Nat.eq_of_beq_eq_true h.1, D.eqR_eq _ _ h.2]
  | .agg l, v, h => by
    cases v <;> simp only [D.eqB, Bool.false_eq_true] at h
    rw [D.eqL_eq _ _ h]
  | .tup l, v, h => by
    cases v <;> simp only [D.eqB, Bool.false_eq_true] at h
    rw [D.eqL_eq _ _ h]
  | .fn _ _ _, v, h => by cases v <;> simp only [D.eqB, Bool.false_eq_true] at h
  | .ifc _ _, v, h => by cases v <;> simp only [D.eqB, Bool.false_eq_true] at h
  | .raw _, v, h => by cases v <;> simp only [D.eqB, Bool.false_eq_true] at h
theorem D.eqL_eq : ∀ (u v : List D), D.eqL u v = true → u = v
  | [], v, h => by
    cases v <;> simp only [D.eqL, Bool.false_eq_true] at h
    rfl
  | u :: l, v, h => by
    cases v <;> simp only [D.eqL, Bool.and_eq_true, Bool.false_eq_true] at h
    rw [D.eqB_eq _ _ h.1, D.eqL_eq _ _ h.2]
theorem D.eqR_eq : ∀ (u v : List (List D)), D.eqR u v = true → u = v
  | [], v, h => by
    cases v <;> simp only [D.eqR, Bool.false_eq_true] at h
    rfl
  | u :: l, v, h => by
    cases v <;> simp only [D.eqR, Bool.and_eq_true, Bool.false_eq_true] at h
    rw [D.eqL_eq _ _ h.1, D.eqR_eq _ _ h.2]
end
/-- contracts in a list -/
def tabT : List (Nat × List D × LO) → FuncId → List D → Option LO
  | [], _, _ => none
  | x :: l, g, ds => match Nat.beq x.1 g && D.eqL x.2.1 ds with
    | true => some x.2.2
    | false => tabT l g ds
theorem tabT_ok {P : Program} : ∀ {l : List (Nat × List D × LO)}, (∀ x ∈ l, LSpec P x.1 x.2.1 x.2.2) → ∀ g ds o, tabT l g ds = some o → LSpec P g ds o
  | [], _, _, _, _, h => by cases h
  | x :: l, hl, g, ds, o, h => by
    simp only [tabT] at h
    split at h
    · rename_i hx
      simp only [Bool.and_eq_true] at hx
      cases h
      have := hl x List.mem_cons_self
      rw [← Nat.eq_of_beq_eq_true hx.1, ← D.eqL_eq _ _ hx.2]
      exact this
    · exact tabT_ok (fun y hy => hl y (List.mem_cons_of_mem _ hy)) g ds o h
end Go.Lm
