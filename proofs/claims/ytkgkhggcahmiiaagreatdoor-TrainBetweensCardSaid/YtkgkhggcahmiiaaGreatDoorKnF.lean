/- Closed runs: known() is true. -/
import Derived.Test.YtkgkhggcahmiiaaGreatDoorKnC
import Derived.Test.YtkgkhggcahmiiaaGreatDoorKnD
import Derived.Test.YtkgkhggcahmiiaaGreatDoorKnE
import Derived.Test.YtkgkhggcahmiiaaGreatDoorBas
namespace Go.Proofs.Tryz
open Go Go.RowKit Go.Lm
set_option maxRecDepth 100000
/-! ### tables of contracts that look at parts of what they are given -/
def Sound (T : FuncId → List D → Option LO) : Prop := ∀ g ds o, T g ds = some o → LSpec prog g ds o
def orT (T U : FuncId → List D → Option LO) : FuncId → List D → Option LO := fun g ds => match T g ds with
  | some o => some o
  | none => U g ds
theorem orT_ok {T U : FuncId → List D → Option LO} (h : Sound T) (k : Sound U) : Sound (orT T U) := fun g ds o e => by
  unfold orT at e
  split at e
  · rename_i o' h'
    cases e
    exact h _ _ _ h'
  · exact k _ _ _ e
theorem runS {T : FuncId → List D → Option LO} (hT : Sound T) (n : Nat) {g : FuncId} {ds : List D} {o : LO} (h : callX prog T (lk tab) (exK prog W0 E0 T (lk tab) n) g ds = some o) : LSpec prog g ds o :=
  LSpec.runK mx tabOk.fn hE0 hT n h
def tN (n x y : Int) (o : LO) (ok : List (List D) → Bool) (g : FuncId) (ds : List D) : Option LO := match ds with
  | [.agg [.k .i64 _, .k .i64 _, .k .i64 _, .k .i64 _, .sl 1 _, .sl 1 _, .sl 1 sr, .sl 1 _], .k .i64 n', .agg [.k .i64 x', .k .i64 y']] =>
    match Nat.beq g 120 && (decide (n' = n) && (decide (x' = x) && (decide (y' = y) && ok sr))) with
    | true => some o
    | false => none
  | _ => none
theorem tN_ok {n x y : Int} {o : LO} {ok : List (List D) → Bool} (h : ∀ a b p d nv te sr mr, ok sr = true → LSpec prog 120 [whD a b p d nv te sr mr, ki n, fr x y] o) : Sound (tN n x y o ok) := fun g ds o' e => by
  unfold tN at e
  split at e
  · rename_i a b p d nv te sr mr n' x' y'
    split at e
    · rename_i hc
      cases e
      simp only [Bool.and_eq_true, decide_eq_true_eq] at hc
      obtain ⟨h1, rfl, rfl, rfl, h2⟩ := hc
      obtain rfl := Nat.eq_of_beq_eq_true h1
      exact h a b p d nv te sr mr h2
    · cases e
  · cases e
def tF (n x y : Int) (o : LO) (ok : List (List D) → Bool) (g : FuncId) (ds : List D) : Option LO := match ds with
  | [.agg [.k .i64 _, .k .i64 _, .k .i64 _, .k .i64 _, .sl 1 _, .sl 1 te, .sl 1 _, .sl 1 mr], .k .i64 n', .agg [.k .i64 x', .k .i64 y']] =>
    match Nat.beq g 124 && (decide (n' = n) && (decide (x' = x) && (decide (y' = y) && (D.eqR te (ints L1) && ok mr)))) with
    | true => some o
    | false => none
  | _ => none
theorem tF_ok {n x y : Int} {o : LO} {ok : List (List D) → Bool} (h : ∀ a b p d nv sr mr, ok mr = true → LSpec prog 124 [whD a b p d nv (ints L1) sr mr, ki n, fr x y] o) : Sound (tF n x y o ok) := fun g ds o' e => by
  unfold tF at e
  split at e
  · rename_i a b p d nv te sr mr n' x' y'
    split at e
    · rename_i hc
      cases e
      simp only [Bool.and_eq_true, decide_eq_true_eq] at hc
      obtain ⟨h1, rfl, rfl, rfl, h3, h2⟩ := hc
      obtain rfl := Nat.eq_of_beq_eq_true h1
      obtain rfl := D.eqR_eq _ _ h3
      exact h a b p d nv sr mr h2
    · cases e
  · cases e
def ok1 : List (List D) → Bool
  | [[_], [l]] => D.eqB l (il L1)
  | _ => false
theorem ok1_eq {sr : List (List D)} (h : ok1 sr = true) : ∃ s0, sr = [[s0], [il L1]] := by
  unfold ok1 at h
  split at h
  · rename_i s0 l; exact ⟨s0, by rw [D.eqB_eq _ _ h]⟩
  · cases h
def ok2 : List (List D) → Bool
  | [[_], [l], [_]] => D.eqB l (il L1)
  | _ => false
theorem ok2_eq {sr : List (List D)} (h : ok2 sr = true) : ∃ s0 s2, sr = [[s0], [il L1], [s2]] := by
  unfold ok2 at h
  split at h
  · rename_i s0 l s2; exact ⟨s0, s2, by rw [D.eqB_eq _ _ h]⟩
  · cases h
def ok3 : List (List D) → Bool
  | [[_], [_], [l]] => D.eqB l (il L2)
  | _ => false
theorem ok3_eq {sr : List (List D)} (h : ok3 sr = true) : ∃ s0 s1, sr = [[s0], [s1], [il L2]] := by
  unfold ok3 at h
  split at h
  · rename_i s0 s1 l; exact ⟨s0, s1, by rw [D.eqB_eq _ _ h]⟩
  · cases h
def okm1 : List (List D) → Bool
  | [[l], [_]] => D.eqB l m0D
  | _ => false
theorem okm1_eq {sr : List (List D)} (h : okm1 sr = true) : ∃ m1, sr = [[m0D], [m1]] := by
  unfold okm1 at h
  split at h
  · rename_i l m1; exact ⟨m1, by rw [D.eqB_eq _ _ h]⟩
  · cases h
def okm2 : List (List D) → Bool
  | [[l], [_], [_]] => D.eqB l m0D
  | _ => false
theorem okm2_eq {sr : List (List D)} (h : okm2 sr = true) : ∃ m1 m2, sr = [[m0D], [m1], [m2]] := by
  unfold okm2 at h
  split at h
  · rename_i l m1 m2; exact ⟨m1, m2, by rw [D.eqB_eq _ _ h]⟩
  · cases h
def okm3 : List (List D) → Bool
  | [[l], [k], [_]] => D.eqB l m0D && D.eqB k (.sl 1 M1)
  | _ => false
theorem okm3_eq {sr : List (List D)} (h : okm3 sr = true) : ∃ m2, sr = [[m0D], [.sl 1 M1], [m2]] := by
  unfold okm3 at h
  split at h
  · rename_i l k m2
    simp only [Bool.and_eq_true] at h
    exact ⟨m2, by rw [D.eqB_eq _ _ h.1, D.eqB_eq _ _ h.2]⟩
  · cases h
def TN : FuncId → List D → Option LO :=
  orT (tN 1 43 30 (.ret (.tup [pl [(11, 8)], fr 14 8])) ok1) <| orT (tN 1 1 1 (.ret (.tup [pl [(1, 1)], fr 0 1])) ok1) <|
  orT (tN 1 43 30 (.ret (.tup [pl [(11, 8)], fr 14 8])) ok2) <| orT (tN 1 1 1 (.ret (.tup [pl [(1, 1)], fr 0 1])) ok2) <|
  orT (tN 2 43 30 (.ret (.tup [pl [(36, 25)], fr 5 25])) ok3) <| orT (tN 2 1 1 (.ret (.tup [pl [(1, 1)], fr 0 1])) ok3) <|
  orT (tF 1 11 8 (.ret (pl [(11, 8)])) okm1) <| orT (tF 1 1 1 (.ret (pl [(6, 6)])) okm1) <| orT (tF 1 1 1 (.ret (pl [(6, 6)])) okm2) <| tF 2 36 25 (.ret (pl [(12, 10), (12, 10)])) okm3
theorem TN_ok : Sound TN :=
  orT_ok (tN_ok fun a b p d nv te sr mr h => by obtain ⟨s0, rfl⟩ := ok1_eq h; exact near1F a b p d nv te mr s0) <|
  orT_ok (tN_ok fun a b p d nv te sr mr h => by obtain ⟨s0, rfl⟩ := ok1_eq h; exact near1I a b p d nv te mr s0) <|
  orT_ok (tN_ok fun a b p d nv te sr mr h => by obtain ⟨s0, s2, rfl⟩ := ok2_eq h; exact near1F2 a b p d nv te mr s0 s2) <|
  orT_ok (tN_ok fun a b p d nv te sr mr h => by obtain ⟨s0, s2, rfl⟩ := ok2_eq h; exact near1I2 a b p d nv te mr s0 s2) <|
  orT_ok (tN_ok fun a b p d nv te sr mr h => by obtain ⟨s0, s1, rfl⟩ := ok3_eq h; exact near2F a b p d nv te mr s0 s1) <|
  orT_ok (tN_ok fun a b p d nv te sr mr h => by obtain ⟨s0, s1, rfl⟩ := ok3_eq h; exact near2I a b p d nv te mr s0 s1) <|
  orT_ok (tF_ok fun a b p d nv sr mr h => by obtain ⟨m1, rfl⟩ := okm1_eq h; exact first1F a b p d nv m1 sr) <|
  orT_ok (tF_ok fun a b p d nv sr mr h => by obtain ⟨m1, rfl⟩ := okm1_eq h; exact first1I a b p d nv m1 sr) <|
  orT_ok (tF_ok fun a b p d nv sr mr h => by obtain ⟨m1, m2, rfl⟩ := okm2_eq h; exact first1I2 a b p d nv m1 m2 sr) <|
  tF_ok fun a b p d nv sr mr h => by obtain ⟨m2, rfl⟩ := okm3_eq h; exact first2F a b p d nv sr m2
def il1 : D := il [1]
/-- the wheels of the example's rule, with one pair and with two; whatever the marks of two -/
def w1D : D := whD 6 12 1 1 [[ki 7]] (ints L1) [[il1], [il L1]] [[m0D], [.sl 1 M1]]
def w2D (m2 : D) : D := whD 6 12 2 1 [[ki 7]] (ints L1) [[il1], [il L1], [il L2]] [[m0D], [.sl 1 M1], [m2]]
theorem nearest1F : LSpec prog 67 [w1D, Fd] (.ret (.tup [pl [(11, 8)], .b true])) := runS TN_ok 100000 (by kernel_rfl)
theorem nearest1I : LSpec prog 67 [w1D, fr 1 1] (.ret (.tup [pl [(6, 6)], .b true])) := runS TN_ok 100000 (by kernel_rfl)
theorem nearest2F (m2 : D) : LSpec prog 67 [w2D m2, Fd] (.ret (.tup [pl [(12, 10), (12, 10)], .b true])) := runS TN_ok 100000 (by kernel_rfl)
theorem nearest2I (m2 : D) : LSpec prog 67 [w2D m2, fr 1 1] (.ret (.tup [pl [(6, 6)], .b true])) := runS TN_ok 100000 (by kernel_rfl)
end Go.Proofs.Tryz
