/- Closed runs: known() is true. -/
import Derived.Test.YtkgkhggcahmiiaaGreatDoorKnF
namespace Go.Proofs.Tryz
open Go Go.RowKit Go.Lm
set_option maxRecDepth 100000
theorem rep_closed : ∀ n : Nat, n ≤ 3 → ∃ r, LSpec prog 117 [.sl 1 [[.k .i64 60]], .k .i64 n] (.ret (.sl 1 r)) ∧ LSpec prog 116 [.sl 1 r] (.ret (.k .i64 ((60 ^ n : Nat) : Int))) := by
  intro n hn
  have : n = 0 ∨ n = 1 ∨ n = 2 ∨ n = 3 := by omega
  rcases this with rfl | rfl | rfl | rfl
  · exact ⟨[], run0 100000 (by kernel_rfl), run0 100000 (by kernel_rfl)⟩
  · exact ⟨[[.k .i64 60]], run0 100000 (by kernel_rfl), run0 100000 (by kernel_rfl)⟩
  · exact ⟨[[.k .i64 60], [.k .i64 60]], run0 100000 (by kernel_rfl), run0 100000 (by kernel_rfl)⟩
  · exact ⟨[[.k .i64 60], [.k .i64 60], [.k .i64 60]], run0 100000 (by kernel_rfl), run0 100000 (by kernel_rfl)⟩
/-- the contract of prepared -/
theorem prepared_all (a b p d : Int) (nv : List (List D)) (teeth : List Int) (hp0 : 0 ≤ p) (hp : p ≤ 3) (hl : teeth.length ≤ 1000) (ht : ∀ j : Nat, 0 ≤ teeth[j]?.getD 0 ∧ teeth[j]?.getD 0 ≤ 60) :
    LSpec prog 65 [.agg [.k .i64 a, .k .i64 b, .k .i64 p, .k .i64 d, .sl 1 nv, .sl 1 (ints teeth)]] (.ret (whD a b p d nv (ints teeth) (sortedR teeth (p + 1).toNat) (markedR teeth (p + 1).toNat))) :=
  prepared_spec a b p d nv teeth hp0 hp hl ht rep_closed
theorem sorted_marks (M : Nat) (pre : List Int) : sortedL (marksB M pre) = ((List.range M).filter fun (i : Nat) => decide ((i : Int) ∈ pre)).map fun (i : Nat) => (i : Int) := by
  unfold sortedL
  have hl : (marksB M pre).length = M := by simp [marksB]
  rw [hl]
  congr 1
  apply List.filter_congr
  intro i hi
  have : i < M := by simpa using hi
  simp [marksB, this]
def m2D : D := .sl 1 (bools (marksN L1 2))
theorem s2 : sortedL (marksN L1 2) = L2 := by
  unfold marksN
  rw [sorted_marks]
  kernel_rfl
theorem sr2 : sortedR L1 2 = [[il1], [il L1]] := by kernel_rfl
theorem mr2 : markedR L1 2 = [[m0D], [.sl 1 M1]] := by kernel_rfl
theorem sr3 : sortedR L1 3 = [[il1], [il L1], [il L2]] := by
  rw [sortedR_succ, sr2, s2]
  rfl
theorem mr3 : markedR L1 3 = [[m0D], [.sl 1 M1], [m2D]] := by
  rw [markedR_succ, mr2]
  rfl
theorem teeth_ok : ∀ j : Nat, 0 ≤ L1[j]?.getD 0 ∧ L1[j]?.getD 0 ≤ 60 := by
  intro j
  match j with
  | 0 | 1 | 2 | 3 | 4 | 5 => decide
  | n + 6 => simp [L1]
theorem prep1 : LSpec prog 65 [.agg [ki 6, ki 12, ki 1, ki 1, .sl 1 [[ki 7]], .sl 1 (ints L1)]] (.ret w1D) := by
  have h := prepared_all 6 12 1 1 [[ki 7]] L1 (by decide) (by decide) (by decide) teeth_ok
  rw [show ((1 : Int) + 1).toNat = 2 from rfl, sr2, mr2] at h
  exact h
theorem prep2 : LSpec prog 65 [.agg [ki 6, ki 12, ki 2, ki 1, .sl 1 [[ki 7]], .sl 1 (ints L1)]] (.ret (w2D m2D)) := by
  have h := prepared_all 6 12 2 1 [[ki 7]] L1 (by decide) (by decide) (by decide) teeth_ok
  rw [show ((2 : Int) + 1).toNat = 3 from rfl, sr3, mr3] at h
  exact h
/-- nearest, by the wheels' number of pairs -/
def tW (g : FuncId) (ds : List D) : Option LO := match ds with
  | [.agg [.k .i64 a, .k .i64 b, .k .i64 p, .k .i64 d, .sl 1 nv, .sl 1 te, .sl 1 sr, .sl 1 mr], .agg [.k .i64 x, .k .i64 y]] =>
    match Nat.beq g 67 && (decide (a = 6) && (decide (b = 12) && (decide (d = 1) && (D.eqR nv [[ki 7]] && D.eqR te (ints L1))))) with
    | true => match decide (p = 1) && (D.eqR sr [[il1], [il L1]] && D.eqR mr [[m0D], [.sl 1 M1]]) with
      | true => match decide (x = 43) && decide (y = 30) with
        | true => some (.ret (.tup [pl [(11, 8)], .b true]))
        | false => match decide (x = 1) && decide (y = 1) with
          | true => some (.ret (.tup [pl [(6, 6)], .b true]))
          | false => none
      | false => match decide (p = 2) && D.eqR sr [[il1], [il L1], [il L2]] with
        | true => match mr with
          | [m0, m1, [_]] => match D.eqL m0 [m0D] && D.eqL m1 [.sl 1 M1] with
            | true => match decide (x = 43) && decide (y = 30) with
              | true => some (.ret (.tup [pl [(12, 10), (12, 10)], .b true]))
              | false => match decide (x = 1) && decide (y = 1) with
                | true => some (.ret (.tup [pl [(6, 6)], .b true]))
                | false => none
            | false => none
          | _ => none
        | false => none
    | false => none
  | _ => none
theorem tW_ok : Sound tW := by
  intro g ds o e
  unfold tW at e
  split at e
  · rename_i a b p d nv te sr mr x y
    split at e
    · rename_i h1
      simp only [Bool.and_eq_true, decide_eq_true_eq] at h1
      obtain ⟨h1, rfl, rfl, rfl, h2, h3⟩ := h1
      obtain rfl := Nat.eq_of_beq_eq_true h1
      obtain rfl := D.eqR_eq _ _ h2
      obtain rfl := D.eqR_eq _ _ h3
      split at e
      · rename_i h4
        simp only [Bool.and_eq_true, decide_eq_true_eq] at h4
        obtain ⟨rfl, h5, h6⟩ := h4
        obtain rfl := D.eqR_eq _ _ h5
        obtain rfl := D.eqR_eq _ _ h6
        split at e
        · rename_i h7
          simp only [Bool.and_eq_true, decide_eq_true_eq] at h7
          obtain ⟨rfl, rfl⟩ := h7
          cases e
          exact nearest1F
        · split at e
          · rename_i h7
            simp only [Bool.and_eq_true, decide_eq_true_eq] at h7
            obtain ⟨rfl, rfl⟩ := h7
            cases e
            exact nearest1I
          · cases e
      · split at e
        · rename_i h4
          simp only [Bool.and_eq_true, decide_eq_true_eq] at h4
          obtain ⟨rfl, h5⟩ := h4
          obtain rfl := D.eqR_eq _ _ h5
          split at e
          · rename_i m0 m1 m2
            split at e
            · rename_i h6
              simp only [Bool.and_eq_true] at h6
              obtain rfl := D.eqL_eq _ _ h6.1
              obtain rfl := D.eqL_eq _ _ h6.2
              split at e
              · rename_i h7
                simp only [Bool.and_eq_true, decide_eq_true_eq] at h7
                obtain ⟨rfl, rfl⟩ := h7
                cases e
                exact nearest2F _
              · split at e
                · rename_i h7
                  simp only [Bool.and_eq_true, decide_eq_true_eq] at h7
                  obtain ⟨rfl, rfl⟩ := h7
                  cases e
                  exact nearest2I _
                · cases e
            · cases e
          · cases e
        · cases e
    · cases e
  · cases e
def TP : FuncId → List D → Option LO := orT tW (tabT [(65, [.agg [ki 6, ki 12, ki 1, ki 1, .sl 1 [[ki 7]], .sl 1 (ints L1)]], .ret w1D), (65, [.agg [ki 6, ki 12, ki 2, ki 1, .sl 1 [[ki 7]], .sl 1 (ints L1)]], .ret (w2D m2D))])
theorem TP_ok : Sound TP := orT_ok tW_ok (tabT_ok fun x hx => by
  simp only [List.mem_cons, List.mem_nil_iff, or_false] at hx
  rcases hx with rfl | rfl
  · exact prep1
  · exact prep2)
def Rd : D := .agg [ki 6, ki 12, ki 2, ki 1, .sl 1 [[ki 7]]]
theorem k_nearest : LSpec prog 20 [Rd, Fd] (.ret (.tup [Td, ki 0])) := runS TP_ok 100000 (by kernel_rfl)
end Go.Proofs.Tryz
