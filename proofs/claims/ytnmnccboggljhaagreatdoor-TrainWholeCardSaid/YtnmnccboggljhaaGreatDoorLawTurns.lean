/- TrainTurns and TrainWhole: their contracts. -/
import Derived.Test.YtnmnccboggljhaaGreatDoorAgain
import Derived.Test.YtnmnccboggljhaaGreatDoorVt2
import Derived.Test.YtnmnccboggljhaaGreatDoorKnH
namespace Go.Proofs.Tryz
open Go Go.RowKit Go.Lm
set_option maxRecDepth 100000
theorem slim_spec (n : Int) : LSpec prog 11 [.k .i64 n] (.ret (.b (decide (n ≤ 8)))) := vc_slim rfl
theorem Turns_no {l : List (Int × Int)} (h : trB l = false) : LSpec prog 23 [.sl 2 (prs l)] (.ret (.tup [.agg [.k .i64 0, .k .i64 0], .b false, .k .i64 2])) :=
  vc_Turns ⟨_, isTrain_spec l, brn_t (by rw [h]; rfl) rfl⟩
theorem Turns_yes {l : List (Int × Int)} (h : trB l = true) : LSpec prog 23 [.sl 2 (prs l)] (.ret (.tup [.agg [.k .i64 (trN l), .k .i64 (trD l)], .b (decide (((prs l).length : Int).tmod 2 = 0)), .k .i64 0])) :=
  vc_Turns ⟨_, isTrain_spec l, brn_f (by rw [h]; rfl) ⟨_, _, turns_spec h, rfl⟩⟩
theorem Again_no {l : List (Int × Int)} (h : trB l = false) : LSpec prog 14 [.sl 2 (prs l)] (.ret (.tup [.k .i64 0, .k .i64 2])) :=
  vc_Again0 fun F hF => ⟨_, isTrain_spec l, brn_t (by rw [h]; rfl) rfl⟩
theorem lawTurns_spec (l : List (Int × Int)) (_ : l.length ≤ 8796093022208 ∧ ∀ p ∈ l, (Lit.int .i64 p.1).wf = true ∧ (Lit.int .i64 p.2).wf = true) : LSpec prog 6 [.sl 2 (prs l)] (.ret (.b true)) := by
  refine vc_lTurns ⟨_, slim_spec _, brn_intro (fun _ => ⟨_, known_spec, rfl⟩) fun e => ?_⟩
  have e : decide (((prs l).length : Int) ≤ 8) = true := by simpa using e
  have hl : l.length ≤ 8 := by have := of_decide_eq_true e; rw [prs_length] at this; omega
  cases h : trB l with
  | false =>
    refine ⟨_, _, _, _, Turns_no h, _, _, Again_no h, _, rTrain_spec l (by omega), brn_t (by rw [h]; rfl) ?_⟩
    exact brn_t rfl (brn_t rfl (brn_t rfl (brn_t rfl (brn_t rfl ⟨_, known_spec, rfl⟩))))
  | true =>
    obtain ⟨n, ha⟩ := again_ok h
    refine ⟨_, _, _, _, Turns_yes h, _, _, ha.again, _, rTrain_spec l (by omega), brn_f (by rw [h]; rfl) ?_⟩
    exact brn_t rfl ⟨_, _, rTurns_spec h, brn_t (decide_eq_true ⟨rfl, rfl⟩) (brn_t (by simp) (brn_t rfl ⟨_, ha.ref, brn_t (decide_eq_true rfl) ⟨_, known_spec, rfl⟩⟩))⟩
theorem lawWhole_spec (l : List (Int × Int)) (t : Int) (_ : l.length ≤ 8796093022208 ∧ ∀ p ∈ l, (Lit.int .i64 p.1).wf = true ∧ (Lit.int .i64 p.2).wf = true) (_ : (Lit.int .i64 t).wf = true) : LSpec prog 3 [.sl 2 (prs l), .k .i64 t] (.ret (.b true)) := by
  refine vc_lWhole ⟨_, slim_spec _, brn_intro (fun _ => ⟨_, known_spec, rfl⟩) fun e => ?_⟩
  have e : decide (((prs l).length : Int) ≤ 8) = true := by simpa using e
  have hl : l.length ≤ 8 := by have := of_decide_eq_true e; rw [prs_length] at this; omega
  refine ⟨_, rTrain_spec l (by omega), brn_intro (fun _ => ⟨_, known_spec, rfl⟩) fun h => ?_⟩
  have h : trB l = true := by simpa using h
  obtain ⟨n, ha⟩ := again_ok h
  have p1 := ha.pos
  have p2 := ha.le
  refine ⟨_, _, ha.again, brn_f rfl (brn_f (decide_eq_false (by omega)) (brn_f (decide_eq_false (by omega)) ⟨_, ha.whole, brn_f rfl (brn_intro (fun _ => ⟨_, known_spec, rfl⟩) fun e1 => brn_intro (fun _ => ⟨_, known_spec, rfl⟩) fun e2 => ?_)⟩))⟩
  have e1 := of_decide_eq_false e1
  have e2 := of_decide_eq_false e2
  exact ⟨_, ha.least t (by omega) (by omega), brn_t rfl ⟨_, known_spec, rfl⟩⟩
#print axioms lawTurns_spec
#print axioms lawWhole_spec
end Go.Proofs.Tryz
