/- TrainOffs: its contract. -/
import Derived.Test.YtoldpmijgifjmaaGreatDoorOff
import Derived.Test.YtoldpmijgifjmaaGreatDoorKnH
namespace Go.Proofs.Tryz
open Go Go.RowKit Go.Lm
set_option maxRecDepth 100000
theorem slimO_spec (n : Int) : LSpec prog 12 [.k .i64 n] (.ret (.b (decide (n ≤ 8)))) := vc_slim rfl
theorem lawOffs_spec (l : List (Int × Int)) (x y t lim : Int) (_ : l.length ≤ 8796093022208 ∧ ∀ p ∈ l, (Lit.int .i64 p.1).wf = true ∧ (Lit.int .i64 p.2).wf = true) (_ : (Lit.int .i64 x).wf = true) (_ : (Lit.int .i64 y).wf = true) (_ : (Lit.int .i64 t).wf = true) (_ : (Lit.int .i64 lim).wf = true) :
    LSpec prog 3 [.sl 2 (prs l), .agg [.k .i64 x, .k .i64 y], .k .i64 t, .k .i64 lim] (.ret (.b true)) := by
  refine vc_lOffs ⟨_, slimO_spec _, brn_intro (fun _ => ⟨_, known_spec, rfl⟩) fun e => ?_⟩
  have e : decide (((prs l).length : Int) ≤ 8) = true := by simpa using e
  have hl : l.length ≤ 8 := by have := of_decide_eq_true e; rw [prs_length] at this; omega
  have hT := rTrain_spec l (by omega)
  cases h1 : trB l with
  | false =>
    rw [h1] at hT
    exact ⟨_, _, Off_no (by rw [h1]; rfl), _, _, Lasts_no (by rw [h1]; rfl), _, hT, brn_f rfl (brn_f rfl (brn_f rfl (brn_t rfl (brn_t rfl ⟨_, known_spec, rfl⟩))))⟩
  | true =>
    rw [h1] at hT
    cases h2 : isFr x y with
    | false =>
      exact ⟨_, _, Off_no (by rw [h1, h2]; rfl), _, _, Lasts_no (by rw [h1, h2]; rfl), _, hT, brn_t rfl ⟨_, rFraction_spec x y, brn_t (by rw [h2]; rfl) (brn_f rfl (brn_f rfl (brn_t (by rw [h2]; rfl) (brn_t rfl (brn_t rfl ⟨_, known_spec, rfl⟩)))))⟩⟩
    | true =>
      cases h3 : tuB t with
      | false =>
        have hO := Off_no (l := l) (x := x) (y := y) (t := t) (by rw [h1, h2, h3]; rfl)
        cases h4 : liB lim with
        | false => exact ⟨_, _, hO, _, _, Lasts_no (by rw [h1, h2, h4]; rfl), _, hT, brn_t rfl ⟨_, rFraction_spec x y, brn_f (by rw [h2]; rfl) ⟨_, rNumber_spec t, brn_t (by rw [h3]; rfl) (brn_f rfl (brn_f rfl (brn_f (by rw [h2]; rfl) ⟨_, rLimit_spec lim, brn_t (by rw [h4]; rfl) (brn_t rfl (brn_t rfl ⟨_, known_spec, rfl⟩))⟩)))⟩⟩⟩
        | true => exact ⟨_, _, hO, _, _, Lasts_yes h1 h2 h4, _, hT, brn_t rfl ⟨_, rFraction_spec x y, brn_f (by rw [h2]; rfl) ⟨_, rNumber_spec t, brn_t (by rw [h3]; rfl) (brn_f rfl (brn_f rfl (brn_f (by rw [h2]; rfl) ⟨_, rLimit_spec lim, brn_f (by rw [h4]; rfl) (brn_t rfl ⟨_, rLasts_spec h1 h2 h4, brn_t (decide_eq_true rfl) ⟨_, known_spec, rfl⟩⟩)⟩)))⟩⟩⟩
      | true =>
        have hO := Off_yes (l := l) (x := x) (y := y) (t := t) h1 h2 h3
        cases h4 : liB lim with
        | false => exact ⟨_, _, hO, _, _, Lasts_no (by rw [h1, h2, h4]; rfl), _, hT, brn_t rfl ⟨_, rFraction_spec x y, brn_f (by rw [h2]; rfl) ⟨_, rNumber_spec t, brn_f (by rw [h3]; rfl) (brn_f rfl ⟨_, rOff_spec h1 h2 h3, brn_f (by simp) (brn_f (by rw [h2]; rfl) ⟨_, rLimit_spec lim, brn_t (by rw [h4]; rfl) (brn_t rfl (brn_t rfl ⟨_, known_spec, rfl⟩))⟩)⟩)⟩⟩⟩
        | true => exact ⟨_, _, hO, _, _, Lasts_yes h1 h2 h4, _, hT, brn_t rfl ⟨_, rFraction_spec x y, brn_f (by rw [h2]; rfl) ⟨_, rNumber_spec t, brn_f (by rw [h3]; rfl) (brn_f rfl ⟨_, rOff_spec h1 h2 h3, brn_f (by simp) (brn_f (by rw [h2]; rfl) ⟨_, rLimit_spec lim, brn_f (by rw [h4]; rfl) (brn_t rfl ⟨_, rLasts_spec h1 h2 h4, brn_t (decide_eq_true rfl) ⟨_, known_spec, rfl⟩⟩)⟩)⟩)⟩⟩⟩
#print axioms lawOffs_spec
end Go.Proofs.Tryz
