/- Contracts: between which bounds a hand is off; what truncation leaves. -/
import Derived.Test.YtkgkhggcahmiiaaGreatDoorOff
namespace Go.Proofs.Tryz
open Go Go.RowKit Go.Lm
set_option maxRecDepth 100000
theorem tr_facts {a e : Int} (he : 1 ≤ e) : a / e ≤ a.tdiv e ∧ a.tdiv e ≤ -((-a) / e) ∧ a.tdiv e ≤ a / e + 1 ∧ -((-a) / e) ≤ a.tdiv e + 1 := by
  have h1 := Int.mul_ediv_add_emod a e
  have h2 := Int.emod_nonneg a (show e ≠ 0 by omega)
  have h3 := Int.emod_lt_of_pos a (show 0 < e by omega)
  have h4 := Int.mul_ediv_add_emod (-a) e
  have h5 := Int.emod_nonneg (-a) (show e ≠ 0 by omega)
  have h6 := Int.emod_lt_of_pos (-a) (show 0 < e by omega)
  have hs : e * (a / e + (-a) / e) = -(a % e + (-a) % e) := by rw [Int.mul_add]; omega
  have s1 : a / e + (-a) / e ≤ 0 := by
    apply Int.not_lt.1
    intro h
    have := Int.mul_le_mul_of_nonneg_left (show 1 ≤ a / e + (-a) / e by omega) (show 0 ≤ e by omega)
    omega
  have s2 : -1 ≤ a / e + (-a) / e := by
    apply Int.not_lt.1
    intro h
    have := Int.mul_le_mul_of_nonneg_left (show a / e + (-a) / e ≤ -2 by omega) (show 0 ≤ e by omega)
    omega
  rcases Int.le_total 0 a with h | h
  · rw [tdiv_pos h]
    omega
  · have e1 : a.tdiv e = -((-a).tdiv e) := by rw [Int.neg_tdiv, Int.neg_neg]
    rw [e1, tdiv_pos (by omega)]
    omega
theorem tr_le {a e k : Int} (he : 1 ≤ e) (hk : 0 ≤ k) (h1 : a ≤ k * e) (h2 : -a ≤ k * e) : -k ≤ a.tdiv e ∧ a.tdiv e ≤ k := by
  rcases Int.le_total 0 a with h | h
  · rw [tdiv_pos h]
    have := Int.ediv_nonneg h (show 0 ≤ e by omega)
    have := Int.ediv_le_of_le_mul (show 0 < e by omega) h1
    omega
  · have e1 : a.tdiv e = -((-a).tdiv e) := by rw [Int.neg_tdiv, Int.neg_neg]
    rw [e1, tdiv_pos (by omega)]
    have := Int.ediv_nonneg (show 0 ≤ -a by omega) (show 0 ≤ e by omega)
    have := Int.ediv_le_of_le_mul (show 0 < e by omega) h2
    omega
theorem tr_ge {a e k : Int} (he : 1 ≤ e) (hk : 0 ≤ k) (h : k * e < max a (-a)) : k ≤ a.tdiv e ∨ a.tdiv e ≤ -k := by
  have hp : 0 ≤ k * e := Int.mul_nonneg hk (by omega)
  rcases Int.le_total 0 a with h0 | h0
  · left
    rw [tdiv_pos h0]
    exact (Int.le_ediv_iff_mul_le (show 0 < e by omega)).2 (by omega)
  · right
    have e1 : a.tdiv e = -((-a).tdiv e) := by rw [Int.neg_tdiv, Int.neg_neg]
    rw [e1, tdiv_pos (by omega)]
    have := (Int.le_ediv_iff_mul_le (a := k) (b := -a) (show 0 < e by omega)).2 (by omega)
    omega
theorem fl_mono {a1 e1 a2 e2 : Int} (h1 : 1 ≤ e1) (h2 : 1 ≤ e2) (h : a2 * e1 ≤ a1 * e2) : a2 / e2 ≤ a1 / e1 := by
  refine (Int.le_ediv_iff_mul_le (show 0 < e1 by omega)).2 ?_
  have k1 : a2 / e2 * e2 ≤ a2 := Int.ediv_mul_le a2 (show e2 ≠ 0 by omega)
  have k2 : a2 / e2 * e2 * e1 ≤ a2 * e1 := Int.mul_le_mul_of_nonneg_right k1 (by omega)
  have k3 : a2 / e2 * e1 * e2 ≤ a1 * e2 := by
    have : a2 / e2 * e1 * e2 = a2 / e2 * e2 * e1 := Int.mul_right_comm ..
    omega
  exact Int.le_of_mul_le_mul_right k3 (by omega)
/-- the greater the target, the less a train is ahead of it -/
theorem oA_mono {l : List (Int × Int)} {x1 y1 x2 y2 t : Int} (h : x1 * y2 ≤ x2 * y1) (ht : 0 ≤ t) : (oA l x2 y2 * 21600 * t) * oE l y1 ≤ (oA l x1 y1 * 21600 * t) * oE l y2 := by
  have hD : 0 ≤ trD l * trD l := by
    rcases Int.le_total 0 (trD l) with h | h
    · exact Int.mul_nonneg h h
    · have := Int.mul_nonneg (show 0 ≤ -trD l by omega) (show 0 ≤ -trD l by omega)
      rwa [Int.neg_mul_neg] at this
  have k := Int.mul_le_mul_of_nonneg_left h (Int.mul_nonneg (Int.mul_nonneg hD ht) (show (0 : Int) ≤ 21600 by omega))
  unfold oA oE
  simp only [Int.sub_mul, Int.mul_sub, Int.mul_assoc, Int.mul_comm, Int.mul_left_comm] at k ⊢
  omega
theorem floor_spec {a b : Int} (hb : 1 ≤ b) (ha : -9000000000000000000 ≤ a ∧ a ≤ 9000000000000000000) : LSpec prog 77 [.k .i64 a, .k .i64 b] (.ret (.k .i64 (a / b))) := by
  have f := tr_facts (a := a) hb
  have hd := tdiv_bd (a := a) (b := 9000000000000000000) ⟨by omega, by omega⟩ hb
  have h1 := Int.mul_ediv_add_emod a b
  have h2 := Int.emod_nonneg a (show b ≠ 0 by omega)
  have h3 := Int.emod_lt_of_pos a (show 0 < b by omega)
  have h4 := Int.mul_tdiv_add_tmod a b
  refine vc_floor (brn_t (decide_eq_true ⟨by omega, of_decide_eq_true (fits_big (by omega) (by omega))⟩) (brn_t (decide_eq_true (by omega)) (brn_intro (fun e => ?_) fun e => ?_)))
  · have e := of_decide_eq_true e
    refine brn_t (decide_eq_true ⟨by omega, by omega⟩) ?_
    congr 1
    have : a.tdiv b ≠ a / b := fun k => by rw [k] at h4; omega
    omega
  · have e := of_decide_eq_false e
    congr 1
    apply Decidable.byContradiction
    intro k
    have k' : a.tdiv b = a / b + 1 := by omega
    rw [k', Int.mul_add, Int.mul_one] at h4
    omega
def loV (l : List (Int × Int)) (z w t : Int) : Int := oA l z w * 21600 * t / oE l w
def hiV (l : List (Int × Int)) (x y t : Int) : Int := -(-(oA l x y * 21600 * t) / oE l y)
def pbV (l : List (Int × Int)) (x y z w t : Int) : Bool := trB l && (isFr x y && (isFr z w && (decide (x * w ≤ z * y) && tuB t)))
theorem ediv_bd {a e b : Int} (ha : -b ≤ a ∧ a ≤ b) (he : 1 ≤ e) (hb : 0 ≤ b) : -b - 1 ≤ a / e ∧ a / e ≤ b := by
  have f := tr_facts (a := a) he
  have g := tdiv_bd ha he
  omega
theorem Between_no {l : List (Int × Int)} {x y z w t : Int} (h : pbV l x y z w t = false) : LSpec prog 24 [.sl 2 (prs l), .agg [.k .i64 x, .k .i64 y], .agg [.k .i64 z, .k .i64 w], .k .i64 t] (.ret (.tup [.agg [.k .i64 0, .k .i64 0], .k .i64 2])) := by
  refine vc_Between ⟨_, isTrain_spec l, brn_intro (fun _ => rfl) fun h1 => ⟨_, isFraction_spec .., brn_intro (fun _ => rfl) fun h2 => ⟨_, isFraction_spec .., brn_intro (fun _ => rfl) fun h3 => ?_⟩⟩⟩
  have h1 : trB l = true := by simpa using h1
  have h2 : isFr x y = true := by simpa using h2
  have h3 : isFr z w = true := by simpa using h3
  refine ⟨_, compare_spec h2 h3, brn_intro (fun _ => rfl) fun h4 => ⟨_, isTurn_spec t, brn_intro (fun _ => rfl) fun h5 => ?_⟩⟩
  have h4 := of_decide_eq_false h4
  have h5 : tuB t = true := by simpa using h5
  have : decide (x * w ≤ z * y) = true := decide_eq_true (by omega)
  simp [pbV, h1, h2, h3, this, h5] at h
theorem Between_yes {l : List (Int × Int)} {x y z w t : Int} (h : pbV l x y z w t = true) : LSpec prog 24 [.sl 2 (prs l), .agg [.k .i64 x, .k .i64 y], .agg [.k .i64 z, .k .i64 w], .k .i64 t] (.ret (.tup [.agg [.k .i64 (loV l z w t), .k .i64 (hiV l x y t)], .k .i64 0])) := by
  simp only [pbV, Bool.and_eq_true] at h
  obtain ⟨h1, h2, h3, h4, h5⟩ := h
  have h4 := of_decide_eq_true h4
  obtain ⟨A1, E1, _, _⟩ := o_bd h1 h2
  obtain ⟨A2, E2, _, _⟩ := o_bd h1 h3
  have n1 := num_bd h1 h2 h5
  have n2 := num_bd h1 h3 h5
  have en : -(oA l x y * 21600) * t = -(oA l x y * 21600 * t) := Int.neg_mul ..
  have d1 := ediv_bd (a := -(oA l x y * 21600 * t)) (b := 2332800000000000000) ⟨by omega, by omega⟩ E1.1 (by omega)
  refine vc_Between ⟨_, isTrain_spec l, brn_f (by rw [h1]; rfl) ⟨_, isFraction_spec .., brn_f (by rw [h2]; rfl) ⟨_, isFraction_spec .., brn_f (by rw [h3]; rfl) ⟨_, compare_spec h2 h3, brn_f (decide_eq_false (by omega)) ⟨_, isTurn_spec t, brn_f (by rw [h5]; rfl) ⟨_, _, wrongBy_spec h1 h3, _, _, wrongBy_spec h1 h2, brn_t (fits_big (by omega) (by omega)) ⟨_, floor_spec E2.1 ⟨by omega, by omega⟩, brn_t (fits_big (by omega) (by omega)) ?_⟩⟩⟩⟩⟩⟩⟩
  rw [en]
  exact brn_t (fits_big (by omega) (by omega)) ⟨_, floor_spec E1.1 ⟨by omega, by omega⟩, brn_t (fits_big (by omega) (by omega)) rfl⟩
end Go.Proofs.Tryz
