/- Contracts: by how much a hand is off, and for how long. -/
import Derived.Test.YtkgkhggcahmiiaaGreatDoorVo
import Derived.Test.YtkgkhggcahmiiaaGreatDoorTurn
namespace Go.Proofs.Tryz
open Go Go.RowKit Go.Lm
set_option maxRecDepth 100000
theorem trN_bd {l : List (Int × Int)} (h : trB l = true) : (0 ≤ trN l ∧ trN l ≤ 216000) ∧ (1 ≤ trD l ∧ trD l ≤ 216000) := by
  have hA : trA l = true := by simp only [trB, Bool.and_eq_true] at h; exact h.1
  have key : (1 ≤ prN l ∧ prN l ≤ 216000) ∧ (1 ≤ prD l ∧ prD l ≤ 216000) := by
    rcases trB_cases h with ⟨a, b, rfl⟩ | ⟨a, b, c, d, rfl⟩ | ⟨a, b, c, d, e, f, rfl⟩
    · obtain ⟨ha, hb⟩ := trA_b1 hA
      show (1 ≤ 1 * a ∧ 1 * a ≤ 216000) ∧ (1 ≤ 1 * b ∧ 1 * b ≤ 216000)
      omega
    · obtain ⟨⟨ha, hb⟩, hc, hd⟩ := trA_b2 hA
      have h1 := m_bd (m_bd (x := 1) ⟨by omega, Int.le_refl _⟩ ha) hc
      have h2 := m_bd (m_bd (x := 1) ⟨by omega, Int.le_refl _⟩ hb) hd
      show (1 ≤ 1 * a * c ∧ 1 * a * c ≤ 216000) ∧ (1 ≤ 1 * b * d ∧ 1 * b * d ≤ 216000)
      omega
    · obtain ⟨⟨ha, hb⟩, ⟨hc, hd⟩, he, hf⟩ := trA_b3 hA
      have h1 := m_bd (m_bd (m_bd (x := 1) ⟨by omega, Int.le_refl _⟩ ha) hc) he
      have h2 := m_bd (m_bd (m_bd (x := 1) ⟨by omega, Int.le_refl _⟩ hb) hd) hf
      show (1 ≤ 1 * a * c * e ∧ 1 * a * c * e ≤ 216000) ∧ (1 ≤ 1 * b * d * f ∧ 1 * b * d * f ≤ 216000)
      omega
  obtain ⟨k1, k2⟩ := key
  have hg : 1 ≤ trG l := gcd_pos (x := prN l) k2.1
  have hd : trG l ∣ prD l := Int.gcd_dvd_right ..
  have e : trG l * trD l = prD l := Int.mul_ediv_cancel' hd
  have b1 := div_bd (show 0 ≤ prN l by omega) hg
  have b2 := div_bd (show 0 ≤ prD l by omega) hg
  refine ⟨⟨b1.1, Int.le_trans b1.2 k1.2⟩, ?_, Int.le_trans b2.2 k2.2⟩
  rcases Int.lt_or_eq_of_le b2.1 with h1 | h1
  · exact h1
  · have : trD l = 0 := h1.symm
    rw [this] at e; omega
theorem mul_bd6 {x y : Int} (hx : 0 ≤ x) (hy : 0 ≤ y) (hxa : x ≤ 216000) (hyb : y ≤ 50000) : 0 ≤ x * y ∧ x * y ≤ 10800000000 := mul_bd hx hy hxa hyb
/-- by how much a train is off: times both denominators, and these -/
def oA (l : List (Int × Int)) (x y : Int) : Int := trN l * y - x * trD l
def oE (l : List (Int × Int)) (y : Int) : Int := trD l * y
theorem o_bd {l : List (Int × Int)} {x y : Int} (h : trB l = true) (hf : isFr x y = true) : (-10800000000 ≤ oA l x y ∧ oA l x y ≤ 10800000000) ∧ (1 ≤ oE l y ∧ oE l y ≤ 10800000000) ∧ (0 ≤ trN l * y ∧ trN l * y ≤ 10800000000) ∧ (0 ≤ x * trD l ∧ x * trD l ≤ 10800000000) := by
  obtain ⟨⟨n1, n2⟩, d1, d2⟩ := trN_bd h
  obtain ⟨⟨a1, a2⟩, a3, a4⟩ := isFr_iff.1 hf
  have p := mul_bd6 n1 (show 0 ≤ y by omega) n2 a4
  have q := mul_bd6 (show 0 ≤ trD l by omega) a1 d2 a2
  have r := mul_bd6 (show 0 ≤ trD l by omega) (show 0 ≤ y by omega) d2 a4
  have r1 : 1 * 1 ≤ trD l * y := Int.mul_le_mul d1 a3 (by omega) (by omega)
  rw [Int.mul_comm (trD l) x] at q
  unfold oA oE
  omega
theorem compare_big {x y z w : Int} (h1 : (0 ≤ x * w ∧ x * w ≤ 100000000000)) (h2 : (0 ≤ z * y ∧ z * y ≤ 100000000000)) : LSpec prog 51 [.agg [.k .i64 x, .k .i64 y], .agg [.k .i64 z, .k .i64 w]] (.ret (.k .i64 (x * w - z * y))) :=
  vc_compare (brn_t (fits_mid (by omega) (by omega)) (brn_t (fits_mid (by omega) (by omega)) (brn_t (fits_mid (by omega) (by omega)) rfl)))
theorem wrongBy_spec {l : List (Int × Int)} {x y : Int} (h : trB l = true) (hf : isFr x y = true) : LSpec prog 76 [.sl 2 (prs l), .agg [.k .i64 x, .k .i64 y]] (.ret (.agg [.k .i64 (oA l x y * 21600), .k .i64 (oE l y)])) := by
  obtain ⟨A, E, p, q⟩ := o_bd h hf
  have A' : -10800000000 ≤ trN l * y - x * trD l ∧ trN l * y - x * trD l ≤ 10800000000 := A
  have E' : 1 ≤ trD l * y ∧ trD l * y ≤ 10800000000 := E
  exact vc_wrongBy ⟨_, _, turns_spec h, _, compare_big ⟨p.1, by omega⟩ ⟨q.1, by omega⟩, brn_t (fits_mid (by omega) (by omega)) (brn_t (fits_mid (by omega) (by omega)) rfl)⟩
def tuB (t : Int) : Bool := isIn t 0 10000
def liB (t : Int) : Bool := isIn t 0 10800
theorem isTurn_spec (n : Int) : LSpec prog 75 [.k .i64 n] (.ret (.b (tuB n))) := vc_isTurn ⟨_, in_spec .., rfl⟩
theorem isLimit_spec (n : Int) : LSpec prog 79 [.k .i64 n] (.ret (.b (liB n))) := vc_isLimit ⟨_, in_spec .., rfl⟩
theorem rNumber_spec (n : Int) : LSpec prog 27 [.k .i64 n] (.ret (.b (tuB n))) := vc_rNumber ⟨_, rin_spec .., rfl⟩
theorem rLimit_spec (n : Int) : LSpec prog 31 [.k .i64 n] (.ret (.b (liB n))) := vc_rLimit ⟨_, rin_spec .., rfl⟩
theorem at_bd {a t : Int} (ha : -10800000000 ≤ a ∧ a ≤ 10800000000) (ht : 0 ≤ t ∧ t ≤ 10000) : -108000000000000 ≤ a * t ∧ a * t ≤ 108000000000000 := by
  rcases Int.le_total 0 a with h | h
  · have := mul_bd h ht.1 ha.2 ht.2
    omega
  · have := mul_bd (x := -a) (y := t) (a := 10800000000) (b := 10000) (by omega) ht.1 (by omega) ht.2
    rw [Int.neg_mul] at this
    omega
theorem tdiv_bd {a e b : Int} (ha : -b ≤ a ∧ a ≤ b) (he : 1 ≤ e) : -b ≤ a.tdiv e ∧ a.tdiv e ≤ b := by
  rcases Int.le_total 0 a with h | h
  · rw [tdiv_pos h]
    have := div_bd h he
    omega
  · have e1 : a.tdiv e = -((-a).tdiv e) := by rw [Int.neg_tdiv, Int.neg_neg]
    rw [e1, tdiv_pos (by omega)]
    have := div_bd (show 0 ≤ -a by omega) he
    omega
theorem fits_big {x : Int} (h0 : -9000000000000000000 ≤ x) (h1 : x ≤ 9000000000000000000) : decide (fits .i64 x) = true := decide_eq_true ⟨by omega, by omega⟩
/-- by how many minutes -/
def offV (l : List (Int × Int)) (x y t : Int) : Int := (oA l x y * 21600 * t).tdiv (oE l y)
theorem num_bd {l : List (Int × Int)} {x y t : Int} (h : trB l = true) (hf : isFr x y = true) (ht : tuB t = true) : -2332800000000000000 ≤ oA l x y * 21600 * t ∧ oA l x y * 21600 * t ≤ 2332800000000000000 := by
  obtain ⟨A, E, p, q⟩ := o_bd h hf
  have := at_bd A (isIn_iff.1 ht)
  have e : oA l x y * 21600 * t = oA l x y * t * 21600 := Int.mul_right_comm ..
  omega
theorem Off_no {l : List (Int × Int)} {x y t : Int} (h : (trB l && (isFr x y && tuB t)) = false) : LSpec prog 37 [.sl 2 (prs l), .agg [.k .i64 x, .k .i64 y], .k .i64 t] (.ret (.tup [.k .i64 0, .k .i64 2])) := by
  refine vc_Off ⟨_, isTrain_spec l, brn_intro (fun _ => rfl) fun h1 => ⟨_, isFraction_spec .., brn_intro (fun _ => rfl) fun h2 => ⟨_, isTurn_spec t, brn_intro (fun _ => rfl) fun h3 => ?_⟩⟩⟩
  simp at h1 h2 h3
  simp [h1, h2, h3] at h
theorem Off_yes {l : List (Int × Int)} {x y t : Int} (h1 : trB l = true) (h2 : isFr x y = true) (h3 : tuB t = true) : LSpec prog 37 [.sl 2 (prs l), .agg [.k .i64 x, .k .i64 y], .k .i64 t] (.ret (.tup [.k .i64 (offV l x y t), .k .i64 0])) := by
  obtain ⟨A, E, p, q⟩ := o_bd h1 h2
  have hn := num_bd h1 h2 h3
  have hd := tdiv_bd (b := 2332800000000000000) ⟨hn.1, hn.2⟩ E.1
  exact vc_Off ⟨_, isTrain_spec l, brn_f (by rw [h1]; rfl) ⟨_, isFraction_spec .., brn_f (by rw [h2]; rfl) ⟨_, isTurn_spec t, brn_f (by rw [h3]; rfl) ⟨_, _, wrongBy_spec h1 h2, brn_t (fits_big (by omega) (by omega)) (brn_t (decide_eq_true ⟨by omega, of_decide_eq_true (fits_big (by omega) (by omega))⟩) rfl)⟩⟩⟩⟩
theorem roff_spec {l : List (Int × Int)} {x y t : Int} (h1 : trB l = true) (h2 : isFr x y = true) (h3 : tuB t = true) : LSpec prog 78 [.sl 2 (prs l), .agg [.k .i64 x, .k .i64 y], .k .i64 t] (.ret (.tup [.k .i64 (oA l x y * t * 21600), .k .i64 (oE l y)])) := by
  obtain ⟨A, E, p, q⟩ := o_bd h1 h2
  have A' : -10800000000 ≤ trN l * y - x * trD l ∧ trN l * y - x * trD l ≤ 10800000000 := A
  have E' : 1 ≤ trD l * y ∧ trD l * y ≤ 10800000000 := E
  have := at_bd A' (isIn_iff.1 h3)
  exact vc_roff ⟨_, _, rTurns_spec h1, brn_t (fits_mid (by omega) (by omega)) (brn_t (fits_mid (by omega) (by omega)) (brn_t (fits_mid (by omega) (by omega)) (brn_t (fits_mid (by omega) (by omega)) (brn_t (fits_big (by omega) (by omega)) (brn_t (fits_mid (by omega) (by omega)) rfl)))))⟩
theorem rOff_spec {l : List (Int × Int)} {x y t : Int} (h1 : trB l = true) (h2 : isFr x y = true) (h3 : tuB t = true) : LSpec prog 104 [.sl 2 (prs l), .agg [.k .i64 x, .k .i64 y], .k .i64 t] (.ret (.k .i64 (offV l x y t))) := by
  obtain ⟨A, E, p, q⟩ := o_bd h1 h2
  have hn := num_bd h1 h2 h3
  have e : oA l x y * 21600 * t = oA l x y * t * 21600 := Int.mul_right_comm ..
  have hd := tdiv_bd (b := 2332800000000000000) ⟨hn.1, hn.2⟩ E.1
  have hm := tdiv_bd (a := -(oA l x y * 21600 * t)) (b := 2332800000000000000) ⟨by omega, by omega⟩ E.1
  unfold offV
  rw [e] at hn hd hm ⊢
  refine vc_rOff ⟨_, _, roff_spec h1 h2 h3, brn_intro (fun _ => brn_t (fits_big (by omega) (by omega)) (brn_t (decide_eq_true ⟨by omega, of_decide_eq_true (fits_big (by omega) (by omega))⟩) (brn_t (fits_big (by omega) (by omega)) ?_))) fun _ => brn_t (decide_eq_true ⟨by omega, of_decide_eq_true (fits_big (by omega) (by omega))⟩) rfl⟩
  rw [Int.neg_tdiv, Int.neg_neg]
/-- for how many turns -/
def oM (l : List (Int × Int)) (x y : Int) : Int := max (oA l x y * 21600) (-(oA l x y * 21600))
def lasV (l : List (Int × Int)) (x y lim : Int) : Int := if oM l x y = 0 then 10000 else min 10000 (lim * oE l y / oM l x y)
theorem oM_bd {l : List (Int × Int)} {x y : Int} (h : trB l = true) (hf : isFr x y = true) : 0 ≤ oM l x y ∧ oM l x y ≤ 233280000000000 := by
  obtain ⟨A, E, p, q⟩ := o_bd h hf
  unfold oM
  omega
theorem lim_bd {l : List (Int × Int)} {x y lim : Int} (h : trB l = true) (hf : isFr x y = true) (hl : liB lim = true) : 0 ≤ lim * oE l y ∧ lim * oE l y ≤ 116640000000000 := by
  obtain ⟨A, E, p, q⟩ := o_bd h hf
  obtain ⟨l1, l2⟩ := isIn_iff.1 hl
  exact mul_bd l1 (by omega) l2 E.2
theorem lasV_bd {l : List (Int × Int)} {x y lim : Int} (h : trB l = true) (hf : isFr x y = true) (hl : liB lim = true) : 0 ≤ lasV l x y lim ∧ lasV l x y lim ≤ 10000 := by
  have hm := oM_bd h hf
  have hb := lim_bd h hf hl
  unfold lasV
  split
  · omega
  · have := Int.ediv_nonneg hb.1 hm.1
    omega
theorem lasts_spec {l : List (Int × Int)} {x y lim : Int} (h : trB l = true) (hf : isFr x y = true) (hl : liB lim = true) : LSpec prog 81 [.agg [.k .i64 (oA l x y * 21600), .k .i64 (oE l y)], .k .i64 lim] (.ret (.k .i64 (lasV l x y lim))) := by
  obtain ⟨A, E, p, q⟩ := o_bd h hf
  have hm := oM_bd h hf
  have hb := lim_bd h hf hl
  refine vc_lasts (brn_t (fits_big (by omega) (by omega)) (brn_intro (fun e => ?_) fun e => ?_))
  · have e : oM l x y = 0 := of_decide_eq_true e
    rw [lasV, if_pos e]
  · have e : ¬ oM l x y = 0 := of_decide_eq_false e
    have hd : (lim * oE l y).tdiv (oM l x y) = lim * oE l y / oM l x y := tdiv_pos hb.1
    have hq := div_bd hb.1 (show 1 ≤ oM l x y by omega)
    have hf2 : decide (oM l x y ≠ 0 ∧ fits .i64 ((lim * oE l y).tdiv (oM l x y))) = true := decide_eq_true ⟨e, of_decide_eq_true (fits_big (by omega) (by omega))⟩
    refine brn_t (fits_big (by omega) (by omega)) (brn_t hf2 ?_)
    show D.k .i64 (min 10000 ((lim * oE l y).tdiv (oM l x y))) = _
    rw [lasV, if_neg e, hd]
theorem max_mul {a t : Int} (ht : 0 ≤ t) : max (a * t * 21600) (-(a * t * 21600)) = max (a * 21600) (-(a * 21600)) * t := by
  rcases Int.le_total 0 a with h | h
  · have : 0 ≤ a * t := Int.mul_nonneg h ht
    have e1 : max (a * t * 21600) (-(a * t * 21600)) = a * t * 21600 := by omega
    have e2 : max (a * 21600) (-(a * 21600)) = a * 21600 := by omega
    rw [e1, e2, Int.mul_right_comm]
  · have : 0 ≤ (-a) * t := Int.mul_nonneg (by omega) ht
    rw [Int.neg_mul] at this
    have e1 : max (a * t * 21600) (-(a * t * 21600)) = -(a * t * 21600) := by omega
    have e2 : max (a * 21600) (-(a * 21600)) = -(a * 21600) := by omega
    rw [e1, e2, Int.neg_mul, Int.mul_right_comm]
theorem rwithin_spec {l : List (Int × Int)} {x y lim t : Int} (h1 : trB l = true) (h2 : isFr x y = true) (hl : liB lim = true) (h3 : tuB t = true) : LSpec prog 132 [.sl 2 (prs l), .agg [.k .i64 x, .k .i64 y], .k .i64 lim, .k .i64 t] (.ret (.b (decide (oM l x y * t ≤ lim * oE l y)))) := by
  have hn := num_bd h1 h2 h3
  have hb := lim_bd h1 h2 hl
  have e : oA l x y * 21600 * t = oA l x y * t * 21600 := Int.mul_right_comm ..
  rw [e] at hn
  refine vc_rwithin ⟨_, _, roff_spec h1 h2 h3, brn_t (fits_big (by omega) (by omega)) (brn_t (fits_big (by omega) (by omega)) ?_)⟩
  rw [max_mul (isIn_iff.1 h3).1]
  rfl
theorem las_step {l : List (Int × Int)} {x y lim i : Int} (h : trB l = true) (hf : isFr x y = true) (hl : liB lim = true) (h0 : 0 ≤ i) (h1 : i < 10000) : oM l x y * (i + 1) ≤ lim * oE l y ↔ i + 1 ≤ lasV l x y lim := by
  have hm := oM_bd h hf
  have hb := lim_bd h hf hl
  unfold lasV
  split
  · rename_i e
    rw [e, Int.zero_mul]
    omega
  · rename_i e
    have k := Int.le_ediv_iff_mul_le (a := i + 1) (b := lim * oE l y) (c := oM l x y) (show 0 < oM l x y by omega)
    rw [Int.mul_comm (oM l x y), ← k]
    omega
end Go.Proofs.Tryz
