/- TrainProves: its contract. -/
import Derived.Test.YtnmnccboggljhaaGreatDoorFrac
import Derived.Test.YtnmnccboggljhaaGreatDoorKnH
namespace Go.Proofs.Tryz
open Go Go.RowKit Go.Lm
set_option maxRecDepth 100000
def pvV (x y m z w p q : Int) : Bool := isFr x y && (isIn m 1 50000 && (isFr z w && isFr p q))
def PvP (x y m z w p q : Int) : Prop := ((Int.gcd z w : Int) = 1 ∧ (Int.gcd p q : Int) = 1 ∧ w ≤ m ∧ q ≤ m) ∧ ((z * y = x * w ∧ p * y = x * q) ∨ (z * y < x * w ∧ x * q < p * y ∧ p * w - z * q = 1 ∧ m < w + q))
instance (x y m z w p q : Int) : Decidable (PvP x y m z w p q) := by unfold PvP; infer_instance
theorem tup_f {P : Prop} [Decidable P] (h : ¬ P) : D.tup [D.b false, D.k .i64 0] = D.tup [D.b (decide P), D.k .i64 0] := by rw [decide_eq_false h]
theorem tup_t {P : Prop} [Decidable P] (h : P) : D.tup [D.b true, D.k .i64 0] = D.tup [D.b (decide P), D.k .i64 0] := by rw [decide_eq_true h]
theorem tup_p {P Q : Prop} [Decidable P] [Decidable Q] (h : Q ↔ P) : D.tup [D.b (decide Q), D.k .i64 0] = D.tup [D.b (decide P), D.k .i64 0] := by rw [decide_eq_decide.2 h]
theorem b_f {P : Prop} [Decidable P] (h : ¬ P) : D.b false = D.b (decide P) := by rw [decide_eq_false h]
theorem b_p {P Q : Prop} [Decidable P] [Decidable Q] (h : Q ↔ P) : D.b (decide Q) = D.b (decide P) := by rw [decide_eq_decide.2 h]
theorem nd_t {P : Prop} [Decidable P] (h : (!decide P) = true) : ¬ P := by simpa using h
theorem nd_f {P : Prop} [Decidable P] (h : (!decide P) = false) : P := by simpa using h
theorem Proves_no {x y m z w p q : Int} (h : pvV x y m z w p q = false) : LSpec prog 20 [.agg [.k .i64 x, .k .i64 y], .k .i64 m, .agg [.k .i64 z, .k .i64 w], .agg [.k .i64 p, .k .i64 q]] (.ret (.tup [.b false, .k .i64 2])) := by
  refine vc_Proves ⟨_, isFraction_spec x y, brn_intro (fun _ => rfl) fun h1 => ⟨_, in_spec .., brn_intro (fun _ => rfl) fun h2 => ⟨_, isFraction_spec .., brn_intro (fun _ => rfl) fun h3 => ⟨_, isFraction_spec .., brn_intro (fun _ => rfl) fun h4 => ?_⟩⟩⟩⟩
  simp at h1 h2 h3 h4
  simp [pvV, h1, h2, h3, h4] at h
theorem Proves_yes {x y m z w p q : Int} (h : pvV x y m z w p q = true) : LSpec prog 20 [.agg [.k .i64 x, .k .i64 y], .k .i64 m, .agg [.k .i64 z, .k .i64 w], .agg [.k .i64 p, .k .i64 q]] (.ret (.tup [.b (decide (PvP x y m z w p q)), .k .i64 0])) := by
  simp only [pvV, Bool.and_eq_true] at h
  obtain ⟨h1, h2, h3, h4⟩ := h
  obtain ⟨⟨a1, a2⟩, a3, a4⟩ := isFr_iff.1 h1
  obtain ⟨m1, m2⟩ := isIn_iff.1 h2
  obtain ⟨⟨b1, b2⟩, b3, b4⟩ := isFr_iff.1 h3
  obtain ⟨⟨c1, c2⟩, c3, c4⟩ := isFr_iff.1 h4
  refine vc_Proves ⟨_, isFraction_spec x y, brn_f (by rw [h1]; rfl) ⟨_, in_spec .., brn_f (by rw [h2]; rfl) ⟨_, isFraction_spec .., brn_f (by rw [h3]; rfl) ⟨_, isFraction_spec .., brn_f (by rw [h4]; rfl) ?_⟩⟩⟩⟩
  refine ⟨_, gcd_spec z w b1 (by omega), brn_intro (fun e => tup_f fun k => nd_t e k.1.1) fun e1 => brn_intro (fun e => tup_f fun k => by have := of_decide_eq_true e; have := k.1.2.2.1; omega) fun e2 => brn_t (fits_mid (by omega) (by omega)) ?_⟩
  refine ⟨_, gcd_spec p q c1 (by omega), brn_intro (fun e => tup_f fun k => nd_t e k.1.2.1) fun e3 => brn_intro (fun e => tup_f fun k => by have := of_decide_eq_true e; have := k.1.2.2.2; omega) fun e4 => brn_t (fits_mid (by omega) (by omega)) ?_⟩
  have e1 := nd_f e1
  have e2 := of_decide_eq_false e2
  have e3 := nd_f e3
  have e4 := of_decide_eq_false e4
  have A : PvP x y m z w p q ↔ ((z * y = x * w ∧ p * y = x * q) ∨ (z * y < x * w ∧ x * q < p * y ∧ p * w - z * q = 1 ∧ m < w + q)) := ⟨fun k => k.2, fun k => ⟨⟨e1, e3, by omega, by omega⟩, k⟩⟩
  have B : ¬ (z * y - x * w = 0 ∧ p * y - x * q = 0) → brn (decide (z * y - x * w < 0)) (∃ r, LSpec prog 58 [D.agg [D.k IntKind.i64 p, D.k IntKind.i64 q], D.agg [D.k IntKind.i64 x, D.k IntKind.i64 y]] (LO.ret (D.k IntKind.i64 r)) ∧ brn (decide (0 < r)) (∃ r, LSpec prog 58 [D.agg [D.k IntKind.i64 p, D.k IntKind.i64 q], D.agg [D.k IntKind.i64 z, D.k IntKind.i64 w]] (LO.ret (D.k IntKind.i64 r)) ∧ brn (decide (r = 1)) (brn (decide (fits IntKind.i64 (w + q))) (D.tup [D.b (decide (m < w + q)), D.k IntKind.i64 0] = D.tup [.b (decide (PvP x y m z w p q)), .k .i64 0]) False) (D.tup [D.b false, D.k IntKind.i64 0] = D.tup [.b (decide (PvP x y m z w p q)), .k .i64 0])) (D.tup [D.b false, D.k IntKind.i64 0] = D.tup [.b (decide (PvP x y m z w p q)), .k .i64 0])) (D.tup [D.b false, D.k IntKind.i64 0] = D.tup [.b (decide (PvP x y m z w p q)), .k .i64 0]) := fun hn => by
    refine brn_intro (fun e5 => ⟨_, compare_spec h4 h1, brn_intro (fun e6 => ⟨_, compare_spec h4 h3, brn_intro (fun e7 => brn_t (fits_mid (by omega) (by omega)) (tup_p (Iff.trans ?_ A.symm))) fun e7 => tup_f fun k => ?_⟩) fun e6 => tup_f fun k => ?_⟩) fun e5 => tup_f fun k => ?_
    · have e5 := of_decide_eq_true e5
      have e6 := of_decide_eq_true e6
      have e7 := of_decide_eq_true e7
      omega
    · have k := A.1 k
      have e5 := of_decide_eq_true e5
      have e6 := of_decide_eq_true e6
      have e7 := of_decide_eq_false e7
      omega
    · have k := A.1 k
      have e5 := of_decide_eq_true e5
      have e6 := of_decide_eq_false e6
      omega
    · have k := A.1 k
      have e5 := of_decide_eq_false e5
      omega
  refine ⟨_, compare_spec h3 h1, brn_intro (fun e5 => ⟨_, compare_spec h4 h1, brn_intro (fun e6 => tup_t (A.2 ?_)) fun e6 => ⟨_, compare_spec h3 h1, B ?_⟩⟩) fun e5 => ⟨_, compare_spec h3 h1, B ?_⟩⟩
  · have e5 := of_decide_eq_true e5
    have e6 := of_decide_eq_true e6
    omega
  · have e6 := of_decide_eq_false e6
    omega
  · have e5 := of_decide_eq_false e5
    omega
theorem cop_eq {z w a b : Nat} (h : Nat.Coprime z w) (k : Nat.Coprime a b) (hw : 0 < w) (e : z * b = a * w) : z = a ∧ w = b := by
  have h1 : b ∣ w := k.symm.dvd_of_dvd_mul_left ⟨z, by rw [← e, Nat.mul_comm]⟩
  have h2 : w ∣ b := h.symm.dvd_of_dvd_mul_left ⟨a, by rw [e, Nat.mul_comm]⟩
  obtain rfl := Nat.dvd_antisymm h2 h1
  exact ⟨Nat.eq_of_mul_eq_mul_right hw e, rfl⟩
/-- a fraction in lowest terms that is equal to another one: the other one, reduced -/
theorem red_uniq {x y z w : Int} (hx : 0 ≤ x) (hy : 1 ≤ y) (hz : 0 ≤ z) (hw : 1 ≤ w) (hg : (Int.gcd z w : Int) = 1) : z * y = x * w ↔ z = x / (Int.gcd x y : Int) ∧ w = y / (Int.gcd x y : Int) := by
  obtain ⟨x, rfl⟩ := Int.eq_ofNat_of_zero_le hx
  obtain ⟨y, rfl⟩ := Int.eq_ofNat_of_zero_le (show 0 ≤ y by omega)
  obtain ⟨z, rfl⟩ := Int.eq_ofNat_of_zero_le hz
  obtain ⟨w, rfl⟩ := Int.eq_ofNat_of_zero_le (show 0 ≤ w by omega)
  rw [Int.gcd_natCast_natCast] at hg ⊢
  have hg : Nat.Coprime z w := by show Nat.gcd z w = 1; omega
  have gp : 0 < Nat.gcd x y := Nat.gcd_pos_of_pos_right _ (by omega)
  have ex : Nat.gcd x y * (x / Nat.gcd x y) = x := Nat.mul_div_cancel' (Nat.gcd_dvd_left ..)
  have ey : Nat.gcd x y * (y / Nat.gcd x y) = y := Nat.mul_div_cancel' (Nat.gcd_dvd_right ..)
  have hc : Nat.Coprime (x / Nat.gcd x y) (y / Nat.gcd x y) := Nat.coprime_div_gcd_div_gcd gp
  have key : z * y = x * w ↔ z = x / Nat.gcd x y ∧ w = y / Nat.gcd x y := by
    constructor
    · intro e
      refine cop_eq hg hc (by omega) (Nat.eq_of_mul_eq_mul_left gp ?_)
      rw [Nat.mul_left_comm, ey, ← Nat.mul_assoc, ex, e]
    · rintro ⟨e1, e2⟩
      have : z * (Nat.gcd x y * w) = (Nat.gcd x y * z) * w := by rw [← Nat.mul_assoc, Nat.mul_comm z]
      rw [← e1] at ex
      rw [← e2] at ey
      rw [← ey, this, ex]
  constructor
  · intro e
    have e' : z * y = x * w := by exact_mod_cast e
    obtain ⟨k1, k2⟩ := key.1 e'
    exact ⟨by rw [← Int.natCast_ediv, ← k1], by rw [← Int.natCast_ediv, ← k2]⟩
  · rintro ⟨e1, e2⟩
    rw [← Int.natCast_ediv] at e1 e2
    have := key.2 ⟨Int.ofNat.inj e1, Int.ofNat.inj e2⟩
    exact_mod_cast this
theorem red_self {z w : Int} (hw : 1 ≤ w) : (z / (Int.gcd z w : Int) = z ∧ w / (Int.gcd z w : Int) = w) ↔ (Int.gcd z w : Int) = 1 := by
  constructor
  · rintro ⟨_, h⟩
    have hg := gcd_pos (x := z) hw
    have hd : (Int.gcd z w : Int) ∣ w := Int.gcd_dvd_right ..
    have := Int.ediv_mul_cancel hd
    rw [h] at this
    have h2 : w * (Int.gcd z w : Int) = w * 1 := by rw [this, Int.mul_one]
    exact Int.eq_of_mul_eq_mul_left (by omega) h2
  · intro h
    rw [h, Int.ediv_one, Int.ediv_one]
    exact ⟨rfl, rfl⟩
theorem rProves_spec {x y m z w p q : Int} (h : pvV x y m z w p q = true) : LSpec prog 22 [.agg [.k .i64 x, .k .i64 y], .k .i64 m, .agg [.k .i64 z, .k .i64 w], .agg [.k .i64 p, .k .i64 q]] (.ret (.b (decide (PvP x y m z w p q)))) := by
  simp only [pvV, Bool.and_eq_true] at h
  obtain ⟨h1, h2, h3, h4⟩ := h
  obtain ⟨⟨a1, a2⟩, a3, a4⟩ := isFr_iff.1 h1
  obtain ⟨m1, m2⟩ := isIn_iff.1 h2
  obtain ⟨⟨b1, b2⟩, b3, b4⟩ := isFr_iff.1 h3
  obtain ⟨⟨c1, c2⟩, c3, c4⟩ := isFr_iff.1 h4
  refine vc_rProves ⟨_, _, rReduced_spec h3, brn_intro (fun e => b_f fun k => nd_t e ((red_self b3).2 k.1.1)) fun e1 => ⟨_, _, rReduced_spec h4, brn_intro (fun e => b_f fun k => nd_t e ((red_self c3).2 k.1.2.1)) fun e3 => brn_intro (fun e => b_f fun k => by have := of_decide_eq_true e; have := k.1.2.2.1; omega) fun e2 => brn_intro (fun e => b_f fun k => by have := of_decide_eq_true e; have := k.1.2.2.2; omega) fun e4 => ?_⟩⟩
  have e1 := (red_self b3).1 (nd_f e1)
  have e2 := of_decide_eq_false e2
  have e3 := (red_self c3).1 (nd_f e3)
  have e4 := of_decide_eq_false e4
  have A : PvP x y m z w p q ↔ ((z * y = x * w ∧ p * y = x * q) ∨ (z * y < x * w ∧ x * q < p * y ∧ p * w - z * q = 1 ∧ m < w + q)) := ⟨fun k => k.2, fun k => ⟨⟨e1, e3, by omega, by omega⟩, k⟩⟩
  have u1 := red_uniq a1 a3 b1 b3 e1
  have u2 := red_uniq a1 a3 c1 c3 e3
  have p1 := mul_bd5 c1 (show 0 ≤ w by omega) c2 b4
  have p2 := mul_bd5 b1 (show 0 ≤ q by omega) b2 c4
  refine brn_intro (fun e => ?_) fun e => ⟨_, rBelow_spec h3 h1, brn_intro (fun e5 => ⟨_, rBelow_spec h1 h4, brn_intro (fun e6 => brn_t (fits_mid (by omega) (by omega)) (brn_t (fits_mid (by omega) (by omega)) (brn_t (fits_mid (by omega) (by omega)) (brn_intro (fun e7 => brn_t (fits_mid (by omega) (by omega)) (b_p (Iff.trans ?_ A.symm))) fun e7 => b_f fun k => ?_)))) fun e6 => b_f fun k => ?_⟩) fun e5 => b_f fun k => ?_⟩
  · obtain ⟨rfl, rfl⟩ := of_decide_eq_true e
    refine ⟨_, _, rReduced_spec h1, b_p (Iff.trans u1.symm (Iff.trans ?_ A.symm))⟩
    omega
  all_goals have hne : ¬ (z * y = x * w ∧ p * y = x * q) := fun ⟨k1, k2⟩ => of_decide_eq_false e (by
    obtain ⟨r1, r2⟩ := u1.1 k1
    obtain ⟨r3, r4⟩ := u2.1 k2
    exact ⟨r1.trans r3.symm, r2.trans r4.symm⟩)
  · have e5 := of_decide_eq_true e5
    have e6 := of_decide_eq_true e6
    have e7 := of_decide_eq_true e7
    omega
  · have k := A.1 k
    have e5 := of_decide_eq_true e5
    have e6 := of_decide_eq_true e6
    have e7 := of_decide_eq_false e7
    omega
  · have k := A.1 k
    have e6 := of_decide_eq_false e6
    omega
  · have k := A.1 k
    have e5 := of_decide_eq_false e5
    omega
theorem lawProves_spec (x y m z w p q : Int) (_ : (Lit.int .i64 x).wf = true) (_ : (Lit.int .i64 y).wf = true) (_ : (Lit.int .i64 m).wf = true) (_ : (Lit.int .i64 z).wf = true) (_ : (Lit.int .i64 w).wf = true) (_ : (Lit.int .i64 p).wf = true) (_ : (Lit.int .i64 q).wf = true) :
    LSpec prog 5 [.agg [.k .i64 x, .k .i64 y], .k .i64 m, .agg [.k .i64 z, .k .i64 w], .agg [.k .i64 p, .k .i64 q]] (.ret (.b true)) := by
  cases hv : pvV x y m z w p q with
  | false =>
    refine vc_lProves ⟨_, _, Proves_no hv, _, rFraction_spec .., ?_⟩
    refine brn_intro (fun _ => brn_t rfl (brn_t rfl ⟨_, known_spec, rfl⟩)) fun h1 => ⟨_, rBound_spec .., brn_intro (fun _ => brn_t rfl (brn_t rfl ⟨_, known_spec, rfl⟩)) fun h2 => ⟨_, rFraction_spec .., brn_intro (fun _ => brn_t rfl (brn_t rfl ⟨_, known_spec, rfl⟩)) fun h3 => ⟨_, rFraction_spec .., brn_intro (fun _ => brn_t rfl (brn_t rfl ⟨_, known_spec, rfl⟩)) fun h4 => ?_⟩⟩⟩
    simp at h1 h2 h3 h4
    simp [pvV, h1, h2, h3, h4] at hv
  | true =>
    have h := hv
    simp only [pvV, Bool.and_eq_true] at h
    obtain ⟨h1, h2, h3, h4⟩ := h
    exact vc_lProves ⟨_, _, Proves_yes hv, _, rFraction_spec .., brn_f (by rw [h1]; rfl) ⟨_, rBound_spec .., brn_f (by rw [h2]; rfl) ⟨_, rFraction_spec .., brn_f (by rw [h3]; rfl) ⟨_, rFraction_spec .., brn_f (by rw [h4]; rfl) (brn_t rfl ⟨_, rProves_spec hv, brn_t (by simp) ⟨_, known_spec, rfl⟩⟩)⟩⟩⟩⟩
#print axioms lawProves_spec
end Go.Proofs.Tryz
