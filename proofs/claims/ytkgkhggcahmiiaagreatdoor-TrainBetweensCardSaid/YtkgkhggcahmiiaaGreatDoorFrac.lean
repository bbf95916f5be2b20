/- Contracts: fractions. -/
import Derived.Test.YtkgkhggcahmiiaaGreatDoorVf
import Derived.Test.YtkgkhggcahmiiaaGreatDoorBas
namespace Go.Proofs.Tryz
open Go Go.RowKit Go.Lm
set_option maxRecDepth 100000
theorem brn_t {p : Bool} {A B : Prop} (h : p = true) (a : A) : brn p A B := by subst h; exact a
theorem brn_f {p : Bool} {A B : Prop} (h : p = false) (b : B) : brn p A B := by subst h; exact b
theorem b_f {P : Prop} [Decidable P] (h : ¬ P) : D.b false = D.b (decide P) := by rw [decide_eq_false h]
theorem b_p {P Q : Prop} [Decidable P] [Decidable Q] (h : Q ↔ P) : D.b (decide Q) = D.b (decide P) := by rw [decide_eq_decide.2 h]
theorem nd_t {P : Prop} [Decidable P] (h : (!decide P) = true) : ¬ P := by simpa using h
theorem nd_f {P : Prop} [Decidable P] (h : (!decide P) = false) : P := by simpa using h
theorem fits_mid {x : Int} (h0 : -1000000000000000 ≤ x) (h1 : x ≤ 1000000000000000) : decide (fits .i64 x) = true := decide_eq_true ⟨by omega, by omega⟩
theorem mul_bd {x y a b : Int} (hx : 0 ≤ x) (hy : 0 ≤ y) (hxa : x ≤ a) (hyb : y ≤ b) : 0 ≤ x * y ∧ x * y ≤ a * b :=
  ⟨Int.mul_nonneg hx hy, Int.mul_le_mul hxa hyb hy (Int.le_trans hx hxa)⟩
theorem mul_bd5 {x y : Int} (hx : 0 ≤ x) (hy : 0 ≤ y) (hxa : x ≤ 50000) (hyb : y ≤ 50000) : 0 ≤ x * y ∧ x * y ≤ 2500000000 := mul_bd hx hy hxa hyb
def isIn (x l h : Int) : Bool := decide (l ≤ x) && decide (x ≤ h)
def isFr (x y : Int) : Bool := isIn x 0 50000 && isIn y 1 50000
theorem isIn_iff {x l h : Int} : isIn x l h = true ↔ l ≤ x ∧ x ≤ h := by simp [isIn]
theorem isFr_iff {x y : Int} : isFr x y = true ↔ (0 ≤ x ∧ x ≤ 50000) ∧ (1 ≤ y ∧ y ≤ 50000) := by simp [isFr, isIn]
theorem in_spec (x l h : Int) : LSpec prog 53 [.k .i64 x, .k .i64 l, .k .i64 h] (.ret (.b (isIn x l h))) :=
  vc_in (brn_intro (fun e => by rw [isIn, e]; rfl) fun e => by rw [isIn, e]; rfl)
theorem rin_spec (x l h : Int) : LSpec prog 55 [.k .i64 x, .k .i64 l, .k .i64 h] (.ret (.b (isIn x l h))) :=
  vc_rin (brn_intro (fun e => by rw [isIn, e]; rfl) fun e => by rw [isIn, e]; rfl)
theorem isFraction_spec (x y : Int) : LSpec prog 52 [.agg [.k .i64 x, .k .i64 y]] (.ret (.b (isFr x y))) :=
  vc_isFraction ⟨_, in_spec .., brn_intro (fun e => ⟨_, in_spec .., by rw [isFr, e]; rfl⟩) fun e => by rw [isFr, e]; rfl⟩
theorem rFraction_spec (x y : Int) : LSpec prog 14 [.agg [.k .i64 x, .k .i64 y]] (.ret (.b (isFr x y))) :=
  vc_rFraction ⟨_, rin_spec .., brn_intro (fun e => ⟨_, rin_spec .., by rw [isFr, e]; rfl⟩) fun e => by rw [isFr, e]; rfl⟩
theorem rBound_spec (x : Int) : LSpec prog 15 [.k .i64 x] (.ret (.b (isIn x 1 50000))) := vc_rBound ⟨_, rin_spec .., rfl⟩
theorem compare_spec {x y z w : Int} (h1 : isFr x y = true) (h2 : isFr z w = true) : LSpec prog 51 [.agg [.k .i64 x, .k .i64 y], .agg [.k .i64 z, .k .i64 w]] (.ret (.k .i64 (x * w - z * y))) := by
  obtain ⟨⟨a1, a2⟩, a3, a4⟩ := isFr_iff.1 h1
  obtain ⟨⟨b1, b2⟩, b3, b4⟩ := isFr_iff.1 h2
  have p := mul_bd5 a1 (by omega) a2 b4
  have q := mul_bd5 b1 (by omega) b2 a4
  exact vc_compare (brn_t (fits_mid (by omega) (by omega)) (brn_t (fits_mid (by omega) (by omega)) (brn_t (fits_mid (by omega) (by omega)) rfl)))
theorem rBelow_spec {x y z w : Int} (h1 : isFr x y = true) (h2 : isFr z w = true) : LSpec prog 26 [.agg [.k .i64 x, .k .i64 y], .agg [.k .i64 z, .k .i64 w]] (.ret (.b (decide (x * w < z * y)))) := by
  obtain ⟨⟨a1, a2⟩, a3, a4⟩ := isFr_iff.1 h1
  obtain ⟨⟨b1, b2⟩, b3, b4⟩ := isFr_iff.1 h2
  have p := mul_bd5 a1 (by omega) a2 b4
  have q := mul_bd5 b1 (by omega) b2 a4
  exact vc_rBelow (brn_t (fits_mid (by omega) (by omega)) (brn_t (fits_mid (by omega) (by omega)) rfl))
theorem rGcd_spec (a b : Int) (ha : 0 ≤ a) (hb : 0 ≤ b) : LSpec prog 157 [.k .i64 a, .k .i64 b] (.ret (.k .i64 (Int.gcd a b))) := by
  refine spec_of (f := f157) (by kernel_rfl) (by kernel_rfl) (by kernel_rfl) [] noP noHf 1000 fun F hF => ?_
  refine Eq.mpr (β := LeafAt prog f157 F noB 1 { env := [(4, V.d (D.k IntKind.i64 0)), (0, V.d (D.k IntKind.i64 a)), (1, V.d (D.k IntKind.i64 b))], heap := [], fresh := 0, taken := [], dfs := [] }) (by kernel_rfl) ?_
  refine loop_of hF [] noP noHf (rsOf f157) 1000 (fun x : Int × Int => ⟨[(0, .d (.k .i64 x.1)), (1, .d (.k .i64 x.2)), (4, .d (.k .i64 0))], [], 0, [], []⟩) (fun x => 0 ≤ x.1 ∧ 0 ≤ x.2 ∧ Int.gcd x.1 x.2 = Int.gcd a b) (fun x => x.2.toNat) (a, b) [] ⟨ha, hb, rfl⟩ (Wr.of rfl rfl rfl rfl ⟨rfl, rfl, rfl, trivial⟩ trivial) ?_
  rintro ⟨x, y⟩ ⟨hx, hy, hg⟩ B hB
  refine Eq.mpr (β := brn (decide (0 < y)) (brn (decide (y ≠ 0)) (B { env := [(1, V.d (D.k IntKind.i64 (x.tmod y))), (0, V.d (D.k IntKind.i64 y)), (4, V.d (D.k IntKind.i64 0))], heap := [], fresh := 0, taken := [], dfs := [] }) False) (D.k IntKind.i64 x = .k .i64 (Int.gcd a b))) (by kernel_rfl) ?_
  simp only at hx hy hg
  refine brn_intro (fun h => ?_) (fun h => ?_)
  · have h := of_decide_eq_true h
    refine brn_must (decide_eq_true (by omega)) ?_
    refine hB (y, x.tmod y) [] _ ⟨hy, Int.tmod_nonneg _ hx, ?_⟩ ?_ (Wr.of rfl rfl rfl rfl ⟨rfl, rfl, rfl, trivial⟩ trivial)
    · rw [← hg]; exact gcd_step hx h
    · have := Int.tmod_lt_of_pos x h
      have := Int.tmod_nonneg y hx
      simp only
      omega
  · have h := of_decide_eq_false h
    obtain rfl : y = 0 := by omega
    rw [← hg, Int.gcd_zero_right]
    congr 1
    omega
/-- a fraction, reduced -/
def redN (x y : Int) : Int := x / (Int.gcd x y : Int)
theorem tdiv_pos {x g : Int} (hx : 0 ≤ x) : x.tdiv g = x / g := Int.tdiv_eq_ediv_of_nonneg hx
theorem gcd_pos {x y : Int} (hy : 1 ≤ y) : (1 : Int) ≤ (Int.gcd x y : Int) := by
  have := Int.gcd_pos_of_ne_zero_right x (b := y) (by omega)
  omega
theorem div_bd {x g : Int} (hx : 0 ≤ x) (hg : 1 ≤ g) : 0 ≤ x / g ∧ x / g ≤ x := ⟨Int.ediv_nonneg hx (by omega), Int.ediv_le_self _ hx⟩
theorem rReduced_spec {x y : Int} (h : isFr x y = true) : LSpec prog 135 [.agg [.k .i64 x, .k .i64 y]] (.ret (.agg [.k .i64 (x / (Int.gcd x y : Int)), .k .i64 (y / (Int.gcd x y : Int))])) := by
  obtain ⟨⟨a1, a2⟩, a3, a4⟩ := isFr_iff.1 h
  have hg := gcd_pos (x := x) a3
  have hy : 0 ≤ y := by omega
  have b1 := div_bd a1 hg
  have b2 := div_bd hy hg
  refine vc_rReduced ⟨_, rGcd_spec x y a1 hy, ?_⟩
  rw [tdiv_pos a1, tdiv_pos hy]
  exact brn_t (decide_eq_true ⟨by omega, of_decide_eq_true (fits_mid (by omega) (by omega))⟩) (brn_t (decide_eq_true ⟨by omega, of_decide_eq_true (fits_mid (by omega) (by omega))⟩) rfl)
end Go.Proofs.Tryz
