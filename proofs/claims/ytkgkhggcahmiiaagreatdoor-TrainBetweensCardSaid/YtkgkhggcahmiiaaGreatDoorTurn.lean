/- Contracts: trains, what they turn their hands by. -/
import Derived.Test.YtkgkhggcahmiiaaGreatDoorVt
import Derived.Test.YtkgkhggcahmiiaaGreatDoorFrac
namespace Go.Proofs.Tryz
open Go Go.RowKit Go.Lm
set_option maxRecDepth 100000
def prs (l : List (Int × Int)) : List (List D) := l.map fun p => [.k .i64 p.1, .k .i64 p.2]
theorem prs_length (l : List (Int × Int)) : (prs l).length = l.length := by simp [prs]
def tB (n : Int) : Bool := isIn n 4 60
def trA (l : List (Int × Int)) : Bool := l.all fun p => tB p.1 && tB p.2
def trB (l : List (Int × Int)) : Bool := trA l && isIn l.length 1 3
theorem isTeeth_spec (n : Int) : LSpec prog 113 [.k .i64 n] (.ret (.b (tB n))) := vc_isTeeth ⟨_, in_spec .., rfl⟩
theorem rTeeth_spec (n : Int) : LSpec prog 68 [.k .i64 n] (.ret (.b (tB n))) := vc_rTeeth ⟨_, rin_spec .., rfl⟩
theorem isTrainF_spec (x y : Int) : LSpec prog 130 [.agg [.k .i64 x, .k .i64 y]] (.ret (.b (!(tB x && tB y)))) := by
  refine vc_isTrainF ⟨_, isTeeth_spec x, brn_intro (fun e => ?_) fun e => ⟨_, isTeeth_spec y, ?_⟩⟩
  · have e : tB x = false := by simpa using e
    rw [e]; rfl
  · have e : tB x = true := by simpa using e
    rw [e]; rfl
theorem fits_lit {x : Int} (h : (decide (-9223372036854775808 ≤ x) && decide (x ≤ 9223372036854775807)) = true) : decide (fits .i64 x) = true := by
  simp only [Bool.and_eq_true, decide_eq_true_eq] at h
  exact decide_eq_true ⟨h.1, h.2⟩
theorem idx_spec (l : List (Int × Int)) (h : isIn l.length 1 3 = true) : ∃ r : Int, (decide (0 ≤ r) = !trA l) ∧ LSpec prog 155 [.sl 2 (prs l), .fn (.func 130) [] []] (.ret (.k .i64 r)) := by
  match l, h with
  | [], h => simp [isIn] at h
  | [(a, b)], _ =>
    cases e1 : (tB a && tB b) with
    | false => exact ⟨0, by simp only [trA, List.all_cons, e1]; rfl, vc_idx1 ⟨_, _, ⟨rfl, rfl⟩, _, isTrainF_spec a b, brn_t (by rw [e1]; rfl) rfl⟩⟩
    | true => exact ⟨-1, by simp only [trA, List.all_cons, e1, List.all_nil]; rfl, vc_idx1 ⟨_, _, ⟨rfl, rfl⟩, _, isTrainF_spec a b, brn_f (by rw [e1]; rfl) (brn_t (fits_lit rfl) rfl)⟩⟩
  | [(a, b), (c, d)], _ =>
    cases e1 : (tB a && tB b) with
    | false => exact ⟨0, by simp only [trA, List.all_cons, e1]; rfl, vc_idx2 ⟨_, _, ⟨rfl, rfl⟩, _, isTrainF_spec a b, brn_t (by rw [e1]; rfl) rfl⟩⟩
    | true => cases e2 : (tB c && tB d) with
      | false => exact ⟨0 + 1, by simp only [trA, List.all_cons, e1, e2]; rfl, vc_idx2 ⟨_, _, ⟨rfl, rfl⟩, _, isTrainF_spec a b, brn_f (by rw [e1]; rfl) (brn_t (fits_lit rfl) ⟨_, _, ⟨rfl, rfl⟩, _, isTrainF_spec c d, brn_t (by rw [e2]; rfl) rfl⟩)⟩⟩
      | true => exact ⟨-1, by simp only [trA, List.all_cons, e1, e2, List.all_nil]; rfl, vc_idx2 ⟨_, _, ⟨rfl, rfl⟩, _, isTrainF_spec a b, brn_f (by rw [e1]; rfl) (brn_t (fits_lit rfl) ⟨_, _, ⟨rfl, rfl⟩, _, isTrainF_spec c d, brn_f (by rw [e2]; rfl) (brn_t (fits_lit rfl) rfl)⟩)⟩⟩
  | [(a, b), (c, d), (e, f)], _ =>
    cases e1 : (tB a && tB b) with
    | false => exact ⟨0, by simp only [trA, List.all_cons, e1]; rfl, vc_idx3 ⟨_, _, ⟨rfl, rfl⟩, _, isTrainF_spec a b, brn_t (by rw [e1]; rfl) rfl⟩⟩
    | true => cases e2 : (tB c && tB d) with
      | false => exact ⟨0 + 1, by simp only [trA, List.all_cons, e1, e2]; rfl, vc_idx3 ⟨_, _, ⟨rfl, rfl⟩, _, isTrainF_spec a b, brn_f (by rw [e1]; rfl) (brn_t (fits_lit rfl) ⟨_, _, ⟨rfl, rfl⟩, _, isTrainF_spec c d, brn_t (by rw [e2]; rfl) rfl⟩)⟩⟩
      | true => cases e3 : (tB e && tB f) with
        | false => exact ⟨0 + 1 + 1, by simp only [trA, List.all_cons, e1, e2, e3]; rfl, vc_idx3 ⟨_, _, ⟨rfl, rfl⟩, _, isTrainF_spec a b, brn_f (by rw [e1]; rfl) (brn_t (fits_lit rfl) ⟨_, _, ⟨rfl, rfl⟩, _, isTrainF_spec c d, brn_f (by rw [e2]; rfl) (brn_t (fits_lit rfl) ⟨_, _, ⟨rfl, rfl⟩, _, isTrainF_spec e f, brn_t (by rw [e3]; rfl) rfl⟩)⟩)⟩⟩
        | true => exact ⟨-1, by simp only [trA, List.all_cons, e1, e2, e3, List.all_nil]; rfl, vc_idx3 ⟨_, _, ⟨rfl, rfl⟩, _, isTrainF_spec a b, brn_f (by rw [e1]; rfl) (brn_t (fits_lit rfl) ⟨_, _, ⟨rfl, rfl⟩, _, isTrainF_spec c d, brn_f (by rw [e2]; rfl) (brn_t (fits_lit rfl) ⟨_, _, ⟨rfl, rfl⟩, _, isTrainF_spec e f, brn_f (by rw [e3]; rfl) (brn_t (fits_lit rfl) rfl)⟩)⟩)⟩⟩
  | _ :: _ :: _ :: _ :: _, h => simp [isIn] at h; omega
theorem isTrain_spec (l : List (Int × Int)) : LSpec prog 74 [.sl 2 (prs l)] (.ret (.b (trB l))) := by
  refine vc_isTrain0 ⟨_, in_spec .., brn_intro (fun e => ?_) fun e => ?_⟩
  · rw [prs_length] at e
    obtain ⟨r, hr, h⟩ := idx_spec l e
    exact ⟨_, vc_cont1 ⟨_, h, rfl⟩, by rw [hr, trB, e]; simp⟩
  · rw [prs_length] at e
    rw [trB, e, Bool.and_false]
theorem prs_get {l : List (Int × Int)} {i : Nat} {p : Int × Int} (h : l[i]? = some p) : (prs l)[i]? = some [.k .i64 p.1, .k .i64 p.2] := by simp [prs, h]
theorem trA_snoc (l : List (Int × Int)) (x : Int × Int) : trA (l ++ [x]) = (trA l && (tB x.1 && tB x.2)) := by
  unfold trA
  rw [List.all_append]
  simp only [List.all_cons, List.all_nil, Bool.and_true]
theorem rTrain_spec (l : List (Int × Int)) (hl : l.length ≤ 1000000) : LSpec prog 25 [.sl 2 (prs l)] (.ret (.b (trB l))) := by
  refine spec_of (f := f25) (by kernel_rfl) (by kernel_rfl) (by kernel_rfl) [] noP noHf 1000 fun F hF => ?_
  refine Eq.mpr (β := LeafAt prog f25 F noB 2 { env := [(3, V.d (D.k IntKind.i64 0)), (2, V.d (D.b false)), (0, V.d (D.sl 2 (prs l)))], heap := [], fresh := 0, taken := [], dfs := [] }) (by kernel_rfl) ?_
  refine loop_of hF [] noP noHf (rsOf f25) 1000 (fun i : Int => ⟨[(0, .d (.sl 2 (prs l))), (2, .d (.b false)), (3, .d (.k .i64 i))], [], 0, [], []⟩) (fun i => 0 ≤ i ∧ i ≤ l.length ∧ trA (l.take i.toNat) = true) (fun i => l.length - i.toNat) (0 : Int) [] ⟨by omega, by omega, rfl⟩ (Wr.of rfl rfl rfl rfl ⟨rfl, rfl, rfl, trivial⟩ trivial) ?_
  rintro i ⟨h0, h1, h2⟩ B hB
  refine rd_rTrain (brn_intro (fun e => ?_) fun e => ?_)
  · have e := of_decide_eq_true e
    rw [prs_length] at e ⊢
    have hi : i.toNat < l.length := by omega
    have hg := prs_get (List.getElem?_eq_getElem hi)
    have hall : tB l[i.toNat].1 = false ∨ tB l[i.toNat].2 = false → trB l = false := fun h => by
      have : trA l = false := by
        refine List.all_eq_false.2 ⟨l[i.toNat], List.getElem_mem hi, ?_⟩
        rcases h with h | h <;> simp [h]
      simp [trB, this]
    refine brn_t (decide_eq_true ⟨h0, e⟩) ⟨_, by rw [hg]; rfl, _, rTeeth_spec .., brn_intro (fun k => by rw [hall (.inl (by simpa using k))]) fun k => brn_t (decide_eq_true ⟨h0, e⟩) ⟨_, by rw [hg]; rfl, _, rTeeth_spec .., brn_intro (fun k => by rw [hall (.inr (by simpa using k))]) fun k' => brn_t (fits_mid (by omega) (by omega)) ?_⟩⟩
    refine hB (i + 1) [] _ ⟨by omega, by omega, ?_⟩ (by omega) (Wr.of rfl rfl rfl rfl ⟨rfl, rfl, rfl, trivial⟩ trivial)
    have et : (i + 1).toNat = i.toNat + 1 := by omega
    rw [et, List.take_add_one, List.getElem?_eq_getElem hi]
    have k : tB l[i.toNat].1 = true := by simpa using k
    have k' : tB l[i.toNat].2 = true := by simpa using k'
    show trA (l.take i.toNat ++ [l[i.toNat]]) = true
    rw [trA_snoc, h2, k, k']; rfl
  · have e := of_decide_eq_false e
    rw [prs_length] at e
    have : l.take i.toNat = l := List.take_of_length_le (by omega)
    rw [this] at h2
    exact ⟨_, rin_spec .., by rw [prs_length, trB, h2]; rfl⟩
/-- the products of a train, and what it turns its hand by -/
def prN (l : List (Int × Int)) : Int := l.foldl (fun x p => x * p.1) 1
def prD (l : List (Int × Int)) : Int := l.foldl (fun x p => x * p.2) 1
def trG (l : List (Int × Int)) : Int := (Int.gcd (prN l) (prD l) : Int)
def trN (l : List (Int × Int)) : Int := prN l / trG l
def trD (l : List (Int × Int)) : Int := prD l / trG l
theorem trB_cases {l : List (Int × Int)} (h : trB l = true) : (∃ a b, l = [(a, b)]) ∨ (∃ a b c d, l = [(a, b), (c, d)]) ∨ ∃ a b c d e f, l = [(a, b), (c, d), (e, f)] := by
  simp only [trB, Bool.and_eq_true] at h
  match l, h.2 with
  | [], h => simp [isIn] at h
  | [(a, b)], _ => exact .inl ⟨a, b, rfl⟩
  | [(a, b), (c, d)], _ => exact .inr (.inl ⟨a, b, c, d, rfl⟩)
  | [(a, b), (c, d), (e, f)], _ => exact .inr (.inr ⟨a, b, c, d, e, f, rfl⟩)
  | _ :: _ :: _ :: _ :: _, h => simp [isIn] at h; omega
theorem tB_iff {n : Int} : tB n = true ↔ 4 ≤ n ∧ n ≤ 60 := by simp [tB, isIn]
theorem trA_b1 {a b : Int} (h : trA [(a, b)] = true) : (4 ≤ a ∧ a ≤ 60) ∧ (4 ≤ b ∧ b ≤ 60) := by simpa [trA, tB_iff] using h
theorem trA_b2 {a b c d : Int} (h : trA [(a, b), (c, d)] = true) : ((4 ≤ a ∧ a ≤ 60) ∧ (4 ≤ b ∧ b ≤ 60)) ∧ ((4 ≤ c ∧ c ≤ 60) ∧ (4 ≤ d ∧ d ≤ 60)) := by simpa [trA, tB_iff] using h
theorem trA_b3 {a b c d e f : Int} (h : trA [(a, b), (c, d), (e, f)] = true) : ((4 ≤ a ∧ a ≤ 60) ∧ (4 ≤ b ∧ b ≤ 60)) ∧ ((4 ≤ c ∧ c ≤ 60) ∧ (4 ≤ d ∧ d ≤ 60)) ∧ ((4 ≤ e ∧ e ≤ 60) ∧ (4 ≤ f ∧ f ≤ 60)) := by simpa [trA, tB_iff] using h
theorem m_bd {x y a : Int} (hx : 1 ≤ x ∧ x ≤ a) (hy : 4 ≤ y ∧ y ≤ 60) : 1 ≤ x * y ∧ x * y ≤ a * 60 := by
  have h1 := mul_bd (x := x) (y := y) (a := a) (b := 60) (by omega) (by omega) hx.2 hy.2
  have h2 : 1 * 1 ≤ x * y := Int.mul_le_mul hx.1 (by omega) (by omega) (by omega)
  exact ⟨by omega, h1.2⟩
theorem product1 {a : Int} (ha : 4 ≤ a ∧ a ≤ 60) : LSpec prog 116 [.sl 1 [[.k .i64 a]]] (.ret (.k .i64 (1 * a))) :=
  vc_prod1 ⟨_, rfl, brn_t (fits_mid (by omega) (by omega)) (brn_t (fits_lit rfl) rfl)⟩
theorem product2 {a b : Int} (ha : 4 ≤ a ∧ a ≤ 60) (hb : 4 ≤ b ∧ b ≤ 60) : LSpec prog 116 [.sl 1 [[.k .i64 a], [.k .i64 b]]] (.ret (.k .i64 (1 * a * b))) := by
  have h1 := m_bd (x := 1) ⟨by omega, Int.le_refl _⟩ ha
  have h2 := m_bd h1 hb
  exact vc_prod2 ⟨_, rfl, brn_t (fits_mid (by omega) (by omega)) (brn_t (fits_lit rfl) ⟨_, rfl, brn_t (fits_mid (by omega) (by omega)) (brn_t (fits_lit rfl) rfl)⟩)⟩
theorem product3 {a b c : Int} (ha : 4 ≤ a ∧ a ≤ 60) (hb : 4 ≤ b ∧ b ≤ 60) (hc : 4 ≤ c ∧ c ≤ 60) : LSpec prog 116 [.sl 1 [[.k .i64 a], [.k .i64 b], [.k .i64 c]]] (.ret (.k .i64 (1 * a * b * c))) := by
  have h1 := m_bd (x := 1) ⟨by omega, Int.le_refl _⟩ ha
  have h2 := m_bd h1 hb
  have h3 := m_bd h2 hc
  exact vc_prod3 ⟨_, rfl, brn_t (fits_mid (by omega) (by omega)) (brn_t (fits_lit rfl) ⟨_, rfl, brn_t (fits_mid (by omega) (by omega)) (brn_t (fits_lit rfl) ⟨_, rfl, brn_t (fits_mid (by omega) (by omega)) (brn_t (fits_lit rfl) rfl)⟩)⟩)⟩
theorem reduced_spec {x y : Int} (hx : 0 ≤ x ∧ x ≤ 100000000) (hy : 1 ≤ y ∧ y ≤ 100000000) : LSpec prog 133 [.k .i64 x, .k .i64 y] (.ret (.agg [.k .i64 (x / (Int.gcd x y : Int)), .k .i64 (y / (Int.gcd x y : Int))])) := by
  have hg := gcd_pos (x := x) hy.1
  have b1 := div_bd hx.1 hg
  have b2 := div_bd (show 0 ≤ y by omega) hg
  refine vc_reduced ⟨_, gcd_spec x y hx.1 (by omega), ?_⟩
  rw [tdiv_pos hx.1, tdiv_pos (show 0 ≤ y by omega)]
  exact brn_t (decide_eq_true ⟨by omega, of_decide_eq_true (fits_mid (by omega) (by omega))⟩) (brn_t (decide_eq_true ⟨by omega, of_decide_eq_true (fits_mid (by omega) (by omega))⟩) rfl)
theorem rReduced_big {x y : Int} (hx : 0 ≤ x ∧ x ≤ 100000000) (hy : 1 ≤ y ∧ y ≤ 100000000) : LSpec prog 135 [.agg [.k .i64 x, .k .i64 y]] (.ret (.agg [.k .i64 (x / (Int.gcd x y : Int)), .k .i64 (y / (Int.gcd x y : Int))])) := by
  have hg := gcd_pos (x := x) hy.1
  have b1 := div_bd hx.1 hg
  have b2 := div_bd (show 0 ≤ y by omega) hg
  refine vc_rReduced ⟨_, rGcd_spec x y hx.1 (by omega), ?_⟩
  rw [tdiv_pos hx.1, tdiv_pos (show 0 ≤ y by omega)]
  exact brn_t (decide_eq_true ⟨by omega, of_decide_eq_true (fits_mid (by omega) (by omega))⟩) (brn_t (decide_eq_true ⟨by omega, of_decide_eq_true (fits_mid (by omega) (by omega))⟩) rfl)
theorem one_ok (x : Int) : decide (1 ≤ 10000 ∧ [V.d (D.k IntKind.i64 x)].all oneV = true) = true := decide_eq_true ⟨by omega, rfl⟩
theorem turns_spec {l : List (Int × Int)} (h : trB l = true) : LSpec prog 91 [.sl 2 (prs l)] (.ret (.agg [.k .i64 (trN l), .k .i64 (trD l)])) := by
  have hA : trA l = true := by simp only [trB, Bool.and_eq_true] at h; exact h.1
  rcases trB_cases h with ⟨a, b, rfl⟩ | ⟨a, b, c, d, rfl⟩ | ⟨a, b, c, d, e, f, rfl⟩
  · obtain ⟨ha, hb⟩ := trA_b1 hA
    have key : LSpec prog 91 [.sl 2 [[.k .i64 a, .k .i64 b]]] (.ret (.agg [.k .i64 ((1 * a) / (Int.gcd (1 * a) (1 * b) : Int)), .k .i64 ((1 * b) / (Int.gcd (1 * a) (1 * b) : Int))])) :=
      vc_turns1 ⟨_, _, ⟨rfl, rfl⟩, brn_t (one_ok _) (brn_t (one_ok _) (brn_t (fits_lit rfl) ⟨_, product1 ha, _, product1 hb, _, _, reduced_spec ⟨by omega, by omega⟩ ⟨by omega, by omega⟩, rfl⟩))⟩
    exact key
  · obtain ⟨⟨ha, hb⟩, hc, hd⟩ := trA_b2 hA
    have h1 := m_bd (m_bd (x := 1) ⟨by omega, Int.le_refl _⟩ ha) hc
    have h2 := m_bd (m_bd (x := 1) ⟨by omega, Int.le_refl _⟩ hb) hd
    have key : LSpec prog 91 [.sl 2 [[.k .i64 a, .k .i64 b], [.k .i64 c, .k .i64 d]]] (.ret (.agg [.k .i64 ((1 * a * c) / (Int.gcd (1 * a * c) (1 * b * d) : Int)), .k .i64 ((1 * b * d) / (Int.gcd (1 * a * c) (1 * b * d) : Int))])) :=
      vc_turns2 ⟨_, _, ⟨rfl, rfl⟩, brn_t (one_ok _) (brn_t (one_ok _) (brn_t (fits_lit rfl) ⟨_, _, ⟨rfl, rfl⟩, brn_t (one_ok _) (brn_t (one_ok _) (brn_t (fits_lit rfl) ⟨_, product2 ha hc, _, product2 hb hd, _, _, reduced_spec ⟨by omega, by omega⟩ ⟨by omega, by omega⟩, rfl⟩))⟩))⟩
    exact key
  · obtain ⟨⟨ha, hb⟩, ⟨hc, hd⟩, he, hf⟩ := trA_b3 hA
    have h1 := m_bd (m_bd (m_bd (x := 1) ⟨by omega, Int.le_refl _⟩ ha) hc) he
    have h2 := m_bd (m_bd (m_bd (x := 1) ⟨by omega, Int.le_refl _⟩ hb) hd) hf
    have key : LSpec prog 91 [.sl 2 [[.k .i64 a, .k .i64 b], [.k .i64 c, .k .i64 d], [.k .i64 e, .k .i64 f]]] (.ret (.agg [.k .i64 ((1 * a * c * e) / (Int.gcd (1 * a * c * e) (1 * b * d * f) : Int)), .k .i64 ((1 * b * d * f) / (Int.gcd (1 * a * c * e) (1 * b * d * f) : Int))])) :=
      vc_turns3 ⟨_, _, ⟨rfl, rfl⟩, brn_t (one_ok _) (brn_t (one_ok _) (brn_t (fits_lit rfl) ⟨_, _, ⟨rfl, rfl⟩, brn_t (one_ok _) (brn_t (one_ok _) (brn_t (fits_lit rfl) ⟨_, _, ⟨rfl, rfl⟩, brn_t (one_ok _) (brn_t (one_ok _) (brn_t (fits_lit rfl) ⟨_, product3 ha hc he, _, product3 hb hd hf, _, _, reduced_spec ⟨by omega, by omega⟩ ⟨by omega, by omega⟩, rfl⟩))⟩))⟩))⟩
    exact key
theorem rTurns_spec {l : List (Int × Int)} (h : trB l = true) : LSpec prog 107 [.sl 2 (prs l)] (.ret (.agg [.k .i64 (trN l), .k .i64 (trD l)])) := by
  have hA : trA l = true := by simp only [trB, Bool.and_eq_true] at h; exact h.1
  rcases trB_cases h with ⟨a, b, rfl⟩ | ⟨a, b, c, d, rfl⟩ | ⟨a, b, c, d, e, f, rfl⟩
  · obtain ⟨ha, hb⟩ := trA_b1 hA
    have key : LSpec prog 107 [.sl 2 [[.k .i64 a, .k .i64 b]]] (.ret (.agg [.k .i64 ((1 * a) / (Int.gcd (1 * a) (1 * b) : Int)), .k .i64 ((1 * b) / (Int.gcd (1 * a) (1 * b) : Int))])) :=
      vc_rTurns1 ⟨_, rfl, brn_t (fits_mid (by omega) (by omega)) ⟨_, rfl, brn_t (fits_mid (by omega) (by omega)) (brn_t (fits_lit rfl) ⟨_, _, rReduced_big ⟨by omega, by omega⟩ ⟨by omega, by omega⟩, rfl⟩)⟩⟩
    exact key
  · obtain ⟨⟨ha, hb⟩, hc, hd⟩ := trA_b2 hA
    have h1 := m_bd (m_bd (x := 1) ⟨by omega, Int.le_refl _⟩ ha) hc
    have h2 := m_bd (m_bd (x := 1) ⟨by omega, Int.le_refl _⟩ hb) hd
    have key : LSpec prog 107 [.sl 2 [[.k .i64 a, .k .i64 b], [.k .i64 c, .k .i64 d]]] (.ret (.agg [.k .i64 ((1 * a * c) / (Int.gcd (1 * a * c) (1 * b * d) : Int)), .k .i64 ((1 * b * d) / (Int.gcd (1 * a * c) (1 * b * d) : Int))])) :=
      vc_rTurns2 ⟨_, rfl, brn_t (fits_mid (by omega) (by omega)) ⟨_, rfl, brn_t (fits_mid (by omega) (by omega)) (brn_t (fits_lit rfl) ⟨_, rfl, brn_t (fits_mid (by omega) (by omega)) ⟨_, rfl, brn_t (fits_mid (by omega) (by omega)) (brn_t (fits_lit rfl) ⟨_, _, rReduced_big ⟨by omega, by omega⟩ ⟨by omega, by omega⟩, rfl⟩)⟩⟩)⟩⟩
    exact key
  · obtain ⟨⟨ha, hb⟩, ⟨hc, hd⟩, he, hf⟩ := trA_b3 hA
    have g1 := m_bd (m_bd (x := 1) ⟨by omega, Int.le_refl _⟩ ha) hc
    have g2 := m_bd (m_bd (x := 1) ⟨by omega, Int.le_refl _⟩ hb) hd
    have h1 := m_bd g1 he
    have h2 := m_bd g2 hf
    have key : LSpec prog 107 [.sl 2 [[.k .i64 a, .k .i64 b], [.k .i64 c, .k .i64 d], [.k .i64 e, .k .i64 f]]] (.ret (.agg [.k .i64 ((1 * a * c * e) / (Int.gcd (1 * a * c * e) (1 * b * d * f) : Int)), .k .i64 ((1 * b * d * f) / (Int.gcd (1 * a * c * e) (1 * b * d * f) : Int))])) :=
      vc_rTurns3 ⟨_, rfl, brn_t (fits_mid (by omega) (by omega)) ⟨_, rfl, brn_t (fits_mid (by omega) (by omega)) (brn_t (fits_lit rfl) ⟨_, rfl, brn_t (fits_mid (by omega) (by omega)) ⟨_, rfl, brn_t (fits_mid (by omega) (by omega)) (brn_t (fits_lit rfl) ⟨_, rfl, brn_t (fits_mid (by omega) (by omega)) ⟨_, rfl, brn_t (fits_mid (by omega) (by omega)) (brn_t (fits_lit rfl) ⟨_, _, rReduced_big ⟨by omega, by omega⟩ ⟨by omega, by omega⟩, rfl⟩)⟩⟩)⟩⟩)⟩⟩
    exact key
end Go.Proofs.Tryz
