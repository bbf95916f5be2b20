/- TrainBetweens and TrainNearers: their contracts. -/
import Derived.Test.YtkgkhggcahmiiaaGreatDoorBtw
import Derived.Test.YtkgkhggcahmiiaaGreatDoorVb
import Derived.Test.YtkgkhggcahmiiaaGreatDoorVn
import Derived.Test.YtkgkhggcahmiiaaGreatDoorKnH
namespace Go.Proofs.Tryz
open Go Go.RowKit Go.Lm
set_option maxRecDepth 100000
theorem slimB_spec (n : Int) : LSpec prog 19 [.k .i64 n] (.ret (.b (decide (n ≤ 8)))) := vc_slim rfl
theorem bb_f {p : Bool} (h : (!p) = false) : p = true := by simpa using h
theorem lo_eq {a b : Int} (hb : 1 ≤ b) : (a < 0 → a.tmod b ≠ 0 → a.tdiv b - 1 = a / b) ∧ (a < 0 → a.tmod b = 0 → a.tdiv b = a / b) ∧ (0 ≤ a → a.tdiv b = a / b) := by
  have f := tr_facts (a := a) hb
  have h1 := Int.mul_ediv_add_emod a b
  have h2 := Int.emod_nonneg a (show b ≠ 0 by omega)
  have h3 := Int.emod_lt_of_pos a (show 0 < b by omega)
  have h4 := Int.mul_tdiv_add_tmod a b
  refine ⟨fun h k => ?_, fun h k => ?_, fun h => tdiv_pos h⟩
  · have hn : a.tmod b ≤ 0 := by
      have := Int.tmod_nonneg b (show 0 ≤ -a by omega)
      rw [Int.neg_tmod] at this
      omega
    have : a.tdiv b ≠ a / b := fun e => by rw [e] at h4; omega
    omega
  · apply Decidable.byContradiction
    intro e
    have e' : a.tdiv b = a / b + 1 := by omega
    rw [e', Int.mul_add, Int.mul_one] at h4
    omega
theorem hi_eq {c d : Int} (hd : 1 ≤ d) : (0 < c → c.tmod d ≠ 0 → c.tdiv d + 1 = -((-c) / d)) ∧ (0 < c → c.tmod d = 0 → c.tdiv d = -((-c) / d)) ∧ (c ≤ 0 → c.tdiv d = -((-c) / d)) := by
  obtain ⟨k1, k2, k3⟩ := lo_eq (a := -c) hd
  rw [Int.neg_tdiv, Int.neg_tmod] at *
  refine ⟨fun h k => ?_, fun h k => ?_, fun h => ?_⟩
  · have := k1 (by omega) (by omega); omega
  · have := k2 (by omega) (by omega); omega
  · have := k3 (by omega); omega
theorem rBetween_spec {l : List (Int × Int)} {x y z w t : Int} (h1 : trB l = true) (h2 : isFr x y = true) (h3 : isFr z w = true) (h5 : tuB t = true) : LSpec prog 28 [.sl 2 (prs l), .agg [.k .i64 x, .k .i64 y], .agg [.k .i64 z, .k .i64 w], .k .i64 t] (.ret (.agg [.k .i64 (loV l z w t), .k .i64 (hiV l x y t)])) := by
  obtain ⟨A1, E1, _, _⟩ := o_bd h1 h2
  obtain ⟨A2, E2, _, _⟩ := o_bd h1 h3
  have n1 := num_bd h1 h2 h5
  have n2 := num_bd h1 h3 h5
  have c1 : oA l x y * 21600 * t = oA l x y * t * 21600 := Int.mul_right_comm ..
  have c2 : oA l z w * 21600 * t = oA l z w * t * 21600 := Int.mul_right_comm ..
  have d1 := tdiv_bd (b := 2332800000000000000) ⟨n1.1, n1.2⟩ E1.1
  have d2 := tdiv_bd (b := 2332800000000000000) ⟨n2.1, n2.2⟩ E2.1
  have L := lo_eq (a := oA l z w * 21600 * t) E2.1
  have R := hi_eq (c := oA l x y * 21600 * t) E1.1
  unfold loV hiV
  rw [c1] at n1 d1 R ⊢
  rw [c2] at n2 d2 L ⊢
  have hi : ∀ K : Int, K = oA l z w * t * 21600 / oE l w → brn (decide (0 < oA l x y * t * 21600)) (brn (decide (oE l y ≠ 0)) (brn (!decide ((oA l x y * t * 21600).tmod (oE l y) = 0)) (brn (decide (fits IntKind.i64 ((oA l x y * t * 21600).tdiv (oE l y) + 1))) (D.agg [D.k IntKind.i64 K, D.k IntKind.i64 ((oA l x y * t * 21600).tdiv (oE l y) + 1)] = D.agg [.k .i64 (oA l z w * t * 21600 / oE l w), .k .i64 (-(-(oA l x y * t * 21600) / oE l y))]) False) (D.agg [D.k IntKind.i64 K, D.k IntKind.i64 ((oA l x y * t * 21600).tdiv (oE l y))] = D.agg [.k .i64 (oA l z w * t * 21600 / oE l w), .k .i64 (-(-(oA l x y * t * 21600) / oE l y))])) False) (D.agg [D.k IntKind.i64 K, D.k IntKind.i64 ((oA l x y * t * 21600).tdiv (oE l y))] = D.agg [.k .i64 (oA l z w * t * 21600 / oE l w), .k .i64 (-(-(oA l x y * t * 21600) / oE l y))]) := fun K hK => by
    subst hK
    refine brn_intro (fun e => brn_t (decide_eq_true (by omega)) (brn_intro (fun e2 => brn_t (fits_big (by omega) (by omega)) ?_) fun e2 => ?_)) fun e => ?_
    · rw [R.1 (of_decide_eq_true e) (nd_t e2)]
    · rw [R.2.1 (of_decide_eq_true e) (nd_f e2)]
    · rw [R.2.2 (by have := of_decide_eq_false e; omega)]
  refine vc_rBetween ⟨_, _, roff_spec h1 h3 h5, _, _, roff_spec h1 h2 h5, brn_t (decide_eq_true ⟨by omega, of_decide_eq_true (fits_big (by omega) (by omega))⟩) (brn_t (decide_eq_true ⟨by omega, of_decide_eq_true (fits_big (by omega) (by omega))⟩) ?_)⟩
  exact brn_intro (fun e => brn_t (decide_eq_true (by omega)) (brn_intro (fun e2 => brn_t (fits_big (by omega) (by omega)) (hi _ (L.1 (of_decide_eq_true e) (nd_t e2)))) fun e2 => hi _ (L.2.1 (of_decide_eq_true e) (nd_f e2)))) fun e => hi _ (L.2.2 (by have := of_decide_eq_false e; omega))
theorem lawBetweens_spec (l : List (Int × Int)) (x y z w t : Int) (_ : l.length ≤ 8796093022208 ∧ ∀ p ∈ l, (Lit.int .i64 p.1).wf = true ∧ (Lit.int .i64 p.2).wf = true) (_ : (Lit.int .i64 x).wf = true) (_ : (Lit.int .i64 y).wf = true) (_ : (Lit.int .i64 z).wf = true) (_ : (Lit.int .i64 w).wf = true) (_ : (Lit.int .i64 t).wf = true) :
    LSpec prog 5 [.sl 2 (prs l), .agg [.k .i64 x, .k .i64 y], .agg [.k .i64 z, .k .i64 w], .k .i64 t] (.ret (.b true)) := by
  have kn : ∃ r, LSpec prog 16 [] (LO.ret (D.b r)) ∧ D.b r = D.b true := ⟨_, known_spec, rfl⟩
  refine vc_lBetweens ⟨_, slimB_spec _, brn_intro (fun _ => kn) fun e => ?_⟩
  have e : decide (((prs l).length : Int) ≤ 8) = true := bb_f e
  have hl : l.length ≤ 8 := by have := of_decide_eq_true e; rw [prs_length] at this; omega
  cases hv : pbV l x y z w t with
  | false =>
    refine ⟨_, _, _, Between_no hv, _, rTrain_spec l (by omega), brn_intro (fun _ => brn_t rfl (brn_t rfl kn)) fun h1 => ⟨_, rFraction_spec .., brn_intro (fun _ => brn_t rfl (brn_t rfl kn)) fun h2 => ⟨_, rFraction_spec .., brn_intro (fun _ => brn_t rfl (brn_t rfl kn)) fun h3 => ?_⟩⟩⟩
    have h1 := bb_f h1
    have h2 := bb_f h2
    have h3 := bb_f h3
    refine ⟨_, rBelow_spec h3 h2, brn_intro (fun _ => brn_t rfl (brn_t rfl kn)) fun h4 => ⟨_, rNumber_spec t, brn_intro (fun _ => brn_t rfl (brn_t rfl kn)) fun h5 => ?_⟩⟩
    have h4 := of_decide_eq_false h4
    have h5 := bb_f h5
    have : decide (x * w ≤ z * y) = true := decide_eq_true (by omega)
    simp [pbV, h1, h2, h3, this, h5] at hv
  | true =>
    have h := hv
    simp only [pbV, Bool.and_eq_true] at h
    obtain ⟨h1, h2, h3, h4, h5⟩ := h
    have h4 := of_decide_eq_true h4
    exact ⟨_, _, _, Between_yes hv, _, rTrain_spec l (by omega), brn_f (by rw [h1]; rfl) ⟨_, rFraction_spec .., brn_f (by rw [h2]; rfl) ⟨_, rFraction_spec .., brn_f (by rw [h3]; rfl) ⟨_, rBelow_spec h3 h2, brn_f (decide_eq_false (by omega)) ⟨_, rNumber_spec t, brn_f (by rw [h5]; rfl) (brn_t rfl ⟨_, _, rBetween_spec h1 h2 h3 h5, brn_t (decide_eq_true ⟨rfl, rfl⟩) kn⟩)⟩⟩⟩⟩⟩
/-! ### nearer -/
def sg (n : Int) : Int := if n < 0 then -1 else if 0 < n then 1 else 0
theorem sg_neg (n : Int) : sg (-n) = -sg n := by
  unfold sg
  rcases Int.lt_trichotomy n 0 with h | h | h
  · rw [if_neg (show ¬ -n < 0 by omega), if_pos (show 0 < -n by omega), if_pos h]; rfl
  · subst h; rfl
  · rw [if_pos (show -n < 0 by omega), if_neg (show ¬ n < 0 by omega), if_pos h]
theorem isNaN_spec (x : Int) : LSpec prog 131 [.k .i64 x] (.ret (.b false)) := vc_isNaN (by simp)
theorem cmp_spec (x : Int) : LSpec prog 86 [.k .i64 x, .k .i64 0] (.ret (.k .i64 (sg x))) :=
  vc_cmpI ⟨_, isNaN_spec x, _, isNaN_spec 0, brn_f rfl (brn_f rfl (brn_intro (fun e => by rw [sg, if_pos (of_decide_eq_true e)]) fun e => brn_intro (fun e2 => by rw [sg, if_neg (of_decide_eq_false e), if_pos (of_decide_eq_true e2)]) fun e2 => by rw [sg, if_neg (of_decide_eq_false e), if_neg (of_decide_eq_false e2)]))⟩
def abA (l : List (Int × Int)) (x y : Int) : Int := max (oA l x y) (-(oA l x y))
theorem abA_bd {l : List (Int × Int)} {x y : Int} (h : trB l = true) (hf : isFr x y = true) : 0 ≤ abA l x y ∧ abA l x y ≤ 10800000000 := by
  obtain ⟨A, _, _, _⟩ := o_bd h hf
  unfold abA
  omega
theorem distance_spec {l : List (Int × Int)} {x y : Int} (h : trB l = true) (hf : isFr x y = true) : LSpec prog 106 [.agg [.k .i64 (trN l), .k .i64 (trD l)], .agg [.k .i64 x, .k .i64 y]] (.ret (.agg [.k .i64 (abA l x y), .k .i64 (trD l)])) := by
  obtain ⟨A, _, p, q⟩ := o_bd h hf
  have A' : -10800000000 ≤ trN l * y - x * trD l ∧ trN l * y - x * trD l ≤ 10800000000 := A
  exact vc_distance ⟨_, compare_big ⟨p.1, by omega⟩ ⟨q.1, by omega⟩, brn_t (fits_mid (by omega) (by omega)) rfl⟩
theorem compare_huge {x y z w : Int} (h1 : (0 ≤ x * w ∧ x * w ≤ 4000000000000000000)) (h2 : (0 ≤ z * y ∧ z * y ≤ 4000000000000000000)) : LSpec prog 51 [.agg [.k .i64 x, .k .i64 y], .agg [.k .i64 z, .k .i64 w]] (.ret (.k .i64 (x * w - z * y))) :=
  vc_compare (brn_t (fits_big (by omega) (by omega)) (brn_t (fits_big (by omega) (by omega)) (brn_t (fits_big (by omega) (by omega)) rfl)))
def nearV (x y : Int) (l m : List (Int × Int)) : Int := sg (abA l x y * trD m - abA m x y * trD l)
theorem near_bd {l m : List (Int × Int)} {x y : Int} (h : trB l = true) (hm : trB m = true) (hf : isFr x y = true) : 0 ≤ abA l x y * trD m ∧ abA l x y * trD m ≤ 2332800000000000 := by
  have a := abA_bd h hf
  obtain ⟨_, d1, d2⟩ := trN_bd hm
  exact mul_bd a.1 (by omega) a.2 d2
theorem Nearer_no {x y : Int} {l m : List (Int × Int)} (h : (isFr x y && (trB l && trB m)) = false) : LSpec prog 49 [.agg [.k .i64 x, .k .i64 y], .sl 2 (prs l), .sl 2 (prs m)] (.ret (.tup [.k .i64 0, .k .i64 2])) := by
  refine vc_Nearer ⟨_, isFraction_spec .., brn_intro (fun _ => rfl) fun h1 => ⟨_, isTrain_spec l, brn_intro (fun _ => rfl) fun h2 => ⟨_, isTrain_spec m, brn_intro (fun _ => rfl) fun h3 => ?_⟩⟩⟩
  have h1 := bb_f h1
  have h2 := bb_f h2
  have h3 := bb_f h3
  simp [h1, h2, h3] at h
theorem Nearer_yes {x y : Int} {l m : List (Int × Int)} (h1 : isFr x y = true) (h2 : trB l = true) (h3 : trB m = true) : LSpec prog 49 [.agg [.k .i64 x, .k .i64 y], .sl 2 (prs l), .sl 2 (prs m)] (.ret (.tup [.k .i64 (nearV x y l m), .k .i64 0])) := by
  have b1 := near_bd h2 h3 h1
  have b2 := near_bd h3 h2 h1
  exact vc_Nearer ⟨_, isFraction_spec .., brn_f (by rw [h1]; rfl) ⟨_, isTrain_spec l, brn_f (by rw [h2]; rfl) ⟨_, isTrain_spec m, brn_f (by rw [h3]; rfl) ⟨_, _, turns_spec h2, _, _, distance_spec h2 h1, _, _, turns_spec h3, _, _, distance_spec h3 h1, _, compare_huge ⟨b1.1, by omega⟩ ⟨b2.1, by omega⟩, _, cmp_spec _, rfl⟩⟩⟩⟩
theorem raway_spec {l : List (Int × Int)} {x y : Int} (h : trB l = true) (hf : isFr x y = true) : LSpec prog 63 [.agg [.k .i64 x, .k .i64 y], .agg [.k .i64 (trN l), .k .i64 (trD l)]] (.ret (.k .i64 (abA l x y))) := by
  obtain ⟨A, _, p, q⟩ := o_bd h hf
  have e : abA l x y = max (trN l * y - x * trD l) (x * trD l - trN l * y) := by unfold abA oA; omega
  rw [e]
  exact vc_raway (brn_t (fits_mid (by omega) (by omega)) (brn_t (fits_mid (by omega) (by omega)) (brn_t (fits_mid (by omega) (by omega)) (brn_t (fits_mid (by omega) (by omega)) (brn_t (fits_mid (by omega) (by omega)) (brn_t (fits_mid (by omega) (by omega)) rfl))))))
theorem rNearer_spec {x y : Int} {l m : List (Int × Int)} (h1 : isFr x y = true) (h2 : trB l = true) (h3 : trB m = true) : LSpec prog 50 [.agg [.k .i64 x, .k .i64 y], .sl 2 (prs l), .sl 2 (prs m)] (.ret (.k .i64 (nearV x y l m))) := by
  have b1 := near_bd h2 h3 h1
  have b2 := near_bd h3 h2 h1
  refine vc_rNearer ⟨_, _, rTurns_spec h2, _, _, rTurns_spec h3, _, raway_spec h2 h1, brn_t (fits_big (by omega) (by omega)) ⟨_, raway_spec h3 h1, brn_t (fits_big (by omega) (by omega)) (brn_intro (fun e => ?_) fun e => brn_intro (fun e2 => ?_) fun e2 => ?_)⟩⟩
  · have e := of_decide_eq_true e
    rw [nearV, sg, if_pos (by omega)]
  · have e := of_decide_eq_false e
    have e2 := of_decide_eq_true e2
    rw [nearV, sg, if_neg (by omega), if_pos (by omega)]
  · have e := of_decide_eq_false e
    have e2 := of_decide_eq_false e2
    rw [nearV, sg, if_neg (by omega), if_neg (by omega)]
theorem nearV_bd (x y : Int) (l m : List (Int × Int)) : (-1 ≤ nearV x y l m ∧ nearV x y l m ≤ 1) ∧ nearV x y m l = -nearV x y l m := by
  unfold nearV sg
  constructor
  · split
    · omega
    · split <;> omega
  · have := sg_neg (abA l x y * trD m - abA m x y * trD l)
    unfold sg at this
    rw [Int.neg_sub] at this
    exact this
theorem lawNearers_spec (x y : Int) (l m : List (Int × Int)) (_ : (Lit.int .i64 x).wf = true) (_ : (Lit.int .i64 y).wf = true) (_ : l.length ≤ 8796093022208 ∧ ∀ p ∈ l, (Lit.int .i64 p.1).wf = true ∧ (Lit.int .i64 p.2).wf = true) (_ : m.length ≤ 8796093022208 ∧ ∀ p ∈ m, (Lit.int .i64 p.1).wf = true ∧ (Lit.int .i64 p.2).wf = true) :
    LSpec prog 11 [.agg [.k .i64 x, .k .i64 y], .sl 2 (prs l), .sl 2 (prs m)] (.ret (.b true)) := by
  have kn : ∃ r, LSpec prog 16 [] (LO.ret (D.b r)) ∧ D.b r = D.b true := ⟨_, known_spec, rfl⟩
  refine vc_lNearers ⟨_, slimB_spec _, brn_intro (fun _ => kn) fun e => ⟨_, slimB_spec _, brn_intro (fun _ => kn) fun e2 => ?_⟩⟩
  have e : decide (((prs l).length : Int) ≤ 8) = true := bb_f e
  have hl : l.length ≤ 8 := by have := of_decide_eq_true e; rw [prs_length] at this; omega
  have e2 : decide (((prs m).length : Int) ≤ 8) = true := bb_f e2
  have hm : m.length ≤ 8 := by have := of_decide_eq_true e2; rw [prs_length] at this; omega
  cases hv : (isFr x y && (trB l && trB m)) with
  | false =>
    have hv2 : (isFr x y && (trB m && trB l)) = false := by rw [Bool.and_comm (trB m)]; exact hv
    have kk : brn (decide ((2 : Int) = 2)) (brn (decide ((0 : Int) = 0)) (brn (decide ((2 : Int) = 2)) (brn (decide ((0 : Int) = 0)) (∃ r, LSpec prog 16 [] (LO.ret (D.b r)) ∧ D.b r = D.b true) (D.b false = D.b true)) (D.b false = D.b true)) (D.b false = D.b true)) (D.b false = D.b true) := brn_t rfl (brn_t rfl (brn_t rfl (brn_t rfl kn)))
    refine ⟨_, _, Nearer_no hv, _, _, Nearer_no hv2, _, rFraction_spec .., brn_intro (fun _ => kk) fun h1 => ⟨_, rTrain_spec l (by omega), brn_intro (fun _ => kk) fun h2 => ⟨_, rTrain_spec m (by omega), brn_intro (fun _ => kk) fun h3 => ?_⟩⟩⟩
    have h1 := bb_f h1
    have h2 := bb_f h2
    have h3 := bb_f h3
    simp [h1, h2, h3] at hv
  | true =>
    have h := hv
    simp only [Bool.and_eq_true] at h
    obtain ⟨h1, h2, h3⟩ := h
    have nb := nearV_bd x y l m
    exact ⟨_, _, Nearer_yes h1 h2 h3, _, _, Nearer_yes h1 h3 h2, _, rFraction_spec .., brn_f (by rw [h1]; rfl) ⟨_, rTrain_spec l (by omega), brn_f (by rw [h2]; rfl) ⟨_, rTrain_spec m (by omega), brn_f (by rw [h3]; rfl) (brn_t rfl ⟨_, rNearer_spec h1 h2 h3, brn_t (decide_eq_true rfl) (brn_t rfl (brn_t (fits_big (by omega) (by omega)) (brn_t (decide_eq_true nb.2) kn)))⟩)⟩⟩⟩
#print axioms lawBetweens_spec
#print axioms lawNearers_spec
end Go.Proofs.Tryz
