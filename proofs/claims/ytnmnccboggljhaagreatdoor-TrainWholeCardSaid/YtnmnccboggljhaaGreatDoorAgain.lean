/- Contracts: after how many turns the wheels of a train have made whole turns. -/
import Derived.Test.YtnmnccboggljhaaGreatDoorTurn
namespace Go.Proofs.Tryz
open Go Go.RowKit Go.Lm
set_option maxRecDepth 100000
def agS (o d : Int) : Int := o.tdiv (Int.gcd o d : Int) * d
theorem agS_spec {o d : Int} (ho : 1 ≤ o) (hd : 1 ≤ d) : o ∣ agS o d ∧ d ∣ agS o d ∧ (∀ m, o ∣ m → d ∣ m → agS o d ∣ m) ∧ 1 ≤ agS o d := by
  obtain ⟨o, rfl⟩ := Int.eq_ofNat_of_zero_le (show 0 ≤ o by omega)
  obtain ⟨d, rfl⟩ := Int.eq_ofNat_of_zero_le (show 0 ≤ d by omega)
  have e : agS (o : Int) (d : Int) = ((Nat.lcm o d : Nat) : Int) := by
    unfold agS
    rw [Int.gcd_natCast_natCast, tdiv_pos (by omega), ← Int.natCast_ediv, ← Int.natCast_mul, Nat.div_mul_right_comm (Nat.gcd_dvd_left o d)]
    rfl
  rw [e]
  refine ⟨Int.ofNat_dvd.2 (Nat.dvd_lcm_left ..), Int.ofNat_dvd.2 (Nat.dvd_lcm_right ..), fun m h1 h2 => ?_, ?_⟩
  · rw [Int.ofNat_dvd_left] at *
    exact Nat.lcm_dvd h1 h2
  · have := Nat.lcm_pos (m := o) (n := d) (by omega) (by omega)
    omega
theorem agS_ok {o d O E : Int} (ho : 1 ≤ o ∧ o ≤ O) (hd : 1 ≤ d ∧ d ≤ E) (hO : O ≤ 100000000) (hB : O * E ≤ 100000000000) :
    decide ((Int.gcd o d : Int) ≠ 0 ∧ fits .i64 (o.tdiv (Int.gcd o d : Int))) = true ∧ decide (fits .i64 (o.tdiv (Int.gcd o d : Int) * d)) = true ∧ 1 ≤ agS o d ∧ agS o d ≤ O * E := by
  have hg := gcd_pos (x := o) hd.1
  have h := tdiv_pos (g := (Int.gcd o d : Int)) (show 0 ≤ o by omega)
  have b := div_bd (show 0 ≤ o by omega) hg
  have hs := agS_spec ho.1 hd.1
  have hm := mul_bd (x := o / (Int.gcd o d : Int)) (y := d) (a := O) (b := E) b.1 (by omega) (by omega) hd.2
  have he : agS o d = o / (Int.gcd o d : Int) * d := by unfold agS; rw [h]
  rw [h]
  exact ⟨decide_eq_true ⟨by omega, of_decide_eq_true (fits_mid (by omega) (by omega))⟩, fits_mid (by omega) (by omega), hs.2.2.2, by omega⟩
theorem tD_bd {l : List (Int × Int)} (h : 1 ≤ prD l) : 1 ≤ trD l ∧ trD l ≤ prD l ∧ trD l ∣ prD l := by
  have hg := gcd_pos (x := prN l) h
  have hd : trG l ∣ prD l := Int.gcd_dvd_right ..
  have e : trG l * trD l = prD l := Int.mul_ediv_cancel' hd
  refine ⟨?_, (div_bd (show 0 ≤ prD l by omega) hg).2, ⟨trG l, by rw [Int.mul_comm]; exact e.symm⟩⟩
  have h0 : 0 ≤ trD l := (div_bd (show 0 ≤ prD l by omega) hg).1
  rcases Int.lt_or_eq_of_le h0 with h1 | h1
  · omega
  · rw [← h1] at e; omega
theorem wh_iff {t N E : Int} (ht : 0 ≤ t) (hN : 0 ≤ N) (hD : 1 ≤ E) : (t * N).tmod E = 0 ↔ E / (Int.gcd N E : Int) ∣ t := by
  obtain ⟨t, rfl⟩ := Int.eq_ofNat_of_zero_le ht
  obtain ⟨N, rfl⟩ := Int.eq_ofNat_of_zero_le hN
  obtain ⟨E, rfl⟩ := Int.eq_ofNat_of_zero_le (show 0 ≤ E by omega)
  rw [← Int.natCast_mul, ← Int.ofNat_tmod, Int.gcd_natCast_natCast, ← Int.natCast_ediv, Int.ofNat_dvd]
  have gp : 0 < Nat.gcd N E := Nat.gcd_pos_of_pos_right _ (by omega)
  have ex : Nat.gcd N E * (N / Nat.gcd N E) = N := Nat.mul_div_cancel' (Nat.gcd_dvd_left ..)
  have ey : Nat.gcd N E * (E / Nat.gcd N E) = E := Nat.mul_div_cancel' (Nat.gcd_dvd_right ..)
  have hc : Nat.Coprime (N / Nat.gcd N E) (E / Nat.gcd N E) := Nat.coprime_div_gcd_div_gcd gp
  have key : E ∣ t * N ↔ E / Nat.gcd N E ∣ t := by
    constructor
    · intro h
      refine hc.symm.dvd_of_dvd_mul_right (Nat.dvd_of_mul_dvd_mul_left gp ?_)
      rw [ey, Nat.mul_left_comm, ex]
      exact h
    · rintro ⟨k, hk⟩
      refine ⟨k * (N / Nat.gcd N E), ?_⟩
      calc t * N = (E / Nat.gcd N E * k) * (Nat.gcd N E * (N / Nat.gcd N E)) := by rw [ex, ← hk]
        _ = (Nat.gcd N E * (E / Nat.gcd N E)) * (k * (N / Nat.gcd N E)) := by simp only [Nat.mul_assoc, Nat.mul_comm, Nat.mul_left_comm]
        _ = _ := by rw [ey]
  rw [← key, Nat.dvd_iff_mod_eq_zero]
  exact ⟨fun h => by omega, fun h => by omega⟩
/-- what is told of a train as defined -/
structure AgOk (l : List (Int × Int)) (n : Int) : Prop where
  again : LSpec prog 14 [.sl 2 (prs l)] (.ret (.tup [.k .i64 n, .k .i64 0]))
  ref : LSpec prog 25 [.sl 2 (prs l)] (.ret (.k .i64 n))
  pos : 1 ≤ n
  le : n ≤ 216000
  whole : LSpec prog 15 [.sl 2 (prs l), .k .i64 n] (.ret (.b true))
  least : ∀ t, 1 ≤ t → t < n → LSpec prog 15 [.sl 2 (prs l), .k .i64 t] (.ret (.b false))
theorem whole1_spec {a b t : Int} (ht : 1 ≤ t ∧ t ≤ 216000) (ha : 4 ≤ a ∧ a ≤ 60) (hb : 4 ≤ b ∧ b ≤ 60) : LSpec prog 15 [.sl 2 [[.k .i64 a, .k .i64 b]], .k .i64 t] (.ret (.b (decide (trD [(a, b)] ∣ t)))) := by
  have w1 : (t * a).tmod (1 * b) = 0 ↔ trD [(a, b)] ∣ t := by
    have := wh_iff (t := t) (N := 1 * a) (E := 1 * b) (by omega) (by omega) (by omega)
    rw [Int.one_mul a] at this
    rw [this]
    show _ ↔ (1 * b) / (Int.gcd (1 * a) (1 * b) : Int) ∣ t
    rw [Int.one_mul a]
  have p1 := mul_bd (x := t) (y := a) (by omega) (by omega) ht.2 ha.2
  refine vc_whole1 ⟨_, rfl, brn_t (fits_mid (by omega) (by omega)) ⟨_, rfl, brn_t (fits_mid (by omega) (by omega)) (brn_t (decide_eq_true (by omega)) (brn_intro (fun e => b_f fun k => nd_t e (w1.2 k)) fun e => brn_t (fits_lit rfl) ?_))⟩⟩
  rw [decide_eq_true (w1.1 (nd_f e))]
theorem whole2_spec {a b c d t : Int} (ht : 1 ≤ t ∧ t ≤ 216000) (ha : 4 ≤ a ∧ a ≤ 60) (hb : 4 ≤ b ∧ b ≤ 60) (hc : 4 ≤ c ∧ c ≤ 60) (hd : 4 ≤ d ∧ d ≤ 60) :
    LSpec prog 15 [.sl 2 [[.k .i64 a, .k .i64 b], [.k .i64 c, .k .i64 d]], .k .i64 t] (.ret (.b (decide (trD [(a, b)] ∣ t ∧ trD [(a, b), (c, d)] ∣ t)))) := by
  have q1 := m_bd (m_bd (x := 1) ⟨by omega, Int.le_refl _⟩ ha) hc
  have q2 := m_bd (m_bd (x := 1) ⟨by omega, Int.le_refl _⟩ hb) hd
  have w1 : (t * a).tmod (1 * b) = 0 ↔ trD [(a, b)] ∣ t := by
    have := wh_iff (t := t) (N := 1 * a) (E := 1 * b) (by omega) (by omega) (by omega)
    rw [← Int.mul_assoc, Int.mul_one] at this
    exact this
  have w2 : (t * a * c).tmod (1 * b * d) = 0 ↔ trD [(a, b), (c, d)] ∣ t := by
    have := wh_iff (t := t) (N := 1 * a * c) (E := 1 * b * d) (by omega) (by omega) (by omega)
    rw [← Int.mul_assoc, ← Int.mul_assoc, Int.mul_one] at this
    exact this
  have p1 := m_bd ht ha
  have p2 := m_bd p1 hc
  refine vc_whole2 ⟨_, rfl, brn_t (fits_mid (by omega) (by omega)) ⟨_, rfl, brn_t (fits_mid (by omega) (by omega)) (brn_t (decide_eq_true (by omega)) (brn_intro (fun e => b_f fun k => nd_t e (w1.2 k.1)) fun e => brn_t (fits_lit rfl) ?_))⟩⟩
  refine ⟨_, rfl, brn_t (fits_mid (by omega) (by omega)) ⟨_, rfl, brn_t (fits_mid (by omega) (by omega)) (brn_t (decide_eq_true (by omega)) (brn_intro (fun e => b_f fun k => nd_t e (w2.2 k.2)) fun e2 => brn_t (fits_lit rfl) ?_))⟩⟩
  rw [decide_eq_true ⟨w1.1 (nd_f e), w2.1 (nd_f e2)⟩]
theorem whole3_spec {a b c d e f t : Int} (ht : 1 ≤ t ∧ t ≤ 216000) (ha : 4 ≤ a ∧ a ≤ 60) (hb : 4 ≤ b ∧ b ≤ 60) (hc : 4 ≤ c ∧ c ≤ 60) (hd : 4 ≤ d ∧ d ≤ 60) (he : 4 ≤ e ∧ e ≤ 60) (hf : 4 ≤ f ∧ f ≤ 60) :
    LSpec prog 15 [.sl 2 [[.k .i64 a, .k .i64 b], [.k .i64 c, .k .i64 d], [.k .i64 e, .k .i64 f]], .k .i64 t] (.ret (.b (decide (trD [(a, b)] ∣ t ∧ trD [(a, b), (c, d)] ∣ t ∧ trD [(a, b), (c, d), (e, f)] ∣ t)))) := by
  have q1 := m_bd (m_bd (x := 1) ⟨by omega, Int.le_refl _⟩ ha) hc
  have q2 := m_bd (m_bd (x := 1) ⟨by omega, Int.le_refl _⟩ hb) hd
  have q3 := m_bd q1 he
  have q4 := m_bd q2 hf
  have w1 : (t * a).tmod (1 * b) = 0 ↔ trD [(a, b)] ∣ t := by
    have := wh_iff (t := t) (N := 1 * a) (E := 1 * b) (by omega) (by omega) (by omega)
    rw [← Int.mul_assoc, Int.mul_one] at this
    exact this
  have w2 : (t * a * c).tmod (1 * b * d) = 0 ↔ trD [(a, b), (c, d)] ∣ t := by
    have := wh_iff (t := t) (N := 1 * a * c) (E := 1 * b * d) (by omega) (by omega) (by omega)
    rw [← Int.mul_assoc, ← Int.mul_assoc, Int.mul_one] at this
    exact this
  have w3 : (t * a * c * e).tmod (1 * b * d * f) = 0 ↔ trD [(a, b), (c, d), (e, f)] ∣ t := by
    have := wh_iff (t := t) (N := 1 * a * c * e) (E := 1 * b * d * f) (by omega) (by omega) (by omega)
    rw [← Int.mul_assoc, ← Int.mul_assoc, ← Int.mul_assoc, Int.mul_one] at this
    exact this
  have p1 := m_bd ht ha
  have p2 := m_bd p1 hc
  have p3 := m_bd p2 he
  refine vc_whole3 ⟨_, rfl, brn_t (fits_mid (by omega) (by omega)) ⟨_, rfl, brn_t (fits_mid (by omega) (by omega)) (brn_t (decide_eq_true (by omega)) (brn_intro (fun e => b_f fun k => nd_t e (w1.2 k.1)) fun e1 => brn_t (fits_lit rfl) ?_))⟩⟩
  refine ⟨_, rfl, brn_t (fits_mid (by omega) (by omega)) ⟨_, rfl, brn_t (fits_mid (by omega) (by omega)) (brn_t (decide_eq_true (by omega)) (brn_intro (fun e => b_f fun k => nd_t e (w2.2 k.2.1)) fun e2 => brn_t (fits_lit rfl) ?_))⟩⟩
  refine ⟨_, rfl, brn_t (fits_mid (by omega) (by omega)) ⟨_, rfl, brn_t (fits_mid (by omega) (by omega)) (brn_t (decide_eq_true (by omega)) (brn_intro (fun e => b_f fun k => nd_t e (w3.2 k.2.2)) fun e3 => brn_t (fits_lit rfl) ?_))⟩⟩
  rw [decide_eq_true ⟨w1.1 (nd_f e1), w2.1 (nd_f e2), w3.1 (nd_f e3)⟩]
theorem again_ok {l : List (Int × Int)} (h : trB l = true) : ∃ n, AgOk l n := by
  have hA : trA l = true := by simp only [trB, Bool.and_eq_true] at h; exact h.1
  have hfit1 := fits_lit (x := 0 + 1) rfl
  rcases trB_cases h with ⟨a, b, rfl⟩ | ⟨a, b, c, d, rfl⟩ | ⟨a, b, c, d, e, f, rfl⟩
  · obtain ⟨ha, hb⟩ := trA_b1 hA
    have t1 := tD_bd (l := [(a, b)]) (show 1 ≤ 1 * b by omega)
    have t1' : trD [(a, b)] ≤ 1 * b := t1.2.1
    obtain ⟨f1, f2, g1, g2⟩ := agS_ok (o := 1) (d := trD [(a, b)]) (O := 1) (E := 60) ⟨by omega, by omega⟩ ⟨t1.1, by omega⟩ (by omega) (by omega)
    obtain ⟨_, s2, s3, _⟩ := agS_spec (o := 1) (d := trD [(a, b)]) (by omega) t1.1
    refine ⟨agS 1 (trD [(a, b)]), ?_, ?_, g1, by omega, ?_, fun t h1 h2 => ?_⟩
    · exact vc_Again1 ⟨_, isTrain_spec [(a, b)], brn_f (by rw [h]; rfl) (brn_t (fits_lit rfl) ⟨_, _, turns_spec h, _, gcd_spec 1 _ (by omega) (by omega), brn_t f1 (brn_t f2 (brn_t (fits_lit rfl) rfl))⟩)⟩
    · exact vc_rAgain1 (brn_t (fits_lit rfl) ⟨_, _, rTurns_spec h, _, rGcd_spec 1 _ (by omega) (by omega), brn_t f1 (brn_t f2 (brn_t (fits_lit rfl) rfl))⟩)
    · have := whole1_spec (t := agS 1 (trD [(a, b)])) ⟨g1, by omega⟩ ha hb
      rw [decide_eq_true s2] at this
      exact this
    · have := whole1_spec (t := t) ⟨h1, by omega⟩ ha hb
      rw [decide_eq_false (fun k => by have := Int.le_of_dvd (by omega) (s3 t (Int.one_dvd t) k); omega)] at this
      exact this
  · have h' : trB [(a, b)] = true := by
      obtain ⟨⟨ha, hb⟩, hc, hd⟩ := trA_b2 hA
      simp [trB, trA, tB_iff, isIn, ha, hb]
    obtain ⟨⟨ha, hb⟩, hc, hd⟩ := trA_b2 hA
    have q2 := m_bd (m_bd (x := 1) ⟨by omega, Int.le_refl _⟩ hb) hd
    have t1 := tD_bd (l := [(a, b)]) (show 1 ≤ 1 * b by omega)
    have t2 := tD_bd (l := [(a, b), (c, d)]) (show 1 ≤ 1 * b * d by omega)
    have t1' : trD [(a, b)] ≤ 1 * b := t1.2.1
    have t2' : trD [(a, b), (c, d)] ≤ 1 * b * d := t2.2.1
    obtain ⟨f1, f2, g1, g2⟩ := agS_ok (o := 1) (d := trD [(a, b)]) (O := 1) (E := 60) ⟨by omega, by omega⟩ ⟨t1.1, by omega⟩ (by omega) (by omega)
    obtain ⟨f3, f4, g3, g4⟩ := agS_ok (o := agS 1 (trD [(a, b)])) (d := trD [(a, b), (c, d)]) (O := 60) (E := 3600) ⟨g1, by omega⟩ ⟨t2.1, by omega⟩ (by omega) (by omega)
    obtain ⟨_, s2, s3, _⟩ := agS_spec (o := 1) (d := trD [(a, b)]) (by omega) t1.1
    obtain ⟨r1, r2, r3, _⟩ := agS_spec (o := agS 1 (trD [(a, b)])) (d := trD [(a, b), (c, d)]) g1 t2.1
    refine ⟨agS (agS 1 (trD [(a, b)])) (trD [(a, b), (c, d)]), ?_, ?_, g3, by omega, ?_, fun t h1 h2 => ?_⟩
    · exact vc_Again2 ⟨_, isTrain_spec [(a, b), (c, d)], brn_f (by rw [h]; rfl) (brn_t (fits_lit rfl) ⟨_, _, turns_spec h', _, gcd_spec 1 _ (by omega) (by omega), brn_t f1 (brn_t f2 (brn_t (fits_lit rfl) (brn_t (fits_lit rfl) ⟨_, _, turns_spec h, _, gcd_spec _ _ (show 0 ≤ agS 1 (trD [(a, b)]) by omega) (by omega), brn_t f3 (brn_t f4 (brn_t (fits_lit rfl) rfl))⟩)))⟩)⟩
    · exact vc_rAgain2 (brn_t (fits_lit rfl) ⟨_, _, rTurns_spec h', _, rGcd_spec 1 _ (by omega) (by omega), brn_t f1 (brn_t f2 (brn_t (fits_lit rfl) (brn_t (fits_lit rfl) ⟨_, _, rTurns_spec h, _, rGcd_spec _ _ (show 0 ≤ agS 1 (trD [(a, b)]) by omega) (by omega), brn_t f3 (brn_t f4 (brn_t (fits_lit rfl) rfl))⟩)))⟩)
    · have := whole2_spec (t := agS (agS 1 (trD [(a, b)])) (trD [(a, b), (c, d)])) ⟨g3, by omega⟩ ha hb hc hd
      rw [decide_eq_true ⟨Int.dvd_trans s2 r1, r2⟩] at this
      exact this
    · have := whole2_spec (t := t) ⟨h1, by omega⟩ ha hb hc hd
      rw [decide_eq_false (fun k => by have := Int.le_of_dvd (by omega) (r3 t (s3 t (Int.one_dvd t) k.1) k.2); omega)] at this
      exact this
  · obtain ⟨⟨ha, hb⟩, ⟨hc, hd⟩, he, hf⟩ := trA_b3 hA
    have h' : trB [(a, b)] = true := by simp [trB, trA, tB_iff, isIn, ha, hb]
    have h'' : trB [(a, b), (c, d)] = true := by simp [trB, trA, tB_iff, isIn, ha, hb, hc, hd]
    have q2 := m_bd (m_bd (x := 1) ⟨by omega, Int.le_refl _⟩ hb) hd
    have q3 := m_bd q2 hf
    have t1 := tD_bd (l := [(a, b)]) (show 1 ≤ 1 * b by omega)
    have t2 := tD_bd (l := [(a, b), (c, d)]) (show 1 ≤ 1 * b * d by omega)
    have t3 := tD_bd (l := [(a, b), (c, d), (e, f)]) (show 1 ≤ 1 * b * d * f by omega)
    have t1' : trD [(a, b)] ≤ 1 * b := t1.2.1
    have t2' : trD [(a, b), (c, d)] ≤ 1 * b * d := t2.2.1
    have t3' : trD [(a, b), (c, d), (e, f)] ≤ 1 * b * d * f := t3.2.1
    obtain ⟨f1, f2, g1, g2⟩ := agS_ok (o := 1) (d := trD [(a, b)]) (O := 1) (E := 60) ⟨by omega, by omega⟩ ⟨t1.1, by omega⟩ (by omega) (by omega)
    obtain ⟨f3, f4, g3, g4⟩ := agS_ok (o := agS 1 (trD [(a, b)])) (d := trD [(a, b), (c, d)]) (O := 60) (E := 3600) ⟨g1, by omega⟩ ⟨t2.1, by omega⟩ (by omega) (by omega)
    obtain ⟨f5, f6, g5, g6⟩ := agS_ok (o := agS (agS 1 (trD [(a, b)])) (trD [(a, b), (c, d)])) (d := trD [(a, b), (c, d), (e, f)]) (O := 216000) (E := 216000) ⟨g3, by omega⟩ ⟨t3.1, by omega⟩ (by omega) (by omega)
    obtain ⟨_, s2, s3, _⟩ := agS_spec (o := 1) (d := trD [(a, b)]) (by omega) t1.1
    obtain ⟨r1, r2, r3, _⟩ := agS_spec (o := agS 1 (trD [(a, b)])) (d := trD [(a, b), (c, d)]) g1 t2.1
    obtain ⟨u1, u2, u3, _⟩ := agS_spec (o := agS (agS 1 (trD [(a, b)])) (trD [(a, b), (c, d)])) (d := trD [(a, b), (c, d), (e, f)]) g3 t3.1
    have v1 : trD [(a, b)] ∣ 1 * b * d * f := Int.dvd_trans t1.2.2 ⟨d * f, by show 1 * b * d * f = 1 * b * (d * f); rw [Int.mul_assoc (1 * b)]⟩
    have v2 : trD [(a, b), (c, d)] ∣ 1 * b * d * f := Int.dvd_trans t2.2.2 ⟨f, rfl⟩
    have hle := Int.le_of_dvd (by omega) (u3 (1 * b * d * f) (r3 _ (s3 _ (Int.one_dvd _) v1) v2) t3.2.2)
    refine ⟨agS (agS (agS 1 (trD [(a, b)])) (trD [(a, b), (c, d)])) (trD [(a, b), (c, d), (e, f)]), ?_, ?_, g5, by omega, ?_, fun t h1 h2 => ?_⟩
    · exact vc_Again3 ⟨_, isTrain_spec [(a, b), (c, d), (e, f)], brn_f (by rw [h]; rfl) (brn_t (fits_lit rfl) ⟨_, _, turns_spec h', _, gcd_spec 1 _ (by omega) (by omega), brn_t f1 (brn_t f2 (brn_t (fits_lit rfl) (brn_t (fits_lit rfl) ⟨_, _, turns_spec h'', _, gcd_spec _ _ (show 0 ≤ agS 1 (trD [(a, b)]) by omega) (by omega), brn_t f3 (brn_t f4 (brn_t (fits_lit rfl) (brn_t (fits_lit rfl) ⟨_, _, turns_spec h, _, gcd_spec _ _ (show 0 ≤ agS (agS 1 (trD [(a, b)])) (trD [(a, b), (c, d)]) by omega) (by omega), brn_t f5 (brn_t f6 (brn_t (fits_lit rfl) rfl))⟩)))⟩)))⟩)⟩
    · exact vc_rAgain3 (brn_t (fits_lit rfl) ⟨_, _, rTurns_spec h', _, rGcd_spec 1 _ (by omega) (by omega), brn_t f1 (brn_t f2 (brn_t (fits_lit rfl) (brn_t (fits_lit rfl) ⟨_, _, rTurns_spec h'', _, rGcd_spec _ _ (show 0 ≤ agS 1 (trD [(a, b)]) by omega) (by omega), brn_t f3 (brn_t f4 (brn_t (fits_lit rfl) (brn_t (fits_lit rfl) ⟨_, _, rTurns_spec h, _, rGcd_spec _ _ (show 0 ≤ agS (agS 1 (trD [(a, b)])) (trD [(a, b), (c, d)]) by omega) (by omega), brn_t f5 (brn_t f6 (brn_t (fits_lit rfl) rfl))⟩)))⟩)))⟩)
    · have := whole3_spec (t := agS (agS (agS 1 (trD [(a, b)])) (trD [(a, b), (c, d)])) (trD [(a, b), (c, d), (e, f)])) ⟨g5, by omega⟩ ha hb hc hd he hf
      rw [decide_eq_true ⟨Int.dvd_trans s2 (Int.dvd_trans r1 u1), Int.dvd_trans r2 u1, u2⟩] at this
      exact this
    · have := whole3_spec (t := t) ⟨h1, by omega⟩ ha hb hc hd he hf
      rw [decide_eq_false (fun k => by have := Int.le_of_dvd (by omega) (u3 t (r3 t (s3 t (Int.one_dvd t) k.1) k.2.1) k.2.2); omega)] at this
      exact this
end Go.Proofs.Tryz
