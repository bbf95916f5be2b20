/- prepared: the range over the products. -/
import Derived.Test.YtkgkhggcahmiiaaGreatDoorProdI
import Derived.Test.YtkgkhggcahmiiaaGreatDoorVcB
namespace Go.Proofs.Tryz
open Go Go.RowKit Go.Lm Go.Shelf
attribute [local go_sem] Oper.semAt_some
set_option maxRecDepth 100000
def ints (l : List Int) : List (List D) := l.map fun x => [.k .i64 x]
def bools (l : List Bool) : List (List D) := l.map fun x => [.b x]
def six (a b p d : Int) (nv tr : List (List D)) : List V := [.d (.k .i64 a), .d (.k .i64 b), .d (.k .i64 p), .d (.k .i64 d), .d (.sl 1 nv), .d (.sl 1 tr)]
def marksB (M : Nat) (pre : List Int) : List Bool := (List.range M).map fun (i : Nat) => decide ((i : Int) ∈ pre)
def zer : List V := [.d (.k .i64 0), .d (.k .i64 0), .d (.k .i64 0), .d (.k .i64 0), .d .nil, .d .nil, .d .nil, .d .nil]
def stR (a b p d : Int) (nv tr : List (List D)) (n : Nat) (ni : Int) (M : Nat) (sr mr : List (List D)) (cs : List V) : LS :=
  ⟨[(27, .fn (.func 147) [] [.p 15 0, .p 16 0]), (5, .p 11 0), (16, .d (.k .i64 ni)), (15, .d (.k .i64 (p + 1))), (1, .p 0 0), (2, .p 1 0), (3, .p 2 0)],
   [(15, some (.cells (six a b p d nv tr) 103)), (16, some (.cells [.d (.k .i64 ni)] 3)), (11, some (.cells [.ms 10 0 M] 157)), (10, some (.cells cs 4)), (5, some (.tail 1 1 3)),
    (0, some (.cells (six a b p d nv tr) 103)), (1, some (.cells zer 107)), (2, some (.cells (six a b p d nv tr ++ [.own 3 1 sr, .own 4 1 mr]) 107)), (3, some (.tail n 1 37)), (4, some (.tail n 1 157))], 17, [], [snt]⟩
def stP (a b p d : Int) (nv tr : List (List D)) (n : Nat) (ni : Int) (sr mr mk : List (List D)) : LS :=
  ⟨[(5, .p 11 0), (16, .d (.k .i64 ni)), (15, .d (.k .i64 (p + 1))), (1, .p 0 0), (2, .p 1 0), (3, .p 2 0)],
   [(11, some (.cells [.d (.sl 1 mk)] 157)),
    (0, some (.cells (six a b p d nv tr) 103)), (1, some (.cells zer 107)), (2, some (.cells (six a b p d nv tr ++ [.own 3 1 sr, .own 4 1 mr]) 107)), (3, some (.tail n 1 37)), (4, some (.tail n 1 157))], 17, [], [snt]⟩
theorem rep_p {β : Bt} {fz : Fz} {h o : Nat} {u : Value} (r : RepV β fz (.p h o) u) : ∃ b, u = .pointer (some ⟨b, o, none⟩) ∧ β h = some (.pointer (some ⟨b, 0, none⟩)) := by
  cases r with
  | @p _ _ b hb => exact ⟨b, rfl, hb⟩
theorem rep_fn2 {β : Bt} {fz : Fz} {f : Fn} {h1 h2 : Nat} {u : Value} (r : RepV β fz (.fn f [] [.p h1 0, .p h2 0]) u) :
    ∃ b1 b2, u = .func f #[] #[.pointer (some ⟨b1, 0, none⟩), .pointer (some ⟨b2, 0, none⟩)] ∧ β h1 = some (.pointer (some ⟨b1, 0, none⟩)) ∧ β h2 = some (.pointer (some ⟨b2, 0, none⟩)) := by
  cases r with
  | @fn _ _ _ va vc hla ha hlc hc =>
    have hv : va = #[] := Array.eq_empty_of_size_eq_zero hla
    have h0 : 0 < vc.size := by rw [hlc]; simp
    have h1' : 1 < vc.size := by rw [hlc]; simp
    obtain ⟨b1, e1, k1⟩ := rep_p (hc 0 _ vc[0] rfl (Array.getElem?_eq_getElem h0))
    obtain ⟨b2, e2, k2⟩ := rep_p (hc 1 _ vc[1] rfl (Array.getElem?_eq_getElem h1'))
    refine ⟨b1, b2, ?_, k1, k2⟩
    rw [hv]
    congr 1
    apply Array.ext
    · simpa using hlc
    · intro i q1 q2
      simp at q2
      match i, q2 with
      | 0, _ => simpa using e1
      | 1, _ => simpa using e2
/-- the cells of a slice of whole numbers that nobody changes -/
theorem rep_ints {fz : Fz} {w : World} (hok : FzOk fz w) {l : List Int} {u : Value} (r : RepD fz (.sl 1 (ints l)) u) (bm : Nat) (hbm : ∀ o, fz bm o = none) :
    ∃ A c tb toff, u = .slice A l.length c ∧ tb ≠ bm ∧ ∀ j, j < l.length → A = some ⟨tb, toff, none⟩ ∧ w.cell? ⟨tb, toff + j, none⟩ = some (.int .i64 (l[j]?.getD 0)) := by
  cases r with
  | @sl A n c _ _ v hn hc hm hsz hA ho hu =>
    have hlen : n = l.length := by rw [← hn]; simp [ints]
    subst hlen
    by_cases h0 : 0 < l.length
    · obtain ⟨b, off, rfl, hf⟩ := hA h0
      have get : ∀ j, j < l.length → fz b (off + j) = some (.int .i64 (l[j]?.getD 0)) := fun j hj => by
        have h1 := hf j 0 hj (by decide)
        have h2 := hu j 0 [.k .i64 l[j]] (.k .i64 l[j]) (by simp [ints, hj]) rfl
        have h3 : v j 0 = .int .i64 l[j] := by
          generalize v j 0 = q at h2
          cases h2; rfl
        rw [h3] at h1
        simpa [hj] using h1
      refine ⟨_, c, b, off, rfl, fun e => ?_, fun j hj => ⟨rfl, hok _ _ _ (get j hj)⟩⟩
      have := get 0 h0
      rw [e, hbm] at this
      cases this
    · exact ⟨A, c, bm + 1, 0, rfl, by omega, fun j hj => by omega⟩
theorem list_range {α : Type} (d : α) (l : List α) : l = (List.range l.length).map fun i => l.getD i d := by
  apply List.ext_getElem?
  intro i
  by_cases h : i < l.length
  · simp [h]
  · have : l[i]? = none := by simp; omega
    rw [this, List.getElem?_map, List.getElem?_eq_none (by simp; omega)]
    rfl
theorem arr59 (t : Array Value) (h : t.size = 59) : ∃ u0 u1 u2 u3 u4 u5 u6 u7 u8 u9 u10 u11 u12 u13 u14 u15 u16 u17 u18 u19 u20 u21 u22 u23 u24 u25 u26 u27 u28 u29 u30 u31 u32 u33 u34 u35 u36 u37 u38 u39 u40 u41 u42 u43 u44 u45 u46 u47 u48 u49 u50 u51 u52 u53 u54 u55 u56 u57 u58, t = (List.toArray (u0 :: u1 :: u2 :: u3 :: u4 :: u5 :: u6 :: u7 :: u8 :: u9 :: u10 :: u11 :: u12 :: u13 :: u14 :: u15 :: u16 :: u17 :: u18 :: u19 :: u20 :: u21 :: u22 :: u23 :: u24 :: u25 :: u26 :: u27 :: u28 :: u29 :: u30 :: u31 :: u32 :: u33 :: u34 :: u35 :: u36 :: u37 :: u38 :: u39 :: u40 :: u41 :: u42 :: u43 :: u44 :: u45 :: u46 :: u47 :: u48 :: u49 :: u50 :: u51 :: u52 :: u53 :: u54 :: u55 :: u56 :: u57 :: u58 :: [])) := by
  refine ⟨t.toList.getD 0 undef, t.toList.getD 1 undef, t.toList.getD 2 undef, t.toList.getD 3 undef, t.toList.getD 4 undef, t.toList.getD 5 undef, t.toList.getD 6 undef, t.toList.getD 7 undef, t.toList.getD 8 undef, t.toList.getD 9 undef, t.toList.getD 10 undef, t.toList.getD 11 undef, t.toList.getD 12 undef, t.toList.getD 13 undef, t.toList.getD 14 undef, t.toList.getD 15 undef, t.toList.getD 16 undef, t.toList.getD 17 undef, t.toList.getD 18 undef, t.toList.getD 19 undef, t.toList.getD 20 undef, t.toList.getD 21 undef, t.toList.getD 22 undef, t.toList.getD 23 undef, t.toList.getD 24 undef, t.toList.getD 25 undef, t.toList.getD 26 undef, t.toList.getD 27 undef, t.toList.getD 28 undef, t.toList.getD 29 undef, t.toList.getD 30 undef, t.toList.getD 31 undef, t.toList.getD 32 undef, t.toList.getD 33 undef, t.toList.getD 34 undef, t.toList.getD 35 undef, t.toList.getD 36 undef, t.toList.getD 37 undef, t.toList.getD 38 undef, t.toList.getD 39 undef, t.toList.getD 40 undef, t.toList.getD 41 undef, t.toList.getD 42 undef, t.toList.getD 43 undef, t.toList.getD 44 undef, t.toList.getD 45 undef, t.toList.getD 46 undef, t.toList.getD 47 undef, t.toList.getD 48 undef, t.toList.getD 49 undef, t.toList.getD 50 undef, t.toList.getD 51 undef, t.toList.getD 52 undef, t.toList.getD 53 undef, t.toList.getD 54 undef, t.toList.getD 55 undef, t.toList.getD 56 undef, t.toList.getD 57 undef, t.toList.getD 58 undef, ?_⟩
  have h1 := list_range undef t.toList
  rw [show t.toList.length = 59 from by simpa using h] at h1
  apply Array.ext'
  exact h1
theorem marks_set {M : Nat} {pre : List Int} {x : Int} (h0 : 0 ≤ x) : ((marksB M pre).map fun b => V.d (.b b)).set x.toNat (.d (.b true)) = (marksB M (pre ++ [x])).map fun b => V.d (.b b) := by
  apply List.ext_getElem?
  intro i
  rw [List.getElem?_set]
  simp only [marksB, List.length_map, List.length_range, List.getElem?_map, List.getElem?_range]
  by_cases hi : i < M
  · by_cases e : x.toNat = i
    · subst e
      have : ((x.toNat : Nat) : Int) = x := Int.toNat_of_nonneg h0
      simp [hi, this]
    · have : ¬ ((i : Int) = x) := by omega
      simp [hi, e, this]
  · have hn : (List.range M)[i]? = none := by simp; omega
    by_cases e : x.toNat = i
    · subst e; simp [hi]
    · simp [e, hi]
theorem marks_nil (M : Nat) : (List.replicate M (V.d (.b false))) = (marksB M []).map fun b => V.d (.b b) := by
  apply List.ext_getElem?
  intro i
  by_cases h : i < M
  · simp [marksB, h]
  · rw [List.getElem?_eq_none (by simp; omega), List.getElem?_eq_none (by simp [marksB]; omega)]
/-- what is told of the loop's memory -/
structure Mem (β : Bt) (fz : Fz) (w : World) (a : Act) (bm b11 br bw tb toff : Nat) (A : Option Addr) (c cm om : Nat) (M n : Nat) (teeth : List Int) : Prop where
  t27 : a.tmps[27]? = some (.func (.func 147) #[] #[.pointer (some ⟨br, 0, none⟩), .pointer (some ⟨bw, 0, none⟩)])
  t5 : a.tmps[5]? = some (.pointer (some ⟨b11, 0, none⟩))
  h10 : β 10 = some (.pointer (some ⟨bm, 0, none⟩))
  h11 : β 11 = some (.pointer (some ⟨b11, 0, none⟩))
  ne : b11 ≠ bm
  om : 0 < M → om = 0
  cm : M ≤ cm
  tf : TF w bm br bw tb toff A c teeth n
set_option maxHeartbeats 2000000 in
theorem mem_of {X : Cx} {ap b p d ni : Int} {nv : List (List D)} {n M : Nat} {sr mr : List (List D)} {teeth pre : List Int} {a : Act} {w : World} {β : Bt} {fz : Fz} (hM : 0 < M) (hni : ni = n)
    (r : RelB X (stR ap b p d nv (ints teeth) n ni M sr mr ((marksB M pre).map fun b => V.d (.b b))) a w β fz) :
    ∃ bm b11 br bw tb toff A c cm om, Mem β fz w a bm b11 br bw tb toff A c cm om M n teeth ∧ w.cell? ⟨b11, 0, none⟩ = some (.slice (some ⟨bm, om, none⟩) M cm) ∧ w.frozen? ⟨b11, 0, none⟩ = false := by
  obtain ⟨u27, e27, r27⟩ := r.env 27 _ rfl
  obtain ⟨br, bw, rfl, h15, h16⟩ := rep_fn2 r27
  obtain ⟨u5, e5, r5⟩ := r.env 5 _ rfl
  obtain ⟨b11, rfl, h11⟩ := rep_p r5
  obtain ⟨x10, h10', k10, b10, us10, rfl, g10, m10, f10⟩ := r.hreps 10 _ rfl
  obtain ⟨us11, g11, m11, f11, o11, l11⟩ := cells_of (r.hreps 11 _ rfl) h11
  obtain ⟨us15, g15, m15, f15, o15, l15⟩ := cells_of (r.hreps 15 _ rfl) h15
  obtain ⟨us16, g16, m16, f16, o16, l16⟩ := cells_of (r.hreps 16 _ rfl) h16
  have l10 := (k10 b10 rfl).2
  have i11 : b11 ≠ b10 := fun e => by have := r.inj 11 10 _ _ b10 ⟨_, rfl⟩ ⟨_, rfl⟩ h11 h10' (by rw [e]; rfl) rfl; cases this
  have i15 : br ≠ b10 := fun e => by have := r.inj 15 10 _ _ b10 ⟨_, rfl⟩ ⟨_, rfl⟩ h15 h10' (by rw [e]; rfl) rfl; cases this
  have s11 : us11.size = 1 := m11.1
  have r11 := m11.2 0 _ us11[0] rfl (Array.getElem?_eq_getElem (by omega))
  have s15 : us15.size = 6 := m15.1
  have r15 := m15.2 5 _ us15[5] rfl (Array.getElem?_eq_getElem (by omega))
  have s16 : us16.size = 1 := m16.1
  have r16 := m16.2 0 _ us16[0] rfl (Array.getElem?_eq_getElem (by omega))
  generalize hv11 : us11[0] = v11 at r11
  cases r11 with
  | @ms _ _ _ bm' om cm hb' hn ho =>
    rw [h10'] at hb'
    cases hb'
    cases r15 with
    | d r15 =>
      obtain ⟨A, c, tb, toff, e15, htb, hel⟩ := rep_ints r.ok r15 b10 f10
      refine ⟨b10, b11, br, bw, tb, toff, A, c, cm, om, ⟨e27, e5, h10', h11, i11, ho, hn, ⟨i15, htb, l10, ?_, ?_, hel⟩⟩, ?_, ?_⟩
      · have := r16.int
        simp [World.cell?, g16, s16, this, hni]
      · simp [World.cell?, g15, s15, e15]
      · simp [World.cell?, g11, s11, hv11]
      · simp [World.frozen?, g11]
end Go.Proofs.Tryz
