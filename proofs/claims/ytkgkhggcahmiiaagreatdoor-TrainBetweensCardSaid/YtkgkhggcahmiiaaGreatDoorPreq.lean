/- prepared: the range over the products, carried out. -/
import Derived.Test.YtkgkhggcahmiiaaGreatDoorPrep
namespace Go.Proofs.Tryz
open Go Go.RowKit Go.Lm Go.Shelf
attribute [local go_sem] Oper.semAt_some
set_option maxRecDepth 100000
theorem stR_live {ap b p d ni : Int} {nv tr : List (List D)} {n M : Nat} {sr mr : List (List D)} {cs cs' : List V} {h : Nat} {blk : Blk} (e : (stR ap b p d nv tr n ni M sr mr cs).blk h = some blk) : ∃ blk', (stR ap b p d nv tr n ni M sr mr cs').blk h = some blk' := by
  simp only [stR, LS.blk, lk] at e ⊢
  repeat' split at e
  all_goals first
    | (cases e; done)
    | simp_all
theorem stR_upd {ap b p d ni : Int} {nv tr : List (List D)} {n M : Nat} {sr mr : List (List D)} {cs cs' : List V} : Eqv ((stR ap b p d nv tr n ni M sr mr cs).upd 10 (.cells cs' 4)) (stR ap b p d nv tr n ni M sr mr cs') := by
  refine ⟨fun _ => rfl, fun h => ?_, fun h => Iff.rfl, rfl⟩
  simp only [stR, LS.upd, LS.blk, lk]
  by_cases e : h = 10
  · subst e; simp
  · simp [e]
theorem stP_wk {ap b p d ni : Int} {nv tr : List (List D)} {n M : Nat} {sr mr mk : List (List D)} {cs : List V} : Wk (((stR ap b p d nv tr n ni M sr mr cs).drop 10).upd 11 (.cells [.d (.sl 1 mk)] 157)) (stP ap b p d nv tr n ni sr mr mk) where
  env := fun t v e => by
    simp only [stP, stR, LS.drop, LS.upd, lk] at e ⊢
    repeat' split at e
    all_goals first
      | (cases e; done)
      | simp_all
  blk := fun h blk e => by
    simp only [stP, stR, LS.drop, LS.upd, LS.blk, lk] at e ⊢
    repeat' split at e
    all_goals first
      | (cases e; done)
      | simp_all
  free := fun h e => e
  dfs := rfl
def vals {M : Int} (l : List (UpTo M)) : List Int := l.map (·.1)
set_option maxHeartbeats 4000000 in
theorem range_leaf {F : Fx → LS → Prop} {Bs : Nat → LS → Prop} {ap b p d ni : Int} {nv : List (List D)} {n M : Nat} {sr mr : List (List D)} {teeth : List Int} (hn : n ≤ 3) (hl : teeth.length ≤ 1000) (ht : ∀ j : Nat, 0 ≤ teeth[j]?.getD 0 ∧ teeth[j]?.getD 0 ≤ 60) (hM : M = 60 ^ n + 1) (hni : ni = n)
    (h : gx ⟨prog, f65.ntmps, 0, xo prog, F⟩ (rgAt f65 Bs 7).2 (stP ap b p d nv (ints teeth) n ni sr mr (bools (marksB M (ps teeth n 0 1))))) : RangeAt prog f65 F Bs 7 (stR ap b p d nv (ints teeth) n ni M sr mr (List.replicate M (V.d (.b false)))) := by
  have hpos : 0 < M := by rw [hM]; exact Nat.succ_pos _
  rw [marks_nil]
  show Leaf _ _ _ _
  intro X hP hnt hn0 a w ⟨β, fz, r⟩
  obtain ⟨bm, b11, br, bw, tb, toff, A, c, cm, om, mem, c11, z11⟩ := mem_of hpos hni r
  have hc : (rgAt f65 Bs 7).1 = .rangeFunc (.tmp 27) #[28] (.region 7 #[{ dst := some 6, op := .assign (.tmp 28), type := 3, pos := "train.go:168", after := #[], guard := none }] false)
      (.block 3 (.region 8 #[{ dst := some 29, op := .load 157 (.tmp 5), type := 157, pos := "train.go:169", after := #[], guard := none }, { dst := some 30, op := .move (.tmp 6), type := 3, pos := "train.go:169", after := #[], guard := none }, { dst := some 31, op := .indexAddr 157 (.tmp 29) (.tmp 30), type := 0, pos := "train.go:169", after := #[{ on := 0, ground := .data }, { on := 1, ground := .data }, { on := 0, ground := .phase }, { on := 1, ground := .phase }], guard := none }, { dst := none, op := .store 4 (.tmp 31) (.const (.bool true)), type := 0, pos := "train.go:169", after := #[{ on := 2, ground := .data }, { on := 0, ground := .phase }, { on := 1, ground := .phase }], guard := none }] false)) := by kernel_rfl
  rw [hc, hP]
  have hsz : a.tmps.size = 59 := r.nt.trans hnt
  obtain ⟨T, ds⟩ := a
  obtain ⟨u0, u1, u2, u3, u4, u5, u6, u7, u8, u9, u10, u11, u12, u13, u14, u15, u16, u17, u18, u19, u20, u21, u22, u23, u24, u25, u26, u27, u28, u29, u30, u31, u32, u33, u34, u35, u36, u37, u38, u39, u40, u41, u42, u43, u44, u45, u46, u47, u48, u49, u50, u51, u52, u53, u54, u55, u56, u57, u58, hT⟩ := arr59 T hsz
  subst hT
  obtain rfl : u27 = _ := by simpa using mem.t27
  obtain rfl : u5 = _ := by simpa using mem.t5
  refine (wpIn_wide (n := 1)).1 ?_
  have hin : ∀ x : UpTo (60 ^ n), x.1.toNat < M := fun x => by
    have := x.2
    have e : ((60 ^ n : Nat) : Int) = (60 : Int) ^ n := by simp
    omega
  refine wpIn_rangeFunc_ownF (F := Fence.wide) (n := 1) rfl (Nat.le_refl 1) (gf := 147) (lb := #[.pointer (some ⟨br, 0, none⟩), .pointer (some ⟨bw, 0, none⟩)]) rfl trivial ((tabOk.fn _ _ (show lk tab 147 = some f147 by kernel_rfl)).2) (encs := fun x : UpTo (60 ^ n) => #[.int .i64 x.1])
    (products_stops 0 bm br bw tb toff A c teeth n hn hl ht w mem.tf) (fun h k => h.trans k) ?kb (Below.refl _ _) (fun _ => rfl)
    (fun pre W => RelB X (stR ap b p d nv (ints teeth) n ni M sr mr ((marksB M (vals pre)).map fun b => V.d (.b b))) ⟨(List.toArray (u0 :: u1 :: u2 :: u3 :: u4 :: (.pointer (some ⟨b11, 0, none⟩)) :: u6 :: u7 :: u8 :: u9 :: u10 :: u11 :: u12 :: u13 :: u14 :: u15 :: u16 :: u17 :: u18 :: u19 :: u20 :: u21 :: u22 :: u23 :: u24 :: u25 :: u26 :: (.func (.func 147) #[] #[.pointer (some ⟨br, 0, none⟩), .pointer (some ⟨bw, 0, none⟩)]) :: u28 :: u29 :: u30 :: u31 :: u32 :: u33 :: u34 :: u35 :: u36 :: u37 :: u38 :: u39 :: u40 :: u41 :: u42 :: u43 :: u44 :: u45 :: u46 :: u47 :: u48 :: u49 :: u50 :: u51 :: u52 :: u53 :: u54 :: u55 :: u56 :: u57 :: u58 :: [])), ds⟩ W β fz ∧ w.heap.size ≤ W.heap.size)
    (fun _ _ _ => False) ?hI (fun _ _ _ _ _ h _ _ => h) ⟨r, Nat.le_refl _⟩
    (fun x => { tmps := (List.toArray (u0 :: u1 :: u2 :: u3 :: u4 :: (.pointer (some ⟨b11, 0, none⟩)) :: (.int .i64 x.1) :: u7 :: u8 :: u9 :: u10 :: u11 :: u12 :: u13 :: u14 :: u15 :: u16 :: u17 :: u18 :: u19 :: u20 :: u21 :: u22 :: u23 :: u24 :: u25 :: u26 :: (.func (.func 147) #[] #[.pointer (some ⟨br, 0, none⟩), .pointer (some ⟨bw, 0, none⟩)]) :: (.int .i64 x.1) :: u29 :: u30 :: u31 :: u32 :: u33 :: u34 :: u35 :: u36 :: u37 :: u38 :: u39 :: u40 :: u41 :: u42 :: u43 :: u44 :: u45 :: u46 :: u47 :: u48 :: u49 :: u50 :: u51 :: u52 :: u53 :: u54 :: u55 :: u56 :: u57 :: u58 :: [])), defers := [] }) ?assign ?body ?done ?stop
  case kb =>
    intro W l o o' hlo ho h1 h2
    refine ⟨by simp, fun k us t x hk e => ?_⟩
    rw [World.putObj_heap_other (fun e' => ?_)]
    · exact e
    · subst e'
      rw [ho] at e
      cases e
      cases h1
  case hI =>
    rintro s W W' row ⟨hs, hsz⟩ hg hr
    refine ⟨hs.grown (B := w.heap.size) r.size hsz (fun h blk y k e1 e2 e3 => ?_) (fun d hd D e => ?_) hg hr, Nat.le_trans hsz hg.size⟩
    · obtain ⟨blk', e4⟩ := stR_live e1
      obtain ⟨y', q1, q2, _⟩ := r.hreps h blk' e4
      rw [e2] at q1; cases q1
      exact (q2 k e3).2
    · obtain ⟨D', q1, _, q3, _⟩ := (r.dfs.marks rfl).all d hd
      rw [e] at q1; cases q1
      exact (Array.getElem?_eq_some_iff.1 q3).1
  case assign =>
    intro l x W K hK
    gi_wp2
    exact hK
  case body =>
    rintro l pre x W ⟨hs, hsz'⟩ _
    obtain ⟨bm', b11', br', bw', tb', toff', A', c', cm', om', mem', c11', z11'⟩ := mem_of hpos hni hs
    have e1 := mem'.h10.symm.trans mem.h10
    simp only [Option.some.injEq, Value.pointer.injEq, Addr.mk.injEq, and_true] at e1
    subst e1
    have e2 := mem'.h11.symm.trans mem.h11
    simp only [Option.some.injEq, Value.pointer.injEq, Addr.mk.injEq, and_true] at e2
    subst e2
    have e3 := mem'.om hpos
    subst e3
    have hx := hin x
    have hx0 := x.2.1
    have hlt : x.1 < (M : Int) := by omega
    obtain ⟨us10, g10, m10, f10, o10, l10⟩ := cells_of (hs.hreps 10 _ rfl) mem.h10
    have s10 : us10.size = M := by have := m10.1; simpa [marksB] using this
    obtain ⟨v10, hv10⟩ : ∃ v, W.cell? ⟨bm', x.1.toNat, none⟩ = some v := ⟨us10[x.1.toNat]'(by omega), by simp [World.cell?, g10, s10, hx]⟩
    have zz10 : W.frozen? ⟨bm', x.1.toNat, none⟩ = false := by simp [World.frozen?, g10]
    have hr := RelB.setCell hs (h := 10) (off := x.1.toNat) rfl mem.h10 (.d (.b true) : RepV β fz (.d (.b true)) (.bool true))
    rw [marks_set hx0] at hr
    have hr := hr.congr stR_upd
    have hmap : vals (pre ++ [x]) = vals pre ++ [x.1] := by simp [vals]
    rw [← hmap] at hr
    have hkb : KpB bm' W (W.setCell ⟨bm', x.1.toNat, none⟩ (.bool true)) := ⟨by simp, fun k us t y hk e => (Below.heap_setCell W ⟨bm', x.1.toNat, none⟩ _ k hk).trans e⟩
    clear hs hin mem mem' r hM h hc hmap hni
    gi_wp2
    exact ⟨KeepsOthers.setCell _ _ _, hkb, hr, by simpa using hsz'⟩
  case done =>
    rintro De xs W hD hS ⟨hs, hsz'⟩ hK
    have hS' : vals xs = ps teeth n 0 1 := hS
    rw [hS'] at hs
    have low : ∀ h blk y k, (stR ap b p d nv (ints teeth) n ni M sr mr ((marksB M (ps teeth n 0 1)).map fun b => V.d (.b b))).blk h = some blk → β h = some y → blkOf y = some k → k < w.heap.size := fun h blk y k e1 e2 e3 => by
      obtain ⟨blk', e4⟩ := stR_live e1
      obtain ⟨y', q1, q2, _⟩ := r.hreps h blk' e4
      rw [e2] at q1; cases q1
      exact (q2 k e3).2
    have hlen : (marksB M (ps teeth n 0 1)).length = M := by simp [marksB]
    have hcs : (marksB M (ps teeth n 0 1)).map (fun b => V.d (.b b)) = ((marksB M (ps teeth n 0 1)).map D.b).map V.d := by simp
    have hb10 : (stR ap b p d nv (ints teeth) n ni M sr mr ((marksB M (ps teeth n 0 1)).map fun b => V.d (.b b))).blk 10 = some (.cells (((marksB M (ps teeth n 0 1)).map D.b).map V.d) 4) := by rw [← hcs]; rfl
    have bmlt := low 10 _ _ bm hb10 mem.h10 rfl
    have r1 := hs.freeze hb10 mem.h10
    have hM' : M ≤ 1000000 := by
      have : n = 0 ∨ n = 1 ∨ n = 2 ∨ n = 3 := by omega
      rcases this with rfl | rfl | rfl | rfl <;> omega
    have r2 := r1.retell (h := 11) (cs := [.ms 10 0 M]) (cs' := [.d (.sl 1 (bools (marksB M (ps teeth n 0 1))))]) (t := 157) rfl fun us hus => by
      have h1 := hus.1
      have hlt : 0 < us.size := by rw [h1]; exact Nat.zero_lt_one
      have h2 := hus.2 0 _ us[0] rfl (Array.getElem?_eq_getElem hlt)
      refine ⟨h1, fun j x u hx hu => ?_⟩
      have hj : j = 0 := by have := (List.getElem?_eq_some_iff.1 hx).1; simp at this; exact this
      subst hj
      simp only [List.getElem?_cons_zero, Option.some.injEq] at hx
      subst hx
      rw [Array.getElem?_eq_getElem hlt] at hu
      cases hu
      have h3 : RepV β fz (.ms 10 0 (((marksB M (ps teeth n 0 1)).map D.b)).length) us[0] := by
        rw [List.length_map, hlen]
        generalize us[0] = q at h2
        cases h2 with
        | ms a b c => exact .ms a b c
      have h4 := freeze_ms hs hb10 mem.h10 (fun d hd => by obtain ⟨b, _, rfl⟩ := List.mem_map.1 hd; rfl) (by rw [List.length_map, hlen]; omega) h3
      exact .d (by simpa [bools, Function.comp_def] using h4)
    have r3 := r2.mark (D := De) (args := #[]) rfl (Nat.le_trans r.size hD) hK (fun o => ?_) (fun h blk y e1 e2 e3 => ?_) (fun d hd e => ?_)
    · have r4 := r3.wk stP_wk
      exact gx_sound mx X hP hnt hn0 _ _ _ (Nat.le_refl _) (Wf.of_plain (rgAt_plain _ _ _)) h _ W ⟨β, _, r4⟩
    · unfold fzB
      rw [if_neg (by omega)]
      cases hq : fz De o with
      | none => rfl
      | some u =>
        have := cell_lt (r.ok De o u hq)
        omega
    · have : ∃ blk', (stR ap b p d nv (ints teeth) n ni M sr mr ((marksB M (ps teeth n 0 1)).map fun b => V.d (.b b))).blk h = some blk' := by
        simp only [LS.upd, LS.blk, lk] at e1
        split at e1
        · rename_i e'; subst e'; exact ⟨_, rfl⟩
        · exact ⟨_, (LS.drop_blk e1).2⟩
      obtain ⟨blk', e4⟩ := this
      have := low h blk' y De e4 e2 e3
      omega
    · obtain ⟨D', q1, _, q3, _⟩ := (r.dfs.marks rfl).all d hd
      rw [e] at q1; cases q1
      have := (Array.getElem?_eq_some_iff.1 q3).1
      omega
  case stop =>
    intro D c pre W _ _ h
    exact h.elim
end Go.Proofs.Tryz
