/- The logical machine: that function is sound. -/
import Derived.Test.YtnmnccboggljhaaGreatDoorLmN
set_option linter.constructorNameAsVariable false
namespace Go.Lm
open Go Go.RowKit
section
variable {P : Program} {s : LS} {new : Nat} {dst : Option Tmp} {type : TypeId} {pos : String} {after : Array Edge} {guard : Option (Nat × Bool)}

theorem dc {p : Prop} [Decidable p] (h : decide p = true) : p := of_decide_eq_true h
theorem ac {a b : Bool} (h : (a && b) = true) : a = true ∧ b = true := by simpa using h
theorem one_inj {c c' : Bool} {e e' : Eff} (h : XR.one c e = XR.one c' e') : c = c' ∧ e = e' := by cases h; exact ⟨rfl, rfl⟩
theorem xoBin_ok {op : BinOp} {t yt : TypeId} {x y : Operand} {vx vy : V} {c : Bool} {e : Eff} (hx : s.ev x = some vx) (hy : s.ev y = some vy) (h : xoBin P op t vx vy = .one c e) (hc : c = true) : Ok P s new ⟨dst, .binOp op t x y yt, type, pos, after, guard⟩ e := by
  have two_ : ∀ v y' : V, s.ev y = some y' → s.ev x = some v → (match two v, two y' with
      | some (a, b), some (c, d) => (match op with
        | .eql => XR.one (teq2 P t) (pu [v, y'] (.d (.b (decide (a = c ∧ b = d)))))
        | .neq => .one (teq2 P t) (pu [v, y'] (.d (.b (!decide (a = c ∧ b = d)))))
        | _ => .none)
      | _, _ => .none) = .one c e → Ok P s new ⟨dst, .binOp op t x y yt, type, pos, after, guard⟩ e := fun v y' hy hx h => by
    split at h
    · rename_i a b c' d h1 h2
      split at h
      · obtain ⟨rfl, rfl⟩ := one_inj h
        exact ok_eq2 hx hy h1 h2 hc
      · obtain ⟨rfl, rfl⟩ := one_inj h
        exact ok_ne2 hx hy h1 h2 hc
      · cases h
    · cases h
  unfold xoBin at h
  split at h
  · split at h
    · rename_i q m r n hq
      subst hq
      split at h
      · rename_i c' z ha
        obtain ⟨rfl, rfl⟩ := one_inj h
        exact ok_arith hx hy ha hc
      · split at h
        · rename_i z hcmp
          obtain ⟨rfl, rfl⟩ := one_inj h
          exact ok_cmp hx hy hcmp
        · split at h
          · obtain ⟨rfl, rfl⟩ := one_inj h
            exact ok_shl hx hy (dc hc).1 (dc hc).2.1 (dc hc).2.2.1 (dc hc).2.2.2
          · obtain ⟨rfl, rfl⟩ := one_inj h
            exact ok_shr hx hy (dc hc).1 (dc hc).2.1 (dc hc).2.2
          · split at h
            · obtain ⟨rfl, rfl⟩ := one_inj h
              obtain ⟨rfl, h2, h3, h4⟩ := dc hc
              exact ok_and1 hx hy h2 h3 h4
            · obtain ⟨rfl, rfl⟩ := one_inj h
              obtain ⟨h2, h3, h4, h5, h6⟩ := dc hc
              exact ok_and hx hy h2 h3 h4 h5 h6
          · cases h
    · cases h
  · split at h
    · rename_i c' z hs
      obtain ⟨rfl, rfl⟩ := one_inj h
      exact ok_str hx hy hs hc
    · cases h
  · split at h
    · obtain ⟨rfl, rfl⟩ := one_inj h
      exact ok_beq hx hy hc
    · cases h
  · split at h
    · rename_i c' p hn
      split at h
      · obtain ⟨rfl, rfl⟩ := one_inj h
        exact ok_eqNil hx hy hn (ac hc).1 (ac hc).2
      · obtain ⟨rfl, rfl⟩ := one_inj h
        exact ok_neNil hx hy hn (ac hc).1 (ac hc).2
      · cases h
    · cases h
  · exact two_ _ _ hy hx h
theorem getD_get {cs : List V} {off : Nat} (h : off < cs.length) : cs[off]? = some (cs.getD off .u) := by
  rw [List.getElem?_eq_getElem h, List.getD_eq_getElem?_getD, List.getElem?_eq_getElem h]; rfl
theorem xoLoad_ok {t : TypeId} {x : Operand} {vx : V} {c : Bool} {e : Eff} (hx : s.ev x = some vx) (h : xoLoad P s t vx = .one c e) (hc : c = true) : Ok P s new ⟨dst, .load t x, type, pos, after, guard⟩ e := by
  unfold xoLoad at h
  split at h
  · split at h
    · rename_i hb
      split at h
      · rename_i hs
        obtain ⟨rfl, rfl⟩ := one_inj h
        exact ok_load1 hx hb (shp_one hs) (getD_get (dc hc))
      · rename_i n hs
        obtain ⟨rfl, rfl⟩ := one_inj h
        exact ok_loadN hx hb (shp_agg hs).1 (shp_agg hs).2 (dc hc)
      · cases h
    · cases h
  · split at h
    · rename_i hs
      obtain ⟨rfl, rfl⟩ := one_inj h
      refine ok_loadQ1 hx (shp_one hs) (dc hc).1 ?_
      rw [List.getElem?_eq_getElem (dc hc).2, List.getD_eq_getElem?_getD (l := List.getD _ _ _), List.getElem?_eq_getElem (dc hc).2]; rfl
    · rename_i n hs
      obtain ⟨rfl, rfl⟩ := one_inj h
      exact ok_loadQN hx (shp_agg hs).1 (shp_agg hs).2 (dc hc).1 (dc hc).2
    · cases h
  · cases h
theorem xoStore_ok {t : TypeId} {x y : Operand} {vx vy : V} {c : Bool} {e : Eff} (hx : s.ev x = some vx) (hy : s.ev y = some vy) (h : xoStore P s t vx vy = .one c e) (hc : c = true) : Ok P s new ⟨none, .store t x y, type, pos, after, guard⟩ e := by
  unfold xoStore at h
  split at h
  · split at h
    · rename_i cs e' xs n hb hcv hn
      obtain ⟨rfl, rfl⟩ := one_inj h
      obtain ⟨rfl, hl⟩ := dc hc
      exact ok_store hx hy hb hcv hn hl
    · cases h
  · cases h
theorem xoIdx_ok {t : TypeId} {x y : Operand} {vx vy : V} {c : Bool} {e : Eff} (hx : s.ev x = some vx) (hy : s.ev y = some vy) (h : xoIdx P t vx vy = .one c e) (hc : c = true) : Ok P s new ⟨dst, .indexAddr t x y, type, pos, after, guard⟩ e := by
  unfold xoIdx at h
  split at h
  · split at h
    · rename_i m sz ha
      obtain ⟨rfl, rfl⟩ := one_inj h
      exact ok_indexA hx hy ha (dc hc).1 (dc hc).2
    · cases h
  · split at h
    · split at h
      · rename_i z hz hzs
        obtain ⟨rfl, rfl⟩ := one_inj h
        subst hzs
        exact ok_indexM hx hy hz (dc hc).1 (dc hc).2
      · cases h
    · cases h
  · split at h
    · split at h
      · rename_i hr hz hzs
        obtain ⟨rfl, rfl⟩ := one_inj h
        subst hzs
        exact ok_indexS hx hy hr hz (dc hc).1 (dc hc).2
      · cases h
    · cases h
  · cases h
theorem xoIndex_ok {t : TypeId} {x y : Operand} {vx vy : V} {c : Bool} {e : Eff} (hx : s.ev x = some vx) (hy : s.ev y = some vy) (h : xoIndex P t vx vy = .one c e) (hc : c = true) : Ok P s new ⟨dst, .index t x y, type, pos, after, guard⟩ e := by
  unfold xoIndex at h
  split at h
  · obtain ⟨rfl, rfl⟩ := one_inj h
    exact ok_indexStr hx hy (dc hc).1 (dc hc).2.1 (dc hc).2.2
  · split at h
    · rename_i ha he
      split at h
      · rename_i y' hp
        obtain ⟨rfl, rfl⟩ := one_inj h
        exact ok_indexV hx hy ha he (dc hc).1 (dc hc).2 hp
      · cases h
    · cases h
  · cases h
theorem toList_one {α : Type} {a : Array α} {x : α} (h : a.toList = [x]) : a = #[x] := by apply Array.ext'; simpa using h
theorem toList_two {α : Type} {a : Array α} {x y : α} (h : a.toList = [x, y]) : a = #[x, y] := by apply Array.ext'; simpa using h
theorem toList_three {α : Type} {a : Array α} {x y z : α} (h : a.toList = [x, y, z]) : a = #[x, y, z] := by apply Array.ext'; simpa using h
theorem xoCall_ok {cl : Call} {c : Bool} {e : Eff} (h : xoCall P s new cl = .one c e) (hc : c = true) : Ok P s new ⟨dst, .call cl, type, pos, after, guard⟩ e := by
  obtain ⟨callee, args, tys⟩ := cl
  unfold xoCall at h
  split at h
  · rename_i hcl
    simp only at hcl
    subst hcl
    split at h
    · rename_i x t ha ht
      obtain rfl := toList_one ha; obtain rfl := toList_one ht
      split at h
      · rename_i v hx
        split at h
        · rename_i n hl
          obtain ⟨rfl, rfl⟩ := one_inj h
          exact ok_len hx hl
        · cases h
      · cases h
    · cases h
  · rename_i hcl
    simp only at hcl
    subst hcl
    split at h
    · rename_i x y t t' ha ht
      obtain rfl := toList_two ha; obtain rfl := toList_two ht
      split at h
      · rename_i hx hy hT
        split at h
        · rename_i hb hs
          obtain ⟨rfl, rfl⟩ := one_inj h
          obtain ⟨h1, h2⟩ := ac hc
          exact ok_copy hx hy hT hb hs (dc h1) h2
        · cases h
      · cases h
    · cases h
  · rename_i hcl
    simp only at hcl
    subst hcl
    split at h
    · rename_i x y t t' ha ht
      obtain rfl := toList_two ha; obtain rfl := toList_two ht
      split at h
      · rename_i htt
        subst htt
        split at h
        · rename_i hx hy hT
          split at h
          · rename_i hb hs
            obtain ⟨rfl, rfl⟩ := one_inj h
            exact ok_append hx hy hT hb hs (dc hc)
          · cases h
        · cases h
      · cases h
    · cases h
  · rename_i hcl
    simp only at hcl
    subst hcl
    split at h
    · rename_i x y ha
      obtain rfl := toList_two ha
      split at h
      · rename_i hx hy
        obtain ⟨rfl, rfl⟩ := one_inj h
        exact ok_max2 hx hy
      · cases h
    · rename_i x y z ha
      obtain rfl := toList_three ha
      split at h
      · rename_i hx hy hz
        obtain ⟨rfl, rfl⟩ := one_inj h
        exact ok_max3 hx hy hz
      · cases h
    · cases h
  · rename_i hcl
    simp only at hcl
    subst hcl
    split at h
    · rename_i x y ha
      obtain rfl := toList_two ha
      split at h
      · rename_i hx hy
        obtain ⟨rfl, rfl⟩ := one_inj h
        exact ok_min2 hx hy
      · cases h
    · cases h
  · split at h
    · split at h <;> cases h
    · cases h
  · split at h
    · split at h <;> cases h
    · cases h
  · cases h
theorem xoRun_ok {o : Oper} {c : Bool} {e : Eff} (h : xoRun P s new o = .one c e) (hc : c = true) : Ok P s new o e := by
  obtain ⟨dst, op, type, pos, after, guard⟩ := o
  unfold xoRun at h
  split at h
  · -- move
    rename_i x hop; simp only at hop; subst hop
    split at h
    · rename_i v hx; obtain ⟨rfl, rfl⟩ := one_inj h; exact ok_move hx
    · cases h
  · rename_i x hop; simp only at hop; subst hop
    split at h
    · rename_i v hx; obtain ⟨rfl, rfl⟩ := one_inj h; exact ok_assign hx
    · cases h
  · rename_i hop; simp only at hop; subst hop
    split at h
    · rename_i h1 h2 h3; obtain ⟨rfl, rfl⟩ := one_inj h; exact ok_pick h1 h2 h3
    · cases h
  · rename_i hop; simp only at hop; subst hop
    split at h
    · rename_i h1; obtain ⟨rfl, rfl⟩ := one_inj h; exact ok_alloc h1
    · cases h
  · rename_i hop; simp only at hop; subst hop
    split at h
    · rename_i hx
      split at h
      · rename_i h1; obtain ⟨rfl, rfl⟩ := one_inj h; exact ok_box hx h1
      · cases h
    · cases h
  · rename_i hop; simp only at hop; subst hop
    split at h
    · rename_i hx; exact xoLoad_ok hx h hc
    · cases h
  · rename_i hop; simp only at hop; subst hop
    split at h
    · rename_i hd; simp only at hd; subst hd
      split at h
      · rename_i hx hy; exact xoStore_ok hx hy h hc
      · cases h
    · cases h
  · rename_i hop; simp only at hop; subst hop
    split at h
    · rename_i hx; obtain ⟨rfl, rfl⟩ := one_inj h; exact ok_nilCheck hx hc
    · cases h
  · rename_i hop; simp only at hop; subst hop
    split at h
    · rename_i hx
      split at h
      · rename_i hp; obtain ⟨rfl, rfl⟩ := one_inj h; exact ok_ifcNil hx hp (by simpa using hc)
      · cases h
    · cases h
  · rename_i hop; simp only at hop; subst hop
    split at h
    · rename_i hx hy; exact xoBin_ok hx hy h hc
    · cases h
  · rename_i hop; simp only at hop; subst hop
    split at h
    · rename_i hx; obtain ⟨rfl, rfl⟩ := one_inj h; exact ok_not hx
    · rename_i hx; obtain ⟨rfl, rfl⟩ := one_inj h; exact ok_neg hx (dc hc)
    · cases h
  · rename_i hop; simp only at hop; subst hop
    split at h
    · rename_i hx
      split at h
      · rename_i h1 h2; obtain ⟨rfl, rfl⟩ := one_inj h; exact ok_convI hx h1 h2 (dc hc)
      · cases h
    · cases h
  · rename_i hop; simp only at hop; subst hop
    split at h
    · rename_i hx
      split at h
      · rename_i h1; obtain ⟨rfl, rfl⟩ := one_inj h; exact ok_mkIfc hx h1 (dc hc)
      · cases h
    · cases h
  · rename_i hop; simp only at hop; subst hop
    split at h
    · rename_i h1 h2; obtain ⟨rfl, rfl⟩ := one_inj h; exact ok_makeFunc h1 h2
    · cases h
  · rename_i hop; simp only at hop; subst hop
    split at h
    · rename_i hx hy
      split at h
      · rename_i hT
        split at h
        · rename_i hz
          obtain ⟨rfl, rfl⟩ := one_inj h
          obtain ⟨rfl, rfl, h1, h2⟩ := dc hc
          exact ok_make hx hy hT hz h1 h2
        · cases h
      · cases h
    · cases h
  · rename_i hop; simp only at hop; subst hop
    split at h
    · rename_i hx
      split at h
      · rename_i hb ha
        split at h
        · rename_i hd
          obtain ⟨rfl, rfl⟩ := one_inj h
          obtain ⟨h1, h2⟩ := ac hc
          obtain ⟨h3, h4⟩ := dc h1
          exact ok_sliceArr hx hb ha h3 h4 hd h2
        · cases h
      · cases h
    · cases h
  · rename_i hop; simp only at hop; subst hop
    split at h
    · rename_i hx; obtain ⟨rfl, rfl⟩ := one_inj h; exact ok_range hx hc
    · cases h
  · rename_i hop; simp only at hop; subst hop
    split at h
    · rename_i hx
      split at h
      · rename_i hb; obtain ⟨rfl, rfl⟩ := one_inj h; exact ok_next hx hb
      · cases h
    · cases h
  · rename_i hop; simp only at hop; subst hop
    obtain ⟨rfl, rfl⟩ := one_inj h; exact ok_makeMap
  · rename_i hop; simp only at hop; subst hop
    split at h
    · rename_i hx hy
      split at h
      · rename_i hb hm h3
        split at h
        · rename_i hr hz; obtain ⟨rfl, rfl⟩ := one_inj h; exact ok_lookup hx hy hb hm hz h3 hr
        · cases h
      · cases h
    · cases h
  · rename_i hop; simp only at hop; subst hop
    split at h
    · rename_i hx hy hz
      split at h
      · rename_i hb hm h3
        split at h
        · rename_i hr hd; obtain ⟨rfl, rfl⟩ := one_inj h; exact ok_mapUpdate hx hy hz hb hm h3 hd hr
        · cases h
      · cases h
    · cases h
  · split at h <;> cases h
  · unfold xoDfr at h
    (repeat' split at h) <;> cases h
  · rename_i hop; simp only at hop; subst hop
    split at h
    · rename_i hx hy
      split at h
      · rename_i hs; obtain ⟨rfl, rfl⟩ := one_inj h; exact ok_slice1 hx hy hs hc
      · cases h
    · cases h
  · rename_i hop; simp only at hop; subst hop
    split at h
    · rename_i hx hy
      split at h
      · rename_i hs; obtain ⟨rfl, rfl⟩ := one_inj h; exact ok_slice2 hx hy hs hc
      · cases h
    · cases h
  · rename_i hop; simp only at hop; subst hop
    split at h
    · rename_i hx hy hz
      split at h
      · rename_i hs; obtain ⟨rfl, rfl⟩ := one_inj h; exact ok_slice3 hx hy hz hs hc
      · cases h
    · cases h
  · rename_i hop; simp only at hop; subst hop
    split at h
    · rename_i hx hf; obtain ⟨rfl, rfl⟩ := one_inj h; exact ok_fieldP hx hf
    · rename_i hx hf; obtain ⟨rfl, rfl⟩ := one_inj h; exact ok_fieldQ hx hf
    · cases h
  · rename_i hop; simp only at hop; subst hop
    split at h
    · rename_i hx
      split at h
      · rename_i ha hf
        split at h
        · rename_i hp; obtain ⟨rfl, rfl⟩ := one_inj h; exact ok_field hx ha hf hp
        · cases h
      · cases h
    · cases h
  · rename_i hop; simp only at hop; subst hop
    split at h
    · rename_i hx hy; exact xoIdx_ok hx hy h hc
    · cases h
  · rename_i hop; simp only at hop; subst hop
    split at h
    · rename_i hx hy; exact xoIndex_ok hx hy h hc
    · cases h
  · rename_i hop; simp only at hop; subst hop
    split at h
    · rename_i hx
      split at h
      · rename_i hi; obtain ⟨rfl, rfl⟩ := one_inj h; exact ok_extractV hx hi
      · cases h
    · rename_i hx
      split at h
      · rename_i hi; obtain ⟨rfl, rfl⟩ := one_inj h; exact ok_extractD hx hi
      · cases h
    · cases h
  · rename_i hop; simp only at hop; subst hop
    split at h
    · rename_i hx
      obtain ⟨rfl, rfl⟩ := one_inj h
      obtain ⟨zs, hz⟩ := Option.isSome_iff_exists.1 (dc hc).2
      exact ok_assert hx (dc hc).1 hz
    · cases h
  · rename_i hop; simp only at hop; subst hop
    split at h
    · rename_i hv hz
      split at h
      · rename_i hb; obtain ⟨rfl, rfl⟩ := one_inj h; exact ok_build hv hz hc hb
      · cases h
    · cases h
  · rename_i hop; simp only at hop; subst hop
    split at h
    · rename_i hv hT
      split at h
      · rename_i hb
        split at h
        · rename_i hd; obtain ⟨rfl, rfl⟩ := one_inj h; exact ok_buildSlice hT hv (dc hc).1 hb hd (dc hc).2
        · cases h
      · cases h
    · cases h
  · rename_i hop; simp only at hop; subst hop
    exact xoCall_ok h hc
  · cases h
theorem ac_ev {s : LS} {l : List Operand} {vs : List V} (h : s.evs l = some vs) {β : Bt} {fz : Fz} {a : Act} (hv : ∀ x v, s.ev x = some v → RepV β fz v (a.eval x)) : RepVs β fz vs (l.map a.eval).toArray := by
  obtain ⟨k1, k2⟩ := evs_ok h
  refine ⟨by simp [k1], fun j d u q1 q2 => ?_⟩
  rw [List.getElem?_toArray, List.getElem?_map, Option.map_eq_some_iff] at q2
  obtain ⟨x, q2, rfl⟩ := q2
  exact hv x d (k2 j x d q2 q1)
theorem xoRun_pan {o : Oper} {d : D} (h : xoRun P s new o = .pan d) : PanOK P s o d := by
  obtain ⟨dst, op, type, pos, after, guard⟩ := o
  have key : ∃ x, op = .panic x := by
    unfold xoRun at h
    split at h
    all_goals first
      | (rename_i x hop; exact ⟨x, by simpa using hop⟩)
      | (cases h; done)
      | (unfold xoCall at h; (repeat' split at h) <;> cases h; done)
      | (unfold xoDfr at h; (repeat' split at h) <;> cases h; done)
      | (unfold xoLoad at h; (repeat' split at h) <;> cases h; done)
      | (unfold xoStore at h; (repeat' split at h) <;> cases h; done)
      | (unfold xoBin at h; (repeat' split at h) <;> cases h; done)
      | (unfold xoIdx at h; (repeat' split at h) <;> cases h; done)
      | (unfold xoIndex at h; (repeat' split at h) <;> cases h; done)
      | ((repeat' split at h) <;> cases h; done)
  obtain ⟨x, rfl⟩ := key
  simp only [xoRun] at h
  split at h
  · rename_i t d' hx
    cases h
    intro β fz own a w hok _ hv next Q hQ
    have h1 := hv x _ hx
    generalize hu : a.eval x = u at h1
    cases h1 with
    | d h1 =>
      cases h1 with
      | @ifc _ _ u h1 =>
        have hr : (execOp a.eval ⟨dst, .panic x, type, pos, after, guard⟩).run P w = .halt (.panic (.iface t u)) w := by
          simp only [execOp, hu]
          rfl
        unfold Oper.wp
        rw [hr, Oper.upon_panic]
        refine hQ _ fz w ?_ (.ifc t h1)
        exact {
          ble := Bt.Le.refl _
          bnew := fun _ _ => rfl
          fle := Fz.Le.refl _
          ffr := fun _ _ _ _ => rfl
          ok := hok
          os := rfl
          tape := rfl
          output := rfl
          size := Nat.le_refl _
          frame := fun _ _ _ => rfl
          hreps := fun x hx => by cases hx
          blks := fun x hx => by cases hx
          inj := fun h h' y y' k ⟨x, hx, _⟩ => by cases hx
          v := .u _ }
  · cases h
theorem xoRun_dfr {o : Oper} {y : Fn × List V × List V} (h : xoRun P s new o = .dfr y) : DfrOK P s o y := by
  obtain ⟨dst, op, type, pos, after, guard⟩ := o
  have key : ∃ c, op = .defer c := by
    unfold xoRun at h
    split at h
    all_goals first
      | (rename_i x hop; exact ⟨x, by simpa using hop⟩)
      | (cases h; done)
      | (unfold xoCall at h; (repeat' split at h) <;> cases h; done)
      | (unfold xoLoad at h; (repeat' split at h) <;> cases h; done)
      | (unfold xoStore at h; (repeat' split at h) <;> cases h; done)
      | (unfold xoBin at h; (repeat' split at h) <;> cases h; done)
      | (unfold xoIdx at h; (repeat' split at h) <;> cases h; done)
      | (unfold xoIndex at h; (repeat' split at h) <;> cases h; done)
      | ((repeat' split at h) <;> cases h; done)
  obtain ⟨c, rfl⟩ := key
  simp only [xoRun] at h
  unfold xoDfr at h
  split at h
  · rename_i fo hc
    split at h
    · rename_i f a cp vs hf hvs
      cases h
      obtain ⟨callee, args, tys⟩ := c
      simp only at hc hvs
      subst hc
      intro β fz ac w hv
      have h1 := hv fo _ hf
      have h2 := ac_ev hvs hv
      generalize hu : ac.eval fo = u at h1
      cases h1 with
      | @fn _ _ _ va vc hla ha hlc hcc =>
        refine ⟨{ target := .fn (.func f) vc, args := va ++ args.map ac.eval }, ?_, (fun e => by cases e), vc, rfl, ⟨hlc, hcc⟩, ?_⟩
        · show (do pure (Next.defer (← resolve ac.eval { callee := .value fo, args := args, argTypes := tys } type)) : Sem Next).run P w = _
          simp only [resolve, hu, Deferred.ofValue, Sem.run_bind, Sem.run_pure, Result.andThen_ok]
        · have := ((RepVs.list ⟨hla, ha⟩).append (RepVs.list h2)).arr
          have e : (va.toList ++ (args.toList.map ac.eval).toArray.toList).toArray = va ++ args.map ac.eval := by apply Array.ext'; simp
          rwa [e] at this
    · cases h
  · cases h
/-- the function that carries operations out -/
def xo (P : Program) : Xo P where
  run := xoRun P
  ok := fun s new o c e h hc => by
    have k := xoRun_ok h hc
    exact ⟨k.op, k.len, k.vals, k.rd, k.hp, k.news, k.outs⟩
  okp := fun s new o d h => xoRun_pan h
  okd := fun s new o x h => xoRun_dfr h
end
end Go.Lm
