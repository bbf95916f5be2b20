/- The logical machine: functions that hold a range over a function. -/
import Derived.Test.YtnmnccboggljhaaGreatDoorLmW
import Derived.RangeFuncNested
import Derived.RangeFuncLeaves
set_option linter.constructorNameAsVariable false
namespace Go.Lm
open Go Go.RowKit
theorem cellOther {w : World} {D b o : Nat} {ob : Obj} (h : b ≠ D) : (w.putObj D ob).cell? ⟨b, o, none⟩ = w.cell? ⟨b, o, none⟩ :=
  World.cell?_of_block (World.putObj_heap_other h)
/-- a block that is nobody's turns -/
theorem RelB.putObj {C : Cx} {s : LS} {a : Act} {w : World} {β : Bt} {fz : Fz} (r : RelB C s a w β fz) {D : Nat} {o : Obj} (h1 : C.w0.heap.size ≤ D) (h3 : ∀ o, fz D o = none) (h4 : ∀ h blk y, s.blk h = some blk → β h = some y → blkOf y ≠ some D)
    {ds : List Deferred} {s' : LS} (he : s'.env = s.env) (hh : s'.heap = s.heap) (hf : s'.fresh = s.fresh) (ht : s'.taken = s.taken) (hds : DR C.w0.heap.size s' (w.putObj D o) β fz ds) : RelB C s' { a with defers := ds } (w.putObj D o) β fz where
  os := r.os
  tape := r.tape
  output := r.output
  size := by simpa using r.size
  frame := fun k hk hn => (World.putObj_heap_other (by omega)).trans (r.frame k hk hn)
  ble := r.ble
  bnew := r.bnew
  fle := r.fle
  ffr := r.ffr
  ok := fun b o u h => by
    have hne : b ≠ D := fun e => by rw [e, h3] at h; cases h
    rw [cellOther hne]; exact r.ok b o u h
  free := fun x hx => r.free x (by unfold LS.free at hx ⊢; rw [hf, ht] at hx; exact hx)
  hreps := fun h blk hb => by
    have hb : s.blk h = some blk := by unfold LS.blk at hb ⊢; rw [hh] at hb; exact hb
    exact (r.hreps h blk hb).frame (Bt.Le.refl _) (Fz.Le.refl _) (by simp) fun y k hy hk => ⟨World.putObj_heap_other (fun e => h4 h blk y hb hy (by rw [hk, e])), fun _ => rfl⟩
  inj := by
    have e : s'.blk = s.blk := by funext h; unfold LS.blk; rw [hh]
    rw [e]; exact r.inj
  env := fun d v hv => r.env d v (by rw [he] at hv; exact hv)
  nt := r.nt
  dfs := hds
/-- blocks that are laid beyond a line, or turn there and hold no cells -/
theorem RelB.grown {C : Cx} {s : LS} {a : Act} {w w' : World} {β : Bt} {fz : Fz} (r : RelB C s a w β fz) {B : Nat} (hX : C.w0.heap.size ≤ B) (hs : B ≤ w.heap.size) (hB : ∀ h blk y k, s.blk h = some blk → β h = some y → blkOf y = some k → k < B)
    (hD : ∀ d ∈ a.defers, ∀ D, d.target = .collected D → D < B) {row : Option Nat} (hg : w.grownBy w' row) (hr : ∀ r, row = some r → B ≤ r ∧ ∃ o : Obj, w.heap[r]? = some o ∧ o.isCells = false) : RelB C s a w' β fz := by
  have low : ∀ k, k < B → w'.heap[k]? = w.heap[k]? := fun k hk => hg.block k (by omega) fun e => by have := (hr k e.symm).1; omega
  refine { r with os := hg.os.trans r.os, tape := hg.tape.trans r.tape, output := hg.output.trans r.output, size := Nat.le_trans r.size hg.size, frame := ?_, ok := ?_, hreps := ?_, dfs := ?_ }
  · exact fun k hk hn => (low k (by omega)).trans (r.frame k hk hn)
  · intro b o u h
    have hc := r.ok b o u h
    have hne : some b ≠ row := fun e => by
      obtain ⟨_, ob, h1, h2⟩ := hr b e.symm
      unfold World.cell? at hc
      rw [h1] at hc
      cases ob <;> simp [Obj.isCells] at h2 hc
    have hlt : b < w.heap.size := by
      unfold World.cell? at hc
      cases hq : w.heap[b]? with
      | none => simp [hq] at hc
      | some ob => exact (Array.getElem?_eq_some_iff.1 hq).1
    rw [World.cell?_of_block (a := ⟨b, o, none⟩) (hg.block b hlt hne)]
    exact hc
  · intro h blk hb
    exact (r.hreps h blk hb).frame (Bt.Le.refl _) (Fz.Le.refl _) hg.size fun y k hy hk => ⟨low k (hB h blk y k hb hy hk), fun _ => rfl⟩
  · rcases r.dfs with k | ⟨l, p, q, e1, e2, e3, e4⟩
    · exact .inl k
    · refine .inr ⟨l, p, q, e1, e2, e3, ⟨fun d hd => ?_, e4.nodup⟩⟩
      obtain ⟨D, q1, q2, q3, q4, q5⟩ := e4.all d hd
      exact ⟨D, q1, q2, (low D (hD d (by rw [e2]; simp [hd]) D q1)).trans q3, q4, q5⟩
def LS.upd (s : LS) (h : Nat) (b : Blk) : LS := { s with heap := (h, some b) :: s.heap }
theorem setCell_setRow {w : World} {b off : Nat} {us : Array Value} {t : TypeId} (hw : w.heap[b]? = some (.cells us t (0, 0))) (v : Value) : w.setCell ⟨b, off, none⟩ v = w.setRow b (us.setIfInBounds off v) := by
  unfold World.setCell World.setRow
  congr 1
  obtain ⟨hlt, he⟩ := Array.getElem?_eq_some_iff.1 hw
  apply Array.ext_getElem?
  intro i
  simp only [Array.getElem?_modify]
  by_cases e : b = i
  · subst e
    simp [hw]
  · simp [e]
/-- a store into a block of one's own -/
theorem RelB.setCell {C : Cx} {s : LS} {a : Act} {w : World} {β : Bt} {fz : Fz} (r : RelB C s a w β fz) {h b off : Nat} {cs : List V} {t : TypeId} (hb : s.blk h = some (.cells cs t)) (hβ : β h = some (.pointer (some ⟨b, 0, none⟩))) {d : V} {v : Value} (hv : RepV β fz d v) :
    RelB C (s.upd h (.cells (cs.set off d) t)) a (w.setCell ⟨b, off, none⟩ v) β fz := by
  obtain ⟨us, h1, h2, h3, h4, h5⟩ := cells_of (r.hreps _ _ hb) hβ
  rw [setCell_setRow h1]
  have hr : RepVs β fz (cs.set off d) (us.setIfInBounds off v) := by
    refine ⟨by simp [h2.1], fun j x u hx hu => ?_⟩
    rw [List.getElem?_set] at hx
    rw [Array.getElem?_setIfInBounds] at hu
    split at hx
    · rename_i e
      subst e
      rw [if_pos rfl] at hu
      split at hx
      · cases hx
        split at hu
        · cases hu; exact hv
        · cases hu
      · cases hx
    · rename_i e
      rw [if_neg e] at hu
      exact h2.2 j x u hx hu
  have p := Post.set r.ok hβ ⟨h4, h5⟩ h1 h3 hr (RepV.u undef) (cs := cs)
  have r' := p.rel (e := ⟨[], [], [(h, .cells cs t)], [], [(h, .cells (cs.set off d) t)], .u⟩) (dst := none) r (fun d e => by cases e) (fun x hx => by simp only [List.mem_singleton] at hx; subst hx; exact hb) (fun x hx => by cases hx)
  refine RelB.congr (s := s.app none ⟨[], [], [(h, .cells cs t)], [], [(h, .cells (cs.set off d) t)], .u⟩) ?_ ⟨fun _ => rfl, fun x => ?_, fun x => ⟨fun hx => ⟨hx.1, by simpa [LS.app, LS.upd] using hx.2⟩, fun hx => ⟨hx.1, by simpa [LS.app, LS.upd] using hx.2⟩⟩, rfl⟩
  · exact r'
  · simp only [LS.blk, LS.app, LS.upd, List.map_cons, List.map_nil, List.cons_append, List.nil_append, lk]
    split <;> rfl
/-- a block of one's own that nobody writes any more -/
def fzB (bm : Nat) (w : World) (fz : Fz) : Fz := fun b o => if b = bm then w.cell? ⟨b, o, none⟩ else fz b o
def LS.drop (s : LS) (h : Nat) : LS := { s with heap := (h, none) :: s.heap }
theorem LS.drop_blk {s : LS} {h x : Nat} {b : Blk} (e : (s.drop h).blk x = some b) : x ≠ h ∧ s.blk x = some b := by
  simp only [LS.blk, LS.drop, lk] at e
  split at e
  · cases e
  · rename_i hne; exact ⟨hne, e⟩
theorem RelB.freeze {C : Cx} {s : LS} {a : Act} {w : World} {β : Bt} {fz : Fz} (r : RelB C s a w β fz) {h bm : Nat} {cs : List V} {t : TypeId} (hb : s.blk h = some (.cells cs t)) (hβ : β h = some (.pointer (some ⟨bm, 0, none⟩))) :
    RelB C (s.drop h) a w β (fzB bm w fz) := by
  obtain ⟨us, h1, h2, h3, h4, h5⟩ := cells_of (r.hreps _ _ hb) hβ
  have le : Fz.Le fz (fzB bm w fz) := fun b o u e => by
    unfold fzB
    split
    · rename_i e'; rw [e', h3] at e; cases e
    · exact e
  have far : ∀ k, k ≠ bm → ∀ o, fzB bm w fz k o = fz k o := fun k hk o => by unfold fzB; rw [if_neg hk]
  have other : ∀ x blk y, x ≠ h → s.blk x = some blk → β x = some y → blkOf y ≠ some bm := fun x blk y hne hx hy hk => hne (r.inj x h y _ bm ⟨_, hx⟩ ⟨_, hb⟩ hy hβ hk rfl)
  refine { r with fle := r.fle.trans le, ffr := ?_, ok := ?_, free := fun x hx => r.free x hx, hreps := ?_, inj := ?_, env := ?_, dfs := ?_ }
  · intro k hk hn o
    rw [far k (fun e => ?_)]
    · exact r.ffr k hk hn o
    · subst e
      rcases h4 with h | h
      · omega
      · exact hn h
  · intro b o u e
    unfold fzB at e
    split at e
    · exact e
    · exact r.ok b o u e
  · intro x blk hx
    obtain ⟨hne, hx⟩ := LS.drop_blk hx
    exact (r.hreps x blk hx).frame (Bt.Le.refl _) le (Nat.le_refl _) fun y k hy hk => ⟨rfl, far k fun e => other x blk y hne hx hy (by rw [hk, e])⟩
  · rintro x x' y y' k ⟨b, hx⟩ ⟨b', hx'⟩
    exact r.inj x x' y y' k ⟨_, (LS.drop_blk hx).2⟩ ⟨_, (LS.drop_blk hx').2⟩
  · intro d v hv
    obtain ⟨u, k1, k2⟩ := r.env d v hv
    exact ⟨u, k1, k2.mono (Bt.Le.refl _) le⟩
  · exact r.dfs.to rfl (Bt.Le.refl _) le fun D _ q2 q3 q4 => ⟨q2, fun o => (far D (fun e => q4 h _ _ hb hβ (by rw [e]; rfl)) o).trans (q3 o), fun x blk y hx hy => q4 x blk y (LS.drop_blk hx).2 hy⟩
theorem freeze_ms {C : Cx} {s : LS} {a : Act} {w : World} {β : Bt} {fz : Fz} (r : RelB C s a w β fz) {h bm : Nat} {ds : List D} {t : TypeId} (hb : s.blk h = some (.cells (ds.map .d) t)) (hβ : β h = some (.pointer (some ⟨bm, 0, none⟩)))
    (hone : ∀ d ∈ ds, oneV (.d d) = true) (hlen : ds.length ≤ 140737488355328) {v : Value} (hv : RepV β fz (.ms h 0 ds.length) v) : RepD (fzB bm w fz) (.sl 1 (ds.map fun d => [d])) v := by
  obtain ⟨us, h1, h2, h3, h4, h5⟩ := cells_of (r.hreps _ _ hb) hβ
  cases hv with
  | @ms _ _ _ b o c hb' hn ho =>
    rw [hβ] at hb'
    cases hb'
    have hsz : us.size = ds.length := by have := h2.1; simpa using this
    have hget : ∀ i, i < ds.length → w.cell? ⟨bm, i, none⟩ = some (us.getD i undef) := fun i hi => by
      have hi' : i < us.size := by omega
      simp [World.cell?, h1, hi', Array.getD]
    refine .sl (fun i _ => us.getD i undef) (by simp) hn hlen (fun r hr => ?_) (fun h0 => ⟨bm, 0, by rw [ho h0], fun i j hi hj => ?_⟩) (fun i j r' d hr hd => ?_) (fun i j r' d hr hd => ?_)
    · simp only [List.mem_map] at hr
      obtain ⟨d, _, rfl⟩ := hr
      rfl
    · have hj0 : j = 0 := by omega
      subst hj0
      unfold fzB
      rw [if_pos rfl]
      simpa using hget i hi
    · rw [List.getElem?_map] at hr
      simp only [Option.map_eq_some_iff] at hr
      obtain ⟨d', hd', rfl⟩ := hr
      have hi : i < us.size := by rw [hsz]; exact (List.getElem?_eq_some_iff.1 hd').1
      have hj : j = 0 := by have := (List.getElem?_eq_some_iff.1 hd).1; simp at this; exact this
      subst hj
      simp at hd
      subst hd
      have hr2 := h2.2 i (.d d') us[i] (by rw [List.getElem?_map, hd']; rfl) (Array.getElem?_eq_getElem hi)
      have : us.getD i undef = us[i] := by simp [Array.getD, hi]
      rw [this]
      exact oneV_ok hr2 (hone d' (List.mem_of_getElem? hd'))
    · rw [List.getElem?_map] at hr
      simp only [Option.map_eq_some_iff] at hr
      obtain ⟨d', hd', rfl⟩ := hr
      have hi : i < us.size := by rw [hsz]; exact (List.getElem?_eq_some_iff.1 hd').1
      have hj : j = 0 := by have := (List.getElem?_eq_some_iff.1 hd).1; simp at this; exact this
      subst hj
      simp at hd
      subst hd
      have hr2 := h2.2 i (.d d') us[i] (by rw [List.getElem?_map, hd']; rfl) (Array.getElem?_eq_getElem hi)
      have : us.getD i undef = us[i] := by simp [Array.getD, hi]
      rw [this]
      cases hr2 with
      | d hr2 =>
        refine hr2.mono fun b o u e => ?_
        unfold fzB
        split
        · rename_i e'; rw [e', h3] at e; cases e
        · exact e
/-- the same block, told otherwise -/
theorem RelB.retell {C : Cx} {s : LS} {a : Act} {w : World} {β : Bt} {fz : Fz} (r : RelB C s a w β fz) {h : Nat} {cs cs' : List V} {t : TypeId} (hb : s.blk h = some (.cells cs t)) (hv : ∀ us, RepVs β fz cs us → RepVs β fz cs' us) : RelB C (s.upd h (.cells cs' t)) a w β fz := by
  have key : ∀ x blk, (s.upd h (.cells cs' t)).blk x = some blk → (x = h ∧ blk = .cells cs' t) ∨ s.blk x = some blk := fun x blk e => by
    simp only [LS.blk, LS.upd, lk] at e
    split at e
    · rename_i e'; cases e; exact .inl ⟨e', rfl⟩
    · exact .inr e
  have live : ∀ x blk, (s.upd h (.cells cs' t)).blk x = some blk → ∃ blk', s.blk x = some blk' := fun x blk e => by
    rcases key x blk e with ⟨rfl, _⟩ | e
    · exact ⟨_, hb⟩
    · exact ⟨_, e⟩
  refine { r with free := fun x hx => r.free x hx, hreps := ?_, inj := ?_, env := fun d v hv => r.env d v hv, dfs := ?_ }
  · intro x blk e
    rcases key x blk e with ⟨rfl, rfl⟩ | e
    · obtain ⟨y, k1, k2, b, us, rfl, k3, k4, k5⟩ := r.hreps _ _ hb
      exact ⟨_, k1, k2, b, us, rfl, k3, hv us k4, k5⟩
    · exact r.hreps x blk e
  · rintro x x' y y' k ⟨b, hx⟩ ⟨b', hx'⟩
    exact r.inj x x' y y' k (live _ _ hx) (live _ _ hx')
  · exact r.dfs.to rfl (Bt.Le.refl _) (Fz.Le.refl _) fun D _ q2 q3 q4 => ⟨q2, q3, fun x blk y hx hy => by
      obtain ⟨blk', hx⟩ := live _ _ hx
      exact q4 x blk' y hx hy⟩
/-- one mark more -/
theorem RelB.mark {C : Cx} {s : LS} {a : Act} {w : World} {β : Bt} {fz : Fz} (r : RelB C s a w β fz) (hs : s.dfs = [snt]) {D : Nat} {args : Array Value} (h1 : C.w0.heap.size ≤ D) (h2 : w.heap[D]? = some (.deferred (some []))) (h3 : ∀ o, fz D o = none) (h4 : ∀ h blk y, s.blk h = some blk → β h = some y → blkOf y ≠ some D)
    (h5 : ∀ d ∈ a.defers, d.target ≠ .collected D) : RelB C s { a with defers := { target := .collected D, args := args } :: a.defers } w β fz := by
  have hc := r.dfs.marks hs
  refine { r with env := fun d v hv => r.env d v hv, nt := r.nt, dfs := .inr ⟨[], [], _, by rw [hs]; rfl, rfl, ⟨rfl, fun j x d _ q => by simp at q⟩, ⟨fun d hd => ?_, List.Pairwise.cons (fun d hd => Ne.symm (h5 d hd)) hc.nodup⟩⟩ }
  rcases List.mem_cons.1 hd with rfl | hd
  · exact ⟨D, rfl, h1, h2, h3, h4⟩
  · exact hc.all d hd
/-! ### the function's end -/
theorem leaves_marks {C : Cx} {P : Program} {fn : Func} {R : Ending → World → Prop} {β : Bt} {fz : Fz} {s : LS} (hs : s.dfs = [snt]) : ∀ (ds : List Deferred) (tmps : Array Value) (w : World), RelB C s ⟨tmps, ds⟩ w β fz → AllCol C.w0.heap.size s w β fz ds →
    (∀ w', RelB C s ⟨tmps, []⟩ w' β fz → ∃ v, (results fn tmps).run P w' = .ok v w' ∧ R (.returned v) w') → LeavesInM Fence.wide 0 P fn tmps R ds .returning w
  | [], tmps, w, r, _, h => h w r
  | d :: ds, tmps, w, r, hc, h => by
    obtain ⟨D, h1, h2, h3, h4, h5⟩ := hc.all d List.mem_cons_self
    have hc' : AllCol C.w0.heap.size s (w.putObj D (.deferred none)) β fz ds := by
      have hn := List.pairwise_cons.1 hc.nodup
      refine ⟨fun e he => ?_, hn.2⟩
      obtain ⟨D', q1, q2, q3, q4, q5⟩ := hc.all e (List.mem_cons_of_mem _ he)
      exact ⟨D', q1, q2, (World.putObj_heap_other fun k => hn.1 e he (by rw [h1, q1, k])).trans q3, q4, q5⟩
    refine ⟨fun e => (by cases e), .inl ⟨D, _, h1, run_takeDeferred h3, leaves_marks hs ds tmps _ (r.putObj h2 h4 h5 rfl rfl rfl rfl (.inr ⟨[], [], ds, by rw [hs]; rfl, rfl, ⟨rfl, fun j x d _ q => by simp at q⟩, hc'⟩)) hc' h⟩⟩
/-- how a function that holds a range over a function may end -/
def RetM (P : Program) (rs : List ResultVar) (d : D) (fx : Fx) (s : LS) : Prop := s.dfs = [snt] ∧ match fx with
  | .ret => ∃ vs, resL P s rs = some vs ∧ (pack vs).toDh s = some d
  | .pan _ => False
theorem SpecP.of_gxM {P : Program} {f : FuncId} {fn : Func} {c : Code} {args : List D} {d : D} (hmx : P.follows .mixedOrders = true) (hf : P.funcs[f]? = some fn) (hb : fn.body = some c) (hn : args.length ≤ fn.ntmps)
    (h : ∀ F : Fx → LS → Prop, (∀ fx s, RetM P fn.results.toList d fx s → F fx s) → gx ⟨P, fn.ntmps, 0, xo P, F⟩ [.code c] ⟨envD 0 args, [], 0, [], []⟩) : SpecP P f args (.ret d) := by
  intro fz w us hok hr
  refine (callsIn_wide (n := 0)).1 (callsIn_of_wp_marks hf hb trivial (wpIn_wide.2 ?_))
  let X : Cx := ⟨P, w, fun _ => none, fz, fun _ => False, 0, fn.ntmps, fun _ _ e => by cases e⟩
  have hrel : Rel X ⟨envD 0 args, [], 0, [], []⟩ { tmps := us ++ Array.replicate (fn.ntmps - us.size) undef, defers := [] } w := by
    refine ⟨fun _ => none, fz, rfl, rfl, rfl, Nat.le_refl _, (fun _ _ _ => rfl), Bt.Le.refl _, (fun _ _ => rfl), Fz.Le.refl _, (fun _ _ _ _ => rfl), hok, (fun _ _ => ⟨rfl, Nat.zero_le _⟩), (fun h blk hb => by cases hb), (fun h h' y y' k ⟨b, hb⟩ => by cases hb), (fun d v hv => ?_), ?_, .inl ⟨rfl, fun j x d a => by simp at a⟩⟩
    · obtain ⟨x, h1, rfl, _⟩ := lk_envD args 0 d v hv
      have hlt : d < us.size := by rw [hr.1]; exact (List.getElem?_eq_some_iff.1 h1).1
      refine ⟨us[d], ?_, .d (hr.2 d x _ (by simpa using h1) (Array.getElem?_eq_getElem hlt))⟩
      rw [Array.getElem?_append_left hlt, Array.getElem?_eq_getElem hlt]
    · have := hr.1
      show (us ++ Array.replicate (fn.ntmps - us.size) undef).size = fn.ntmps
      simp; omega
  have hs := gx_sound hmx X rfl rfl rfl _ [.code c] _ (Nat.le_refl _) ⟨trivial, fun y hy => by cases hy⟩ (h (RetM P fn.results.toList d) fun _ _ h => h) _ w hrel
  refine wp_mono (show c.wp P (sem X (RetM P fn.results.toList d) []) _ w from hs) fun e a' w' he => ?_
  have ret : (∃ s, RetM P fn.results.toList d .ret s ∧ Rel X s a' w') → LeavesInM Fence.wide 0 P fn a'.tmps (fun e w' => ∃ fz' u, Below w.heap.size w w' ∧ Fz.Le fz fz' ∧ (∀ b, b < w.heap.size → ∀ o, fz' b o = fz b o) ∧ FzOk fz' w' ∧ (LO.ret d).is fz' u e) a'.defers .returning w' := fun ⟨s, ⟨hd, vs, h1, h2⟩, β, fz', r⟩ => by
    obtain ⟨tmps, ds⟩ := a'
    refine leaves_marks hd ds tmps w' r (r.dfs.marks hd) fun w'' r' => ?_
    obtain ⟨u, h3, h4⟩ := results_ok r' h1
    exact ⟨u, h3, fzAll X w'' fz', u, ⟨r'.os, r'.tape, r'.output, r'.size, fun k hk => r'.frame k hk fun h => h⟩, r'.fle.trans (fzAll_le r'.ok), (fun b hb o => by
      unfold fzAll
      rw [if_neg (Nat.not_le.2 hb)]
      exact r'.ffr b hb (fun h => h) o), fzAll_ok r'.ok, rfl, toDh_rep r' (fun _ h => h) _ h2 h4⟩
  cases e with
  | normal => exact ret he
  | ret => exact ret he
  | panic ch =>
    obtain ⟨s, x, v, β, fz', ⟨_, hs⟩, _⟩ := he
    exact hs.elim
  | exit id => exact he.elim
  | goto l => exact he.elim
  | outgrown => exact he.elim
end Go.Lm
