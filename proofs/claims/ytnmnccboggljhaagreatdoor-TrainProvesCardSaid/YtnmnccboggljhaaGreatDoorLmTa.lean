/- The logical machine: calls that are put off, and panics that are recovered from. -/
import Derived.Test.YtnmnccboggljhaaGreatDoorLmT
import Derived.Recover
set_option linter.constructorNameAsVariable false
namespace Go.Lm
open Go Go.RowKit

def modeIs (fz : Fz) (m : Option D) (u : FrameMode) : Prop := match m with
  | none => u = .returning
  | some d => ∃ vp, u = .panicking [{ v := vp, recovered := false }] ∧ RepD fz d vp
/-- the function runs as a call that was put off; m: what the frame panics with -/
def dfrC (P : Program) (f : FuncId) (m : Option D) (fz : Fz) (us : Array Value) (w : World) (R : Value → World → Prop) : Prop := ∀ u, modeIs fz m u → CallsD P f us u w fun e u' w' => settle u' = .returning ∧ ∃ v, e = .returned v ∧ R v w'
theorem dfrC_mono {P : Program} {f : FuncId} {m : Option D} : ∀ fz us w (R R' : Value → World → Prop), (∀ u w', R u w' → R' u w') → dfrC P f m fz us w R → dfrC P f m fz us w R' := fun _ _ _ _ _ hR h u hu => (h u hu).mono fun _ _ w' ⟨a, v, b, c⟩ => ⟨a, v, b, hR v w' c⟩
def recV : Option D → V
  | none => .d (.raw .nilIface)
  | some d => .d d
theorem NG.of_gxD {P : Program} {f : FuncId} {fn : Func} {id t : Nat} {as : Array TypeId} {ty : TypeId} {pos : String} {aft : Array Edge} {rest : Code} {args : List V} {N : Nat} {H : List (Nat × Blk)} {m : Option D} {r : V} {H' : List (Nat × Blk)} {N' : Nat} (hmx : P.follows .mixedOrders = true)
    (hf : P.funcs[f]? = some fn) (hb : fn.body = some (.seq (.region id #[⟨some t, .call { callee := .builtin .recover, args := #[], argTypes := as }, ty, pos, aft, none⟩] false) rest)) (hn : args.length ≤ fn.ntmps) (ht : t < fn.ntmps)
    (h : ∀ F : Fx → LS → Prop, (∀ fx s, RetV P fn.results.toList r H' N' fx s → F fx s) → gx ⟨P, fn.ntmps, N, xo P, F⟩ [.code rest] ⟨(t, recV m) :: envV 0 args, H.map (fun x => (x.1, some x.2)), N, [], []⟩) : NG (dfrC P f m) args N H r H' N' := by
  intro β fz own w us hok hown hH hinj hfree hr u hu
  refine callsD_of_wpS hf hb fun c₀ cs hmode => ?_
  let X : Cx := ⟨P, w, β, fz, BlkIn β H, N, fn.ntmps, fun k x e => by
    refine Decidable.byContradiction fun hk => ?_
    rw [hfree k (by omega)] at e; cases e⟩
  have hHm : ∀ e x b, (LS.mk e (H.map (fun x => (x.1, some x.2))) N [] []).blk x = some b → (x, b) ∈ H := fun _ x b e => by
    simp only [LS.blk, lk_some_map] at e
    cases hq : lk H x with
    | none => rw [hq] at e; cases e
    | some b' => rw [hq] at e; cases e; exact lk_mem hq
  let a0 : Act := { tmps := us ++ Array.replicate (fn.ntmps - us.size) undef, defers := [] }
  have hsz : a0.tmps.size = fn.ntmps := by
    have := hr.1
    show (us ++ Array.replicate (fn.ntmps - us.size) undef).size = fn.ntmps
    simp; omega
  have hrel : ∀ vr, RepV β fz (recV m) vr → Rel X ⟨(t, recV m) :: envV 0 args, H.map (fun x => (x.1, some x.2)), N, [], []⟩ (a0.put (some t) vr) w := fun vr hvr => by
    refine ⟨β, fz, rfl, rfl, rfl, Nat.le_refl _, (fun _ _ _ => rfl), Bt.Le.refl _, (fun _ _ => rfl), Fz.Le.refl _, (fun _ _ _ _ => rfl), hok, (fun h hh => ⟨hfree h hh.1, hh.1⟩), (fun h blk hb => ?_), (fun h h' y y' k ⟨b, hb⟩ ⟨b', hb'⟩ => hinj h h' y y' k ⟨_, hHm _ _ _ hb, rfl⟩ ⟨_, hHm _ _ _ hb', rfl⟩), (fun d v hv => ?_), ?_, .inl ⟨rfl, fun j x d a => by simp at a⟩⟩
    · have hm := hHm _ _ _ hb
      obtain ⟨y, h1, h2, h3⟩ := hH _ hm
      exact ⟨y, h1, fun k hk => ⟨.inr ⟨_, hm, y, h1, hk⟩, (h2 k hk).2⟩, h3⟩
    · simp only [lk] at hv
      split at hv
      · rename_i e
        cases hv
        subst e
        exact ⟨vr, by simp [Act.put, hsz, ht], hvr⟩
      · rename_i e
        obtain ⟨h1, _⟩ := lk_envV args 0 d v hv
        have hlt : d < us.size := by rw [hr.1]; exact (List.getElem?_eq_some_iff.1 h1).1
        refine ⟨us[d], ?_, hr.2 d v _ (by simpa using h1) (Array.getElem?_eq_getElem hlt)⟩
        simp only [Act.put]
        rw [Array.getElem?_setIfInBounds_ne (Ne.symm e)]
        show (us ++ Array.replicate (fn.ntmps - us.size) undef)[d]? = _
        rw [Array.getElem?_append_left hlt, Array.getElem?_eq_getElem hlt]
    · show (a0.put (some t) vr).tmps.size = fn.ntmps
      simpa [Act.put] using hsz
  have main : ∀ vr, RepV β fz (recV m) vr → rest.wp P (fun e a' w' => match e with
      | .normal | .ret => a'.defers = [] ∧ ∃ v, (results fn a'.tmps).run P w' = .ok v w' ∧ ∃ β' fz', Post β fz w own H (List.range' N (N' - N)) H' r v β' fz' w'
      | _ => False) (a0.put (some t) vr) w := fun vr hvr => by
    have hs := gx_sound hmx X rfl rfl rfl _ [.code rest] _ (Nat.le_refl _) ⟨trivial, fun y hy => by cases hy⟩ (h (RetV P fn.results.toList r H' N') fun _ _ h => h) _ w (hrel vr hvr)
    refine wp_mono (show rest.wp P (sem X (RetV P fn.results.toList r H' N') []) _ w from hs) fun e a' w' he => ?_
    have ret : (∃ s, RetV P fn.results.toList r H' N' .ret s ∧ Rel X s a' w') → a'.defers = [] ∧ ∃ v, (results fn a'.tmps).run P w' = .ok v w' ∧ ∃ β' fz', Post β fz w own H (List.range' N (N' - N)) H' r v β' fz' w' := fun ⟨s, ⟨hd, vs, h1, h2, h3, h4⟩, β', fz', rb⟩ => by
      obtain ⟨u, k1, k2⟩ := results_ok rb h1
      have nodef : a'.defers = [] := rb.dfs.nil hd
      refine ⟨nodef, u, k1, β', fz', ?_⟩
      subst h2
      exact {
        ble := rb.ble
        bnew := fun x hx => by
          by_cases h0 : x < N
          · exact rb.bnew x h0
          · have h5 : N' ≤ x := by
              refine Decidable.byContradiction fun h6 => hx ?_
              rw [List.mem_range'_1]
              omega
            rw [(rb.free x (h4 x h5)).1, hfree x (by omega)]
        fle := rb.fle
        ffr := fun b hb hn o => rb.ffr b hb hn o
        ok := rb.ok
        os := rb.os
        tape := rb.tape
        output := rb.output
        size := rb.size
        frame := fun b hb hn => rb.frame b hb hn
        hreps := fun x hx => by
          obtain ⟨y, q1, q2, q3⟩ := rb.hreps _ _ (h3 x hx)
          refine ⟨y, q1, fun k hk => ⟨?_, (q2 k hk).2⟩, q3⟩
          rcases (q2 k hk).1 with h | ⟨z, hz, y', hy', hk'⟩
          · exact hown k h
          · obtain ⟨y'', p1, p2, _⟩ := hH z hz
            rw [hy'] at p1; cases p1
            exact (p2 k hk').1
        blks := fun x hx y k hy hk => by
          obtain ⟨y', q1, q2, q3⟩ := rb.hreps _ _ (h3 x hx)
          rw [hy] at q1; cases q1
          exact (q2 k hk).1
        inj := fun h h' y y' k ⟨x, hx, e⟩ ⟨x', hx', e'⟩ => rb.inj h h' y y' k ⟨_, e ▸ h3 x hx⟩ ⟨_, e' ▸ h3 x' hx'⟩
        v := k2 }
    cases e with
    | normal => exact ret he
    | ret => exact ret he
    | panic ch =>
      obtain ⟨s, x, v, β, fz', ⟨hd, hs⟩, _⟩ := he
      exact hs.elim
    | exit id => exact he.elim
    | goto l => exact he.elim
    | outgrown => exact he.elim
  have fin : ∀ (u' : FrameMode) (vr : Value), RepV β fz (recV m) vr → settle u' = .returning → rest.wpS P (bodyPostS P fn c₀ cs fun e u' w' => settle u' = .returning ∧ ∃ v, e = .returned v ∧ ∃ β' fz', Post β fz w own H (List.range' N (N' - N)) H' r v β' fz' w') (a0.put (some t) vr) ({ c₀ with mode := u' } :: cs) w := fun u' vr hvr hs => by
    refine wpS_of_wp (wp_mono (main vr hvr) fun e a' w' he => ?_)
    cases e with
    | normal => exact ⟨he.1, u', rfl, he.2.choose, he.2.choose_spec.1, hs, _, rfl, he.2.choose_spec.2⟩
    | ret => exact ⟨he.1, u', rfl, he.2.choose, he.2.choose_spec.1, hs, _, rfl, he.2.choose_spec.2⟩
    | _ => exact he.elim
  refine wpS_seq (wpS_region ?_)
  show wpOpsS P #[⟨some t, .call { callee := .builtin .recover, args := #[], argTypes := as }, ty, pos, aft, none⟩] _ [0] a0 (c₀ :: cs) w
  unfold wpOpsS
  simp only [List.getElem?_toArray, List.getElem?_cons_zero, Region.wanted, if_true]
  have hx : (execOp (Act.eval a0) ⟨some t, .call { callee := .builtin .recover, args := #[], argTypes := as }, ty, pos, aft, none⟩).run P w = .ok .recover w := rfl
  simp only [hx]
  cases m with
  | none =>
    obtain rfl : u = .returning := hu
    have : recoverD (c₀ :: cs) = none := by simp [recoverD, hmode]
    simp only [this]
    have := fin .returning .nilIface (.d (.raw _)) rfl
    rwa [show ({ c₀ with mode := .returning } : Frame) = c₀ by rw [← hmode]] at this
  | some d =>
    obtain ⟨vp, rfl, hvp⟩ := hu
    have : recoverD (c₀ :: cs) = some (vp, { c₀ with mode := .panicking [{ v := vp, recovered := true }] } :: cs) := by simp [recoverD, hmode]
    simp only [this]
    exact fin _ vp (.d hvp) rfl

/-- how a function with at most one call that was put off may end -/
def RetX (P : Program) (rs : List ResultVar) (o : LO) (fx : Fx) (s : LS) : Prop := RetD P rs o fx s ∨ ∃ d f cap args H news H' r, o = .ret d ∧ s.dfs = [(.func f, cap, args)] ∧ Enters P f ∧ HG (dfrC P f (match fx with | .ret => none | .pan d => some d)) (args ++ cap) H news H' r ∧
  (∀ x ∈ H, s.blk x.1 = some x.2) ∧ (∀ h ∈ news, s.free h) ∧ (∀ x ∈ H', x.1 ∈ news ∨ ∃ z ∈ H, z.1 = x.1) ∧ ∃ vs, resL P (s.app none ⟨[], [], H, news, H', r⟩) rs = some vs ∧ (pack vs).toDh (s.app none ⟨[], [], H, news, H', r⟩) = some d
theorem SpecP.of_gxD {P : Program} {f : FuncId} {fn : Func} {c : Code} {args : List D} {o : LO} (hmx : P.follows .mixedOrders = true) (hf : P.funcs[f]? = some fn) (hb : fn.body = some c) (hn : args.length ≤ fn.ntmps)
    (h : ∀ F : Fx → LS → Prop, (∀ fx s, RetX P fn.results.toList o fx s → F fx s) → gx ⟨P, fn.ntmps, 0, xo P, F⟩ [.code c] ⟨envD 0 args, [], 0, [], []⟩) : SpecP P f args o := by
  intro fz w us hok hr
  refine calls_of_wp_defers hf hb ?_
  let X : Cx := ⟨P, w, fun _ => none, fz, fun _ => False, 0, fn.ntmps, fun _ _ e => by cases e⟩
  have hrel : Rel X ⟨envD 0 args, [], 0, [], []⟩ { tmps := us ++ Array.replicate (fn.ntmps - us.size) undef, defers := [] } w := by
    refine ⟨fun _ => none, fz, rfl, rfl, rfl, Nat.le_refl _, (fun _ _ _ => rfl), Bt.Le.refl _, (fun _ _ => rfl), Fz.Le.refl _, (fun _ _ _ _ => rfl), hok, (fun _ _ => ⟨rfl, Nat.zero_le _⟩), (fun h blk hb => by cases hb), (fun h h' y y' k ⟨b, hb⟩ => by cases hb), (fun d v hv => ?_), ?_, .inl ⟨rfl, fun j x d a => by simp at a⟩⟩
    · obtain ⟨x, h1, rfl, _⟩ := lk_envD args 0 d v hv
      have hlt : d < us.size := by rw [hr.1]; exact (List.getElem?_eq_some_iff.1 h1).1
      refine ⟨us[d], ?_, .d (hr.2 d x _ (by simpa using h1) (Array.getElem?_eq_getElem hlt))⟩
      rw [Array.getElem?_append_left hlt, Array.getElem?_eq_getElem hlt]
    · have := hr.1
      show (us ++ Array.replicate (fn.ntmps - us.size) undef).size = fn.ntmps
      simp; omega
  have hs := gx_sound hmx X rfl rfl rfl _ [.code c] _ (Nat.le_refl _) ⟨trivial, fun y hy => by cases hy⟩ (h (RetX P fn.results.toList o) fun _ _ h => h) _ w hrel
  refine wp_mono (show c.wp P (sem X (RetX P fn.results.toList o) []) _ w from hs) fun e a' w' he => ?_
  have below : ∀ {s a' w' β fz'}, RelB X s a' w' β fz' → Below w.heap.size w w' ∧ Fz.Le fz fz' ∧ (∀ b, b < w.heap.size → ∀ o, fz' b o = fz b o) ∧ FzOk fz' w' := fun r =>
    ⟨⟨r.os, r.tape, r.output, r.size, fun k hk => r.frame k hk fun h => h⟩, r.fle, fun b hb o => r.ffr b hb (fun h => h) o, r.ok⟩
  have belowA : ∀ {s a' w' β fz'}, RelB X s a' w' β fz' → Below w.heap.size w w' ∧ Fz.Le fz (fzAll X w' fz') ∧ (∀ b, b < w.heap.size → ∀ o, fzAll X w' fz' b o = fz b o) ∧ FzOk (fzAll X w' fz') w' := fun r =>
    ⟨⟨r.os, r.tape, r.output, r.size, fun k hk => r.frame k hk fun h => h⟩, r.fle.trans (fzAll_le r.ok), fun b hb o => by
      unfold fzAll
      rw [if_neg (Nat.not_le.2 hb)]
      exact r.ffr b hb (fun h => h) o, fzAll_ok r.ok⟩
  have nodef : ∀ {s β fz'}, RelB X s a' w' β fz' → s.dfs = [] → a'.defers = [] := fun {s β fz'} r hd => r.dfs.nil hd
  -- one call that was put off
  have one : ∀ (s : LS) (β : Bt) (fz' : Fz) (fx : Fx) (u : FrameMode), RelB X s a' w' β fz' → u ≠ .run → modeIs fz' (match fx with | .ret => none | .pan d => some d) u →
      (∃ d f cap args H news H' r, o = .ret d ∧ s.dfs = [(.func f, cap, args)] ∧ Enters P f ∧ HG (dfrC P f (match fx with | .ret => none | .pan d => some d)) (args ++ cap) H news H' r ∧
        (∀ x ∈ H, s.blk x.1 = some x.2) ∧ (∀ h ∈ news, s.free h) ∧ (∀ x ∈ H', x.1 ∈ news ∨ ∃ z ∈ H, z.1 = x.1) ∧ ∃ vs, resL P (s.app none ⟨[], [], H, news, H', r⟩) fn.results.toList = some vs ∧ (pack vs).toDh (s.app none ⟨[], [], H, news, H', r⟩) = some d) →
      Leaves P fn a'.tmps (fun e w' => ∃ fz' u, Below w.heap.size w w' ∧ Fz.Le fz fz' ∧ (∀ b, b < w.heap.size → ∀ o, fz' b o = fz b o) ∧ FzOk fz' w' ∧ o.is fz' u e) a'.defers u w' := fun s β fz' fx u r hu hm ⟨d, g, cap, dargs, H, news, H', rv, ho, hd, hen, hg, h1, h2, h3, vs, h4, h5⟩ => by
    subst ho
    obtain ⟨hl, hdr⟩ := r.dfs.plain (fun x hx => by rw [hd] at hx; simp at hx; subst hx; intro e; cases e)
    rw [hd] at hl
    match hds : a'.defers, hl with
    | [df], _ =>
      rw [hds] at hdr
      obtain ⟨_, cap', q1, q2, q3⟩ := hdr 0 (.func g, cap, dargs) df (by rw [hd]; rfl) rfl
      have hall : RepVs β fz' (dargs ++ cap) (df.args ++ cap') := by
        have := ((RepVs.list q3).append (RepVs.list q2)).arr
        have e : (df.args.toList ++ cap'.toList).toArray = df.args ++ cap' := by apply Array.ext'; simp
        rwa [e] at this
      have hinv : (invoke df.target df.args).run P w' = .ok (.enter g (df.args ++ cap')) w' := by
        rw [q1]
        exact hen _ w'
      refine ⟨hu, .func g, cap', g, _, q1, hinv, ?_⟩
      have hc := hg β fz' X.own w' _ r.ok (fun k hk => .inl (Nat.le_trans r.size hk)) (fun x hx => r.hreps _ _ (h1 x hx)) (fun h h' y y' k ⟨x, hx, e⟩ ⟨x', hx', e'⟩ => r.inj h h' y y' k ⟨_, e ▸ h1 x hx⟩ ⟨_, e' ▸ h1 x' hx'⟩) (fun h hh => (r.free h (h2 h hh)).1) hall u hm
      refine hc.mono fun e u' w'' ⟨k1, v, k2, β', fz'', p⟩ => ?_
      subst k2
      have r' := p.rel (e := ⟨[], [], H, news, H', rv⟩) (dst := none) r (fun d e => by cases e) h1 h2
      obtain ⟨ur, k3, k4⟩ := results_ok r' h4
      obtain ⟨b1, b2, b3, b4⟩ := belowA r'
      simp only [k1]
      exact ⟨ur, k3, fzAll X w'' fz'', ur, b1, b2, b3, b4, rfl, toDh_rep r' (fun _ h => h) _ h5 k4⟩
  have ret : (∃ s, RetX P fn.results.toList o .ret s ∧ Rel X s a' w') → bodyPostD P fn (fun e w' => ∃ fz' u, Below w.heap.size w w' ∧ Fz.Le fz fz' ∧ (∀ b, b < w.heap.size → ∀ o, fz' b o = fz b o) ∧ FzOk fz' w' ∧ o.is fz' u e) .ret a' w' := fun ⟨s, hx, β, fz', r⟩ => by
    rcases hx with ⟨hd, hs⟩ | hx
    · cases o with
      | pan d => exact hs.elim
      | ret d =>
        obtain ⟨vs, h1, h2⟩ := hs
        obtain ⟨u, h3, h4⟩ := results_ok r h1
        obtain ⟨k1, k2, k3, k4⟩ := belowA r
        show Leaves P fn a'.tmps _ a'.defers .returning w'
        rw [nodef r hd]
        exact ⟨u, h3, fzAll X w' fz', u, k1, k2, k3, k4, rfl, toDh_rep r (fun _ h => h) _ h2 h4⟩
    · exact one s β fz' .ret .returning r (fun e => by cases e) rfl hx
  cases e with
  | normal => exact ret he
  | ret => exact ret he
  | panic ch =>
    obtain ⟨s, x, v, β, fz', hx, rfl, r, hv⟩ := he
    rcases hx with ⟨hd, hs⟩ | hx
    · cases o with
      | ret d => exact hs.elim
      | pan d =>
        obtain rfl : x = d := hs
        obtain ⟨k1, k2, k3, k4⟩ := below r
        show Leaves P fn a'.tmps _ a'.defers (.panicking _) w'
        rw [nodef r hd]
        exact ⟨fz', v, k1, k2, k3, k4, rfl, hv⟩
    · exact one s β fz' (.pan x) _ r (fun e => by cases e) ⟨v, rfl, hv⟩ hx
  | exit id => exact he.elim
  | goto l => exact he.elim
  | outgrown => exact he.elim
end Go.Lm
