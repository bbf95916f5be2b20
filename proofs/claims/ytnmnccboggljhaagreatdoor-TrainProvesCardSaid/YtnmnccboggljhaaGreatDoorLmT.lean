/- The logical machine: calls that are handed memory of the caller's. -/
import Derived.Test.YtnmnccboggljhaaGreatDoorLmS
set_option linter.constructorNameAsVariable false
namespace Go.Lm
open Go Go.RowKit

/-- all handles in a value are less than N -/
def V.lt (N : Nat) : V → Bool
  | .p x _ => Nat.blt x N
  | .own x _ _ => Nat.blt x N
  | .ms x _ _ => Nat.blt x N
  | .h x => Nat.blt x N
  | .agg cs => lts cs
  | .tup cs => lts cs
  | .fn _ a c => lts a && lts c
  | _ => true
where lts : List V → Bool
  | [] => true
  | v :: vs => v.lt N && lts vs
def Blk.lt (N : Nat) : Blk → Bool
  | .cells cs _ => V.lt.lts N cs
  | _ => true
/-- a row is handed over as data that nobody changes -/
def V.frz : V → V
  | .own _ sz rows => .d (.sl sz rows)
  | .agg cs => .agg (go cs)
  | .tup cs => .tup (go cs)
  | v => v
where go : List V → List V
  | [] => []
  | v :: vs => v.frz :: go vs

mutual
theorem lt_rep {N : Nat} {β β' : Bt} {fz : Fz} (hb : ∀ h x, h < N → β h = some x → β' h = some x) : ∀ (v : V) {u : Value}, v.lt N = true → RepV β fz v u → RepV β' fz v u
  | .d x, _, _, .d h => .d h
  | .p h o, _, k, .p hq => .p (hb _ _ (by simpa [V.lt] using k) hq)
  | .q .., _, _, .q g a b c => .q g a b c
  | .own h sz r, _, k, .own hq hr => .own (hb _ _ (by simpa [V.lt] using k) hq) hr
  | .ms h sz n, _, k, .ms hq hn ho => .ms (hb _ _ (by simpa [V.lt] using k) hq) hn ho
  | .agg cs, _, k, .agg hl h => by
    have := lts_rep hb cs (by simpa only [V.lt] using k) ⟨hl, h⟩
    exact .agg this.1 this.2
  | .tup cs, _, k, .tup hl h => by
    have := lts_rep hb cs (by simpa only [V.lt] using k) ⟨hl, h⟩
    exact .tup this.1 this.2
  | .fn f a c, _, k, .fn hla ha hlc hc => by
    simp only [V.lt, Bool.and_eq_true] at k
    have h1 := lts_rep hb a k.1 ⟨hla, ha⟩
    have h2 := lts_rep hb c k.2 ⟨hlc, hc⟩
    exact .fn h1.1 h1.2 h2.1 h2.2
  | .h _, _, k, .h hq => .h (hb _ _ (by simpa [V.lt] using k) hq)
  | .u, _, _, .u v => .u v
theorem lts_rep {N : Nat} {β β' : Bt} {fz : Fz} (hb : ∀ h x, h < N → β h = some x → β' h = some x) : ∀ (vs : List V) {us : Array Value}, V.lt.lts N vs = true → RepVs β fz vs us → RepVs β' fz vs us
  | [], us, _, h => ⟨h.1, fun j d u a => by simp at a⟩
  | v :: vs, us, k, h => by
    simp only [V.lt.lts, Bool.and_eq_true] at k
    obtain ⟨u, h0, h1, h2⟩ := h.tail
    have k1 := lt_rep hb v k.1 h1
    have k2 := lts_rep hb vs k.2 h2
    have hs := h.1
    simp only [List.length_cons] at hs
    refine ⟨by simp only [List.length_cons]; omega, fun j d w a b => ?_⟩
    cases j with
    | zero =>
      simp at a
      subst a
      rw [h0] at b; cases b; exact k1
    | succ j =>
      refine k2.2 j d w (by simpa using a) ?_
      have := (Array.getElem?_eq_some_iff.1 b).1
      rw [Array.getElem?_extract, if_pos (by omega), Nat.add_comm]; exact b
end
mutual
theorem frz_rep {β : Bt} {fz : Fz} : ∀ (v : V) {u : Value}, RepV β fz v u → RepV β fz v.frz u
  | .d x, _, h => h
  | .p _ _, _, hh => hh
  | .q .., _, h => h
  | .own h sz r, _, .own hq hr => .d hr
  | .ms _ _ _, _, hh => hh
  | .agg cs, _, .agg hl h => by
    have := frzs_rep cs ⟨hl, h⟩
    exact .agg this.1 this.2
  | .tup cs, _, .tup hl h => by
    have := frzs_rep cs ⟨hl, h⟩
    exact .tup this.1 this.2
  | .fn f a c, _, h => h
  | .h _, _, hh => hh
  | .u, _, h => h
theorem frzs_rep {β : Bt} {fz : Fz} : ∀ (vs : List V) {us : Array Value}, RepVs β fz vs us → RepVs β fz (V.frz.go vs) us
  | [], us, h => h
  | v :: vs, us, h => by
    obtain ⟨u, h0, h1, h2⟩ := h.tail
    have k1 := frz_rep v h1
    have k2 := frzs_rep vs h2
    have hs := h.1
    simp only [List.length_cons] at hs
    have ks := k2.1
    simp only [Array.size_extract] at ks
    refine ⟨by simp only [V.frz.go, List.length_cons]; omega, fun j d w a b => ?_⟩
    cases j with
    | zero =>
      simp [V.frz.go] at a
      subst a
      rw [h0] at b; cases b; exact k1
    | succ j =>
      refine k2.2 j d w (by simpa [V.frz.go] using a) ?_
      have := (Array.getElem?_eq_some_iff.1 b).1
      rw [Array.getElem?_extract, if_pos (by omega), Nat.add_comm]; exact b
end

/-- called with such values, where such blocks lie and no handle from N on is in use -/
def SpecN (P : Program) (f : FuncId) (args : List V) (N : Nat) (H : List (Nat × Blk)) (r : V) (H' : List (Nat × Blk)) (N' : Nat) : Prop :=
  ∀ (β : Bt) (fz : Fz) (own : Nat → Prop) (w : World) (us : Array Value), FzOk fz w → (∀ k, w.heap.size ≤ k → own k) →
  (∀ x ∈ H, HRep β fz w own x.1 x.2) → InjOn β (fun h => ∃ x ∈ H, x.1 = h) → (∀ h, N ≤ h → β h = none) → RepVs β fz args us →
  Calls P f us w fun e w' => ∃ u β' fz', Post β fz w own H (List.range' N (N' - N)) H' r u β' fz' w' ∧ e = .returned u
def envV : Nat → List V → List (Nat × V)
  | _, [] => []
  | k, v :: vs => (k, v) :: envV (k + 1) vs
theorem lk_envV : ∀ (ds : List V) (k n : Nat) (v : V), lk (envV k ds) n = some v → ds[n - k]? = some v ∧ k ≤ n
  | [], k, n, v, h => by cases h
  | d :: ds, k, n, v, h => by
    simp only [envV, lk] at h
    split at h
    · rename_i e
      cases h
      subst e
      exact ⟨by simp, Nat.le_refl _⟩
    · rename_i e
      obtain ⟨h1, h3⟩ := lk_envV ds (k + 1) n v h
      refine ⟨?_, by omega⟩
      rw [show n - k = (n - (k + 1)) + 1 by omega]
      simpa using h1
def RetV (P : Program) (rs : List ResultVar) (r : V) (H' : List (Nat × Blk)) (N' : Nat) (fx : Fx) (s : LS) : Prop := s.dfs = [] ∧ match fx with
  | .ret => ∃ vs, resL P s rs = some vs ∧ pack vs = r ∧ (∀ x ∈ H', s.blk x.1 = some x.2) ∧ (∀ h, N' ≤ h → s.free h)
  | .pan _ => False
/-- a function's contract by its body -/
theorem SpecN.of_gx {P : Program} {f : FuncId} {fn : Func} {c : Code} {args : List V} {N : Nat} {H : List (Nat × Blk)} {r : V} {H' : List (Nat × Blk)} {N' : Nat} (hmx : P.follows .mixedOrders = true) (hf : P.funcs[f]? = some fn) (hb : fn.body = some c) (hn : args.length ≤ fn.ntmps)
    (h : ∀ F : Fx → LS → Prop, (∀ fx s, RetV P fn.results.toList r H' N' fx s → F fx s) → gx ⟨P, fn.ntmps, N, xo P, F⟩ [.code c] ⟨envV 0 args, H.map (fun x => (x.1, some x.2)), N, [], []⟩) : SpecN P f args N H r H' N' := by
  intro β fz own w us hok hown hH hinj hfree hr
  refine calls_of_wp hf hb ?_
  let X : Cx := ⟨P, w, β, fz, BlkIn β H, N, fn.ntmps, fun k x e => by
    refine Decidable.byContradiction fun hk => ?_
    rw [hfree k (by omega)] at e; cases e⟩
  have hHm : ∀ x b, (LS.mk (envV 0 args) (H.map (fun x => (x.1, some x.2))) N [] []).blk x = some b → (x, b) ∈ H := fun x b e => by
    simp only [LS.blk, lk_some_map] at e
    cases hq : lk H x with
    | none => rw [hq] at e; cases e
    | some b' => rw [hq] at e; cases e; exact lk_mem hq
  have hrel : Rel X ⟨envV 0 args, H.map (fun x => (x.1, some x.2)), N, [], []⟩ { tmps := us ++ Array.replicate (fn.ntmps - us.size) undef, defers := [] } w := by
    refine ⟨β, fz, rfl, rfl, rfl, Nat.le_refl _, (fun _ _ _ => rfl), Bt.Le.refl _, (fun _ _ => rfl), Fz.Le.refl _, (fun _ _ _ _ => rfl), hok, (fun h hh => ⟨hfree h hh.1, hh.1⟩), (fun h blk hb => ?_), (fun h h' y y' k ⟨b, hb⟩ ⟨b', hb'⟩ => hinj h h' y y' k ⟨_, hHm _ _ hb, rfl⟩ ⟨_, hHm _ _ hb', rfl⟩), (fun d v hv => ?_), ?_, .inl ⟨rfl, fun j x d a => by simp at a⟩⟩
    · have hm := hHm _ _ hb
      obtain ⟨y, h1, h2, h3⟩ := hH _ hm
      exact ⟨y, h1, fun k hk => ⟨.inr ⟨_, hm, y, h1, hk⟩, (h2 k hk).2⟩, h3⟩
    · obtain ⟨h1, _⟩ := lk_envV args 0 d v hv
      have hlt : d < us.size := by rw [hr.1]; exact (List.getElem?_eq_some_iff.1 h1).1
      refine ⟨us[d], ?_, hr.2 d v _ (by simpa using h1) (Array.getElem?_eq_getElem hlt)⟩
      rw [Array.getElem?_append_left hlt, Array.getElem?_eq_getElem hlt]
    · have := hr.1
      show (us ++ Array.replicate (fn.ntmps - us.size) undef).size = fn.ntmps
      simp; omega
  have hs := gx_sound hmx X rfl rfl rfl _ [.code c] _ (Nat.le_refl _) ⟨trivial, fun y hy => by cases hy⟩ (h (RetV P fn.results.toList r H' N') fun _ _ h => h) _ w hrel
  refine wp_mono (show c.wp P (sem X (RetV P fn.results.toList r H' N') []) _ w from hs) fun e a' w' he => ?_
  have ret : (∃ s, RetV P fn.results.toList r H' N' .ret s ∧ Rel X s a' w') → bodyPost P fn (fun e w' => ∃ u β' fz', Post β fz w own H (List.range' N (N' - N)) H' r u β' fz' w' ∧ e = .returned u) .ret a' w' := fun ⟨s, ⟨hd, vs, h1, h2, h3, h4⟩, β', fz', rb⟩ => by
    obtain ⟨u, k1, k2⟩ := results_ok rb h1
    have nodef : a'.defers = [] := rb.dfs.nil hd
    refine ⟨nodef, u, k1, u, β', fz', ?_, rfl⟩
    subst h2
    exact {
      ble := rb.ble
      bnew := fun x hx => by
        by_cases h0 : x < N
        · exact rb.bnew x h0
        · have h5 : N' ≤ x := by
            refine Decidable.byContradiction fun h6 => hx ?_
            rw [List.mem_range'_1]
            omega
          rw [(rb.free x (h4 x h5)).1, hfree x (by omega)]
      fle := rb.fle
      ffr := fun b hb hn o => rb.ffr b hb hn o
      ok := rb.ok
      os := rb.os
      tape := rb.tape
      output := rb.output
      size := rb.size
      frame := fun b hb hn => rb.frame b hb hn
      hreps := fun x hx => by
        obtain ⟨y, q1, q2, q3⟩ := rb.hreps _ _ (h3 x hx)
        refine ⟨y, q1, fun k hk => ⟨?_, (q2 k hk).2⟩, q3⟩
        rcases (q2 k hk).1 with h | ⟨z, hz, y', hy', hk'⟩
        · exact hown k h
        · obtain ⟨y'', p1, p2, _⟩ := hH z hz
          rw [hy'] at p1; cases p1
          exact (p2 k hk').1
      blks := fun x hx y k hy hk => by
        obtain ⟨y', q1, q2, q3⟩ := rb.hreps _ _ (h3 x hx)
        rw [hy] at q1; cases q1
        exact (q2 k hk).1
      inj := fun h h' y y' k ⟨x, hx, e⟩ ⟨x', hx', e'⟩ => rb.inj h h' y y' k ⟨_, e ▸ h3 x hx⟩ ⟨_, e' ▸ h3 x' hx'⟩
      v := k2 }
  cases e with
  | normal => exact ret he
  | ret => exact ret he
  | panic ch =>
    obtain ⟨s, x, v, β, fz', ⟨hd, hs⟩, _⟩ := he
    exact hs.elim
  | exit id => exact he.elim
  | goto l => exact he.elim
  | outgrown => exact he.elim

theorem HB.lt {N : Nat} {β β' : Bt} {fz : Fz} {w : World} {x : Value} {b : Blk} (hb : ∀ h x, h < N → β h = some x → β' h = some x) (hl : b.lt N = true) (h : HB β fz w x b) : HB β' fz w x b := by
  cases b with
  | cells cs t =>
    obtain ⟨bb, us, rfl, h1, h2, h3⟩ := h
    exact ⟨bb, us, rfl, h1, lts_rep hb cs hl h2, h3⟩
  | _ => exact h
/-- what a way of calling says, with names of blocks -/
def HG (C : Fz → Array Value → World → (Value → World → Prop) → Prop) (args : List V) (hp : List (Nat × Blk)) (news : List Nat) (out : List (Nat × Blk)) (r : V) : Prop := ∀ (β : Bt) (fz : Fz) (own : Nat → Prop) (w : World) (us : Array Value), FzOk fz w → (∀ k, w.heap.size ≤ k → own k) →
  (∀ x ∈ hp, HRep β fz w own x.1 x.2) → InjOn β (fun h => ∃ x ∈ hp, x.1 = h) → (∀ h ∈ news, β h = none) → RepVs β fz args us →
  C fz us w fun u w' => ∃ β' fz', Post β fz w own hp news out r u β' fz' w'
def NG (C : Fz → Array Value → World → (Value → World → Prop) → Prop) (args : List V) (N : Nat) (H : List (Nat × Blk)) (r : V) (H' : List (Nat × Blk)) (N' : Nat) : Prop := ∀ (β : Bt) (fz : Fz) (own : Nat → Prop) (w : World) (us : Array Value), FzOk fz w → (∀ k, w.heap.size ≤ k → own k) →
  (∀ x ∈ H, HRep β fz w own x.1 x.2) → InjOn β (fun h => ∃ x ∈ H, x.1 = h) → (∀ h, N ≤ h → β h = none) → RepVs β fz args us →
  C fz us w fun u w' => ∃ β' fz', Post β fz w own H (List.range' N (N' - N)) H' r u β' fz' w'
theorem NG.toH {C : Fz → Array Value → World → (Value → World → Prop) → Prop} (hC : ∀ fz us w (R R' : Value → World → Prop), (∀ u w', R u w' → R' u w') → C fz us w R → C fz us w R') {args : List V} {N : Nat} {H : List (Nat × Blk)} {r : V} {H' : List (Nat × Blk)} {N' : Nat} (h : NG C (V.frz.go args) N H r H' N') (ha : V.lt.lts N (V.frz.go args) = true) (hH : ∀ x ∈ H, x.1 < N ∧ x.2.lt N = true) : HG C args H (List.range' N (N' - N)) H' r := by
  intro β fz own w us hok hown hhp hinj hnews hr
  let βr : Bt := fun k => if k < N then β k else none
  have hle : ∀ k x, k < N → β k = some x → βr k = some x := fun k x hk e => by simp [βr, hk, e]
  have hle' : Bt.Le βr β := fun k x e => by
    simp only [βr] at e
    split at e
    · exact e
    · cases e
  have hk0 : ∀ x ∈ H, βr x.1 = β x.1 := fun x hx => by simp [βr, (hH x hx).1]
  refine hC _ _ _ _ _ ?_ (h βr fz own w us hok hown (fun x hx => ?_) (fun h h' y y' k ⟨x, hx, e⟩ ⟨x', hx', e'⟩ h1 h2 => hinj h h' y y' k ⟨x, hx, e⟩ ⟨x', hx', e'⟩ (hle' _ _ h1) (hle' _ _ h2)) (fun k hk => by simp [βr, Nat.not_lt.2 hk]) (lts_rep hle _ ha (frzs_rep _ hr)))
  · rintro u w' ⟨β', fz', p⟩
    let β'' : Bt := fun k => if k ∈ List.range' N (N' - N) then β' k else β k
    have hup : Bt.Le β' β'' := fun k x e => by
      by_cases hk : k ∈ List.range' N (N' - N)
      · simp only [β'', if_pos hk]; exact e
      · have := p.bnew k hk
        rw [this] at e
        simp only [β'', if_neg hk]
        exact hle' _ _ e
    have hbi : ∀ k, BlkIn βr H k ↔ BlkIn β H k := fun k => by
      constructor
      · exact fun ⟨x, hx, y, h1, h2⟩ => ⟨x, hx, y, hle' _ _ h1, h2⟩
      · exact fun ⟨x, hx, y, h1, h2⟩ => ⟨x, hx, y, by rw [hk0 x hx]; exact h1, h2⟩
    have hout : ∀ x ∈ H', ∀ y, β'' x.1 = some y → β' x.1 = some y := fun x hx y e => by
      obtain ⟨y', h1, _⟩ := p.hreps x hx
      have := hup _ _ h1
      rw [e] at this; cases this
      exact h1
    refine ⟨β'', fz', ?_⟩
    exact {
      ble := fun k x e => by
        by_cases hk : k ∈ List.range' N (N' - N)
        · rw [hnews k hk] at e; cases e
        · simp only [β'', if_neg hk]; exact e
      bnew := fun k hk => by simp only [β'', if_neg hk]
      fle := p.fle
      ffr := fun b hb hn o => p.ffr b hb (fun h => hn ((hbi b).1 h)) o
      ok := p.ok
      os := p.os
      tape := p.tape
      output := p.output
      size := p.size
      frame := fun b hb hn => p.frame b hb fun h => hn ((hbi b).1 h)
      hreps := fun x hx => by
        obtain ⟨y, h1, h2, h3⟩ := p.hreps x hx
        exact ⟨y, hup _ _ h1, h2, h3.frame hup (Fz.Le.refl _) fun _ _ => ⟨rfl, fun _ => rfl⟩⟩
      blks := fun x hx y k hy hk => by
        rcases p.blks x hx y k (hout x hx y hy) hk with h | h
        · exact .inl h
        · exact .inr ((hbi k).1 h)
      inj := fun h h' y y' k ⟨x, hx, e⟩ ⟨x', hx', e'⟩ h1 h2 h3 h4 => p.inj h h' y y' k ⟨x, hx, e⟩ ⟨x', hx', e'⟩ (e ▸ hout x hx y (e ▸ h1)) (e' ▸ hout x' hx' y' (e' ▸ h2)) h3 h4
      v := p.v.mono hup (Fz.Le.refl _) }
  · obtain ⟨y, h1, h2, h3⟩ := hhp x hx
    exact ⟨y, by rw [hk0 x hx]; exact h1, h2, h3.lt hle (hH x hx).2⟩
/-- a call of the function -/
def callC (P : Program) (f : FuncId) (_ : Fz) (us : Array Value) (w : World) (R : Value → World → Prop) : Prop := Calls P f us w fun e w' => ∃ u, e = .returned u ∧ R u w'
theorem callC_mono {P : Program} {f : FuncId} : ∀ fz us w (R R' : Value → World → Prop), (∀ u w', R u w' → R' u w') → callC P f fz us w R → callC P f fz us w R' := fun _ _ _ _ _ hR h => h.mono fun _ w' ⟨u, e, k⟩ => ⟨u, e, hR u w' k⟩
/-- with the caller's names for its blocks, whatever other names there are -/
theorem SpecN.toH {P : Program} {f : FuncId} {args : List V} {N : Nat} {H : List (Nat × Blk)} {r : V} {H' : List (Nat × Blk)} {N' : Nat} (h : SpecN P f (V.frz.go args) N H r H' N') (ha : V.lt.lts N (V.frz.go args) = true) (hH : ∀ x ∈ H, x.1 < N ∧ x.2.lt N = true) : SpecH P f args [] H (List.range' N (N' - N)) H' r := by
  have hg : NG (callC P f) (V.frz.go args) N H r H' N' := fun β fz own w us a b c d e g => (h β fz own w us a b c d e g).mono fun _ _ ⟨u, β', fz', p, q⟩ => ⟨u, q, β', fz', p⟩
  have hh := hg.toH callC_mono ha hH
  exact fun β fz own w us a b _ c d e g => (hh β fz own w us a b c (fun h h' y y' k h1 h2 => d h h' y y' k (.inl h1) (.inl h2)) e g).mono fun _ _ ⟨u, q, β', fz', p⟩ => ⟨u, β', fz', p, q⟩
end Go.Lm
