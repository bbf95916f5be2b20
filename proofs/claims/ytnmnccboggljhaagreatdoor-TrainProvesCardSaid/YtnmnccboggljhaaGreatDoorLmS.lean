/- The logical machine: loops with an invariant; states that know less, under other names. -/
import Derived.Test.YtnmnccboggljhaaGreatDoorLmR
set_option linter.constructorNameAsVariable false
namespace Go.Lm
open Go Go.RowKit

/-! ### the same value, under other names, or less known -/
def rl (n0 : Nat) (R : List (Nat × Option Nat)) (h : Nat) : Option (Option Nat) := if h < n0 then some (some h) else lk R h
def Vd : V → D → Prop
  | .d .nil, .sl _ r => r = []
  | v, y => v.toD = some y
def tupV : V → Option (List V)
  | .tup cs => some cs
  | .d (.tup ds) => some (ds.map .d)
  | _ => none
def fnV : V → Option (Fn × List V × List V)
  | .fn f a c => some (f, a, c)
  | .d (.fn f a c) => some (f, a.map .d, c.map .d)
  | _ => none
def Vw (n0 : Nat) (R : List (Nat × Option Nat)) (v : V) : V → Prop
  | .u => True
  | .d y => Vd v y
  | .p h o => ∃ k, rl n0 R h = some (some k) ∧ v = .p k o
  | .own h sz rows => match rl n0 R h with
    | some (some k) => v = .own k sz rows
    | some none => rows = [] ∧ v = .d .nil
    | none => False
  | .ms h sz n => ∃ k, rl n0 R h = some (some k) ∧ v = .ms k sz n
  | .agg cs => match aggV v with
    | some vs => go vs cs
    | none => False
  | .tup cs => match tupV v with
    | some vs => go vs cs
    | none => False
  | .fn f a c => match fnV v with
    | some (f', a', c') => f' = f ∧ go a' a ∧ go c' c
    | none => False
  | .q sz rows i j => v = .q sz rows i j
  | .h h => ∃ k, rl n0 R h = some (some k) ∧ v = .h k
where go : List V → List V → Prop
  | [], [] => True
  | v :: vs, x :: xs => Vw n0 R v x ∧ go vs xs
  | _, _ => False
def Bw (n0 : Nat) (R : List (Nat × Option Nat)) : Blk → Blk → Prop
  | .cells cs t, .cells cs' t' => t = t' ∧ Vw.go n0 R cs cs'
  | .tail n sz e, b => b = .tail n sz e
  | .iter l p, b => b = .iter l p
  | .imap es, b => b = .imap es
  | _, _ => False
def Hw (n0 : Nat) (R : List (Nat × Option Nat)) (s : LS) (h : Nat) : Option Blk → Prop
  | none => True
  | some b' => match rl n0 R h with
    | some (some k) => match s.blk k with
      | some b => Bw n0 R b b'
      | none => False
    | some none => ∃ sz e, b' = .tail 0 sz e
    | none => False
structure Wr (n0 : Nat) (R : List (Nat × Option Nat)) (s s' : LS) : Prop where
  env : ∀ x ∈ s'.env, ∃ v, lk s.env x.1 = some v ∧ Vw n0 R v x.2
  heap : ∀ x ∈ s'.heap, Hw n0 R s x.1 x.2
  keys : R.Pairwise fun x y => ∀ k, x.2 = some k → y.2 = some k → False
  low : ∀ x ∈ R, x.1 < s'.fresh ∧ ∀ k, x.2 = some k → n0 ≤ k
  fresh : n0 ≤ s'.fresh
  dfs : (s.dfs = [] ∨ s.dfs = [snt]) ∧ (s'.dfs = s.dfs ∨ s'.dfs = [snt])

def bR (n0 : Nat) (R : List (Nat × Option Nat)) (β : Bt) : Bt := fun h => match rl n0 R h with
  | some (some k) => β k
  | some none => some (.slice none 0 0)
  | none => none
theorem Vd.rep {β : Bt} {fz : Fz} {v : V} {y : D} {u : Value} (h : Vd v y) (hr : RepV β fz v u) : RepD fz y u := by
  unfold Vd at h
  split at h
  · subst h
    cases hr with
    | d hr =>
      cases hr
      exact .sl (fun _ _ => default) rfl (Nat.le_refl _) (Nat.zero_le _) (fun r hr => by cases hr) (fun h => absurd h (Nat.lt_irrefl 0)) (fun i j r d h => by simp at h) (fun i j r d h => by simp at h)
  · exact toD_rep _ h hr
theorem tupV_ok {β : Bt} {fz : Fz} {v : V} {cs : List V} {u : Value} (h : RepV β fz v u) (hr : tupV v = some cs) : ∃ us, u = .tuple us ∧ RepVs β fz cs us := by
  cases v with
  | tup l =>
    simp only [tupV, Option.some.injEq] at hr
    subst hr
    cases h with
    | @tup _ vs hl h => exact ⟨vs, rfl, hl, h⟩
  | d x =>
    cases x <;> simp only [tupV, Option.some.injEq, reduceCtorEq] at hr
    subst hr
    cases h with
    | d h =>
      cases h with
      | @tup _ vs hl h =>
        refine ⟨vs, rfl, by simpa using hl, fun j d u a b => ?_⟩
        rw [List.getElem?_map, Option.map_eq_some_iff] at a
        obtain ⟨x, a, rfl⟩ := a
        exact .d (h j x u a b)
  | _ => cases hr
theorem fnV_ok {β : Bt} {fz : Fz} {v : V} {f : Fn} {a c : List V} {u : Value} (h : RepV β fz v u) (hr : fnV v = some (f, a, c)) : ∃ ua uc, u = .func f ua uc ∧ RepVs β fz a ua ∧ RepVs β fz c uc := by
  cases v with
  | fn f' l m =>
    simp only [fnV, Option.some.injEq, Prod.mk.injEq] at hr
    obtain ⟨rfl, rfl, rfl⟩ := hr
    cases h with
    | @fn _ _ _ va vc hla ha hlc hc => exact ⟨va, vc, rfl, ⟨hla, ha⟩, ⟨hlc, hc⟩⟩
  | d x =>
    cases x <;> simp only [fnV, Option.some.injEq, Prod.mk.injEq, reduceCtorEq] at hr
    obtain ⟨rfl, rfl, rfl⟩ := hr
    cases h with
    | d h =>
      cases h with
      | @fn _ _ _ va vc hla ha hlc hc =>
        refine ⟨va, vc, rfl, ⟨by simpa using hla, fun j d u a b => ?_⟩, ⟨by simpa using hlc, fun j d u a b => ?_⟩⟩
        · rw [List.getElem?_map, Option.map_eq_some_iff] at a
          obtain ⟨x, a, rfl⟩ := a
          exact .d (ha j x u a b)
        · rw [List.getElem?_map, Option.map_eq_some_iff] at a
          obtain ⟨x, a, rfl⟩ := a
          exact .d (hc j x u a b)
  | _ => cases hr
theorem RepVs.tail {β : Bt} {fz : Fz} {v : V} {vs : List V} {us : Array Value} (h : RepVs β fz (v :: vs) us) : ∃ u, us[0]? = some u ∧ RepV β fz v u ∧ RepVs β fz vs (us.extract 1 us.size) := by
  have hs := h.1
  simp only [List.length_cons] at hs
  have h0 : us[0]? = some us[0] := Array.getElem?_eq_getElem (by omega)
  refine ⟨us[0], h0, h.2 0 v _ rfl h0, ⟨by simp; omega, fun j v u a b => h.2 (j + 1) v u (by simpa using a) ?_⟩⟩
  rw [Array.getElem?_extract] at b
  split at b
  · rwa [Nat.add_comm] at b
  · cases b
mutual
theorem Vw.rep {n0 : Nat} {R : List (Nat × Option Nat)} {β : Bt} {fz : Fz} {v : V} {u : Value} : ∀ (x : V), Vw n0 R v x → RepV β fz v u → RepV (bR n0 R β) fz x u
  | .u, _, _ => .u _
  | .d y, h, hr => .d (Vd.rep (by simpa only [Vw] using h) hr)
  | .p h' o, h, hr => by
    simp only [Vw] at h
    obtain ⟨k, h1, rfl⟩ := h
    cases hr with
    | p hb => exact .p (by simp only [bR, h1]; exact hb)
  | .own h' sz rows, h, hr => by
    simp only [Vw] at h
    split at h
    · rename_i k h1
      subst h
      cases hr with
      | own hb hr => exact .own (by simp only [bR, h1]; exact hb) hr
    · rename_i h1
      obtain ⟨rfl, rfl⟩ := h
      have hu : u = .slice none 0 0 := by
        cases hr with
        | d hr => cases hr; rfl
      subst hu
      exact .own (by simp only [bR, h1]) (Vd.rep (v := .d .nil) (by simp [Vd]) hr)
    · exact h.elim
  | .ms h' sz n, h, hr => by
    simp only [Vw] at h
    obtain ⟨k, h1, rfl⟩ := h
    cases hr with
    | ms hb hn ho => exact .ms (by simp only [bR, h1]; exact hb) hn ho
  | .agg cs, h, hr => by
    simp only [Vw] at h
    split at h
    · rename_i vs hv
      obtain ⟨us, rfl, k⟩ := aggV_ok hr hv
      have := Vw.reps cs h k
      exact .agg this.1 this.2
    · exact h.elim
  | .tup cs, h, hr => by
    simp only [Vw] at h
    split at h
    · rename_i vs hv
      obtain ⟨us, rfl, k⟩ := tupV_ok hr hv
      have := Vw.reps cs h k
      exact .tup this.1 this.2
    · exact h.elim
  | .fn f a c, h, hr => by
    simp only [Vw] at h
    split at h
    · rename_i f' a' c' hv
      obtain ⟨ua, uc, rfl, k1, k2⟩ := fnV_ok hr hv
      obtain ⟨rfl, h1, h2⟩ := h
      have m1 := Vw.reps a h1 k1
      have m2 := Vw.reps c h2 k2
      exact .fn m1.1 m1.2 m2.1 m2.2
    · exact h.elim
  | .q sz rows i j, h, hr => by
    simp only [Vw] at h
    subst h
    cases hr with
    | q g hsz hA hu => exact .q g hsz hA hu
  | .h h', h, hr => by
    simp only [Vw] at h
    obtain ⟨k, h1, rfl⟩ := h
    cases hr with
    | h hb => exact .h (by simp only [bR, h1]; exact hb)
theorem Vw.reps {n0 : Nat} {R : List (Nat × Option Nat)} {β : Bt} {fz : Fz} {vs : List V} {us : Array Value} : ∀ (xs : List V), Vw.go n0 R vs xs → RepVs β fz vs us → RepVs (bR n0 R β) fz xs us
  | [], h, hr => by
    cases vs with
    | nil => exact ⟨hr.1, fun j d u a => by simp at a⟩
    | cons v vs => simp only [Vw.go] at h
  | x :: xs, h, hr => by
    cases vs with
    | nil => simp only [Vw.go] at h
    | cons v vs =>
      simp only [Vw.go] at h
      obtain ⟨u, h0, h1, h2⟩ := hr.tail
      have k1 := Vw.rep x h.1 h1
      have k2 := Vw.reps xs h.2 h2
      have hs := hr.1
      simp only [List.length_cons] at hs
      have ks := k2.1
      simp only [Array.size_extract] at ks
      refine ⟨by simp only [List.length_cons]; omega, fun j d w a b => ?_⟩
      cases j with
      | zero =>
        simp at a
        subst a
        rw [h0] at b; cases b; exact k1
      | succ j =>
        refine k2.2 j d w (by simpa using a) ?_
        have := (Array.getElem?_eq_some_iff.1 b).1
        rw [Array.getElem?_extract, if_pos (by omega), Nat.add_comm]; exact b
end
theorem lk_mem' {α : Type} {l : List (Nat × α)} {n : Nat} {v : α} (h : lk l n = some v) : (n, v) ∈ l := lk_mem h
theorem key_ne {R : List (Nat × Option Nat)} (hp : R.Pairwise fun x y => ∀ k, x.2 = some k → y.2 = some k → False) {h h' k : Nat} (h1 : lk R h = some (some k)) (h2 : lk R h' = some (some k)) : h = h' := by
  induction R with
  | nil => cases h1
  | cons x R ih =>
    obtain ⟨m, o⟩ := x
    simp only [lk] at h1 h2
    obtain ⟨q1, q2⟩ := List.pairwise_cons.1 hp
    split at h1
    · rename_i e1
      split at h2
      · rename_i e2; exact e1.trans e2.symm
      · cases h1
        exact (q1 _ (lk_mem h2) k rfl rfl).elim
    · split at h2
      · cases h2
        exact (q1 _ (lk_mem h1) k rfl rfl).elim
      · exact ih q2 h1 h2
theorem RelB.wr {C : Cx} {R : List (Nat × Option Nat)} {s s' : LS} {a : Act} {w : World} {β : Bt} {fz : Fz} (r : RelB C s a w β fz) (h : Wr C.n0 R s s') : RelB C s' a w (bR C.n0 R β) fz := by
  have low : ∀ k, k < C.n0 → bR C.n0 R β k = β k := fun k hk => by simp [bR, rl, hk]
  have real : ∀ x b', s'.blk x = some b' → Hw C.n0 R s x (some b') := fun x b' hb => by
    simp only [LS.blk, Option.join_eq_some_iff] at hb
    exact h.heap _ (lk_mem hb)
  refine { r with ble := ?_, bnew := ?_, free := ?_, hreps := ?_, inj := ?_, env := ?_, dfs := ?_ }
  · intro k x hk
    have := C.hb k x hk
    rw [low k this, r.bnew k this, hk]
  · exact fun k hk => (low k hk).trans (r.bnew k hk)
  · rintro k ⟨h1, h2⟩
    have h0 : ¬ k < C.n0 := by have := h.fresh; omega
    refine ⟨?_, by omega⟩
    have : lk R k = none := by
      cases hq : lk R k with
      | none => rfl
      | some o =>
        have := (h.low _ (lk_mem hq)).1
        simp only at this; omega
    simp [bR, rl, h0, this]
  · intro x b' hb
    have hx := real x b' hb
    simp only [Hw] at hx
    split at hx
    · rename_i k hk
      split at hx
      · rename_i b hbk
        obtain ⟨y, h1, h2, h3⟩ := r.hreps k b hbk
        refine ⟨y, by simp only [bR, hk]; exact h1, h2, ?_⟩
        cases b with
        | cells cs t =>
          cases b' <;> simp only [Bw] at hx
          obtain ⟨rfl, hx⟩ := hx
          obtain ⟨bb, us, rfl, k1, k2, k3⟩ := h3
          exact ⟨bb, us, rfl, k1, Vw.reps _ hx k2, k3⟩
        | tail n sz e => simp only [Bw] at hx; subst hx; exact h3
        | iter l p => simp only [Bw] at hx; subst hx; exact h3
        | imap es => simp only [Bw] at hx; subst hx; exact h3
      · exact hx.elim
    · rename_i hk
      obtain ⟨sz, e, rfl⟩ := hx
      exact ⟨.slice none 0 0, by simp only [bR, hk], (fun k e => by cases e), [], World.ownsRow_nil .., fun b e => by cases e⟩
    · exact hx.elim
  · rintro x x' y y' k ⟨b, hb⟩ ⟨b', hb'⟩ h1 h2 h3 h4
    have tgt : ∀ x b y, s'.blk x = some b → bR C.n0 R β x = some y → blkOf y = some k → ∃ t bt, rl C.n0 R x = some (some t) ∧ s.blk t = some bt ∧ β t = some y := fun x b y hb h1 h3 => by
      have hx := real x b hb
      simp only [Hw] at hx
      split at hx
      · rename_i t ht
        split at hx
        · rename_i bt hbt
          exact ⟨t, bt, ht, hbt, by simpa only [bR, ht] using h1⟩
        · exact hx.elim
      · rename_i ht
        simp only [bR, ht, Option.some.injEq] at h1
        subst h1
        cases h3
      · exact hx.elim
    obtain ⟨t, bt, p1, p2, p3⟩ := tgt x b y hb h1 h3
    obtain ⟨t', bt', q1, q2, q3⟩ := tgt x' b' y' hb' h2 h4
    have := r.inj t t' y y' k ⟨_, p2⟩ ⟨_, q2⟩ p3 q3 h3 h4
    subst this
    unfold rl at p1 q1
    split at p1
    · rename_i hl
      cases p1
      split at q1
      · cases q1; rfl
      · have := (h.low _ (lk_mem q1)).2 _ rfl; omega
    · split at q1
      · cases q1
        have := (h.low _ (lk_mem p1)).2 _ rfl; omega
      · exact key_ne h.keys p1 q1
  · intro d v hv
    obtain ⟨v', h1, h2⟩ := h.env _ (lk_mem hv)
    obtain ⟨u, h3, h4⟩ := r.env d v' h1
    exact ⟨u, h3, Vw.rep v h2 h4⟩
  · have none' : s.dfs = [] → DR C.w0.heap.size s' w (bR C.n0 R β) fz a.defers := fun e => by
      rw [r.dfs.nil e]
      rcases h.dfs.2 with e' | e'
      · exact .inl ⟨by rw [e', e]; rfl, fun j x d _ q => by simp at q⟩
      · exact .inr ⟨[], [], [], by rw [e']; rfl, rfl, ⟨rfl, fun j x d _ q => by simp at q⟩, ⟨(fun d hd => by cases hd), List.Pairwise.nil⟩⟩
    rcases h.dfs.1 with e | e
    · exact none' e
    · have e' : s'.dfs = [snt] := by rcases h.dfs.2 with e' | e'; exact e'.trans e; exact e'
      refine .inr ⟨[], [], a.defers, by rw [e']; rfl, rfl, ⟨rfl, fun j x d _ q => by simp at q⟩, (r.dfs.marks e).to fun D _ h2 h3 h4 => ⟨h2, h3, fun x b y hb hy hk => ?_⟩⟩
      have hx := real x b hb
      simp only [Hw] at hx
      split at hx
      · rename_i k hk'
        split at hx
        · rename_i bt hbt
          exact h4 k bt y hbt (by simpa only [bR, hk'] using hy) hk
        · exact hx.elim
      · rename_i hk'
        simp only [bR, hk', Option.some.injEq] at hy
        subst hy
        cases hk
      · exact hx.elim
theorem Leaf.loop {P : Program} {nt n0 : Nat} {F : Fx → LS → Prop} (hmx : P.follows .mixedOrders = true) {c : Code} {k : List It} {s : LS} {α : Type} (I : α → LS) (pre : α → Prop) (μ : α → Nat) (x0 : α) (R0 : List (Nat × Option Nat)) (hk : ∀ y ∈ k, y.plain)
    (h0 : pre x0) (hw : Wr n0 R0 s (I x0))
    (round : ∀ x, pre x → ∀ B : LS → Prop, (∀ x' R s', pre x' → μ x' < μ x → Wr n0 R s' (I x') → B s') → gx ⟨P, nt, n0, xo P, F⟩ (.code c :: .back B :: k) (I x)) : Leaf ⟨P, nt, n0, xo P, F⟩ (.loop c) k s := by
  intro X hP hnt hn0 a w ⟨β, fz, r⟩
  subst hP; subst hnt; subst hn0
  refine wp_loop_ghost (fun n a w => ∃ x, pre x ∧ μ x = n ∧ Rel X (I x) a w) (μ x0) ⟨x0, h0, rfl, _, _, r.wr hw⟩ ?_
  rintro n a w ⟨x, hx, rfl, hr⟩
  have h1 := gx_sound hmx X rfl rfl rfl _ _ _ (Nat.le_refl _) (show Wf (.code c :: .back (fun s' => ∃ x' R, pre x' ∧ μ x' < μ x ∧ Wr X.n0 R s' (I x')) :: k) from ⟨trivial, fun y hy => by
    rcases List.mem_cons.1 hy with rfl | hy
    · trivial
    · exact hk y hy⟩) (round x hx _ fun x' R s' a b c => ⟨x', R, a, b, c⟩) a w hr
  have h2 : c.wp X.P (sem X F (.back (fun s' => ∃ x' R, pre x' ∧ μ x' < μ x ∧ Wr X.n0 R s' (I x')) :: k)) a w := h1
  refine wp_mono h2 fun e a' w' hq => ?_
  cases e with
  | normal =>
    obtain ⟨s', ⟨x', R, p1, p2, p3⟩, β', fz', r'⟩ := hq
    exact ⟨_, p2, x', p1, rfl, _, _, r'.wr p3⟩
  | exit id => exact hq
  | goto l => exact hq
  | ret => exact hq
  | panic ch => exact hq
  | outgrown => exact hq
end Go.Lm
