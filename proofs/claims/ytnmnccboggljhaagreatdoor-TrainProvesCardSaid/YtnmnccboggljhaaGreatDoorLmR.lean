/- The logical machine: closed runs, by computation. -/
import Derived.Test.YtnmnccboggljhaaGreatDoorLmQ
set_option linter.constructorNameAsVariable false
namespace Go.Lm
open Go Go.RowKit

/-- a state that knows less -/
structure Wk (s s' : LS) : Prop where
  env : ∀ d v, lk s'.env d = some v → lk s.env d = some v
  blk : ∀ h b, s'.blk h = some b → s.blk h = some b
  free : ∀ h, s'.free h → s.free h
  dfs : s.dfs = s'.dfs
theorem RelB.wk {C : Cx} {s s' : LS} {a : Act} {w : World} {β : Bt} {fz : Fz} (r : RelB C s a w β fz) (h : Wk s s') : RelB C s' a w β fz :=
  { r with
    free := fun x hx => r.free x (h.free x hx)
    hreps := fun x b hb => r.hreps x b (h.blk x b hb)
    inj := fun x x' y y' k ⟨b, hb⟩ ⟨b', hb'⟩ => r.inj x x' y y' k ⟨b, h.blk x b hb⟩ ⟨b', h.blk x' b' hb'⟩
    env := fun d v hv => r.env d v (h.env d v hv)
    dfs := r.dfs.to h.dfs.symm (Bt.Le.refl _) (Fz.Le.refl _) fun D _ h2 h3 h4 => ⟨h2, h3, fun x b y hb hy => h4 x b y (h.blk x b hb) hy⟩ }

/-! ### what is overwritten is dropped -/
def clE {α : Type} : Nat → List (Nat × α) → List (Nat × α)
  | _, [] => []
  | m, x :: l => match Nat.testBit m x.1 with
    | true => clE m l
    | false => x :: clE (m ||| 1 <<< x.1) l
theorem clE_lk {α : Type} (l : List (Nat × α)) : ∀ (m d : Nat) (v : α), lk (clE m l) d = some v → m.testBit d = false ∧ lk l d = some v := by
  induction l with
  | nil => intro m d v h; cases h
  | cons x l ih =>
    intro m d v h
    obtain ⟨k, u⟩ := x
    simp only [clE] at h
    split at h
    · rename_i hm
      obtain ⟨h1, h2⟩ := ih m d v h
      refine ⟨h1, ?_⟩
      simp only [lk]
      rw [if_neg (fun e => by subst e; rw [hm] at h1; cases h1)]
      exact h2
    · rename_i hm
      simp only [lk] at h ⊢
      by_cases e : d = k
      · subst e
        rw [if_pos rfl] at h ⊢
        exact ⟨hm, h⟩
      · rw [if_neg e] at h ⊢
        obtain ⟨h1, h2⟩ := ih _ d v h
        rw [Nat.testBit_or] at h1
        simp only [Bool.or_eq_false_iff] at h1
        exact ⟨h1.1, h2⟩
theorem clE_mem {α : Type} (l : List (Nat × α)) : ∀ (m : Nat) (x : Nat × α), x ∈ clE m l → m.testBit x.1 = false ∧ lk l x.1 = some x.2 := by
  induction l with
  | nil => intro m x h; cases h
  | cons y l ih =>
    intro m x h
    obtain ⟨k, u⟩ := y
    simp only [clE] at h
    split at h
    · rename_i hm
      obtain ⟨h1, h2⟩ := ih m x h
      refine ⟨h1, ?_⟩
      simp only [lk]
      rw [if_neg (fun e => by rw [e] at h1; rw [hm] at h1; cases h1)]
      exact h2
    · rename_i hm
      rcases List.mem_cons.1 h with rfl | h
      · exact ⟨hm, by simp [lk]⟩
      · obtain ⟨h1, h2⟩ := ih _ x h
        rw [Nat.testBit_or] at h1
        simp only [Bool.or_eq_false_iff] at h1
        refine ⟨h1.1, ?_⟩
        simp only [lk]
        rw [if_neg (fun e => by rw [e] at h1; simp at h1)]
        exact h2
/-- the handles of a value -/
def hsV : V → Nat → Nat
  | .p x _, m => m ||| 1 <<< x
  | .own x _ _, m => m ||| 1 <<< x
  | .ms x _ _, m => m ||| 1 <<< x
  | .h x, m => m ||| 1 <<< x
  | .agg cs, m => go cs m
  | .tup cs, m => go cs m
  | .fn _ a c, m => go a (go c m)
  | _, m => m
where go : List V → Nat → Nat
  | [], m => m
  | v :: vs, m => go vs (hsV v m)
def hsB : Blk → Nat → Nat
  | .cells cs _, m => hsV.go cs m
  | _, m => m
def hsE : List (Nat × V) → Nat → Nat
  | [], m => m
  | x :: l, m => hsE l (hsV x.2 m)
def mark1 : List (Nat × Option Blk) → Nat → Nat
  | [], m => m
  | (k, some b) :: l, m => match Nat.testBit m k with
    | true => mark1 l (hsB b m)
    | false => mark1 l m
  | (_, none) :: l, m => mark1 l m
def mark : Nat → List (Nat × Option Blk) → Nat → Nat
  | 0, _, m => m
  | f + 1, l, m => match Nat.beq (mark1 l m) m with
    | true => m
    | false => mark f l (mark1 l m)
/-- the blocks that are kept -/
def live (m : Nat) : List (Nat × Option Blk) → List (Nat × Blk)
  | [] => []
  | (k, some b) :: l => match Nat.testBit m k with
    | true => (k, b) :: live m l
    | false => live m l
  | (_, none) :: l => live m l
theorem live_mem {m : Nat} {x : Nat × Blk} : ∀ {l : List (Nat × Option Blk)}, x ∈ live m l → (x.1, some x.2) ∈ l
  | [], h => by cases h
  | (k, some b) :: l, h => by
    simp only [live] at h
    split at h
    · rcases List.mem_cons.1 h with rfl | h
      · exact List.mem_cons_self
      · exact List.mem_cons_of_mem _ (live_mem h)
    · exact List.mem_cons_of_mem _ (live_mem h)
  | (_, none) :: l, h => List.mem_cons_of_mem _ (live_mem (l := l) h)
/-- the blocks that can be come to -/
def LS.blocks (s : LS) (m : Nat) : List (Nat × Blk) := live (mark 20 (clE 0 s.heap) m) (clE 0 s.heap)
theorem LS.blocks_ok {s : LS} {m : Nat} {x : Nat × Blk} (h : x ∈ s.blocks m) : s.blk x.1 = some x.2 := by
  have := (clE_mem _ 0 _ (live_mem h)).2
  simp only [LS.blk, this]
  rfl
def LS.clean (s : LS) : LS := { s with env := clE 0 s.env, heap := (s.blocks (hsE (clE 0 s.env) 0)).map fun x => (x.1, some x.2) }
theorem LS.clean_wk (s : LS) : Wk s s.clean :=
  ⟨fun d v h => (clE_lk _ 0 d v h).2, fun h b hb => by
    simp only [LS.blk, LS.clean, lk_some_map] at hb
    cases hq : lk (s.blocks (hsE (clE 0 s.env) 0)) h with
    | none => rw [hq] at hb; cases hb
    | some b' => rw [hq] at hb; cases hb; exact s.blocks_ok (lk_mem hq), fun h hh => hh, rfl⟩

theorem exitTo_len {id : Nat} : ∀ {k k' : List Item}, exitTo id k = some k' → k'.length < k.length + 1
  | [], _, h => by cases h
  | x :: k, k', h => by
    have : exitTo id k = some k' ∨ k' = k := by
      cases x <;> simp only [exitTo] at h <;> first | exact .inl h | skip
      split at h
      · cases h; exact .inr rfl
      · exact .inl h
    rcases this with h | rfl
    · have := exitTo_len h; simp; omega
    · simp; omega
theorem steps_tail {P : Program} {m m1 m2 : Machine} (h : step P m = .next m1) (hs : Steps P m m2) (hne : m ≠ m2) : Steps P m1 m2 := by
  obtain ⟨n, hn⟩ := hs
  cases n with
  | zero => simp [runN] at hn; exact absurd hn hne
  | succ n => simp only [runN, h] at hn; exact ⟨n, hn⟩
theorem todo_ne {b : Frame} {a a' : Act} {k k' : List Item} {cs : List Frame} {w w' : World} {x : Item} (h : k'.length < k.length + 1) : lone (b.at a (x :: k)) cs w ≠ lone (b.at a' k') cs w' := fun e => by
  have e1 := congrArg (fun m : Machine => (m.gs.toList.map fun g => g.frame.todo.length)) e
  simp [lone, Frame.at] at e1
  omega
theorem mode_ne {b : Frame} {a a' : Act} {k todo : List Item} {cs : List Frame} {w w' : World} {m : FrameMode} (h : m ≠ .run) : lone (b.at a k) cs w ≠ lone { b.at a' todo with mode := m } cs w' := fun e => by
  have e1 := congrArg (fun m : Machine => (m.gs.toList.map fun g => g.frame.mode)) e
  simp [lone, Frame.at] at e1
  exact h e1.symm
theorem wp_loop_unfold {P : Program} {Q : Exit → Act → World → Prop} {c : Code} {a : Act} {w : World} (hg : ∀ l a w, ¬ Q (.goto l) a w) (ho : ∀ a w, ¬ Q .outgrown a w) (h : c.wp P (Exit.then ((Code.loop c).wp P Q) Q) a w) : (Code.loop c).wp P Q a w := by
  intro b k' cs
  obtain ⟨e, a₁, w₁, hq, harr⟩ := h b (.inLoop c :: k') cs
  cases e with
  | normal =>
    obtain ⟨e₂, a₂, w₂, hq₂, harr₂⟩ := hq b k' cs
    refine ⟨e₂, a₂, w₂, hq₂, .of_steps (.one step_loop) (.of_steps harr (.of_steps (.one step_inLoop) ?_))⟩
    cases e₂ with
    | normal => exact steps_tail step_loop harr₂ (todo_ne (by omega))
    | exit id => exact fun k'' hk => steps_tail step_loop (harr₂ k'' hk) (todo_ne (exitTo_len hk))
    | goto l => exact (hg _ _ _ hq₂).elim
    | ret =>
      obtain ⟨todo, hs⟩ := harr₂
      exact ⟨todo, steps_tail step_loop hs (mode_ne (fun e => by cases e))⟩
    | panic ch =>
      obtain ⟨todo, hs⟩ := harr₂
      exact ⟨todo, steps_tail step_loop hs (mode_ne (fun e => by cases e))⟩
    | outgrown => exact (ho _ _ hq₂).elim
  | exit id => exact ⟨_, a₁, w₁, hq, .of_steps (.one step_loop) (.pass (x := .inLoop c) rfl (fun _ _ => .inl (by simp)) harr)⟩
  | goto l => exact ⟨_, a₁, w₁, hq, .of_steps (.one step_loop) (.pass (x := .inLoop c) rfl (fun _ _ => .inl (by simp)) harr)⟩
  | ret => exact ⟨_, a₁, w₁, hq, .of_steps (.one step_loop) (.pass (x := .inLoop c) rfl (fun _ _ => .inl (by simp)) harr)⟩
  | panic ch => exact ⟨_, a₁, w₁, hq, .of_steps (.one step_loop) (.pass (x := .inLoop c) rfl (fun _ _ => .inl (by simp)) harr)⟩
  | outgrown => exact ⟨_, a₁, w₁, hq, .of_steps (.one step_loop) (.pass (x := .inLoop c) rfl (fun _ _ => .inl (by simp)) harr)⟩
theorem loop_unroll {P : Program} {nt n0 : Nat} {F : Fx → LS → Prop} (hmx : P.follows .mixedOrders = true) {c : Code} {k : List It} {s s' : LS} (hw : Wk s s') (hk : ∀ y ∈ k, y.plain)
    (h : gx ⟨P, nt, n0, xo P, F⟩ (.code c :: .code (.loop c) :: k) s') : Leaf ⟨P, nt, n0, xo P, F⟩ (.loop c) k s := by
  intro X hP hnt hn0 a w ⟨β, fz, r⟩
  have h1 := gx_sound hmx X hP hnt hn0 _ (.code c :: .code (.loop c) :: k) s' (Nat.le_refl _) ⟨trivial, fun y hy => by
    rcases List.mem_cons.1 hy with rfl | hy
    · trivial
    · exact hk y hy⟩ h a w ⟨β, fz, r.wk hw⟩
  have h2 : c.wp X.P (sem X F (.code (.loop c) :: k)) a w := h1
  rw [sem_code] at h2
  exact wp_loop_unfold (fun l a w => sem_no (.inr ⟨l, rfl⟩) k) (fun a w => sem_no (.inl rfl) k) h2

end Go.Lm
