/- The logical machine: blocks of one's own, states, one operation. -/
import Derived.Test.YtnmnccboggljhaaGreatDoorLmA
namespace Go.Lm
open Go Go.RowKit

inductive Blk where
  | cells (cs : List V) (t : TypeId)
  | tail (n sz : Nat) (e : TypeId)
  | iter (l : List UInt8) (pos : Nat)
  | imap (es : List (D × D))
  deriving Inhabited

def blkOf : Value → Option Nat
  | .pointer (some a) => some a.block
  | .slice (some a) _ _ => some a.block
  | .map (some r) => some r
  | _ => none
theorem blkOf_own {v : Value} {k : Nat} (h : v.ownBlock = some k) : blkOf v = some k := by
  unfold Value.ownBlock at h
  split at h
  · exact h
  · cases h

def HB (β : Bt) (fz : Fz) (w : World) (x : Value) : Blk → Prop
  | .cells cs t => ∃ b us, x = .pointer (some ⟨b, 0, none⟩) ∧ w.heap[b]? = some (.cells us t (0, 0)) ∧ RepVs β fz cs us ∧ ∀ o, fz b o = none
  | .tail n sz e => ∃ xs, w.ownsRow 0 e sz x n xs ∧ ∀ b, x.ownBlock = some b → ∀ o, n * sz ≤ o → fz b o = none
  | .iter l pos => ∃ b, x = .pointer (some ⟨b, 0, none⟩) ∧ w.heap[b]? = some (.stringIter ⟨l.toArray⟩ pos) ∧ ∀ o, fz b o = none
  | .imap es => ∃ b en ck, x = .map (some b) ∧ w.heap[b]? = some (.map en ck) ∧ (∀ o, fz b o = none) ∧ en.size = es.length ∧
      ∀ (j : Nat) (d : D × D) (e : MapEntry), es[j]? = some d → en[j]? = some e → RepD fz d.1 e.key ∧ RepD fz d.2 e.val
def HRep (β : Bt) (fz : Fz) (w : World) (own : Nat → Prop) (h : Nat) (blk : Blk) : Prop :=
  ∃ x, β h = some x ∧ (∀ k, blkOf x = some k → own k ∧ k < w.heap.size) ∧ HB β fz w x blk

theorem ownsRow_frame {w w' : World} {base : Nat} {e : TypeId} {sz n : Nat} {v : Value} {xs : List Value} (h : w.ownsRow base e sz v n xs) (hk : ∀ k, v.ownBlock = some k → w'.heap[k]? = w.heap[k]?) : w'.ownsRow base e sz v n xs := by
  refine ⟨h.1, ?_⟩
  rcases h.2 with hn | ⟨g, cap, cur, rfl, hb, hg, rest⟩
  · exact .inl hn
  · exact .inr ⟨g, cap, cur, rfl, hb, (hk g rfl).trans hg, rest⟩

theorem HB.frame {β β' : Bt} {fz fz' : Fz} {w w' : World} {x : Value} {blk : Blk} (h : HB β fz w x blk) (hb : Bt.Le β β') (hf : Fz.Le fz fz')
    (hk : ∀ k, blkOf x = some k → w'.heap[k]? = w.heap[k]? ∧ ∀ o, fz' k o = fz k o) : HB β' fz' w' x blk := by
  cases blk with
  | cells cs t =>
    obtain ⟨b, us, rfl, h1, h2, h3⟩ := h
    obtain ⟨k1, k2⟩ := hk b rfl
    exact ⟨b, us, rfl, k1.trans h1, h2.mono hb hf, fun o => (k2 o).trans (h3 o)⟩
  | tail n sz e =>
    obtain ⟨xs, h1, h2⟩ := h
    exact ⟨xs, ownsRow_frame h1 fun k e => (hk k (blkOf_own e)).1, fun b e o ho => ((hk b (blkOf_own e)).2 o).trans (h2 b e o ho)⟩
  | iter l pos =>
    obtain ⟨b, rfl, h1, h2⟩ := h
    obtain ⟨k1, k2⟩ := hk b rfl
    exact ⟨b, rfl, k1.trans h1, fun o => (k2 o).trans (h2 o)⟩
  | imap es =>
    obtain ⟨b, en, ck, rfl, h1, h2, h3, h4⟩ := h
    obtain ⟨k1, k2⟩ := hk b rfl
    exact ⟨b, en, ck, rfl, k1.trans h1, fun o => (k2 o).trans (h2 o), h3, fun j d e a c => ⟨(h4 j d e a c).1.mono hf, (h4 j d e a c).2.mono hf⟩⟩
theorem HRep.frame {β β' : Bt} {fz fz' : Fz} {w w' : World} {own : Nat → Prop} {h : Nat} {blk : Blk} (hh : HRep β fz w own h blk) (hb : Bt.Le β β') (hf : Fz.Le fz fz') (hs : w.heap.size ≤ w'.heap.size)
    (hk : ∀ x k, β h = some x → blkOf x = some k → w'.heap[k]? = w.heap[k]? ∧ ∀ o, fz' k o = fz k o) : HRep β' fz' w' own h blk := by
  obtain ⟨x, h1, h2, h3⟩ := hh
  exact ⟨x, hb _ _ h1, fun k e => ⟨(h2 k e).1, Nat.lt_of_lt_of_le (h2 k e).2 hs⟩, h3.frame hb hf fun k e => hk x k h1 e⟩

/-- the first entry of a key -/
def lk {α : Type} : List (Nat × α) → Nat → Option α
  | [], _ => none
  | (k, v) :: l, n => if n = k then some v else lk l n

structure LS where
  env : List (Nat × V)
  heap : List (Nat × Option Blk)
  fresh : Nat
  taken : List Nat
  dfs : List (Fn × List V × List V)
def LS.blk (s : LS) (h : Nat) : Option Blk := (lk s.heap h).join
def LS.free (s : LS) (h : Nat) : Prop := s.fresh ≤ h ∧ h ∉ s.taken
def constV : Value → V
  | .int q n => .d (.k q n)
  | .bool p => .d (.b p)
  | .string x => .d (.s x.data.toList)
  | .slice none 0 0 => .d .nil
  | x => .d (.raw x)
def LS.ev (s : LS) : Operand → Option V
  | .tmp t => lk s.env t
  | .const c => some (constV c)
  | .func f => some (.d (.fn (.func f) [] []))
  | .global _ => none

/-- what one operation does -/
structure Eff where
  vals : List V
  rd : List (Nat × Blk)
  hp : List (Nat × Blk)
  news : List Nat
  out : List (Nat × Blk)
  v : V
def putE (dst : Option Nat) (v : V) (env : List (Nat × V)) : List (Nat × V) := match dst with | some d => (d, v) :: env | none => env
theorem lk_put_ne {dst : Option Nat} {v : V} {env : List (Nat × V)} {t : Nat} (h : dst ≠ some t) : lk (putE dst v env) t = lk env t := by
  cases dst with
  | none => rfl
  | some d => simp only [putE, lk]; rw [if_neg (fun e => h (by rw [e]))]
theorem lk_put_eq {dst : Option Nat} {v : V} {env : List (Nat × V)} {t : Nat} (h : dst = some t) : lk (putE dst v env) t = some v := by
  subst h; simp [putE, lk]
theorem lk_put_congr {dst : Option Nat} {v : V} {env env' : List (Nat × V)} {t : Nat} (h : lk env t = lk env' t) : lk (putE dst v env) t = lk (putE dst v env') t := by
  cases dst with
  | none => exact h
  | some d => simp only [putE, lk, h]
def LS.app (s : LS) (dst : Option Nat) (e : Eff) : LS where
  env := putE dst e.v s.env
  heap := e.out.map (fun x => (x.1, some x.2)) ++ (e.hp.map (fun x => (x.1, none)) ++ s.heap)
  fresh := s.fresh
  taken := e.news ++ s.taken
  dfs := s.dfs
/-- the calls that are put off -/
def DRep (β : Bt) (fz : Fz) (l : List (Fn × List V × List V)) (ds : List Deferred) : Prop :=
  ds.length = l.length ∧ ∀ (j : Nat) (x : Fn × List V × List V) (d : Deferred), l[j]? = some x → ds[j]? = some d → x.1 ≠ .method "" ∧ ∃ cap, d.target = .fn x.1 cap ∧ RepVs β fz x.2.1 cap ∧ RepVs β fz x.2.2 d.args
theorem DRep.mono {β β' : Bt} {fz fz' : Fz} (hb : Bt.Le β β') (hf : Fz.Le fz fz') {l : List (Fn × List V × List V)} {ds : List Deferred} (h : DRep β fz l ds) : DRep β' fz' l ds :=
  ⟨h.1, fun j x d a b => let ⟨h0, cap, h1, h2, h3⟩ := h.2 j x d a b; ⟨h0, cap, h1, h2.mono hb hf, h3.mono hb hf⟩⟩
/-- the sign that loops over functions may have left their marks among the calls that are put off -/
def snt : Fn × List V × List V := (.method "", [], [])
/-- marks: blocks that nobody else holds -/
structure AllCol (n : Nat) (s : LS) (w : World) (β : Bt) (fz : Fz) (ds : List Deferred) : Prop where
  all : ∀ d ∈ ds, ∃ D, d.target = .collected D ∧ n ≤ D ∧ w.heap[D]? = some (.deferred (some [])) ∧ (∀ o, fz D o = none) ∧ ∀ h blk y, s.blk h = some blk → β h = some y → blkOf y ≠ some D
  nodup : ds.Pairwise fun d e => d.target ≠ e.target
def DR (n : Nat) (s : LS) (w : World) (β : Bt) (fz : Fz) (ds : List Deferred) : Prop := DRep β fz s.dfs ds ∨ ∃ l p q, s.dfs = l ++ [snt] ∧ ds = p ++ q ∧ DRep β fz l p ∧ AllCol n s w β fz q
theorem DR.plain {n : Nat} {s : LS} {w : World} {β : Bt} {fz : Fz} {ds : List Deferred} (h : DR n s w β fz ds) (hs : ∀ x ∈ s.dfs, x.1 ≠ .method "") : DRep β fz s.dfs ds := by
  rcases h with h | ⟨l, p, q, h1, _⟩
  · exact h
  · exact absurd rfl (hs snt (by rw [h1]; simp))
theorem DR.nil {n : Nat} {s : LS} {w : World} {β : Bt} {fz : Fz} {ds : List Deferred} (h : DR n s w β fz ds) (hs : s.dfs = []) : ds = [] := by
  have := (h.plain (fun x hx => by rw [hs] at hx; cases hx)).1
  rw [hs] at this
  exact List.eq_nil_of_length_eq_zero this
theorem DR.marks {n : Nat} {s : LS} {w : World} {β : Bt} {fz : Fz} {ds : List Deferred} (h : DR n s w β fz ds) (hs : s.dfs = [snt]) : AllCol n s w β fz ds := by
  rcases h with h | ⟨l, p, q, h1, h2, h3, h4⟩
  · rw [hs] at h
    match ds, h.1 with
    | [d], _ => exact absurd rfl (h.2 0 snt d rfl rfl).1
  · rw [hs] at h1
    have hl : l = [] := by
      cases l with
      | nil => rfl
      | cons x l => cases l <;> simp at h1
    subst hl
    have hp := List.eq_nil_of_length_eq_zero h3.1
    subst hp
    subst h2
    exact h4
theorem AllCol.to {n : Nat} {s s' : LS} {w w' : World} {β β' : Bt} {fz fz' : Fz} {ds : List Deferred} (h : AllCol n s w β fz ds)
    (k : ∀ D, n ≤ D → w.heap[D]? = some (.deferred (some [])) → (∀ o, fz D o = none) → (∀ h blk y, s.blk h = some blk → β h = some y → blkOf y ≠ some D) → w'.heap[D]? = some (.deferred (some [])) ∧ (∀ o, fz' D o = none) ∧ ∀ h blk y, s'.blk h = some blk → β' h = some y → blkOf y ≠ some D) : AllCol n s' w' β' fz' ds :=
  ⟨fun d hd => let ⟨D, h1, h2, h3, h4, h5⟩ := h.all d hd; ⟨D, h1, h2, k D h2 h3 h4 h5⟩, h.nodup⟩
theorem DR.to {n : Nat} {s s' : LS} {w w' : World} {β β' : Bt} {fz fz' : Fz} {ds : List Deferred} (h : DR n s w β fz ds) (hd : s'.dfs = s.dfs) (hb : Bt.Le β β') (hf : Fz.Le fz fz')
    (k : ∀ D, n ≤ D → w.heap[D]? = some (.deferred (some [])) → (∀ o, fz D o = none) → (∀ h blk y, s.blk h = some blk → β h = some y → blkOf y ≠ some D) → w'.heap[D]? = some (.deferred (some [])) ∧ (∀ o, fz' D o = none) ∧ ∀ h blk y, s'.blk h = some blk → β' h = some y → blkOf y ≠ some D) : DR n s' w' β' fz' ds := by
  rcases h with h | ⟨l, p, q, h1, h2, h3, h4⟩
  · exact .inl (by rw [hd]; exact h.mono hb hf)
  · exact .inr ⟨l, p, q, by rw [hd]; exact h1, h2, h3.mono hb hf, h4.to k⟩

def FzOk (fz : Fz) (w : World) : Prop := ∀ b o u, fz b o = some u → w.cell? ⟨b, o, none⟩ = some u
/-- a block of a handle of a list -/
def BlkIn (β : Bt) (l : List (Nat × Blk)) (k : Nat) : Prop := ∃ x ∈ l, ∃ y, β x.1 = some y ∧ blkOf y = some k
def InjOn (β : Bt) (live : Nat → Prop) : Prop := ∀ h h' y y' k, live h → live h' → β h = some y → β h' = some y' → blkOf y = some k → blkOf y' = some k → h = h'

structure Post (β : Bt) (fz : Fz) (w : World) (own : Nat → Prop) (hp : List (Nat × Blk)) (news : List Nat) (out : List (Nat × Blk)) (v : V) (u : Value) (β' : Bt) (fz' : Fz) (w' : World) : Prop where
  ble : Bt.Le β β'
  bnew : ∀ h, h ∉ news → β' h = β h
  fle : Fz.Le fz fz'
  ffr : ∀ b, b < w.heap.size → ¬ BlkIn β hp b → ∀ o, fz' b o = fz b o
  ok : FzOk fz' w'
  os : w'.os = w.os
  tape : w'.tape = w.tape
  output : w'.output = w.output
  size : w.heap.size ≤ w'.heap.size
  frame : ∀ b, b < w.heap.size → ¬ BlkIn β hp b → w'.heap[b]? = w.heap[b]?
  hreps : ∀ x ∈ out, HRep β' fz' w' own x.1 x.2
  blks : ∀ x ∈ out, ∀ y k, β' x.1 = some y → blkOf y = some k → w.heap.size ≤ k ∨ BlkIn β hp k
  inj : InjOn β' fun h => ∃ x ∈ out, x.1 = h
  v : RepV β' fz' v u

def OpT (P : Program) (o : Oper) (e : Eff) : Prop := ∀ (β : Bt) (fz : Fz) (own : Nat → Prop) (a : Act) (w : World), FzOk fz w → (∀ k, w.heap.size ≤ k → own k) →
  (∀ x ∈ e.rd, HRep β fz w own x.1 x.2) → (∀ x ∈ e.hp, HRep β fz w own x.1 x.2) → InjOn β (fun h => (∃ x ∈ e.hp, x.1 = h) ∨ ∃ x ∈ e.rd, x.1 = h) → (∀ h ∈ e.news, β h = none) →
  e.vals.length = o.op.operands.size → (∀ (j : Nat) (x : Operand) (v : V), o.op.operands[j]? = some x → e.vals[j]? = some v → RepV β fz v (a.eval x)) →
  ∀ (next : Act → World → Prop) (Q : Exit → Act → World → Prop), (∀ u β' fz' w', Post β fz w own e.hp e.news e.out e.v u β' fz' w' → next (a.put o.dst u) w') → Oper.wp P o a w next Q

structure StepOK (P : Program) (nt : Nat) (s : LS) (o : Oper) (e : Eff) : Prop where
  op : OpT P o e
  len : e.vals.length = o.op.operands.size
  vals : ∀ (j : Nat) (x : Operand) (v : V), o.op.operands[j]? = some x → e.vals[j]? = some v → s.ev x = some v
  rd : ∀ x ∈ e.rd, s.blk x.1 = some x.2
  hp : ∀ x ∈ e.hp, s.blk x.1 = some x.2
  news : ∀ h ∈ e.news, s.free h
  outs : ∀ x ∈ e.out, x.1 ∈ e.news ∨ ∃ z ∈ e.hp, z.1 = x.1
  dst : ∀ d, o.dst = some d → d < nt

/-- the frame of a function's run: what there was, what is its own -/
structure Cx where
  P : Program
  w0 : World
  β0 : Bt
  fz0 : Fz
  X : Nat → Prop
  n0 : Nat
  nt : Nat
  hb : ∀ h x, β0 h = some x → h < n0
def Cx.own (C : Cx) (k : Nat) : Prop := C.w0.heap.size ≤ k ∨ C.X k
structure RelB (C : Cx) (s : LS) (a : Act) (w : World) (β : Bt) (fz : Fz) : Prop where
  os : w.os = C.w0.os
  tape : w.tape = C.w0.tape
  output : w.output = C.w0.output
  size : C.w0.heap.size ≤ w.heap.size
  frame : ∀ k, k < C.w0.heap.size → ¬ C.X k → w.heap[k]? = C.w0.heap[k]?
  ble : Bt.Le C.β0 β
  bnew : ∀ h, h < C.n0 → β h = C.β0 h
  fle : Fz.Le C.fz0 fz
  ffr : ∀ k, k < C.w0.heap.size → ¬ C.X k → ∀ o, fz k o = C.fz0 k o
  ok : FzOk fz w
  free : ∀ h, s.free h → β h = none ∧ C.n0 ≤ h
  hreps : ∀ h blk, s.blk h = some blk → HRep β fz w C.own h blk
  inj : InjOn β fun h => ∃ blk, s.blk h = some blk
  env : ∀ d v, lk s.env d = some v → ∃ u, a.tmps[d]? = some u ∧ RepV β fz v u
  nt : a.tmps.size = C.nt
  dfs : DR C.w0.heap.size s w β fz a.defers
def Rel (C : Cx) (s : LS) (a : Act) (w : World) : Prop := ∃ β fz, RelB C s a w β fz

theorem lk_app {α : Type} (l m : List (Nat × α)) (n : Nat) : lk (l ++ m) n = (lk l n).or (lk m n) := by
  induction l with
  | nil => rfl
  | cons x l ih =>
    obtain ⟨k, v⟩ := x
    simp only [List.cons_append, lk]
    split
    · rfl
    · exact ih
theorem lk_some_map (l : List (Nat × Blk)) (n : Nat) : lk (l.map fun x => (x.1, some x.2)) n = (lk l n).map some := by
  induction l with
  | nil => rfl
  | cons x l ih =>
    simp only [List.map_cons, lk]
    split
    · rfl
    · exact ih
theorem lk_none_map (l : List (Nat × Blk)) (n : Nat) : lk (l.map fun x => (x.1, (none : Option Blk))) n = (lk l n).map fun _ => none := by
  induction l with
  | nil => rfl
  | cons x l ih =>
    simp only [List.map_cons, lk]
    split
    · rfl
    · exact ih
theorem lk_mem {α : Type} {l : List (Nat × α)} {n : Nat} {v : α} (h : lk l n = some v) : (n, v) ∈ l := by
  induction l with
  | nil => cases h
  | cons x l ih =>
    obtain ⟨k, u⟩ := x
    simp only [lk] at h
    split at h
    · rename_i e
      cases h
      subst e
      exact List.mem_cons_self
    · exact List.mem_cons_of_mem _ (ih h)
theorem lk_none {α : Type} {l : List (Nat × α)} {n : Nat} (h : lk l n = none) : ∀ x ∈ l, x.1 ≠ n := by
  induction l with
  | nil => intro x hx; cases hx
  | cons x l ih =>
    obtain ⟨k, u⟩ := x
    simp only [lk] at h
    split at h
    · cases h
    · rename_i e
      intro y hy
      rcases List.mem_cons.1 hy with rfl | hy
      · exact fun e' => e e'.symm
      · exact ih h y hy

/-- a block behind an operation: the operation's own, or one that it left alone -/
theorem LS.blk_app (s : LS) (dst : Option Nat) (e : Eff) (h : Nat) : (s.app dst e).blk h = match lk e.out h with | some b => some b | none => if (lk e.hp h).isSome then none else s.blk h := by
  simp only [LS.blk, LS.app, lk_app, lk_some_map, lk_none_map]
  cases lk e.out h with
  | some b => rfl
  | none =>
    cases lk e.hp h with
    | some b => rfl
    | none => rfl

theorem mem_of_blk {l : List (Nat × Blk)} {h : Nat} {b : Blk} (e : lk l h = some b) : (h, b) ∈ l := lk_mem e

theorem evOK {C : Cx} {s : LS} {a : Act} {w : World} {β : Bt} {fz : Fz} (r : RelB C s a w β fz) {x : Operand} {v : V} (h : s.ev x = some v) : RepV β fz v (a.eval x) := by
  cases x with
  | tmp t =>
    obtain ⟨u, h1, h2⟩ := r.env t v h
    have : a.eval (.tmp t) = u := by simp [Act.eval, h1]
    rw [this]; exact h2
  | const c =>
    simp only [LS.ev, Option.some.injEq] at h
    subst h
    show RepV β fz (constV c) c
    unfold constV
    split
    · exact .d (.k _ _)
    · exact .d (.b _)
    · rename_i x
      exact .d (.s x.data.toList)
    · exact .d .nil
    · exact .d (.raw _)
  | global g => cases h
  | func f =>
    simp only [LS.ev, Option.some.injEq] at h
    subst h
    exact .d (.fn rfl (fun j d u a => by simp at a) rfl (fun j d u a => by simp at a))

theorem Post.rel {C : Cx} {s : LS} {a : Act} {w : World} {β : Bt} {fz : Fz} (r : RelB C s a w β fz) {e : Eff} {dst : Option Nat} (hd : ∀ d, dst = some d → d < C.nt) (hhp : ∀ x ∈ e.hp, s.blk x.1 = some x.2) (hnews : ∀ h ∈ e.news, s.free h)
    {u : Value} {β' : Bt} {fz' : Fz} {w' : World} (p : Post β fz w C.own e.hp e.news e.out e.v u β' fz' w') : RelB C (s.app dst e) (a.put dst u) w' β' fz' := by
  have hown : ∀ k, BlkIn β e.hp k → C.own k ∧ k < w.heap.size := fun k ⟨x, hx, y, h1, h2⟩ => by
    obtain ⟨y', h3, h4, _⟩ := r.hreps x.1 x.2 (hhp x hx)
    rw [h1] at h3; cases h3
    exact h4 k h2
  have hX : ∀ k, k < C.w0.heap.size → ¬ C.X k → ¬ BlkIn β e.hp k := fun k h1 h2 h3 => by
    rcases (hown k h3).1 with h | h
    · omega
    · exact h2 h
  -- handles that stay as they were
  have hstay : ∀ h blk, lk e.out h = none → lk e.hp h = none → s.blk h = some blk → ∀ y k, β h = some y → blkOf y = some k → ¬ BlkIn β e.hp k := fun h blk _ h2 h3 y k h4 h5 ⟨x, hx, y', h6, h7⟩ => by
    have := r.inj h x.1 y y' k ⟨_, h3⟩ ⟨_, hhp x hx⟩ h4 h6 h5 h7
    exact lk_none h2 x hx this.symm
  have hnn : ∀ h blk, s.blk h = some blk → h ∉ e.news := fun h blk h1 h2 => by
    obtain ⟨y, h3, _⟩ := r.hreps h blk h1
    rw [(r.free h (hnews h h2)).1] at h3
    cases h3
  constructor
  · exact p.os.trans r.os
  · exact p.tape.trans r.tape
  · exact p.output.trans r.output
  · exact Nat.le_trans r.size p.size
  · exact fun k h1 h2 => (p.frame k (Nat.lt_of_lt_of_le h1 r.size) (hX k h1 h2)).trans (r.frame k h1 h2)
  · exact r.ble.trans p.ble
  · exact fun h h1 => (p.bnew h fun h2 => by have := (r.free h (hnews h h2)).2; omega).trans (r.bnew h h1)
  · exact r.fle.trans p.fle
  · exact fun k h1 h2 o => (p.ffr k (Nat.lt_of_lt_of_le h1 r.size) (hX k h1 h2) o).trans (r.ffr k h1 h2 o)
  · exact p.ok
  · rintro h ⟨h1, h2⟩
    have h3 : h ∉ e.news ∧ h ∉ s.taken := by simpa [LS.app] using h2
    have := r.free h ⟨h1, h3.2⟩
    exact ⟨(p.bnew h h3.1).trans this.1, this.2⟩
  · intro h blk hb
    rw [LS.blk_app] at hb
    cases ho : lk e.out h with
    | some b =>
      rw [ho] at hb
      cases hb
      exact p.hreps _ (lk_mem ho)
    | none =>
      rw [ho] at hb
      cases hp : lk e.hp h with
      | some b => simp [hp] at hb
      | none =>
        simp [hp] at hb
        have hh := r.hreps h blk hb
        refine hh.frame p.ble p.fle p.size fun y k h1 h2 => ?_
        have hlt : k < w.heap.size := by
          obtain ⟨y', h3, h4, _⟩ := hh
          rw [h1] at h3; cases h3
          exact (h4 k h2).2
        have hn := hstay h blk ho hp hb y k h1 h2
        exact ⟨p.frame k hlt hn, p.ffr k hlt hn⟩
  · rintro h h' y y' k ⟨blk, hb⟩ ⟨blk', hb'⟩ h1 h2 h3 h4
    rw [LS.blk_app] at hb hb'
    have old : ∀ h blk y k, lk e.out h = none → (if (lk e.hp h).isSome then none else s.blk h) = some blk → β' h = some y → blkOf y = some k → (s.blk h = some blk ∧ β h = some y ∧ k < w.heap.size ∧ ¬ BlkIn β e.hp k) := fun h blk y k ho hb h1 h2 => by
      cases hp : lk e.hp h with
      | some b => simp [hp] at hb
      | none =>
        simp [hp] at hb
        rw [p.bnew h (hnn h blk hb)] at h1
        refine ⟨hb, h1, ?_, hstay h blk ho hp hb y k h1 h2⟩
        obtain ⟨y', h3, h4, _⟩ := r.hreps h blk hb
        rw [h1] at h3; cases h3
        exact (h4 k h2).2
    cases ho : lk e.out h with
    | some b =>
      cases ho' : lk e.out h' with
      | some b' => exact p.inj h h' y y' k ⟨_, lk_mem ho, rfl⟩ ⟨_, lk_mem ho', rfl⟩ h1 h2 h3 h4
      | none =>
        rw [ho'] at hb'
        obtain ⟨_, _, q1, q2⟩ := old h' blk' y' k ho' hb' h2 h4
        rcases p.blks _ (lk_mem ho) y k h1 h3 with q | q
        · omega
        · exact absurd q q2
    | none =>
      rw [ho] at hb
      obtain ⟨o1, o2, q1, q2⟩ := old h blk y k ho hb h1 h3
      cases ho' : lk e.out h' with
      | some b' =>
        rcases p.blks _ (lk_mem ho') y' k h2 h4 with q | q
        · omega
        · exact absurd q q2
      | none =>
        rw [ho'] at hb'
        obtain ⟨o1', o2', _, _⟩ := old h' blk' y' k ho' hb' h2 h4
        exact r.inj h h' y y' k ⟨_, o1⟩ ⟨_, o1'⟩ o2 o2' h3 h4
  · intro d v hv
    cases dst with
    | none =>
      obtain ⟨u', h1, h2⟩ := r.env d v hv
      exact ⟨u', h1, h2.mono p.ble p.fle⟩
    | some d0 =>
      simp only [LS.app, putE, lk] at hv
      split at hv
      · rename_i e'
        cases hv
        subst e'
        refine ⟨u, ?_, p.v⟩
        simp [Act.put, r.nt, hd d rfl]
      · rename_i e'
        obtain ⟨u', h1, h2⟩ := r.env d v hv
        exact ⟨u', by simp only [Act.put]; rw [Array.getElem?_setIfInBounds_ne (Ne.symm e')]; exact h1, h2.mono p.ble p.fle⟩
  · cases dst with
    | none => exact r.nt
    | some d => simpa [Act.put] using r.nt
  · have key : DR C.w0.heap.size (s.app dst e) w' β' fz' a.defers := by
      refine r.dfs.to rfl p.ble p.fle fun D h1 h2 h3 h4 => ?_
      have hD : D < w.heap.size := (Array.getElem?_eq_some_iff.1 h2).1
      have hn : ¬ BlkIn β e.hp D := fun ⟨x, hx, y, q1, q2⟩ => h4 x.1 x.2 y (hhp x hx) q1 q2
      refine ⟨(p.frame D hD hn).trans h2, fun o => (p.ffr D hD hn o).trans (h3 o), fun h blk y hb hy hk => ?_⟩
      rw [LS.blk_app] at hb
      cases ho : lk e.out h with
      | some b =>
        rcases p.blks _ (lk_mem ho) y D hy hk with q | q
        · omega
        · exact hn q
      | none =>
        rw [ho] at hb
        cases hq : lk e.hp h with
        | some b => simp [hq] at hb
        | none =>
          simp [hq] at hb
          rw [p.bnew h (hnn h blk hb)] at hy
          exact h4 h blk y hb hy hk
    cases dst <;> exact key

theorem StepOK.sound {C : Cx} {s : LS} {a : Act} {w : World} {β : Bt} {fz : Fz} {o : Oper} {e : Eff} (h : StepOK C.P C.nt s o e) (r : RelB C s a w β fz)
    {next : Act → World → Prop} {Q : Exit → Act → World → Prop} (hn : ∀ a' w' β' fz', RelB C (s.app o.dst e) a' w' β' fz' → next a' w') : Oper.wp C.P o a w next Q := by
  refine h.op β fz C.own a w r.ok (fun k hk => .inl (Nat.le_trans r.size hk)) (fun x hx => r.hreps _ _ (h.rd x hx)) (fun x hx => r.hreps _ _ (h.hp x hx)) ?_ (fun x hx => (r.free x (h.news x hx)).1) h.len
    (fun j x v hx hv => evOK r (h.vals j x v hx hv)) next Q fun u β' fz' w' p => hn _ _ _ _ (p.rel r h.dst h.hp h.news)
  intro x x' y y' k hx hx'
  have live : ∀ x, ((∃ z ∈ e.hp, z.1 = x) ∨ ∃ z ∈ e.rd, z.1 = x) → ∃ blk, s.blk x = some blk := fun x hx => by
    rcases hx with ⟨z, hz, rfl⟩ | ⟨z, hz, rfl⟩
    · exact ⟨_, h.hp z hz⟩
    · exact ⟨_, h.rd z hz⟩
  exact r.inj x x' y y' k (live x hx) (live x' hx')
end Go.Lm
