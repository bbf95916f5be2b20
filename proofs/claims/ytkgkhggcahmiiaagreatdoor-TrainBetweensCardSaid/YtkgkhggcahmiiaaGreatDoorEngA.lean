/- The logical machine (part 1 of 7): a reading of code as conditions, proved sound; no program in sight. -/
import Derived.WalkKit
import Derived.KernelRfl
import Derived.Deep.LoopGhost
import Derived.Maps.AppendAt
import Derived.Scope
/- The logical machine: values without addresses, and when a value of the model stands for one. No program in sight. -/
namespace Go.Lm
open Go Go.RowKit

/-- data that nobody changes any more -/
inductive D where
  | k (q : IntKind) (n : Int)
  | b (p : Bool)
  | s (l : List UInt8)
  | nil
  | sl (sz : Nat) (rows : List (List D))
  | agg (cs : List D)
  | tup (cs : List D)
  | fn (f : Fn) (first cap : List D)
  | ifc (t : TypeId) (d : D)
  | raw (x : Value)
  deriving Inhabited

/-- the cells that nobody changes any more: block, place -/
abbrev Fz := Nat → Nat → Option Value
def Fz.Le (fz fz' : Fz) : Prop := ∀ b o u, fz b o = some u → fz' b o = some u
theorem Fz.Le.refl (fz : Fz) : Fz.Le fz fz := fun _ _ _ h => h
theorem Fz.Le.trans {a b c : Fz} (h : Fz.Le a b) (k : Fz.Le b c) : Fz.Le a c := fun x y z e => k x y z (h x y z e)

inductive RepD (fz : Fz) : D → Value → Prop where
  | k (q : IntKind) (n : Int) : RepD fz (.k q n) (.int q n)
  | b (p : Bool) : RepD fz (.b p) (.bool p)
  | s (l : List UInt8) : RepD fz (.s l) (.string ⟨l.toArray⟩)
  | nil : RepD fz .nil (.slice none 0 0)
  | sl {A : Option Addr} {n c sz : Nat} {rows : List (List D)} (u : Nat → Nat → Value) (hn : rows.length = n) (hc : n ≤ c) (hm : n ≤ 140737488355328)
      (hsz : ∀ r ∈ rows, r.length = sz)
      (hA : 0 < n → ∃ b off, A = some ⟨b, off, none⟩ ∧ ∀ i j, i < n → j < sz → fz b (off + i * sz + j) = some (u i j))
      (ho : ∀ (i j : Nat) (r : List D) (d : D), rows[i]? = some r → r[j]? = some d → (u i j).oneCell' = true)
      (hu : ∀ (i j : Nat) (r : List D) (d : D), rows[i]? = some r → r[j]? = some d → RepD fz d (u i j)) : RepD fz (.sl sz rows) (.slice A n c)
  | agg {cs : List D} {vs : Array Value} (hl : vs.size = cs.length) (h : ∀ (j : Nat) (d : D) (u : Value), cs[j]? = some d → vs[j]? = some u → RepD fz d u) : RepD fz (.agg cs) (.agg vs)
  | tup {cs : List D} {vs : Array Value} (hl : vs.size = cs.length) (h : ∀ (j : Nat) (d : D) (u : Value), cs[j]? = some d → vs[j]? = some u → RepD fz d u) : RepD fz (.tup cs) (.tuple vs)
  | fn {f : Fn} {a c : List D} {va vc : Array Value} (hla : va.size = a.length) (ha : ∀ (j : Nat) (d : D) (u : Value), a[j]? = some d → va[j]? = some u → RepD fz d u)
      (hlc : vc.size = c.length) (hc : ∀ (j : Nat) (d : D) (u : Value), c[j]? = some d → vc[j]? = some u → RepD fz d u) : RepD fz (.fn f a c) (.func f va vc)
  | ifc (t : TypeId) {d : D} {u : Value} (h : RepD fz d u) : RepD fz (.ifc t d) (.iface t u)
  | raw (x : Value) : RepD fz (.raw x) x

theorem RepD.mono {fz fz' : Fz} (hf : Fz.Le fz fz') {d : D} {v : Value} (h : RepD fz d v) : RepD fz' d v := by
  induction h with
  | k q n => exact .k q n
  | b p => exact .b p
  | s l => exact .s l
  | nil => exact .nil
  | sl u hn hc hm hsz hA ho hu ih =>
    refine .sl u hn hc hm hsz (fun h0 => ?_) ho ih
    obtain ⟨b, off, e, h⟩ := hA h0
    exact ⟨b, off, e, fun i j hi hj => hf _ _ _ (h i j hi hj)⟩
  | agg hl h ih => exact .agg hl ih
  | tup hl h ih => exact .tup hl ih
  | fn hla ha hlc hc iha ihc => exact .fn hla iha hlc ihc
  | ifc t h ih => exact .ifc t ih
  | raw x => exact .raw x

def RepDs (fz : Fz) (cs : List D) (vs : Array Value) : Prop := vs.size = cs.length ∧ ∀ (j : Nat) (d : D) (u : Value), cs[j]? = some d → vs[j]? = some u → RepD fz d u
theorem RepDs.mono {fz fz' : Fz} (hf : Fz.Le fz fz') {cs : List D} {vs : Array Value} (h : RepDs fz cs vs) : RepDs fz' cs vs := ⟨h.1, fun j d u a b => (h.2 j d u a b).mono hf⟩

/-- values that may lead to memory of one's own: by handles -/
inductive V where
  | d (x : D)
  | p (h off : Nat)
  | q (sz : Nat) (rows : List (List D)) (i j : Nat)
  | own (h sz : Nat) (rows : List (List D))
  | ms (h off n : Nat)
  | agg (cs : List V)
  | tup (cs : List V)
  | fn (f : Fn) (first cap : List V)
  | h (h : Nat)
  | u
  deriving Inhabited
abbrev Bt := Nat → Option Value
def Bt.Le (β β' : Bt) : Prop := ∀ h x, β h = some x → β' h = some x
theorem Bt.Le.refl (β : Bt) : Bt.Le β β := fun _ _ h => h
theorem Bt.Le.trans {a b c : Bt} (h : Bt.Le a b) (k : Bt.Le b c) : Bt.Le a c := fun x y e => k x y (h x y e)

inductive RepV (β : Bt) (fz : Fz) : V → Value → Prop where
  | d {x : D} {v : Value} (h : RepD fz x v) : RepV β fz (.d x) v
  | p {h off b : Nat} (hb : β h = some (.pointer (some ⟨b, 0, none⟩))) : RepV β fz (.p h off) (.pointer (some ⟨b, off, none⟩))
  | q {sz i j b off : Nat} {rows : List (List D)} (u : Nat → Nat → Value) (hsz : ∀ r ∈ rows, r.length = sz)
      (hA : ∀ i j, i < rows.length → j < sz → fz b (off + i * sz + j) = some (u i j))
      (hu : ∀ (i j : Nat) (r : List D) (d : D), rows[i]? = some r → r[j]? = some d → RepD fz d (u i j)) : RepV β fz (.q sz rows i j) (.pointer (some ⟨b, off + i * sz + j, none⟩))
  | own {h sz : Nat} {rows : List (List D)} {v : Value} (hb : β h = some v) (hr : RepD fz (.sl sz rows) v) : RepV β fz (.own h sz rows) v
  | ms {h off n b o c : Nat} (hb : β h = some (.pointer (some ⟨b, 0, none⟩))) (hn : n ≤ c) (ho : 0 < n → o = off) : RepV β fz (.ms h off n) (.slice (some ⟨b, o, none⟩) n c)
  | agg {cs : List V} {vs : Array Value} (hl : vs.size = cs.length) (h : ∀ (j : Nat) (d : V) (u : Value), cs[j]? = some d → vs[j]? = some u → RepV β fz d u) : RepV β fz (.agg cs) (.agg vs)
  | tup {cs : List V} {vs : Array Value} (hl : vs.size = cs.length) (h : ∀ (j : Nat) (d : V) (u : Value), cs[j]? = some d → vs[j]? = some u → RepV β fz d u) : RepV β fz (.tup cs) (.tuple vs)
  | fn {f : Fn} {a c : List V} {va vc : Array Value} (hla : va.size = a.length) (ha : ∀ (j : Nat) (d : V) (u : Value), a[j]? = some d → va[j]? = some u → RepV β fz d u)
      (hlc : vc.size = c.length) (hc : ∀ (j : Nat) (d : V) (u : Value), c[j]? = some d → vc[j]? = some u → RepV β fz d u) : RepV β fz (.fn f a c) (.func f va vc)
  | h {h b : Nat} (hb : β h = some (.map (some b))) : RepV β fz (.h h) (.map (some b))
  | u (v : Value) : RepV β fz .u v

theorem RepV.mono {β β' : Bt} {fz fz' : Fz} (hb : Bt.Le β β') (hf : Fz.Le fz fz') {d : V} {v : Value} (h : RepV β fz d v) : RepV β' fz' d v := by
  induction h with
  | d h => exact .d (h.mono hf)
  | p h => exact .p (hb _ _ h)
  | q u hsz hA hu => exact .q u hsz (fun i j hi hj => hf _ _ _ (hA i j hi hj)) fun i j r d a b => (hu i j r d a b).mono hf
  | own h hr => exact .own (hb _ _ h) (hr.mono hf)
  | ms h hn ho => exact .ms (hb _ _ h) hn ho
  | agg hl h ih => exact .agg hl ih
  | tup hl h ih => exact .tup hl ih
  | fn hla ha hlc hc iha ihc => exact .fn hla iha hlc ihc
  | h h => exact .h (hb _ _ h)
  | u v => exact .u v
def RepVs (β : Bt) (fz : Fz) (cs : List V) (vs : Array Value) : Prop := vs.size = cs.length ∧ ∀ (j : Nat) (d : V) (u : Value), cs[j]? = some d → vs[j]? = some u → RepV β fz d u
theorem RepVs.mono {β β' : Bt} {fz fz' : Fz} (hb : Bt.Le β β') (hf : Fz.Le fz fz') {cs : List V} {vs : Array Value} (h : RepVs β fz cs vs) : RepVs β' fz' cs vs := ⟨h.1, fun j d u a b => (h.2 j d u a b).mono hb hf⟩

/-- a value without handles, as data; the token of a row is given up -/
def V.toD : V → Option D
  | .d x => some x
  | .own _ sz rows => some (.sl sz rows)
  | .agg cs => (toDs cs).map .agg
  | .tup cs => (toDs cs).map .tup
  | .fn f a c => match toDs a, toDs c with | some a, some c => some (.fn f a c) | _, _ => none
  | _ => none
where toDs : List V → Option (List D)
  | [] => some []
  | v :: vs => match v.toD, toDs vs with | some y, some ys => some (y :: ys) | _, _ => none

mutual
theorem toD_rep {β : Bt} {fz : Fz} : ∀ (x : V) {d : D} {v : Value}, x.toD = some d → RepV β fz x v → RepD fz d v
  | .d x, d, v, e, h => by
    simp only [V.toD, Option.some.injEq] at e
    subst e
    cases h with
    | d h => exact h
  | .own h' sz rows, d, v, e, h => by
    simp only [V.toD, Option.some.injEq] at e
    subst e
    cases h with
    | own _ hr => exact hr
  | .agg cs, d, v, e, h => by
    simp only [V.toD, Option.map_eq_some_iff] at e
    obtain ⟨ds, e, rfl⟩ := e
    cases h with
    | agg hl h =>
      obtain ⟨k1, k2⟩ := toDs_rep cs e ⟨hl, h⟩
      exact .agg k1 k2
  | .tup cs, d, v, e, h => by
    simp only [V.toD, Option.map_eq_some_iff] at e
    obtain ⟨ds, e, rfl⟩ := e
    cases h with
    | tup hl h =>
      obtain ⟨k1, k2⟩ := toDs_rep cs e ⟨hl, h⟩
      exact .tup k1 k2
  | .fn f a c, d, v, e, h => by
    simp only [V.toD] at e
    split at e
    · rename_i a' c' ea ec
      cases e
      cases h with
      | fn hla ha hlc hc =>
        obtain ⟨k1, k2⟩ := toDs_rep a ea ⟨hla, ha⟩
        obtain ⟨k3, k4⟩ := toDs_rep c ec ⟨hlc, hc⟩
        exact .fn k1 k2 k3 k4
    · cases e
  | .p _ _, _, _, e, _ => by simp [V.toD] at e
  | .q _ _ _ _, _, _, e, _ => by simp [V.toD] at e
  | .ms _ _ _, _, _, e, _ => by simp [V.toD] at e
  | .h _, _, _, e, _ => by simp [V.toD] at e
  | .u, _, _, e, _ => by simp [V.toD] at e
theorem toDs_rep {β : Bt} {fz : Fz} : ∀ (xs : List V) {ds : List D} {vs : Array Value}, V.toD.toDs xs = some ds → RepVs β fz xs vs → RepDs fz ds vs
  | [], ds, vs, e, h => by
    simp only [V.toD.toDs, Option.some.injEq] at e
    subst e
    exact ⟨h.1, fun j d u a => by simp at a⟩
  | x :: xs, ds, vs, e, h => by
    simp only [V.toD.toDs] at e
    split at e
    · rename_i d ds' ed eds
      cases e
      have hs := h.1
      have hx : ∀ u, vs[0]? = some u → RepD fz d u := fun u hu => toD_rep x ed (h.2 0 x u rfl hu)
      have hxs : RepDs fz ds' (vs.extract 1 vs.size) := toDs_rep xs eds ⟨by simp at hs ⊢; omega, fun j v u a b => h.2 (j + 1) v u (by simpa using a) (by
        rw [Array.getElem?_extract] at b; split at b
        · rwa [Nat.add_comm] at b
        · cases b)⟩
      refine ⟨by have := hxs.1; simp at this hs ⊢; omega, fun j d' u a b => ?_⟩
      cases j with
      | zero => simp at a; subst a; exact hx u b
      | succ j =>
        refine hxs.2 j d' u (by simpa using a) ?_
        have := (Array.getElem?_eq_some_iff.1 b).1
        rw [Array.getElem?_extract, if_pos (by omega), Nat.add_comm]; exact b
    · cases e
end
end Go.Lm
/- The logical machine: blocks of one's own, states, one operation. -/
namespace Go.Lm
open Go Go.RowKit

inductive Blk where
  | cells (cs : List V) (t : TypeId)
  | tail (n sz : Nat) (e : TypeId)
  | iter (l : List UInt8) (pos : Nat)
  | imap (es : List (D × D))
  deriving Inhabited

def blkOf : Value → Option Nat
  | .pointer (some a) => some a.block
  | .slice (some a) _ _ => some a.block
  | .map (some r) => some r
  | _ => none
theorem blkOf_own {v : Value} {k : Nat} (h : v.ownBlock = some k) : blkOf v = some k := by
  unfold Value.ownBlock at h
  split at h
  · exact h
  · cases h

def HB (β : Bt) (fz : Fz) (w : World) (x : Value) : Blk → Prop
  | .cells cs t => ∃ b us, x = .pointer (some ⟨b, 0, none⟩) ∧ w.heap[b]? = some (.cells us t (0, 0)) ∧ RepVs β fz cs us ∧ ∀ o, fz b o = none
  | .tail n sz e => ∃ xs, w.ownsRow 0 e sz x n xs ∧ ∀ b, x.ownBlock = some b → ∀ o, n * sz ≤ o → fz b o = none
  | .iter l pos => ∃ b, x = .pointer (some ⟨b, 0, none⟩) ∧ w.heap[b]? = some (.stringIter ⟨l.toArray⟩ pos) ∧ ∀ o, fz b o = none
  | .imap es => ∃ b en ck, x = .map (some b) ∧ w.heap[b]? = some (.map en ck) ∧ (∀ o, fz b o = none) ∧ en.size = es.length ∧
      ∀ (j : Nat) (d : D × D) (e : MapEntry), es[j]? = some d → en[j]? = some e → RepD fz d.1 e.key ∧ RepD fz d.2 e.val
def HRep (β : Bt) (fz : Fz) (w : World) (own : Nat → Prop) (h : Nat) (blk : Blk) : Prop :=
  ∃ x, β h = some x ∧ (∀ k, blkOf x = some k → own k ∧ k < w.heap.size) ∧ HB β fz w x blk

theorem ownsRow_frame {w w' : World} {base : Nat} {e : TypeId} {sz n : Nat} {v : Value} {xs : List Value} (h : w.ownsRow base e sz v n xs) (hk : ∀ k, v.ownBlock = some k → w'.heap[k]? = w.heap[k]?) : w'.ownsRow base e sz v n xs := by
  refine ⟨h.1, ?_⟩
  rcases h.2 with hn | ⟨g, cap, cur, rfl, hb, hg, rest⟩
  · exact .inl hn
  · exact .inr ⟨g, cap, cur, rfl, hb, (hk g rfl).trans hg, rest⟩

theorem HB.frame {β β' : Bt} {fz fz' : Fz} {w w' : World} {x : Value} {blk : Blk} (h : HB β fz w x blk) (hb : Bt.Le β β') (hf : Fz.Le fz fz')
    (hk : ∀ k, blkOf x = some k → w'.heap[k]? = w.heap[k]? ∧ ∀ o, fz' k o = fz k o) : HB β' fz' w' x blk := by
  cases blk with
  | cells cs t =>
    obtain ⟨b, us, rfl, h1, h2, h3⟩ := h
    obtain ⟨k1, k2⟩ := hk b rfl
    exact ⟨b, us, rfl, k1.trans h1, h2.mono hb hf, fun o => (k2 o).trans (h3 o)⟩
  | tail n sz e =>
    obtain ⟨xs, h1, h2⟩ := h
    exact ⟨xs, ownsRow_frame h1 fun k e => (hk k (blkOf_own e)).1, fun b e o ho => ((hk b (blkOf_own e)).2 o).trans (h2 b e o ho)⟩
  | iter l pos =>
    obtain ⟨b, rfl, h1, h2⟩ := h
    obtain ⟨k1, k2⟩ := hk b rfl
    exact ⟨b, rfl, k1.trans h1, fun o => (k2 o).trans (h2 o)⟩
  | imap es =>
    obtain ⟨b, en, ck, rfl, h1, h2, h3, h4⟩ := h
    obtain ⟨k1, k2⟩ := hk b rfl
    exact ⟨b, en, ck, rfl, k1.trans h1, fun o => (k2 o).trans (h2 o), h3, fun j d e a c => ⟨(h4 j d e a c).1.mono hf, (h4 j d e a c).2.mono hf⟩⟩
theorem HRep.frame {β β' : Bt} {fz fz' : Fz} {w w' : World} {own : Nat → Prop} {h : Nat} {blk : Blk} (hh : HRep β fz w own h blk) (hb : Bt.Le β β') (hf : Fz.Le fz fz') (hs : w.heap.size ≤ w'.heap.size)
    (hk : ∀ x k, β h = some x → blkOf x = some k → w'.heap[k]? = w.heap[k]? ∧ ∀ o, fz' k o = fz k o) : HRep β' fz' w' own h blk := by
  obtain ⟨x, h1, h2, h3⟩ := hh
  exact ⟨x, hb _ _ h1, fun k e => ⟨(h2 k e).1, Nat.lt_of_lt_of_le (h2 k e).2 hs⟩, h3.frame hb hf fun k e => hk x k h1 e⟩

/-- the first entry of a key -/
def lk {α : Type} : List (Nat × α) → Nat → Option α
  | [], _ => none
  | (k, v) :: l, n => if n = k then some v else lk l n

structure LS where
  env : List (Nat × V)
  heap : List (Nat × Option Blk)
  fresh : Nat
  taken : List Nat
  dfs : List (Fn × List V × List V)
def LS.blk (s : LS) (h : Nat) : Option Blk := (lk s.heap h).join
def LS.free (s : LS) (h : Nat) : Prop := s.fresh ≤ h ∧ h ∉ s.taken
def constV : Value → V
  | .int q n => .d (.k q n)
  | .bool p => .d (.b p)
  | .string x => .d (.s x.data.toList)
  | .slice none 0 0 => .d .nil
  | x => .d (.raw x)
def LS.ev (s : LS) : Operand → Option V
  | .tmp t => lk s.env t
  | .const c => some (constV c)
  | .func f => some (.d (.fn (.func f) [] []))
  | .global _ => none

/-- what one operation does -/
structure Eff where
  vals : List V
  rd : List (Nat × Blk)
  hp : List (Nat × Blk)
  news : List Nat
  out : List (Nat × Blk)
  v : V
def putE (dst : Option Nat) (v : V) (env : List (Nat × V)) : List (Nat × V) := match dst with | some d => (d, v) :: env | none => env
theorem lk_put_ne {dst : Option Nat} {v : V} {env : List (Nat × V)} {t : Nat} (h : dst ≠ some t) : lk (putE dst v env) t = lk env t := by
  cases dst with
  | none => rfl
  | some d => simp only [putE, lk]; rw [if_neg (fun e => h (by rw [e]))]
theorem lk_put_eq {dst : Option Nat} {v : V} {env : List (Nat × V)} {t : Nat} (h : dst = some t) : lk (putE dst v env) t = some v := by
  subst h; simp [putE, lk]
theorem lk_put_congr {dst : Option Nat} {v : V} {env env' : List (Nat × V)} {t : Nat} (h : lk env t = lk env' t) : lk (putE dst v env) t = lk (putE dst v env') t := by
  cases dst with
  | none => exact h
  | some d => simp only [putE, lk, h]
def LS.app (s : LS) (dst : Option Nat) (e : Eff) : LS where
  env := putE dst e.v s.env
  heap := e.out.map (fun x => (x.1, some x.2)) ++ (e.hp.map (fun x => (x.1, none)) ++ s.heap)
  fresh := s.fresh
  taken := e.news ++ s.taken
  dfs := s.dfs
/-- the calls that are put off -/
def DRep (β : Bt) (fz : Fz) (l : List (Fn × List V × List V)) (ds : List Deferred) : Prop :=
  ds.length = l.length ∧ ∀ (j : Nat) (x : Fn × List V × List V) (d : Deferred), l[j]? = some x → ds[j]? = some d → x.1 ≠ .method "" ∧ ∃ cap, d.target = .fn x.1 cap ∧ RepVs β fz x.2.1 cap ∧ RepVs β fz x.2.2 d.args
theorem DRep.mono {β β' : Bt} {fz fz' : Fz} (hb : Bt.Le β β') (hf : Fz.Le fz fz') {l : List (Fn × List V × List V)} {ds : List Deferred} (h : DRep β fz l ds) : DRep β' fz' l ds :=
  ⟨h.1, fun j x d a b => let ⟨h0, cap, h1, h2, h3⟩ := h.2 j x d a b; ⟨h0, cap, h1, h2.mono hb hf, h3.mono hb hf⟩⟩
/-- the sign that loops over functions may have left their marks among the calls that are put off -/
def snt : Fn × List V × List V := (.method "", [], [])
/-- marks: blocks that nobody else holds -/
structure AllCol (n : Nat) (s : LS) (w : World) (β : Bt) (fz : Fz) (ds : List Deferred) : Prop where
  all : ∀ d ∈ ds, ∃ D, d.target = .collected D ∧ n ≤ D ∧ w.heap[D]? = some (.deferred (some [])) ∧ (∀ o, fz D o = none) ∧ ∀ h blk y, s.blk h = some blk → β h = some y → blkOf y ≠ some D
  nodup : ds.Pairwise fun d e => d.target ≠ e.target
def DR (n : Nat) (s : LS) (w : World) (β : Bt) (fz : Fz) (ds : List Deferred) : Prop := DRep β fz s.dfs ds ∨ ∃ l p q, s.dfs = l ++ [snt] ∧ ds = p ++ q ∧ DRep β fz l p ∧ AllCol n s w β fz q
theorem DR.plain {n : Nat} {s : LS} {w : World} {β : Bt} {fz : Fz} {ds : List Deferred} (h : DR n s w β fz ds) (hs : ∀ x ∈ s.dfs, x.1 ≠ .method "") : DRep β fz s.dfs ds := by
  rcases h with h | ⟨l, p, q, h1, _⟩
  · exact h
  · exact absurd rfl (hs snt (by rw [h1]; simp))
theorem DR.nil {n : Nat} {s : LS} {w : World} {β : Bt} {fz : Fz} {ds : List Deferred} (h : DR n s w β fz ds) (hs : s.dfs = []) : ds = [] := by
  have := (h.plain (fun x hx => by rw [hs] at hx; cases hx)).1
  rw [hs] at this
  exact List.eq_nil_of_length_eq_zero this
theorem DR.marks {n : Nat} {s : LS} {w : World} {β : Bt} {fz : Fz} {ds : List Deferred} (h : DR n s w β fz ds) (hs : s.dfs = [snt]) : AllCol n s w β fz ds := by
  rcases h with h | ⟨l, p, q, h1, h2, h3, h4⟩
  · rw [hs] at h
    match ds, h.1 with
    | [d], _ => exact absurd rfl (h.2 0 snt d rfl rfl).1
  · rw [hs] at h1
    have hl : l = [] := by
      cases l with
      | nil => rfl
      | cons x l => cases l <;> simp at h1
    subst hl
    have hp := List.eq_nil_of_length_eq_zero h3.1
    subst hp
    subst h2
    exact h4
theorem AllCol.to {n : Nat} {s s' : LS} {w w' : World} {β β' : Bt} {fz fz' : Fz} {ds : List Deferred} (h : AllCol n s w β fz ds)
    (k : ∀ D, n ≤ D → w.heap[D]? = some (.deferred (some [])) → (∀ o, fz D o = none) → (∀ h blk y, s.blk h = some blk → β h = some y → blkOf y ≠ some D) → w'.heap[D]? = some (.deferred (some [])) ∧ (∀ o, fz' D o = none) ∧ ∀ h blk y, s'.blk h = some blk → β' h = some y → blkOf y ≠ some D) : AllCol n s' w' β' fz' ds :=
  ⟨fun d hd => let ⟨D, h1, h2, h3, h4, h5⟩ := h.all d hd; ⟨D, h1, h2, k D h2 h3 h4 h5⟩, h.nodup⟩
theorem DR.to {n : Nat} {s s' : LS} {w w' : World} {β β' : Bt} {fz fz' : Fz} {ds : List Deferred} (h : DR n s w β fz ds) (hd : s'.dfs = s.dfs) (hb : Bt.Le β β') (hf : Fz.Le fz fz')
    (k : ∀ D, n ≤ D → w.heap[D]? = some (.deferred (some [])) → (∀ o, fz D o = none) → (∀ h blk y, s.blk h = some blk → β h = some y → blkOf y ≠ some D) → w'.heap[D]? = some (.deferred (some [])) ∧ (∀ o, fz' D o = none) ∧ ∀ h blk y, s'.blk h = some blk → β' h = some y → blkOf y ≠ some D) : DR n s' w' β' fz' ds := by
  rcases h with h | ⟨l, p, q, h1, h2, h3, h4⟩
  · exact .inl (by rw [hd]; exact h.mono hb hf)
  · exact .inr ⟨l, p, q, by rw [hd]; exact h1, h2, h3.mono hb hf, h4.to k⟩

def FzOk (fz : Fz) (w : World) : Prop := ∀ b o u, fz b o = some u → w.cell? ⟨b, o, none⟩ = some u
/-- a block of a handle of a list -/
def BlkIn (β : Bt) (l : List (Nat × Blk)) (k : Nat) : Prop := ∃ x ∈ l, ∃ y, β x.1 = some y ∧ blkOf y = some k
def InjOn (β : Bt) (live : Nat → Prop) : Prop := ∀ h h' y y' k, live h → live h' → β h = some y → β h' = some y' → blkOf y = some k → blkOf y' = some k → h = h'

structure Post (β : Bt) (fz : Fz) (w : World) (own : Nat → Prop) (hp : List (Nat × Blk)) (news : List Nat) (out : List (Nat × Blk)) (v : V) (u : Value) (β' : Bt) (fz' : Fz) (w' : World) : Prop where
  ble : Bt.Le β β'
  bnew : ∀ h, h ∉ news → β' h = β h
  fle : Fz.Le fz fz'
  ffr : ∀ b, b < w.heap.size → ¬ BlkIn β hp b → ∀ o, fz' b o = fz b o
  ok : FzOk fz' w'
  os : w'.os = w.os
  tape : w'.tape = w.tape
  output : w'.output = w.output
  size : w.heap.size ≤ w'.heap.size
  frame : ∀ b, b < w.heap.size → ¬ BlkIn β hp b → w'.heap[b]? = w.heap[b]?
  hreps : ∀ x ∈ out, HRep β' fz' w' own x.1 x.2
  blks : ∀ x ∈ out, ∀ y k, β' x.1 = some y → blkOf y = some k → w.heap.size ≤ k ∨ BlkIn β hp k
  inj : InjOn β' fun h => ∃ x ∈ out, x.1 = h
  v : RepV β' fz' v u

def OpT (P : Program) (o : Oper) (e : Eff) : Prop := ∀ (β : Bt) (fz : Fz) (own : Nat → Prop) (a : Act) (w : World), FzOk fz w → (∀ k, w.heap.size ≤ k → own k) →
  (∀ x ∈ e.rd, HRep β fz w own x.1 x.2) → (∀ x ∈ e.hp, HRep β fz w own x.1 x.2) → InjOn β (fun h => (∃ x ∈ e.hp, x.1 = h) ∨ ∃ x ∈ e.rd, x.1 = h) → (∀ h ∈ e.news, β h = none) →
  e.vals.length = o.op.operands.size → (∀ (j : Nat) (x : Operand) (v : V), o.op.operands[j]? = some x → e.vals[j]? = some v → RepV β fz v (a.eval x)) →
  ∀ (next : Act → World → Prop) (Q : Exit → Act → World → Prop), (∀ u β' fz' w', Post β fz w own e.hp e.news e.out e.v u β' fz' w' → next (a.put o.dst u) w') → Oper.wp P o a w next Q

structure StepOK (P : Program) (nt : Nat) (s : LS) (o : Oper) (e : Eff) : Prop where
  op : OpT P o e
  len : e.vals.length = o.op.operands.size
  vals : ∀ (j : Nat) (x : Operand) (v : V), o.op.operands[j]? = some x → e.vals[j]? = some v → s.ev x = some v
  rd : ∀ x ∈ e.rd, s.blk x.1 = some x.2
  hp : ∀ x ∈ e.hp, s.blk x.1 = some x.2
  news : ∀ h ∈ e.news, s.free h
  outs : ∀ x ∈ e.out, x.1 ∈ e.news ∨ ∃ z ∈ e.hp, z.1 = x.1
  dst : ∀ d, o.dst = some d → d < nt

/-- the frame of a function's run: what there was, what is its own -/
structure Cx where
  P : Program
  w0 : World
  β0 : Bt
  fz0 : Fz
  X : Nat → Prop
  n0 : Nat
  nt : Nat
  hb : ∀ h x, β0 h = some x → h < n0
def Cx.own (C : Cx) (k : Nat) : Prop := C.w0.heap.size ≤ k ∨ C.X k
structure RelB (C : Cx) (s : LS) (a : Act) (w : World) (β : Bt) (fz : Fz) : Prop where
  os : w.os = C.w0.os
  tape : w.tape = C.w0.tape
  output : w.output = C.w0.output
  size : C.w0.heap.size ≤ w.heap.size
  frame : ∀ k, k < C.w0.heap.size → ¬ C.X k → w.heap[k]? = C.w0.heap[k]?
  ble : Bt.Le C.β0 β
  bnew : ∀ h, h < C.n0 → β h = C.β0 h
  fle : Fz.Le C.fz0 fz
  ffr : ∀ k, k < C.w0.heap.size → ¬ C.X k → ∀ o, fz k o = C.fz0 k o
  ok : FzOk fz w
  free : ∀ h, s.free h → β h = none ∧ C.n0 ≤ h
  hreps : ∀ h blk, s.blk h = some blk → HRep β fz w C.own h blk
  inj : InjOn β fun h => ∃ blk, s.blk h = some blk
  env : ∀ d v, lk s.env d = some v → ∃ u, a.tmps[d]? = some u ∧ RepV β fz v u
  nt : a.tmps.size = C.nt
  dfs : DR C.w0.heap.size s w β fz a.defers
def Rel (C : Cx) (s : LS) (a : Act) (w : World) : Prop := ∃ β fz, RelB C s a w β fz

theorem lk_app {α : Type} (l m : List (Nat × α)) (n : Nat) : lk (l ++ m) n = (lk l n).or (lk m n) := by
  induction l with
  | nil => rfl
  | cons x l ih =>
    obtain ⟨k, v⟩ := x
    simp only [List.cons_append, lk]
    split
    · rfl
    · exact ih
theorem lk_some_map (l : List (Nat × Blk)) (n : Nat) : lk (l.map fun x => (x.1, some x.2)) n = (lk l n).map some := by
  induction l with
  | nil => rfl
  | cons x l ih =>
    simp only [List.map_cons, lk]
    split
    · rfl
    · exact ih
theorem lk_none_map (l : List (Nat × Blk)) (n : Nat) : lk (l.map fun x => (x.1, (none : Option Blk))) n = (lk l n).map fun _ => none := by
  induction l with
  | nil => rfl
  | cons x l ih =>
    simp only [List.map_cons, lk]
    split
    · rfl
    · exact ih
theorem lk_mem {α : Type} {l : List (Nat × α)} {n : Nat} {v : α} (h : lk l n = some v) : (n, v) ∈ l := by
  induction l with
  | nil => cases h
  | cons x l ih =>
    obtain ⟨k, u⟩ := x
    simp only [lk] at h
    split at h
    · rename_i e
      cases h
      subst e
      exact List.mem_cons_self
    · exact List.mem_cons_of_mem _ (ih h)
theorem lk_none {α : Type} {l : List (Nat × α)} {n : Nat} (h : lk l n = none) : ∀ x ∈ l, x.1 ≠ n := by
  induction l with
  | nil => intro x hx; cases hx
  | cons x l ih =>
    obtain ⟨k, u⟩ := x
    simp only [lk] at h
    split at h
    · cases h
    · rename_i e
      intro y hy
      rcases List.mem_cons.1 hy with rfl | hy
      · exact fun e' => e e'.symm
      · exact ih h y hy

/-- a block behind an operation: the operation's own, or one that it left alone -/
theorem LS.blk_app (s : LS) (dst : Option Nat) (e : Eff) (h : Nat) : (s.app dst e).blk h = match lk e.out h with | some b => some b | none => if (lk e.hp h).isSome then none else s.blk h := by
  simp only [LS.blk, LS.app, lk_app, lk_some_map, lk_none_map]
  cases lk e.out h with
  | some b => rfl
  | none =>
    cases lk e.hp h with
    | some b => rfl
    | none => rfl

theorem mem_of_blk {l : List (Nat × Blk)} {h : Nat} {b : Blk} (e : lk l h = some b) : (h, b) ∈ l := lk_mem e

theorem evOK {C : Cx} {s : LS} {a : Act} {w : World} {β : Bt} {fz : Fz} (r : RelB C s a w β fz) {x : Operand} {v : V} (h : s.ev x = some v) : RepV β fz v (a.eval x) := by
  cases x with
  | tmp t =>
    obtain ⟨u, h1, h2⟩ := r.env t v h
    have : a.eval (.tmp t) = u := by simp [Act.eval, h1]
    rw [this]; exact h2
  | const c =>
    simp only [LS.ev, Option.some.injEq] at h
    subst h
    show RepV β fz (constV c) c
    unfold constV
    split
    · exact .d (.k _ _)
    · exact .d (.b _)
    · rename_i x
      exact .d (.s x.data.toList)
    · exact .d .nil
    · exact .d (.raw _)
  | global g => cases h
  | func f =>
    simp only [LS.ev, Option.some.injEq] at h
    subst h
    exact .d (.fn rfl (fun j d u a => by simp at a) rfl (fun j d u a => by simp at a))

theorem Post.rel {C : Cx} {s : LS} {a : Act} {w : World} {β : Bt} {fz : Fz} (r : RelB C s a w β fz) {e : Eff} {dst : Option Nat} (hd : ∀ d, dst = some d → d < C.nt) (hhp : ∀ x ∈ e.hp, s.blk x.1 = some x.2) (hnews : ∀ h ∈ e.news, s.free h)
    {u : Value} {β' : Bt} {fz' : Fz} {w' : World} (p : Post β fz w C.own e.hp e.news e.out e.v u β' fz' w') : RelB C (s.app dst e) (a.put dst u) w' β' fz' := by
  have hown : ∀ k, BlkIn β e.hp k → C.own k ∧ k < w.heap.size := fun k ⟨x, hx, y, h1, h2⟩ => by
    obtain ⟨y', h3, h4, _⟩ := r.hreps x.1 x.2 (hhp x hx)
    rw [h1] at h3; cases h3
    exact h4 k h2
  have hX : ∀ k, k < C.w0.heap.size → ¬ C.X k → ¬ BlkIn β e.hp k := fun k h1 h2 h3 => by
    rcases (hown k h3).1 with h | h
    · omega
    · exact h2 h
  -- handles that stay as they were
  have hstay : ∀ h blk, lk e.out h = none → lk e.hp h = none → s.blk h = some blk → ∀ y k, β h = some y → blkOf y = some k → ¬ BlkIn β e.hp k := fun h blk _ h2 h3 y k h4 h5 ⟨x, hx, y', h6, h7⟩ => by
    have := r.inj h x.1 y y' k ⟨_, h3⟩ ⟨_, hhp x hx⟩ h4 h6 h5 h7
    exact lk_none h2 x hx this.symm
  have hnn : ∀ h blk, s.blk h = some blk → h ∉ e.news := fun h blk h1 h2 => by
    obtain ⟨y, h3, _⟩ := r.hreps h blk h1
    rw [(r.free h (hnews h h2)).1] at h3
    cases h3
  constructor
  · exact p.os.trans r.os
  · exact p.tape.trans r.tape
  · exact p.output.trans r.output
  · exact Nat.le_trans r.size p.size
  · exact fun k h1 h2 => (p.frame k (Nat.lt_of_lt_of_le h1 r.size) (hX k h1 h2)).trans (r.frame k h1 h2)
  · exact r.ble.trans p.ble
  · exact fun h h1 => (p.bnew h fun h2 => by have := (r.free h (hnews h h2)).2; omega).trans (r.bnew h h1)
  · exact r.fle.trans p.fle
  · exact fun k h1 h2 o => (p.ffr k (Nat.lt_of_lt_of_le h1 r.size) (hX k h1 h2) o).trans (r.ffr k h1 h2 o)
  · exact p.ok
  · rintro h ⟨h1, h2⟩
    have h3 : h ∉ e.news ∧ h ∉ s.taken := by simpa [LS.app] using h2
    have := r.free h ⟨h1, h3.2⟩
    exact ⟨(p.bnew h h3.1).trans this.1, this.2⟩
  · intro h blk hb
    rw [LS.blk_app] at hb
    cases ho : lk e.out h with
    | some b =>
      rw [ho] at hb
      cases hb
      exact p.hreps _ (lk_mem ho)
    | none =>
      rw [ho] at hb
      cases hp : lk e.hp h with
      | some b => simp [hp] at hb
      | none =>
        simp [hp] at hb
        have hh := r.hreps h blk hb
        refine hh.frame p.ble p.fle p.size fun y k h1 h2 => ?_
        have hlt : k < w.heap.size := by
          obtain ⟨y', h3, h4, _⟩ := hh
          rw [h1] at h3; cases h3
          exact (h4 k h2).2
        have hn := hstay h blk ho hp hb y k h1 h2
        exact ⟨p.frame k hlt hn, p.ffr k hlt hn⟩
  · rintro h h' y y' k ⟨blk, hb⟩ ⟨blk', hb'⟩ h1 h2 h3 h4
    rw [LS.blk_app] at hb hb'
    have old : ∀ h blk y k, lk e.out h = none → (if (lk e.hp h).isSome then none else s.blk h) = some blk → β' h = some y → blkOf y = some k → (s.blk h = some blk ∧ β h = some y ∧ k < w.heap.size ∧ ¬ BlkIn β e.hp k) := fun h blk y k ho hb h1 h2 => by
      cases hp : lk e.hp h with
      | some b => simp [hp] at hb
      | none =>
        simp [hp] at hb
        rw [p.bnew h (hnn h blk hb)] at h1
        refine ⟨hb, h1, ?_, hstay h blk ho hp hb y k h1 h2⟩
        obtain ⟨y', h3, h4, _⟩ := r.hreps h blk hb
        rw [h1] at h3; cases h3
        exact (h4 k h2).2
    cases ho : lk e.out h with
    | some b =>
      cases ho' : lk e.out h' with
      | some b' => exact p.inj h h' y y' k ⟨_, lk_mem ho, rfl⟩ ⟨_, lk_mem ho', rfl⟩ h1 h2 h3 h4
      | none =>
        rw [ho'] at hb'
        obtain ⟨_, _, q1, q2⟩ := old h' blk' y' k ho' hb' h2 h4
        rcases p.blks _ (lk_mem ho) y k h1 h3 with q | q
        · omega
        · exact absurd q q2
    | none =>
      rw [ho] at hb
      obtain ⟨o1, o2, q1, q2⟩ := old h blk y k ho hb h1 h3
      cases ho' : lk e.out h' with
      | some b' =>
        rcases p.blks _ (lk_mem ho') y' k h2 h4 with q | q
        · omega
        · exact absurd q q2
      | none =>
        rw [ho'] at hb'
        obtain ⟨o1', o2', _, _⟩ := old h' blk' y' k ho' hb' h2 h4
        exact r.inj h h' y y' k ⟨_, o1⟩ ⟨_, o1'⟩ o2 o2' h3 h4
  · intro d v hv
    cases dst with
    | none =>
      obtain ⟨u', h1, h2⟩ := r.env d v hv
      exact ⟨u', h1, h2.mono p.ble p.fle⟩
    | some d0 =>
      simp only [LS.app, putE, lk] at hv
      split at hv
      · rename_i e'
        cases hv
        subst e'
        refine ⟨u, ?_, p.v⟩
        simp [Act.put, r.nt, hd d rfl]
      · rename_i e'
        obtain ⟨u', h1, h2⟩ := r.env d v hv
        exact ⟨u', by simp only [Act.put]; rw [Array.getElem?_setIfInBounds_ne (Ne.symm e')]; exact h1, h2.mono p.ble p.fle⟩
  · cases dst with
    | none => exact r.nt
    | some d => simpa [Act.put] using r.nt
  · have key : DR C.w0.heap.size (s.app dst e) w' β' fz' a.defers := by
      refine r.dfs.to rfl p.ble p.fle fun D h1 h2 h3 h4 => ?_
      have hD : D < w.heap.size := (Array.getElem?_eq_some_iff.1 h2).1
      have hn : ¬ BlkIn β e.hp D := fun ⟨x, hx, y, q1, q2⟩ => h4 x.1 x.2 y (hhp x hx) q1 q2
      refine ⟨(p.frame D hD hn).trans h2, fun o => (p.ffr D hD hn o).trans (h3 o), fun h blk y hb hy hk => ?_⟩
      rw [LS.blk_app] at hb
      cases ho : lk e.out h with
      | some b =>
        rcases p.blks _ (lk_mem ho) y D hy hk with q | q
        · omega
        · exact hn q
      | none =>
        rw [ho] at hb
        cases hq : lk e.hp h with
        | some b => simp [hq] at hb
        | none =>
          simp [hq] at hb
          rw [p.bnew h (hnn h blk hb)] at hy
          exact h4 h blk y hb hy hk
    cases dst <;> exact key

theorem StepOK.sound {C : Cx} {s : LS} {a : Act} {w : World} {β : Bt} {fz : Fz} {o : Oper} {e : Eff} (h : StepOK C.P C.nt s o e) (r : RelB C s a w β fz)
    {next : Act → World → Prop} {Q : Exit → Act → World → Prop} (hn : ∀ a' w' β' fz', RelB C (s.app o.dst e) a' w' β' fz' → next a' w') : Oper.wp C.P o a w next Q := by
  refine h.op β fz C.own a w r.ok (fun k hk => .inl (Nat.le_trans r.size hk)) (fun x hx => r.hreps _ _ (h.rd x hx)) (fun x hx => r.hreps _ _ (h.hp x hx)) ?_ (fun x hx => (r.free x (h.news x hx)).1) h.len
    (fun j x v hx hv => evOK r (h.vals j x v hx hv)) next Q fun u β' fz' w' p => hn _ _ _ _ (p.rel r h.dst h.hp h.news)
  intro x x' y y' k hx hx'
  have live : ∀ x, ((∃ z ∈ e.hp, z.1 = x) ∨ ∃ z ∈ e.rd, z.1 = x) → ∃ blk, s.blk x = some blk := fun x hx => by
    rcases hx with ⟨z, hz, rfl⟩ | ⟨z, hz, rfl⟩
    · exact ⟨_, h.hp z hz⟩
    · exact ⟨_, h.rd z hz⟩
  exact r.inj x x' y y' k (live x hx) (live x' hx')
end Go.Lm
/- The logical machine: a region, in the text's order and in any other. -/
namespace Go.Lm
open Go Go.RowKit

/-- what stands in the slot of an operation that was passed over -/
def uV : V := .d (.raw (.tuple #[]))
def LS.skip (s : LS) (dst : Option Nat) : LS := { s with env := putE dst uV s.env }
def gdst (all : Array Oper) (j : Nat) : Option Nat := (all[j]?).bind (·.dst)
def Guard (all : Array Oper) (s : LS) (o : Oper) (b : Bool) : Prop := match o.guard with
  | none => b = true
  | some (j, want) => ∃ t, gdst all j = some t ∧ ((∃ p, lk s.env t = some (.d (.b p)) ∧ b = (p == want)) ∨ ((∃ x, lk s.env t = some (.d (.raw (.tuple x)))) ∧ b = false))
def nxt (all : Array Oper) (i : Nat) (e : Option Eff) (s : LS) : LS := match all[i]? with
  | none => s
  | some o => match e with | some e => s.app o.dst e | none => s.skip o.dst
def Can (P : Program) (nt : Nat) (all : Array Oper) (i : Nat) (e : Option Eff) (s : LS) : Prop := ∃ o, all[i]? = some o ∧ match e with
  | some e => Guard all s o true ∧ StepOK P nt s o e
  | none => Guard all s o false ∧ ∀ d, o.dst = some d → d < nt

structure Eqv (s s' : LS) : Prop where
  env : ∀ d, lk s.env d = lk s'.env d
  blk : ∀ h, s.blk h = s'.blk h
  free : ∀ h, s.free h ↔ s'.free h
  dfs : s.dfs = s'.dfs
theorem Eqv.refl (s : LS) : Eqv s s := ⟨fun _ => rfl, fun _ => rfl, fun _ => Iff.rfl, rfl⟩
theorem Eqv.symm {s s' : LS} (h : Eqv s s') : Eqv s' s := ⟨fun d => (h.env d).symm, fun d => (h.blk d).symm, fun d => (h.free d).symm, h.dfs.symm⟩
theorem Eqv.trans {a b c : LS} (h : Eqv a b) (k : Eqv b c) : Eqv a c := ⟨fun d => (h.env d).trans (k.env d), fun d => (h.blk d).trans (k.blk d), fun d => (h.free d).trans (k.free d), h.dfs.trans k.dfs⟩
theorem RelB.congr {C : Cx} {s s' : LS} {a : Act} {w : World} {β : Bt} {fz : Fz} (r : RelB C s a w β fz) (h : Eqv s s') : RelB C s' a w β fz :=
  { r with
    free := fun x hx => r.free x ((h.free x).2 hx)
    hreps := fun x b hb => r.hreps x b ((h.blk x).trans hb)
    inj := fun x x' y y' k ⟨b, hb⟩ ⟨b', hb'⟩ => r.inj x x' y y' k ⟨b, (h.blk x).trans hb⟩ ⟨b', (h.blk x').trans hb'⟩
    env := fun d v hv => r.env d v ((h.env d).trans hv)
    dfs := r.dfs.to h.dfs.symm (Bt.Le.refl _) (Fz.Le.refl _) fun D _ h2 h3 h4 => ⟨h2, h3, fun x b y hb hy => h4 x b y ((h.blk x).trans hb) hy⟩ }

/-- handles that an operation reads or writes; that it writes -/
def rdh : Option Eff → List Nat | none => [] | some e => e.rd.map (·.1) ++ (e.hp.map (·.1) ++ e.news)
def wrh : Option Eff → List Nat | none => [] | some e => e.hp.map (·.1) ++ e.news

section
variable {P : Program} {nt : Nat} {all : Array Oper}

theorem nxt_env (i : Nat) (e : Option Eff) (s : LS) (t : Nat) (h : ∀ o, all[i]? = some o → o.dst ≠ some t) : lk (nxt all i e s).env t = lk s.env t := by
  unfold nxt
  cases ho : all[i]? with
  | none => rfl
  | some o => cases e <;> exact lk_put_ne (h o ho)
theorem nxt_dfs (i : Nat) (e : Option Eff) (s : LS) : (nxt all i e s).dfs = s.dfs := by
  unfold nxt
  cases all[i]? with
  | none => rfl
  | some o => cases e <;> rfl
theorem nxt_blk {i : Nat} {e : Option Eff} {s : LS} (c : Can P nt all i e s) (s' : LS) (h : Nat) (hh : h ∉ wrh e) : (nxt all i e s').blk h = s'.blk h := by
  obtain ⟨o, ho, c⟩ := c
  simp only [nxt, ho]
  cases e with
  | none => rfl
  | some e =>
    simp only [LS.blk_app]
    have h1 : lk e.out h = none := by
      cases hq : lk e.out h with
      | none => rfl
      | some b =>
        refine absurd ?_ hh
        simp only [wrh, List.mem_append, List.mem_map]
        rcases c.2.outs _ (lk_mem hq) with h | ⟨z, hz, e⟩
        · exact .inr h
        · exact .inl ⟨z, hz, e⟩
    have h2 : lk e.hp h = none := by
      cases hq : lk e.hp h with
      | none => rfl
      | some b => exact absurd (by simp only [wrh, List.mem_append, List.mem_map]; exact .inl ⟨_, lk_mem hq, rfl⟩) hh
    simp [h1, h2]
theorem nxt_blk_congr (i : Nat) (e : Option Eff) (s s' : LS) (h : Nat) (hh : s.blk h = s'.blk h) : (nxt all i e s).blk h = (nxt all i e s').blk h := by
  simp only [nxt]
  cases all[i]? with
  | none => exact hh
  | some o =>
    cases e with
    | none => exact hh
    | some e => simp only [LS.blk_app, hh]
theorem nxt_free (i : Nat) (e : Option Eff) (s : LS) (h : Nat) : (nxt all i e s).free h → s.free h := by
  simp only [nxt]
  cases all[i]? with
  | none => exact id
  | some o =>
    cases e with
    | none => exact id
    | some e => exact fun ⟨h1, h2⟩ => ⟨h1, fun h3 => h2 (by simp [LS.app, h3])⟩
theorem nxt_free2 (i : Nat) (e : Option Eff) (s : LS) (h : Nat) (hn : h ∉ wrh e) : s.free h → (nxt all i e s).free h := by
  simp only [nxt]
  cases all[i]? with
  | none => exact id
  | some o =>
    cases e with
    | none => exact id
    | some e =>
      simp only [wrh, List.mem_append, not_or] at hn
      exact fun ⟨h1, h2⟩ => ⟨h1, fun h3 => by
        simp only [LS.app, List.mem_append] at h3
        exact h3.elim hn.2 h2⟩
theorem nxt_congr (i : Nat) (e : Option Eff) {s s' : LS} (h : Eqv s s') : Eqv (nxt all i e s) (nxt all i e s') := by
  refine ⟨fun d => ?_, fun x => nxt_blk_congr i e s s' x (h.blk x), fun x => ?_, by rw [nxt_dfs, nxt_dfs]; exact h.dfs⟩
  · simp only [nxt]
    cases all[i]? with
    | none => exact h.env d
    | some o =>
      cases e <;> exact lk_put_congr (h.env d)
  · simp only [nxt]
    cases all[i]? with
    | none => exact h.free x
    | some o =>
      cases e with
      | none => exact h.free x
      | some e =>
        have hx := h.free x
        simp only [LS.free, LS.app, List.mem_append, not_or] at hx ⊢
        constructor
        · exact fun ⟨h1, h2, h3⟩ => ⟨(hx.1 ⟨h1, h3⟩).1, h2, (hx.1 ⟨h1, h3⟩).2⟩
        · exact fun ⟨h1, h2, h3⟩ => ⟨(hx.2 ⟨h1, h3⟩).1, h2, (hx.2 ⟨h1, h3⟩).2⟩

theorem ev_congr {s s' : LS} {o : Oper} (he : ∀ t ∈ o.looksAt all, lk s.env t = lk s'.env t) {j : Nat} {x : Operand} (hx : o.op.operands[j]? = some x) : s.ev x = s'.ev x := by
  cases x with
  | tmp t =>
    refine he t (List.mem_append_left _ (List.mem_filterMap.2 ⟨.tmp t, ?_, rfl⟩))
    rw [Array.mem_toList_iff]
    exact Array.mem_of_getElem? hx
  | _ => rfl
theorem Guard.congr {s s' : LS} {o : Oper} {b : Bool} (he : ∀ t ∈ o.looksAt all, lk s.env t = lk s'.env t) (h : Guard all s o b) : Guard all s' o b := by
  unfold Guard at *
  cases hg : o.guard with
  | none => rw [hg] at h; exact h
  | some x =>
    obtain ⟨j, want⟩ := x
    rw [hg] at h
    obtain ⟨t, h1, h2⟩ := h
    refine ⟨t, h1, ?_⟩
    rw [← he t ?_]
    · exact h2
    · refine List.mem_append_right _ ?_
      rw [hg]
      simpa [gdst] using h1
theorem StepOK.congr {s s' : LS} {o : Oper} {e : Eff} (he : ∀ t ∈ o.looksAt all, lk s.env t = lk s'.env t) (hb : ∀ h ∈ rdh (some e), s.blk h = s'.blk h) (hf : ∀ h ∈ e.news, s.free h → s'.free h) (c : StepOK P nt s o e) : StepOK P nt s' o e :=
  { c with
    vals := fun j x v hx hv => (ev_congr he hx).symm.trans (c.vals j x v hx hv)
    rd := fun x hx => (hb x.1 (by simp only [rdh, List.mem_append, List.mem_map]; exact .inl ⟨x, hx, rfl⟩)).symm.trans (c.rd x hx)
    hp := fun x hx => (hb x.1 (by simp only [rdh, List.mem_append, List.mem_map]; exact .inr (.inl ⟨x, hx, rfl⟩))).symm.trans (c.hp x hx)
    news := fun h hh => hf h hh (c.news h hh) }
theorem Can.congr {i : Nat} {e : Option Eff} {s s' : LS} (he : ∀ o, all[i]? = some o → ∀ t ∈ o.looksAt all, lk s.env t = lk s'.env t) (hb : ∀ h ∈ rdh e, s.blk h = s'.blk h) (hf : ∀ h ∈ wrh e, s.free h → s'.free h)
    (c : Can P nt all i e s) : Can P nt all i e s' := by
  obtain ⟨o, ho, c⟩ := c
  refine ⟨o, ho, ?_⟩
  cases e with
  | none => exact ⟨c.1.congr (he o ho), c.2⟩
  | some e => exact ⟨c.1.congr (he o ho), c.2.congr (he o ho) hb fun h hh => hf h (by simp [wrh, hh])⟩

/-- two operations do not meet -/
structure Compat (all : Array Oper) (i : Nat) (ei : Option Eff) (j : Nat) (ej : Option Eff) : Prop where
  apart : ∀ oi oj, all[i]? = some oi → all[j]? = some oj → oi.apart all oj = true
  one : ∀ h ∈ wrh ei, h ∉ rdh ej
  two : ∀ h ∈ wrh ej, h ∉ rdh ei
theorem wr_rd {e : Option Eff} {h : Nat} (hh : h ∈ wrh e) : h ∈ rdh e := by
  cases e with
  | none => exact hh
  | some e => exact List.mem_append_right _ hh

theorem swap {i j : Nat} {ei ej : Option Eff} {s : LS} (hc : Compat all i ei j ej) (cj : Can P nt all j ej s) (ci : Can P nt all i ei (nxt all j ej s)) :
    Can P nt all i ei s ∧ Can P nt all j ej (nxt all i ei s) ∧ Eqv (nxt all i ei (nxt all j ej s)) (nxt all j ej (nxt all i ei s)) := by
  have cj' := cj
  have ci' := ci
  obtain ⟨oj, hoj, _⟩ := cj'
  obtain ⟨oi, hoi, _⟩ := ci'
  obtain ⟨a1, a2, a3⟩ := Oper.apart_spec (hc.apart oi oj hoi hoj)
  have e1 : ∀ t ∈ oi.looksAt all, ∀ o, all[j]? = some o → o.dst ≠ some t := fun t ht o ho hd => by
    rw [hoj] at ho; cases ho
    exact a3 t hd ht
  have e2 : ∀ t ∈ oj.looksAt all, ∀ o, all[i]? = some o → o.dst ≠ some t := fun t ht o ho hd => by
    rw [hoi] at ho; cases ho
    exact a1 t hd ht
  have ci0 : Can P nt all i ei s := ci.congr (fun o ho t ht => by rw [hoi] at ho; cases ho; exact nxt_env j ej s t (e1 t ht)) (fun h hh => nxt_blk cj s h fun hw => hc.two h hw hh) (fun h _ => nxt_free j ej s h)
  refine ⟨ci0, cj.congr (fun o ho t ht => by rw [hoj] at ho; cases ho; exact (nxt_env i ei s t (e2 t ht)).symm) (fun h hh => (nxt_blk ci0 s h fun hw => hc.one h hw hh).symm)
    (fun h hh => nxt_free2 i ei s h fun hw => hc.one h hw (wr_rd hh)), ?_⟩
  constructor
  · intro d
    by_cases hi : oi.dst = some d
    · have hj : ∀ o, all[j]? = some o → o.dst ≠ some d := fun o ho hd => by
        rw [hoj] at ho; cases ho
        exact a2 d hi hd
      rw [nxt_env j ej (nxt all i ei s) d hj]
      simp only [nxt, hoi, hoj]
      cases ei <;> simp only [LS.app, LS.skip, lk_put_eq hi]
    · have hi' : ∀ o, all[i]? = some o → o.dst ≠ some d := fun o ho hd => by
        rw [hoi] at ho; cases ho
        exact hi hd
      rw [nxt_env i ei _ d hi']
      by_cases hj : oj.dst = some d
      · simp only [nxt, hoj]
        cases ej <;> simp only [LS.app, LS.skip, lk_put_eq hj]
      · have hj' : ∀ o, all[j]? = some o → o.dst ≠ some d := fun o ho hd => by
          rw [hoj] at ho; cases ho
          exact hj hd
        rw [nxt_env j ej _ d hj', nxt_env j ej _ d hj', nxt_env i ei _ d hi']
  · intro h
    by_cases hi : h ∈ wrh ei
    · have hj : h ∉ wrh ej := fun hw => hc.two h hw (wr_rd hi)
      rw [nxt_blk cj (nxt all i ei s) h hj]
      exact nxt_blk_congr i ei _ _ h (nxt_blk cj s h hj)
    · rw [nxt_blk ci0 (nxt all j ej s) h hi]
      exact nxt_blk_congr j ej _ _ h (nxt_blk ci0 s h hi).symm
  · intro h
    simp only [nxt, hoi, hoj]
    cases ei <;> cases ej <;> simp [LS.free, LS.app, LS.skip, and_comm, and_left_comm, or_left_comm] <;> (constructor <;> intro hh <;> simp_all)
  · rw [nxt_dfs, nxt_dfs, nxt_dfs, nxt_dfs]

def Run (P : Program) (nt : Nat) (all : Array Oper) : List (Nat × Option Eff) → LS → LS → Prop
  | [], s, t => Eqv s t
  | (i, e) :: r, s, t => Can P nt all i e s ∧ Run P nt all r (nxt all i e s) t
theorem Run.congr : ∀ (r : List (Nat × Option Eff)) {s s' t : LS}, Eqv s s' → Run P nt all r s t → Run P nt all r s' t
  | [], _, _, _, h, k => h.symm.trans k
  | (i, e) :: r, _, _, _, h, ⟨c, k⟩ =>
    ⟨c.congr (fun _ _ t _ => h.env t) (fun x _ => h.blk x) (fun x _ => (h.free x).1), Run.congr r (nxt_congr i e h) k⟩
theorem Run.front : ∀ (p : List (Nat × Option Eff)) {i : Nat} {e : Option Eff} {q : List (Nat × Option Eff)} {s t : LS}, (∀ x ∈ p, Compat all i e x.1 x.2) → Run P nt all (p ++ (i, e) :: q) s t → Run P nt all ((i, e) :: (p ++ q)) s t
  | [], _, _, _, _, _, _, h => h
  | (j, ej) :: p, i, e, q, s, t, hc, ⟨cj, h⟩ => by
    obtain ⟨ci, h⟩ := Run.front p (fun x hx => hc x (List.mem_cons_of_mem _ hx)) h
    obtain ⟨c1, c2, c3⟩ := swap (hc (j, ej) List.mem_cons_self) cj ci
    exact ⟨c1, c2, Run.congr _ c3 h⟩
end
end Go.Lm
/- The logical machine: a region that draws its order. -/
namespace Go.Lm
open Go Go.RowKit

section
variable {C : Cx} {all : Array Oper}

theorem guard_wanted {s : LS} {a : Act} {w : World} {β : Bt} {fz : Fz} (r : RelB C s a w β fz) {o : Oper} {b : Bool} (h : Guard all s o b) : Region.wanted o (yielded all a.tmps) = b := by
  unfold Guard at h
  unfold Region.wanted
  cases hg : o.guard with
  | none => rw [hg] at h; simp only; exact h.symm
  | some x =>
    obtain ⟨j, want⟩ := x
    rw [hg] at h
    obtain ⟨t, h1, ⟨p, h2, rfl⟩ | ⟨⟨x, h2⟩, rfl⟩⟩ := h
    · obtain ⟨u, h3, h4⟩ := r.env t _ h2
      have hu : u = .bool p := by
        cases h4 with
        | d h4 => cases h4; rfl
      subst hu
      simp only [gdst] at h1
      simp only [yielded, h1, Option.bind_some, h3]
      cases p <;> cases want <;> rfl
    · obtain ⟨u, h3, h4⟩ := r.env t _ h2
      have hu : u = .tuple x := by
        cases h4 with
        | d h4 => cases h4; rfl
      subst hu
      simp only [gdst] at h1
      simp only [yielded, h1, Option.bind_some, h3]
      cases want <;> rfl
theorem RelB.skip {s : LS} {a : Act} {w : World} {β : Bt} {fz : Fz} (r : RelB C s a w β fz) {dst : Option Nat} (hd : ∀ d, dst = some d → d < C.nt) : RelB C (s.skip dst) (a.put dst undef) w β fz :=
  { r with
    env := fun d v hv => by
      cases dst with
      | none => exact r.env d v hv
      | some d0 =>
        simp only [LS.skip, putE, lk] at hv
        split at hv
        · rename_i e
          cases hv
          subst e
          exact ⟨undef, by simp [Act.put, r.nt, hd d rfl], .d (.raw _)⟩
        · rename_i e
          obtain ⟨u', h1, h2⟩ := r.env d v hv
          exact ⟨u', by simp only [Act.put]; rw [Array.getElem?_setIfInBounds_ne (Ne.symm e)]; exact h1, h2⟩
    nt := by
      cases dst with
      | none => exact r.nt
      | some d => simpa [Act.put] using r.nt
    dfs := by
      cases dst with
      | none => exact r.dfs.to rfl (Bt.Le.refl _) (Fz.Le.refl _) fun D _ h2 h3 h4 => ⟨h2, h3, h4⟩
      | some d => exact r.dfs.to rfl (Bt.Le.refl _) (Fz.Le.refl _) fun D _ h2 h3 h4 => ⟨h2, h3, h4⟩ }

theorem can_sound {s : LS} {a : Act} {w : World} {β : Bt} {fz : Fz} (r : RelB C s a w β fz) {i : Nat} {e : Option Eff} (h : Can C.P C.nt all i e s) {K : Act → World → Prop} {Q : Exit → Act → World → Prop}
    (hK : ∀ a' w' β' fz', RelB C (nxt all i e s) a' w' β' fz' → K a' w') : wpOp C.P all Q i K a w := by
  obtain ⟨o, ho, h⟩ := h
  simp only [nxt, ho] at hK
  simp only [wpOp, ho]
  cases e with
  | some e =>
    rw [guard_wanted r h.1]
    simp only [if_true]
    exact .inl (h.2.sound r hK)
  | none =>
    rw [guard_wanted r h.1]
    simp only [Bool.false_eq_true, if_false]
    exact hK _ _ _ _ (r.skip h.2)

def pre (all : Array Oper) (i : Nat) : List Nat := match all[i]? with
  | some o => (o.after.toList.filter (Region.binds .any)).map (·.on)
  | none => []
def reach (all : Array Oper) : Nat → Nat → Nat → Bool
  | 0, j, i => (pre all i).contains j
  | f + 1, j, i => (pre all i).contains j || (pre all i).any fun e => reach all f j e
theorem reach_listed {listed : Array Bool} (hc : ∀ i, listed[i]? = some true → ∀ e ∈ pre all i, listed[e]? = some true) : ∀ (f j i : Nat), (∀ e ∈ pre all i, listed[e]? = some true) → reach all f j i = true → listed[j]? = some true
  | 0, j, i, h, hr => h j (by simpa [reach] using hr)
  | f + 1, j, i, h, hr => by
    simp only [reach, Bool.or_eq_true, List.any_eq_true] at hr
    rcases hr with hr | ⟨e, he, hr⟩
    · exact h j (by simpa using hr)
    · exact reach_listed hc f j e (hc e (h e he)) hr

theorem ready_iff {listed : Array Bool} (hl : listed.size = all.size) (i : Nat) : i ∈ Region.ready .any all listed ↔ (i < all.size ∧ listed[i]? = some false) ∧ ∀ e ∈ pre all i, listed[e]? = some true := by
  have gd : ∀ e, listed.getD e false = true ↔ listed[e]? = some true := fun e => by
    cases he : listed[e]? <;> simp [Array.getD_eq_getD_getElem?, he]
  simp only [Region.ready, List.mem_filter, List.mem_range, Bool.and_eq_true, Bool.not_eq_true']
  constructor
  · rintro ⟨h1, h2, h3⟩
    have hi : i < listed.size := by omega
    refine ⟨⟨h1, ?_⟩, ?_⟩
    · rw [Array.getElem?_eq_getElem hi]
      have : listed.getD i true = listed[i] := by simp [Array.getD_eq_getD_getElem?, hi]
      rw [this] at h2; rw [h2]
    · intro e he
      have ho : all[i]? = some all[i] := Array.getElem?_eq_getElem h1
      simp only [pre, ho, List.mem_map, List.mem_filter] at he
      obtain ⟨x, ⟨hx, hb⟩, rfl⟩ := he
      simp only [ho, Option.map_some, Option.getD_some, Array.all_eq_true_iff_forall_mem] at h3
      have := h3 x (Array.mem_toList_iff.1 hx)
      rw [hb] at this
      simp only [Bool.not_true, Bool.false_or] at this
      exact (gd _).1 this
  · rintro ⟨⟨h1, h2⟩, h3⟩
    have hi : i < listed.size := by omega
    refine ⟨h1, ?_, ?_⟩
    · have : listed.getD i true = listed[i] := by simp [Array.getD_eq_getD_getElem?, hi]
      rw [this]
      rw [Array.getElem?_eq_getElem hi] at h2
      simpa using h2
    · have ho : all[i]? = some all[i] := Array.getElem?_eq_getElem h1
      simp only [ho, Option.map_some, Option.getD_some, Array.all_eq_true_iff_forall_mem]
      intro x hx
      cases hb : Region.binds .any x with
      | false => rfl
      | true =>
        simp only [Bool.not_true, Bool.false_or]
        refine (gd _).2 (h3 _ ?_)
        simp only [pre, ho, List.mem_map, List.mem_filter]
        exact ⟨x, ⟨Array.mem_toList_iff.2 hx, hb⟩, rfl⟩

theorem any_of_run {Q : Exit → Act → World → Prop} (hed : ∀ i, ∀ e ∈ pre all i, e < i) {t : LS} (hQ : ∀ a' w', Rel C t a' w' → Q .normal a' w') : ∀ (fuel : Nat) (listed : Array Bool) (r : List (Nat × Option Eff)) (s : LS) (a : Act) (w : World),
    Rel C s a w → Run C.P C.nt all r s t → r.length ≤ fuel → listed.size = all.size → (∀ i, i ∈ r.map (·.1) ↔ i < all.size ∧ listed[i]? = some false) →
    (∀ i, listed[i]? = some true → ∀ e ∈ pre all i, listed[e]? = some true) → (r.map (·.1)).Pairwise (· < ·) →
    r.Pairwise (fun x y => reach all 9 x.1 y.1 = true ∨ Compat all y.1 y.2 x.1 x.2) → wpAny C.P .any all Q fuel listed a w := by
  have hnil : ∀ (listed : Array Bool) (r : List (Nat × Option Eff)), listed.size = all.size → (∀ i, i ∈ r.map (·.1) ↔ i < all.size ∧ listed[i]? = some false) → (r.map (·.1)).Pairwise (· < ·) → Region.ready .any all listed = [] → r = [] := by
    intro listed r hl hi hs he
    cases r with
    | nil => rfl
    | cons x r =>
      exfalso
      have h1 := (hi x.1).1 (by simp)
      have : x.1 ∈ Region.ready .any all listed := by
        rw [ready_iff hl]
        refine ⟨h1, fun e he => ?_⟩
        have hlt := hed x.1 e he
        have hes : e < listed.size := by omega
        have hn : ¬ (e < all.size ∧ listed[e]? = some false) := fun hh => by
          have := (hi e).2 hh
          simp only [List.map_cons, List.mem_cons, List.pairwise_cons] at this hs
          rcases this with h | h
          · omega
          · have := hs.1 e h; omega
        cases hv : listed[e] with
        | true => rw [Array.getElem?_eq_getElem hes, hv]
        | false => exact absurd ⟨by omega, by rw [Array.getElem?_eq_getElem hes, hv]⟩ hn
      rw [he] at this
      cases this
  intro fuel
  induction fuel with
  | zero =>
    intro listed r s a w hr hrun hlen hl hi hc hs hp
    have : r = [] := List.eq_nil_of_length_eq_zero (by omega)
    subst this
    obtain ⟨β, fz, hr⟩ := hr
    refine ⟨?_, hQ _ _ ⟨β, fz, hr.congr hrun⟩⟩
    refine List.eq_nil_iff_forall_not_mem.2 fun i h => ?_
    rw [ready_iff hl] at h
    have := (hi i).2 h.1
    simp at this
  | succ fuel ih =>
    intro listed r s a w hr hrun hlen hl hi hc hs hp
    obtain ⟨β, fz, hr⟩ := hr
    refine ⟨fun he => ?_, fun i h => ?_⟩
    · have := hnil listed r hl hi hs he
      subst this
      exact hQ _ _ ⟨β, fz, hr.congr hrun⟩
    · rw [ready_iff hl] at h
      obtain ⟨x, hx, hxi⟩ := List.mem_map.1 ((hi i).2 h.1)
      obtain ⟨i', e⟩ := x
      obtain rfl : i' = i := hxi
      obtain ⟨p, q, rfl⟩ := List.append_of_mem hx
      have hpw := List.pairwise_append.1 hp
      have hfr : ∀ x ∈ p, Compat all i' e x.1 x.2 := fun x hx => by
        rcases hpw.2.2 x hx (i', e) List.mem_cons_self with h1 | h1
        · exfalso
          have h2 := reach_listed hc 9 x.1 i' h.2 h1
          have h3 := ((hi x.1).1 (by simp; exact .inl ⟨_, hx⟩)).2
          rw [h2] at h3; cases h3
        · exact h1
      obtain ⟨c1, c2⟩ := Run.front p hfr hrun
      refine can_sound hr c1 fun a' w' β' fz' hr' => ?_
      have hsub : (p ++ q).Sublist (p ++ (i', e) :: q) := List.Sublist.append_left (List.sublist_cons_self _ _) _
      have hni : i' ∉ (p ++ q).map (·.1) := by
        rw [List.map_append, List.map_cons, List.pairwise_append, List.pairwise_cons] at hs
        rw [List.map_append, List.mem_append]
        rintro (h1 | h1)
        · have := hs.2.2 i' h1 i' List.mem_cons_self; omega
        · have := hs.2.1.1 i' h1; omega
      have hset : ∀ x, (listed.setIfInBounds i' true)[x]? = if x = i' then some true else listed[x]? := fun x => by
        by_cases hx : x = i'
        · subst hx; simp [hl, h.1.1]
        · rw [Array.getElem?_setIfInBounds_ne (Ne.symm hx), if_neg hx]
      refine ih (listed.setIfInBounds i' true) (p ++ q) _ a' w' ⟨β', fz', hr'⟩ c2 ?_ (by simpa using hl) ?_ ?_ (hs.sublist (hsub.map _)) (hp.sublist hsub)
      · simp at hlen ⊢; omega
      · intro x
        rw [hset]
        constructor
        · intro hx
          have hne : x ≠ i' := fun e => hni (e ▸ hx)
          rw [if_neg hne]
          exact (hi x).1 (List.Sublist.subset (hsub.map _) hx)
        · rintro ⟨h1, h2⟩
          split at h2
          · cases h2
          · rename_i hne
            have := (hi x).2 ⟨h1, h2⟩
            simp only [List.map_append, List.map_cons, List.mem_append, List.mem_cons] at this ⊢
            rcases this with h | h | h
            · exact .inl h
            · exact absurd h hne
            · exact .inr h
      · intro x hx y hy
        rw [hset] at hx ⊢
        split
        · rfl
        · split at hx
          · rename_i e; subst e; exact h.2 y hy
          · exact hc x hx y hy
end
end Go.Lm
/- The logical machine: code, step by step, and what that says of the model. -/
namespace Go.Lm
open Go Go.RowKit

inductive Fx where
  | ret
  | pan (d : D)
inductive It where
  | code (c : Code)
  | ops (all : Array Oper) (i : Nat) (l : List Oper) (tr : List (Nat × List Nat × List Nat)) (draw : Bool)
  | op1 (all : Array Oper) (i : Nat) (o : Oper) (l : List Oper) (tr : List (Nat × List Nat × List Nat)) (draw : Bool)
  | blk (id : Nat)
  | back (B : LS → Prop)
def csize : Code → Nat
  | .region _ ops _ => 2 * ops.size + 3
  | .seq a b => csize a + csize b + 2
  | .cond _ a b => csize a + csize b + 2
  | .block _ c => csize c + 3
  | .loop c => csize c + 3
  | .rangeFunc _ _ a b => csize a + csize b + 3
  | .scope c => csize c + 3
  | _ => 1
def It.size : It → Nat
  | .code c => csize c + 1
  | .ops _ _ l _ _ => 2 * l.length + 1
  | .op1 _ _ _ l _ _ => 2 * l.length + 2
  | .blk _ => 1
  | .back _ => 1
def ssize (k : List It) : Nat := (k.map It.size).sum
theorem ssize_cons (x : It) (k : List It) : ssize (x :: k) = x.size + ssize k := by simp [ssize]

/-- what stands behind a block -/
def popTo (id : Nat) : List It → Option (List It)
  | [] => none
  | .blk j :: k => if id = j then some k else popTo id k
  | _ :: k => popTo id k
theorem popTo_size {id : Nat} : ∀ {k k' : List It}, popTo id k = some k' → ssize k' ≤ ssize k
  | [], _, h => by cases h
  | x :: k, k', h => by
    have : popTo id k = some k' ∨ k' = k := by
      cases x <;> simp only [popTo] at h <;> first | exact .inl h | skip
      split at h
      · cases h; exact .inr rfl
      · exact .inl h
    rw [ssize_cons]
    rcases this with h | rfl
    · have := popTo_size h; omega
    · omega

def LS.settle (s : LS) : LS := { s with fresh := s.taken.foldl (fun m h => if m ≤ h then h + 1 else m) s.fresh, taken := [] }
def LS.setB (s : LS) (t : Nat) (p : Bool) : LS := { s with env := (t, .d (.b p)) :: s.env }

inductive GR where
  | yes
  | ask (t : Nat) (p want : Bool)
  | no
  | bad
def guardOf (all : Array Oper) (s : LS) (o : Oper) : GR := match o.guard with
  | none => .yes
  | some (j, want) => match gdst all j with
    | none => .bad
    | some t => match lk s.env t with
      | some (.d (.b p)) => .ask t p want
      | some (.d (.raw (.tuple _))) => .no
      | _ => .bad
def apartB (all : Array Oper) (i j : Nat) : Bool := match all[i]?, all[j]? with
  | some oi, some oj => oi.apart all oj
  | _, _ => true
def compatB (all : Array Oper) (x y : Nat × List Nat × List Nat) : Bool :=
  apartB all x.1 y.1 && x.2.2.all (fun h => !y.2.1.contains h) && y.2.2.all (fun h => !x.2.1.contains h)
def chkP (all : Array Oper) : List (Nat × List Nat × List Nat) → Bool
  | [] => true
  | x :: tr => tr.all (fun y => compatB all x y || reach all 9 y.1 x.1) && chkP all tr
def edgesB (all : Array Oper) : Bool := (List.range all.size).all fun i => (pre all i).all fun e => decide (e < i)
def Chk (all : Array Oper) (tr : List (Nat × List Nat × List Nat)) : Prop := (edgesB all && chkP all tr) = true

/-- an operation that is carried out by itself -/
inductive XR where
  | none
  | one (c : Bool) (e : Eff)
  | call (g : FuncId) (args vals : List V)
  | pan (d : D)
  | dfr (x : Fn × List V × List V)
/-- an operation panics with a value -/
def PanOK (P : Program) (s : LS) (o : Oper) (d : D) : Prop := ∀ (β : Bt) (fz : Fz) (own : Nat → Prop) (a : Act) (w : World), FzOk fz w → (∀ k, w.heap.size ≤ k → own k) → (∀ x v, s.ev x = some v → RepV β fz v (a.eval x)) →
  ∀ (next : Act → World → Prop) (Q : Exit → Act → World → Prop), (∀ v fz' w', Post β fz w own [] [] [] .u v β fz' w' → RepD fz' d v → Q (.panic [{ v := v, recovered := false }]) a w') → Oper.wp P o a w next Q
/-- an operation puts off a call -/
def DfrOK (P : Program) (s : LS) (o : Oper) (x : Fn × List V × List V) : Prop := ∀ (β : Bt) (fz : Fz) (a : Act) (w : World), (∀ x v, s.ev x = some v → RepV β fz v (a.eval x)) →
  ∃ d : Deferred, (execOp a.eval o).run P w = .ok (.defer d) w ∧ x.1 ≠ .method "" ∧ ∃ cap, d.target = .fn x.1 cap ∧ RepVs β fz x.2.1 cap ∧ RepVs β fz x.2.2 d.args
/-- an operation calls a function -/
def CallOK (P : Program) (s : LS) (o : Oper) (g : FuncId) (args vals : List V) : Prop := vals.length = o.op.operands.size ∧ (∀ (j : Nat) (x : Operand) (v : V), o.op.operands[j]? = some x → vals[j]? = some v → s.ev x = some v) ∧
  ∀ (β : Bt) (fz : Fz) (a : Act) (w : World), (∀ (j : Nat) (x : Operand) (v : V), o.op.operands[j]? = some x → vals[j]? = some v → RepV β fz v (a.eval x)) → ∃ us, (execOp a.eval o).run P w = (callFunc g us).run P w ∧ RepVs β fz args us
/-- what must be known of the function that carries operations out -/
structure Xo (P : Program) where
  run : LS → Nat → Oper → XR
  ok : ∀ s new o c e, run s new o = .one c e → c = true → OpT P o e ∧ e.vals.length = o.op.operands.size ∧ (∀ (j : Nat) (x : Operand) (v : V), o.op.operands[j]? = some x → e.vals[j]? = some v → s.ev x = some v) ∧
    (∀ x ∈ e.rd, s.blk x.1 = some x.2) ∧ (∀ x ∈ e.hp, s.blk x.1 = some x.2) ∧ (∀ h ∈ e.news, h = new) ∧ (∀ x ∈ e.out, x.1 ∈ e.news ∨ ∃ z ∈ e.hp, z.1 = x.1)
  okp : ∀ s new o d, run s new o = .pan d → PanOK P s o d
  okd : ∀ s new o x, run s new o = .dfr x → DfrOK P s o x
structure Cf where
  P : Program
  nt : Nat
  n0 : Nat
  xo : Xo P
  F : Fx → LS → Prop

/-- what stands behind, in the model -/
def sem (X : Cx) (F : Fx → LS → Prop) : List It → Exit → Act → World → Prop
  | [], e, a, w => match e with
    | .normal | .ret => ∃ s, F .ret s ∧ Rel X s a w
    | .panic ch => ∃ s d v β fz, F (.pan d) s ∧ ch = [{ v := v, recovered := false }] ∧ RelB X s a w β fz ∧ RepD fz d v
    | _ => False
  | .code c :: k, e, a, w => match e with
    | .normal => c.wp X.P (sem X F k) a w
    | e => sem X F k e a w
  | .ops all i l _ _ :: k, e, a, w => match e with
    | .normal => wpOps X.P all (sem X F k) (List.range' i l.length) a w
    | e => sem X F k e a w
  | .op1 all i o l _ _ :: k, e, a, w => match e with
    | .normal => Oper.wp X.P o a w (wpOps X.P all (sem X F k) (List.range' (i + 1) l.length)) (sem X F k)
    | e => sem X F k e a w
  | .blk id :: k, e, a, w => Exit.inBlock id (sem X F k) e a w
  | .back B :: k, e, a, w => match e with
    | .normal => ∃ s, B s ∧ Rel X s a w
    | e => sem X F k e a w
def Leaf (C : Cf) (c : Code) (k : List It) (s : LS) : Prop := ∀ (X : Cx), X.P = C.P → X.nt = C.nt → X.n0 = C.n0 → ∀ a w, Rel X s a w → c.wp X.P (sem X C.F k) a w

def dlt : Option Nat → Nat → Bool
  | none, _ => true
  | some d, n => decide (d < n)
theorem dlt_ok {d : Option Nat} {n : Nat} (h : dlt d n = true) : ∀ x, d = some x → x < n := fun x e => by subst e; simpa [dlt] using h

def gx (C : Cf) : List It → LS → Prop
  | [], s => C.F .ret s
  | .blk _ :: k, s => gx C k s
  | .back B :: _, s => B s
  | .code .skip :: k, s => gx C k s
  | .code (.label _) :: k, s => gx C k s
  | .code (.seq a b) :: k, s => gx C (.code a :: .code b :: k) s
  | .code (.block id c) :: k, s => gx C (.code c :: .blk id :: k) s
  | .code (.scope c) :: k, s => gx C (.code c :: k) s
  | .code (.exit id) :: k, s => match _h : popTo id k with
    | some k' => gx C k' s
    | none => False
  | .code .ret :: _, s => C.F .ret s
  | .code (.cond (.tmp t) a b) :: k, s => match lk s.env t with
    | some (.d (.b p)) => (p = true → gx C (.code a :: k) (s.setB t true)) ∧ (p = false → gx C (.code b :: k) (s.setB t false))
    | _ => False
  | .code (.cond (.const (.bool p)) a b) :: k, s => (p = true → gx C (.code a :: k) s) ∧ (p = false → gx C (.code b :: k) s)
  | .code (.region _ ops draw) :: k, s => gx C (.ops ops 0 ops.toList [] draw :: k) s
  | .code c :: k, s => Leaf C c k s
  | .ops all _ [] tr draw :: k, s => (draw = true → Chk all tr) ∧ gx C k s.settle
  | .ops all i (o :: l) tr draw :: k, s => match guardOf all s o with
    | .yes => gx C (.op1 all i o l tr draw :: k) s
    | .ask t p want => (p = want → gx C (.op1 all i o l tr draw :: k) (s.setB t want)) ∧ (p = !want → dlt o.dst C.nt = true ∧ gx C (.ops all (i + 1) l ((i, [], []) :: tr) draw :: k) ((s.setB t (!want)).skip o.dst))
    | .no => dlt o.dst C.nt = true ∧ gx C (.ops all (i + 1) l ((i, [], []) :: tr) draw :: k) (s.skip o.dst)
    | .bad => False
  | .op1 all i o l tr draw :: k, s => match C.xo.run s (s.fresh + i) o with
    | .one c e => (dlt o.dst C.nt = true ∧ s.fresh + i ∉ s.taken ∧ c = true) ∧ gx C (.ops all (i + 1) l ((i, rdh (some e), wrh (some e)) :: tr) draw :: k) (s.app o.dst e)
    | .pan d => draw = false ∧ C.F (.pan d) s
    | .dfr x => draw = false ∧ dlt o.dst C.nt = true ∧ gx C (.ops all (i + 1) l ((i, [], []) :: tr) draw :: k) { s with env := putE o.dst uV s.env, dfs := x :: s.dfs }
    | .none | .call _ _ _ => (∃ e, StepOK C.P C.nt s o e ∧ gx C (.ops all (i + 1) l ((i, rdh (some e), wrh (some e)) :: tr) draw :: k) (s.app o.dst e)) ∨ (draw = false ∧ ∃ d, PanOK C.P s o d ∧ C.F (.pan d) s)
termination_by k _ => ssize k
decreasing_by all_goals (simp only [ssize_cons, It.size, csize, List.length_cons, Array.length_toList]; first | omega | (have := popTo_size _h; omega))
end Go.Lm
/- The logical machine: what it says holds of the model. -/
namespace Go.Lm
open Go Go.RowKit

theorem Eqv.setB {s : LS} {t : Nat} {p : Bool} (h : lk s.env t = some (.d (.b p))) : Eqv s (s.setB t p) :=
  ⟨fun d => by
    simp only [LS.setB, lk]
    split
    · rename_i e; subst e; exact h
    · rfl, fun _ => rfl, fun _ => Iff.rfl, rfl⟩
theorem settle_ge (l : List Nat) : ∀ (m : Nat), m ≤ l.foldl (fun m h => if m ≤ h then h + 1 else m) m ∧ ∀ x ∈ l, x < l.foldl (fun m h => if m ≤ h then h + 1 else m) m := by
  induction l with
  | nil => intro m; exact ⟨Nat.le_refl _, fun x hx => by cases hx⟩
  | cons y l ih =>
    intro m
    simp only [List.foldl_cons]
    have hy : m ≤ (if m ≤ y then y + 1 else m) ∧ y < (if m ≤ y then y + 1 else m) := by split <;> omega
    obtain ⟨h1, h2⟩ := ih (if m ≤ y then y + 1 else m)
    refine ⟨Nat.le_trans hy.1 h1, fun x hx => ?_⟩
    rcases List.mem_cons.1 hx with rfl | hx
    · exact Nat.lt_of_lt_of_le hy.2 h1
    · exact h2 x hx
theorem RelB.settle {C : Cx} {s : LS} {a : Act} {w : World} {β : Bt} {fz : Fz} (r : RelB C s a w β fz) : RelB C s.settle a w β fz :=
  { r with
    free := fun h ⟨h1, _⟩ => r.free h ⟨Nat.le_trans (settle_ge s.taken s.fresh).1 h1, fun h2 => by
      have h3 := (settle_ge s.taken s.fresh).2 h h2
      have h4 : s.settle.fresh ≤ h := h1
      simp only [LS.settle] at h4
      omega⟩
    dfs := r.dfs.to rfl (Bt.Le.refl _) (Fz.Le.refl _) fun D _ h2 h3 h4 => ⟨h2, h3, h4⟩ }
theorem RelB.drew {C : Cx} {s : LS} {a : Act} {w : World} {β : Bt} {fz : Fz} (r : RelB C s a w β fz) (n : Nat) : RelB C s a { w with drawn := n } β fz :=
  { r with
    hreps := fun h blk hb => (r.hreps h blk hb).frame (Bt.Le.refl _) (Fz.Le.refl _) (Nat.le_refl _) fun _ _ _ _ => ⟨rfl, fun _ => rfl⟩
    dfs := r.dfs.to rfl (Bt.Le.refl _) (Fz.Le.refl _) fun D _ h2 h3 h4 => ⟨h2, h3, h4⟩ }

theorem RelB.defer {C : Cx} {s : LS} {a : Act} {w : World} {β : Bt} {fz : Fz} (r : RelB C s a w β fz) {dst : Option Nat} (hd : ∀ d, dst = some d → d < C.nt) {x : Fn × List V × List V} {d : Deferred}
    (h : x.1 ≠ .method "" ∧ ∃ cap, d.target = .fn x.1 cap ∧ RepVs β fz x.2.1 cap ∧ RepVs β fz x.2.2 d.args) : RelB C { s with env := putE dst uV s.env, dfs := x :: s.dfs } ({ a with defers := d :: a.defers }.put dst undef) w β fz := by
  have r1 := r.skip hd
  refine { r1 with env := ?_, nt := ?_, dfs := ?_ }
  · intro t v hv
    obtain ⟨u, h1, h2⟩ := r1.env t v hv
    refine ⟨u, ?_, h2⟩
    cases dst <;> exact h1
  · have := r1.nt
    cases dst <;> exact this
  · have k := r.dfs
    have e : ({ a with defers := d :: a.defers }.put dst undef).defers = d :: a.defers := by cases dst <;> rfl
    rw [e]
    have ext : ∀ (l : List (Fn × List V × List V)) (ds : List Deferred), DRep β fz l ds → DRep β fz (x :: l) (d :: ds) := fun l ds k => by
      refine ⟨by simp [k.1], fun j y z p q => ?_⟩
      cases j with
      | zero => simp at p q; subst p; subst q; exact h
      | succ j => exact k.2 j y z (by simpa using p) (by simpa using q)
    rcases k with k | ⟨l, p, q, h1, h2, h3, h4⟩
    · exact .inl (ext _ _ k)
    · exact .inr ⟨x :: l, d :: p, q, by simp [h1], by simp [h2], ext _ _ h3, h4.to fun D _ q1 q2 q3 => ⟨q1, q2, q3⟩⟩

theorem sem_out {X : Cx} {F : Fx → LS → Prop} {a : Act} {w : World} {e : Exit} (he : e = .ret ∨ ∃ ch, e = .panic ch) : ∀ k : List It, sem X F [] e a w → sem X F k e a w
  | [], h => h
  | x :: k, h => by
    have ih := sem_out he k h
    rcases he with rfl | ⟨ch, rfl⟩ <;> cases x <;> exact ih
theorem sem_exit {X : Cx} {F : Fx → LS → Prop} {a : Act} {w : World} {id : Nat} : ∀ {k k' : List It}, popTo id k = some k' → sem X F k' .normal a w → sem X F k (.exit id) a w
  | [], _, h, _ => by cases h
  | x :: k, k', h, hs => by
    cases x with
    | blk j =>
      simp only [popTo] at h
      simp only [sem, Exit.inBlock]
      split at h
      · rename_i e; subst e; cases h; rw [if_pos rfl]; exact hs
      · rename_i e; rw [if_neg e]; exact sem_exit h hs
    | code c => exact sem_exit (k := k) h hs
    | ops _ _ _ _ _ => exact sem_exit (k := k) h hs
    | op1 _ _ _ _ _ _ => exact sem_exit (k := k) h hs
    | back B => exact sem_exit (k := k) h hs
theorem sem_code {X : Cx} {F : Fx → LS → Prop} (c : Code) (k : List It) : sem X F (.code c :: k) = Exit.then (c.wp X.P (sem X F k)) (sem X F k) := by
  funext e a w
  cases e <;> rfl

def It.plain : It → Prop
  | .ops _ _ _ _ _ | .op1 _ _ _ _ _ _ => False
  | _ => True
def Wf : List It → Prop
  | [] => True
  | x :: k => (match x with
    | .ops all i l _ draw => draw = false ∧ all.toList.drop i = l
    | .op1 all i o l _ draw => draw = false ∧ all.toList.drop i = o :: l
    | _ => True) ∧ ∀ y ∈ k, y.plain
theorem Wf.of_plain {k : List It} (h : ∀ y ∈ k, y.plain) : Wf k := by
  cases k with
  | nil => trivial
  | cons x k =>
    refine ⟨?_, fun y hy => h y (List.mem_cons_of_mem _ hy)⟩
    have := h x List.mem_cons_self
    cases x <;> first | trivial | exact this.elim
theorem drop_cons {all : Array Oper} {i : Nat} {o : Oper} {l : List Oper} (h : all.toList.drop i = o :: l) : all[i]? = some o ∧ all.toList.drop (i + 1) = l := by
  constructor
  · have : (all.toList.drop i)[0]? = some o := by rw [h]; rfl
    rw [List.getElem?_drop] at this
    simpa using this
  · rw [← List.tail_drop, h]; rfl

def ent (x : Nat × Option Eff) : Nat × List Nat × List Nat := (x.1, rdh x.2, wrh x.2)
theorem chkP_pairs {all : Array Oper} : ∀ {tr : List (Nat × List Nat × List Nat)}, chkP all tr = true → tr.Pairwise fun x y => reach all 9 y.1 x.1 = true ∨ compatB all x y = true
  | [], _ => .nil
  | x :: tr, h => by
    simp only [chkP, Bool.and_eq_true, List.all_eq_true, Bool.or_eq_true] at h
    exact .cons (fun y hy => (h.1 y hy).symm) (chkP_pairs h.2)
theorem compat_of {all : Array Oper} {x y : Nat × Option Eff} (h : compatB all (ent x) (ent y) = true) : Compat all x.1 x.2 y.1 y.2 := by
  simp only [compatB, ent, Bool.and_eq_true, List.all_eq_true, Bool.not_eq_true', List.contains_eq_mem, decide_eq_false_iff_not] at h
  obtain ⟨⟨h1, h2⟩, h3⟩ := h
  refine ⟨fun oi oj hi hj => ?_, fun z hz => h2 z hz, fun z hz => h3 z hz⟩
  simpa [apartB, hi, hj] using h1

theorem opOK {C : Cf} {s : LS} {i : Nat} {o : Oper} {c : Bool} {e : Eff} (hx : C.xo.run s (s.fresh + i) o = .one c e) (hd : dlt o.dst C.nt = true) (ht : s.fresh + i ∉ s.taken) (hc : c = true) : StepOK C.P C.nt s o e := by
  obtain ⟨h1, h2, h3, h4, h5, h6, h7⟩ := C.xo.ok s _ o c e hx hc
  exact ⟨h1, h2, h3, h4, h5, fun h hh => by rw [h6 h hh]; exact ⟨Nat.le_add_right _ _, ht⟩, h7, dlt_ok hd⟩

theorem guard_yes {all : Array Oper} {s : LS} {o : Oper} (h : guardOf all s o = .yes) : Guard all s o true := by
  unfold guardOf at h
  unfold Guard
  cases hg : o.guard with
  | none => rfl
  | some x =>
    obtain ⟨j, want⟩ := x
    simp only [hg] at h
    cases hj : gdst all j with
    | none => simp [hj] at h
    | some t =>
      simp only [hj] at h
      split at h <;> cases h
theorem guard_ask {all : Array Oper} {s : LS} {o : Oper} {t : Nat} {p want : Bool} (h : guardOf all s o = .ask t p want) : ∃ j, o.guard = some (j, want) ∧ gdst all j = some t ∧ lk s.env t = some (.d (.b p)) := by
  unfold guardOf at h
  cases hg : o.guard with
  | none => simp [hg] at h
  | some x =>
    obtain ⟨j, want⟩ := x
    simp only [hg] at h
    cases hj : gdst all j with
    | none => simp [hj] at h
    | some t =>
      simp only [hj] at h
      split at h
      · rename_i p hp
        cases h
        exact ⟨j, rfl, hj, hp⟩
      · cases h
      · cases h
theorem guard_no {all : Array Oper} {s : LS} {o : Oper} (h : guardOf all s o = .no) : Guard all s o false := by
  unfold guardOf at h
  unfold Guard
  cases hg : o.guard with
  | none => simp [hg] at h
  | some x =>
    obtain ⟨j, want⟩ := x
    simp only [hg] at h
    cases hj : gdst all j with
    | none => simp [hj] at h
    | some t =>
      simp only [hj] at h
      split at h
      · cases h
      · rename_i x hx
        exact ⟨t, hj, .inr ⟨⟨x, hx⟩, rfl⟩⟩
      · cases h
theorem guard_of {all : Array Oper} {s : LS} {o : Oper} {t : Nat} {p want : Bool} (h : guardOf all s o = .ask t p want) : Guard all s o (p == want) := by
  obtain ⟨j, h1, h2, h3⟩ := guard_ask h
  unfold Guard
  rw [h1]
  exact ⟨t, h2, .inl ⟨p, h3, rfl⟩⟩
theorem guard_setB {all : Array Oper} {s : LS} {o : Oper} {t : Nat} {p want : Bool} (h : guardOf all s o = .ask t p want) : Eqv s (s.setB t p) := by
  obtain ⟨j, h1, h2, h3⟩ := guard_ask h
  exact Eqv.setB h3
theorem Guard.eqv {all : Array Oper} {s s' : LS} {o : Oper} {b : Bool} (h : Guard all s o b) (he : Eqv s s') : Guard all s' o b := h.congr fun t _ => he.env t

theorem run_of_gx {C : Cf} {all : Array Oper} {k : List It} : ∀ (l : List Oper) (i : Nat) (tr : List (Nat × List Nat × List Nat)) (s : LS), all.toList.drop i = l → gx C (.ops all i l tr true :: k) s →
    ∃ r t, Run C.P C.nt all r s t ∧ r.map (·.1) = List.range' i l.length ∧ Chk all ((r.map ent).reverse ++ tr) ∧ gx C k t.settle
  | [], i, tr, s, _, h => by
    simp only [gx] at h
    exact ⟨[], s, Eqv.refl s, rfl, h.1 trivial, h.2⟩
  | o :: l, i, tr, s, hdr, h => by
    obtain ⟨ho, hdr'⟩ := drop_cons hdr
    have key : ∀ s', Eqv s' s → Guard all s' o true → gx C (.op1 all i o l tr true :: k) s' → ∃ r t, Run C.P C.nt all r s t ∧ r.map (·.1) = List.range' i (l.length + 1) ∧ Chk all ((r.map ent).reverse ++ tr) ∧ gx C k t.settle := fun s' he hg h => by
      have : ∃ e, StepOK C.P C.nt s' o e ∧ gx C (.ops all (i + 1) l ((i, rdh (some e), wrh (some e)) :: tr) true :: k) (s'.app o.dst e) := by
        rw [gx] at h
        split at h
        · rename_i c e hx
          exact ⟨e, opOK hx h.1.1 h.1.2.1 h.1.2.2, h.2⟩
        · cases h.1
        · cases h.1
        · rcases h with h | ⟨h, _⟩
          · exact h
          · cases h
        · rcases h with h | ⟨h, _⟩
          · exact h
          · cases h
      obtain ⟨e, h1, h2⟩ := this
      obtain ⟨r, t, k1, k2, k3, k4⟩ := run_of_gx l (i + 1) _ _ hdr' h2
      refine ⟨(i, some e) :: r, t, Run.congr _ he ⟨⟨o, ho, hg, h1⟩, ?_⟩, by simp [k2, List.range'_succ], by simpa [ent] using k3, k4⟩
      simp only [nxt, ho]
      exact k1
    simp only [List.length_cons]
    rw [gx] at h
    split at h
    · rename_i hg
      exact key s (Eqv.refl s) (guard_yes hg) h
    · rename_i t p want hg
      have hge := guard_of hg
      have hgs := guard_setB hg
      by_cases hpw : p = want
      · subst hpw
        rw [beq_self_eq_true] at hge
        exact key _ hgs.symm (hge.eqv hgs) (h.1 rfl)
      · have hpn : p = !want := by cases p <;> cases want <;> simp_all
        have hpf : (p == want) = false := by simpa using hpw
        rw [hpf] at hge
        obtain ⟨hd, h⟩ := h.2 hpn
        rw [← hpn] at h
        obtain ⟨r, t', k1, k2, k3, k4⟩ := run_of_gx l (i + 1) _ _ hdr' h
        refine ⟨(i, none) :: r, t', Run.congr _ hgs.symm ⟨⟨o, ho, hge.eqv hgs, dlt_ok hd⟩, ?_⟩, by simp [k2, List.range'_succ], by simpa [ent, rdh, wrh] using k3, k4⟩
        simp only [nxt, ho]
        exact k1
    · rename_i hg
      have hge := guard_no hg
      obtain ⟨hd, h⟩ := h
      obtain ⟨r, t', k1, k2, k3, k4⟩ := run_of_gx l (i + 1) _ _ hdr' h
      refine ⟨(i, none) :: r, t', ⟨⟨o, ho, hge, dlt_ok hd⟩, ?_⟩, by simp [k2, List.range'_succ], by simpa [ent, rdh, wrh] using k3, k4⟩
      simp only [nxt, ho]
      exact k1
    · exact h.elim

theorem sem_no {X : Cx} {F : Fx → LS → Prop} {a : Act} {w : World} {e : Exit} (he : e = .outgrown ∨ ∃ l, e = .goto l) : ∀ k : List It, ¬ sem X F k e a w
  | [], h => by rcases he with rfl | ⟨l, rfl⟩ <;> exact h
  | x :: k, h => by
    have ih := sem_no (X := X) (F := F) (a := a) (w := w) he k
    rcases he with rfl | ⟨l, rfl⟩ <;> cases x <;> exact ih h
theorem gx_sound {P : Program} {nt n0 : Nat} {xo : Xo P} {F : Fx → LS → Prop} (hmx : P.follows .mixedOrders = true) (X : Cx) (hP : X.P = P) (hnt : X.nt = nt) (hn0 : X.n0 = n0) :
    ∀ (n : Nat) (k : List It) (s : LS), ssize k ≤ n → Wf k → gx ⟨P, nt, n0, xo, F⟩ k s → ∀ a w, Rel X s a w → sem X F k .normal a w := by
  subst hP; subst hnt; subst hn0
  have base : ∀ (k : List It) (s : LS) (a : Act) (w : World), F .ret s → Rel X s a w → sem X F k .ret a w := fun k s a w h r => sem_out (.inl rfl) k ⟨s, h, r⟩
  intro n
  induction n with
  | zero =>
    intro k s hn
    cases k with
    | nil => exact fun _ h a w r => ⟨s, by rw [gx] at h; exact h, r⟩
    | cons x k =>
      rw [ssize_cons] at hn
      have : 0 < x.size := by cases x <;> simp [It.size]
      omega
  | succ n ih =>
    intro k s hn hw h a w r
    cases k with
    | nil => exact ⟨s, by rw [gx] at h; exact h, r⟩
    | cons x k =>
      obtain ⟨hx, hk⟩ := hw
      have hwk : Wf k := Wf.of_plain hk
      rw [ssize_cons] at hn
      cases x with
      | blk id =>
        rw [gx] at h
        exact ih k s (by simp [It.size] at hn; omega) hwk h a w r
      | back B =>
        rw [gx] at h
        exact ⟨s, h, r⟩
      | op1 all i o l tr draw =>
        obtain ⟨rfl, hdr⟩ := hx
        obtain ⟨ho, hdr'⟩ := drop_cons hdr
        have key : ∀ e, StepOK X.P X.nt s o e → gx ⟨X.P, X.nt, X.n0, xo, F⟩ (.ops all (i + 1) l ((i, rdh (some e), wrh (some e)) :: tr) false :: k) (s.app o.dst e) → sem X F (.op1 all i o l tr false :: k) .normal a w := fun e he h => by
          obtain ⟨β, fz, r⟩ := r
          exact he.sound r fun a' w' β' fz' r' => ih (.ops all (i + 1) l ((i, rdh (some e), wrh (some e)) :: tr) false :: k) _ (by rw [ssize_cons]; simp [It.size] at hn ⊢; omega) ⟨⟨rfl, hdr'⟩, hk⟩ h a' w' ⟨β', fz', r'⟩
        have leaf : ((∃ e, StepOK X.P X.nt s o e ∧ gx ⟨X.P, X.nt, X.n0, xo, F⟩ (.ops all (i + 1) l ((i, rdh (some e), wrh (some e)) :: tr) false :: k) (s.app o.dst e)) ∨ (false = false ∧ ∃ d, PanOK X.P s o d ∧ F (.pan d) s)) → sem X F (.op1 all i o l tr false :: k) .normal a w := fun h => by
          rcases h with ⟨e, h1, h2⟩ | ⟨_, d, h1, h2⟩
          · exact key e h1 h2
          · obtain ⟨β, fz, r⟩ := r
            refine h1 β fz X.own a w r.ok (fun k hk => .inl (Nat.le_trans r.size hk)) (fun x v hx => evOK r hx) _ _ fun v fz' w' p hv => ?_
            refine sem_out (.inr ⟨_, rfl⟩) k ⟨s, d, v, β, fz', h2, rfl, ?_, hv⟩
            have := p.rel (e := ⟨[], [], [], [], [], .u⟩) (dst := none) r (fun d e => by cases e) (fun x hx => by cases hx) (fun x hx => by cases hx)
            exact this.congr ⟨fun _ => rfl, fun _ => rfl, fun _ => by simp [LS.free, LS.app], rfl⟩
        rw [gx] at h
        split at h
        · rename_i c e hx
          exact key e (opOK (C := ⟨X.P, X.nt, X.n0, xo, F⟩) hx h.1.1 h.1.2.1 h.1.2.2) h.2
        · rename_i d hx
          exact leaf (.inr ⟨rfl, d, xo.okp _ _ _ _ hx, h.2⟩)
        · rename_i x hx
          obtain ⟨_, hd, h⟩ := h
          obtain ⟨β, fz, r⟩ := r
          obtain ⟨d, hrun, q0, cap, q1, q2, q3⟩ := xo.okd _ _ _ _ hx β fz a w (fun x v hx => evOK r hx)
          show Oper.wp X.P o a w (wpOps X.P all (sem X F k) (List.range' (i + 1) l.length)) (sem X F k)
          unfold Oper.wp
          rw [hrun, Oper.upon_defer]
          exact ih (.ops all (i + 1) l ((i, [], []) :: tr) false :: k) _ (by rw [ssize_cons]; simp [It.size] at hn ⊢; omega) ⟨⟨rfl, hdr'⟩, hk⟩ h _ w ⟨β, fz, r.defer (dlt_ok hd) ⟨q0, cap, q1, q2, q3⟩⟩
        · exact leaf h
        · exact leaf h
      | ops all i l tr draw =>
        obtain ⟨rfl, hdr⟩ := hx
        cases l with
        | nil =>
          rw [gx] at h
          obtain ⟨β, fz, r⟩ := r
          exact ih k s.settle (by simp [It.size] at hn; omega) hwk h.2 a w ⟨β, fz, r.settle⟩
        | cons o l =>
          obtain ⟨ho, hdr'⟩ := drop_cons hdr
          show wpOps X.P all (sem X F k) (List.range' i (l.length + 1)) a w
          rw [List.range'_succ, wpOps_cons]
          rw [gx] at h
          obtain ⟨β, fz, r⟩ := r
          have yes : ∀ s', RelB X s' a w β fz → Guard all s' o true → gx ⟨X.P, X.nt, X.n0, xo, F⟩ (.op1 all i o l tr false :: k) s' → wpOp X.P all (sem X F k) i (wpOps X.P all (sem X F k) (List.range' (i + 1) l.length)) a w := fun s' r' hg h => by
            unfold wpOp
            simp only [ho, guard_wanted r' hg, if_true]
            exact .inl (ih (.op1 all i o l tr false :: k) s' (by rw [ssize_cons]; simp [It.size] at hn ⊢; omega) ⟨⟨rfl, hdr⟩, hk⟩ h a w ⟨β, fz, r'⟩)
          split at h
          · rename_i hg
            exact yes s r (guard_yes hg) h
          · rename_i t p want hg
            have hge := guard_of hg
            have hgs := guard_setB hg
            by_cases hpw : p = want
            · subst hpw
              rw [beq_self_eq_true] at hge
              exact yes _ (r.congr hgs) (hge.eqv hgs) (h.1 rfl)
            · have hpn : p = !want := by cases p <;> cases want <;> simp_all
              have hpf : (p == want) = false := by simpa using hpw
              rw [hpf] at hge
              obtain ⟨hd, h⟩ := h.2 hpn
              rw [← hpn] at h
              unfold wpOp
              simp only [ho, guard_wanted r hge, Bool.false_eq_true, if_false]
              exact ih (.ops all (i + 1) l ((i, [], []) :: tr) false :: k) _ (by rw [ssize_cons]; simp [It.size] at hn ⊢; omega) ⟨⟨rfl, hdr'⟩, hk⟩ h _ w ⟨β, fz, (r.congr hgs).skip (dlt_ok hd)⟩
          · rename_i hg
            obtain ⟨hd, h⟩ := h
            unfold wpOp
            simp only [ho, guard_wanted r (guard_no hg), Bool.false_eq_true, if_false]
            exact ih (.ops all (i + 1) l ((i, [], []) :: tr) false :: k) _ (by rw [ssize_cons]; simp [It.size] at hn ⊢; omega) ⟨⟨rfl, hdr'⟩, hk⟩ h _ w ⟨β, fz, r.skip (dlt_ok hd)⟩
          · exact h.elim
      | code c =>
        have sub : ∀ (k' : List It) (s' : LS), ssize k' ≤ n → (∀ y ∈ k', y.plain) → gx ⟨X.P, X.nt, X.n0, xo, F⟩ k' s' → ∀ a w, Rel X s' a w → sem X F k' .normal a w := fun k' s' h1 h2 h3 => ih k' s' h1 (Wf.of_plain h2) h3
        have pl1 : ∀ c : Code, ∀ y ∈ (It.code c :: k), y.plain := fun c y hy => by
          rcases List.mem_cons.1 hy with rfl | hy
          · trivial
          · exact hk y hy
        show c.wp X.P (sem X F k) a w
        cases c with
        | skip =>
          rw [gx] at h
          exact wp_skip (sub k s (by simp [It.size] at hn; omega) hk h a w r)
        | label l =>
          rw [gx] at h
          exact wp_label (sub k s (by simp [It.size] at hn; omega) hk h a w r)
        | seq x y =>
          rw [gx] at h
          refine wp_seq ?_
          rw [← sem_code]
          refine sub (.code x :: .code y :: k) s (by simp only [ssize_cons, It.size, csize] at hn ⊢; omega) ?_ h a w r
          intro z hz
          rcases List.mem_cons.1 hz with rfl | hz
          · trivial
          · exact pl1 y z hz
        | block id c =>
          rw [gx] at h
          refine wp_block ?_
          refine sub (.code c :: .blk id :: k) s (by simp only [ssize_cons, It.size, csize] at hn ⊢; omega) ?_ h a w r
          intro z hz
          rcases List.mem_cons.1 hz with rfl | hz
          · trivial
          · rcases List.mem_cons.1 hz with rfl | hz
            · trivial
            · exact hk z hz
        | exit id =>
          rw [gx] at h
          refine wp_exit ?_
          split at h
          · rename_i k' hp
            have hpl : ∀ {k k' : List It}, (∀ y ∈ k, y.plain) → popTo id k = some k' → ∀ y ∈ k', y.plain := by
              intro k
              induction k with
              | nil => intro k' _ h; cases h
              | cons x k ih =>
                intro k' hk h
                have : popTo id k = some k' ∨ k' = k := by
                  cases x <;> simp only [popTo] at h <;> first | exact .inl h | skip
                  split at h
                  · cases h; exact .inr rfl
                  · exact .inl h
                rcases this with h | rfl
                · exact ih (fun y hy => hk y (List.mem_cons_of_mem _ hy)) h
                · exact fun y hy => hk y (List.mem_cons_of_mem _ hy)
            exact sem_exit hp (sub k' s (by have := popTo_size hp; simp only [It.size, csize] at hn; omega) (hpl hk hp) h a w r)
          · exact h.elim
        | ret =>
          rw [gx] at h
          exact wp_ret (base k s a w h r)
        | cond x y z =>
          cases x with
          | tmp t =>
            rw [gx] at h
            split at h
            · rename_i p hp
              obtain ⟨β, fz, r⟩ := r
              have he : a.eval (.tmp t) = .bool p := by
                have := evOK r (x := .tmp t) hp
                generalize a.eval (.tmp t) = v at this ⊢
                cases this with
                | d h => cases h; rfl
              refine wp_cond_split he (fun e => ?_) (fun e => ?_)
              · subst e
                exact sub (.code y :: k) _ (by simp only [ssize_cons, It.size, csize] at hn ⊢; omega) (pl1 y) (h.1 rfl) a w ⟨β, fz, r.congr (Eqv.setB hp)⟩
              · subst e
                exact sub (.code z :: k) _ (by simp only [ssize_cons, It.size, csize] at hn ⊢; omega) (pl1 z) (h.2 rfl) a w ⟨β, fz, r.congr (Eqv.setB hp)⟩
            · exact h.elim
          | const v =>
            cases v with
            | bool p =>
              rw [gx] at h
              refine wp_cond_split (t := p) rfl (fun e => ?_) (fun e => ?_)
              · exact sub (.code y :: k) _ (by simp only [ssize_cons, It.size, csize] at hn ⊢; omega) (pl1 y) (h.1 e) a w r
              · exact sub (.code z :: k) _ (by simp only [ssize_cons, It.size, csize] at hn ⊢; omega) (pl1 z) (h.2 e) a w r
            | _ => simp only [gx] at h; exact h X rfl rfl rfl a w r
          | _ => simp only [gx] at h; exact h X rfl rfl rfl a w r
        | region id ops draw =>
          rw [gx] at h
          cases draw with
          | false =>
            refine wp_region ?_
            rw [List.range_eq_range']
            have := ih (.ops ops 0 ops.toList [] false :: k) s (by rw [ssize_cons]; simp only [It.size, csize, Array.length_toList] at hn ⊢; omega) ⟨⟨rfl, rfl⟩, hk⟩ h a w r
            simpa [sem] using this
          | true =>
            obtain ⟨rr, t, k1, k2, k3, k4⟩ := run_of_gx ops.toList 0 [] s rfl h
            simp only [List.append_nil, Chk, Bool.and_eq_true] at k3
            refine wp_region_any hmx ?_
            have hed : ∀ i, ∀ e ∈ pre ops i, e < i := fun i e he => by
              have h1 := k3.1
              simp only [edgesB, List.all_eq_true, List.mem_range, decide_eq_true_eq] at h1
              by_cases hi : i < ops.size
              · exact h1 i hi e he
              · simp [pre, Array.getElem?_eq_none (show ops.size ≤ i by omega)] at he
            have hpw := chkP_pairs k3.2
            rw [List.pairwise_reverse, List.pairwise_map] at hpw
            have hlen : rr.length = ops.size := by
              have := congrArg List.length k2
              simpa using this
            refine any_of_run hed (t := t) (fun a' w' ⟨β, fz, r'⟩ => sub k t.settle (by simp only [It.size, csize] at hn; omega) hk k4 a' w' ⟨β, fz, r'.settle⟩) ops.size _ rr s a _ ?_ k1 (by omega) (by simp) ?_ ?_ ?_ ?_
            · obtain ⟨β, fz, r⟩ := r
              exact ⟨β, fz, r.drew _⟩
            · intro i
              rw [k2]
              simp [List.mem_range', Array.getElem?_replicate]
            · intro i hi
              simp [Array.getElem?_replicate] at hi
            · rw [k2]
              exact List.pairwise_lt_range' ..
            · refine hpw.imp fun {x y} h => ?_
              rcases h with h | h
              · exact .inl h
              · exact .inr (compat_of h)
        | loop c => simp only [gx] at h; exact h X rfl rfl rfl a w r
        | rangeFunc f ps x y => simp only [gx] at h; exact h X rfl rfl rfl a w r
        | scope c =>
          rw [gx] at h
          refine wp_scope_straight (wp_mono (show c.wp X.P (sem X F k) a w from sub (.code c :: k) s (by rw [ssize_cons]; simp only [It.size, csize] at hn ⊢; omega) (pl1 c) h a w r) fun e a' w' he => ?_)
          cases e with
          | goto l => exact (sem_no (.inr ⟨l, rfl⟩) k he).elim
          | _ => exact he
        | goto l => simp only [gx] at h; exact h X rfl rfl rfl a w r
        | refuse y => simp only [gx] at h; exact h X rfl rfl rfl a w r
end Go.Lm
