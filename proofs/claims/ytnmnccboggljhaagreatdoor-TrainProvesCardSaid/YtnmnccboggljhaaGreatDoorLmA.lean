/- The logical machine: values without addresses, and when a value of the model stands for one. No program in sight. -/
import Derived.WalkKit
import Derived.KernelRfl
import Derived.Deep.LoopGhost
import Derived.Maps.AppendAt
namespace Go.Lm
open Go Go.RowKit

/-- data that nobody changes any more -/
inductive D where
  | k (q : IntKind) (n : Int)
  | b (p : Bool)
  | s (l : List UInt8)
  | nil
  | sl (sz : Nat) (rows : List (List D))
  | agg (cs : List D)
  | tup (cs : List D)
  | fn (f : Fn) (first cap : List D)
  | ifc (t : TypeId) (d : D)
  | raw (x : Value)
  deriving Inhabited

/-- the cells that nobody changes any more: block, place -/
abbrev Fz := Nat → Nat → Option Value
def Fz.Le (fz fz' : Fz) : Prop := ∀ b o u, fz b o = some u → fz' b o = some u
theorem Fz.Le.refl (fz : Fz) : Fz.Le fz fz := fun _ _ _ h => h
theorem Fz.Le.trans {a b c : Fz} (h : Fz.Le a b) (k : Fz.Le b c) : Fz.Le a c := fun x y z e => k x y z (h x y z e)

inductive RepD (fz : Fz) : D → Value → Prop where
  | k (q : IntKind) (n : Int) : RepD fz (.k q n) (.int q n)
  | b (p : Bool) : RepD fz (.b p) (.bool p)
  | s (l : List UInt8) : RepD fz (.s l) (.string ⟨l.toArray⟩)
  | nil : RepD fz .nil (.slice none 0 0)
  | sl {A : Option Addr} {n c sz : Nat} {rows : List (List D)} (u : Nat → Nat → Value) (hn : rows.length = n) (hc : n ≤ c) (hm : n ≤ 140737488355328)
      (hsz : ∀ r ∈ rows, r.length = sz)
      (hA : 0 < n → ∃ b off, A = some ⟨b, off, none⟩ ∧ ∀ i j, i < n → j < sz → fz b (off + i * sz + j) = some (u i j))
      (ho : ∀ (i j : Nat) (r : List D) (d : D), rows[i]? = some r → r[j]? = some d → (u i j).oneCell' = true)
      (hu : ∀ (i j : Nat) (r : List D) (d : D), rows[i]? = some r → r[j]? = some d → RepD fz d (u i j)) : RepD fz (.sl sz rows) (.slice A n c)
  | agg {cs : List D} {vs : Array Value} (hl : vs.size = cs.length) (h : ∀ (j : Nat) (d : D) (u : Value), cs[j]? = some d → vs[j]? = some u → RepD fz d u) : RepD fz (.agg cs) (.agg vs)
  | tup {cs : List D} {vs : Array Value} (hl : vs.size = cs.length) (h : ∀ (j : Nat) (d : D) (u : Value), cs[j]? = some d → vs[j]? = some u → RepD fz d u) : RepD fz (.tup cs) (.tuple vs)
  | fn {f : Fn} {a c : List D} {va vc : Array Value} (hla : va.size = a.length) (ha : ∀ (j : Nat) (d : D) (u : Value), a[j]? = some d → va[j]? = some u → RepD fz d u)
      (hlc : vc.size = c.length) (hc : ∀ (j : Nat) (d : D) (u : Value), c[j]? = some d → vc[j]? = some u → RepD fz d u) : RepD fz (.fn f a c) (.func f va vc)
  | ifc (t : TypeId) {d : D} {u : Value} (h : RepD fz d u) : RepD fz (.ifc t d) (.iface t u)
  | raw (x : Value) : RepD fz (.raw x) x

theorem RepD.mono {fz fz' : Fz} (hf : Fz.Le fz fz') {d : D} {v : Value} (h : RepD fz d v) : RepD fz' d v := by
  induction h with
  | k q n => exact .k q n
  | b p => exact .b p
  | s l => exact .s l
  | nil => exact .nil
  | sl u hn hc hm hsz hA ho hu ih =>
    refine .sl u hn hc hm hsz (fun h0 => ?_) ho ih
    obtain ⟨b, off, e, h⟩ := hA h0
    exact ⟨b, off, e, fun i j hi hj => hf _ _ _ (h i j hi hj)⟩
  | agg hl h ih => exact .agg hl ih
  | tup hl h ih => exact .tup hl ih
  | fn hla ha hlc hc iha ihc => exact .fn hla iha hlc ihc
  | ifc t h ih => exact .ifc t ih
  | raw x => exact .raw x

def RepDs (fz : Fz) (cs : List D) (vs : Array Value) : Prop := vs.size = cs.length ∧ ∀ (j : Nat) (d : D) (u : Value), cs[j]? = some d → vs[j]? = some u → RepD fz d u
theorem RepDs.mono {fz fz' : Fz} (hf : Fz.Le fz fz') {cs : List D} {vs : Array Value} (h : RepDs fz cs vs) : RepDs fz' cs vs := ⟨h.1, fun j d u a b => (h.2 j d u a b).mono hf⟩

/-- values that may lead to memory of one's own: by handles -/
inductive V where
  | d (x : D)
  | p (h off : Nat)
  | q (sz : Nat) (rows : List (List D)) (i j : Nat)
  | own (h sz : Nat) (rows : List (List D))
  | ms (h off n : Nat)
  | agg (cs : List V)
  | tup (cs : List V)
  | fn (f : Fn) (first cap : List V)
  | h (h : Nat)
  | u
  deriving Inhabited
abbrev Bt := Nat → Option Value
def Bt.Le (β β' : Bt) : Prop := ∀ h x, β h = some x → β' h = some x
theorem Bt.Le.refl (β : Bt) : Bt.Le β β := fun _ _ h => h
theorem Bt.Le.trans {a b c : Bt} (h : Bt.Le a b) (k : Bt.Le b c) : Bt.Le a c := fun x y e => k x y (h x y e)

inductive RepV (β : Bt) (fz : Fz) : V → Value → Prop where
  | d {x : D} {v : Value} (h : RepD fz x v) : RepV β fz (.d x) v
  | p {h off b : Nat} (hb : β h = some (.pointer (some ⟨b, 0, none⟩))) : RepV β fz (.p h off) (.pointer (some ⟨b, off, none⟩))
  | q {sz i j b off : Nat} {rows : List (List D)} (u : Nat → Nat → Value) (hsz : ∀ r ∈ rows, r.length = sz)
      (hA : ∀ i j, i < rows.length → j < sz → fz b (off + i * sz + j) = some (u i j))
      (hu : ∀ (i j : Nat) (r : List D) (d : D), rows[i]? = some r → r[j]? = some d → RepD fz d (u i j)) : RepV β fz (.q sz rows i j) (.pointer (some ⟨b, off + i * sz + j, none⟩))
  | own {h sz : Nat} {rows : List (List D)} {v : Value} (hb : β h = some v) (hr : RepD fz (.sl sz rows) v) : RepV β fz (.own h sz rows) v
  | ms {h off n b o c : Nat} (hb : β h = some (.pointer (some ⟨b, 0, none⟩))) (hn : n ≤ c) (ho : 0 < n → o = off) : RepV β fz (.ms h off n) (.slice (some ⟨b, o, none⟩) n c)
  | agg {cs : List V} {vs : Array Value} (hl : vs.size = cs.length) (h : ∀ (j : Nat) (d : V) (u : Value), cs[j]? = some d → vs[j]? = some u → RepV β fz d u) : RepV β fz (.agg cs) (.agg vs)
  | tup {cs : List V} {vs : Array Value} (hl : vs.size = cs.length) (h : ∀ (j : Nat) (d : V) (u : Value), cs[j]? = some d → vs[j]? = some u → RepV β fz d u) : RepV β fz (.tup cs) (.tuple vs)
  | fn {f : Fn} {a c : List V} {va vc : Array Value} (hla : va.size = a.length) (ha : ∀ (j : Nat) (d : V) (u : Value), a[j]? = some d → va[j]? = some u → RepV β fz d u)
      (hlc : vc.size = c.length) (hc : ∀ (j : Nat) (d : V) (u : Value), c[j]? = some d → vc[j]? = some u → RepV β fz d u) : RepV β fz (.fn f a c) (.func f va vc)
  | h {h b : Nat} (hb : β h = some (.map (some b))) : RepV β fz (.h h) (.map (some b))
  | u (v : Value) : RepV β fz .u v

theorem RepV.mono {β β' : Bt} {fz fz' : Fz} (hb : Bt.Le β β') (hf : Fz.Le fz fz') {d : V} {v : Value} (h : RepV β fz d v) : RepV β' fz' d v := by
  induction h with
  | d h => exact .d (h.mono hf)
  | p h => exact .p (hb _ _ h)
  | q u hsz hA hu => exact .q u hsz (fun i j hi hj => hf _ _ _ (hA i j hi hj)) fun i j r d a b => (hu i j r d a b).mono hf
  | own h hr => exact .own (hb _ _ h) (hr.mono hf)
  | ms h hn ho => exact .ms (hb _ _ h) hn ho
  | agg hl h ih => exact .agg hl ih
  | tup hl h ih => exact .tup hl ih
  | fn hla ha hlc hc iha ihc => exact .fn hla iha hlc ihc
  | h h => exact .h (hb _ _ h)
  | u v => exact .u v
def RepVs (β : Bt) (fz : Fz) (cs : List V) (vs : Array Value) : Prop := vs.size = cs.length ∧ ∀ (j : Nat) (d : V) (u : Value), cs[j]? = some d → vs[j]? = some u → RepV β fz d u
theorem RepVs.mono {β β' : Bt} {fz fz' : Fz} (hb : Bt.Le β β') (hf : Fz.Le fz fz') {cs : List V} {vs : Array Value} (h : RepVs β fz cs vs) : RepVs β' fz' cs vs := ⟨h.1, fun j d u a b => (h.2 j d u a b).mono hb hf⟩

/-- a value without handles, as data; the token of a row is given up -/
def V.toD : V → Option D
  | .d x => some x
  | .own _ sz rows => some (.sl sz rows)
  | .agg cs => (toDs cs).map .agg
  | .tup cs => (toDs cs).map .tup
  | .fn f a c => match toDs a, toDs c with | some a, some c => some (.fn f a c) | _, _ => none
  | _ => none
where toDs : List V → Option (List D)
  | [] => some []
  | v :: vs => match v.toD, toDs vs with | some y, some ys => some (y :: ys) | _, _ => none

mutual
theorem toD_rep {β : Bt} {fz : Fz} : ∀ (x : V) {d : D} {v : Value}, x.toD = some d → RepV β fz x v → RepD fz d v
  | .d x, d, v, e, h => by
    simp only [V.toD, Option.some.injEq] at e
    subst e
    cases h with
    | d h => exact h
  | .own h' sz rows, d, v, e, h => by
    simp only [V.toD, Option.some.injEq] at e
    subst e
    cases h with
    | own _ hr => exact hr
  | .agg cs, d, v, e, h => by
    simp only [V.toD, Option.map_eq_some_iff] at e
    obtain ⟨ds, e, rfl⟩ := e
    cases h with
    | agg hl h =>
      obtain ⟨k1, k2⟩ := toDs_rep cs e ⟨hl, h⟩
      exact .agg k1 k2
  | .tup cs, d, v, e, h => by
    simp only [V.toD, Option.map_eq_some_iff] at e
    obtain ⟨ds, e, rfl⟩ := e
    cases h with
    | tup hl h =>
      obtain ⟨k1, k2⟩ := toDs_rep cs e ⟨hl, h⟩
      exact .tup k1 k2
  | .fn f a c, d, v, e, h => by
    simp only [V.toD] at e
    split at e
    · rename_i a' c' ea ec
      cases e
      cases h with
      | fn hla ha hlc hc =>
        obtain ⟨k1, k2⟩ := toDs_rep a ea ⟨hla, ha⟩
        obtain ⟨k3, k4⟩ := toDs_rep c ec ⟨hlc, hc⟩
        exact .fn k1 k2 k3 k4
    · cases e
  | .p _ _, _, _, e, _ => by simp [V.toD] at e
  | .q _ _ _ _, _, _, e, _ => by simp [V.toD] at e
  | .ms _ _ _, _, _, e, _ => by simp [V.toD] at e
  | .h _, _, _, e, _ => by simp [V.toD] at e
  | .u, _, _, e, _ => by simp [V.toD] at e
theorem toDs_rep {β : Bt} {fz : Fz} : ∀ (xs : List V) {ds : List D} {vs : Array Value}, V.toD.toDs xs = some ds → RepVs β fz xs vs → RepDs fz ds vs
  | [], ds, vs, e, h => by
    simp only [V.toD.toDs, Option.some.injEq] at e
    subst e
    exact ⟨h.1, fun j d u a => by simp at a⟩
  | x :: xs, ds, vs, e, h => by
    simp only [V.toD.toDs] at e
    split at e
    · rename_i d ds' ed eds
      cases e
      have hs := h.1
      have hx : ∀ u, vs[0]? = some u → RepD fz d u := fun u hu => toD_rep x ed (h.2 0 x u rfl hu)
      have hxs : RepDs fz ds' (vs.extract 1 vs.size) := toDs_rep xs eds ⟨by simp at hs ⊢; omega, fun j v u a b => h.2 (j + 1) v u (by simpa using a) (by
        rw [Array.getElem?_extract] at b; split at b
        · rwa [Nat.add_comm] at b
        · cases b)⟩
      refine ⟨by have := hxs.1; simp at this hs ⊢; omega, fun j d' u a b => ?_⟩
      cases j with
      | zero => simp at a; subst a; exact hx u b
      | succ j =>
        refine hxs.2 j d' u (by simpa using a) ?_
        have := (Array.getElem?_eq_some_iff.1 b).1
        rw [Array.getElem?_extract, if_pos (by omega), Nat.add_comm]; exact b
    · cases e
end
end Go.Lm
