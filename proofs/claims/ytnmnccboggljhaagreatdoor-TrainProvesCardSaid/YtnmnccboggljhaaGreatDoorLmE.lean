/- The logical machine: code, step by step, and what that says of the model. -/
import Derived.Test.YtnmnccboggljhaaGreatDoorLmD
namespace Go.Lm
open Go Go.RowKit

inductive Fx where
  | ret
  | pan (d : D)
inductive It where
  | code (c : Code)
  | ops (all : Array Oper) (i : Nat) (l : List Oper) (tr : List (Nat × List Nat × List Nat)) (draw : Bool)
  | op1 (all : Array Oper) (i : Nat) (o : Oper) (l : List Oper) (tr : List (Nat × List Nat × List Nat)) (draw : Bool)
  | blk (id : Nat)
  | back (B : LS → Prop)
def csize : Code → Nat
  | .region _ ops _ => 2 * ops.size + 3
  | .seq a b => csize a + csize b + 2
  | .cond _ a b => csize a + csize b + 2
  | .block _ c => csize c + 3
  | .loop c => csize c + 3
  | .rangeFunc _ _ a b => csize a + csize b + 3
  | .scope c => csize c + 3
  | _ => 1
def It.size : It → Nat
  | .code c => csize c + 1
  | .ops _ _ l _ _ => 2 * l.length + 1
  | .op1 _ _ _ l _ _ => 2 * l.length + 2
  | .blk _ => 1
  | .back _ => 1
def ssize (k : List It) : Nat := (k.map It.size).sum
theorem ssize_cons (x : It) (k : List It) : ssize (x :: k) = x.size + ssize k := by simp [ssize]

/-- what stands behind a block -/
def popTo (id : Nat) : List It → Option (List It)
  | [] => none
  | .blk j :: k => if id = j then some k else popTo id k
  | _ :: k => popTo id k
theorem popTo_size {id : Nat} : ∀ {k k' : List It}, popTo id k = some k' → ssize k' ≤ ssize k
  | [], _, h => by cases h
  | x :: k, k', h => by
    have : popTo id k = some k' ∨ k' = k := by
      cases x <;> simp only [popTo] at h <;> first | exact .inl h | skip
      split at h
      · cases h; exact .inr rfl
      · exact .inl h
    rw [ssize_cons]
    rcases this with h | rfl
    · have := popTo_size h; omega
    · omega

def LS.settle (s : LS) : LS := { s with fresh := s.taken.foldl (fun m h => if m ≤ h then h + 1 else m) s.fresh, taken := [] }
def LS.setB (s : LS) (t : Nat) (p : Bool) : LS := { s with env := (t, .d (.b p)) :: s.env }

inductive GR where
  | yes
  | ask (t : Nat) (p want : Bool)
  | no
  | bad
def guardOf (all : Array Oper) (s : LS) (o : Oper) : GR := match o.guard with
  | none => .yes
  | some (j, want) => match gdst all j with
    | none => .bad
    | some t => match lk s.env t with
      | some (.d (.b p)) => .ask t p want
      | some (.d (.raw (.tuple _))) => .no
      | _ => .bad
def apartB (all : Array Oper) (i j : Nat) : Bool := match all[i]?, all[j]? with
  | some oi, some oj => oi.apart all oj
  | _, _ => true
def compatB (all : Array Oper) (x y : Nat × List Nat × List Nat) : Bool :=
  apartB all x.1 y.1 && x.2.2.all (fun h => !y.2.1.contains h) && y.2.2.all (fun h => !x.2.1.contains h)
def chkP (all : Array Oper) : List (Nat × List Nat × List Nat) → Bool
  | [] => true
  | x :: tr => tr.all (fun y => compatB all x y || reach all 9 y.1 x.1) && chkP all tr
def edgesB (all : Array Oper) : Bool := (List.range all.size).all fun i => (pre all i).all fun e => decide (e < i)
def Chk (all : Array Oper) (tr : List (Nat × List Nat × List Nat)) : Prop := (edgesB all && chkP all tr) = true

/-- an operation that is carried out by itself -/
inductive XR where
  | none
  | one (c : Bool) (e : Eff)
  | call (g : FuncId) (args vals : List V)
  | pan (d : D)
  | dfr (x : Fn × List V × List V)
/-- an operation panics with a value -/
def PanOK (P : Program) (s : LS) (o : Oper) (d : D) : Prop := ∀ (β : Bt) (fz : Fz) (own : Nat → Prop) (a : Act) (w : World), FzOk fz w → (∀ k, w.heap.size ≤ k → own k) → (∀ x v, s.ev x = some v → RepV β fz v (a.eval x)) →
  ∀ (next : Act → World → Prop) (Q : Exit → Act → World → Prop), (∀ v fz' w', Post β fz w own [] [] [] .u v β fz' w' → RepD fz' d v → Q (.panic [{ v := v, recovered := false }]) a w') → Oper.wp P o a w next Q
/-- an operation puts off a call -/
def DfrOK (P : Program) (s : LS) (o : Oper) (x : Fn × List V × List V) : Prop := ∀ (β : Bt) (fz : Fz) (a : Act) (w : World), (∀ x v, s.ev x = some v → RepV β fz v (a.eval x)) →
  ∃ d : Deferred, (execOp a.eval o).run P w = .ok (.defer d) w ∧ x.1 ≠ .method "" ∧ ∃ cap, d.target = .fn x.1 cap ∧ RepVs β fz x.2.1 cap ∧ RepVs β fz x.2.2 d.args
/-- an operation calls a function -/
def CallOK (P : Program) (s : LS) (o : Oper) (g : FuncId) (args vals : List V) : Prop := vals.length = o.op.operands.size ∧ (∀ (j : Nat) (x : Operand) (v : V), o.op.operands[j]? = some x → vals[j]? = some v → s.ev x = some v) ∧
  ∀ (β : Bt) (fz : Fz) (a : Act) (w : World), (∀ (j : Nat) (x : Operand) (v : V), o.op.operands[j]? = some x → vals[j]? = some v → RepV β fz v (a.eval x)) → ∃ us, (execOp a.eval o).run P w = (callFunc g us).run P w ∧ RepVs β fz args us
/-- what must be known of the function that carries operations out -/
structure Xo (P : Program) where
  run : LS → Nat → Oper → XR
  ok : ∀ s new o c e, run s new o = .one c e → c = true → OpT P o e ∧ e.vals.length = o.op.operands.size ∧ (∀ (j : Nat) (x : Operand) (v : V), o.op.operands[j]? = some x → e.vals[j]? = some v → s.ev x = some v) ∧
    (∀ x ∈ e.rd, s.blk x.1 = some x.2) ∧ (∀ x ∈ e.hp, s.blk x.1 = some x.2) ∧ (∀ h ∈ e.news, h = new) ∧ (∀ x ∈ e.out, x.1 ∈ e.news ∨ ∃ z ∈ e.hp, z.1 = x.1)
  okp : ∀ s new o d, run s new o = .pan d → PanOK P s o d
  okd : ∀ s new o x, run s new o = .dfr x → DfrOK P s o x
structure Cf where
  P : Program
  nt : Nat
  n0 : Nat
  xo : Xo P
  F : Fx → LS → Prop

/-- what stands behind, in the model -/
def sem (X : Cx) (F : Fx → LS → Prop) : List It → Exit → Act → World → Prop
  | [], e, a, w => match e with
    | .normal | .ret => ∃ s, F .ret s ∧ Rel X s a w
    | .panic ch => ∃ s d v β fz, F (.pan d) s ∧ ch = [{ v := v, recovered := false }] ∧ RelB X s a w β fz ∧ RepD fz d v
    | _ => False
  | .code c :: k, e, a, w => match e with
    | .normal => c.wp X.P (sem X F k) a w
    | e => sem X F k e a w
  | .ops all i l _ _ :: k, e, a, w => match e with
    | .normal => wpOps X.P all (sem X F k) (List.range' i l.length) a w
    | e => sem X F k e a w
  | .op1 all i o l _ _ :: k, e, a, w => match e with
    | .normal => Oper.wp X.P o a w (wpOps X.P all (sem X F k) (List.range' (i + 1) l.length)) (sem X F k)
    | e => sem X F k e a w
  | .blk id :: k, e, a, w => Exit.inBlock id (sem X F k) e a w
  | .back B :: k, e, a, w => match e with
    | .normal => ∃ s, B s ∧ Rel X s a w
    | e => sem X F k e a w
def Leaf (C : Cf) (c : Code) (k : List It) (s : LS) : Prop := ∀ (X : Cx), X.P = C.P → X.nt = C.nt → X.n0 = C.n0 → ∀ a w, Rel X s a w → c.wp X.P (sem X C.F k) a w

def dlt : Option Nat → Nat → Bool
  | none, _ => true
  | some d, n => decide (d < n)
theorem dlt_ok {d : Option Nat} {n : Nat} (h : dlt d n = true) : ∀ x, d = some x → x < n := fun x e => by subst e; simpa [dlt] using h

def gx (C : Cf) : List It → LS → Prop
  | [], s => C.F .ret s
  | .blk _ :: k, s => gx C k s
  | .back B :: _, s => B s
  | .code .skip :: k, s => gx C k s
  | .code (.label _) :: k, s => gx C k s
  | .code (.seq a b) :: k, s => gx C (.code a :: .code b :: k) s
  | .code (.block id c) :: k, s => gx C (.code c :: .blk id :: k) s
  | .code (.scope c) :: k, s => gx C (.code c :: k) s
  | .code (.exit id) :: k, s => match _h : popTo id k with
    | some k' => gx C k' s
    | none => False
  | .code .ret :: _, s => C.F .ret s
  | .code (.cond (.tmp t) a b) :: k, s => match lk s.env t with
    | some (.d (.b p)) => (p = true → gx C (.code a :: k) (s.setB t true)) ∧ (p = false → gx C (.code b :: k) (s.setB t false))
    | _ => False
  | .code (.cond (.const (.bool p)) a b) :: k, s => (p = true → gx C (.code a :: k) s) ∧ (p = false → gx C (.code b :: k) s)
  | .code (.region _ ops draw) :: k, s => gx C (.ops ops 0 ops.toList [] draw :: k) s
  | .code c :: k, s => Leaf C c k s
  | .ops all _ [] tr draw :: k, s => (draw = true → Chk all tr) ∧ gx C k s.settle
  | .ops all i (o :: l) tr draw :: k, s => match guardOf all s o with
    | .yes => gx C (.op1 all i o l tr draw :: k) s
    | .ask t p want => (p = want → gx C (.op1 all i o l tr draw :: k) (s.setB t want)) ∧ (p = !want → dlt o.dst C.nt = true ∧ gx C (.ops all (i + 1) l ((i, [], []) :: tr) draw :: k) ((s.setB t (!want)).skip o.dst))
    | .no => dlt o.dst C.nt = true ∧ gx C (.ops all (i + 1) l ((i, [], []) :: tr) draw :: k) (s.skip o.dst)
    | .bad => False
  | .op1 all i o l tr draw :: k, s => match C.xo.run s (s.fresh + i) o with
    | .one c e => (dlt o.dst C.nt = true ∧ s.fresh + i ∉ s.taken ∧ c = true) ∧ gx C (.ops all (i + 1) l ((i, rdh (some e), wrh (some e)) :: tr) draw :: k) (s.app o.dst e)
    | .pan d => draw = false ∧ C.F (.pan d) s
    | .dfr x => draw = false ∧ dlt o.dst C.nt = true ∧ gx C (.ops all (i + 1) l ((i, [], []) :: tr) draw :: k) { s with env := putE o.dst uV s.env, dfs := x :: s.dfs }
    | .none | .call _ _ _ => (∃ e, StepOK C.P C.nt s o e ∧ gx C (.ops all (i + 1) l ((i, rdh (some e), wrh (some e)) :: tr) draw :: k) (s.app o.dst e)) ∨ (draw = false ∧ ∃ d, PanOK C.P s o d ∧ C.F (.pan d) s)
termination_by k _ => ssize k
decreasing_by all_goals (simp only [ssize_cons, It.size, csize, List.length_cons, Array.length_toList]; first | omega | (have := popTo_size _h; omega))
end Go.Lm
