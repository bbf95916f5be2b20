/- The logical machine: what is to be shown of a function, told step by step by computation. -/
import Derived.Test.YtnmnccboggljhaaGreatDoorLmExt
set_option linter.constructorNameAsVariable false
namespace Go.Lm
open Go Go.RowKit
/-! ### words -/
def brn (p : Bool) (A B : Prop) : Prop := match p with
  | true => A
  | false => B
theorem brn_intro {p : Bool} {A B : Prop} (h1 : p = true → A) (h2 : p = false → B) : brn p A B := by
  cases p
  · exact h2 rfl
  · exact h1 rfl
theorem brn_elim {p : Bool} {A B : Prop} (h : brn p A B) : (p = true → A) ∧ (p = false → B) := by
  cases p
  · exact ⟨fun e => (by cases e), fun _ => h⟩
  · exact ⟨fun _ => h, fun e => by cases e⟩
theorem brn_must {p : Bool} {A : Prop} (h : p = true) (h1 : A) : brn p A False := by subst h; exact h1
/-- the shape of a cell -/
inductive Sc where
  | i (q : IntKind)
  | b
  | s
  | sl (sz : Nat)
  | any
def Sc.ex (c : Sc) (K : D → Prop) : Prop := match c with
  | .i q => ∃ n, K (.k q n)
  | .b => ∃ p, K (.b p)
  | .s => ∃ l, K (.s l)
  | .sl sz => ∃ rows, K (.sl sz rows)
  | .any => ∃ d, K d
def exL : List Sc → (List D → Prop) → Prop
  | [], K => K []
  | c :: l, K => c.ex fun d => exL l fun ds => K (d :: ds)
/-- the shape of a value: an aggregate; its cells -/
def exV (x : Bool × List Sc) (K : D → Prop) : Prop := match x with
  | (true, l) => exL l fun ds => K (.agg ds)
  | (false, [c]) => c.ex K
  | _ => ∃ d, K d
def exT : List (Bool × List Sc) → (List D → Prop) → Prop
  | [], K => K []
  | x :: l, K => exV x fun d => exT l fun ds => K (d :: ds)
def exR (x : List (Bool × List Sc)) (K : D → Prop) : Prop := match x with
  | [x] => exV x K
  | l => exT l fun ds => K (.tup ds)
theorem Sc.ex_out {c : Sc} {K : D → Prop} (h : c.ex K) : ∃ d, K d := by
  cases c <;> exact let ⟨_, h⟩ := h; ⟨_, h⟩
theorem exL_out : ∀ {l : List Sc} {K : List D → Prop}, exL l K → ∃ ds, ds.length = l.length ∧ K ds
  | [], _, h => ⟨[], rfl, h⟩
  | c :: l, K, h => by
    obtain ⟨d, h⟩ := Sc.ex_out (c := c) h
    obtain ⟨ds, hl, h⟩ := exL_out h
    exact ⟨_, by simp [hl], h⟩
theorem exV_out {x : Bool × List Sc} {K : D → Prop} (h : exV x K) : ∃ d, K d := by
  unfold exV at h
  split at h
  · obtain ⟨ds, _, h⟩ := exL_out h
    exact ⟨_, h⟩
  · exact Sc.ex_out h
  · exact h
theorem exT_out : ∀ {l : List (Bool × List Sc)} {K : List D → Prop}, exT l K → ∃ ds, K ds
  | [], _, h => ⟨[], h⟩
  | x :: l, K, h => by
    obtain ⟨d, h⟩ := exV_out (x := x) h
    obtain ⟨ds, h⟩ := exT_out h
    exact ⟨_, h⟩
theorem exR_out {x : List (Bool × List Sc)} {K : D → Prop} (h : exR x K) : ∃ d, K d := by
  unfold exR at h
  split at h
  · exact exV_out h
  · obtain ⟨ds, h⟩ := exT_out h
    exact ⟨_, h⟩
/-- the cells of a type's values -/
def scT (P : Program) : Nat → TypeId → List Sc
  | 0, _ => [.any]
  | n + 1, t => match P.underlying t with
    | some (.int q) => [.i q]
    | some .bool => [.b]
    | some .string => [.s]
    | some (.slice e) => match tsz P e with
      | some z => [.sl z]
      | none => [.any]
    | some (.struct fs) => fs.toList.flatMap fun f => scT P n f.type
    | some (.array k e) => (List.replicate k (scT P n e)).flatten
    | _ => [.any]
def shV (P : Program) (t : TypeId) : Bool × List Sc := match shp P t with
  | some (some _) => (true, scT P 10 t)
  | _ => (false, scT P 10 t)
def resSh (P : Program) (f : Func) : List (Bool × List Sc) := f.resultTypes.toList.map (shV P)
/-! ### what is looked at -/
def opU : Operand → Nat → Nat → Nat
  | .tmp t, d, u => match Nat.testBit d t with
    | true => u
    | false => u ||| 1 <<< t
  | _, _, u => u
def opsU : List Operand → Nat → Nat → Nat
  | [], _, u => u
  | x :: l, d, u => opsU l d (opU x d u)
def regU : List Oper → Nat → Nat → Nat × Nat
  | [], d, u => (d, u)
  | o :: l, d, u => regU l (match o.dst with | some t => d ||| 1 <<< t | none => d) (opsU o.op.operands.toList d u)
/-- the slots that code looks at, what it has set before left out -/
def useC : Code → Nat → Nat → Nat × Nat
  | .region _ ops _, d, u => regU ops.toList d u
  | .seq a b, d, u => useC b (useC a d u).1 (useC a d u).2
  | .cond c a b, d, u => (d, (useC b d (useC a d (opU c d u)).2).2)
  | .block _ c, d, u => (d, (useC c d u).2)
  | .loop c, d, u => (d, (useC c d u).2)
  | .scope c, d, u => (d, (useC c d u).2)
  | .rangeFunc g _ a b, d, u => (d, (useC b d (useC a d (opU g d u)).2).2)
  | _, d, u => (d, u)
def useK : List It → Nat → Nat
  | [], u => u
  | .code c :: k, u => useK k (useC c 0 u).2
  | _ :: k, u => useK k u
def resU : List ResultVar → Nat → Nat
  | [], u => u
  | .tmp t :: l, u => resU l (u ||| 1 <<< t)
  | .cell t _ :: l, u => resU l (u ||| 1 <<< t)
/-- a state of which only some slots are kept -/
def keepE (m : Nat) : List (Nat × V) → List (Nat × V)
  | [] => []
  | x :: l => match Nat.testBit m x.1 with
    | true => x :: keepE m l
    | false => keepE m l
def LS.keep (s : LS) (m : Nat) : LS := match Nat.testBit m 200 with
  | false => { s with env := keepE m (clE 0 s.env), heap := (s.blocks (hsE (keepE m (clE 0 s.env)) 0)).map fun x => (x.1, some x.2) }
  | true => { s with env := keepE m (clE 0 s.env), heap := clE 0 s.heap }
theorem keepE_lk {m : Nat} : ∀ {l : List (Nat × V)} {d : Nat} {v : V}, lk (keepE m l) d = some v → lk l d = some v
  | [], _, _, h => h
  | x :: l, d, v, h => by
    obtain ⟨a, y⟩ := x
    simp only [keepE] at h
    simp only [lk]
    split at h
    · simp only [lk] at h
      split
      · rename_i e; rw [if_pos e] at h; exact h
      · rename_i e; rw [if_neg e] at h; exact keepE_lk h
    · rename_i hm
      have h' := keepE_lk h
      split
      · rename_i e
        exfalso
        subst e
        have : ∀ (l : List (Nat × V)) (v : V), lk (keepE m l) d = some v → m.testBit d = true := by
          intro l
          induction l with
          | nil => intro v h; cases h
          | cons z l ih =>
            intro v h
            obtain ⟨b, w⟩ := z
            simp only [keepE] at h
            split at h
            · rename_i hb
              simp only [lk] at h
              split at h
              · rename_i e; rw [e]; exact hb
              · exact ih v h
            · exact ih v h
        rw [this _ _ h] at hm
        cases hm
      · exact h'
theorem LS.keep_wk (s : LS) (m : Nat) : Wk s (s.keep m) := by
  unfold LS.keep
  split
  · exact {
      env := fun d v h => (clE_lk s.env 0 d v (keepE_lk h)).2
      blk := fun h b e => by
        simp only [LS.blk] at e
        rw [lk_some_map] at e
        cases hq : lk (s.blocks (hsE (keepE m (clE 0 s.env)) 0)) h with
        | none => rw [hq] at e; cases e
        | some b' =>
          rw [hq] at e
          cases e
          exact LS.blocks_ok (lk_mem hq)
      free := fun h e => e
      dfs := rfl }
  · exact {
      env := fun d v h => (clE_lk s.env 0 d v (keepE_lk h)).2
      blk := fun h b e => by
        simp only [LS.blk, Option.join_eq_some_iff] at e ⊢
        exact (clE_lk s.heap 0 h (some b) e).2
      free := fun h e => e
      dfs := rfl }
def fid : Code → Nat
  | .region i _ _ => i
  | .seq a _ => fid a
  | .cond _ a _ => fid a
  | .block _ c => fid c
  | .loop c => fid c
  | .scope c => fid c
  | .rangeFunc _ _ a _ => fid a
  | _ => 0
/-- the loops of a text, with what stands behind each -/
def lpsC (Bs : Nat → LS → Prop) : Code → List It → List (Nat × Code × List It)
  | .seq a b, k => lpsC Bs a (.code b :: k) ++ lpsC Bs b k
  | .cond _ a b, k => lpsC Bs a k ++ lpsC Bs b k
  | .block i c, k => lpsC Bs c (.blk i :: k)
  | .scope c, k => lpsC Bs c k
  | .loop c, k => (fid c, c, k) :: lpsC Bs c (.back (Bs (fid c)) :: k)
  | _, _ => []
/-- the ranges over functions of a text -/
def rgsC (Bs : Nat → LS → Prop) : Code → List It → List (Nat × Code × List It)
  | .seq a b, k => rgsC Bs a (.code b :: k) ++ rgsC Bs b k
  | .cond _ a b, k => rgsC Bs a k ++ rgsC Bs b k
  | .block i c, k => rgsC Bs c (.blk i :: k)
  | .scope c, k => rgsC Bs c k
  | .loop c, k => rgsC Bs c (.back (Bs (fid c)) :: k)
  | .rangeFunc g ps a b, k => [(fid a, .rangeFunc g ps a b, k)]
  | _, _ => []
/-! ### the machine -/
abbrev Rx := List It → LS → Prop
/-- functions that hand back memory of their own, or work on the caller's: the blocks that they take, the new ones, what lies there then, the result -/
abbrev Hf := FuncId → List V → LS → Nat → Option (List Nat × List Nat × List (Nat × Blk) × V)
def noHf : Hf := fun _ _ _ _ => none
def blksK (s : LS) : List Nat → List (Nat × Blk)
  | [] => []
  | h :: l => match blkK s h with
    | some b => (h, b) :: blksK s l
    | none => blksK s l
section
variable (P : Program) (nt n0 : Nat) (F G : Fx → LS → Prop) (fn : Nat → Option Func) (U : List Nat) (pn : FuncId → Bool) (hf : Hf) (rs : Nat)
def vPut (rec : Rx) (all : Array Oper) (i : Nat) (o : Oper) (l : List Oper) (tr : List (Nat × List Nat × List Nat)) (draw : Bool) (k : List It) (s : LS) (c : Bool) (v : V) : Prop :=
  brn (dlt o.dst nt && (!s.taken.contains (s.fresh + i) && c)) (rec (.ops all (i + 1) l ((i, [], []) :: tr) draw :: k) ⟨putE o.dst v s.env, s.heap, s.fresh, s.taken, s.dfs⟩) False
def vOne (rec : Rx) (all : Array Oper) (i : Nat) (o : Oper) (l : List Oper) (tr : List (Nat × List Nat × List Nat)) (draw : Bool) (k : List It) (s : LS) (c : Bool) (e : Eff) : Prop :=
  brn (dlt o.dst nt && (!s.taken.contains (s.fresh + i) && c)) (rec (.ops all (i + 1) l ((i, rdh (some e), wrh (some e)) :: tr) draw :: k) (s.app o.dst e)) False
def vRet (rec : Rx) (all : Array Oper) (i : Nat) (o : Oper) (l : List Oper) (tr : List (Nat × List Nat × List Nat)) (draw : Bool) (k : List It) (s : LS) (r : D) : Prop :=
  brn (dlt o.dst nt) (rec (.ops all (i + 1) l ((i, [], []) :: tr) draw :: k) ⟨putE o.dst (.d r) s.env, s.heap, s.fresh, s.taken, s.dfs⟩) False
def vFn (rec : Rx) (all : Array Oper) (i : Nat) (o : Oper) (l : List Oper) (tr : List (Nat × List Nat × List Nat)) (draw : Bool) (k : List It) (s : LS) (g : FuncId) (ds : List D) : Option Func → Prop
  | some f => match f.body with
    | some _ => match pn g with
      | false => exR (resSh P f) fun r => LSpec P g ds (.ret r) ∧ vRet nt rec all i o l tr draw k s r
      | true => (exR (resSh P f) fun r => LSpec P g ds (.ret r) ∧ vRet nt rec all i o l tr draw k s r) ∨ (draw = false ∧ ∃ d, LSpec P g ds (.pan d) ∧ G (.pan d) s)
    | none => False
  | none => ∃ n, Direct P g ds (.k .i64 n) ∧ vRet nt rec all i o l tr draw k s (.k .i64 n)
def vCall (rec : Rx) (all : Array Oper) (i : Nat) (o : Oper) (l : List Oper) (tr : List (Nat × List Nat × List Nat)) (draw : Bool) (k : List It) (s : LS) (g : FuncId) (args vals : List V) : Option (List D) → Prop
  | some ds => vFn P nt G pn rec all i o l tr draw k s g ds (fn g)
  | none => XC ⟨P, nt, n0, xo P, F⟩ g args none vals all i o l tr draw k s
def vHand (rec : Rx) (all : Array Oper) (i : Nat) (o : Oper) (l : List Oper) (tr : List (Nat × List Nat × List Nat)) (draw : Bool) (k : List It) (s : LS) (g : FuncId) (args vals : List V) (hs news : List Nat) (out : List (Nat × Blk)) (r : V) : Prop :=
  (Enters P g ∧ SpecH P g args [] (blksK s hs) news out r) ∧
  brn (dlt o.dst nt && (news.all (Nat.ble (s.top all.size)) && out.all (fun x => news.contains x.1 || (blksK s hs).any (fun z => Nat.beq z.1 x.1))))
    (rec (.ops all (i + 1) l ((i, rdh (some ⟨vals, [], blksK s hs, news, out, r⟩), wrh (some ⟨vals, [], blksK s hs, news, out, r⟩)) :: tr) draw :: k) (s.app o.dst ⟨vals, [], blksK s hs, news, out, r⟩)) False
def vGo (rec : Rx) (all : Array Oper) (i : Nat) (o : Oper) (l : List Oper) (tr : List (Nat × List Nat × List Nat)) (draw : Bool) (k : List It) (s : LS) : KR → Prop
  | .v c _ v => vPut nt rec all i o l tr draw k s c v
  | .x r => match r with
    | .one c e => vOne nt rec all i o l tr draw k s c e
    | .call g args vals => match hf g args s (s.top all.size) with
      | some (hs, news, out, r) => vHand P nt rec all i o l tr draw k s g args vals hs news out r
      | none => vCall P nt n0 F G fn pn rec all i o l tr draw k s g args vals (V.toD.toDs args)
    | .pan d => match draw with
      | false => G (.pan d) s
      | true => False
    | .dfr x => match draw with
      | false => brn (dlt o.dst nt) (rec (.ops all (i + 1) l ((i, [], []) :: tr) draw :: k) { s with env := putE o.dst uV s.env, dfs := x :: s.dfs }) False
      | true => False
    | .none => False
def vPick (rec : Rx) (all : Array Oper) (i : Nat) (o : Oper) (l : List Oper) (tr : List (Nat × List Nat × List Nat)) (draw : Bool) (k : List It) (s : LS) : Option V → Option V → Option V → Prop
  | some (.d (.b p)), some (.d (.b a)), some (.d (.b b)) => vPut nt rec all i o l tr draw k s true (.d (.b (cond p a b)))
  | some (.d (.b p)), some x, some y => brn p (vPut nt rec all i o l tr draw k s true x) (vPut nt rec all i o l tr draw k s true y)
  | _, _, _ => False
def vLoadQ (rec : Rx) (all : Array Oper) (i : Nat) (o : Oper) (l : List Oper) (tr : List (Nat × List Nat × List Nat)) (draw : Bool) (k : List It) (s : LS) (t : TypeId) (rows : List (List D)) (a b : Nat) : Option (Option Nat) → Prop
  | some none => match scT P 10 t with
    | [c] => c.ex fun d => (rows[a]?.bind fun r => r[b]?) = some d ∧ vPut nt rec all i o l tr draw k s true (.d d)
    | _ => False
  | some (some m) => exL (scT P 10 t) fun ds => ((rows[a]?.map fun r => (r.drop b).take m) = some ds ∧ (Nat.beq ds.length m && Nat.blt 0 m) = true) ∧ vPut nt rec all i o l tr draw k s true (.d (.agg ds))
  | none => False
def vLoad (rec : Rx) (all : Array Oper) (i : Nat) (o : Oper) (l : List Oper) (tr : List (Nat × List Nat × List Nat)) (draw : Bool) (k : List It) (s : LS) (t : TypeId) : Option V → Prop
  | some (.q _ rows a b) => vLoadQ P nt rec all i o l tr draw k s t rows a b (shp P t)
  | _ => vGo P nt n0 F G fn pn hf rec all i o l tr draw k s (kRun P s (s.fresh + i) o)
def vOp (rec : Rx) (all : Array Oper) (i : Nat) (o : Oper) (l : List Oper) (tr : List (Nat × List Nat × List Nat)) (draw : Bool) (k : List It) (s : LS) : Prop := match o.op with
  | .pick c x y => vPick nt rec all i o l tr draw k s (evK s c) (evK s x) (evK s y)
  | .load t x => vLoad P nt n0 F G fn pn hf rec all i o l tr draw k s t (evK s x)
  | _ => vGo P nt n0 F G fn pn hf rec all i o l tr draw k s (kRun P s (s.fresh + i) o)
def vSkip (rec : Rx) (all : Array Oper) (i : Nat) (o : Oper) (l : List Oper) (tr : List (Nat × List Nat × List Nat)) (draw : Bool) (k : List It) (s : LS) : Prop :=
  brn (dlt o.dst nt) (rec (.ops all (i + 1) l ((i, [], []) :: tr) draw :: k) (s.skip o.dst)) False
def vGd (rec : Rx) (all : Array Oper) (i : Nat) (o : Oper) (l : List Oper) (tr : List (Nat × List Nat × List Nat)) (draw : Bool) (k : List It) (s : LS) : GR → Prop
  | .yes => vOp P nt n0 F G fn pn hf rec all i o l tr draw k s
  | .ask t p want => match want with
    | true => brn p (vOp P nt n0 F G fn pn hf rec all i o l tr draw k (s.setB t true)) (vSkip nt rec all i o l tr draw k (s.setB t false))
    | false => brn p (vSkip nt rec all i o l tr draw k (s.setB t true)) (vOp P nt n0 F G fn pn hf rec all i o l tr draw k (s.setB t false))
  | .no => vSkip nt rec all i o l tr draw k s
  | .bad => False
def vEnd (rec : Rx) (all : Array Oper) (tr : List (Nat × List Nat × List Nat)) (draw : Bool) (k : List It) (s : LS) : Prop := match draw with
  | false => rec k s.settle
  | true => match edgesB all && chkP all tr with
    | true => rec k s.settle
    | false => False
def vOps (rec : Rx) (all : Array Oper) (i : Nat) (tr : List (Nat × List Nat × List Nat)) (draw : Bool) (k : List It) (s : LS) : List Oper → Prop
  | [] => vEnd rec all tr draw k s
  | o :: l => match o.guard with
    | none => vOp P nt n0 F G fn pn hf rec all i o l tr draw k s
    | some _ => vGd P nt n0 F G fn pn hf rec all i o l tr draw k s (guardOf all s o)
def vCond (rec : Rx) (k : List It) (s : LS) (t : Nat) (a b : Code) : Option V → Prop
  | some (.d (.b p)) => brn p (rec (.code a :: k) (s.setB t true)) (rec (.code b :: k) (s.setB t false))
  | _ => False
def vCode (rec : Rx) (k : List It) (s : LS) : Code → Prop
  | .skip => rec k s
  | .label _ => rec k s
  | .seq a b => rec (.code a :: .code b :: k) s
  | .block id c => rec (.code c :: .blk id :: k) s
  | .scope c => rec (.code c :: k) s
  | .exit id => match popTo id k with
    | some k' => rec k' s
    | none => False
  | .ret => G .ret s
  | .cond (.tmp t) a b => vCond rec k s t a b (lkK s.env t)
  | .cond (.const (.bool true)) a _ => rec (.code a :: k) s
  | .cond (.const (.bool false)) _ b => rec (.code b :: k) s
  | .region _ ops draw => rec (.ops ops 0 ops.toList [] draw :: k) s
  | .loop c => match U.contains (fid c) with
    | true => rec (.code c :: .code (.loop c) :: k) s.clean
    | false => Leaf ⟨P, nt, n0, xo P, F⟩ (.loop c) k (s.keep (useK (.code (.loop c) :: k) rs))
  | .rangeFunc g ps a b => Leaf ⟨P, nt, n0, xo P, F⟩ (.rangeFunc g ps a b) k (s.keep (useK (.code (.rangeFunc g ps a b) :: k) rs))
  | _ => False
def stpV (rec : Rx) : List It → LS → Prop
  | [], s => G .ret s
  | .blk _ :: k, s => rec k s
  | .back B :: _, s => B s
  | .ops all i l tr draw :: k, s => vOps P nt n0 F G fn pn hf rec all i tr draw k s l
  | .op1 all i o l tr draw :: k, s => vOp P nt n0 F G fn pn hf rec all i o l tr draw k s
  | .code c :: k, s => vCode P nt n0 F G U rs rec k s c
def vx (n : Nat) : Rx := Nat.rec (motive := fun _ => Rx) (fun _ _ => False) (fun _ rec => stpV P nt n0 F G fn U pn hf rs rec) n
end
/-! ### it is enough -/
section
variable {P : Program} {nt n0 : Nat} {F G : Fx → LS → Prop} {fn : Nat → Option Func} {U : List Nat} {pn : FuncId → Bool} {hf : Hf} {rs : Nat}
def VxOk (P : Program) (nt n0 : Nat) (F : Fx → LS → Prop) (rec : Rx) : Prop := ∀ (k : List It) (s : LS), tailPlain k → rec k s → gx ⟨P, nt, n0, xo P, F⟩ k s
theorem Leaf.wk {P : Program} {nt n0 : Nat} {F : Fx → LS → Prop} {c : Code} {k : List It} {s s' : LS} (hw : Wk s s') (h : Leaf ⟨P, nt, n0, xo P, F⟩ c k s') : Leaf ⟨P, nt, n0, xo P, F⟩ c k s := by
  intro X hP hnt hn0 a w ⟨β, fz, r⟩
  exact h X hP hnt hn0 a w ⟨β, fz, r.wk hw⟩
theorem blksK_ok {s : LS} {x : Nat × Blk} : ∀ {l : List Nat}, x ∈ blksK s l → s.blk x.1 = some x.2
  | [], h => by cases h
  | k :: l, h => by
    simp only [blksK] at h
    split at h
    · rename_i b hb
      rcases List.mem_cons.1 h with rfl | h
      · rw [blkK_eq] at hb; exact hb
      · exact blksK_ok h
    · exact blksK_ok h
theorem put_ok {rec : Rx} (hr : VxOk P nt n0 F rec) {all : Array Oper} {i : Nat} {o : Oper} {l : List Oper} {tr : List (Nat × List Nat × List Nat)} {draw : Bool} {k : List It} {s : LS} {c c' : Bool} {vals : List V} {v : V} (hk : ∀ y ∈ k, y.plain)
    (hx : xoRun P s (s.fresh + i) o = .one c' (pu vals v)) (hc : c = true → c' = true) (h : vPut nt rec all i o l tr draw k s c v) : gx ⟨P, nt, n0, xo P, F⟩ (.op1 all i o l tr draw :: k) s := by
  rw [gx_op1]
  show stepX _ _ _ _ _ _ _ _ _ (xoRun P s (s.fresh + i) o)
  rw [hx]
  have h' := brn_elim h
  cases hb : (dlt o.dst nt && (!s.taken.contains (s.fresh + i) && c)) with
  | false => exact (h'.2 hb).elim
  | true =>
    simp only [Bool.and_eq_true, Bool.not_eq_true', List.contains_eq_mem, decide_eq_false_iff_not] at hb
    exact ⟨⟨hb.1, hb.2.1, hc hb.2.2⟩, hr _ _ (plain_cons hk) (h'.1 (by simp [hb]))⟩
theorem one_ok {rec : Rx} (hr : VxOk P nt n0 F rec) {all : Array Oper} {i : Nat} {o : Oper} {l : List Oper} {tr : List (Nat × List Nat × List Nat)} {draw : Bool} {k : List It} {s : LS} {c : Bool} {e : Eff} (hk : ∀ y ∈ k, y.plain)
    (hx : xoRun P s (s.fresh + i) o = .one c e) (h : vOne nt rec all i o l tr draw k s c e) : gx ⟨P, nt, n0, xo P, F⟩ (.op1 all i o l tr draw :: k) s := by
  rw [gx_op1]
  show stepX _ _ _ _ _ _ _ _ _ (xoRun P s (s.fresh + i) o)
  rw [hx]
  have h' := brn_elim h
  cases hb : (dlt o.dst nt && (!s.taken.contains (s.fresh + i) && c)) with
  | false => exact (h'.2 hb).elim
  | true =>
    simp only [Bool.and_eq_true, Bool.not_eq_true', List.contains_eq_mem, decide_eq_false_iff_not] at hb
    exact ⟨⟨hb.1, hb.2.1, hb.2.2⟩, hr _ _ (plain_cons hk) (h'.1 (by simp [hb]))⟩
theorem ret_ok {rec : Rx} (hr : VxOk P nt n0 F rec) {all : Array Oper} {i : Nat} {o : Oper} {l : List Oper} {tr : List (Nat × List Nat × List Nat)} {draw : Bool} {k : List It} {s : LS} {r : D} (hk : ∀ y ∈ k, y.plain)
    (h : vRet nt rec all i o l tr draw k s r) : dlt o.dst nt = true ∧ gx ⟨P, nt, n0, xo P, F⟩ (.ops all (i + 1) l ((i, [], []) :: tr) draw :: k) ⟨putE o.dst (.d r) s.env, s.heap, s.fresh, s.taken, s.dfs⟩ := by
  have h' := brn_elim h
  cases hb : dlt o.dst nt with
  | false => exact (h'.2 hb).elim
  | true => exact ⟨rfl, hr _ _ (plain_cons hk) (h'.1 hb)⟩
theorem vFn_ok (hG : ∀ fx s, G fx s → F fx s) {rec : Rx} (hr : VxOk P nt n0 F rec) {all : Array Oper} {i : Nat} {o : Oper} {l : List Oper} {tr : List (Nat × List Nat × List Nat)} {draw : Bool} {k : List It} {s : LS} {g : FuncId} {args vals : List V} {ds : List D} (hk : ∀ y ∈ k, y.plain) :
    ∀ f, vFn P nt G pn rec all i o l tr draw k s g ds f → XC ⟨P, nt, n0, xo P, F⟩ g args (some ds) vals all i o l tr draw k s
  | none, h => by
    obtain ⟨n, h1, h2⟩ := h
    obtain ⟨h3, h4⟩ := ret_ok hr hk h2
    exact XC.ext h1 h3 h4
  | some f, h => by
    simp only [vFn] at h
    have one : (∃ r, LSpec P g ds (.ret r) ∧ vRet nt rec all i o l tr draw k s r) → XC ⟨P, nt, n0, xo P, F⟩ g args (some ds) vals all i o l tr draw k s := fun ⟨r, h1, h2⟩ => by
      obtain ⟨h3, h4⟩ := ret_ok hr hk h2
      exact XC.p h1 h3 h4
    split at h
    · split at h
      · exact one (exR_out h)
      · rcases h with h | ⟨rfl, d, h1, h2⟩
        · exact one (exR_out h)
        · exact XC.pan h1 (hG _ _ h2)
    · exact h.elim
theorem vGo_ok (hG : ∀ fx s, G fx s → F fx s) {rec : Rx} (hr : VxOk P nt n0 F rec) {all : Array Oper} {i : Nat} {o : Oper} {l : List Oper} {tr : List (Nat × List Nat × List Nat)} {draw : Bool} {k : List It} {s : LS} {r : KR} (hk : ∀ y ∈ k, y.plain)
    (hx : r.xr = xoRun P s (s.fresh + i) o) (h : vGo P nt n0 F G fn pn hf rec all i o l tr draw k s r) : gx ⟨P, nt, n0, xo P, F⟩ (.op1 all i o l tr draw :: k) s := by
  cases r with
  | v c vals v => exact put_ok hr hk hx.symm id h
  | x r =>
    have hx : xoRun P s (s.fresh + i) o = r := hx.symm
    simp only [vGo] at h
    cases r with
    | one c e => exact one_ok hr hk hx h
    | call g args vals =>
      rw [gx_op1]
      show stepX _ _ _ _ _ _ _ _ _ (xoRun P s (s.fresh + i) o)
      rw [hx]
      show XC _ _ _ _ _ _ _ _ _ _ _ _ _
      simp only at h
      split at h
      · rename_i hs news out rv _
        obtain ⟨⟨h1, h2⟩, h3⟩ := h
        have h' := brn_elim h3
        cases hb : (dlt o.dst nt && (news.all (Nat.ble (s.top all.size)) && out.all (fun x => news.contains x.1 || (blksK s hs).any (fun z => Nat.beq z.1 x.1)))) with
        | false => exact (h'.2 hb).elim
        | true =>
          simp only [Bool.and_eq_true, List.all_eq_true, Bool.or_eq_true, List.any_eq_true] at hb
          refine XC.gen [] _ _ _ _ h1 h2 (fun x hx => by cases hx) (fun x hx => blksK_ok hx) (fun x hx => top_free (Nat.le_of_ble_eq_true (hb.2.1 x hx))) (fun x hx => ?_) hb.1 (hr _ _ (plain_cons hk) (h'.1 (by simp only [Bool.and_eq_true, List.all_eq_true, Bool.or_eq_true, List.any_eq_true]; exact hb)))
          rcases hb.2.2 x hx with q | ⟨z, hz, q⟩
          · exact .inl (by simpa using q)
          · exact .inr ⟨z, hz, Nat.eq_of_beq_eq_true q⟩
      · generalize V.toD.toDs args = ds at h ⊢
        cases ds with
        | some ds => exact vFn_ok hG hr hk _ h
        | none => exact h
    | pan d =>
      simp only at h
      split at h
      · rw [gx_op1]
        show stepX _ _ _ _ _ _ _ _ _ (xoRun P s (s.fresh + i) o)
        rw [hx]
        exact ⟨rfl, hG _ _ h⟩
      · exact h.elim
    | dfr x =>
      simp only at h
      split at h
      · rw [gx_op1]
        show stepX _ _ _ _ _ _ _ _ _ (xoRun P s (s.fresh + i) o)
        rw [hx]
        have h' := brn_elim h
        cases hb : dlt o.dst nt with
        | false => exact (h'.2 hb).elim
        | true => exact ⟨rfl, hb, hr _ _ (plain_cons hk) (h'.1 hb)⟩
      · exact h.elim
    | none => exact h.elim
theorem vOp_ok (hG : ∀ fx s, G fx s → F fx s) {rec : Rx} (hr : VxOk P nt n0 F rec) {all : Array Oper} {i : Nat} {o : Oper} {l : List Oper} {tr : List (Nat × List Nat × List Nat)} {draw : Bool} {k : List It} {s : LS} (hk : ∀ y ∈ k, y.plain)
    (h : vOp P nt n0 F G fn pn hf rec all i o l tr draw k s) : gx ⟨P, nt, n0, xo P, F⟩ (.op1 all i o l tr draw :: k) s := by
  have gen : vGo P nt n0 F G fn pn hf rec all i o l tr draw k s (kRun P s (s.fresh + i) o) → gx ⟨P, nt, n0, xo P, F⟩ (.op1 all i o l tr draw :: k) s := vGo_ok hG hr hk (kRun_eq P s (s.fresh + i) o)
  unfold vOp at h
  split at h
  · rename_i c x y ho
    rw [evK_eq, evK_eq, evK_eq] at h
    unfold vPick at h
    split at h
    · rename_i p a b h1 h2 h3
      refine put_ok hr hk (c' := true) (vals := [.d (.b p), .d (.b a), .d (.b b)]) ?_ id h
      unfold xoRun
      rw [ho]
      simp only [h1, h2, h3]
      cases p <;> rfl
    · rename_i p vx vy h1 h2 h3 h4
      have hx : xoRun P s (s.fresh + i) o = .one true (pu [.d (.b p), vx, vy] (pk p vx vy)) := by
        unfold xoRun
        rw [ho]
        simp only [h2, h3, h4]
      have h' := brn_elim h
      cases p with
      | true => exact put_ok hr hk hx id (h'.1 rfl)
      | false => exact put_ok hr hk hx id (h'.2 rfl)
    · exact h.elim
  · rename_i t x ho
    rw [evK_eq] at h
    unfold vLoad at h
    split at h
    · rename_i sz rows a b hx
      unfold vLoadQ at h
      split at h
      · rename_i hs
        split at h
        · obtain ⟨d, h1, h2⟩ := Sc.ex_out h
          refine put_ok hr hk (c' := decide (a < rows.length ∧ b < (rows.getD a []).length)) (vals := [.q sz rows a b]) (v := .d d) ?_ (fun _ => ?_) h2
          · unfold xoRun
            rw [ho]
            simp only [hx, xoLoad, hs]
            simp only [Option.bind_eq_some_iff] at h1
            obtain ⟨r, h3, h4⟩ := h1
            simp [List.getD_eq_getElem?_getD, h3, h4]
          · simp only [Option.bind_eq_some_iff] at h1
            obtain ⟨r, h3, h4⟩ := h1
            have := (List.getElem?_eq_some_iff.1 h3).1
            have h5 := (List.getElem?_eq_some_iff.1 h4).1
            rw [List.getD_eq_getElem?_getD, h3]; exact decide_eq_true ⟨this, h5⟩
        · exact h.elim
      · rename_i m hs
        obtain ⟨ds, _, ⟨h1, h3⟩, h2⟩ := exL_out h
        simp only [Bool.and_eq_true, Nat.blt_eq] at h3
        obtain ⟨h3, hpos⟩ := h3
        have h3 := Nat.eq_of_beq_eq_true h3
        simp only [Option.map_eq_some_iff] at h1
        obtain ⟨r, h4, h5⟩ := h1
        refine put_ok hr hk (c' := decide (a < rows.length ∧ b + m ≤ (rows.getD a []).length)) (vals := [.q sz rows a b]) (v := .d (.agg ds)) ?_ (fun _ => ?_) h2
        · unfold xoRun
          rw [ho]
          simp only [hx, xoLoad, hs]
          simp [List.getD_eq_getElem?_getD, h4, h5]
        · have := (List.getElem?_eq_some_iff.1 h4).1
          have h6 : b + m ≤ r.length := by
            subst h5
            simp at h3
            omega
          rw [List.getD_eq_getElem?_getD, h4]
          exact decide_eq_true ⟨this, h6⟩
      · exact h.elim
    · exact gen h
  · exact gen h
theorem vSkip_ok {rec : Rx} (hr : VxOk P nt n0 F rec) {all : Array Oper} {i : Nat} {o : Oper} {l : List Oper} {tr : List (Nat × List Nat × List Nat)} {draw : Bool} {k : List It} {s : LS} (hk : ∀ y ∈ k, y.plain)
    (h : vSkip nt rec all i o l tr draw k s) : dlt o.dst nt = true ∧ gx ⟨P, nt, n0, xo P, F⟩ (.ops all (i + 1) l ((i, [], []) :: tr) draw :: k) (s.skip o.dst) := by
  have h' := brn_elim h
  cases hb : dlt o.dst nt with
  | false => exact (h'.2 hb).elim
  | true => exact ⟨rfl, hr _ _ (plain_cons hk) (h'.1 hb)⟩
theorem stpV_ok (hmx : P.follows .mixedOrders = true) (hG : ∀ fx s, G fx s → F fx s) {rec : Rx} (hr : VxOk P nt n0 F rec) : VxOk P nt n0 F (stpV P nt n0 F G fn U pn hf rs rec) := by
  intro k s hk h
  cases k with
  | nil => rw [gx_nil]; exact hG _ _ h
  | cons x k =>
    have hk : ∀ y ∈ k, y.plain := hk
    cases x with
    | blk id => rw [gx_blk]; exact hr _ _ (plain_tail hk) h
    | back B => rw [gx_back]; exact h
    | op1 all i o l tr draw => exact vOp_ok hG hr hk h
    | ops all i l tr draw =>
      cases l with
      | nil =>
        rw [gx_end]
        simp only [stpV, vOps, vEnd] at h
        split at h
        · exact hr _ _ (plain_tail hk) h
        · split at h
          · rename_i hc
            exact ⟨hc, hr _ _ (plain_tail hk) h⟩
          · exact h.elim
      | cons o l =>
        rw [gx_ops]
        simp only [stpV, vOps] at h
        split at h
        · rename_i hg
          have : guardOf all s o = .yes := by unfold guardOf; rw [hg]
          rw [this]
          exact vOp_ok hG hr hk h
        · generalize hg : guardOf all s o = gr at h
          cases gr with
          | yes => exact vOp_ok hG hr hk h
          | no => exact vSkip_ok hr hk h
          | bad => exact h.elim
          | ask t p want =>
            cases want with
            | true =>
              have h' := brn_elim h
              refine ⟨fun e => vOp_ok hG hr hk (h'.1 e), fun e => vSkip_ok hr hk (h'.2 e)⟩
            | false =>
              have h' := brn_elim h
              refine ⟨fun e => vOp_ok hG hr hk (h'.2 e), fun e => vSkip_ok hr hk (h'.1 e)⟩
    | code c =>
      simp only [stpV] at h
      cases c with
      | skip => rw [gx_skip]; exact hr _ _ (plain_tail hk) h
      | label l => rw [gx_label]; exact hr _ _ (plain_tail hk) h
      | seq a b => rw [gx_seq]; exact hr _ _ (plain_cons fun y hy => by rcases List.mem_cons.1 hy with rfl | hy; trivial; exact hk y hy) h
      | block id c => rw [gx_block]; exact hr _ _ (plain_cons fun y hy => by rcases List.mem_cons.1 hy with rfl | hy; trivial; exact hk y hy) h
      | scope c => rw [gx_scope]; exact hr _ _ (plain_cons hk) h
      | exit id =>
        rw [gx_exit]
        simp only [vCode] at h
        split at h
        · rename_i k' hp
          rw [hp]
          exact hr _ _ (plain_tail (popTo_plain hp hk)) h
        · exact h.elim
      | ret => rw [gx_ret]; exact hG _ _ h
      | cond x a b =>
        cases x with
        | tmp t =>
          simp only [vCode, lkK_eq] at h
          rw [gx_cond]
          generalize lk s.env t = v at h ⊢
          unfold vCond at h
          split at h
          · have h' := brn_elim h
            exact ⟨fun e => hr _ _ (plain_cons hk) (h'.1 e), fun e => hr _ _ (plain_cons hk) (h'.2 e)⟩
          · exact h.elim
        | const v =>
          cases v with
          | bool p =>
            rw [gx]
            cases p
            · exact ⟨fun e => by (cases e), fun _ => hr _ _ (plain_cons hk) h⟩
            · exact ⟨fun _ => hr _ _ (plain_cons hk) h, fun e => by (cases e)⟩
          | _ => exact h.elim
        | _ => exact h.elim
      | region id ops draw => rw [gx_region]; exact hr _ _ (plain_cons hk) h
      | loop c =>
        rw [gx_loop]
        simp only [vCode] at h
        split at h
        · exact loop_unroll hmx s.clean_wk hk (hr _ _ (plain_cons fun y hy => by rcases List.mem_cons.1 hy with rfl | hy; trivial; exact hk y hy) h)
        · exact Leaf.wk (s.keep_wk _) h
      | rangeFunc g ps a b =>
        rw [gx]
        · exact Leaf.wk (s.keep_wk _) h
        all_goals (intros; contradiction)
      | _ => exact h.elim
theorem vx_ok (hmx : P.follows .mixedOrders = true) (hG : ∀ fx s, G fx s → F fx s) : ∀ n, VxOk P nt n0 F (vx P nt n0 F G fn U pn hf rs n)
  | 0 => fun _ _ _ h => h.elim
  | n + 1 => stpV_ok hmx hG (vx_ok hmx hG n)
end
/-- a loop of a function by its number, with what stands behind it -/
def lpAt (f : Func) (Bs : Nat → LS → Prop) (id : Nat) : Code × List It := match f.body with
  | some c => go id (lpsC Bs c [])
  | none => (.skip, [])
where go (id : Nat) : List (Nat × Code × List It) → Code × List It
  | [] => (.skip, [])
  | x :: l => match Nat.beq x.1 id with
    | true => x.2
    | false => go id l
theorem lps_plain (Bs : Nat → LS → Prop) : ∀ (c : Code) (k : List It), (∀ y ∈ k, y.plain) → ∀ x ∈ lpsC Bs c k, ∀ y ∈ x.2.2, y.plain
  | .seq a b, k, h, x, hx => by
    simp only [lpsC, List.mem_append] at hx
    rcases hx with hx | hx
    · exact lps_plain Bs a _ (fun y hy => by rcases List.mem_cons.1 hy with rfl | hy; trivial; exact h y hy) x hx
    · exact lps_plain Bs b k h x hx
  | .cond _ a b, k, h, x, hx => by
    simp only [lpsC, List.mem_append] at hx
    rcases hx with hx | hx
    · exact lps_plain Bs a k h x hx
    · exact lps_plain Bs b k h x hx
  | .block i c, k, h, x, hx => lps_plain Bs c _ (fun y hy => by rcases List.mem_cons.1 hy with rfl | hy; trivial; exact h y hy) x hx
  | .scope c, k, h, x, hx => lps_plain Bs c k h x hx
  | .loop c, k, h, x, hx => by
    simp only [lpsC, List.mem_cons] at hx
    rcases hx with rfl | hx
    · exact h
    · exact lps_plain Bs c _ (fun y hy => by rcases List.mem_cons.1 hy with rfl | hy; trivial; exact h y hy) x hx
  | .skip, _, _, _, hx | .label _, _, _, _, hx | .exit _, _, _, _, hx | .ret, _, _, _, hx | .region _ _ _, _, _, _, hx | .goto _, _, _, _, hx | .rangeFunc _ _ _ _, _, _, _, hx => by simp [lpsC] at hx
theorem lpAt_plain (f : Func) (Bs : Nat → LS → Prop) (id : Nat) : ∀ y ∈ (lpAt f Bs id).2, y.plain := by
  unfold lpAt
  split
  · rename_i c _
    have key : ∀ l : List (Nat × Code × List It), (∀ x ∈ l, ∀ y ∈ x.2.2, y.plain) → ∀ y ∈ (lpAt.go id l).2, y.plain := by
      intro l
      induction l with
      | nil => intro _ y hy; cases hy
      | cons x l ih =>
        intro h
        simp only [lpAt.go]
        split
        · exact h x List.mem_cons_self
        · exact ih fun z hz => h z (List.mem_cons_of_mem _ hz)
    exact key _ (lps_plain Bs c [] (fun y hy => by cases hy))
  · intro y hy; cases hy
/-- a range over a function by its number, with what stands behind it -/
def rgAt (f : Func) (Bs : Nat → LS → Prop) (id : Nat) : Code × List It := match f.body with
  | some c => lpAt.go id (rgsC Bs c [])
  | none => (.skip, [])
theorem rgs_plain (Bs : Nat → LS → Prop) : ∀ (c : Code) (k : List It), (∀ y ∈ k, y.plain) → ∀ x ∈ rgsC Bs c k, ∀ y ∈ x.2.2, y.plain
  | .seq a b, k, h, x, hx => by
    simp only [rgsC, List.mem_append] at hx
    rcases hx with hx | hx
    · exact rgs_plain Bs a _ (fun y hy => by rcases List.mem_cons.1 hy with rfl | hy; trivial; exact h y hy) x hx
    · exact rgs_plain Bs b k h x hx
  | .cond _ a b, k, h, x, hx => by
    simp only [rgsC, List.mem_append] at hx
    rcases hx with hx | hx
    · exact rgs_plain Bs a k h x hx
    · exact rgs_plain Bs b k h x hx
  | .block i c, k, h, x, hx => rgs_plain Bs c _ (fun y hy => by rcases List.mem_cons.1 hy with rfl | hy; trivial; exact h y hy) x hx
  | .scope c, k, h, x, hx => rgs_plain Bs c k h x hx
  | .loop c, k, h, x, hx => rgs_plain Bs c _ (fun y hy => by rcases List.mem_cons.1 hy with rfl | hy; trivial; exact h y hy) x hx
  | .rangeFunc _ _ _ _, k, h, x, hx => by
    simp only [rgsC, List.mem_singleton] at hx
    subst hx
    exact h
  | .skip, _, _, _, hx | .label _, _, _, _, hx | .exit _, _, _, _, hx | .ret, _, _, _, hx | .region _ _ _, _, _, _, hx | .goto _, _, _, _, hx => by simp [rgsC] at hx
theorem rgAt_plain (f : Func) (Bs : Nat → LS → Prop) (id : Nat) : ∀ y ∈ (rgAt f Bs id).2, y.plain := by
  unfold rgAt
  split
  · rename_i c _
    have key : ∀ l : List (Nat × Code × List It), (∀ x ∈ l, ∀ y ∈ x.2.2, y.plain) → ∀ y ∈ (lpAt.go id l).2, y.plain := by
      intro l
      induction l with
      | nil => intro _ y hy; cases hy
      | cons x l ih =>
        intro h
        simp only [lpAt.go]
        split
        · exact h x List.mem_cons_self
        · exact ih fun z hz => h z (List.mem_cons_of_mem _ hz)
    exact key _ (rgs_plain Bs c [] (fun y hy => by cases hy))
  · intro y hy; cases hy
/-- the parts of a range over a function -/
def rgA : Code → Code
  | .rangeFunc _ _ a _ => a
  | _ => .skip
def rgB : Code → Code
  | .rangeFunc _ _ _ b => b
  | _ => .skip
def RangeAt (P : Program) (f : Func) (F : Fx → LS → Prop) (Bs : Nat → LS → Prop) (id : Nat) (s : LS) : Prop := Leaf ⟨P, f.ntmps, 0, xo P, F⟩ (rgAt f Bs id).1 (rgAt f Bs id).2 s
def LeafAt (P : Program) (f : Func) (F : Fx → LS → Prop) (Bs : Nat → LS → Prop) (id : Nat) (s : LS) : Prop := Leaf ⟨P, f.ntmps, 0, xo P, F⟩ (.loop (lpAt f Bs id).1) (lpAt f Bs id).2 s
/-! ### a function -/
/-- what a function that puts off no call hands back -/
def retG (P : Program) (rvs : List ResultVar) (o : LO) (fx : Fx) (s : LS) : Prop := match fx, o, s.dfs with
  | .ret, .ret d, [] => match resL P s rvs with
    | some vs => match (pack vs).toDh s with
      | some d' => d' = d
      | none => False
    | none => False
  | .pan x, .pan d, [] => x = d
  | _, _, _ => False
theorem retG_ok {P : Program} {rvs : List ResultVar} {o : LO} {fx : Fx} {s : LS} (h : retG P rvs o fx s) : RetD P rvs o fx s := by
  unfold retG at h
  split at h
  · rename_i d hd
    split at h
    · rename_i vs hv
      split at h
      · rename_i d' ht
        exact ⟨hd, vs, hv, by rw [ht, h]⟩
      · exact h.elim
    · exact h.elim
  · rename_i hd
    exact ⟨hd, h⟩
  · exact h.elim
theorem LSpec.vx {P : Program} {f : FuncId} {fu : Func} {c : Code} {args : List D} {o : LO} (hmx : P.follows .mixedOrders = true) {fn : Nat → Option Func} (hfn : ∀ g f, fn g = some f → P.funcs[g]? = some f ∧ Enters P g) (hfu : fn f = some fu) (hb : fu.body = some c) (hn : Nat.ble args.length fu.ntmps = true) (U : List Nat) (pn : FuncId → Bool) (hf : Hf) (n : Nat)
    (h : ∀ F : Fx → LS → Prop, (∀ fx s, RetD P fu.results.toList o fx s → F fx s) → Go.Lm.vx P fu.ntmps 0 F (retG P fu.results.toList o) fn U pn hf (resU fu.results.toList 0) n [.code c] ⟨envD 0 args, [], 0, [], []⟩) : LSpec P f args o :=
  ⟨(hfn _ _ hfu).2, SpecP.of_gx hmx (hfn _ _ hfu).1 hb (Nat.le_of_ble_eq_true hn) fun F hF => vx_ok hmx (fun fx s hg => hF fx s (retG_ok hg)) n _ _ (fun y hy => by cases hy) (h F hF)⟩
/-! ### a loop -/
/-- a state as another one knows it: as an equation a slot -/
def WrE (n0 : Nat) (R : List (Nat × Option Nat)) (s : LS) : List (Nat × V) → Prop
  | [] => True
  | (t, v) :: l => (match lkK s.env t with
    | some u => Vw n0 R u v
    | none => False) ∧ WrE n0 R s l
def WrH (n0 : Nat) (R : List (Nat × Option Nat)) (s : LS) : List (Nat × Option Blk) → Prop
  | [] => True
  | (h, b) :: l => Hw n0 R s h b ∧ WrH n0 R s l
theorem WrE_ok {n0 : Nat} {R : List (Nat × Option Nat)} {s : LS} : ∀ {l : List (Nat × V)}, WrE n0 R s l → ∀ x ∈ l, ∃ v, lk s.env x.1 = some v ∧ Vw n0 R v x.2
  | [], _, x, hx => by cases hx
  | (t, v) :: l, ⟨h, hl⟩, x, hx => by
    rcases List.mem_cons.1 hx with rfl | hx
    · rw [lkK_eq] at h
      simp only
      cases hq : lk s.env t with
      | none => rw [hq] at h; exact h.elim
      | some u => rw [hq] at h; exact ⟨u, rfl, h⟩
    · exact WrE_ok hl x hx
theorem WrH_ok {n0 : Nat} {R : List (Nat × Option Nat)} {s : LS} : ∀ {l : List (Nat × Option Blk)}, WrH n0 R s l → ∀ x ∈ l, Hw n0 R s x.1 x.2
  | [], _, x, hx => by cases hx
  | (t, v) :: l, ⟨h, hl⟩, x, hx => by
    rcases List.mem_cons.1 hx with rfl | hx
    · exact h
    · exact WrH_ok hl x hx
/-- the names of blocks: no two for one; new ones -/
def RB (n0 fr : Nat) : List (Nat × Option Nat) → Bool
  | [] => true
  | (h, k) :: l => Nat.blt h fr && (match k with
    | some k => Nat.ble n0 k && l.all (fun y => match y.2 with | some j => !Nat.beq j k | none => true)
    | none => true) && RB n0 fr l
theorem RB_ok {n0 fr : Nat} : ∀ {l : List (Nat × Option Nat)}, RB n0 fr l = true → l.Pairwise (fun x y => ∀ k, x.2 = some k → y.2 = some k → False) ∧ ∀ x ∈ l, x.1 < fr ∧ ∀ k, x.2 = some k → n0 ≤ k
  | [], _ => ⟨.nil, fun x hx => by cases hx⟩
  | (h, k) :: l, hb => by
    simp only [RB, Bool.and_eq_true] at hb
    obtain ⟨⟨h1, h2⟩, h3⟩ := hb
    obtain ⟨i1, i2⟩ := RB_ok h3
    refine ⟨.cons (fun y hy j e1 e2 => ?_) i1, fun x hx => ?_⟩
    · subst e1
      simp only [Bool.and_eq_true, List.all_eq_true] at h2
      have := h2.2 y hy
      rw [e2] at this
      simp at this
    · rcases List.mem_cons.1 hx with rfl | hx
      · refine ⟨by rw [Nat.blt_eq] at h1; exact h1, fun j e => ?_⟩
        subst e
        simp only [Bool.and_eq_true] at h2
        exact Nat.le_of_ble_eq_true h2.1
      · exact i2 x hx
theorem Wr.of {n0 : Nat} {R : List (Nat × Option Nat)} {s s' : LS} (hR : RB n0 s'.fresh R = true) (hf : Nat.ble n0 s'.fresh = true) (hd : s.dfs = []) (hd' : s'.dfs = []) (he : WrE n0 R s s'.env) (hh : WrH n0 R s s'.heap) : Wr n0 R s s' :=
  ⟨WrE_ok he, WrH_ok hh, (RB_ok hR).1, (RB_ok hR).2, Nat.le_of_ble_eq_true hf, .inl hd, .inl (hd'.trans hd.symm)⟩
theorem Leaf.loopV {P : Program} {nt n0 : Nat} {F : Fx → LS → Prop} (hmx : P.follows .mixedOrders = true) {c : Code} {k : List It} {s : LS} {α : Type} (m : Nat) (I : α → LS) (pre : α → Prop) (μ : α → Nat) (x0 : α) (R0 : List (Nat × Option Nat)) (hk : ∀ y ∈ k, y.plain)
    (h0 : pre x0) (hw : Wr n0 R0 s (I x0))
    (round : ∀ x, pre x → ∀ B : LS → Prop, (∀ x' R s', pre x' → μ x' < μ x → Wr n0 R s' (I x') → B s') → gx ⟨P, nt, n0, xo P, F⟩ (.code c :: .back (fun s => B (s.keep m)) :: k) (I x)) : Leaf ⟨P, nt, n0, xo P, F⟩ (.loop c) k s := by
  intro X hP hnt hn0 a w ⟨β, fz, r⟩
  subst hP; subst hnt; subst hn0
  refine wp_loop_ghost (fun n a w => ∃ x, pre x ∧ μ x = n ∧ Rel X (I x) a w) (μ x0) ⟨x0, h0, rfl, _, _, r.wr hw⟩ ?_
  rintro n a w ⟨x, hx, rfl, hr⟩
  have h1 := gx_sound hmx X rfl rfl rfl _ _ _ (Nat.le_refl _) (show Wf (.code c :: .back (fun s => (fun s' => ∃ x' R, pre x' ∧ μ x' < μ x ∧ Wr X.n0 R s' (I x')) (s.keep m)) :: k) from ⟨trivial, fun y hy => by
    rcases List.mem_cons.1 hy with rfl | hy
    · trivial
    · exact hk y hy⟩) (round x hx (fun s' => ∃ x' R, pre x' ∧ μ x' < μ x ∧ Wr X.n0 R s' (I x')) fun x' R s' a b c => ⟨x', R, a, b, c⟩) a w hr
  refine wp_mono (show c.wp X.P (sem X F (.back (fun s => (fun s' => ∃ x' R, pre x' ∧ μ x' < μ x ∧ Wr X.n0 R s' (I x')) (s.keep m)) :: k)) a w from h1) fun e a' w' hq => ?_
  cases e with
  | normal =>
    obtain ⟨s', ⟨x', R, p1, p2, p3⟩, β', fz', r'⟩ := hq
    exact ⟨_, p2, x', p1, rfl, _, _, (r'.wk (s'.keep_wk m)).wr p3⟩
  | exit id => exact hq
  | goto l => exact hq
  | ret => exact hq
  | panic ch => exact hq
  | outgrown => exact hq
end Go.Lm
