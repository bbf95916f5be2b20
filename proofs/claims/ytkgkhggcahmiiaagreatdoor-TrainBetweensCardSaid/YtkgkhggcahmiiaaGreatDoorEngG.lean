/- The logical machine (part 7 of 7): a reading of code as conditions, proved sound; no program in sight. -/
import Derived.Test.YtkgkhggcahmiiaaGreatDoorEngF
import Derived.RangeFuncNested
import Derived.RangeFuncLeaves
/- The logical machine: what is to be shown of a function, told step by step by computation. -/
set_option linter.constructorNameAsVariable false
namespace Go.Lm
open Go Go.RowKit
/-! ### words -/
def brn (p : Bool) (A B : Prop) : Prop := match p with
  | true => A
  | false => B
theorem brn_intro {p : Bool} {A B : Prop} (h1 : p = true → A) (h2 : p = false → B) : brn p A B := by
  cases p
  · exact h2 rfl
  · exact h1 rfl
theorem brn_elim {p : Bool} {A B : Prop} (h : brn p A B) : (p = true → A) ∧ (p = false → B) := by
  cases p
  · exact ⟨fun e => (by cases e), fun _ => h⟩
  · exact ⟨fun _ => h, fun e => by cases e⟩
theorem brn_must {p : Bool} {A : Prop} (h : p = true) (h1 : A) : brn p A False := by subst h; exact h1
/-- the shape of a cell -/
inductive Sc where
  | i (q : IntKind)
  | b
  | s
  | sl (sz : Nat)
  | any
def Sc.ex (c : Sc) (K : D → Prop) : Prop := match c with
  | .i q => ∃ n, K (.k q n)
  | .b => ∃ p, K (.b p)
  | .s => ∃ l, K (.s l)
  | .sl sz => ∃ rows, K (.sl sz rows)
  | .any => ∃ d, K d
def exL : List Sc → (List D → Prop) → Prop
  | [], K => K []
  | c :: l, K => c.ex fun d => exL l fun ds => K (d :: ds)
/-- the shape of a value: an aggregate; its cells -/
def exV (x : Bool × List Sc) (K : D → Prop) : Prop := match x with
  | (true, l) => exL l fun ds => K (.agg ds)
  | (false, [c]) => c.ex K
  | _ => ∃ d, K d
def exT : List (Bool × List Sc) → (List D → Prop) → Prop
  | [], K => K []
  | x :: l, K => exV x fun d => exT l fun ds => K (d :: ds)
def exR (x : List (Bool × List Sc)) (K : D → Prop) : Prop := match x with
  | [x] => exV x K
  | l => exT l fun ds => K (.tup ds)
theorem Sc.ex_out {c : Sc} {K : D → Prop} (h : c.ex K) : ∃ d, K d := by
  cases c <;> exact let ⟨_, h⟩ := h; ⟨_, h⟩
theorem exL_out : ∀ {l : List Sc} {K : List D → Prop}, exL l K → ∃ ds, ds.length = l.length ∧ K ds
  | [], _, h => ⟨[], rfl, h⟩
  | c :: l, K, h => by
    obtain ⟨d, h⟩ := Sc.ex_out (c := c) h
    obtain ⟨ds, hl, h⟩ := exL_out h
    exact ⟨_, by simp [hl], h⟩
theorem exV_out {x : Bool × List Sc} {K : D → Prop} (h : exV x K) : ∃ d, K d := by
  unfold exV at h
  split at h
  · obtain ⟨ds, _, h⟩ := exL_out h
    exact ⟨_, h⟩
  · exact Sc.ex_out h
  · exact h
theorem exT_out : ∀ {l : List (Bool × List Sc)} {K : List D → Prop}, exT l K → ∃ ds, K ds
  | [], _, h => ⟨[], h⟩
  | x :: l, K, h => by
    obtain ⟨d, h⟩ := exV_out (x := x) h
    obtain ⟨ds, h⟩ := exT_out h
    exact ⟨_, h⟩
theorem exR_out {x : List (Bool × List Sc)} {K : D → Prop} (h : exR x K) : ∃ d, K d := by
  unfold exR at h
  split at h
  · exact exV_out h
  · obtain ⟨ds, h⟩ := exT_out h
    exact ⟨_, h⟩
/-- the cells of a type's values -/
def scT (P : Program) : Nat → TypeId → List Sc
  | 0, _ => [.any]
  | n + 1, t => match P.underlying t with
    | some (.int q) => [.i q]
    | some .bool => [.b]
    | some .string => [.s]
    | some (.slice e) => match tsz P e with
      | some z => [.sl z]
      | none => [.any]
    | some (.struct fs) => fs.toList.flatMap fun f => scT P n f.type
    | some (.array k e) => (List.replicate k (scT P n e)).flatten
    | _ => [.any]
def shV (P : Program) (t : TypeId) : Bool × List Sc := match shp P t with
  | some (some _) => (true, scT P 10 t)
  | _ => (false, scT P 10 t)
def resSh (P : Program) (f : Func) : List (Bool × List Sc) := f.resultTypes.toList.map (shV P)
/-! ### what is looked at -/
def opU : Operand → Nat → Nat → Nat
  | .tmp t, d, u => match Nat.testBit d t with
    | true => u
    | false => u ||| 1 <<< t
  | _, _, u => u
def opsU : List Operand → Nat → Nat → Nat
  | [], _, u => u
  | x :: l, d, u => opsU l d (opU x d u)
def regU : List Oper → Nat → Nat → Nat × Nat
  | [], d, u => (d, u)
  | o :: l, d, u => regU l (match o.dst with | some t => d ||| 1 <<< t | none => d) (opsU o.op.operands.toList d u)
/-- the slots that code looks at, what it has set before left out -/
def useC : Code → Nat → Nat → Nat × Nat
  | .region _ ops _, d, u => regU ops.toList d u
  | .seq a b, d, u => useC b (useC a d u).1 (useC a d u).2
  | .cond c a b, d, u => (d, (useC b d (useC a d (opU c d u)).2).2)
  | .block _ c, d, u => (d, (useC c d u).2)
  | .loop c, d, u => (d, (useC c d u).2)
  | .scope c, d, u => (d, (useC c d u).2)
  | .rangeFunc g _ a b, d, u => (d, (useC b d (useC a d (opU g d u)).2).2)
  | _, d, u => (d, u)
def useK : List It → Nat → Nat
  | [], u => u
  | .code c :: k, u => useK k (useC c 0 u).2
  | _ :: k, u => useK k u
def resU : List ResultVar → Nat → Nat
  | [], u => u
  | .tmp t :: l, u => resU l (u ||| 1 <<< t)
  | .cell t _ :: l, u => resU l (u ||| 1 <<< t)
/-- a state of which only some slots are kept -/
def keepE (m : Nat) : List (Nat × V) → List (Nat × V)
  | [] => []
  | x :: l => match Nat.testBit m x.1 with
    | true => x :: keepE m l
    | false => keepE m l
def LS.keep (s : LS) (m : Nat) : LS := match Nat.testBit m 200 with
  | false => { s with env := keepE m (clE 0 s.env), heap := (s.blocks (hsE (keepE m (clE 0 s.env)) 0)).map fun x => (x.1, some x.2) }
  | true => { s with env := keepE m (clE 0 s.env), heap := clE 0 s.heap }
theorem keepE_lk {m : Nat} : ∀ {l : List (Nat × V)} {d : Nat} {v : V}, lk (keepE m l) d = some v → lk l d = some v
  | [], _, _, h => h
  | x :: l, d, v, h => by
    obtain ⟨a, y⟩ := x
    simp only [keepE] at h
    simp only [lk]
    split at h
    · simp only [lk] at h
      split
      · rename_i e; rw [if_pos e] at h; exact h
      · rename_i e; rw [if_neg e] at h; exact keepE_lk h
    · rename_i hm
      have h' := keepE_lk h
      split
      · rename_i e
        exfalso
        subst e
        have : ∀ (l : List (Nat × V)) (v : V), lk (keepE m l) d = some v → m.testBit d = true := by
          intro l
          induction l with
          | nil => intro v h; cases h
          | cons z l ih =>
            intro v h
            obtain ⟨b, w⟩ := z
            simp only [keepE] at h
            split at h
            · rename_i hb
              simp only [lk] at h
              split at h
              · rename_i e; rw [e]; exact hb
              · exact ih v h
            · exact ih v h
        rw [this _ _ h] at hm
        cases hm
      · exact h'
theorem LS.keep_wk (s : LS) (m : Nat) : Wk s (s.keep m) := by
  unfold LS.keep
  split
  · exact {
      env := fun d v h => (clE_lk s.env 0 d v (keepE_lk h)).2
      blk := fun h b e => by
        simp only [LS.blk] at e
        rw [lk_some_map] at e
        cases hq : lk (s.blocks (hsE (keepE m (clE 0 s.env)) 0)) h with
        | none => rw [hq] at e; cases e
        | some b' =>
          rw [hq] at e
          cases e
          exact LS.blocks_ok (lk_mem hq)
      free := fun h e => e
      dfs := rfl }
  · exact {
      env := fun d v h => (clE_lk s.env 0 d v (keepE_lk h)).2
      blk := fun h b e => by
        simp only [LS.blk, Option.join_eq_some_iff] at e ⊢
        exact (clE_lk s.heap 0 h (some b) e).2
      free := fun h e => e
      dfs := rfl }
def fid : Code → Nat
  | .region i _ _ => i
  | .seq a _ => fid a
  | .cond _ a _ => fid a
  | .block _ c => fid c
  | .loop c => fid c
  | .scope c => fid c
  | .rangeFunc _ _ a _ => fid a
  | _ => 0
/-- the loops of a text, with what stands behind each -/
def lpsC (Bs : Nat → LS → Prop) : Code → List It → List (Nat × Code × List It)
  | .seq a b, k => lpsC Bs a (.code b :: k) ++ lpsC Bs b k
  | .cond _ a b, k => lpsC Bs a k ++ lpsC Bs b k
  | .block i c, k => lpsC Bs c (.blk i :: k)
  | .scope c, k => lpsC Bs c k
  | .loop c, k => (fid c, c, k) :: lpsC Bs c (.back (Bs (fid c)) :: k)
  | _, _ => []
/-- the ranges over functions of a text -/
def rgsC (Bs : Nat → LS → Prop) : Code → List It → List (Nat × Code × List It)
  | .seq a b, k => rgsC Bs a (.code b :: k) ++ rgsC Bs b k
  | .cond _ a b, k => rgsC Bs a k ++ rgsC Bs b k
  | .block i c, k => rgsC Bs c (.blk i :: k)
  | .scope c, k => rgsC Bs c k
  | .loop c, k => rgsC Bs c (.back (Bs (fid c)) :: k)
  | .rangeFunc g ps a b, k => [(fid a, .rangeFunc g ps a b, k)]
  | _, _ => []
/-! ### the machine -/
abbrev Rx := List It → LS → Prop
/-- functions that hand back memory of their own, or work on the caller's: the blocks that they take, the new ones, what lies there then, the result -/
abbrev Hf := FuncId → List V → LS → Nat → Option (List Nat × List Nat × List (Nat × Blk) × V)
def noHf : Hf := fun _ _ _ _ => none
def blksK (s : LS) : List Nat → List (Nat × Blk)
  | [] => []
  | h :: l => match blkK s h with
    | some b => (h, b) :: blksK s l
    | none => blksK s l
section
variable (P : Program) (nt n0 : Nat) (F G : Fx → LS → Prop) (fn : Nat → Option Func) (U : List Nat) (pn : FuncId → Bool) (hf : Hf) (rs : Nat)
def vPut (rec : Rx) (all : Array Oper) (i : Nat) (o : Oper) (l : List Oper) (tr : List (Nat × List Nat × List Nat)) (draw : Bool) (k : List It) (s : LS) (c : Bool) (v : V) : Prop :=
  brn (dlt o.dst nt && (!s.taken.contains (s.fresh + i) && c)) (rec (.ops all (i + 1) l ((i, [], []) :: tr) draw :: k) ⟨putE o.dst v s.env, s.heap, s.fresh, s.taken, s.dfs⟩) False
def vOne (rec : Rx) (all : Array Oper) (i : Nat) (o : Oper) (l : List Oper) (tr : List (Nat × List Nat × List Nat)) (draw : Bool) (k : List It) (s : LS) (c : Bool) (e : Eff) : Prop :=
  brn (dlt o.dst nt && (!s.taken.contains (s.fresh + i) && c)) (rec (.ops all (i + 1) l ((i, rdh (some e), wrh (some e)) :: tr) draw :: k) (s.app o.dst e)) False
def vRet (rec : Rx) (all : Array Oper) (i : Nat) (o : Oper) (l : List Oper) (tr : List (Nat × List Nat × List Nat)) (draw : Bool) (k : List It) (s : LS) (r : D) : Prop :=
  brn (dlt o.dst nt) (rec (.ops all (i + 1) l ((i, [], []) :: tr) draw :: k) ⟨putE o.dst (.d r) s.env, s.heap, s.fresh, s.taken, s.dfs⟩) False
def vFn (rec : Rx) (all : Array Oper) (i : Nat) (o : Oper) (l : List Oper) (tr : List (Nat × List Nat × List Nat)) (draw : Bool) (k : List It) (s : LS) (g : FuncId) (ds : List D) : Option Func → Prop
  | some f => match f.body with
    | some _ => match pn g with
      | false => exR (resSh P f) fun r => LSpec P g ds (.ret r) ∧ vRet nt rec all i o l tr draw k s r
      | true => (exR (resSh P f) fun r => LSpec P g ds (.ret r) ∧ vRet nt rec all i o l tr draw k s r) ∨ (draw = false ∧ ∃ d, LSpec P g ds (.pan d) ∧ G (.pan d) s)
    | none => False
  | none => ∃ n, Direct P g ds (.k .i64 n) ∧ vRet nt rec all i o l tr draw k s (.k .i64 n)
def vCall (rec : Rx) (all : Array Oper) (i : Nat) (o : Oper) (l : List Oper) (tr : List (Nat × List Nat × List Nat)) (draw : Bool) (k : List It) (s : LS) (g : FuncId) (args vals : List V) : Option (List D) → Prop
  | some ds => vFn P nt G pn rec all i o l tr draw k s g ds (fn g)
  | none => XC ⟨P, nt, n0, xo P, F⟩ g args none vals all i o l tr draw k s
def vHand (rec : Rx) (all : Array Oper) (i : Nat) (o : Oper) (l : List Oper) (tr : List (Nat × List Nat × List Nat)) (draw : Bool) (k : List It) (s : LS) (g : FuncId) (args vals : List V) (hs news : List Nat) (out : List (Nat × Blk)) (r : V) : Prop :=
  (Enters P g ∧ SpecH P g args [] (blksK s hs) news out r) ∧
  brn (dlt o.dst nt && (news.all (Nat.ble (s.top all.size)) && out.all (fun x => news.contains x.1 || (blksK s hs).any (fun z => Nat.beq z.1 x.1))))
    (rec (.ops all (i + 1) l ((i, rdh (some ⟨vals, [], blksK s hs, news, out, r⟩), wrh (some ⟨vals, [], blksK s hs, news, out, r⟩)) :: tr) draw :: k) (s.app o.dst ⟨vals, [], blksK s hs, news, out, r⟩)) False
def vGo (rec : Rx) (all : Array Oper) (i : Nat) (o : Oper) (l : List Oper) (tr : List (Nat × List Nat × List Nat)) (draw : Bool) (k : List It) (s : LS) : KR → Prop
  | .v c _ v => vPut nt rec all i o l tr draw k s c v
  | .x r => match r with
    | .one c e => vOne nt rec all i o l tr draw k s c e
    | .call g args vals => match hf g args s (s.top all.size) with
      | some (hs, news, out, r) => vHand P nt rec all i o l tr draw k s g args vals hs news out r
      | none => vCall P nt n0 F G fn pn rec all i o l tr draw k s g args vals (V.toD.toDs args)
    | .pan d => match draw with
      | false => G (.pan d) s
      | true => False
    | .dfr x => match draw with
      | false => brn (dlt o.dst nt) (rec (.ops all (i + 1) l ((i, [], []) :: tr) draw :: k) { s with env := putE o.dst uV s.env, dfs := x :: s.dfs }) False
      | true => False
    | .none => False
def vPick (rec : Rx) (all : Array Oper) (i : Nat) (o : Oper) (l : List Oper) (tr : List (Nat × List Nat × List Nat)) (draw : Bool) (k : List It) (s : LS) : Option V → Option V → Option V → Prop
  | some (.d (.b p)), some (.d (.b a)), some (.d (.b b)) => vPut nt rec all i o l tr draw k s true (.d (.b (cond p a b)))
  | some (.d (.b p)), some x, some y => brn p (vPut nt rec all i o l tr draw k s true x) (vPut nt rec all i o l tr draw k s true y)
  | _, _, _ => False
def vLoadQ (rec : Rx) (all : Array Oper) (i : Nat) (o : Oper) (l : List Oper) (tr : List (Nat × List Nat × List Nat)) (draw : Bool) (k : List It) (s : LS) (t : TypeId) (rows : List (List D)) (a b : Nat) : Option (Option Nat) → Prop
  | some none => match scT P 10 t with
    | [c] => c.ex fun d => (rows[a]?.bind fun r => r[b]?) = some d ∧ vPut nt rec all i o l tr draw k s true (.d d)
    | _ => False
  | some (some m) => exL (scT P 10 t) fun ds => ((rows[a]?.map fun r => (r.drop b).take m) = some ds ∧ (Nat.beq ds.length m && Nat.blt 0 m) = true) ∧ vPut nt rec all i o l tr draw k s true (.d (.agg ds))
  | none => False
def vLoad (rec : Rx) (all : Array Oper) (i : Nat) (o : Oper) (l : List Oper) (tr : List (Nat × List Nat × List Nat)) (draw : Bool) (k : List It) (s : LS) (t : TypeId) : Option V → Prop
  | some (.q _ rows a b) => vLoadQ P nt rec all i o l tr draw k s t rows a b (shp P t)
  | _ => vGo P nt n0 F G fn pn hf rec all i o l tr draw k s (kRun P s (s.fresh + i) o)
def vOp (rec : Rx) (all : Array Oper) (i : Nat) (o : Oper) (l : List Oper) (tr : List (Nat × List Nat × List Nat)) (draw : Bool) (k : List It) (s : LS) : Prop := match o.op with
  | .pick c x y => vPick nt rec all i o l tr draw k s (evK s c) (evK s x) (evK s y)
  | .load t x => vLoad P nt n0 F G fn pn hf rec all i o l tr draw k s t (evK s x)
  | _ => vGo P nt n0 F G fn pn hf rec all i o l tr draw k s (kRun P s (s.fresh + i) o)
def vSkip (rec : Rx) (all : Array Oper) (i : Nat) (o : Oper) (l : List Oper) (tr : List (Nat × List Nat × List Nat)) (draw : Bool) (k : List It) (s : LS) : Prop :=
  brn (dlt o.dst nt) (rec (.ops all (i + 1) l ((i, [], []) :: tr) draw :: k) (s.skip o.dst)) False
def vGd (rec : Rx) (all : Array Oper) (i : Nat) (o : Oper) (l : List Oper) (tr : List (Nat × List Nat × List Nat)) (draw : Bool) (k : List It) (s : LS) : GR → Prop
  | .yes => vOp P nt n0 F G fn pn hf rec all i o l tr draw k s
  | .ask t p want => match want with
    | true => brn p (vOp P nt n0 F G fn pn hf rec all i o l tr draw k (s.setB t true)) (vSkip nt rec all i o l tr draw k (s.setB t false))
    | false => brn p (vSkip nt rec all i o l tr draw k (s.setB t true)) (vOp P nt n0 F G fn pn hf rec all i o l tr draw k (s.setB t false))
  | .no => vSkip nt rec all i o l tr draw k s
  | .bad => False
def vEnd (rec : Rx) (all : Array Oper) (tr : List (Nat × List Nat × List Nat)) (draw : Bool) (k : List It) (s : LS) : Prop := match draw with
  | false => rec k s.settle
  | true => match edgesB all && chkP all tr with
    | true => rec k s.settle
    | false => False
def vOps (rec : Rx) (all : Array Oper) (i : Nat) (tr : List (Nat × List Nat × List Nat)) (draw : Bool) (k : List It) (s : LS) : List Oper → Prop
  | [] => vEnd rec all tr draw k s
  | o :: l => match o.guard with
    | none => vOp P nt n0 F G fn pn hf rec all i o l tr draw k s
    | some _ => vGd P nt n0 F G fn pn hf rec all i o l tr draw k s (guardOf all s o)
def vCond (rec : Rx) (k : List It) (s : LS) (t : Nat) (a b : Code) : Option V → Prop
  | some (.d (.b p)) => brn p (rec (.code a :: k) (s.setB t true)) (rec (.code b :: k) (s.setB t false))
  | _ => False
def vCode (rec : Rx) (k : List It) (s : LS) : Code → Prop
  | .skip => rec k s
  | .label _ => rec k s
  | .seq a b => rec (.code a :: .code b :: k) s
  | .block id c => rec (.code c :: .blk id :: k) s
  | .scope c => rec (.code c :: k) s
  | .exit id => match popTo id k with
    | some k' => rec k' s
    | none => False
  | .ret => G .ret s
  | .cond (.tmp t) a b => vCond rec k s t a b (lkK s.env t)
  | .cond (.const (.bool true)) a _ => rec (.code a :: k) s
  | .cond (.const (.bool false)) _ b => rec (.code b :: k) s
  | .region _ ops draw => rec (.ops ops 0 ops.toList [] draw :: k) s
  | .loop c => match U.contains (fid c) with
    | true => rec (.code c :: .code (.loop c) :: k) s.clean
    | false => Leaf ⟨P, nt, n0, xo P, F⟩ (.loop c) k (s.keep (useK (.code (.loop c) :: k) rs))
  | .rangeFunc g ps a b => Leaf ⟨P, nt, n0, xo P, F⟩ (.rangeFunc g ps a b) k (s.keep (useK (.code (.rangeFunc g ps a b) :: k) rs))
  | _ => False
def stpV (rec : Rx) : List It → LS → Prop
  | [], s => G .ret s
  | .blk _ :: k, s => rec k s
  | .back B :: _, s => B s
  | .ops all i l tr draw :: k, s => vOps P nt n0 F G fn pn hf rec all i tr draw k s l
  | .op1 all i o l tr draw :: k, s => vOp P nt n0 F G fn pn hf rec all i o l tr draw k s
  | .code c :: k, s => vCode P nt n0 F G U rs rec k s c
def vx (n : Nat) : Rx := Nat.rec (motive := fun _ => Rx) (fun _ _ => False) (fun _ rec => stpV P nt n0 F G fn U pn hf rs rec) n
end
/-! ### it is enough -/
section
variable {P : Program} {nt n0 : Nat} {F G : Fx → LS → Prop} {fn : Nat → Option Func} {U : List Nat} {pn : FuncId → Bool} {hf : Hf} {rs : Nat}
def VxOk (P : Program) (nt n0 : Nat) (F : Fx → LS → Prop) (rec : Rx) : Prop := ∀ (k : List It) (s : LS), tailPlain k → rec k s → gx ⟨P, nt, n0, xo P, F⟩ k s
theorem Leaf.wk {P : Program} {nt n0 : Nat} {F : Fx → LS → Prop} {c : Code} {k : List It} {s s' : LS} (hw : Wk s s') (h : Leaf ⟨P, nt, n0, xo P, F⟩ c k s') : Leaf ⟨P, nt, n0, xo P, F⟩ c k s := by
  intro X hP hnt hn0 a w ⟨β, fz, r⟩
  exact h X hP hnt hn0 a w ⟨β, fz, r.wk hw⟩
theorem blksK_ok {s : LS} {x : Nat × Blk} : ∀ {l : List Nat}, x ∈ blksK s l → s.blk x.1 = some x.2
  | [], h => by cases h
  | k :: l, h => by
    simp only [blksK] at h
    split at h
    · rename_i b hb
      rcases List.mem_cons.1 h with rfl | h
      · rw [blkK_eq] at hb; exact hb
      · exact blksK_ok h
    · exact blksK_ok h
theorem put_ok {rec : Rx} (hr : VxOk P nt n0 F rec) {all : Array Oper} {i : Nat} {o : Oper} {l : List Oper} {tr : List (Nat × List Nat × List Nat)} {draw : Bool} {k : List It} {s : LS} {c c' : Bool} {vals : List V} {v : V} (hk : ∀ y ∈ k, y.plain)
    (hx : xoRun P s (s.fresh + i) o = .one c' (pu vals v)) (hc : c = true → c' = true) (h : vPut nt rec all i o l tr draw k s c v) : gx ⟨P, nt, n0, xo P, F⟩ (.op1 all i o l tr draw :: k) s := by
  rw [gx_op1]
  show stepX _ _ _ _ _ _ _ _ _ (xoRun P s (s.fresh + i) o)
  rw [hx]
  have h' := brn_elim h
  cases hb : (dlt o.dst nt && (!s.taken.contains (s.fresh + i) && c)) with
  | false => exact (h'.2 hb).elim
  | true =>
    simp only [Bool.and_eq_true, Bool.not_eq_true', List.contains_eq_mem, decide_eq_false_iff_not] at hb
    exact ⟨⟨hb.1, hb.2.1, hc hb.2.2⟩, hr _ _ (plain_cons hk) (h'.1 (by simp [hb]))⟩
theorem one_ok {rec : Rx} (hr : VxOk P nt n0 F rec) {all : Array Oper} {i : Nat} {o : Oper} {l : List Oper} {tr : List (Nat × List Nat × List Nat)} {draw : Bool} {k : List It} {s : LS} {c : Bool} {e : Eff} (hk : ∀ y ∈ k, y.plain)
    (hx : xoRun P s (s.fresh + i) o = .one c e) (h : vOne nt rec all i o l tr draw k s c e) : gx ⟨P, nt, n0, xo P, F⟩ (.op1 all i o l tr draw :: k) s := by
  rw [gx_op1]
  show stepX _ _ _ _ _ _ _ _ _ (xoRun P s (s.fresh + i) o)
  rw [hx]
  have h' := brn_elim h
  cases hb : (dlt o.dst nt && (!s.taken.contains (s.fresh + i) && c)) with
  | false => exact (h'.2 hb).elim
  | true =>
    simp only [Bool.and_eq_true, Bool.not_eq_true', List.contains_eq_mem, decide_eq_false_iff_not] at hb
    exact ⟨⟨hb.1, hb.2.1, hb.2.2⟩, hr _ _ (plain_cons hk) (h'.1 (by simp [hb]))⟩
theorem ret_ok {rec : Rx} (hr : VxOk P nt n0 F rec) {all : Array Oper} {i : Nat} {o : Oper} {l : List Oper} {tr : List (Nat × List Nat × List Nat)} {draw : Bool} {k : List It} {s : LS} {r : D} (hk : ∀ y ∈ k, y.plain)
    (h : vRet nt rec all i o l tr draw k s r) : dlt o.dst nt = true ∧ gx ⟨P, nt, n0, xo P, F⟩ (.ops all (i + 1) l ((i, [], []) :: tr) draw :: k) ⟨putE o.dst (.d r) s.env, s.heap, s.fresh, s.taken, s.dfs⟩ := by
  have h' := brn_elim h
  cases hb : dlt o.dst nt with
  | false => exact (h'.2 hb).elim
  | true => exact ⟨rfl, hr _ _ (plain_cons hk) (h'.1 hb)⟩
theorem vFn_ok (hG : ∀ fx s, G fx s → F fx s) {rec : Rx} (hr : VxOk P nt n0 F rec) {all : Array Oper} {i : Nat} {o : Oper} {l : List Oper} {tr : List (Nat × List Nat × List Nat)} {draw : Bool} {k : List It} {s : LS} {g : FuncId} {args vals : List V} {ds : List D} (hk : ∀ y ∈ k, y.plain) :
    ∀ f, vFn P nt G pn rec all i o l tr draw k s g ds f → XC ⟨P, nt, n0, xo P, F⟩ g args (some ds) vals all i o l tr draw k s
  | none, h => by
    obtain ⟨n, h1, h2⟩ := h
    obtain ⟨h3, h4⟩ := ret_ok hr hk h2
    exact XC.ext h1 h3 h4
  | some f, h => by
    simp only [vFn] at h
    have one : (∃ r, LSpec P g ds (.ret r) ∧ vRet nt rec all i o l tr draw k s r) → XC ⟨P, nt, n0, xo P, F⟩ g args (some ds) vals all i o l tr draw k s := fun ⟨r, h1, h2⟩ => by
      obtain ⟨h3, h4⟩ := ret_ok hr hk h2
      exact XC.p h1 h3 h4
    split at h
    · split at h
      · exact one (exR_out h)
      · rcases h with h | ⟨rfl, d, h1, h2⟩
        · exact one (exR_out h)
        · exact XC.pan h1 (hG _ _ h2)
    · exact h.elim
theorem vGo_ok (hG : ∀ fx s, G fx s → F fx s) {rec : Rx} (hr : VxOk P nt n0 F rec) {all : Array Oper} {i : Nat} {o : Oper} {l : List Oper} {tr : List (Nat × List Nat × List Nat)} {draw : Bool} {k : List It} {s : LS} {r : KR} (hk : ∀ y ∈ k, y.plain)
    (hx : r.xr = xoRun P s (s.fresh + i) o) (h : vGo P nt n0 F G fn pn hf rec all i o l tr draw k s r) : gx ⟨P, nt, n0, xo P, F⟩ (.op1 all i o l tr draw :: k) s := by
  cases r with
  | v c vals v => exact put_ok hr hk hx.symm id h
  | x r =>
    have hx : xoRun P s (s.fresh + i) o = r := hx.symm
    simp only [vGo] at h
    cases r with
    | one c e => exact one_ok hr hk hx h
    | call g args vals =>
      rw [gx_op1]
      show stepX _ _ _ _ _ _ _ _ _ (xoRun P s (s.fresh + i) o)
      rw [hx]
      show XC _ _ _ _ _ _ _ _ _ _ _ _ _
      simp only at h
      split at h
      · rename_i hs news out rv _
        obtain ⟨⟨h1, h2⟩, h3⟩ := h
        have h' := brn_elim h3
        cases hb : (dlt o.dst nt && (news.all (Nat.ble (s.top all.size)) && out.all (fun x => news.contains x.1 || (blksK s hs).any (fun z => Nat.beq z.1 x.1)))) with
        | false => exact (h'.2 hb).elim
        | true =>
          simp only [Bool.and_eq_true, List.all_eq_true, Bool.or_eq_true, List.any_eq_true] at hb
          refine XC.gen [] _ _ _ _ h1 h2 (fun x hx => by cases hx) (fun x hx => blksK_ok hx) (fun x hx => top_free (Nat.le_of_ble_eq_true (hb.2.1 x hx))) (fun x hx => ?_) hb.1 (hr _ _ (plain_cons hk) (h'.1 (by simp only [Bool.and_eq_true, List.all_eq_true, Bool.or_eq_true, List.any_eq_true]; exact hb)))
          rcases hb.2.2 x hx with q | ⟨z, hz, q⟩
          · exact .inl (by simpa using q)
          · exact .inr ⟨z, hz, Nat.eq_of_beq_eq_true q⟩
      · generalize V.toD.toDs args = ds at h ⊢
        cases ds with
        | some ds => exact vFn_ok hG hr hk _ h
        | none => exact h
    | pan d =>
      simp only at h
      split at h
      · rw [gx_op1]
        show stepX _ _ _ _ _ _ _ _ _ (xoRun P s (s.fresh + i) o)
        rw [hx]
        exact ⟨rfl, hG _ _ h⟩
      · exact h.elim
    | dfr x =>
      simp only at h
      split at h
      · rw [gx_op1]
        show stepX _ _ _ _ _ _ _ _ _ (xoRun P s (s.fresh + i) o)
        rw [hx]
        have h' := brn_elim h
        cases hb : dlt o.dst nt with
        | false => exact (h'.2 hb).elim
        | true => exact ⟨rfl, hb, hr _ _ (plain_cons hk) (h'.1 hb)⟩
      · exact h.elim
    | none => exact h.elim
theorem vOp_ok (hG : ∀ fx s, G fx s → F fx s) {rec : Rx} (hr : VxOk P nt n0 F rec) {all : Array Oper} {i : Nat} {o : Oper} {l : List Oper} {tr : List (Nat × List Nat × List Nat)} {draw : Bool} {k : List It} {s : LS} (hk : ∀ y ∈ k, y.plain)
    (h : vOp P nt n0 F G fn pn hf rec all i o l tr draw k s) : gx ⟨P, nt, n0, xo P, F⟩ (.op1 all i o l tr draw :: k) s := by
  have gen : vGo P nt n0 F G fn pn hf rec all i o l tr draw k s (kRun P s (s.fresh + i) o) → gx ⟨P, nt, n0, xo P, F⟩ (.op1 all i o l tr draw :: k) s := vGo_ok hG hr hk (kRun_eq P s (s.fresh + i) o)
  unfold vOp at h
  split at h
  · rename_i c x y ho
    rw [evK_eq, evK_eq, evK_eq] at h
    unfold vPick at h
    split at h
    · rename_i p a b h1 h2 h3
      refine put_ok hr hk (c' := true) (vals := [.d (.b p), .d (.b a), .d (.b b)]) ?_ id h
      unfold xoRun
      rw [ho]
      simp only [h1, h2, h3]
      cases p <;> rfl
    · rename_i p vx vy h1 h2 h3 h4
      have hx : xoRun P s (s.fresh + i) o = .one true (pu [.d (.b p), vx, vy] (pk p vx vy)) := by
        unfold xoRun
        rw [ho]
        simp only [h2, h3, h4]
      have h' := brn_elim h
      cases p with
      | true => exact put_ok hr hk hx id (h'.1 rfl)
      | false => exact put_ok hr hk hx id (h'.2 rfl)
    · exact h.elim
  · rename_i t x ho
    rw [evK_eq] at h
    unfold vLoad at h
    split at h
    · rename_i sz rows a b hx
      unfold vLoadQ at h
      split at h
      · rename_i hs
        split at h
        · obtain ⟨d, h1, h2⟩ := Sc.ex_out h
          refine put_ok hr hk (c' := decide (a < rows.length ∧ b < (rows.getD a []).length)) (vals := [.q sz rows a b]) (v := .d d) ?_ (fun _ => ?_) h2
          · unfold xoRun
            rw [ho]
            simp only [hx, xoLoad, hs]
            simp only [Option.bind_eq_some_iff] at h1
            obtain ⟨r, h3, h4⟩ := h1
            simp [List.getD_eq_getElem?_getD, h3, h4]
          · simp only [Option.bind_eq_some_iff] at h1
            obtain ⟨r, h3, h4⟩ := h1
            have := (List.getElem?_eq_some_iff.1 h3).1
            have h5 := (List.getElem?_eq_some_iff.1 h4).1
            rw [List.getD_eq_getElem?_getD, h3]; exact decide_eq_true ⟨this, h5⟩
        · exact h.elim
      · rename_i m hs
        obtain ⟨ds, _, ⟨h1, h3⟩, h2⟩ := exL_out h
        simp only [Bool.and_eq_true, Nat.blt_eq] at h3
        obtain ⟨h3, hpos⟩ := h3
        have h3 := Nat.eq_of_beq_eq_true h3
        simp only [Option.map_eq_some_iff] at h1
        obtain ⟨r, h4, h5⟩ := h1
        refine put_ok hr hk (c' := decide (a < rows.length ∧ b + m ≤ (rows.getD a []).length)) (vals := [.q sz rows a b]) (v := .d (.agg ds)) ?_ (fun _ => ?_) h2
        · unfold xoRun
          rw [ho]
          simp only [hx, xoLoad, hs]
          simp [List.getD_eq_getElem?_getD, h4, h5]
        · have := (List.getElem?_eq_some_iff.1 h4).1
          have h6 : b + m ≤ r.length := by
            subst h5
            simp at h3
            omega
          rw [List.getD_eq_getElem?_getD, h4]
          exact decide_eq_true ⟨this, h6⟩
      · exact h.elim
    · exact gen h
  · exact gen h
theorem vSkip_ok {rec : Rx} (hr : VxOk P nt n0 F rec) {all : Array Oper} {i : Nat} {o : Oper} {l : List Oper} {tr : List (Nat × List Nat × List Nat)} {draw : Bool} {k : List It} {s : LS} (hk : ∀ y ∈ k, y.plain)
    (h : vSkip nt rec all i o l tr draw k s) : dlt o.dst nt = true ∧ gx ⟨P, nt, n0, xo P, F⟩ (.ops all (i + 1) l ((i, [], []) :: tr) draw :: k) (s.skip o.dst) := by
  have h' := brn_elim h
  cases hb : dlt o.dst nt with
  | false => exact (h'.2 hb).elim
  | true => exact ⟨rfl, hr _ _ (plain_cons hk) (h'.1 hb)⟩
theorem stpV_ok (hmx : P.follows .mixedOrders = true) (hG : ∀ fx s, G fx s → F fx s) {rec : Rx} (hr : VxOk P nt n0 F rec) : VxOk P nt n0 F (stpV P nt n0 F G fn U pn hf rs rec) := by
  intro k s hk h
  cases k with
  | nil => rw [gx_nil]; exact hG _ _ h
  | cons x k =>
    have hk : ∀ y ∈ k, y.plain := hk
    cases x with
    | blk id => rw [gx_blk]; exact hr _ _ (plain_tail hk) h
    | back B => rw [gx_back]; exact h
    | op1 all i o l tr draw => exact vOp_ok hG hr hk h
    | ops all i l tr draw =>
      cases l with
      | nil =>
        rw [gx_end]
        simp only [stpV, vOps, vEnd] at h
        split at h
        · exact hr _ _ (plain_tail hk) h
        · split at h
          · rename_i hc
            exact ⟨hc, hr _ _ (plain_tail hk) h⟩
          · exact h.elim
      | cons o l =>
        rw [gx_ops]
        simp only [stpV, vOps] at h
        split at h
        · rename_i hg
          have : guardOf all s o = .yes := by unfold guardOf; rw [hg]
          rw [this]
          exact vOp_ok hG hr hk h
        · generalize hg : guardOf all s o = gr at h
          cases gr with
          | yes => exact vOp_ok hG hr hk h
          | no => exact vSkip_ok hr hk h
          | bad => exact h.elim
          | ask t p want =>
            cases want with
            | true =>
              have h' := brn_elim h
              refine ⟨fun e => vOp_ok hG hr hk (h'.1 e), fun e => vSkip_ok hr hk (h'.2 e)⟩
            | false =>
              have h' := brn_elim h
              refine ⟨fun e => vOp_ok hG hr hk (h'.2 e), fun e => vSkip_ok hr hk (h'.1 e)⟩
    | code c =>
      simp only [stpV] at h
      cases c with
      | skip => rw [gx_skip]; exact hr _ _ (plain_tail hk) h
      | label l => rw [gx_label]; exact hr _ _ (plain_tail hk) h
      | seq a b => rw [gx_seq]; exact hr _ _ (plain_cons fun y hy => by rcases List.mem_cons.1 hy with rfl | hy; trivial; exact hk y hy) h
      | block id c => rw [gx_block]; exact hr _ _ (plain_cons fun y hy => by rcases List.mem_cons.1 hy with rfl | hy; trivial; exact hk y hy) h
      | scope c => rw [gx_scope]; exact hr _ _ (plain_cons hk) h
      | exit id =>
        rw [gx_exit]
        simp only [vCode] at h
        split at h
        · rename_i k' hp
          rw [hp]
          exact hr _ _ (plain_tail (popTo_plain hp hk)) h
        · exact h.elim
      | ret => rw [gx_ret]; exact hG _ _ h
      | cond x a b =>
        cases x with
        | tmp t =>
          simp only [vCode, lkK_eq] at h
          rw [gx_cond]
          generalize lk s.env t = v at h ⊢
          unfold vCond at h
          split at h
          · have h' := brn_elim h
            exact ⟨fun e => hr _ _ (plain_cons hk) (h'.1 e), fun e => hr _ _ (plain_cons hk) (h'.2 e)⟩
          · exact h.elim
        | const v =>
          cases v with
          | bool p =>
            rw [gx]
            cases p
            · exact ⟨fun e => by (cases e), fun _ => hr _ _ (plain_cons hk) h⟩
            · exact ⟨fun _ => hr _ _ (plain_cons hk) h, fun e => by (cases e)⟩
          | _ => exact h.elim
        | _ => exact h.elim
      | region id ops draw => rw [gx_region]; exact hr _ _ (plain_cons hk) h
      | loop c =>
        rw [gx_loop]
        simp only [vCode] at h
        split at h
        · exact loop_unroll hmx s.clean_wk hk (hr _ _ (plain_cons fun y hy => by rcases List.mem_cons.1 hy with rfl | hy; trivial; exact hk y hy) h)
        · exact Leaf.wk (s.keep_wk _) h
      | rangeFunc g ps a b =>
        rw [gx]
        · exact Leaf.wk (s.keep_wk _) h
        all_goals (intros; contradiction)
      | _ => exact h.elim
theorem vx_ok (hmx : P.follows .mixedOrders = true) (hG : ∀ fx s, G fx s → F fx s) : ∀ n, VxOk P nt n0 F (vx P nt n0 F G fn U pn hf rs n)
  | 0 => fun _ _ _ h => h.elim
  | n + 1 => stpV_ok hmx hG (vx_ok hmx hG n)
end
/-- a loop of a function by its number, with what stands behind it -/
def lpAt (f : Func) (Bs : Nat → LS → Prop) (id : Nat) : Code × List It := match f.body with
  | some c => go id (lpsC Bs c [])
  | none => (.skip, [])
where go (id : Nat) : List (Nat × Code × List It) → Code × List It
  | [] => (.skip, [])
  | x :: l => match Nat.beq x.1 id with
    | true => x.2
    | false => go id l
theorem lps_plain (Bs : Nat → LS → Prop) : ∀ (c : Code) (k : List It), (∀ y ∈ k, y.plain) → ∀ x ∈ lpsC Bs c k, ∀ y ∈ x.2.2, y.plain
  | .seq a b, k, h, x, hx => by
    simp only [lpsC, List.mem_append] at hx
    rcases hx with hx | hx
    · exact lps_plain Bs a _ (fun y hy => by rcases List.mem_cons.1 hy with rfl | hy; trivial; exact h y hy) x hx
    · exact lps_plain Bs b k h x hx
  | .cond _ a b, k, h, x, hx => by
    simp only [lpsC, List.mem_append] at hx
    rcases hx with hx | hx
    · exact lps_plain Bs a k h x hx
    · exact lps_plain Bs b k h x hx
  | .block i c, k, h, x, hx => lps_plain Bs c _ (fun y hy => by rcases List.mem_cons.1 hy with rfl | hy; trivial; exact h y hy) x hx
  | .scope c, k, h, x, hx => lps_plain Bs c k h x hx
  | .loop c, k, h, x, hx => by
    simp only [lpsC, List.mem_cons] at hx
    rcases hx with rfl | hx
    · exact h
    · exact lps_plain Bs c _ (fun y hy => by rcases List.mem_cons.1 hy with rfl | hy; trivial; exact h y hy) x hx
  | .skip, _, _, _, hx | .label _, _, _, _, hx | .exit _, _, _, _, hx | .ret, _, _, _, hx | .region _ _ _, _, _, _, hx | .goto _, _, _, _, hx | .rangeFunc _ _ _ _, _, _, _, hx => by simp [lpsC] at hx
theorem lpAt_plain (f : Func) (Bs : Nat → LS → Prop) (id : Nat) : ∀ y ∈ (lpAt f Bs id).2, y.plain := by
  unfold lpAt
  split
  · rename_i c _
    have key : ∀ l : List (Nat × Code × List It), (∀ x ∈ l, ∀ y ∈ x.2.2, y.plain) → ∀ y ∈ (lpAt.go id l).2, y.plain := by
      intro l
      induction l with
      | nil => intro _ y hy; cases hy
      | cons x l ih =>
        intro h
        simp only [lpAt.go]
        split
        · exact h x List.mem_cons_self
        · exact ih fun z hz => h z (List.mem_cons_of_mem _ hz)
    exact key _ (lps_plain Bs c [] (fun y hy => by cases hy))
  · intro y hy; cases hy
/-- a range over a function by its number, with what stands behind it -/
def rgAt (f : Func) (Bs : Nat → LS → Prop) (id : Nat) : Code × List It := match f.body with
  | some c => lpAt.go id (rgsC Bs c [])
  | none => (.skip, [])
theorem rgs_plain (Bs : Nat → LS → Prop) : ∀ (c : Code) (k : List It), (∀ y ∈ k, y.plain) → ∀ x ∈ rgsC Bs c k, ∀ y ∈ x.2.2, y.plain
  | .seq a b, k, h, x, hx => by
    simp only [rgsC, List.mem_append] at hx
    rcases hx with hx | hx
    · exact rgs_plain Bs a _ (fun y hy => by rcases List.mem_cons.1 hy with rfl | hy; trivial; exact h y hy) x hx
    · exact rgs_plain Bs b k h x hx
  | .cond _ a b, k, h, x, hx => by
    simp only [rgsC, List.mem_append] at hx
    rcases hx with hx | hx
    · exact rgs_plain Bs a k h x hx
    · exact rgs_plain Bs b k h x hx
  | .block i c, k, h, x, hx => rgs_plain Bs c _ (fun y hy => by rcases List.mem_cons.1 hy with rfl | hy; trivial; exact h y hy) x hx
  | .scope c, k, h, x, hx => rgs_plain Bs c k h x hx
  | .loop c, k, h, x, hx => rgs_plain Bs c _ (fun y hy => by rcases List.mem_cons.1 hy with rfl | hy; trivial; exact h y hy) x hx
  | .rangeFunc _ _ _ _, k, h, x, hx => by
    simp only [rgsC, List.mem_singleton] at hx
    subst hx
    exact h
  | .skip, _, _, _, hx | .label _, _, _, _, hx | .exit _, _, _, _, hx | .ret, _, _, _, hx | .region _ _ _, _, _, _, hx | .goto _, _, _, _, hx => by simp [rgsC] at hx
theorem rgAt_plain (f : Func) (Bs : Nat → LS → Prop) (id : Nat) : ∀ y ∈ (rgAt f Bs id).2, y.plain := by
  unfold rgAt
  split
  · rename_i c _
    have key : ∀ l : List (Nat × Code × List It), (∀ x ∈ l, ∀ y ∈ x.2.2, y.plain) → ∀ y ∈ (lpAt.go id l).2, y.plain := by
      intro l
      induction l with
      | nil => intro _ y hy; cases hy
      | cons x l ih =>
        intro h
        simp only [lpAt.go]
        split
        · exact h x List.mem_cons_self
        · exact ih fun z hz => h z (List.mem_cons_of_mem _ hz)
    exact key _ (rgs_plain Bs c [] (fun y hy => by cases hy))
  · intro y hy; cases hy
/-- the parts of a range over a function -/
def rgA : Code → Code
  | .rangeFunc _ _ a _ => a
  | _ => .skip
def rgB : Code → Code
  | .rangeFunc _ _ _ b => b
  | _ => .skip
def RangeAt (P : Program) (f : Func) (F : Fx → LS → Prop) (Bs : Nat → LS → Prop) (id : Nat) (s : LS) : Prop := Leaf ⟨P, f.ntmps, 0, xo P, F⟩ (rgAt f Bs id).1 (rgAt f Bs id).2 s
def LeafAt (P : Program) (f : Func) (F : Fx → LS → Prop) (Bs : Nat → LS → Prop) (id : Nat) (s : LS) : Prop := Leaf ⟨P, f.ntmps, 0, xo P, F⟩ (.loop (lpAt f Bs id).1) (lpAt f Bs id).2 s
/-! ### a function -/
/-- what a function that puts off no call hands back -/
def retG (P : Program) (rvs : List ResultVar) (o : LO) (fx : Fx) (s : LS) : Prop := match fx, o, s.dfs with
  | .ret, .ret d, [] => match resL P s rvs with
    | some vs => match (pack vs).toDh s with
      | some d' => d' = d
      | none => False
    | none => False
  | .pan x, .pan d, [] => x = d
  | _, _, _ => False
theorem retG_ok {P : Program} {rvs : List ResultVar} {o : LO} {fx : Fx} {s : LS} (h : retG P rvs o fx s) : RetD P rvs o fx s := by
  unfold retG at h
  split at h
  · rename_i d hd
    split at h
    · rename_i vs hv
      split at h
      · rename_i d' ht
        exact ⟨hd, vs, hv, by rw [ht, h]⟩
      · exact h.elim
    · exact h.elim
  · rename_i hd
    exact ⟨hd, h⟩
  · exact h.elim
theorem LSpec.vx {P : Program} {f : FuncId} {fu : Func} {c : Code} {args : List D} {o : LO} (hmx : P.follows .mixedOrders = true) {fn : Nat → Option Func} (hfn : ∀ g f, fn g = some f → P.funcs[g]? = some f ∧ Enters P g) (hfu : fn f = some fu) (hb : fu.body = some c) (hn : Nat.ble args.length fu.ntmps = true) (U : List Nat) (pn : FuncId → Bool) (hf : Hf) (n : Nat)
    (h : ∀ F : Fx → LS → Prop, (∀ fx s, RetD P fu.results.toList o fx s → F fx s) → Go.Lm.vx P fu.ntmps 0 F (retG P fu.results.toList o) fn U pn hf (resU fu.results.toList 0) n [.code c] ⟨envD 0 args, [], 0, [], []⟩) : LSpec P f args o :=
  ⟨(hfn _ _ hfu).2, SpecP.of_gx hmx (hfn _ _ hfu).1 hb (Nat.le_of_ble_eq_true hn) fun F hF => vx_ok hmx (fun fx s hg => hF fx s (retG_ok hg)) n _ _ (fun y hy => by cases hy) (h F hF)⟩
/-! ### a loop -/
/-- a state as another one knows it: as an equation a slot -/
def WrE (n0 : Nat) (R : List (Nat × Option Nat)) (s : LS) : List (Nat × V) → Prop
  | [] => True
  | (t, v) :: l => (match lkK s.env t with
    | some u => Vw n0 R u v
    | none => False) ∧ WrE n0 R s l
def WrH (n0 : Nat) (R : List (Nat × Option Nat)) (s : LS) : List (Nat × Option Blk) → Prop
  | [] => True
  | (h, b) :: l => Hw n0 R s h b ∧ WrH n0 R s l
theorem WrE_ok {n0 : Nat} {R : List (Nat × Option Nat)} {s : LS} : ∀ {l : List (Nat × V)}, WrE n0 R s l → ∀ x ∈ l, ∃ v, lk s.env x.1 = some v ∧ Vw n0 R v x.2
  | [], _, x, hx => by cases hx
  | (t, v) :: l, ⟨h, hl⟩, x, hx => by
    rcases List.mem_cons.1 hx with rfl | hx
    · rw [lkK_eq] at h
      simp only
      cases hq : lk s.env t with
      | none => rw [hq] at h; exact h.elim
      | some u => rw [hq] at h; exact ⟨u, rfl, h⟩
    · exact WrE_ok hl x hx
theorem WrH_ok {n0 : Nat} {R : List (Nat × Option Nat)} {s : LS} : ∀ {l : List (Nat × Option Blk)}, WrH n0 R s l → ∀ x ∈ l, Hw n0 R s x.1 x.2
  | [], _, x, hx => by cases hx
  | (t, v) :: l, ⟨h, hl⟩, x, hx => by
    rcases List.mem_cons.1 hx with rfl | hx
    · exact h
    · exact WrH_ok hl x hx
/-- the names of blocks: no two for one; new ones -/
def RB (n0 fr : Nat) : List (Nat × Option Nat) → Bool
  | [] => true
  | (h, k) :: l => Nat.blt h fr && (match k with
    | some k => Nat.ble n0 k && l.all (fun y => match y.2 with | some j => !Nat.beq j k | none => true)
    | none => true) && RB n0 fr l
theorem RB_ok {n0 fr : Nat} : ∀ {l : List (Nat × Option Nat)}, RB n0 fr l = true → l.Pairwise (fun x y => ∀ k, x.2 = some k → y.2 = some k → False) ∧ ∀ x ∈ l, x.1 < fr ∧ ∀ k, x.2 = some k → n0 ≤ k
  | [], _ => ⟨.nil, fun x hx => by cases hx⟩
  | (h, k) :: l, hb => by
    simp only [RB, Bool.and_eq_true] at hb
    obtain ⟨⟨h1, h2⟩, h3⟩ := hb
    obtain ⟨i1, i2⟩ := RB_ok h3
    refine ⟨.cons (fun y hy j e1 e2 => ?_) i1, fun x hx => ?_⟩
    · subst e1
      simp only [Bool.and_eq_true, List.all_eq_true] at h2
      have := h2.2 y hy
      rw [e2] at this
      simp at this
    · rcases List.mem_cons.1 hx with rfl | hx
      · refine ⟨by rw [Nat.blt_eq] at h1; exact h1, fun j e => ?_⟩
        subst e
        simp only [Bool.and_eq_true] at h2
        exact Nat.le_of_ble_eq_true h2.1
      · exact i2 x hx
theorem Wr.of {n0 : Nat} {R : List (Nat × Option Nat)} {s s' : LS} (hR : RB n0 s'.fresh R = true) (hf : Nat.ble n0 s'.fresh = true) (hd : s.dfs = []) (hd' : s'.dfs = []) (he : WrE n0 R s s'.env) (hh : WrH n0 R s s'.heap) : Wr n0 R s s' :=
  ⟨WrE_ok he, WrH_ok hh, (RB_ok hR).1, (RB_ok hR).2, Nat.le_of_ble_eq_true hf, .inl hd, .inl (hd'.trans hd.symm)⟩
theorem Leaf.loopV {P : Program} {nt n0 : Nat} {F : Fx → LS → Prop} (hmx : P.follows .mixedOrders = true) {c : Code} {k : List It} {s : LS} {α : Type} (m : Nat) (I : α → LS) (pre : α → Prop) (μ : α → Nat) (x0 : α) (R0 : List (Nat × Option Nat)) (hk : ∀ y ∈ k, y.plain)
    (h0 : pre x0) (hw : Wr n0 R0 s (I x0))
    (round : ∀ x, pre x → ∀ B : LS → Prop, (∀ x' R s', pre x' → μ x' < μ x → Wr n0 R s' (I x') → B s') → gx ⟨P, nt, n0, xo P, F⟩ (.code c :: .back (fun s => B (s.keep m)) :: k) (I x)) : Leaf ⟨P, nt, n0, xo P, F⟩ (.loop c) k s := by
  intro X hP hnt hn0 a w ⟨β, fz, r⟩
  subst hP; subst hnt; subst hn0
  refine wp_loop_ghost (fun n a w => ∃ x, pre x ∧ μ x = n ∧ Rel X (I x) a w) (μ x0) ⟨x0, h0, rfl, _, _, r.wr hw⟩ ?_
  rintro n a w ⟨x, hx, rfl, hr⟩
  have h1 := gx_sound hmx X rfl rfl rfl _ _ _ (Nat.le_refl _) (show Wf (.code c :: .back (fun s => (fun s' => ∃ x' R, pre x' ∧ μ x' < μ x ∧ Wr X.n0 R s' (I x')) (s.keep m)) :: k) from ⟨trivial, fun y hy => by
    rcases List.mem_cons.1 hy with rfl | hy
    · trivial
    · exact hk y hy⟩) (round x hx (fun s' => ∃ x' R, pre x' ∧ μ x' < μ x ∧ Wr X.n0 R s' (I x')) fun x' R s' a b c => ⟨x', R, a, b, c⟩) a w hr
  refine wp_mono (show c.wp X.P (sem X F (.back (fun s => (fun s' => ∃ x' R, pre x' ∧ μ x' < μ x ∧ Wr X.n0 R s' (I x')) (s.keep m)) :: k)) a w from h1) fun e a' w' hq => ?_
  cases e with
  | normal =>
    obtain ⟨s', ⟨x', R, p1, p2, p3⟩, β', fz', r'⟩ := hq
    exact ⟨_, p2, x', p1, rfl, _, _, (r'.wk (s'.keep_wk m)).wr p3⟩
  | exit id => exact hq
  | goto l => exact hq
  | ret => exact hq
  | panic ch => exact hq
  | outgrown => exact hq
end Go.Lm
/- The logical machine: functions that hold a range over a function. -/
set_option linter.constructorNameAsVariable false
namespace Go.Lm
open Go Go.RowKit
theorem cellOther {w : World} {D b o : Nat} {ob : Obj} (h : b ≠ D) : (w.putObj D ob).cell? ⟨b, o, none⟩ = w.cell? ⟨b, o, none⟩ :=
  World.cell?_of_block (World.putObj_heap_other h)
/-- a block that is nobody's turns -/
theorem RelB.putObj {C : Cx} {s : LS} {a : Act} {w : World} {β : Bt} {fz : Fz} (r : RelB C s a w β fz) {D : Nat} {o : Obj} (h1 : C.w0.heap.size ≤ D) (h3 : ∀ o, fz D o = none) (h4 : ∀ h blk y, s.blk h = some blk → β h = some y → blkOf y ≠ some D)
    {ds : List Deferred} {s' : LS} (he : s'.env = s.env) (hh : s'.heap = s.heap) (hf : s'.fresh = s.fresh) (ht : s'.taken = s.taken) (hds : DR C.w0.heap.size s' (w.putObj D o) β fz ds) : RelB C s' { a with defers := ds } (w.putObj D o) β fz where
  os := r.os
  tape := r.tape
  output := r.output
  size := by simpa using r.size
  frame := fun k hk hn => (World.putObj_heap_other (by omega)).trans (r.frame k hk hn)
  ble := r.ble
  bnew := r.bnew
  fle := r.fle
  ffr := r.ffr
  ok := fun b o u h => by
    have hne : b ≠ D := fun e => by rw [e, h3] at h; cases h
    rw [cellOther hne]; exact r.ok b o u h
  free := fun x hx => r.free x (by unfold LS.free at hx ⊢; rw [hf, ht] at hx; exact hx)
  hreps := fun h blk hb => by
    have hb : s.blk h = some blk := by unfold LS.blk at hb ⊢; rw [hh] at hb; exact hb
    exact (r.hreps h blk hb).frame (Bt.Le.refl _) (Fz.Le.refl _) (by simp) fun y k hy hk => ⟨World.putObj_heap_other (fun e => h4 h blk y hb hy (by rw [hk, e])), fun _ => rfl⟩
  inj := by
    have e : s'.blk = s.blk := by funext h; unfold LS.blk; rw [hh]
    rw [e]; exact r.inj
  env := fun d v hv => r.env d v (by rw [he] at hv; exact hv)
  nt := r.nt
  dfs := hds
/-- blocks that are laid beyond a line, or turn there and hold no cells -/
theorem RelB.grown {C : Cx} {s : LS} {a : Act} {w w' : World} {β : Bt} {fz : Fz} (r : RelB C s a w β fz) {B : Nat} (hX : C.w0.heap.size ≤ B) (hs : B ≤ w.heap.size) (hB : ∀ h blk y k, s.blk h = some blk → β h = some y → blkOf y = some k → k < B)
    (hD : ∀ d ∈ a.defers, ∀ D, d.target = .collected D → D < B) {row : Option Nat} (hg : w.grownBy w' row) (hr : ∀ r, row = some r → B ≤ r ∧ ∃ o : Obj, w.heap[r]? = some o ∧ o.isCells = false) : RelB C s a w' β fz := by
  have low : ∀ k, k < B → w'.heap[k]? = w.heap[k]? := fun k hk => hg.block k (by omega) fun e => by have := (hr k e.symm).1; omega
  refine { r with os := hg.os.trans r.os, tape := hg.tape.trans r.tape, output := hg.output.trans r.output, size := Nat.le_trans r.size hg.size, frame := ?_, ok := ?_, hreps := ?_, dfs := ?_ }
  · exact fun k hk hn => (low k (by omega)).trans (r.frame k hk hn)
  · intro b o u h
    have hc := r.ok b o u h
    have hne : some b ≠ row := fun e => by
      obtain ⟨_, ob, h1, h2⟩ := hr b e.symm
      unfold World.cell? at hc
      rw [h1] at hc
      cases ob <;> simp [Obj.isCells] at h2 hc
    have hlt : b < w.heap.size := by
      unfold World.cell? at hc
      cases hq : w.heap[b]? with
      | none => simp [hq] at hc
      | some ob => exact (Array.getElem?_eq_some_iff.1 hq).1
    rw [World.cell?_of_block (a := ⟨b, o, none⟩) (hg.block b hlt hne)]
    exact hc
  · intro h blk hb
    exact (r.hreps h blk hb).frame (Bt.Le.refl _) (Fz.Le.refl _) hg.size fun y k hy hk => ⟨low k (hB h blk y k hb hy hk), fun _ => rfl⟩
  · rcases r.dfs with k | ⟨l, p, q, e1, e2, e3, e4⟩
    · exact .inl k
    · refine .inr ⟨l, p, q, e1, e2, e3, ⟨fun d hd => ?_, e4.nodup⟩⟩
      obtain ⟨D, q1, q2, q3, q4, q5⟩ := e4.all d hd
      exact ⟨D, q1, q2, (low D (hD d (by rw [e2]; simp [hd]) D q1)).trans q3, q4, q5⟩
def LS.upd (s : LS) (h : Nat) (b : Blk) : LS := { s with heap := (h, some b) :: s.heap }
theorem setCell_setRow {w : World} {b off : Nat} {us : Array Value} {t : TypeId} (hw : w.heap[b]? = some (.cells us t (0, 0))) (v : Value) : w.setCell ⟨b, off, none⟩ v = w.setRow b (us.setIfInBounds off v) := by
  unfold World.setCell World.setRow
  congr 1
  obtain ⟨hlt, he⟩ := Array.getElem?_eq_some_iff.1 hw
  apply Array.ext_getElem?
  intro i
  simp only [Array.getElem?_modify]
  by_cases e : b = i
  · subst e
    simp [hw]
  · simp [e]
/-- a store into a block of one's own -/
theorem RelB.setCell {C : Cx} {s : LS} {a : Act} {w : World} {β : Bt} {fz : Fz} (r : RelB C s a w β fz) {h b off : Nat} {cs : List V} {t : TypeId} (hb : s.blk h = some (.cells cs t)) (hβ : β h = some (.pointer (some ⟨b, 0, none⟩))) {d : V} {v : Value} (hv : RepV β fz d v) :
    RelB C (s.upd h (.cells (cs.set off d) t)) a (w.setCell ⟨b, off, none⟩ v) β fz := by
  obtain ⟨us, h1, h2, h3, h4, h5⟩ := cells_of (r.hreps _ _ hb) hβ
  rw [setCell_setRow h1]
  have hr : RepVs β fz (cs.set off d) (us.setIfInBounds off v) := by
    refine ⟨by simp [h2.1], fun j x u hx hu => ?_⟩
    rw [List.getElem?_set] at hx
    rw [Array.getElem?_setIfInBounds] at hu
    split at hx
    · rename_i e
      subst e
      rw [if_pos rfl] at hu
      split at hx
      · cases hx
        split at hu
        · cases hu; exact hv
        · cases hu
      · cases hx
    · rename_i e
      rw [if_neg e] at hu
      exact h2.2 j x u hx hu
  have p := Post.set r.ok hβ ⟨h4, h5⟩ h1 h3 hr (RepV.u undef) (cs := cs)
  have r' := p.rel (e := ⟨[], [], [(h, .cells cs t)], [], [(h, .cells (cs.set off d) t)], .u⟩) (dst := none) r (fun d e => by cases e) (fun x hx => by simp only [List.mem_singleton] at hx; subst hx; exact hb) (fun x hx => by cases hx)
  refine RelB.congr (s := s.app none ⟨[], [], [(h, .cells cs t)], [], [(h, .cells (cs.set off d) t)], .u⟩) ?_ ⟨fun _ => rfl, fun x => ?_, fun x => ⟨fun hx => ⟨hx.1, by simpa [LS.app, LS.upd] using hx.2⟩, fun hx => ⟨hx.1, by simpa [LS.app, LS.upd] using hx.2⟩⟩, rfl⟩
  · exact r'
  · simp only [LS.blk, LS.app, LS.upd, List.map_cons, List.map_nil, List.cons_append, List.nil_append, lk]
    split <;> rfl
/-- a block of one's own that nobody writes any more -/
def fzB (bm : Nat) (w : World) (fz : Fz) : Fz := fun b o => if b = bm then w.cell? ⟨b, o, none⟩ else fz b o
def LS.drop (s : LS) (h : Nat) : LS := { s with heap := (h, none) :: s.heap }
theorem LS.drop_blk {s : LS} {h x : Nat} {b : Blk} (e : (s.drop h).blk x = some b) : x ≠ h ∧ s.blk x = some b := by
  simp only [LS.blk, LS.drop, lk] at e
  split at e
  · cases e
  · rename_i hne; exact ⟨hne, e⟩
theorem RelB.freeze {C : Cx} {s : LS} {a : Act} {w : World} {β : Bt} {fz : Fz} (r : RelB C s a w β fz) {h bm : Nat} {cs : List V} {t : TypeId} (hb : s.blk h = some (.cells cs t)) (hβ : β h = some (.pointer (some ⟨bm, 0, none⟩))) :
    RelB C (s.drop h) a w β (fzB bm w fz) := by
  obtain ⟨us, h1, h2, h3, h4, h5⟩ := cells_of (r.hreps _ _ hb) hβ
  have le : Fz.Le fz (fzB bm w fz) := fun b o u e => by
    unfold fzB
    split
    · rename_i e'; rw [e', h3] at e; cases e
    · exact e
  have far : ∀ k, k ≠ bm → ∀ o, fzB bm w fz k o = fz k o := fun k hk o => by unfold fzB; rw [if_neg hk]
  have other : ∀ x blk y, x ≠ h → s.blk x = some blk → β x = some y → blkOf y ≠ some bm := fun x blk y hne hx hy hk => hne (r.inj x h y _ bm ⟨_, hx⟩ ⟨_, hb⟩ hy hβ hk rfl)
  refine { r with fle := r.fle.trans le, ffr := ?_, ok := ?_, free := fun x hx => r.free x hx, hreps := ?_, inj := ?_, env := ?_, dfs := ?_ }
  · intro k hk hn o
    rw [far k (fun e => ?_)]
    · exact r.ffr k hk hn o
    · subst e
      rcases h4 with h | h
      · omega
      · exact hn h
  · intro b o u e
    unfold fzB at e
    split at e
    · exact e
    · exact r.ok b o u e
  · intro x blk hx
    obtain ⟨hne, hx⟩ := LS.drop_blk hx
    exact (r.hreps x blk hx).frame (Bt.Le.refl _) le (Nat.le_refl _) fun y k hy hk => ⟨rfl, far k fun e => other x blk y hne hx hy (by rw [hk, e])⟩
  · rintro x x' y y' k ⟨b, hx⟩ ⟨b', hx'⟩
    exact r.inj x x' y y' k ⟨_, (LS.drop_blk hx).2⟩ ⟨_, (LS.drop_blk hx').2⟩
  · intro d v hv
    obtain ⟨u, k1, k2⟩ := r.env d v hv
    exact ⟨u, k1, k2.mono (Bt.Le.refl _) le⟩
  · exact r.dfs.to rfl (Bt.Le.refl _) le fun D _ q2 q3 q4 => ⟨q2, fun o => (far D (fun e => q4 h _ _ hb hβ (by rw [e]; rfl)) o).trans (q3 o), fun x blk y hx hy => q4 x blk y (LS.drop_blk hx).2 hy⟩
theorem freeze_ms {C : Cx} {s : LS} {a : Act} {w : World} {β : Bt} {fz : Fz} (r : RelB C s a w β fz) {h bm : Nat} {ds : List D} {t : TypeId} (hb : s.blk h = some (.cells (ds.map .d) t)) (hβ : β h = some (.pointer (some ⟨bm, 0, none⟩)))
    (hone : ∀ d ∈ ds, oneV (.d d) = true) (hlen : ds.length ≤ 140737488355328) {v : Value} (hv : RepV β fz (.ms h 0 ds.length) v) : RepD (fzB bm w fz) (.sl 1 (ds.map fun d => [d])) v := by
  obtain ⟨us, h1, h2, h3, h4, h5⟩ := cells_of (r.hreps _ _ hb) hβ
  cases hv with
  | @ms _ _ _ b o c hb' hn ho =>
    rw [hβ] at hb'
    cases hb'
    have hsz : us.size = ds.length := by have := h2.1; simpa using this
    have hget : ∀ i, i < ds.length → w.cell? ⟨bm, i, none⟩ = some (us.getD i undef) := fun i hi => by
      have hi' : i < us.size := by omega
      simp [World.cell?, h1, hi', Array.getD]
    refine .sl (fun i _ => us.getD i undef) (by simp) hn hlen (fun r hr => ?_) (fun h0 => ⟨bm, 0, by rw [ho h0], fun i j hi hj => ?_⟩) (fun i j r' d hr hd => ?_) (fun i j r' d hr hd => ?_)
    · simp only [List.mem_map] at hr
      obtain ⟨d, _, rfl⟩ := hr
      rfl
    · have hj0 : j = 0 := by omega
      subst hj0
      unfold fzB
      rw [if_pos rfl]
      simpa using hget i hi
    · rw [List.getElem?_map] at hr
      simp only [Option.map_eq_some_iff] at hr
      obtain ⟨d', hd', rfl⟩ := hr
      have hi : i < us.size := by rw [hsz]; exact (List.getElem?_eq_some_iff.1 hd').1
      have hj : j = 0 := by have := (List.getElem?_eq_some_iff.1 hd).1; simp at this; exact this
      subst hj
      simp at hd
      subst hd
      have hr2 := h2.2 i (.d d') us[i] (by rw [List.getElem?_map, hd']; rfl) (Array.getElem?_eq_getElem hi)
      have : us.getD i undef = us[i] := by simp [Array.getD, hi]
      rw [this]
      exact oneV_ok hr2 (hone d' (List.mem_of_getElem? hd'))
    · rw [List.getElem?_map] at hr
      simp only [Option.map_eq_some_iff] at hr
      obtain ⟨d', hd', rfl⟩ := hr
      have hi : i < us.size := by rw [hsz]; exact (List.getElem?_eq_some_iff.1 hd').1
      have hj : j = 0 := by have := (List.getElem?_eq_some_iff.1 hd).1; simp at this; exact this
      subst hj
      simp at hd
      subst hd
      have hr2 := h2.2 i (.d d') us[i] (by rw [List.getElem?_map, hd']; rfl) (Array.getElem?_eq_getElem hi)
      have : us.getD i undef = us[i] := by simp [Array.getD, hi]
      rw [this]
      cases hr2 with
      | d hr2 =>
        refine hr2.mono fun b o u e => ?_
        unfold fzB
        split
        · rename_i e'; rw [e', h3] at e; cases e
        · exact e
/-- the same block, told otherwise -/
theorem RelB.retell {C : Cx} {s : LS} {a : Act} {w : World} {β : Bt} {fz : Fz} (r : RelB C s a w β fz) {h : Nat} {cs cs' : List V} {t : TypeId} (hb : s.blk h = some (.cells cs t)) (hv : ∀ us, RepVs β fz cs us → RepVs β fz cs' us) : RelB C (s.upd h (.cells cs' t)) a w β fz := by
  have key : ∀ x blk, (s.upd h (.cells cs' t)).blk x = some blk → (x = h ∧ blk = .cells cs' t) ∨ s.blk x = some blk := fun x blk e => by
    simp only [LS.blk, LS.upd, lk] at e
    split at e
    · rename_i e'; cases e; exact .inl ⟨e', rfl⟩
    · exact .inr e
  have live : ∀ x blk, (s.upd h (.cells cs' t)).blk x = some blk → ∃ blk', s.blk x = some blk' := fun x blk e => by
    rcases key x blk e with ⟨rfl, _⟩ | e
    · exact ⟨_, hb⟩
    · exact ⟨_, e⟩
  refine { r with free := fun x hx => r.free x hx, hreps := ?_, inj := ?_, env := fun d v hv => r.env d v hv, dfs := ?_ }
  · intro x blk e
    rcases key x blk e with ⟨rfl, rfl⟩ | e
    · obtain ⟨y, k1, k2, b, us, rfl, k3, k4, k5⟩ := r.hreps _ _ hb
      exact ⟨_, k1, k2, b, us, rfl, k3, hv us k4, k5⟩
    · exact r.hreps x blk e
  · rintro x x' y y' k ⟨b, hx⟩ ⟨b', hx'⟩
    exact r.inj x x' y y' k (live _ _ hx) (live _ _ hx')
  · exact r.dfs.to rfl (Bt.Le.refl _) (Fz.Le.refl _) fun D _ q2 q3 q4 => ⟨q2, q3, fun x blk y hx hy => by
      obtain ⟨blk', hx⟩ := live _ _ hx
      exact q4 x blk' y hx hy⟩
/-- one mark more -/
theorem RelB.mark {C : Cx} {s : LS} {a : Act} {w : World} {β : Bt} {fz : Fz} (r : RelB C s a w β fz) (hs : s.dfs = [snt]) {D : Nat} {args : Array Value} (h1 : C.w0.heap.size ≤ D) (h2 : w.heap[D]? = some (.deferred (some []))) (h3 : ∀ o, fz D o = none) (h4 : ∀ h blk y, s.blk h = some blk → β h = some y → blkOf y ≠ some D)
    (h5 : ∀ d ∈ a.defers, d.target ≠ .collected D) : RelB C s { a with defers := { target := .collected D, args := args } :: a.defers } w β fz := by
  have hc := r.dfs.marks hs
  refine { r with env := fun d v hv => r.env d v hv, nt := r.nt, dfs := .inr ⟨[], [], _, by rw [hs]; rfl, rfl, ⟨rfl, fun j x d _ q => by simp at q⟩, ⟨fun d hd => ?_, List.Pairwise.cons (fun d hd => Ne.symm (h5 d hd)) hc.nodup⟩⟩ }
  rcases List.mem_cons.1 hd with rfl | hd
  · exact ⟨D, rfl, h1, h2, h3, h4⟩
  · exact hc.all d hd
/-! ### the function's end -/
theorem leaves_marks {C : Cx} {P : Program} {fn : Func} {R : Ending → World → Prop} {β : Bt} {fz : Fz} {s : LS} (hs : s.dfs = [snt]) : ∀ (ds : List Deferred) (tmps : Array Value) (w : World), RelB C s ⟨tmps, ds⟩ w β fz → AllCol C.w0.heap.size s w β fz ds →
    (∀ w', RelB C s ⟨tmps, []⟩ w' β fz → ∃ v, (results fn tmps).run P w' = .ok v w' ∧ R (.returned v) w') → LeavesInM Fence.wide 0 P fn tmps R ds .returning w
  | [], tmps, w, r, _, h => h w r
  | d :: ds, tmps, w, r, hc, h => by
    obtain ⟨D, h1, h2, h3, h4, h5⟩ := hc.all d List.mem_cons_self
    have hc' : AllCol C.w0.heap.size s (w.putObj D (.deferred none)) β fz ds := by
      have hn := List.pairwise_cons.1 hc.nodup
      refine ⟨fun e he => ?_, hn.2⟩
      obtain ⟨D', q1, q2, q3, q4, q5⟩ := hc.all e (List.mem_cons_of_mem _ he)
      exact ⟨D', q1, q2, (World.putObj_heap_other fun k => hn.1 e he (by rw [h1, q1, k])).trans q3, q4, q5⟩
    refine ⟨fun e => (by cases e), .inl ⟨D, _, h1, run_takeDeferred h3, leaves_marks hs ds tmps _ (r.putObj h2 h4 h5 rfl rfl rfl rfl (.inr ⟨[], [], ds, by rw [hs]; rfl, rfl, ⟨rfl, fun j x d _ q => by simp at q⟩, hc'⟩)) hc' h⟩⟩
/-- how a function that holds a range over a function may end -/
def RetM (P : Program) (rs : List ResultVar) (d : D) (fx : Fx) (s : LS) : Prop := s.dfs = [snt] ∧ match fx with
  | .ret => ∃ vs, resL P s rs = some vs ∧ (pack vs).toDh s = some d
  | .pan _ => False
theorem SpecP.of_gxM {P : Program} {f : FuncId} {fn : Func} {c : Code} {args : List D} {d : D} (hmx : P.follows .mixedOrders = true) (hf : P.funcs[f]? = some fn) (hb : fn.body = some c) (hn : args.length ≤ fn.ntmps)
    (h : ∀ F : Fx → LS → Prop, (∀ fx s, RetM P fn.results.toList d fx s → F fx s) → gx ⟨P, fn.ntmps, 0, xo P, F⟩ [.code c] ⟨envD 0 args, [], 0, [], []⟩) : SpecP P f args (.ret d) := by
  intro fz w us hok hr
  refine (callsIn_wide (n := 0)).1 (callsIn_of_wp_marks hf hb trivial (wpIn_wide.2 ?_))
  let X : Cx := ⟨P, w, fun _ => none, fz, fun _ => False, 0, fn.ntmps, fun _ _ e => by cases e⟩
  have hrel : Rel X ⟨envD 0 args, [], 0, [], []⟩ { tmps := us ++ Array.replicate (fn.ntmps - us.size) undef, defers := [] } w := by
    refine ⟨fun _ => none, fz, rfl, rfl, rfl, Nat.le_refl _, (fun _ _ _ => rfl), Bt.Le.refl _, (fun _ _ => rfl), Fz.Le.refl _, (fun _ _ _ _ => rfl), hok, (fun _ _ => ⟨rfl, Nat.zero_le _⟩), (fun h blk hb => by cases hb), (fun h h' y y' k ⟨b, hb⟩ => by cases hb), (fun d v hv => ?_), ?_, .inl ⟨rfl, fun j x d a => by simp at a⟩⟩
    · obtain ⟨x, h1, rfl, _⟩ := lk_envD args 0 d v hv
      have hlt : d < us.size := by rw [hr.1]; exact (List.getElem?_eq_some_iff.1 h1).1
      refine ⟨us[d], ?_, .d (hr.2 d x _ (by simpa using h1) (Array.getElem?_eq_getElem hlt))⟩
      rw [Array.getElem?_append_left hlt, Array.getElem?_eq_getElem hlt]
    · have := hr.1
      show (us ++ Array.replicate (fn.ntmps - us.size) undef).size = fn.ntmps
      simp; omega
  have hs := gx_sound hmx X rfl rfl rfl _ [.code c] _ (Nat.le_refl _) ⟨trivial, fun y hy => by cases hy⟩ (h (RetM P fn.results.toList d) fun _ _ h => h) _ w hrel
  refine wp_mono (show c.wp P (sem X (RetM P fn.results.toList d) []) _ w from hs) fun e a' w' he => ?_
  have ret : (∃ s, RetM P fn.results.toList d .ret s ∧ Rel X s a' w') → LeavesInM Fence.wide 0 P fn a'.tmps (fun e w' => ∃ fz' u, Below w.heap.size w w' ∧ Fz.Le fz fz' ∧ (∀ b, b < w.heap.size → ∀ o, fz' b o = fz b o) ∧ FzOk fz' w' ∧ (LO.ret d).is fz' u e) a'.defers .returning w' := fun ⟨s, ⟨hd, vs, h1, h2⟩, β, fz', r⟩ => by
    obtain ⟨tmps, ds⟩ := a'
    refine leaves_marks hd ds tmps w' r (r.dfs.marks hd) fun w'' r' => ?_
    obtain ⟨u, h3, h4⟩ := results_ok r' h1
    exact ⟨u, h3, fzAll X w'' fz', u, ⟨r'.os, r'.tape, r'.output, r'.size, fun k hk => r'.frame k hk fun h => h⟩, r'.fle.trans (fzAll_le r'.ok), (fun b hb o => by
      unfold fzAll
      rw [if_neg (Nat.not_le.2 hb)]
      exact r'.ffr b hb (fun h => h) o), fzAll_ok r'.ok, rfl, toDh_rep r' (fun _ h => h) _ h2 h4⟩
  cases e with
  | normal => exact ret he
  | ret => exact ret he
  | panic ch =>
    obtain ⟨s, x, v, β, fz', ⟨_, hs⟩, _⟩ := he
    exact hs.elim
  | exit id => exact he.elim
  | goto l => exact he.elim
  | outgrown => exact he.elim
end Go.Lm
/- The logical machine: equal data, by computation. -/
namespace Go.Lm
open Go Go.RowKit
def bytesB : List UInt8 → List UInt8 → Bool
  | [], [] => true
  | a :: l, b :: m => a == b && bytesB l m
  | _, _ => false
theorem bytesB_eq : ∀ {l m : List UInt8}, bytesB l m = true → l = m
  | [], [], _ => rfl
  | a :: l, b :: m, h => by
    simp only [bytesB, Bool.and_eq_true, beq_iff_eq] at h
    rw [h.1, bytesB_eq h.2]
  | [], _ :: _, h => by cases h
  | _ :: _, [], h => by cases h
mutual
def D.eqB : D → D → Bool
  | .k q n, .k r m => decide (q = r) && decide (n = m)
  | .b p, .b q => p == q
  | .s l, .s m => bytesB l m
  | .nil, .nil => true
  | .sl z r, .sl z' r' => Nat.beq z z' && D.eqR r r'
  | .agg l, .agg m => D.eqL l m
  | .tup l, .tup m => D.eqL l m
  | _, _ => false
def D.eqL : List D → List D → Bool
  | [], [] => true
  | u :: l, v :: m => D.eqB u v && D.eqL l m
  | _, _ => false
def D.eqR : List (List D) → List (List D) → Bool
  | [], [] => true
  | u :: l, v :: m => D.eqL u v && D.eqR l m
  | _, _ => false
end
mutual
theorem D.eqB_eq : ∀ (u v : D), D.eqB u v = true → u = v
  | .k q n, v, h => by
    cases v <;> simp only [D.eqB, Bool.and_eq_true, decide_eq_true_eq, Bool.false_eq_true] at h
    rw [h.1, h.2]
  | .b p, v, h => by
    cases v <;> simp only [D.eqB, beq_iff_eq, Bool.false_eq_true] at h
    rw [h]
  | .s l, v, h => by
    cases v <;> simp only [D.eqB, Bool.false_eq_true] at h
    rw [bytesB_eq h]
  | .nil, v, h => by
    cases v <;> simp only [D.eqB, Bool.false_eq_true] at h
    rfl
  | .sl z r, v, h => by
    cases v <;> simp only [D.eqB, Bool.and_eq_true, Bool.false_eq_true] at h
    rw [Nat.eq_of_beq_eq_true h.1, D.eqR_eq _ _ h.2]
  | .agg l, v, h => by
    cases v <;> simp only [D.eqB, Bool.false_eq_true] at h
    rw [D.eqL_eq _ _ h]
  | .tup l, v, h => by
    cases v <;> simp only [D.eqB, Bool.false_eq_true] at h
    rw [D.eqL_eq _ _ h]
  | .fn _ _ _, v, h => by cases v <;> simp only [D.eqB, Bool.false_eq_true] at h
  | .ifc _ _, v, h => by cases v <;> simp only [D.eqB, Bool.false_eq_true] at h
  | .raw _, v, h => by cases v <;> simp only [D.eqB, Bool.false_eq_true] at h
theorem D.eqL_eq : ∀ (u v : List D), D.eqL u v = true → u = v
  | [], v, h => by
    cases v <;> simp only [D.eqL, Bool.false_eq_true] at h
    rfl
  | u :: l, v, h => by
    cases v <;> simp only [D.eqL, Bool.and_eq_true, Bool.false_eq_true] at h
    rw [D.eqB_eq _ _ h.1, D.eqL_eq _ _ h.2]
theorem D.eqR_eq : ∀ (u v : List (List D)), D.eqR u v = true → u = v
  | [], v, h => by
    cases v <;> simp only [D.eqR, Bool.false_eq_true] at h
    rfl
  | u :: l, v, h => by
    cases v <;> simp only [D.eqR, Bool.and_eq_true, Bool.false_eq_true] at h
    rw [D.eqL_eq _ _ h.1, D.eqR_eq _ _ h.2]
end
/-- contracts in a list -/
def tabT : List (Nat × List D × LO) → FuncId → List D → Option LO
  | [], _, _ => none
  | x :: l, g, ds => match Nat.beq x.1 g && D.eqL x.2.1 ds with
    | true => some x.2.2
    | false => tabT l g ds
theorem tabT_ok {P : Program} : ∀ {l : List (Nat × List D × LO)}, (∀ x ∈ l, LSpec P x.1 x.2.1 x.2.2) → ∀ g ds o, tabT l g ds = some o → LSpec P g ds o
  | [], _, _, _, _, h => by cases h
  | x :: l, hl, g, ds, o, h => by
    simp only [tabT] at h
    split at h
    · rename_i hx
      simp only [Bool.and_eq_true] at hx
      cases h
      have := hl x List.mem_cons_self
      rw [← Nat.eq_of_beq_eq_true hx.1, ← D.eqL_eq _ _ hx.2]
      exact this
    · exact tabT_ok (fun y hy => hl y (List.mem_cons_of_mem _ hy)) g ds o h
end Go.Lm
