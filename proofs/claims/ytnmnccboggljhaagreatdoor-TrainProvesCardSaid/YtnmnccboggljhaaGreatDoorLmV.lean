/- The logical machine: the same closed runs, in small steps for the kernel. -/
import Derived.Test.YtnmnccboggljhaaGreatDoorLmU
set_option linter.constructorNameAsVariable false
namespace Go.Lm
open Go Go.RowKit

/-! ### look-ups -/
def lkK {α : Type} : List (Nat × α) → Nat → Option α
  | [], _ => none
  | x :: l, n => match Nat.beq n x.1 with
    | true => some x.2
    | false => lkK l n
theorem lkK_eq {α : Type} (l : List (Nat × α)) (n : Nat) : lkK l n = lk l n := by
  induction l with
  | nil => rfl
  | cons x l ih =>
    obtain ⟨k, v⟩ := x
    simp only [lkK, lk]
    split
    · rename_i h; rw [if_pos (Nat.eq_of_beq_eq_true h)]
    · rename_i h; rw [if_neg (Nat.ne_of_beq_eq_false h)]; exact ih
def evK (s : LS) : Operand → Option V
  | .tmp t => lkK s.env t
  | .const c => some (constV c)
  | .func f => some (.d (.fn (.func f) [] []))
  | .global _ => none
theorem evK_eq (s : LS) (x : Operand) : evK s x = s.ev x := by
  cases x <;> simp only [evK, LS.ev, lkK_eq]
def evsK (s : LS) : List Operand → Option (List V)
  | [] => some []
  | x :: l => match evK s x with
    | some v => match evsK s l with
      | some vs => some (v :: vs)
      | none => none
    | none => none
theorem evsK_eq (s : LS) (l : List Operand) : evsK s l = s.evs l := by
  induction l with
  | nil => rfl
  | cons x l ih =>
    simp only [evsK, LS.evs, evK_eq, ih]
    cases s.ev x <;> cases s.evs l <;> rfl
def blkK (s : LS) (h : Nat) : Option Blk := match lkK s.heap h with
  | some b => b
  | none => none
theorem blkK_eq (s : LS) (h : Nat) : blkK s h = s.blk h := by
  simp only [blkK, LS.blk, lkK_eq]
  cases lk s.heap h <;> rfl

/-! ### operations -/
/-- what an operation gives: a value alone, or more -/
inductive KR where
  | v (c : Bool) (vals : List V) (x : V)
  | x (r : XR)
def KR.xr : KR → XR
  | .v c vals z => .one c (pu vals z)
  | .x r => r
def kMove (s : LS) (x : Operand) : KR := match evK s x with
  | some v => .v true [v] v
  | none => .x .none
def kPick3 (c x y : V) : KR := match c with
  | .d (.b p) => .v true [.d (.b p), x, y] (pk p x y)
  | _ => .x .none
def kPick2 (c x : V) : Option V → KR
  | some y => kPick3 c x y
  | none => .x .none
def kPick1 (c : V) (x y : Option V) : KR := match x with
  | some x => kPick2 c x y
  | none => .x .none
def kPick (s : LS) (c x y : Operand) : KR := match evK s c with
  | some c => kPick1 c (evK s x) (evK s y)
  | none => .x .none
def kLoad3 (h off : Nat) (cs : List V) (e : TypeId) : Option (Option Nat) → KR
  | some none => .x (.one (decide (off < cs.length)) ⟨[.p h off], [(h, .cells cs e)], [], [], [], cs.getD off .u⟩)
  | some (some n) => .x (.one (decide (off + n ≤ cs.length)) ⟨[.p h off], [(h, .cells cs e)], [], [], [], .agg ((cs.drop off).take n)⟩)
  | none => .x .none
def kLoad2 (P : Program) (t : TypeId) (h off : Nat) : Option Blk → KR
  | some (.cells cs e) => kLoad3 h off cs e (shp P t)
  | _ => .x .none
def kLoad1 (P : Program) (s : LS) (t : TypeId) : V → KR
  | .p h off => kLoad2 P t h off (blkK s h)
  | v => .x (xoLoad P s t v)
def kLoad (P : Program) (s : LS) (t : TypeId) (x : Operand) : KR := match evK s x with
  | some v => kLoad1 P s t v
  | none => .x .none
def kStore3 (h off : Nat) (cs : List V) (e : TypeId) (v : V) (xs : List V) : Option Nat → KR
  | some n => .x (.one (decide (n = xs.length ∧ off + xs.length ≤ cs.length)) ⟨[.p h off, v], [], [(h, .cells cs e)], [], [(h, .cells (setL cs off xs) e)], .u⟩)
  | none => .x .none
def kStore2 (P : Program) (t : TypeId) (h off : Nat) (v : V) (xs : Option (List V)) : Option Blk → KR
  | some (.cells cs e) => match xs with
    | some xs => kStore3 h off cs e v xs (tsz P t)
    | none => .x .none
  | _ => .x .none
def kStore1 (P : Program) (s : LS) (t : TypeId) (v : V) : V → KR
  | .p h off => kStore2 P t h off v (cellsV v) (blkK s h)
  | _ => .x .none
def kStore (P : Program) (s : LS) (dst : Option Tmp) (t : TypeId) (x y : Operand) : KR := match dst with
  | none => match evK s x with
    | some vx => match evK s y with
      | some vy => kStore1 P s t vy vx
      | none => .x .none
    | none => .x .none
  | some _ => .x .none
def kAr (q r : IntKind) (m n z : Int) (c : Bool) : KR := match decide (q = r) with
  | true => .v c [.d (.k q m), .d (.k r n)] (.d (.k q z))
  | false => .x .none
def kCmp (q r : IntKind) (m n : Int) (z : Bool) : KR := match decide (q = r) with
  | true => .v true [.d (.k q m), .d (.k r n)] (.d (.b z))
  | false => .x .none
def kInt (P : Program) (t : TypeId) (op : BinOp) (q : IntKind) (m : Int) (r : IntKind) (n : Int) : KR := match op with
  | .add => kAr q r m n (m + n) (decide (fits q (m + n)))
  | .sub => kAr q r m n (m - n) (decide (fits q (m - n)))
  | .mul => kAr q r m n (m * n) (decide (fits q (m * n)))
  | .eql => kCmp q r m n (decide (m = n))
  | .neq => kCmp q r m n (!decide (m = n))
  | .lss => kCmp q r m n (decide (m < n))
  | .leq => kCmp q r m n (decide (m ≤ n))
  | .gtr => kCmp q r m n (decide (n < m))
  | .geq => kCmp q r m n (decide (n ≤ m))
  | op => .x (xoBin P op t (.d (.k q m)) (.d (.k r n)))
def kBin2 (P : Program) (t : TypeId) (op : BinOp) (q : IntKind) (m : Int) : V → KR
  | .d (.k r n) => kInt P t op q m r n
  | y => .x (xoBin P op t (.d (.k q m)) y)
def kBin1 (P : Program) (t : TypeId) (op : BinOp) (y : V) : V → KR
  | .d (.k q m) => kBin2 P t op q m y
  | x => .x (xoBin P op t x y)
def kBin (P : Program) (s : LS) (t : TypeId) (op : BinOp) (x y : Operand) : KR := match evK s x with
  | some vx => match evK s y with
    | some vy => kBin1 P t op vy vx
    | none => .x .none
  | none => .x .none
def kFA2 (h off : Nat) : Option Nat → KR
  | some n => .v true [.p h off] (.p h (off + n))
  | none => .x .none
def kFA3 (sz : Nat) (rows : List (List D)) (i j : Nat) : Option Nat → KR
  | some n => .v true [.q sz rows i j] (.q sz rows i (j + n))
  | none => .x .none
def kFA1 (P : Program) (t : TypeId) (f : Nat) : V → KR
  | .p h off => kFA2 h off (fo P t f)
  | .q sz rows i j => kFA3 sz rows i j (fo P t f)
  | _ => .x .none
def kFA (P : Program) (s : LS) (t : TypeId) (x : Operand) (f : Nat) : KR := match evK s x with
  | some v => kFA1 P t f v
  | none => .x .none
def kIA (P : Program) (s : LS) (t : TypeId) (x y : Operand) : KR := match evK s x with
  | some vx => match evK s y with
    | some vy => .x (xoIdx P t vx vy)
    | none => .x .none
  | none => .x .none
def kCall2 (f : V) (vs : List V) : Option (FuncId × List V × List V) → KR
  | some (g, a, cp) => .x (.call g (a ++ vs ++ cp) (f :: vs))
  | none => .x .none
def kCallV (s : LS) (f : Operand) (args : List Operand) : KR := match evK s f with
  | some fv => match evsK s args with
    | some vs => kCall2 fv vs (calleeV fv)
    | none => .x .none
  | none => .x .none
def kCall (P : Program) (s : LS) (new : Nat) (c : Call) : KR := match c.callee with
  | .value f => kCallV s f c.args.toList
  | _ => .x (xoCall P s new c)
def kBox2 (new : Nat) (t : TypeId) (v : V) : Option (List V) → KR
  | some cs => .x (.one true ⟨[v], [], [], [new], [(new, .cells cs t)], .p new 0⟩)
  | none => .x .none
def kBox (s : LS) (new : Nat) (t : TypeId) (x : Operand) : KR := match evK s x with
  | some v => kBox2 new t v (cellsV v)
  | none => .x .none
def kExt1 (i : Nat) : V → KR
  | .tup cs => match cs[i]? with
    | some v => .v true [.tup cs] v
    | none => .x .none
  | .d (.tup ds) => match ds[i]? with
    | some d => .v true [.d (.tup ds)] (.d d)
    | none => .x .none
  | _ => .x .none
def kExt (s : LS) (x : Operand) (i : Nat) : KR := match evK s x with
  | some v => kExt1 i v
  | none => .x .none
def kBinO (P : Program) (s : LS) (new : Nat) (o : Oper) (op : BinOp) (t : TypeId) (x y : Operand) : KR := match y with
  | .const .nilIface => .x (xoRun P s new o)
  | y => kBin P s t op x y
def kRun (P : Program) (s : LS) (new : Nat) (o : Oper) : KR := match o.op with
  | .move x => kMove s x
  | .assign x => kMove s x
  | .pick c x y => kPick s c x y
  | .load t x => kLoad P s t x
  | .store t x y => kStore P s o.dst t x y
  | .binOp op t x y _ => kBinO P s new o op t x y
  | .fieldAddr t x f => kFA P s t x f
  | .indexAddr t x y => kIA P s t x y
  | .call c => kCall P s new c
  | .box t x => kBox s new t x
  | .extract x i => kExt s x i
  | _ => .x (xoRun P s new o)
theorem kInt_eq (P : Program) (t : TypeId) (op : BinOp) (q : IntKind) (m : Int) (r : IntKind) (n : Int) : (kInt P t op q m r n).xr = xoBin P op t (.d (.k q m)) (.d (.k r n)) := by
  cases op <;> simp only [kInt, kAr, kCmp] <;> first | rfl | skip
  all_goals
    by_cases h : q = r
    · simp only [decide_eq_true h]
      subst h
      simp [KR.xr, xoBin, arithC, cmpC]
    · simp only [decide_eq_false h]
      simp [KR.xr, xoBin, h]
theorem kBin_eq (P : Program) (s : LS) (t : TypeId) (op : BinOp) (x y : Operand) : (kBin P s t op x y).xr = (match s.ev x, s.ev y with
    | some vx, some vy => xoBin P op t vx vy
    | _, _ => .none) := by
  unfold kBin
  rw [evK_eq, evK_eq]
  cases s.ev x with
  | none => rfl
  | some vx =>
    cases s.ev y with
    | none => rfl
    | some vy =>
      show (kBin1 P t op vy vx).xr = xoBin P op t vx vy
      unfold kBin1
      split
      · unfold kBin2
        split
        · exact kInt_eq ..
        · rfl
      · rfl
theorem kRun_eq (P : Program) (s : LS) (new : Nat) (o : Oper) : (kRun P s new o).xr = xoRun P s new o := by
  obtain ⟨dst, op, type, pos, after, guard⟩ := o
  cases op with
  | move x =>
    simp only [kRun, kMove, evK_eq, xoRun]
    cases s.ev x <;> rfl
  | assign x =>
    simp only [kRun, kMove, evK_eq, xoRun]
    cases s.ev x <;> rfl
  | pick c x y =>
    simp only [kRun, kPick, evK_eq, xoRun]
    cases s.ev c with
    | none => rfl
    | some c =>
      cases s.ev x with
      | none => cases c <;> first | rfl | (rename_i d; cases d <;> rfl)
      | some x =>
        cases s.ev y with
        | none => cases c <;> first | rfl | (rename_i d; cases d <;> rfl)
        | some y => cases c <;> first | rfl | (rename_i d; cases d <;> rfl)
  | load t x =>
    simp only [kRun, kLoad, evK_eq, xoRun]
    cases s.ev x with
    | none => rfl
    | some v =>
      simp only
      unfold kLoad1
      split
      · rename_i h off
        simp only [kLoad2, blkK_eq, xoLoad]
        cases s.blk h with
        | none => rfl
        | some b =>
          cases b <;> try rfl
          simp only [kLoad3]
          cases shp P t with
          | none => rfl
          | some z => cases z <;> rfl
      · rfl
  | store t x y =>
    simp only [kRun, kStore, evK_eq, xoRun]
    cases dst with
    | some d => rfl
    | none =>
      simp only
      cases s.ev x with
      | none => rfl
      | some vx =>
        cases s.ev y with
        | none => rfl
        | some vy =>
          simp only
          unfold kStore1 xoStore
          cases vx <;> try rfl
          rename_i h off
          simp only [kStore2, blkK_eq]
          cases s.blk h with
          | none => rfl
          | some b =>
            cases b <;> try rfl
            simp only
            cases cellsV vy with
            | none => rfl
            | some xs =>
              simp only [kStore3]
              cases tsz P t <;> rfl
  | binOp op t x y yt =>
    simp only [kRun, kBinO]
    split
    · rfl
    · rename_i hne
      rw [kBin_eq]
      have : xoRun P s new ⟨dst, .binOp op t x y yt, type, pos, after, guard⟩ = (match s.ev x, s.ev y with
          | some vx, some vy => xoBin P op t vx vy
          | _, _ => .none) := by
        cases y with
        | const c =>
          cases c <;> first | exact (hne rfl).elim | (cases op <;> rfl)
        | _ => cases op <;> rfl
      rw [this]
  | fieldAddr t x f =>
    simp only [kRun, kFA, evK_eq, xoRun]
    cases s.ev x with
    | none => rfl
    | some v =>
      simp only
      unfold kFA1
      cases v <;> first | rfl | (simp only [kFA2, kFA3]; cases fo P t f <;> rfl)
  | indexAddr t x y =>
    simp only [kRun, kIA, evK_eq, xoRun]
    cases s.ev x <;> cases s.ev y <;> rfl
  | call c =>
    simp only [kRun, kCall, xoRun, xoCall]
    obtain ⟨callee, args, tys⟩ := c
    cases callee with
    | value f =>
      simp only [kCallV, evK_eq, evsK_eq]
      cases s.ev f with
      | none => rfl
      | some fv =>
        cases s.evs args.toList with
        | none => rfl
        | some vs =>
          simp only [kCall2]
          cases calleeV fv <;> rfl
    | _ => rfl
  | box t x =>
    simp only [kRun, kBox, evK_eq, xoRun]
    cases s.ev x with
    | none => rfl
    | some v =>
      simp only [kBox2]
      cases cellsV v <;> rfl
  | extract x i =>
    simp only [kRun, kExt, evK_eq, xoRun]
    cases s.ev x with
    | none => rfl
    | some v =>
      simp only
      unfold kExt1
      cases v with
      | tup cs => simp only; cases cs[i]? <;> rfl
      | d x =>
        cases x with
        | tup ds => simp only; cases ds[i]? <;> rfl
        | _ => rfl
      | _ => rfl
  | _ => rfl

/-! ### the machine -/
section
variable (P : Program) (W : FuncId → Bool) (E : FuncId → List D → Option D) (T : FuncId → List D → Option LO) (fn : Nat → Option Func)
def kOne (rec : Ex) (nt : Nat) (all : Array Oper) (i : Nat) (o : Oper) (l : List Oper) (tr : List (Nat × List Nat × List Nat)) (draw : Bool) (k : List It) (s : LS) (c : Bool) (e : Eff) : Option (Fx × LS) := match dlt o.dst nt && (!s.taken.contains (s.fresh + i) && c) with
  | true => rec nt (.ops all (i + 1) l ((i, rdh (some e), wrh (some e)) :: tr) draw :: k) (s.app o.dst e)
  | false => none
def kPut (rec : Ex) (nt : Nat) (all : Array Oper) (i : Nat) (o : Oper) (l : List Oper) (tr : List (Nat × List Nat × List Nat)) (draw : Bool) (k : List It) (s : LS) (c : Bool) (v : V) : Option (Fx × LS) := match dlt o.dst nt && (!s.taken.contains (s.fresh + i) && c) with
  | true => rec nt (.ops all (i + 1) l ((i, [], []) :: tr) draw :: k) ⟨putE o.dst v s.env, s.heap, s.fresh, s.taken, s.dfs⟩
  | false => none
def kRet (rec : Ex) (nt : Nat) (all : Array Oper) (i : Nat) (o : Oper) (l : List Oper) (tr : List (Nat × List Nat × List Nat)) (draw : Bool) (k : List It) (s : LS) (r : D) : Option (Fx × LS) := match dlt o.dst nt with
  | true => rec nt (.ops all (i + 1) l ((i, [], []) :: tr) draw :: k) ⟨putE o.dst (.d r) s.env, s.heap, s.fresh, s.taken, s.dfs⟩
  | false => none
def kPan (draw : Bool) (s : LS) (d : D) : Option (Fx × LS) := match draw with
  | false => some (.pan d, s)
  | true => none
def kRes (rec : Ex) (nt : Nat) (all : Array Oper) (i : Nat) (o : Oper) (l : List Oper) (tr : List (Nat × List Nat × List Nat)) (draw : Bool) (k : List It) (s : LS) : Option LO → Option (Fx × LS)
  | some (.ret r) => kRet rec nt all i o l tr draw k s r
  | some (.pan d) => kPan draw s d
  | none => none
def kExtn (rec : Ex) (nt : Nat) (all : Array Oper) (i : Nat) (o : Oper) (l : List Oper) (tr : List (Nat × List Nat × List Nat)) (draw : Bool) (k : List It) (s : LS) (g : FuncId) (ds : List D) : Option D → Option (Fx × LS)
  | some r => kRet rec nt all i o l tr draw k s r
  | none => kRes rec nt all i o l tr draw k s (callX P T fn rec g ds)
def kCal (rec : Ex) (nt : Nat) (all : Array Oper) (i : Nat) (o : Oper) (l : List Oper) (tr : List (Nat × List Nat × List Nat)) (draw : Bool) (k : List It) (s : LS) (g : FuncId) (args vals : List V) : Option (List D) → Option (Fx × LS)
  | some ds => kExtn P T fn rec nt all i o l tr draw k s g ds (E g ds)
  | none => hX P fn rec nt all i o l tr draw k s g args vals
def kX (rec : Ex) (nt : Nat) (all : Array Oper) (i : Nat) (o : Oper) (l : List Oper) (tr : List (Nat × List Nat × List Nat)) (draw : Bool) (k : List It) (s : LS) : XR → Option (Fx × LS)
  | .one c e => kOne rec nt all i o l tr draw k s c e
  | .call g args vals => kCal P E T fn rec nt all i o l tr draw k s g args vals (if W g then none else V.toD.toDs args)
  | r => opX P W E T fn rec nt all i o l tr draw k s r
def kGo (rec : Ex) (nt : Nat) (all : Array Oper) (i : Nat) (o : Oper) (l : List Oper) (tr : List (Nat × List Nat × List Nat)) (draw : Bool) (k : List It) (s : LS) : KR → Option (Fx × LS)
  | .v c _ v => kPut rec nt all i o l tr draw k s c v
  | .x r => kX P W E T fn rec nt all i o l tr draw k s r
def kOp (rec : Ex) (nt : Nat) (all : Array Oper) (i : Nat) (o : Oper) (l : List Oper) (tr : List (Nat × List Nat × List Nat)) (draw : Bool) (k : List It) (s : LS) : Option (Fx × LS) := kGo P W E T fn rec nt all i o l tr draw k s (kRun P s (s.fresh + i) o)
def kGd (rec : Ex) (nt : Nat) (all : Array Oper) (i : Nat) (o : Oper) (l : List Oper) (tr : List (Nat × List Nat × List Nat)) (draw : Bool) (k : List It) (s : LS) : Option (Nat × Bool) → Option (Fx × LS)
  | none => kOp P W E T fn rec nt all i o l tr draw k s
  | some _ => stp P W E T fn rec nt (.ops all i (o :: l) tr draw :: k) s
def kEnd (rec : Ex) (nt : Nat) (all : Array Oper) (tr : List (Nat × List Nat × List Nat)) (draw : Bool) (k : List It) (s : LS) : Option (Fx × LS) := match draw with
  | false => rec nt k s.settle
  | true => match edgesB all && chkP all tr with
    | true => rec nt k s.settle
    | false => none
def kOps (rec : Ex) (nt : Nat) (all : Array Oper) (i : Nat) (tr : List (Nat × List Nat × List Nat)) (draw : Bool) (k : List It) (s : LS) : List Oper → Option (Fx × LS)
  | [] => kEnd rec nt all tr draw k s
  | o :: l => kGd P W E T fn rec nt all i o l tr draw k s o.guard
def kCond (rec : Ex) (nt : Nat) (k : List It) (s : LS) (t : Nat) (a b : Code) : Option V → Option (Fx × LS)
  | some (.d (.b true)) => rec nt (.code a :: k) (s.setB t true)
  | some (.d (.b false)) => rec nt (.code b :: k) (s.setB t false)
  | _ => none
def kCode (rec : Ex) (nt : Nat) (k : List It) (s : LS) : Code → Option (Fx × LS)
  | .skip => rec nt k s
  | .seq a b => rec nt (.code a :: .code b :: k) s
  | .ret => some (.ret, s)
  | .cond (.tmp t) a b => kCond rec nt k s t a b (lkK s.env t)
  | .region _ ops draw => rec nt (.ops ops 0 ops.toList [] draw :: k) s
  | c => stp P W E T fn rec nt (.code c :: k) s
def stpK (rec : Ex) (nt : Nat) : List It → LS → Option (Fx × LS)
  | [], s => some (.ret, s)
  | .blk _ :: k, s => rec nt k s
  | .back _ :: _, _ => none
  | .ops all i l tr draw :: k, s => kOps P W E T fn rec nt all i tr draw k s l
  | .op1 all i o l tr draw :: k, s => kOp P W E T fn rec nt all i o l tr draw k s
  | .code c :: k, s => kCode P W E T fn rec nt k s c
def exK (n : Nat) : Ex := Nat.rec (motive := fun _ => Ex) (fun _ _ _ => none) (fun _ rec => stpK P W E T fn rec) n
end
section
variable {P : Program} {W : FuncId → Bool} {E : FuncId → List D → Option D} {T : FuncId → List D → Option LO} {fn : Nat → Option Func}
theorem kX_eq (rec : Ex) (nt : Nat) (all : Array Oper) (i : Nat) (o : Oper) (l : List Oper) (tr : List (Nat × List Nat × List Nat)) (draw : Bool) (k : List It) (s : LS) (r : XR) : kX P W E T fn rec nt all i o l tr draw k s r = opX P W E T fn rec nt all i o l tr draw k s r := by
  cases r with
  | one c e => rfl
  | call g args vals =>
    simp only [kX, opX]
    cases (if W g = true then none else V.toD.toDs args) with
    | none => rfl
    | some ds =>
      simp only [kCal]
      cases E g ds with
      | some r => rfl
      | none =>
        simp only [kExtn]
        cases callX P T fn rec g ds with
        | none => rfl
        | some z => cases z <;> rfl
  | _ => rfl
theorem kOp_eq (rec : Ex) (nt : Nat) (all : Array Oper) (i : Nat) (o : Oper) (l : List Oper) (tr : List (Nat × List Nat × List Nat)) (draw : Bool) (k : List It) (s : LS) : kOp P W E T fn rec nt all i o l tr draw k s = stp P W E T fn rec nt (.op1 all i o l tr draw :: k) s := by
  have h := kRun_eq P s (s.fresh + i) o
  show _ = opX P W E T fn rec nt all i o l tr draw k s (xoRun P s (s.fresh + i) o)
  rw [← h]
  unfold kOp
  cases kRun P s (s.fresh + i) o with
  | v c vals z => rfl
  | x r => exact kX_eq ..
theorem stpK_ok (hmx : P.follows .mixedOrders = true) (hfn : ∀ g f, fn g = some f → P.funcs[g]? = some f ∧ Enters P g) (hE : ∀ g ds d, E g ds = some d → Direct P g ds d) (hT : ∀ g ds o, T g ds = some o → LSpec P g ds o) {rec : Ex} (hr : ExOk P rec) : ExOk P (stpK P W E T fn rec) := by
  have hs : ExOk P (stp P W E T fn rec) := stp_ok hmx hfn hE hT hr
  intro nt k s fx s' hk h n0 F hF
  have same : stpK P W E T fn rec nt k s = stp P W E T fn rec nt k s → gx ⟨P, nt, n0, xo P, F⟩ k s := fun e => hs nt k s fx s' hk (e ▸ h) n0 F hF
  cases k with
  | nil => exact same rfl
  | cons x k =>
    cases x with
    | blk id => exact same rfl
    | back B => exact same rfl
    | op1 all i o l tr draw => exact same (kOp_eq ..)
    | ops all i l tr draw =>
      cases l with
      | nil => exact same rfl
      | cons o l =>
        cases hg : o.guard with
        | some z => exact same (by show kGd P W E T fn rec nt all i o l tr draw k s o.guard = _; rw [hg]; rfl)
        | none =>
          have e : stpK P W E T fn rec nt (.ops all i (o :: l) tr draw :: k) s = stp P W E T fn rec nt (.op1 all i o l tr draw :: k) s := by
            show kGd P W E T fn rec nt all i o l tr draw k s o.guard = _
            rw [hg]
            exact kOp_eq ..
          have := hs nt (.op1 all i o l tr draw :: k) s fx s' hk (e ▸ h) n0 F hF
          rw [gx_ops]
          have hgo : guardOf all s o = .yes := by simp only [guardOf, hg]
          rw [hgo]
          exact this
    | code c =>
      cases c with
      | cond y a b =>
        cases y with
        | tmp t =>
          refine same ?_
          show kCond rec nt k s t a b (lkK s.env t) = _
          rw [lkK_eq]
          simp only [stp]
          cases lk s.env t with
          | none => rfl
          | some v =>
            cases v with
            | d d =>
              cases d with
              | b p => cases p <;> rfl
              | _ => rfl
            | _ => rfl
        | _ => exact same rfl
      | _ => exact same rfl
theorem exK_ok (hmx : P.follows .mixedOrders = true) (hfn : ∀ g f, fn g = some f → P.funcs[g]? = some f ∧ Enters P g) (hE : ∀ g ds d, E g ds = some d → Direct P g ds d) (hT : ∀ g ds o, T g ds = some o → LSpec P g ds o) : ∀ n, ExOk P (exK P W E T fn n)
  | 0 => fun _ _ _ _ _ _ h => by cases h
  | n + 1 => stpK_ok hmx hfn hE hT (exK_ok hmx hfn hE hT n)
/-- a closed run -/
theorem LSpec.runK (hmx : P.follows .mixedOrders = true) (hfn : ∀ g f, fn g = some f → P.funcs[g]? = some f ∧ Enters P g) (hE : ∀ g ds d, E g ds = some d → Direct P g ds d) (hT : ∀ g ds o, T g ds = some o → LSpec P g ds o) (n : Nat) {g : FuncId} {ds : List D} {o : LO}
    (h : callX P T fn (exK P W E T fn n) g ds = some o) : LSpec P g ds o := callX_ok hmx hfn hT (exK_ok hmx hfn hE hT n) h
end
end Go.Lm
