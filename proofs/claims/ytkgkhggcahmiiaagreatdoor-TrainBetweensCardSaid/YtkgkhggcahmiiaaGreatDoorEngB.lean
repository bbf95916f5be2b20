/- The logical machine (part 2 of 7): a reading of code as conditions, proved sound; no program in sight. -/
import Derived.Test.YtkgkhggcahmiiaaGreatDoorEngA
import Derived.Deep.RegionHeld
import Derived.Laws.StructEq
/- The logical machine: operations that only compute. -/
set_option linter.constructorNameAsVariable false
namespace Go.Lm
open Go Go.RowKit

def fits : IntKind → Int → Prop
  | .i64, n => -9223372036854775808 ≤ n ∧ n ≤ 9223372036854775807
  | .i32, n => -2147483648 ≤ n ∧ n ≤ 2147483647
  | .i16, n => -32768 ≤ n ∧ n ≤ 32767
  | .i8, n => -128 ≤ n ∧ n ≤ 127
  | .u64, n => 0 ≤ n ∧ n ≤ 18446744073709551615
  | .u32, n => 0 ≤ n ∧ n ≤ 4294967295
  | .u16, n => 0 ≤ n ∧ n ≤ 65535
  | .u8, n => 0 ≤ n ∧ n ≤ 255
theorem fits_wrap {q : IntKind} {n : Int} (h : fits q n) : q.wrap n = n := by
  cases q
  · exact IntWalk.i8_in n h
  · exact IntWalk.i16_in n h
  · exact IntWalk.i32_in n h
  · exact IntWalk.i64_in n h
  · exact IntWalk.u8_in n h
  · exact IntWalk.u16_in n h
  · exact IntWalk.u32_in n h
  · exact IntWalk.u64_in n h
def pu (vals : List V) (v : V) : Eff := ⟨vals, [], [], [], [], v⟩
def pk : Bool → V → V → V
  | true, a, _ => a
  | false, _, b => b

theorem Post.same {β : Bt} {fz : Fz} {w : World} {own : Nat → Prop} (hok : FzOk fz w) {v : V} {u : Value} (hv : RepV β fz v u) : Post β fz w own [] [] [] v u β fz w where
  ble := Bt.Le.refl _
  bnew := fun _ _ => rfl
  fle := Fz.Le.refl _
  ffr := fun _ _ _ _ => rfl
  ok := hok
  os := rfl
  tape := rfl
  output := rfl
  size := Nat.le_refl _
  frame := fun _ _ _ => rfl
  hreps := fun x hx => by cases hx
  blks := fun x hx => by cases hx
  inj := fun h h' y y' k ⟨x, hx, _⟩ => by cases hx
  v := hv
/-- an operation that gives a value and leaves the world as it is -/
theorem OpT.val {P : Program} {o : Oper} {vals : List V} {rd : List (Nat × Blk)} {v : V}
    (h : ∀ (β : Bt) (fz : Fz) (own : Nat → Prop) (a : Act) (w : World), FzOk fz w → (∀ x ∈ rd, HRep β fz w own x.1 x.2) → (∀ (j : Nat) (x : Operand) (v : V), o.op.operands[j]? = some x → vals[j]? = some v → RepV β fz v (a.eval x)) →
      ∃ u, (execOp a.eval o).run P w = .ok (.value u) w ∧ RepV β fz v u) : OpT P o ⟨vals, rd, [], [], [], v⟩ := by
  intro β fz own a w hok _ hrd _ _ _ _ hv next Q hn
  obtain ⟨u, h1, h2⟩ := h β fz own a w hok hrd hv
  unfold Oper.wp
  rw [h1, Oper.upon_value]
  exact hn u β fz w (Post.same hok h2)

/-- what 'Xo.ok' asks of one outcome -/
structure Ok (P : Program) (s : LS) (new : Nat) (o : Oper) (e : Eff) : Prop where
  op : OpT P o e
  len : e.vals.length = o.op.operands.size
  vals : ∀ (j : Nat) (x : Operand) (v : V), o.op.operands[j]? = some x → e.vals[j]? = some v → s.ev x = some v
  rd : ∀ x ∈ e.rd, s.blk x.1 = some x.2
  hp : ∀ x ∈ e.hp, s.blk x.1 = some x.2
  news : ∀ h ∈ e.news, h = new
  outs : ∀ x ∈ e.out, x.1 ∈ e.news ∨ ∃ z ∈ e.hp, z.1 = x.1
theorem vals1 {s : LS} {ops : Array Operand} {x : Operand} {v : V} (ho : ops = #[x]) (h : s.ev x = some v) : [v].length = ops.size ∧ ∀ (j : Nat) (y : Operand) (u : V), ops[j]? = some y → [v][j]? = some u → s.ev y = some u := by
  subst ho
  refine ⟨rfl, fun j y u h1 h2 => ?_⟩
  match j with
  | 0 => simp at h1 h2; subst h1; subst h2; exact h
  | j + 1 => simp at h2
theorem vals2 {s : LS} {ops : Array Operand} {x y : Operand} {v u : V} (ho : ops = #[x, y]) (h : s.ev x = some v) (h' : s.ev y = some u) : [v, u].length = ops.size ∧ ∀ (j : Nat) (z : Operand) (t : V), ops[j]? = some z → [v, u][j]? = some t → s.ev z = some t := by
  subst ho
  refine ⟨rfl, fun j z t h1 h2 => ?_⟩
  match j with
  | 0 => simp at h1 h2; subst h1; subst h2; exact h
  | 1 => simp at h1 h2; subst h1; subst h2; exact h'
  | j + 2 => simp at h2
theorem vals3 {s : LS} {ops : Array Operand} {x y z : Operand} {v u t : V} (ho : ops = #[x, y, z]) (h : s.ev x = some v) (h' : s.ev y = some u) (h'' : s.ev z = some t) : [v, u, t].length = ops.size ∧ ∀ (j : Nat) (z : Operand) (q : V), ops[j]? = some z → [v, u, t][j]? = some q → s.ev z = some q := by
  subst ho
  refine ⟨rfl, fun j z q h1 h2 => ?_⟩
  match j with
  | 0 => simp at h1 h2; subst h1; subst h2; exact h
  | 1 => simp at h1 h2; subst h1; subst h2; exact h'
  | 2 => simp at h1 h2; subst h1; subst h2; exact h''
  | j + 3 => simp at h2
def LS.evs (s : LS) : List Operand → Option (List V)
  | [] => some []
  | x :: l => match s.ev x, s.evs l with | some v, some vs => some (v :: vs) | _, _ => none
theorem evs_ok {s : LS} : ∀ {l : List Operand} {vs : List V}, s.evs l = some vs → vs.length = l.length ∧ ∀ (j : Nat) (y : Operand) (u : V), l[j]? = some y → vs[j]? = some u → s.ev y = some u
  | [], vs, h => by
    simp only [LS.evs, Option.some.injEq] at h
    subst h
    exact ⟨rfl, fun j y u h => by simp at h⟩
  | x :: l, vs, h => by
    simp only [LS.evs] at h
    split at h
    · rename_i v vs' hx hl
      cases h
      obtain ⟨k1, k2⟩ := evs_ok hl
      refine ⟨by simp [k1], fun j y u h1 h2 => ?_⟩
      cases j with
      | zero => simp at h1 h2; subst h1; subst h2; exact hx
      | succ j => exact k2 j y u (by simpa using h1) (by simpa using h2)
    · cases h
theorem valsL {s : LS} {ops : Array Operand} {l : List Operand} {vs : List V} (ho : ops = l.toArray) (h : s.evs l = some vs) : vs.length = ops.size ∧ ∀ (j : Nat) (y : Operand) (u : V), ops[j]? = some y → vs[j]? = some u → s.ev y = some u := by
  subst ho
  obtain ⟨h1, h2⟩ := evs_ok h
  exact ⟨by simpa using h1, fun j y u a b => h2 j y u (by simpa using a) b⟩
theorem Ok.pure {P : Program} {s : LS} {new : Nat} {o : Oper} {vals : List V} {v : V} (hv : vals.length = o.op.operands.size ∧ ∀ (j : Nat) (x : Operand) (v : V), o.op.operands[j]? = some x → vals[j]? = some v → s.ev x = some v)
    (h : ∀ (β : Bt) (fz : Fz) (a : Act) (w : World), (∀ (j : Nat) (x : Operand) (v : V), o.op.operands[j]? = some x → vals[j]? = some v → RepV β fz v (a.eval x)) → ∃ u, (execOp a.eval o).run P w = .ok (.value u) w ∧ RepV β fz v u) : Ok P s new o (pu vals v) :=
  ⟨OpT.val fun β fz own a w _ _ hh => h β fz a w hh, hv.1, hv.2, (fun x hx => by cases hx), (fun x hx => by cases hx), (fun x hx => by cases hx), (fun x hx => by cases hx)⟩

theorem RepV.int {β : Bt} {fz : Fz} {q : IntKind} {n : Int} {v : Value} (h : RepV β fz (.d (.k q n)) v) : v = .int q n := by
  cases h with
  | d h => cases h; rfl
theorem RepV.bool {β : Bt} {fz : Fz} {p : Bool} {v : Value} (h : RepV β fz (.d (.b p)) v) : v = .bool p := by
  cases h with
  | d h => cases h; rfl
theorem RepV.str {β : Bt} {fz : Fz} {l : List UInt8} {v : Value} (h : RepV β fz (.d (.s l)) v) : v = .string ⟨l.toArray⟩ := by
  cases h with
  | d h => cases h; rfl
theorem RepV.i (β : Bt) (fz : Fz) (q : IntKind) (n : Int) : RepV β fz (.d (.k q n)) (.int q n) := .d (.k q n)
theorem RepV.bb (β : Bt) (fz : Fz) (p : Bool) : RepV β fz (.d (.b p)) (.bool p) := .d (.b p)

section
variable {P : Program} {s : LS} {new : Nat} {dst : Option Tmp} {type : TypeId} {pos : String} {after : Array Edge} {guard : Option (Nat × Bool)}

theorem ok_move {x : Operand} {v : V} (h : s.ev x = some v) : Ok P s new ⟨dst, .move x, type, pos, after, guard⟩ (pu [v] v) :=
  Ok.pure (vals1 rfl h) fun β fz a w hv => ⟨a.eval x, rfl, hv 0 x v rfl rfl⟩
theorem ok_assign {x : Operand} {v : V} (h : s.ev x = some v) : Ok P s new ⟨dst, .assign x, type, pos, after, guard⟩ (pu [v] v) :=
  Ok.pure (vals1 rfl h) fun β fz a w hv => ⟨a.eval x, rfl, hv 0 x v rfl rfl⟩
theorem ok_pick {c x y : Operand} {p : Bool} {vx vy : V} (hc : s.ev c = some (.d (.b p))) (hx : s.ev x = some vx) (hy : s.ev y = some vy) : Ok P s new ⟨dst, .pick c x y, type, pos, after, guard⟩ (pu [.d (.b p), vx, vy] (pk p vx vy)) :=
  Ok.pure (vals3 rfl hc hx hy) fun β fz a w hv => by
    have hp := (hv 0 c _ rfl rfl).bool
    refine ⟨if p then a.eval x else a.eval y, ?_, ?_⟩
    · simp only [execOp, hp]
      generalize a.eval x = u1; generalize a.eval y = u2
      simp [asBool, go_sem]
    · cases p
      · exact hv 2 y vy rfl rfl
      · exact hv 1 x vx rfl rfl

/-! ### numbers -/
theorem run_val {f : Operand → Value} {o : Oper} {w w' : World} {sv : Sem Value} {u : Value} (h : execOp f o = (do pure (.value (← sv)))) (hs : sv.run P w = .ok u w') : (execOp f o).run P w = .ok (.value u) w' := by
  rw [h]
  simp [hs, go_sem]
theorem eqGuard_int {op : BinOp} {t : TypeId} {x y : Operand} {q r : IntKind} {m n : Int} (w : World) : (eqGuard op t x y (.int q m) (.int r n)).run P w = .ok () w := by
  unfold eqGuard
  split <;> rfl
theorem run_bin {op : BinOp} {t yt : TypeId} {x y : Operand} {f : Operand → Value} {w : World} {u : Value} (hg : (eqGuard op t x y (f x) (f y)).run P w = .ok () w) (h : (binOp op t (f x) (f y)).run P w = .ok u w) :
    (execOp f ⟨dst, .binOp op t x y yt, type, pos, after, guard⟩).run P w = .ok (.value u) w := by
  refine run_val (sv := do eqGuard op t x y (f x) (f y); binOp op t (f x) (f y)) rfl ?_
  simp [hg, h, go_sem]
instance fitsDec : (q : IntKind) → (n : Int) → Decidable (fits q n)
  | .i64, n => by unfold fits; infer_instance
  | .i32, n => by unfold fits; infer_instance
  | .i16, n => by unfold fits; infer_instance
  | .i8, n => by unfold fits; infer_instance
  | .u64, n => by unfold fits; infer_instance
  | .u32, n => by unfold fits; infer_instance
  | .u16, n => by unfold fits; infer_instance
  | .u8, n => by unfold fits; infer_instance
def arithC (op : BinOp) (q : IntKind) (m n : Int) : Option (Bool × Int) := match op with
  | .add => some (decide (fits q (m + n)), m + n)
  | .sub => some (decide (fits q (m - n)), m - n)
  | .mul => some (decide (fits q (m * n)), m * n)
  | .quo => some (decide (n ≠ 0 ∧ fits q (m.tdiv n)), m.tdiv n)
  | .rem => some (decide (n ≠ 0), m.tmod n)
  | _ => none
def cmpC (op : BinOp) (m n : Int) : Option Bool := match op with
  | .eql => some (decide (m = n))
  | .neq => some (!decide (m = n))
  | .lss => some (decide (m < n))
  | .leq => some (decide (m ≤ n))
  | .gtr => some (decide (n < m))
  | .geq => some (decide (n ≤ m))
  | _ => none
theorem ok_arith {op : BinOp} {t yt : TypeId} {x y : Operand} {q : IntKind} {m n z : Int} {c : Bool} (hx : s.ev x = some (.d (.k q m))) (hy : s.ev y = some (.d (.k q n))) (he : arithC op q m n = some (c, z)) (hc : c = true) :
    Ok P s new ⟨dst, .binOp op t x y yt, type, pos, after, guard⟩ (pu [.d (.k q m), .d (.k q n)] (.d (.k q z))) :=
  Ok.pure (vals2 rfl hx hy) fun β fz a w hv => by
    have h1 := (hv 0 x _ rfl rfl).int
    have h2 := (hv 1 y _ rfl rfl).int
    refine ⟨.int q z, run_bin (by rw [h1, h2]; exact eqGuard_int w) ?_, .i _ _ _ _⟩
    rw [h1, h2]
    cases op <;> simp only [arithC, Option.some.injEq, Prod.mk.injEq, reduceCtorEq] at he <;> obtain ⟨rfl, rfl⟩ := he <;> replace hc := of_decide_eq_true hc
    · simp [binOp, Op.intArith, fits_wrap hc, go_sem]
    · simp [binOp, Op.intArith, fits_wrap hc, go_sem]
    · simp [binOp, Op.intArith, fits_wrap hc, go_sem]
    · simp [binOp, Op.intDiv, hc.1, fits_wrap hc.2, go_sem]
    · simp [binOp, Op.intDiv, hc, go_sem]
theorem ok_cmp {op : BinOp} {t yt : TypeId} {x y : Operand} {q : IntKind} {m n : Int} {z : Bool} (hx : s.ev x = some (.d (.k q m))) (hy : s.ev y = some (.d (.k q n))) (he : cmpC op m n = some z) :
    Ok P s new ⟨dst, .binOp op t x y yt, type, pos, after, guard⟩ (pu [.d (.k q m), .d (.k q n)] (.d (.b z))) :=
  Ok.pure (vals2 rfl hx hy) fun β fz a w hv => by
    have h1 := (hv 0 x _ rfl rfl).int
    have h2 := (hv 1 y _ rfl rfl).int
    refine ⟨.bool z, run_bin (by rw [h1, h2]; exact eqGuard_int w) ?_, .bb _ _ _⟩
    rw [h1, h2]
    cases op <;> simp only [cmpC, Option.some.injEq, reduceCtorEq] at he <;> subst he <;> simp [binOp, Op.intCmp, go_sem]
    · rw [Bool.eq_iff_iff]; simp
    · rw [Bool.eq_iff_iff]; simp

/-! ### strings -/
theorem eqGuard_str {op : BinOp} {t : TypeId} {x y : Operand} {m n : ByteArray} (w : World) : (eqGuard op t x y (.string m) (.string n)).run P w = .ok () w := by
  unfold eqGuard
  split <;> rfl
def strC (op : BinOp) (m n : List UInt8) : Option (Bool × D) := match op with
  | .add => some (decide (((m.length + n.length : Nat) : Int) ≤ 9223372036854775807), .s (m ++ n))
  | .eql => some (true, .b (m == n))
  | .neq => some (true, .b (!(m == n)))
  | _ => none
theorem ok_str {op : BinOp} {t yt : TypeId} {x y : Operand} {m n : List UInt8} {z : D} {c : Bool} (hx : s.ev x = some (.d (.s m))) (hy : s.ev y = some (.d (.s n))) (he : strC op m n = some (c, z)) (hc : c = true) :
    Ok P s new ⟨dst, .binOp op t x y yt, type, pos, after, guard⟩ (pu [.d (.s m), .d (.s n)] (.d z)) :=
  Ok.pure (vals2 rfl hx hy) fun β fz a w hv => by
    have h1 := (hv 0 x _ rfl rfl).str
    have h2 := (hv 1 y _ rfl rfl).str
    have hg : (eqGuard op t x y (a.eval x) (a.eval y)).run P w = .ok () w := by rw [h1, h2]; exact eqGuard_str w
    cases op <;> simp only [strC, Option.some.injEq, Prod.mk.injEq, reduceCtorEq] at he <;> obtain ⟨rfl, rfl⟩ := he
    · replace hc := of_decide_eq_true hc
      refine ⟨.string ⟨(m ++ n).toArray⟩, run_bin hg ?_, .d (.s _)⟩
      rw [h1, h2]
      have : ((ByteArray.mk m.toArray).size + (ByteArray.mk n.toArray).size : Nat) = m.length + n.length := rfl
      have hk : ¬ ((((ByteArray.mk m.toArray).size + (ByteArray.mk n.toArray).size : Nat) : Int) > IntKind.i64.max) := by rw [this]; simp [IntKind.max, IntKind.signed, IntKind.bits]; omega
      have he : ByteArray.mk m.toArray ++ ByteArray.mk n.toArray = ⟨(m ++ n).toArray⟩ := by
        apply ByteArray.ext
        rw [ByteArray.data_append]
        simp
      simp only [binOp, Op.stringOp, if_neg hk, he]
      rfl
    · refine ⟨.bool (m == n), run_bin hg ?_, .d (.b _)⟩
      rw [h1, h2]
      simp [binOp, Op.stringOp, go_sem]
    · refine ⟨.bool (!(m == n)), run_bin hg ?_, .d (.b _)⟩
      rw [h1, h2]
      simp [binOp, Op.stringOp, go_sem]

theorem eqGuard_bool {op : BinOp} {t : TypeId} {x y : Operand} {m n : Bool} (w : World) : (eqGuard op t x y (.bool m) (.bool n)).run P w = .ok () w := by
  unfold eqGuard
  split <;> rfl
def isBoolT (P : Program) (t : TypeId) : Bool := match P.underlying t with | some .bool => true | _ => false
theorem ok_beq {t yt : TypeId} {x y : Operand} {m n : Bool} (hx : s.ev x = some (.d (.b m))) (hy : s.ev y = some (.d (.b n))) (ht : isBoolT P t = true) :
    Ok P s new ⟨dst, .binOp .eql t x y yt, type, pos, after, guard⟩ (pu [.d (.b m), .d (.b n)] (.d (.b (m == n)))) :=
  Ok.pure (vals2 rfl hx hy) fun β fz a w hv => by
    have h1 := (hv 0 x _ rfl rfl).bool
    have h2 := (hv 1 y _ rfl rfl).bool
    have hu : P.underlying t = some .bool := by
      unfold isBoolT at ht
      split at ht
      · assumption
      · cases ht
    refine ⟨.bool (m == n), run_bin (by rw [h1, h2]; exact eqGuard_bool w) ?_, .bb _ _ _⟩
    rw [h1, h2]
    have he : (Op.equal t (.bool m) (.bool n)).run P w = .ok (m == n) w := by
      unfold Op.equal Op.maxDepth Op.equalIn
      simp only [Sem.run_bind, run_underlying hu, Result.andThen_ok]
      rfl
    show (do pure (Value.bool (← Op.equal t (.bool m) (.bool n))) : Sem Value).run P w = _
    simp only [Sem.run_bind, he, Result.andThen_ok]
    rfl

theorem ok_not {t : TypeId} {x : Operand} {p : Bool} (hx : s.ev x = some (.d (.b p))) : Ok P s new ⟨dst, .unOp .not t x, type, pos, after, guard⟩ (pu [.d (.b p)] (.d (.b (!p)))) :=
  Ok.pure (vals1 rfl hx) fun β fz a w hv => ⟨.bool (!p), by
    refine run_val (sv := Op.unary .not (a.eval x)) rfl ?_
    rw [(hv 0 x _ rfl rfl).bool]; rfl, .bb _ _ _⟩
theorem ok_neg {t : TypeId} {x : Operand} {q : IntKind} {n : Int} (hx : s.ev x = some (.d (.k q n))) (hc : fits q (-n)) : Ok P s new ⟨dst, .unOp .neg t x, type, pos, after, guard⟩ (pu [.d (.k q n)] (.d (.k q (-n)))) :=
  Ok.pure (vals1 rfl hx) fun β fz a w hv => ⟨.int q (-n), by
    refine run_val (sv := Op.unary .neg (a.eval x)) rfl ?_
    rw [(hv 0 x _ rfl rfl).int]
    have := fits_wrap hc
    simp [Op.unary, Op.intArith, this, go_sem], .i _ _ _ _⟩

/-! ### parts -/
theorem ok_extractV {x : Operand} {i : Nat} {cs : List V} {v : V} (hx : s.ev x = some (.tup cs)) (hi : cs[i]? = some v) : Ok P s new ⟨dst, .extract x i, type, pos, after, guard⟩ (pu [.tup cs] v) :=
  Ok.pure (vals1 rfl hx) fun β fz a w hv => by
    have h1 := hv 0 x _ rfl rfl
    generalize hu : a.eval x = u at h1
    cases h1 with
    | @tup _ vs hl h =>
      have hlt : i < vs.size := by rw [hl]; exact (List.getElem?_eq_some_iff.1 hi).1
      refine ⟨vs[i], run_val (sv := Instr.extract (a.eval x) i) rfl ?_, h i v _ hi (Array.getElem?_eq_getElem hlt)⟩
      rw [hu]
      simp [Instr.extract, Array.getElem?_eq_getElem hlt, go_sem]
theorem ok_extractD {x : Operand} {i : Nat} {cs : List D} {d : D} (hx : s.ev x = some (.d (.tup cs))) (hi : cs[i]? = some d) : Ok P s new ⟨dst, .extract x i, type, pos, after, guard⟩ (pu [.d (.tup cs)] (.d d)) :=
  Ok.pure (vals1 rfl hx) fun β fz a w hv => by
    have h1 := hv 0 x _ rfl rfl
    generalize hu : a.eval x = u at h1
    cases h1 with
    | d h1 =>
      cases h1 with
      | @tup _ vs hl h =>
        have hlt : i < vs.size := by rw [hl]; exact (List.getElem?_eq_some_iff.1 hi).1
        refine ⟨vs[i], run_val (sv := Instr.extract (a.eval x) i) rfl ?_, .d (h i d _ hi (Array.getElem?_eq_getElem hlt))⟩
        rw [hu]
        simp [Instr.extract, Array.getElem?_eq_getElem hlt, go_sem]
/-- pointers and functions are no nil -/
def noNil : V → Bool
  | .p _ _ | .q _ _ _ _ | .fn (.func _) _ _ | .d (.fn (.func _) _ _) => true
  | _ => false
theorem ok_nilCheck {x : Operand} {v : V} (hx : s.ev x = some v) (hn : noNil v = true) : Ok P s new ⟨dst, .nilCheck x, type, pos, after, guard⟩ (pu [v] v) :=
  Ok.pure (vals1 rfl hx) fun β fz a w hv => by
    have h1 := hv 0 x _ rfl rfl
    refine ⟨a.eval x, ?_, h1⟩
    generalize hu : a.eval x = u at h1
    simp only [execOp, hu]
    cases h1 with
    | p h => rfl
    | q => rfl
    | @fn f _ _ _ _ => cases f <;> simp only [noNil] at hn <;> first | rfl | cases hn
    | d h =>
      cases h with
      | @fn f _ _ _ _ => cases f <;> simp only [noNil] at hn <;> first | rfl | cases hn
      | _ => cases hn
    | _ => cases hn

theorem ok_makeFunc {f : Fn} {first cap : Array Operand} {vs cs : List V} (hf : s.evs first.toList = some vs) (hc : s.evs cap.toList = some cs) :
    Ok P s new ⟨dst, .makeFunc f first cap, type, pos, after, guard⟩ (pu (vs ++ cs) (.fn f vs cs)) := by
  obtain ⟨f1, f2⟩ := evs_ok hf
  obtain ⟨c1, c2⟩ := evs_ok hc
  simp only [Array.length_toList] at f1 c1
  refine Ok.pure ⟨by simp [Op.operands, f1, c1], fun j x v h1 h2 => ?_⟩ fun β fz a w hv => ?_
  · simp only [Op.operands] at h1
    by_cases hj : j < first.size
    · rw [Array.getElem?_append_left hj] at h1
      rw [List.getElem?_append_left (by omega)] at h2
      exact f2 j x v (by simpa using h1) h2
    · rw [Array.getElem?_append_right (by omega)] at h1
      rw [List.getElem?_append_right (by omega)] at h2
      exact c2 (j - first.size) x v (by simpa using h1) (by rw [f1] at h2; exact h2)
  · refine ⟨.func f (first.map a.eval) (cap.map a.eval), rfl, .fn (by simp [f1]) (fun j d u h1 h2 => ?_) (by simp [c1]) (fun j d u h1 h2 => ?_)⟩
    · simp only [Array.getElem?_map, Option.map_eq_some_iff] at h2
      obtain ⟨x, h2, rfl⟩ := h2
      have hj : j < first.size := (Array.getElem?_eq_some_iff.1 h2).1
      exact hv j x d (by simp only [Op.operands]; rw [Array.getElem?_append_left hj]; exact h2) (by rw [List.getElem?_append_left (by omega)]; exact h1)
    · simp only [Array.getElem?_map, Option.map_eq_some_iff] at h2
      obtain ⟨x, h2, rfl⟩ := h2
      exact hv (first.size + j) x d (by simp only [Op.operands]; rw [Array.getElem?_append_right (by omega), Nat.add_sub_cancel_left]; exact h2) (by rw [List.getElem?_append_right (by omega), f1, Nat.add_sub_cancel_left]; exact h1)
end
end Go.Lm
/- The logical machine: operations on memory. -/
set_option linter.constructorNameAsVariable false
namespace Go.Lm
open Go Go.RowKit

/-! ### lists of values -/
def RepL (β : Bt) (fz : Fz) (cs : List V) (us : List Value) : Prop := us.length = cs.length ∧ ∀ (j : Nat) (d : V) (u : Value), cs[j]? = some d → us[j]? = some u → RepV β fz d u
theorem RepVs.list {β : Bt} {fz : Fz} {cs : List V} {us : Array Value} (h : RepVs β fz cs us) : RepL β fz cs us.toList := ⟨by simpa using h.1, fun j d u a b => h.2 j d u a (by simpa using b)⟩
theorem RepL.arr {β : Bt} {fz : Fz} {cs : List V} {us : List Value} (h : RepL β fz cs us) : RepVs β fz cs us.toArray := ⟨by simpa using h.1, fun j d u a b => h.2 j d u a (by simpa using b)⟩
theorem RepL.append {β : Bt} {fz : Fz} {a b : List V} {ua ub : List Value} (h : RepL β fz a ua) (k : RepL β fz b ub) : RepL β fz (a ++ b) (ua ++ ub) := by
  refine ⟨by simp [h.1, k.1], fun j d u h1 h2 => ?_⟩
  by_cases hj : j < a.length
  · rw [List.getElem?_append_left hj] at h1
    rw [List.getElem?_append_left (by rw [h.1]; exact hj)] at h2
    exact h.2 j d u h1 h2
  · rw [List.getElem?_append_right (by omega)] at h1
    rw [List.getElem?_append_right (by rw [h.1]; omega)] at h2
    exact k.2 _ d u h1 (by rw [h.1] at h2; exact h2)
theorem RepL.take {β : Bt} {fz : Fz} {a : List V} {ua : List Value} (h : RepL β fz a ua) (n : Nat) : RepL β fz (a.take n) (ua.take n) := by
  refine ⟨by simp [h.1], fun j d u h1 h2 => ?_⟩
  rw [List.getElem?_take] at h1 h2
  split at h1
  · rename_i hj
    rw [if_pos hj] at h2
    exact h.2 j d u h1 h2
  · cases h1
theorem RepL.drop {β : Bt} {fz : Fz} {a : List V} {ua : List Value} (h : RepL β fz a ua) (n : Nat) : RepL β fz (a.drop n) (ua.drop n) := by
  refine ⟨by simp [h.1], fun j d u h1 h2 => ?_⟩
  rw [List.getElem?_drop] at h1 h2
  exact h.2 _ d u h1 h2
theorem RepL.one {β : Bt} {fz : Fz} {d : V} {u : Value} (h : RepV β fz d u) : RepL β fz [d] [u] := ⟨rfl, fun j d' u' h1 h2 => by
  match j with
  | 0 => simp at h1 h2; subst h1; subst h2; exact h
  | j + 1 => simp at h1⟩
theorem RepL.nil (β : Bt) (fz : Fz) : RepL β fz [] [] := ⟨rfl, fun j d u h => by simp at h⟩
theorem constV_rep (β : Bt) (fz : Fz) (c : Value) : RepV β fz (constV c) c := by
  unfold constV
  split
  · exact .d (.k _ _)
  · exact .d (.b _)
  · rename_i x
    exact .d (.s x.data.toList)
  · exact .d .nil
  · exact .d (.raw _)
theorem RepL.consts (β : Bt) (fz : Fz) (us : List Value) : RepL β fz (us.map constV) us := ⟨by simp, fun j d u h1 h2 => by
  rw [List.getElem?_map, h2] at h1
  cases h1
  exact constV_rep β fz u⟩

/-- the cells of a value -/
def oneD : D → Bool
  | .agg _ | .tup _ => false
  | .raw x => x.oneCell'
  | _ => true
def oneV : V → Bool
  | .d x => oneD x
  | .agg _ | .tup _ | .u => false
  | _ => true
def cellsV : V → Option (List V)
  | .agg cs => if cs.all oneV then some cs else none
  | .d (.agg ds) => if ds.all oneD then some (ds.map .d) else none
  | v => if oneV v then some [v] else none
theorem oneD_ok {fz : Fz} {d : D} {v : Value} (h : RepD fz d v) (ho : oneD d = true) : v.oneCell' = true := by
  cases h <;> first | rfl | exact ho | cases ho
theorem oneV_ok {β : Bt} {fz : Fz} {d : V} {v : Value} (h : RepV β fz d v) (ho : oneV d = true) : v.oneCell' = true := by
  cases h <;> first | rfl | cases ho | skip
  · rename_i h; exact oneD_ok h ho
  · rename_i h; cases h; rfl
theorem cells_one {v : Value} (h : v.oneCell' = true) : v.cells = #[v] := by
  cases v <;> first | rfl | cases h
theorem cellsV_ok {β : Bt} {fz : Fz} {x : V} {cs : List V} {v : Value} (h : RepV β fz x v) (hc : cellsV x = some cs) : RepL β fz cs v.cells.toList ∧ ∀ u ∈ v.cells.toList, u.oneCell' = true := by
  have single : ∀ x : V, RepV β fz x v → oneV x = true → cs = [x] → RepL β fz cs v.cells.toList ∧ ∀ u ∈ v.cells.toList, u.oneCell' = true := fun x h ho e => by
    have hv := oneV_ok h ho
    rw [cells_one hv, e]
    exact ⟨RepL.one h, fun u hu => by simp at hu; subst hu; exact hv⟩
  have rest : (if oneV x then some [x] else none) = some cs → RepL β fz cs v.cells.toList ∧ ∀ u ∈ v.cells.toList, u.oneCell' = true := fun e => by
    split at e
    · rename_i ho
      cases e
      exact single x h ho rfl
    · cases e
  cases x with
  | agg l =>
    simp only [cellsV] at hc
    split at hc
    · rename_i ho
      cases hc
      cases h with
      | @agg _ vs hl h =>
        have hr : RepVs β fz cs vs := ⟨hl, h⟩
        refine ⟨hr.list, fun u hu => ?_⟩
        obtain ⟨j, hj, e⟩ := List.getElem_of_mem hu
        have hj' : j < cs.length := by have := hr.list.1; simp only [Value.cells] at hj; omega
        refine oneV_ok (hr.list.2 j cs[j] u (List.getElem?_eq_getElem hj') (by rw [← e]; exact List.getElem?_eq_getElem hj)) ?_
        exact List.all_eq_true.1 ho _ (List.getElem_mem hj')
    · cases hc
  | d x =>
    cases x with
    | agg ds =>
      simp only [cellsV] at hc
      split at hc
      · rename_i ho
        cases hc
        cases h with
        | d h =>
          cases h with
          | @agg _ vs hl h =>
            refine ⟨⟨by simpa [Value.cells] using hl, fun j d u h1 h2 => ?_⟩, fun u hu => ?_⟩
            · rw [List.getElem?_map] at h1
              simp only [Option.map_eq_some_iff] at h1
              obtain ⟨d', h1, rfl⟩ := h1
              exact .d (h j d' u h1 (by simpa [Value.cells] using h2))
            · obtain ⟨j, hj, e⟩ := List.getElem_of_mem hu
              simp only [Value.cells, Array.length_toList] at hj
              have hj' : j < ds.length := by omega
              refine oneD_ok (h j ds[j] u (List.getElem?_eq_getElem hj') (by rw [← e]; simp [Value.cells, hj])) ?_
              exact List.all_eq_true.1 ho _ (List.getElem_mem hj')
      · cases hc
    | _ => exact rest hc
  | _ => exact rest hc

/-! ### new blocks -/
def upd (β : Bt) (new : Nat) (x : Value) : Bt := fun h => if h = new then some x else β h
theorem upd_le {β : Bt} {new : Nat} {x : Value} (h : β new = none) : Bt.Le β (upd β new x) := fun k y e => by
  unfold upd
  split
  · rename_i hk; subst hk; rw [h] at e; cases e
  · exact e
theorem upd_same (β : Bt) (new : Nat) (x : Value) : upd β new x new = some x := by simp [upd]
theorem FzOk.new {fz : Fz} {w : World} (h : FzOk fz w) (b o : Nat) (hb : w.heap.size ≤ b) : fz b o = none := by
  cases hf : fz b o with
  | none => rfl
  | some u =>
    have := h b o u hf
    simp [World.cell?, Array.getElem?_eq_none hb] at this
theorem Post.new {β : Bt} {fz : Fz} {w : World} {own : Nat → Prop} (hok : FzOk fz w) (hown : ∀ k, w.heap.size ≤ k → own k) {new : Nat} (hβ : β new = none) {blk : Blk} {x : Value} {o : Obj} {v : V} {u : Value} (hx : blkOf x = some w.heap.size)
    (hb : HB (upd β new x) fz (w.alloc o) x blk) (hv : RepV (upd β new x) fz v u) : Post β fz w own [] [new] [(new, blk)] v u (upd β new x) fz (w.alloc o) where
  ble := upd_le hβ
  bnew := fun h hh => by simp only [List.mem_singleton] at hh; simp [upd, hh]
  fle := Fz.Le.refl _
  ffr := fun _ _ _ _ => rfl
  ok := fun b o' u h => by
    have := hok b o' u h
    rw [World.cell?_alloc_some _ _ _ (by rw [this]; rfl)]; exact this
  os := rfl
  tape := rfl
  output := rfl
  size := by simp
  frame := fun b hb _ => Below.heap_alloc w _ b hb
  hreps := fun y hy => by
    simp only [List.mem_singleton] at hy
    subst hy
    exact ⟨x, upd_same _ _ _, fun k hk => by rw [hx] at hk; cases hk; exact ⟨hown _ (Nat.le_refl _), by simp⟩, hb⟩
  blks := fun y hy z k h1 h2 => by
    simp only [List.mem_singleton] at hy
    subst hy
    rw [upd_same] at h1; cases h1
    rw [hx] at h2; cases h2
    exact .inl (Nat.le_refl _)
  inj := fun h h' y y' k ⟨z, hz, e⟩ ⟨z', hz', e'⟩ _ _ _ _ => by
    simp only [List.mem_singleton] at hz hz'
    subst hz; subst hz'
    exact e.symm.trans e'
  v := hv

/-- a store into a block of one's own -/
theorem Post.set {β : Bt} {fz : Fz} {w : World} {own : Nat → Prop} (hok : FzOk fz w) {h b : Nat} {cs cs' : List V} {t : TypeId} {us us' : Array Value} (hβ : β h = some (.pointer (some ⟨b, 0, none⟩))) (hown : own b ∧ b < w.heap.size)
    (hw : w.heap[b]? = some (.cells us t (0, 0))) (hf : ∀ o, fz b o = none) (hr : RepVs β fz cs' us') {v : V} {u : Value} (hv : RepV β fz v u) :
    Post β fz w own [(h, .cells cs t)] [] [(h, .cells cs' t)] v u β fz (w.setRow b us') where
  ble := Bt.Le.refl _
  bnew := fun _ _ => rfl
  fle := Fz.Le.refl _
  ffr := fun _ _ _ _ => rfl
  ok := fun b' o u h => by
    have hne : b' ≠ b := fun e => by rw [e, hf] at h; cases h
    rw [cell_setRow_other w b us' ⟨b', o, none⟩ hne]
    exact hok b' o u h
  os := rfl
  tape := rfl
  output := rfl
  size := by simp
  frame := fun k hk hn => setRow_other w b k us' fun e => hn ⟨_, List.mem_singleton.2 rfl, _, hβ, by rw [e]; rfl⟩
  hreps := fun y hy => by
    simp only [List.mem_singleton] at hy
    subst hy
    exact ⟨_, hβ, fun k hk => by cases hk; exact ⟨hown.1, by simpa using hown.2⟩, b, us', rfl, setRow_heap w b us us' t (0, 0) hw, hr, hf⟩
  blks := fun y hy z k h1 h2 => by
    simp only [List.mem_singleton] at hy
    subst hy
    exact .inr ⟨_, List.mem_singleton.2 rfl, z, h1, h2⟩
  inj := fun h h' y y' k ⟨z, hz, e⟩ ⟨z', hz', e'⟩ _ _ _ _ => by
    simp only [List.mem_singleton] at hz hz'
    subst hz; subst hz'
    exact e.symm.trans e'
  v := hv
theorem cells_of {β : Bt} {fz : Fz} {w : World} {own : Nat → Prop} {h : Nat} {cs : List V} {t : TypeId} (hh : HRep β fz w own h (.cells cs t)) {b : Nat} (hb : β h = some (.pointer (some ⟨b, 0, none⟩))) :
    ∃ us, w.heap[b]? = some (.cells us t (0, 0)) ∧ RepVs β fz cs us ∧ (∀ o, fz b o = none) ∧ own b ∧ b < w.heap.size := by
  obtain ⟨x, h1, h2, b', us, rfl, h3, h4, h5⟩ := hh
  rw [hb] at h1; cases h1
  exact ⟨us, h3, h4, h5, h2 b rfl⟩

/-! ### what types say -/
def tsz (P : Program) (t : TypeId) : Option Nat := (P.info? t).map (·.size)
def tag (P : Program) (t : TypeId) : Option Bool := (P.underlying t).map fun d => match d with | .struct _ | .array _ _ => true | _ => false
def tz (P : Program) (t : TypeId) : Option (List V) := ((P.info? t).bind (·.zero)).map fun v => v.cells.toList.map constV
/-- the place of a field -/
def fo (P : Program) (t : TypeId) (f : Nat) : Option Nat := match P.underlying t with
  | some (.struct fs) => match fs[f]? with
    | some x => match tsz P x.type with
      | some (_ + 1) => some x.offset
      | _ => none
    | none => none
  | _ => none
/-- an element's type and size: of a slice, of an array -/
def sel (P : Program) (t : TypeId) : Option Nat := match P.underlying t with
  | some (.slice e) => tsz P e
  | _ => none
def ael (P : Program) (t : TypeId) : Option (Nat × Nat) := match P.underlying t with
  | some (.array n e) => (tsz P e).map fun m => (n, m)
  | _ => none
theorem run_sizeOf' {P : Program} {t n : Nat} (h : tsz P t = some n) (w : World) : (sizeOf t).run P w = .ok n w := by
  unfold tsz at h
  simp only [Option.map_eq_some_iff] at h
  obtain ⟨i, h, rfl⟩ := h
  simp [sizeOf, typeInfo, h, go_sem]
theorem run_isAgg' {P : Program} {t : Nat} {p : Bool} (h : tag P t = some p) (w : World) : (isAgg t).run P w = .ok p w := by
  unfold tag at h
  simp only [Option.map_eq_some_iff] at h
  obtain ⟨d, h, rfl⟩ := h
  unfold isAgg
  simp only [Sem.run_bind, run_underlying h, Result.andThen_ok]
  cases d <;> rfl
theorem run_zero' {P : Program} {t : Nat} {cs : List V} (h : tz P t = some cs) (w : World) : ∃ z, (zeroValue t).run P w = .ok z w ∧ cs = z.cells.toList.map constV := by
  unfold tz at h
  simp only [Option.map_eq_some_iff, Option.bind_eq_some_iff] at h
  obtain ⟨z, ⟨i, h1, h2⟩, rfl⟩ := h
  exact ⟨z, by simp [zeroValue, typeInfo, h1, h2, go_sem], rfl⟩

section
variable {P : Program} {s : LS} {new : Nat} {dst : Option Tmp} {type : TypeId} {pos : String} {after : Array Edge} {guard : Option (Nat × Bool)}
theorem ok_new {o : Oper} {vals : List V} {blk : Blk} {v : V} (hv : vals.length = o.op.operands.size ∧ ∀ (j : Nat) (x : Operand) (v : V), o.op.operands[j]? = some x → vals[j]? = some v → s.ev x = some v)
    (h : ∀ (β : Bt) (fz : Fz) (a : Act) (w : World), FzOk fz w → β new = none → (∀ (j : Nat) (x : Operand) (v : V), o.op.operands[j]? = some x → vals[j]? = some v → RepV β fz v (a.eval x)) →
      ∃ x u ob, blkOf x = some w.heap.size ∧ (execOp a.eval o).run P w = .ok (.value u) (w.alloc ob) ∧ HB (upd β new x) fz (w.alloc ob) x blk ∧ RepV (upd β new x) fz v u) : Ok P s new o ⟨vals, [], [], [new], [(new, blk)], v⟩ := by
  refine ⟨?_, hv.1, hv.2, (fun x hx => by cases hx), (fun x hx => by cases hx), (fun x hx => by simpa using hx), (fun x hx => by simp at hx; subst hx; exact .inl (List.mem_singleton.2 rfl))⟩
  intro β fz own a w hok hown _ _ _ hnew _ hv next Q hn
  have hβ := hnew new (List.mem_singleton.2 rfl)
  obtain ⟨x, u, ob, h1, h2, h3, h4⟩ := h β fz a w hok hβ hv
  unfold Oper.wp
  rw [h2, Oper.upon_value]
  exact hn _ _ _ _ (Post.new hok hown hβ h1 h3 h4)
theorem ok_alloc {t : TypeId} {cs : List V} (hz : tz P t = some cs) : Ok P s new ⟨dst, .alloc t, type, pos, after, guard⟩ ⟨[], [], [], [new], [(new, .cells cs t)], .p new 0⟩ := by
  refine ok_new ⟨rfl, fun j x v h => by simp [Op.operands] at h⟩ fun β fz a w hok hβ hv => ?_
  obtain ⟨z, h1, rfl⟩ := run_zero' hz w
  refine ⟨.pointer (some ⟨w.heap.size, 0, none⟩), .pointer (some ⟨w.heap.size, 0, none⟩), .cells z.cells t, rfl, ?_, ⟨w.heap.size, z.cells, rfl, heap_alloc_new w _, ?_, fun o => hok.new _ o (Nat.le_refl _)⟩, .p (upd_same _ _ _)⟩
  · refine run_val (sv := Instr.alloc t true (.tuple #[])) rfl ?_
    simp [Instr.alloc, h1, newVar, newRow, go_sem]
  · have := (RepL.consts (upd β new (.pointer (some ⟨w.heap.size, 0, none⟩))) fz z.cells.toList).arr
    simpa using this
theorem ok_box {t : TypeId} {x : Operand} {v : V} {cs : List V} (hx : s.ev x = some v) (hc : cellsV v = some cs) : Ok P s new ⟨dst, .box t x, type, pos, after, guard⟩ ⟨[v], [], [], [new], [(new, .cells cs t)], .p new 0⟩ := by
  refine ok_new (vals1 rfl hx) fun β fz a w hok hβ hv => ?_
  have h1 := hv 0 x v rfl rfl
  refine ⟨.pointer (some ⟨w.heap.size, 0, none⟩), .pointer (some ⟨w.heap.size, 0, none⟩), .cells (a.eval x).cells t, rfl, ?_, ⟨w.heap.size, (a.eval x).cells, rfl, heap_alloc_new w _, ?_, fun o => hok.new _ o (Nat.le_refl _)⟩, .p (upd_same _ _ _)⟩
  · refine run_val (sv := Instr.box t (a.eval x)) rfl ?_
    simp [Instr.box, newVar, newRow, go_sem]
  · have := (cellsV_ok (h1.mono (upd_le (x := .pointer (some ⟨w.heap.size, 0, none⟩)) hβ) (Fz.Le.refl _)) hc).1.arr
    simpa using this

/-! ### loads -/
theorem ok_rd {o : Oper} {vals : List V} {h : Nat} {blk : Blk} {v : V} (hv : vals.length = o.op.operands.size ∧ ∀ (j : Nat) (x : Operand) (v : V), o.op.operands[j]? = some x → vals[j]? = some v → s.ev x = some v) (hb : s.blk h = some blk)
    (hh : ∀ (β : Bt) (fz : Fz) (own : Nat → Prop) (a : Act) (w : World), HRep β fz w own h blk → (∀ (j : Nat) (x : Operand) (v : V), o.op.operands[j]? = some x → vals[j]? = some v → RepV β fz v (a.eval x)) →
      ∃ u, (execOp a.eval o).run P w = .ok (.value u) w ∧ RepV β fz v u) : Ok P s new o ⟨vals, [(h, blk)], [], [], [], v⟩ :=
  ⟨OpT.val fun β fz own a w _ hr hv => hh β fz own a w (hr _ (List.mem_singleton.2 rfl)) hv, hv.1, hv.2, (fun x hx => by simp at hx; subst hx; exact hb), (fun x hx => by cases hx), (fun x hx => by cases hx), (fun x hx => by cases hx)⟩
theorem add_off (b o n : Nat) : (⟨b, o, none⟩ : Addr).add n = ⟨b, o + n, none⟩ := by
  unfold Addr.add
  split
  · rename_i h; subst h; rfl
  · rfl
theorem ok_load1 {t : TypeId} {x : Operand} {h off : Nat} {cs : List V} {e : TypeId} {v : V} (hx : s.ev x = some (.p h off)) (hb : s.blk h = some (.cells cs e)) (ha : tag P t = some false) (hv : cs[off]? = some v) :
    Ok P s new ⟨dst, .load t x, type, pos, after, guard⟩ ⟨[.p h off], [(h, .cells cs e)], [], [], [], v⟩ :=
  ok_rd (vals1 rfl hx) hb fun β fz own a w hh hvv => by
    have h1 := hvv 0 x _ rfl rfl
    generalize hu : a.eval x = u at h1
    cases h1 with
    | @p _ _ b hbb =>
      obtain ⟨us, k1, k2, _, _, k3⟩ := cells_of hh hbb
      have hlt : off < us.size := by rw [k2.1]; exact (List.getElem?_eq_some_iff.1 hv).1
      have hc : w.cell? ⟨b, off, none⟩ = some us[off] := by simp [World.cell?, k1, hlt]
      refine ⟨us[off], run_val (sv := Instr.loadAt t (a.eval x)) rfl ?_, k2.2 off v _ hv (Array.getElem?_eq_getElem hlt)⟩
      rw [hu]
      show (loadVar t ⟨b, off, none⟩).run P w = _
      unfold loadVar
      simp only [Sem.run_bind, run_isAgg' ha, Result.andThen_ok, Bool.false_eq_true, if_false]
      rw [run_load, hc]
theorem ok_loadN {t : TypeId} {x : Operand} {h off n : Nat} {cs : List V} {e : TypeId} (hx : s.ev x = some (.p h off)) (hb : s.blk h = some (.cells cs e)) (ha : tag P t = some true) (hn : tsz P t = some n) (hl : off + n ≤ cs.length) :
    Ok P s new ⟨dst, .load t x, type, pos, after, guard⟩ ⟨[.p h off], [(h, .cells cs e)], [], [], [], .agg ((cs.drop off).take n)⟩ :=
  ok_rd (vals1 rfl hx) hb fun β fz own a w hh hvv => by
    have h1 := hvv 0 x _ rfl rfl
    generalize hu : a.eval x = u at h1
    cases h1 with
    | @p _ _ b hbb =>
      obtain ⟨us, k1, k2, _, _, k3⟩ := cells_of hh hbb
      have hr := (k2.list.drop off).take n
      have hlen : ((us.toList.drop off).take n).length = n := by rw [hr.1]; simp; omega
      have hc : ∀ (j : Nat) (v : Value), ((us.toList.drop off).take n)[j]? = some v → w.cell? ((⟨b, off, none⟩ : Addr).add j) = some v := fun j v hj => by
        rw [add_off, show w.cell? ⟨b, off + j, none⟩ = us[off + j]? by simp [World.cell?, k1]]
        rw [List.getElem?_take] at hj
        split at hj
        · rw [List.getElem?_drop] at hj; simpa using hj
        · cases hj
      have hrun := run_loadCells_list (P := P) (w := w) ⟨b, off, none⟩ ((us.toList.drop off).take n) hc
      rw [hlen] at hrun
      refine ⟨.agg ((us.toList.drop off).take n).toArray, run_val (sv := Instr.loadAt t (a.eval x)) rfl ?_, .agg hr.arr.1 hr.arr.2⟩
      rw [hu]
      show (loadVar t ⟨b, off, none⟩).run P w = _
      unfold loadVar
      simp only [Sem.run_bind, run_isAgg' ha, Result.andThen_ok, if_true, run_sizeOf' hn, hrun]
      rfl

theorem q_cells {β : Bt} {fz : Fz} {sz i j : Nat} {rows : List (List D)} {u : Value} (h : RepV β fz (.q sz rows i j) u) {w : World} (hok : FzOk fz w) (hi : i < rows.length) :
    ∃ b off, u = .pointer (some ⟨b, off, none⟩) ∧ ∀ (j' : Nat) (d : D), (rows.getD i [])[j + j']? = some d → ∃ x, w.cell? ⟨b, off + j', none⟩ = some x ∧ RepD fz d x := by
  cases h with
  | @q _ _ _ b off _ u hsz hA hu =>
    refine ⟨b, off + i * sz + j, rfl, fun j' d hd => ?_⟩
    have hr : rows[i]? = some (rows.getD i []) := by simp [List.getD_eq_getElem?_getD, hi]
    have hl : (rows.getD i []).length = sz := hsz _ (List.mem_of_getElem? hr)
    have hlt : j + j' < sz := by rw [← hl]; exact (List.getElem?_eq_some_iff.1 hd).1
    refine ⟨u i (j + j'), ?_, hu i _ _ d hr hd⟩
    rw [Nat.add_assoc (off + i * sz)]
    exact hok _ _ _ (hA i (j + j') hi hlt)
theorem ok_q {o : Oper} {vals : List V} {v : V} (hv : vals.length = o.op.operands.size ∧ ∀ (j : Nat) (x : Operand) (v : V), o.op.operands[j]? = some x → vals[j]? = some v → s.ev x = some v)
    (hh : ∀ (β : Bt) (fz : Fz) (a : Act) (w : World), FzOk fz w → (∀ (j : Nat) (x : Operand) (v : V), o.op.operands[j]? = some x → vals[j]? = some v → RepV β fz v (a.eval x)) →
      ∃ u, (execOp a.eval o).run P w = .ok (.value u) w ∧ RepV β fz v u) : Ok P s new o (pu vals v) :=
  ⟨OpT.val fun β fz own a w hok _ hv => hh β fz a w hok hv, hv.1, hv.2, (fun x hx => by cases hx), (fun x hx => by cases hx), (fun x hx => by cases hx), (fun x hx => by cases hx)⟩
theorem ok_loadQ1 {t : TypeId} {x : Operand} {sz i j : Nat} {rows : List (List D)} {d : D} (hx : s.ev x = some (.q sz rows i j)) (ha : tag P t = some false) (hi : i < rows.length) (hd : (rows.getD i [])[j]? = some d) :
    Ok P s new ⟨dst, .load t x, type, pos, after, guard⟩ (pu [.q sz rows i j] (.d d)) :=
  ok_q (vals1 rfl hx) fun β fz a w hok hv => by
    obtain ⟨b, off, hu, hc⟩ := q_cells (hv 0 x _ rfl rfl) hok hi
    obtain ⟨u, h1, h2⟩ := hc 0 d hd
    refine ⟨u, run_val (sv := Instr.loadAt t (a.eval x)) rfl ?_, .d h2⟩
    rw [hu]
    show (loadVar t ⟨b, off, none⟩).run P w = _
    unfold loadVar
    simp only [Sem.run_bind, run_isAgg' ha, Result.andThen_ok, Bool.false_eq_true, if_false]
    rw [run_load, show w.cell? ⟨b, off, none⟩ = some u from h1]
theorem exists_list {α : Type} {p : Nat → α → Prop} : ∀ (n : Nat), (∀ j, j < n → ∃ x, p j x) → ∃ l : List α, l.length = n ∧ ∀ (j : Nat) (x : α), l[j]? = some x → p j x
  | 0, _ => ⟨[], rfl, fun j x h => by simp at h⟩
  | n + 1, h => by
    obtain ⟨l, h1, h2⟩ := exists_list n fun j hj => h j (by omega)
    obtain ⟨x, hx⟩ := h n (by omega)
    refine ⟨l ++ [x], by simp [h1], fun j y hy => ?_⟩
    by_cases hj : j < n
    · rw [List.getElem?_append_left (by omega)] at hy
      exact h2 j y hy
    · rw [List.getElem?_append_right (by omega), h1] at hy
      have : j - n = 0 := by
        rcases Nat.eq_zero_or_pos (j - n) with h | h
        · exact h
        · rw [List.getElem?_eq_none (by simp; omega)] at hy; cases hy
      rw [this] at hy
      cases hy
      rwa [show j = n by omega]
theorem ok_loadQN {t : TypeId} {x : Operand} {sz i j n : Nat} {rows : List (List D)} (hx : s.ev x = some (.q sz rows i j)) (ha : tag P t = some true) (hn : tsz P t = some n) (hi : i < rows.length) (hl : j + n ≤ (rows.getD i []).length) :
    Ok P s new ⟨dst, .load t x, type, pos, after, guard⟩ (pu [.q sz rows i j] (.d (.agg (((rows.getD i []).drop j).take n)))) :=
  ok_q (vals1 rfl hx) fun β fz a w hok hv => by
    obtain ⟨b, off, hu, hc⟩ := q_cells (hv 0 x _ rfl rfl) hok hi
    have hd : ∀ j', j' < n → (rows.getD i [])[j + j']? = some (rows.getD i [])[j + j']! := fun j' hj' => by
      rw [List.getElem!_eq_getElem?_getD, List.getElem?_eq_getElem (by omega)]; rfl
    obtain ⟨us, h1, h2⟩ := exists_list (p := fun j' x => w.cell? ⟨b, off + j', none⟩ = some x ∧ RepD fz ((rows.getD i [])[j + j']!) x) n fun j' hj' => hc j' _ (hd j' hj')
    have hrun := run_loadCells_list (P := P) (w := w) ⟨b, off, none⟩ us fun j' v hj' => by rw [add_off]; exact (h2 j' v hj').1
    rw [h1] at hrun
    refine ⟨.agg us.toArray, run_val (sv := Instr.loadAt t (a.eval x)) rfl ?_, .d (.agg (by simp only [List.size_toArray, h1, List.length_take, List.length_drop]; omega) fun j' d u a b => ?_)⟩
    · rw [hu]
      show (loadVar t ⟨b, off, none⟩).run P w = _
      unfold loadVar
      simp only [Sem.run_bind, run_isAgg' ha, Result.andThen_ok, if_true, run_sizeOf' hn, hrun]
      rfl
    · have hb : us[j']? = some u := by simpa using b
      have hj' : j' < n := by rw [← h1]; exact (List.getElem?_eq_some_iff.1 hb).1
      have := (h2 j' u hb).2
      rw [List.getElem?_take, if_pos hj', List.getElem?_drop, hd j' hj'] at a
      cases a
      exact this

/-! ### stores -/
def setL (cs : List V) (off : Nat) : List V → List V
  | [x] => cs.set off x
  | xs => cs.take off ++ xs ++ cs.drop (off + xs.length)
theorem setL_eq (cs : List V) (off : Nat) (xs : List V) (h : off + xs.length ≤ cs.length) : setL cs off xs = cs.take off ++ xs ++ cs.drop (off + xs.length) := by
  unfold setL
  split
  · rename_i x
    simp only [List.length_singleton] at h ⊢
    rw [List.set_eq_take_append_cons_drop, if_pos (by omega)]
    simp
  · rfl
theorem ok_store {t : TypeId} {x y : Operand} {h off : Nat} {cs xs : List V} {e : TypeId} {v : V} (hx : s.ev x = some (.p h off)) (hy : s.ev y = some v) (hb : s.blk h = some (.cells cs e)) (hc : cellsV v = some xs) (hn : tsz P t = some xs.length) (hl : off + xs.length ≤ cs.length) :
    Ok P s new ⟨none, .store t x y, type, pos, after, guard⟩ ⟨[.p h off, v], [], [(h, .cells cs e)], [], [(h, .cells (setL cs off xs) e)], .u⟩ := by
  obtain ⟨v1, v2⟩ := vals2 (ops := (Op.store t x y).operands) rfl hx hy
  refine ⟨?_, v1, v2, (fun x hx => by cases hx), (fun x hx => by simp at hx; subst hx; exact hb), (fun x hx => by cases hx), (fun x hx => .inr ⟨_, List.mem_singleton.2 rfl, by simp at hx; subst hx; rfl⟩)⟩
  intro β fz own a w hok hown _ hhp _ _ _ hv next Q hnn
  have h1 := hv 0 x _ rfl rfl
  have h2 := hv 1 y _ rfl rfl
  have hh := hhp _ (List.mem_singleton.2 rfl)
  generalize hu : a.eval x = u at h1
  cases h1 with
  | @p _ _ b hbb =>
    obtain ⟨us, k1, k2, k4, k5, k3⟩ := cells_of hh hbb
    obtain ⟨c1, c2⟩ := cellsV_ok h2 hc
    have hsz : (a.eval y).cells.size = xs.length := by have := c1.1; simpa using this
    have hst := run_storeCells_at P b off e (a.eval y).cells.toList 0 us w k1 (by have := k2.1; simp; omega) c2
    simp only [Nat.add_zero] at hst
    have hr : (execOp a.eval ⟨none, .store t x y, type, pos, after, guard⟩).run P w = .ok .skip (w.setRow b (us.toList.take off ++ (a.eval y).cells.toList ++ us.toList.drop (off + (a.eval y).cells.toList.length)).toArray) := by
      show (do Instr.storeAt t (a.eval x) (a.eval y); pure Next.skip : Sem Next).run P w = _
      have : (Instr.storeAt t (a.eval x) (a.eval y)).run P w = .ok () (w.setRow b (us.toList.take off ++ (a.eval y).cells.toList ++ us.toList.drop (off + (a.eval y).cells.toList.length)).toArray) := by
        rw [hu]
        show (storeVar t ⟨b, off, none⟩ (a.eval y)).run P w = _
        unfold storeVar
        simp only [Sem.run_bind, run_sizeOf' hn, Result.andThen_ok, hsz, ne_eq, not_true_eq_false, if_false]
        exact hst
      simp only [Sem.run_bind, this, Result.andThen_ok]
      rfl
    unfold Oper.wp
    rw [hr, Oper.upon_skip]
    refine hnn _ _ _ _ (Post.set hok hbb ⟨k5, k3⟩ k1 k4 ?_ (.u _))
    have hr := ((k2.list.take off).append c1).append (k2.list.drop (off + xs.length))
    rw [setL_eq cs off xs hl]
    have hlen : (a.eval y).cells.toList.length = xs.length := by simpa using hsz
    rw [hlen]
    exact hr.arr

end
end Go.Lm
/- The logical machine: places, parts, lengths. -/
set_option linter.constructorNameAsVariable false
namespace Go.Lm
open Go Go.RowKit
section
variable {P : Program} {s : LS} {new : Nat} {dst : Option Tmp} {type : TypeId} {pos : String} {after : Array Edge} {guard : Option (Nat × Bool)}

theorem fo_ok {t f n : Nat} (h : fo P t f = some n) (a : Addr) (w : World) : (Instr.fieldAt t (.pointer (some a)) f).run P w = .ok (.pointer (some (a.add n))) w := by
  unfold fo at h
  split at h
  · rename_i fs hu
    split at h
    · rename_i x hx
      split at h
      · rename_i m hm
        cases h
        unfold Instr.fieldAt
        simp only [Sem.run_bind, run_underlying hu, Result.andThen_ok, hx, Instr.sureAddr, Sem.run_pure, fieldPlace, run_sizeOf' hm]
        rfl
      · cases h
    · cases h
  · cases h
theorem ok_fieldP {t : TypeId} {x : Operand} {f h off n : Nat} (hx : s.ev x = some (.p h off)) (hf : fo P t f = some n) : Ok P s new ⟨dst, .fieldAddr t x f, type, pos, after, guard⟩ (pu [.p h off] (.p h (off + n))) :=
  Ok.pure (vals1 rfl hx) fun β fz a w hv => by
    have h1 := hv 0 x _ rfl rfl
    generalize hu : a.eval x = u at h1
    cases h1 with
    | @p _ _ b hb =>
      refine ⟨.pointer (some ⟨b, off + n, none⟩), run_val (sv := Instr.fieldAt t (a.eval x) f) rfl ?_, .p hb⟩
      rw [hu, fo_ok hf, add_off]
theorem ok_fieldQ {t : TypeId} {x : Operand} {f sz i j n : Nat} {rows : List (List D)} (hx : s.ev x = some (.q sz rows i j)) (hf : fo P t f = some n) : Ok P s new ⟨dst, .fieldAddr t x f, type, pos, after, guard⟩ (pu [.q sz rows i j] (.q sz rows i (j + n))) :=
  Ok.pure (vals1 rfl hx) fun β fz a w hv => by
    have h1 := hv 0 x _ rfl rfl
    generalize hu : a.eval x = u at h1
    cases h1 with
    | @q _ _ _ b off _ g hsz hA hg =>
      refine ⟨.pointer (some ⟨b, off + i * sz + (j + n), none⟩), run_val (sv := Instr.fieldAt t (a.eval x) f) rfl ?_, .q g hsz hA hg⟩
      rw [hu, fo_ok hf, add_off, Nat.add_assoc]

/-- the rows behind a slice that is read -/
def rowsV : V → Option (Nat × List (List D))
  | .d (.sl sz rows) => some (sz, rows)
  | .own _ sz rows => some (sz, rows)
  | _ => none
theorem rowsV_ok {β : Bt} {fz : Fz} {v : V} {sz : Nat} {rows : List (List D)} {u : Value} (h : RepV β fz v u) (hr : rowsV v = some (sz, rows)) : RepD fz (.sl sz rows) u := by
  cases v with
  | d x =>
    cases x <;> simp only [rowsV, Option.some.injEq, Prod.mk.injEq, reduceCtorEq] at hr
    obtain ⟨rfl, rfl⟩ := hr
    cases h with
    | d h => exact h
  | own k a b =>
    simp only [rowsV, Option.some.injEq, Prod.mk.injEq] at hr
    obtain ⟨rfl, rfl⟩ := hr
    cases h with
    | own _ h => exact h
  | _ => cases hr
theorem ok_indexS {t : TypeId} {x y : Operand} {q : IntKind} {n : Int} {v : V} {sz : Nat} {rows : List (List D)} (hx : s.ev x = some v) (hy : s.ev y = some (.d (.k q n))) (hr : rowsV v = some (sz, rows)) (ht : sel P t = some sz) (h0 : 0 ≤ n) (hl : n < rows.length) :
    Ok P s new ⟨dst, .indexAddr t x y, type, pos, after, guard⟩ (pu [v, .d (.k q n)] (.q sz rows n.toNat 0)) :=
  Ok.pure (vals2 rfl hx hy) fun β fz a w hv => by
    have h1 := rowsV_ok (hv 0 x _ rfl rfl) hr
    have h2 := (hv 1 y _ rfl rfl).int
    generalize hu : a.eval x = u at h1
    cases h1 with
    | @sl A m c _ _ g hm hc hmm hsz hA ho hg =>
      obtain ⟨b, off, rfl, hA2⟩ := hA (by omega)
      unfold sel at ht
      split at ht
      · rename_i e he
        refine ⟨.pointer (some ⟨b, off + n.toNat * sz + 0, none⟩), run_val (sv := Instr.indexAt t (a.eval x) (a.eval y)) rfl ?_, .q g hsz (by rw [hm]; exact hA2) hg⟩
        rw [hu, h2]
        unfold Instr.indexAt
        have hlt : 0 ≤ n ∧ n < (m : Int) := ⟨h0, by omega⟩
        simp only [Sem.run_bind, asIntOf, Sem.run_pure, Result.andThen_ok, run_underlying he, if_pos hlt, run_sizeOf' ht, add_off]
        rfl
      · cases ht
theorem ok_indexM {t : TypeId} {x y : Operand} {q : IntKind} {n : Int} {h off m : Nat} (hx : s.ev x = some (.ms h off m)) (hy : s.ev y = some (.d (.k q n))) (ht : sel P t = some 1) (h0 : 0 ≤ n) (hl : n < m) :
    Ok P s new ⟨dst, .indexAddr t x y, type, pos, after, guard⟩ (pu [.ms h off m, .d (.k q n)] (.p h (off + n.toNat))) :=
  Ok.pure (vals2 rfl hx hy) fun β fz a w hv => by
    have h1 := hv 0 x _ rfl rfl
    have h2 := (hv 1 y _ rfl rfl).int
    generalize hu : a.eval x = u at h1
    cases h1 with
    | @ms _ _ _ b o c hb hnc ho =>
      obtain rfl := ho (by omega)
      unfold sel at ht
      split at ht
      · rename_i e he
        refine ⟨.pointer (some ⟨b, o + n.toNat, none⟩), run_val (sv := Instr.indexAt t (a.eval x) (a.eval y)) rfl ?_, .p hb⟩
        rw [hu, h2]
        unfold Instr.indexAt
        have hlt : 0 ≤ n ∧ n < (m : Int) := ⟨h0, hl⟩
        simp only [Sem.run_bind, asIntOf, Sem.run_pure, Result.andThen_ok, run_underlying he, if_pos hlt, run_sizeOf' ht, add_off, Nat.mul_one]
      · cases ht
theorem ok_indexA {t : TypeId} {x y : Operand} {q : IntKind} {n : Int} {h off m sz : Nat} (hx : s.ev x = some (.p h off)) (hy : s.ev y = some (.d (.k q n))) (ht : ael P t = some (m, sz)) (h0 : 0 ≤ n) (hl : n < m) :
    Ok P s new ⟨dst, .indexAddr t x y, type, pos, after, guard⟩ (pu [.p h off, .d (.k q n)] (.p h (off + n.toNat * sz))) :=
  Ok.pure (vals2 rfl hx hy) fun β fz a w hv => by
    have h1 := hv 0 x _ rfl rfl
    have h2 := (hv 1 y _ rfl rfl).int
    generalize hu : a.eval x = u at h1
    cases h1 with
    | @p _ _ b hb =>
      unfold ael at ht
      split at ht
      · rename_i k e he
        simp only [Option.map_eq_some_iff, Prod.mk.injEq] at ht
        obtain ⟨z, ht, rfl, rfl⟩ := ht
        refine ⟨.pointer (some ⟨b, off + n.toNat * z, none⟩), run_val (sv := Instr.indexAt t (a.eval x) (a.eval y)) rfl ?_, .p hb⟩
        rw [hu, h2]
        unfold Instr.indexAt
        have hlt : 0 ≤ n ∧ n < (k : Int) := ⟨h0, hl⟩
        simp only [Sem.run_bind, asIntOf, Sem.run_pure, Result.andThen_ok, run_underlying he, if_pos hlt, run_sizeOf' ht, add_off, Instr.sureAddr]
      · cases ht

/-- the cells of an aggregate -/
def aggV : V → Option (List V)
  | .agg cs => some cs
  | .d (.agg ds) => some (ds.map .d)
  | _ => none
theorem aggV_ok {β : Bt} {fz : Fz} {v : V} {cs : List V} {u : Value} (h : RepV β fz v u) (hr : aggV v = some cs) : ∃ us, u = .agg us ∧ RepVs β fz cs us := by
  cases v with
  | agg l =>
    simp only [aggV, Option.some.injEq] at hr
    subst hr
    cases h with
    | @agg _ vs hl h => exact ⟨vs, rfl, hl, h⟩
  | d x =>
    cases x <;> simp only [aggV, Option.some.injEq, reduceCtorEq] at hr
    subst hr
    cases h with
    | d h =>
      cases h with
      | @agg ds vs hl h =>
        refine ⟨vs, rfl, by simpa using hl, fun j d u h1 h2 => ?_⟩
        rw [List.getElem?_map] at h1
        simp only [Option.map_eq_some_iff] at h1
        obtain ⟨d', h1, rfl⟩ := h1
        exact .d (h j d' u h1 h2)
  | _ => cases hr
/-- a part of an aggregate: of n cells, or one that is no aggregate -/
def partV (cs : List V) (off : Nat) : Option Nat → Option V
  | some n => if off + n ≤ cs.length then some (.agg ((cs.drop off).take n)) else none
  | none => cs[off]?
/-- what a load, a field or an element of a type is: some n: an aggregate of n cells -/
def shp (P : Program) (t : TypeId) : Option (Option Nat) := match tag P t, tsz P t with
  | some true, some n => some (some n)
  | some false, some _ => some none
  | _, _ => none
theorem shp_agg {t n : Nat} (h : shp P t = some (some n)) : tag P t = some true ∧ tsz P t = some n := by
  unfold shp at h
  split at h <;> first | (rename_i h1 h2; cases h; exact ⟨h1, h2⟩) | cases h
theorem shp_one {t : Nat} (h : shp P t = some none) : tag P t = some false := by
  unfold shp at h
  split at h <;> first | (rename_i h1 h2; exact h1) | cases h
theorem part_ok {β : Bt} {fz : Fz} {cs : List V} {us : Array Value} (h : RepVs β fz cs us) {t off : Nat} {m : Option Nat} {v : V} (hs : shp P t = some m) (hv : partV cs off m = some v) (w : World) :
    ∃ u, (part t us off).run P w = .ok u w ∧ RepV β fz v u := by
  cases m with
  | none =>
    simp only [partV] at hv
    have hlt : off < us.size := by rw [h.1]; exact (List.getElem?_eq_some_iff.1 hv).1
    refine ⟨us[off], ?_, h.2 off v _ hv (Array.getElem?_eq_getElem hlt)⟩
    unfold part
    simp only [Sem.run_bind, run_isAgg' (shp_one hs), Result.andThen_ok, Bool.false_eq_true, if_false, Array.getElem?_eq_getElem hlt]
    rfl
  | some n =>
    simp only [partV] at hv
    split at hv
    · rename_i hl
      cases hv
      obtain ⟨h1, h2⟩ := shp_agg hs
      have hr := ((h.list.drop off).take n).arr
      have he : us.extract off (off + n) = ((us.toList.drop off).take n).toArray := by
        apply Array.ext'
        simp [Array.toList_extract, List.extract_eq_take_drop]
      refine ⟨.agg (us.extract off (off + n)), ?_, .agg (by rw [he]; exact hr.1) (by rw [he]; exact hr.2)⟩
      unfold part
      simp only [Sem.run_bind, run_isAgg' h1, Result.andThen_ok, if_true, run_sizeOf' h2]
      rfl
    · cases hv
/-- a field's place and shape -/
def fsh (P : Program) (t : TypeId) (f : Nat) : Option (Nat × Option Nat) := match P.underlying t with
  | some (.struct fs) => match fs[f]? with
    | some x => (shp P x.type).map fun m => (x.offset, m)
    | none => none
  | _ => none
theorem ok_field {t : TypeId} {x : Operand} {f n : Nat} {m : Option Nat} {v y : V} {cs : List V} (hx : s.ev x = some v) (hc : aggV v = some cs) (hf : fsh P t f = some (n, m)) (hp : partV cs n m = some y) :
    Ok P s new ⟨dst, .field t x f, type, pos, after, guard⟩ (pu [v] y) :=
  Ok.pure (vals1 rfl hx) fun β fz a w hv => by
    obtain ⟨us, hu, hr⟩ := aggV_ok (hv 0 x _ rfl rfl) hc
    unfold fsh at hf
    split at hf
    · rename_i fs hfs
      split at hf
      · rename_i g hg
        simp only [Option.map_eq_some_iff, Prod.mk.injEq] at hf
        obtain ⟨m', hm, rfl, rfl⟩ := hf
        obtain ⟨u, k1, k2⟩ := part_ok hr hm hp w
        refine ⟨u, run_val (sv := Instr.field t (a.eval x) f) rfl ?_, k2⟩
        rw [hu]
        unfold Instr.field
        simp only [Sem.run_bind, run_underlying hfs, Result.andThen_ok, hg, asAgg, Sem.run_pure, k1]
      · cases hf
    · cases hf
/-- an element of an array, its length -/
def esh (P : Program) (t : TypeId) : Option (Nat × Nat × Option Nat) := match P.underlying t with
  | some (.array n e) => match tsz P e, shp P e with
    | some z, some m => some (n, z, m)
    | _, _ => none
  | _ => none
theorem ok_indexV {t : TypeId} {x z : Operand} {q : IntKind} {n : Int} {k sz : Nat} {m : Option Nat} {v y : V} {cs : List V} (hx : s.ev x = some v) (hz : s.ev z = some (.d (.k q n))) (hc : aggV v = some cs) (he : esh P t = some (k, sz, m)) (h0 : 0 ≤ n) (hl : n < k)
    (hp : partV cs (n.toNat * sz) m = some y) : Ok P s new ⟨dst, .index t x z, type, pos, after, guard⟩ (pu [v, .d (.k q n)] y) :=
  Ok.pure (vals2 rfl hx hz) fun β fz a w hv => by
    obtain ⟨us, hu, hr⟩ := aggV_ok (hv 0 x _ rfl rfl) hc
    have h2 := (hv 1 z _ rfl rfl).int
    unfold esh at he
    split at he
    · rename_i k' e hue
      split at he
      · rename_i z' m' hz' hm'
        cases he
        obtain ⟨u, k1, k2⟩ := part_ok hr hm' hp w
        refine ⟨u, run_val (sv := Instr.index t (a.eval x) (a.eval z)) rfl ?_, k2⟩
        rw [hu, h2]
        unfold Instr.index
        have hlt : 0 ≤ n ∧ n < (k : Int) := ⟨h0, hl⟩
        simp only [Sem.run_bind, asIntOf, Sem.run_pure, Result.andThen_ok, run_underlying hue, if_pos hlt, run_sizeOf' hz', k1]
      · cases he
    · cases he
def isStrT (P : Program) (t : TypeId) : Bool := match P.underlying t with | some .string => true | _ => false
theorem isStr_ok {t : TypeId} (h : isStrT P t = true) : P.underlying t = some .string := by
  unfold isStrT at h
  split at h
  · assumption
  · cases h
theorem ok_indexStr {t : TypeId} {x z : Operand} {q : IntKind} {n : Int} {l : List UInt8} (hx : s.ev x = some (.d (.s l))) (hz : s.ev z = some (.d (.k q n))) (ht : isStrT P t = true) (h0 : 0 ≤ n) (hl : n < l.length) :
    Ok P s new ⟨dst, .index t x z, type, pos, after, guard⟩ (pu [.d (.s l), .d (.k q n)] (.d (.k .u8 (l.getD n.toNat 0).toNat))) :=
  Ok.pure (vals2 rfl hx hz) fun β fz a w hv => by
    have h1 := (hv 0 x _ rfl rfl).str
    have h2 := (hv 1 z _ rfl rfl).int
    refine ⟨.int .u8 (l.getD n.toNat 0).toNat, run_val (sv := Instr.index t (a.eval x) (a.eval z)) rfl ?_, .i _ _ _ _⟩
    rw [h1, h2]
    unfold Instr.index
    have hlt : n.toNat < l.length := by omega
    have hb : (ByteArray.mk l.toArray)[n.toNat]? = some l[n.toNat] := (getElem?_pos (ByteArray.mk l.toArray) n.toNat (show n.toNat < (ByteArray.mk l.toArray).size from hlt)).trans rfl
    simp only [Sem.run_bind, asIntOf, Sem.run_pure, Result.andThen_ok, run_underlying (isStr_ok ht), if_pos h0, hb, List.getD_eq_getElem?_getD, List.getElem?_eq_getElem hlt]
    rfl

/-! ### lengths; the greater and the lesser -/
def lenV (P : Program) (t : TypeId) : V → Option Nat
  | .d (.s l) => if isStrT P t then some l.length else none
  | .d .nil => if (sel P t).isSome then some 0 else none
  | .ms _ _ n => if (sel P t).isSome then some n else none
  | v => match rowsV v with
    | some (_, rows) => if (sel P t).isSome then some rows.length else none
    | none => none
theorem sel_slice {t : TypeId} (h : (sel P t).isSome = true) : ∃ e, P.underlying t = some (.slice e) := by
  unfold sel at h
  split at h
  · rename_i e he; exact ⟨e, he⟩
  · cases h
theorem lenV_ok {β : Bt} {fz : Fz} {t ty : TypeId} {v : V} {n : Nat} {u : Value} (h : RepV β fz v u) (hl : lenV P t v = some n) (w : World) : (Builtin.len_ #[t] ty #[u]).run P w = .ok (.int .i64 n) w := by
  have slice : ∀ A m c, (sel P t).isSome = true → u = .slice A m c → m = n → (Builtin.len_ #[t] ty #[u]).run P w = .ok (.int .i64 n) w := fun A m c hs hu hm => by
    obtain ⟨e, he⟩ := sel_slice hs
    subst hu; subst hm
    unfold Builtin.len_
    simp [run_underlying he, go_sem]
  have rows : (match rowsV v with | some (_, rows) => if (sel P t).isSome then some rows.length else none | none => none) = some n → (Builtin.len_ #[t] ty #[u]).run P w = .ok (.int .i64 n) w := fun hl => by
    split at hl
    · rename_i sz rows hr
      split at hl
      · rename_i hs
        cases hl
        have := rowsV_ok h hr
        cases this with
        | @sl A m c _ _ g hm hc hmm hsz hA ho hg => exact slice A m c hs rfl hm.symm
      · cases hl
    · cases hl
  cases v with
  | d x =>
    cases x with
    | s l =>
      simp only [lenV] at hl
      split at hl
      · rename_i hs
        cases hl
        rw [h.str]
        unfold Builtin.len_
        have : (ByteArray.mk l.toArray).size = l.length := rfl
        simp [run_underlying (isStr_ok hs), go_sem, this]
      · cases hl
    | nil =>
      simp only [lenV] at hl
      split at hl
      · rename_i hs
        cases hl
        cases h with
        | d h => cases h; exact slice none 0 0 hs rfl rfl
      · cases hl
    | _ => exact rows hl
  | ms k sz m =>
    simp only [lenV] at hl
    split at hl
    · rename_i hs
      cases hl
      cases h with
      | @ms _ _ _ b hb => exact slice _ _ _ hs rfl rfl
    · cases hl
  | _ => exact rows hl
theorem run_builtin {f : Operand → Value} {w w' : World} {b : Builtin} {args : Array Operand} {tys : Array TypeId} {sv : Sem Value} {u : Value} (h : ∀ consts, builtin b tys type consts (args.map f) = (do pure (.value (← sv)))) (hs : sv.run P w = .ok u w') :
    (execOp f ⟨dst, .call { callee := .builtin b, args := args, argTypes := tys }, type, pos, after, guard⟩).run P w = .ok (.value u) w' := by
  show (do let d ← resolve f { callee := .builtin b, args := args, argTypes := tys } type; invoke d.target d.args : Sem Next).run P w = _
  simp only [resolve, Sem.run_bind, Sem.run_pure, Result.andThen_ok, invoke]
  rw [h]
  simp [hs, go_sem]
theorem ok_len {t : TypeId} {x : Operand} {v : V} {n : Nat} (hx : s.ev x = some v) (hl : lenV P t v = some n) : Ok P s new ⟨dst, .call { callee := .builtin .len, args := #[x], argTypes := #[t] }, type, pos, after, guard⟩ (pu [v] (.d (.k .i64 n))) :=
  Ok.pure (vals1 rfl hx) fun β fz a w hv => ⟨.int .i64 n, run_builtin (sv := Builtin.len_ #[t] type #[a.eval x]) (fun _ => by simp; rfl) (lenV_ok (hv 0 x _ rfl rfl) hl w), .i _ _ _ _⟩
theorem ok_max2 {x y : Operand} {q r : IntKind} {m n : Int} {tys : Array TypeId} (hx : s.ev x = some (.d (.k q m))) (hy : s.ev y = some (.d (.k r n))) : Ok P s new ⟨dst, .call { callee := .builtin .max, args := #[x, y], argTypes := tys }, type, pos, after, guard⟩ (pu [.d (.k q m), .d (.k r n)] (.d (.k q (max m n)))) :=
  Ok.pure (vals2 rfl hx hy) fun β fz a w hv => by
    have h1 := (hv 0 x _ rfl rfl).int
    have h2 := (hv 1 y _ rfl rfl).int
    refine ⟨.int q (max m n), run_builtin (sv := Builtin.max_ tys type #[a.eval x, a.eval y]) (fun _ => by simp; rfl) ?_, .i _ _ _ _⟩
    rw [h1, h2]
    have : (if n > m then n else m) = max m n := by split <;> omega
    simp [Builtin.max_, Builtin.max2, go_sem, this]
theorem ok_min2 {x y : Operand} {q r : IntKind} {m n : Int} {tys : Array TypeId} (hx : s.ev x = some (.d (.k q m))) (hy : s.ev y = some (.d (.k r n))) : Ok P s new ⟨dst, .call { callee := .builtin .min, args := #[x, y], argTypes := tys }, type, pos, after, guard⟩ (pu [.d (.k q m), .d (.k r n)] (.d (.k q (min m n)))) :=
  Ok.pure (vals2 rfl hx hy) fun β fz a w hv => by
    have h1 := (hv 0 x _ rfl rfl).int
    have h2 := (hv 1 y _ rfl rfl).int
    refine ⟨.int q (min m n), run_builtin (sv := Builtin.min_ tys type #[a.eval x, a.eval y]) (fun _ => by simp; rfl) ?_, .i _ _ _ _⟩
    rw [h1, h2]
    have : (if n < m then n else m) = min m n := by split <;> omega
    simp [Builtin.min_, Builtin.min2, go_sem, this]
theorem ok_max3 {x y z : Operand} {q r p : IntKind} {m n k : Int} {tys : Array TypeId} (hx : s.ev x = some (.d (.k q m))) (hy : s.ev y = some (.d (.k r n))) (hz : s.ev z = some (.d (.k p k))) :
    Ok P s new ⟨dst, .call { callee := .builtin .max, args := #[x, y, z], argTypes := tys }, type, pos, after, guard⟩ (pu [.d (.k q m), .d (.k r n), .d (.k p k)] (.d (.k q (max (max m n) k)))) :=
  Ok.pure (vals3 rfl hx hy hz) fun β fz a w hv => by
    have h1 := (hv 0 x _ rfl rfl).int
    have h2 := (hv 1 y _ rfl rfl).int
    have h3 := (hv 2 z _ rfl rfl).int
    refine ⟨.int q (max (max m n) k), run_builtin (sv := Builtin.max_ tys type #[a.eval x, a.eval y, a.eval z]) (fun _ => by simp; rfl) ?_, .i _ _ _ _⟩
    rw [h1, h2, h3]
    have e1 : (if n > m then n else m) = max m n := by split <;> omega
    have e2 : (if k > max m n then k else max m n) = max (max m n) k := by split <;> omega
    simp [Builtin.max_, Builtin.max2, go_sem, e1, e2]
end
end Go.Lm
/- The logical machine: whole structs, equality of structs and with nil. -/
set_option linter.constructorNameAsVariable false
namespace Go.Lm
open Go Go.RowKit
section
variable {P : Program} {s : LS} {new : Nat} {dst : Option Tmp} {type : TypeId} {pos : String} {after : Array Edge} {guard : Option (Nat × Bool)}

def bplf (P : Program) (t : TypeId) : Option (Nat → Option (Nat × Nat)) := match P.info? t, P.underlying t with
  | some _, some (.array _ e) => match P.info? e with
    | some ie => some fun i => some (i * ie.size, ie.size)
    | none => none
  | some _, some (.struct fields) => match fields.toList.mapM (fun f => (P.info? f.type).map fun i => (f.offset, i.size)) with
    | some places => some (places.toArray[·]?)
    | none => none
  | _, _ => none
/-- place and size of a part -/
def bpl (P : Program) (t : TypeId) (i : Nat) : Option (Nat × Nat) := (bplf P t).bind fun f => f i
theorem built_eq {t : TypeId} {zs : List V} {f : Nat → Option (Nat × Nat)} (hz : tz P t = some zs) (hf : bplf P t = some f) (parts : List (Nat × Value)) : ∃ z : Value, zs = z.cells.toList.map constV ∧ P.built t parts = Instr.fill f z.cells parts := by
  unfold tz at hz
  simp only [Option.map_eq_some_iff, Option.bind_eq_some_iff] at hz
  obtain ⟨z, ⟨it, h1, h2⟩, rfl⟩ := hz
  refine ⟨z, rfl, ?_⟩
  unfold bplf at hf
  unfold Program.built
  rw [h1] at hf ⊢
  split at hf
  · rename_i h3 h4
    cases h3
    rw [h4]
    split at hf
    · rename_i ie hie
      cases hf
      simp only [h2, hie]
    · cases hf
  · rename_i h3 h4
    cases h3
    rw [h4]
    split at hf
    · rename_i pl hpl
      cases hf
      simp only [h2, hpl]
    · cases hf
  · cases hf
def bfill (f : Nat → Option (Nat × Nat)) : List V → List (Nat × V) → Option (List V)
  | cs, [] => some cs
  | cs, (i, v) :: l => match f i, cellsV v with
    | some (off, sz), some xs => if xs.length = sz ∧ off + sz ≤ cs.length then bfill f (setL cs off xs) l else none
    | _, _ => none
theorem foldl_set (off : Nat) : ∀ (xs : List Value) (k : Nat) (us : Array Value), off + k + xs.length ≤ us.size →
    ((xs.zipIdx k).foldl (fun cs (c, j) => cs.setIfInBounds (off + j) c) us).toList = us.toList.take (off + k) ++ xs ++ us.toList.drop (off + k + xs.length)
  | [], k, us, _ => by simp
  | x :: xs, k, us, h => by
    simp only [List.zipIdx_cons, List.foldl_cons]
    rw [foldl_set off xs (k + 1) _ (by simp at h ⊢; omega)]
    simp only [Array.toList_setIfInBounds, List.length_cons] at h ⊢
    have hl : off + k < us.toList.length := by simp; omega
    rw [List.set_eq_take_append_cons_drop, if_pos hl]
    have e1 : off + (k + 1) = (us.toList.take (off + k)).length + 1 := by simp; omega
    have h2 : (us.toList.take (off + k)).length = off + k := by simp; omega
    rw [List.take_append, List.drop_append]
    rw [h2, show off + (k + 1) - (off + k) = 1 by omega, show off + (k + 1) + xs.length - (off + k) = xs.length + 1 by omega]
    simp only [List.take_succ_cons, List.take_zero, List.drop_succ_cons, List.drop_drop]
    rw [List.take_of_length_le (show (us.toList.take (off + k)).length ≤ off + (k + 1) by omega), List.drop_of_length_le (show (us.toList.take (off + k)).length ≤ off + (k + 1) + xs.length by omega)]
    simp
    congr 1
    omega
theorem fill_ok {β : Bt} {fz : Fz} {f : Nat → Option (Nat × Nat)} (ev : Operand → Value) : ∀ (ps : List (Nat × Operand)) (vs : List V) (cs cs' : List V) (us : Array Value), RepVs β fz cs us → vs.length = ps.length →
    (∀ (j : Nat) (p : Nat × Operand) (v : V), ps[j]? = some p → vs[j]? = some v → RepV β fz v (ev p.2)) → bfill f cs ((ps.map (·.1)).zip vs) = some cs' →
    ∃ us', Instr.fill f us (ps.map fun p => (p.1, ev p.2)) = some us' ∧ RepVs β fz cs' us'
  | [], vs, cs, cs', us, hr, hl, _, h => by
    simp only [List.map_nil, List.zip_nil_left, bfill, Option.some.injEq] at h
    subst h
    exact ⟨us, rfl, hr⟩
  | p :: ps, [], cs, cs', us, hr, hl, _, h => by simp at hl
  | p :: ps, v :: vs, cs, cs', us, hr, hl, hv, h => by
    simp only [List.map_cons, List.zip_cons_cons, bfill] at h
    split at h
    · rename_i off sz xs hb hc
      split at h
      · rename_i hc2
        obtain ⟨hc2, hc3⟩ := hc2
        have h1 := hv 0 p v rfl rfl
        obtain ⟨c1, c2⟩ := cellsV_ok h1 hc
        have hbf := hb
        have hsz : (ev p.2).cells.size = sz := by have := c1.1; simp at this; omega
        simp only [List.map_cons, Instr.fill, hbf]
        have hus : us.size = cs.length := hr.1
        have hno : ¬ ((ev p.2).cells.size ≠ sz ∨ off + (ev p.2).cells.size > us.size) := by omega
        simp only [hsz, ne_eq, not_true_eq_false, decide_false, Bool.false_or, decide_eq_true_eq]
        rw [if_neg (by omega)]
        refine fill_ok ev ps vs _ cs' _ ?_ (by simpa using hl) (fun j q u a b => hv (j + 1) q u (by simpa using a) (by simpa using b)) h
        have he := foldl_set off (ev p.2).cells.toList 0 us (by simp; omega)
        rw [setL_eq cs off xs (by omega)]
        have hlen : (ev p.2).cells.toList.length = xs.length := by simp; omega
        have hrr := ((hr.list.take off).append c1).append (hr.list.drop (off + xs.length))
        simp only [Nat.add_zero, hlen] at he
        rw [← he] at hrr
        have := hrr.arr
        simp only [Array.toArray_toList] at this
        have e2 : (ev p.2).cells.zipIdx = ((ev p.2).cells.toList.zipIdx 0).toArray := by apply Array.ext'; simp
        rw [e2, List.foldl_toArray']
        · exact this
        · simp
      · cases h
    · cases h
theorem ok_build {t : TypeId} {ps : Array (Nat × Operand)} {vs zs cs : List V} (hv : s.evs (ps.toList.map (·.2)) = some vs) (hz : tz P t = some zs) (hf : (bplf P t).isSome = true) (hb : bfill (bpl P t) zs ((ps.toList.map (·.1)).zip vs) = some cs) :
    Ok P s new ⟨dst, .build t ps, type, pos, after, guard⟩ (pu vs (.agg cs)) :=
  Ok.pure (valsL rfl hv) fun β fz a w hvv => by
    obtain ⟨f, hf⟩ := Option.isSome_iff_exists.1 hf
    obtain ⟨z, rfl, hbu⟩ := built_eq hz hf (ps.toList.map fun p => (p.1, a.eval p.2))
    have hbp : bpl P t = f := by funext i; simp [bpl, hf]
    rw [hbp] at hb
    obtain ⟨us', h1, h2⟩ := fill_ok (β := β) (fz := fz) a.eval ps.toList vs _ cs z.cells (by simpa using (RepL.consts β fz z.cells.toList).arr) (by have := (evs_ok hv).1; simpa using this)
      (fun j p v h1 h2 => hvv j p.2 v (by simp only [Op.operands]; rw [List.getElem?_toArray, List.getElem?_map, h1]; rfl) h2) hb
    refine ⟨.agg us', run_val (sv := Instr.build t (ps.map fun p => (p.1, a.eval p.2))) rfl ?_, .agg h2.1 h2.2⟩
    refine run_build w t _ us' ?_
    rw [Array.toList_map, hbu, h1]

/-! ### equality -/
def isIntT (P : Program) (t : TypeId) : Bool := match P.underlying t with | some (.int _) => true | _ => false
/-- a struct of two whole numbers -/
def teq2 (P : Program) (t : TypeId) : Bool := match P.underlying t with
  | some (.struct fs) => match fs.toList with
    | [f0, f1] => f0.name != "_" && f1.name != "_" && f0.offset == 0 && f1.offset == 1 && isIntT P f0.type && isIntT P f1.type && !P.stoodInHeld t && !P.eqGuardType P.depth t
    | _ => false
  | _ => false
theorem isInt_ok {t : TypeId} (h : isIntT P t = true) : ∃ k, P.underlying t = some (.int k) := by
  unfold isIntT at h
  split at h
  · rename_i k hk; exact ⟨k, hk⟩
  · cases h
theorem part_int {t : TypeId} (h : isIntT P t = true) (us : Array Value) (i : Nat) (v : Value) (hi : us[i]? = some v) (w : World) : (part t us i).run P w = .ok v w := by
  obtain ⟨k, hk⟩ := isInt_ok h
  unfold part isAgg
  simp only [Sem.run_bind, run_underlying hk, Result.andThen_ok, Sem.run_pure, Bool.false_eq_true, if_false, hi]
theorem eq2_ok {t : TypeId} (h : teq2 P t = true) (a b c d : Int) (w : World) : (Op.equalIn 10000 t (.agg #[.int .i64 a, .int .i64 b]) (.agg #[.int .i64 c, .int .i64 d])).run P w = .ok (a == c && b == d) w ∧ P.eqGuardType P.depth t = false := by
  unfold teq2 at h
  split at h
  · rename_i fs hfs
    split at h
    · rename_i f0 f1 hl
      simp only [Bool.and_eq_true, Bool.not_eq_true', bne_iff_ne, ne_eq, beq_iff_eq] at h
      obtain ⟨⟨⟨⟨⟨⟨⟨n0, n1⟩, o0⟩, o1⟩, i0⟩, i1⟩, st⟩, eg⟩ := h
      refine ⟨?_, eg⟩
      have hfo : P.underlying t = some (.struct (P.fieldsOf t)) := by
        rw [hfs]; unfold Program.fieldsOf; rw [hfs]
      have hff : P.fieldsOf t = fs := by unfold Program.fieldsOf; rw [hfs]
      obtain ⟨k0, u0⟩ := isInt_ok i0
      obtain ⟨k1, u1⟩ := isInt_ok i1
      rw [run_equalIn_struct w 9999 t _ _ hfo st, hff, hl]
      simp only [Op.eqFields, ne_eq, n0, n1, not_false_eq_true, if_true, Sem.run_bind, Sem.run_ite, o0, o1, part_int i0 #[Value.int .i64 a, .int .i64 b] 0 (.int .i64 a) rfl, part_int i0 #[Value.int .i64 c, .int .i64 d] 0 (.int .i64 c) rfl, Result.andThen_ok,
        run_equalIn_int _ 9998 f0.type .i64 k0 a c u0, part_int i1 #[Value.int .i64 a, .int .i64 b] 1 (.int .i64 b) rfl, part_int i1 #[Value.int .i64 c, .int .i64 d] 1 (.int .i64 d) rfl, run_equalIn_int _ 9998 f1.type .i64 k1 b d u1, Sem.run_pure]
      cases a == c <;> cases b == d <;> rfl
    · cases h
  · cases h
/-- two whole numbers -/
def two (v : V) : Option (Int × Int) := match aggV v with
  | some [.d (.k .i64 a), .d (.k .i64 b)] => some (a, b)
  | _ => none
theorem two_ok {β : Bt} {fz : Fz} {v : V} {a b : Int} {u : Value} (h : RepV β fz v u) (ht : two v = some (a, b)) : u = .agg #[.int .i64 a, .int .i64 b] := by
  unfold two at ht
  split at ht
  · rename_i a' b' hc
    cases ht
    obtain ⟨us, rfl, hl, hr⟩ := aggV_ok h hc
    obtain ⟨us⟩ := us
    match us, hl with
    | [x, y], _ =>
      have h1 := (hr 0 _ x rfl rfl).int
      have h2 := (hr 1 _ y rfl rfl).int
      subst h1; subst h2
      rfl
  · cases ht
theorem ok_eq2 {t yt : TypeId} {x y : Operand} {vx vy : V} {a b c d : Int} (hx : s.ev x = some vx) (hy : s.ev y = some vy) (h1 : two vx = some (a, b)) (h2 : two vy = some (c, d)) (ht : teq2 P t = true) :
    Ok P s new ⟨dst, .binOp .eql t x y yt, type, pos, after, guard⟩ (pu [vx, vy] (.d (.b (decide (a = c ∧ b = d))))) :=
  Ok.pure (vals2 rfl hx hy) fun β fz ac w hv => by
    have e1 := two_ok (hv 0 x _ rfl rfl) h1
    have e2 := two_ok (hv 1 y _ rfl rfl) h2
    obtain ⟨k1, k2⟩ := eq2_ok ht a b c d w
    refine ⟨.bool (decide (a = c ∧ b = d)), run_bin (by rw [e1, e2]; exact run_eqGuard_agg w _ t x y _ _ k2) ?_, .bb _ _ _⟩
    rw [e1, e2, run_eql_struct, k1, Result.andThen_ok]
    congr 2
    rw [Bool.eq_iff_iff]; simp
theorem ok_ne2 {t yt : TypeId} {x y : Operand} {vx vy : V} {a b c d : Int} (hx : s.ev x = some vx) (hy : s.ev y = some vy) (h1 : two vx = some (a, b)) (h2 : two vy = some (c, d)) (ht : teq2 P t = true) :
    Ok P s new ⟨dst, .binOp .neq t x y yt, type, pos, after, guard⟩ (pu [vx, vy] (.d (.b (!decide (a = c ∧ b = d))))) :=
  Ok.pure (vals2 rfl hx hy) fun β fz ac w hv => by
    have e1 := two_ok (hv 0 x _ rfl rfl) h1
    have e2 := two_ok (hv 1 y _ rfl rfl) h2
    obtain ⟨k1, k2⟩ := eq2_ok ht a b c d w
    refine ⟨.bool (!decide (a = c ∧ b = d)), run_bin (by rw [e1, e2]; exact run_eqGuard_agg w _ t x y _ _ k2) ?_, .bb _ _ _⟩
    rw [e1, e2, run_neq_struct, k1, Result.andThen_ok]
    congr 3
    rw [Bool.eq_iff_iff]; simp

/-- a slice against nil: some true: it is nil; some false: it is none, if it has an element -/
def nilV : V → Option (Bool × Bool)
  | .d .nil => some (true, true)
  | v => match rowsV v with
    | some (_, rows) => some (decide (0 < rows.length), false)
    | none => none
theorem nilV_ok {β : Bt} {fz : Fz} {v : V} {c p : Bool} {u : Value} (h : RepV β fz v u) (ht : nilV v = some (c, p)) (hc : c = true) : ∃ A n k, u = .slice A n k ∧ A.isNone = p := by
  have rest : (match rowsV v with | some (_, rows) => some (decide (0 < rows.length), false) | none => none) = some (c, p) → ∃ A n k, u = .slice A n k ∧ A.isNone = p := fun ht => by
    split at ht
    · rename_i sz rows hr
      cases ht
      replace hc := of_decide_eq_true hc
      have := rowsV_ok h hr
      cases this with
      | @sl A n k _ _ g hn hk hm hsz hA ho hg =>
        obtain ⟨b, off, rfl, _⟩ := hA (by omega)
        exact ⟨_, _, _, rfl, rfl⟩
    · cases ht
  cases v with
  | d x =>
    cases x with
    | nil =>
      simp only [nilV, Option.some.injEq, Prod.mk.injEq] at ht
      obtain ⟨rfl, rfl⟩ := ht
      cases h with
      | d h => cases h; exact ⟨_, _, _, rfl, rfl⟩
    | _ => exact rest ht
  | _ => exact rest ht
theorem eqGuard_slice {op : BinOp} {t : TypeId} {x y : Operand} {A B : Option Addr} {n k m l : Nat} (w : World) : (eqGuard op t x y (.slice A n k) (.slice B m l)).run P w = .ok () w := by
  unfold eqGuard
  split <;> rfl
theorem eqNil_ok {t : TypeId} (ht : (sel P t).isSome = true) (A : Option Addr) (n k : Nat) (w : World) : (Op.equal t (.slice A n k) (.slice none 0 0)).run P w = .ok A.isNone w := by
  obtain ⟨e, he⟩ := sel_slice ht
  unfold Op.equal Op.maxDepth Op.equalIn
  simp only [Sem.run_bind, run_underlying he, Result.andThen_ok]
  cases A <;> rfl
theorem ok_eqNil {t yt : TypeId} {x y : Operand} {v : V} {c p : Bool} (hx : s.ev x = some v) (hy : s.ev y = some (.d .nil)) (hn : nilV v = some (c, p)) (ht : (sel P t).isSome = true) (hc : c = true) :
    Ok P s new ⟨dst, .binOp .eql t x y yt, type, pos, after, guard⟩ (pu [v, .d .nil] (.d (.b p))) :=
  Ok.pure (vals2 rfl hx hy) fun β fz ac w hv => by
    obtain ⟨A, n, k, e1, rfl⟩ := nilV_ok (hv 0 x _ rfl rfl) hn hc
    have e2 : ac.eval y = .slice none 0 0 := by
      have := hv 1 y _ rfl rfl
      generalize ac.eval y = u at this
      cases this with
      | d h => cases h; rfl
    refine ⟨.bool A.isNone, run_bin (by rw [e1, e2]; exact eqGuard_slice w) ?_, .bb _ _ _⟩
    rw [e1, e2]
    show (do pure (Value.bool (← Op.equal t (.slice A n k) (.slice none 0 0))) : Sem Value).run P w = _
    simp only [Sem.run_bind, eqNil_ok ht, Result.andThen_ok]
    rfl
theorem ok_neNil {t yt : TypeId} {x y : Operand} {v : V} {c p : Bool} (hx : s.ev x = some v) (hy : s.ev y = some (.d .nil)) (hn : nilV v = some (c, p)) (ht : (sel P t).isSome = true) (hc : c = true) :
    Ok P s new ⟨dst, .binOp .neq t x y yt, type, pos, after, guard⟩ (pu [v, .d .nil] (.d (.b (!p)))) :=
  Ok.pure (vals2 rfl hx hy) fun β fz ac w hv => by
    obtain ⟨A, n, k, e1, rfl⟩ := nilV_ok (hv 0 x _ rfl rfl) hn hc
    have e2 : ac.eval y = .slice none 0 0 := by
      have := hv 1 y _ rfl rfl
      generalize ac.eval y = u at this
      cases this with
      | d h => cases h; rfl
    refine ⟨.bool (!A.isNone), run_bin (by rw [e1, e2]; exact eqGuard_slice w) ?_, .bb _ _ _⟩
    rw [e1, e2]
    show (do pure (Value.bool (!(← Op.equal t (.slice A n k) (.slice none 0 0)))) : Sem Value).run P w = _
    simp only [Sem.run_bind, eqNil_ok ht, Result.andThen_ok]
    rfl
end
end Go.Lm
