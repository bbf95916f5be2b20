/- The logical machine: operations that only compute. -/
import Derived.Test.YtnmnccboggljhaaGreatDoorLmF
set_option linter.constructorNameAsVariable false
namespace Go.Lm
open Go Go.RowKit

def fits : IntKind → Int → Prop
  | .i64, n => -9223372036854775808 ≤ n ∧ n ≤ 9223372036854775807
  | .i32, n => -2147483648 ≤ n ∧ n ≤ 2147483647
  | .i16, n => -32768 ≤ n ∧ n ≤ 32767
  | .i8, n => -128 ≤ n ∧ n ≤ 127
  | .u64, n => 0 ≤ n ∧ n ≤ 18446744073709551615
  | .u32, n => 0 ≤ n ∧ n ≤ 4294967295
  | .u16, n => 0 ≤ n ∧ n ≤ 65535
  | .u8, n => 0 ≤ n ∧ n ≤ 255
theorem fits_wrap {q : IntKind} {n : Int} (h : fits q n) : q.wrap n = n := by
  cases q
  · exact IntWalk.i8_in n h
  · exact IntWalk.i16_in n h
  · exact IntWalk.i32_in n h
  · exact IntWalk.i64_in n h
  · exact IntWalk.u8_in n h
  · exact IntWalk.u16_in n h
  · exact IntWalk.u32_in n h
  · exact IntWalk.u64_in n h
def pu (vals : List V) (v : V) : Eff := ⟨vals, [], [], [], [], v⟩
def pk : Bool → V → V → V
  | true, a, _ => a
  | false, _, b => b

theorem Post.same {β : Bt} {fz : Fz} {w : World} {own : Nat → Prop} (hok : FzOk fz w) {v : V} {u : Value} (hv : RepV β fz v u) : Post β fz w own [] [] [] v u β fz w where
  ble := Bt.Le.refl _
  bnew := fun _ _ => rfl
  fle := Fz.Le.refl _
  ffr := fun _ _ _ _ => rfl
  ok := hok
  os := rfl
  tape := rfl
  output := rfl
  size := Nat.le_refl _
  frame := fun _ _ _ => rfl
  hreps := fun x hx => by cases hx
  blks := fun x hx => by cases hx
  inj := fun h h' y y' k ⟨x, hx, _⟩ => by cases hx
  v := hv
/-- an operation that gives a value and leaves the world as it is -/
theorem OpT.val {P : Program} {o : Oper} {vals : List V} {rd : List (Nat × Blk)} {v : V}
    (h : ∀ (β : Bt) (fz : Fz) (own : Nat → Prop) (a : Act) (w : World), FzOk fz w → (∀ x ∈ rd, HRep β fz w own x.1 x.2) → (∀ (j : Nat) (x : Operand) (v : V), o.op.operands[j]? = some x → vals[j]? = some v → RepV β fz v (a.eval x)) →
      ∃ u, (execOp a.eval o).run P w = .ok (.value u) w ∧ RepV β fz v u) : OpT P o ⟨vals, rd, [], [], [], v⟩ := by
  intro β fz own a w hok _ hrd _ _ _ _ hv next Q hn
  obtain ⟨u, h1, h2⟩ := h β fz own a w hok hrd hv
  unfold Oper.wp
  rw [h1, Oper.upon_value]
  exact hn u β fz w (Post.same hok h2)

/-- what 'Xo.ok' asks of one outcome -/
structure Ok (P : Program) (s : LS) (new : Nat) (o : Oper) (e : Eff) : Prop where
  op : OpT P o e
  len : e.vals.length = o.op.operands.size
  vals : ∀ (j : Nat) (x : Operand) (v : V), o.op.operands[j]? = some x → e.vals[j]? = some v → s.ev x = some v
  rd : ∀ x ∈ e.rd, s.blk x.1 = some x.2
  hp : ∀ x ∈ e.hp, s.blk x.1 = some x.2
  news : ∀ h ∈ e.news, h = new
  outs : ∀ x ∈ e.out, x.1 ∈ e.news ∨ ∃ z ∈ e.hp, z.1 = x.1
theorem vals1 {s : LS} {ops : Array Operand} {x : Operand} {v : V} (ho : ops = #[x]) (h : s.ev x = some v) : [v].length = ops.size ∧ ∀ (j : Nat) (y : Operand) (u : V), ops[j]? = some y → [v][j]? = some u → s.ev y = some u := by
  subst ho
  refine ⟨rfl, fun j y u h1 h2 => ?_⟩
  match j with
  | 0 => simp at h1 h2; subst h1; subst h2; exact h
  | j + 1 => simp at h2
theorem vals2 {s : LS} {ops : Array Operand} {x y : Operand} {v u : V} (ho : ops = #[x, y]) (h : s.ev x = some v) (h' : s.ev y = some u) : [v, u].length = ops.size ∧ ∀ (j : Nat) (z : Operand) (t : V), ops[j]? = some z → [v, u][j]? = some t → s.ev z = some t := by
  subst ho
  refine ⟨rfl, fun j z t h1 h2 => ?_⟩
  match j with
  | 0 => simp at h1 h2; subst h1; subst h2; exact h
  | 1 => simp at h1 h2; subst h1; subst h2; exact h'
  | j + 2 => simp at h2
theorem vals3 {s : LS} {ops : Array Operand} {x y z : Operand} {v u t : V} (ho : ops = #[x, y, z]) (h : s.ev x = some v) (h' : s.ev y = some u) (h'' : s.ev z = some t) : [v, u, t].length = ops.size ∧ ∀ (j : Nat) (z : Operand) (q : V), ops[j]? = some z → [v, u, t][j]? = some q → s.ev z = some q := by
  subst ho
  refine ⟨rfl, fun j z q h1 h2 => ?_⟩
  match j with
  | 0 => simp at h1 h2; subst h1; subst h2; exact h
  | 1 => simp at h1 h2; subst h1; subst h2; exact h'
  | 2 => simp at h1 h2; subst h1; subst h2; exact h''
  | j + 3 => simp at h2
def LS.evs (s : LS) : List Operand → Option (List V)
  | [] => some []
  | x :: l => match s.ev x, s.evs l with | some v, some vs => some (v :: vs) | _, _ => none
theorem evs_ok {s : LS} : ∀ {l : List Operand} {vs : List V}, s.evs l = some vs → vs.length = l.length ∧ ∀ (j : Nat) (y : Operand) (u : V), l[j]? = some y → vs[j]? = some u → s.ev y = some u
  | [], vs, h => by
    simp only [LS.evs, Option.some.injEq] at h
    subst h
    exact ⟨rfl, fun j y u h => by simp at h⟩
  | x :: l, vs, h => by
    simp only [LS.evs] at h
    split at h
    · rename_i v vs' hx hl
      cases h
      obtain ⟨k1, k2⟩ := evs_ok hl
      refine ⟨by simp [k1], fun j y u h1 h2 => ?_⟩
      cases j with
      | zero => simp at h1 h2; subst h1; subst h2; exact hx
      | succ j => exact k2 j y u (by simpa using h1) (by simpa using h2)
    · cases h
theorem valsL {s : LS} {ops : Array Operand} {l : List Operand} {vs : List V} (ho : ops = l.toArray) (h : s.evs l = some vs) : vs.length = ops.size ∧ ∀ (j : Nat) (y : Operand) (u : V), ops[j]? = some y → vs[j]? = some u → s.ev y = some u := by
  subst ho
  obtain ⟨h1, h2⟩ := evs_ok h
  exact ⟨by simpa using h1, fun j y u a b => h2 j y u (by simpa using a) b⟩
theorem Ok.pure {P : Program} {s : LS} {new : Nat} {o : Oper} {vals : List V} {v : V} (hv : vals.length = o.op.operands.size ∧ ∀ (j : Nat) (x : Operand) (v : V), o.op.operands[j]? = some x → vals[j]? = some v → s.ev x = some v)
    (h : ∀ (β : Bt) (fz : Fz) (a : Act) (w : World), (∀ (j : Nat) (x : Operand) (v : V), o.op.operands[j]? = some x → vals[j]? = some v → RepV β fz v (a.eval x)) → ∃ u, (execOp a.eval o).run P w = .ok (.value u) w ∧ RepV β fz v u) : Ok P s new o (pu vals v) :=
  ⟨OpT.val fun β fz own a w _ _ hh => h β fz a w hh, hv.1, hv.2, (fun x hx => by cases hx), (fun x hx => by cases hx), (fun x hx => by cases hx), (fun x hx => by cases hx)⟩

theorem RepV.int {β : Bt} {fz : Fz} {q : IntKind} {n : Int} {v : Value} (h : RepV β fz (.d (.k q n)) v) : v = .int q n := by
  cases h with
  | d h => cases h; rfl
theorem RepV.bool {β : Bt} {fz : Fz} {p : Bool} {v : Value} (h : RepV β fz (.d (.b p)) v) : v = .bool p := by
  cases h with
  | d h => cases h; rfl
theorem RepV.str {β : Bt} {fz : Fz} {l : List UInt8} {v : Value} (h : RepV β fz (.d (.s l)) v) : v = .string ⟨l.toArray⟩ := by
  cases h with
  | d h => cases h; rfl
theorem RepV.i (β : Bt) (fz : Fz) (q : IntKind) (n : Int) : RepV β fz (.d (.k q n)) (.int q n) := .d (.k q n)
theorem RepV.bb (β : Bt) (fz : Fz) (p : Bool) : RepV β fz (.d (.b p)) (.bool p) := .d (.b p)

section
variable {P : Program} {s : LS} {new : Nat} {dst : Option Tmp} {type : TypeId} {pos : String} {after : Array Edge} {guard : Option (Nat × Bool)}

theorem ok_move {x : Operand} {v : V} (h : s.ev x = some v) : Ok P s new ⟨dst, .move x, type, pos, after, guard⟩ (pu [v] v) :=
  Ok.pure (vals1 rfl h) fun β fz a w hv => ⟨a.eval x, rfl, hv 0 x v rfl rfl⟩
theorem ok_assign {x : Operand} {v : V} (h : s.ev x = some v) : Ok P s new ⟨dst, .assign x, type, pos, after, guard⟩ (pu [v] v) :=
  Ok.pure (vals1 rfl h) fun β fz a w hv => ⟨a.eval x, rfl, hv 0 x v rfl rfl⟩
theorem ok_pick {c x y : Operand} {p : Bool} {vx vy : V} (hc : s.ev c = some (.d (.b p))) (hx : s.ev x = some vx) (hy : s.ev y = some vy) : Ok P s new ⟨dst, .pick c x y, type, pos, after, guard⟩ (pu [.d (.b p), vx, vy] (pk p vx vy)) :=
  Ok.pure (vals3 rfl hc hx hy) fun β fz a w hv => by
    have hp := (hv 0 c _ rfl rfl).bool
    refine ⟨if p then a.eval x else a.eval y, ?_, ?_⟩
    · simp only [execOp, hp]
      generalize a.eval x = u1; generalize a.eval y = u2
      simp [asBool, go_sem]
    · cases p
      · exact hv 2 y vy rfl rfl
      · exact hv 1 x vx rfl rfl

/-! ### numbers -/
theorem run_val {f : Operand → Value} {o : Oper} {w w' : World} {sv : Sem Value} {u : Value} (h : execOp f o = (do pure (.value (← sv)))) (hs : sv.run P w = .ok u w') : (execOp f o).run P w = .ok (.value u) w' := by
  rw [h]
  simp [hs, go_sem]
theorem eqGuard_int {op : BinOp} {t : TypeId} {x y : Operand} {q r : IntKind} {m n : Int} (w : World) : (eqGuard op t x y (.int q m) (.int r n)).run P w = .ok () w := by
  unfold eqGuard
  split <;> rfl
theorem run_bin {op : BinOp} {t yt : TypeId} {x y : Operand} {f : Operand → Value} {w : World} {u : Value} (hg : (eqGuard op t x y (f x) (f y)).run P w = .ok () w) (h : (binOp op t (f x) (f y)).run P w = .ok u w) :
    (execOp f ⟨dst, .binOp op t x y yt, type, pos, after, guard⟩).run P w = .ok (.value u) w := by
  refine run_val (sv := do eqGuard op t x y (f x) (f y); binOp op t (f x) (f y)) rfl ?_
  simp [hg, h, go_sem]
instance fitsDec : (q : IntKind) → (n : Int) → Decidable (fits q n)
  | .i64, n => by unfold fits; infer_instance
  | .i32, n => by unfold fits; infer_instance
  | .i16, n => by unfold fits; infer_instance
  | .i8, n => by unfold fits; infer_instance
  | .u64, n => by unfold fits; infer_instance
  | .u32, n => by unfold fits; infer_instance
  | .u16, n => by unfold fits; infer_instance
  | .u8, n => by unfold fits; infer_instance
def arithC (op : BinOp) (q : IntKind) (m n : Int) : Option (Bool × Int) := match op with
  | .add => some (decide (fits q (m + n)), m + n)
  | .sub => some (decide (fits q (m - n)), m - n)
  | .mul => some (decide (fits q (m * n)), m * n)
  | .quo => some (decide (n ≠ 0 ∧ fits q (m.tdiv n)), m.tdiv n)
  | .rem => some (decide (n ≠ 0), m.tmod n)
  | _ => none
def cmpC (op : BinOp) (m n : Int) : Option Bool := match op with
  | .eql => some (decide (m = n))
  | .neq => some (!decide (m = n))
  | .lss => some (decide (m < n))
  | .leq => some (decide (m ≤ n))
  | .gtr => some (decide (n < m))
  | .geq => some (decide (n ≤ m))
  | _ => none
theorem ok_arith {op : BinOp} {t yt : TypeId} {x y : Operand} {q : IntKind} {m n z : Int} {c : Bool} (hx : s.ev x = some (.d (.k q m))) (hy : s.ev y = some (.d (.k q n))) (he : arithC op q m n = some (c, z)) (hc : c = true) :
    Ok P s new ⟨dst, .binOp op t x y yt, type, pos, after, guard⟩ (pu [.d (.k q m), .d (.k q n)] (.d (.k q z))) :=
  Ok.pure (vals2 rfl hx hy) fun β fz a w hv => by
    have h1 := (hv 0 x _ rfl rfl).int
    have h2 := (hv 1 y _ rfl rfl).int
    refine ⟨.int q z, run_bin (by rw [h1, h2]; exact eqGuard_int w) ?_, .i _ _ _ _⟩
    rw [h1, h2]
    cases op <;> simp only [arithC, Option.some.injEq, Prod.mk.injEq, reduceCtorEq] at he <;> obtain ⟨rfl, rfl⟩ := he <;> replace hc := of_decide_eq_true hc
    · simp [binOp, Op.intArith, fits_wrap hc, go_sem]
    · simp [binOp, Op.intArith, fits_wrap hc, go_sem]
    · simp [binOp, Op.intArith, fits_wrap hc, go_sem]
    · simp [binOp, Op.intDiv, hc.1, fits_wrap hc.2, go_sem]
    · simp [binOp, Op.intDiv, hc, go_sem]
theorem ok_cmp {op : BinOp} {t yt : TypeId} {x y : Operand} {q : IntKind} {m n : Int} {z : Bool} (hx : s.ev x = some (.d (.k q m))) (hy : s.ev y = some (.d (.k q n))) (he : cmpC op m n = some z) :
    Ok P s new ⟨dst, .binOp op t x y yt, type, pos, after, guard⟩ (pu [.d (.k q m), .d (.k q n)] (.d (.b z))) :=
  Ok.pure (vals2 rfl hx hy) fun β fz a w hv => by
    have h1 := (hv 0 x _ rfl rfl).int
    have h2 := (hv 1 y _ rfl rfl).int
    refine ⟨.bool z, run_bin (by rw [h1, h2]; exact eqGuard_int w) ?_, .bb _ _ _⟩
    rw [h1, h2]
    cases op <;> simp only [cmpC, Option.some.injEq, reduceCtorEq] at he <;> subst he <;> simp [binOp, Op.intCmp, go_sem]
    · rw [Bool.eq_iff_iff]; simp
    · rw [Bool.eq_iff_iff]; simp

/-! ### strings -/
theorem eqGuard_str {op : BinOp} {t : TypeId} {x y : Operand} {m n : ByteArray} (w : World) : (eqGuard op t x y (.string m) (.string n)).run P w = .ok () w := by
  unfold eqGuard
  split <;> rfl
def strC (op : BinOp) (m n : List UInt8) : Option (Bool × D) := match op with
  | .add => some (decide (((m.length + n.length : Nat) : Int) ≤ 9223372036854775807), .s (m ++ n))
  | .eql => some (true, .b (m == n))
  | .neq => some (true, .b (!(m == n)))
  | _ => none
theorem ok_str {op : BinOp} {t yt : TypeId} {x y : Operand} {m n : List UInt8} {z : D} {c : Bool} (hx : s.ev x = some (.d (.s m))) (hy : s.ev y = some (.d (.s n))) (he : strC op m n = some (c, z)) (hc : c = true) :
    Ok P s new ⟨dst, .binOp op t x y yt, type, pos, after, guard⟩ (pu [.d (.s m), .d (.s n)] (.d z)) :=
  Ok.pure (vals2 rfl hx hy) fun β fz a w hv => by
    have h1 := (hv 0 x _ rfl rfl).str
    have h2 := (hv 1 y _ rfl rfl).str
    have hg : (eqGuard op t x y (a.eval x) (a.eval y)).run P w = .ok () w := by rw [h1, h2]; exact eqGuard_str w
    cases op <;> simp only [strC, Option.some.injEq, Prod.mk.injEq, reduceCtorEq] at he <;> obtain ⟨rfl, rfl⟩ := he
    · replace hc := of_decide_eq_true hc
      refine ⟨.string ⟨(m ++ n).toArray⟩, run_bin hg ?_, .d (.s _)⟩
      rw [h1, h2]
      have : ((ByteArray.mk m.toArray).size + (ByteArray.mk n.toArray).size : Nat) = m.length + n.length := rfl
      have hk : ¬ ((((ByteArray.mk m.toArray).size + (ByteArray.mk n.toArray).size : Nat) : Int) > IntKind.i64.max) := by rw [this]; simp [IntKind.max, IntKind.signed, IntKind.bits]; omega
      have he : ByteArray.mk m.toArray ++ ByteArray.mk n.toArray = ⟨(m ++ n).toArray⟩ := by
        apply ByteArray.ext
        rw [ByteArray.data_append]
        simp
      simp only [binOp, Op.stringOp, if_neg hk, he]
      rfl
    · refine ⟨.bool (m == n), run_bin hg ?_, .d (.b _)⟩
      rw [h1, h2]
      simp [binOp, Op.stringOp, go_sem]
    · refine ⟨.bool (!(m == n)), run_bin hg ?_, .d (.b _)⟩
      rw [h1, h2]
      simp [binOp, Op.stringOp, go_sem]

theorem eqGuard_bool {op : BinOp} {t : TypeId} {x y : Operand} {m n : Bool} (w : World) : (eqGuard op t x y (.bool m) (.bool n)).run P w = .ok () w := by
  unfold eqGuard
  split <;> rfl
def isBoolT (P : Program) (t : TypeId) : Bool := match P.underlying t with | some .bool => true | _ => false
theorem ok_beq {t yt : TypeId} {x y : Operand} {m n : Bool} (hx : s.ev x = some (.d (.b m))) (hy : s.ev y = some (.d (.b n))) (ht : isBoolT P t = true) :
    Ok P s new ⟨dst, .binOp .eql t x y yt, type, pos, after, guard⟩ (pu [.d (.b m), .d (.b n)] (.d (.b (m == n)))) :=
  Ok.pure (vals2 rfl hx hy) fun β fz a w hv => by
    have h1 := (hv 0 x _ rfl rfl).bool
    have h2 := (hv 1 y _ rfl rfl).bool
    have hu : P.underlying t = some .bool := by
      unfold isBoolT at ht
      split at ht
      · assumption
      · cases ht
    refine ⟨.bool (m == n), run_bin (by rw [h1, h2]; exact eqGuard_bool w) ?_, .bb _ _ _⟩
    rw [h1, h2]
    have he : (Op.equal t (.bool m) (.bool n)).run P w = .ok (m == n) w := by
      unfold Op.equal Op.maxDepth Op.equalIn
      simp only [Sem.run_bind, run_underlying hu, Result.andThen_ok]
      rfl
    show (do pure (Value.bool (← Op.equal t (.bool m) (.bool n))) : Sem Value).run P w = _
    simp only [Sem.run_bind, he, Result.andThen_ok]
    rfl

theorem ok_not {t : TypeId} {x : Operand} {p : Bool} (hx : s.ev x = some (.d (.b p))) : Ok P s new ⟨dst, .unOp .not t x, type, pos, after, guard⟩ (pu [.d (.b p)] (.d (.b (!p)))) :=
  Ok.pure (vals1 rfl hx) fun β fz a w hv => ⟨.bool (!p), by
    refine run_val (sv := Op.unary .not (a.eval x)) rfl ?_
    rw [(hv 0 x _ rfl rfl).bool]; rfl, .bb _ _ _⟩
theorem ok_neg {t : TypeId} {x : Operand} {q : IntKind} {n : Int} (hx : s.ev x = some (.d (.k q n))) (hc : fits q (-n)) : Ok P s new ⟨dst, .unOp .neg t x, type, pos, after, guard⟩ (pu [.d (.k q n)] (.d (.k q (-n)))) :=
  Ok.pure (vals1 rfl hx) fun β fz a w hv => ⟨.int q (-n), by
    refine run_val (sv := Op.unary .neg (a.eval x)) rfl ?_
    rw [(hv 0 x _ rfl rfl).int]
    have := fits_wrap hc
    simp [Op.unary, Op.intArith, this, go_sem], .i _ _ _ _⟩

/-! ### parts -/
theorem ok_extractV {x : Operand} {i : Nat} {cs : List V} {v : V} (hx : s.ev x = some (.tup cs)) (hi : cs[i]? = some v) : Ok P s new ⟨dst, .extract x i, type, pos, after, guard⟩ (pu [.tup cs] v) :=
  Ok.pure (vals1 rfl hx) fun β fz a w hv => by
    have h1 := hv 0 x _ rfl rfl
    generalize hu : a.eval x = u at h1
    cases h1 with
    | @tup _ vs hl h =>
      have hlt : i < vs.size := by rw [hl]; exact (List.getElem?_eq_some_iff.1 hi).1
      refine ⟨vs[i], run_val (sv := Instr.extract (a.eval x) i) rfl ?_, h i v _ hi (Array.getElem?_eq_getElem hlt)⟩
      rw [hu]
      simp [Instr.extract, Array.getElem?_eq_getElem hlt, go_sem]
theorem ok_extractD {x : Operand} {i : Nat} {cs : List D} {d : D} (hx : s.ev x = some (.d (.tup cs))) (hi : cs[i]? = some d) : Ok P s new ⟨dst, .extract x i, type, pos, after, guard⟩ (pu [.d (.tup cs)] (.d d)) :=
  Ok.pure (vals1 rfl hx) fun β fz a w hv => by
    have h1 := hv 0 x _ rfl rfl
    generalize hu : a.eval x = u at h1
    cases h1 with
    | d h1 =>
      cases h1 with
      | @tup _ vs hl h =>
        have hlt : i < vs.size := by rw [hl]; exact (List.getElem?_eq_some_iff.1 hi).1
        refine ⟨vs[i], run_val (sv := Instr.extract (a.eval x) i) rfl ?_, .d (h i d _ hi (Array.getElem?_eq_getElem hlt))⟩
        rw [hu]
        simp [Instr.extract, Array.getElem?_eq_getElem hlt, go_sem]
/-- pointers and functions are no nil -/
def noNil : V → Bool
  | .p _ _ | .q _ _ _ _ | .fn (.func _) _ _ | .d (.fn (.func _) _ _) => true
  | _ => false
theorem ok_nilCheck {x : Operand} {v : V} (hx : s.ev x = some v) (hn : noNil v = true) : Ok P s new ⟨dst, .nilCheck x, type, pos, after, guard⟩ (pu [v] v) :=
  Ok.pure (vals1 rfl hx) fun β fz a w hv => by
    have h1 := hv 0 x _ rfl rfl
    refine ⟨a.eval x, ?_, h1⟩
    generalize hu : a.eval x = u at h1
    simp only [execOp, hu]
    cases h1 with
    | p h => rfl
    | q => rfl
    | @fn f _ _ _ _ => cases f <;> simp only [noNil] at hn <;> first | rfl | cases hn
    | d h =>
      cases h with
      | @fn f _ _ _ _ => cases f <;> simp only [noNil] at hn <;> first | rfl | cases hn
      | _ => cases hn
    | _ => cases hn

theorem ok_makeFunc {f : Fn} {first cap : Array Operand} {vs cs : List V} (hf : s.evs first.toList = some vs) (hc : s.evs cap.toList = some cs) :
    Ok P s new ⟨dst, .makeFunc f first cap, type, pos, after, guard⟩ (pu (vs ++ cs) (.fn f vs cs)) := by
  obtain ⟨f1, f2⟩ := evs_ok hf
  obtain ⟨c1, c2⟩ := evs_ok hc
  simp only [Array.length_toList] at f1 c1
  refine Ok.pure ⟨by simp [Op.operands, f1, c1], fun j x v h1 h2 => ?_⟩ fun β fz a w hv => ?_
  · simp only [Op.operands] at h1
    by_cases hj : j < first.size
    · rw [Array.getElem?_append_left hj] at h1
      rw [List.getElem?_append_left (by omega)] at h2
      exact f2 j x v (by simpa using h1) h2
    · rw [Array.getElem?_append_right (by omega)] at h1
      rw [List.getElem?_append_right (by omega)] at h2
      exact c2 (j - first.size) x v (by simpa using h1) (by rw [f1] at h2; exact h2)
  · refine ⟨.func f (first.map a.eval) (cap.map a.eval), rfl, .fn (by simp [f1]) (fun j d u h1 h2 => ?_) (by simp [c1]) (fun j d u h1 h2 => ?_)⟩
    · simp only [Array.getElem?_map, Option.map_eq_some_iff] at h2
      obtain ⟨x, h2, rfl⟩ := h2
      have hj : j < first.size := (Array.getElem?_eq_some_iff.1 h2).1
      exact hv j x d (by simp only [Op.operands]; rw [Array.getElem?_append_left hj]; exact h2) (by rw [List.getElem?_append_left (by omega)]; exact h1)
    · simp only [Array.getElem?_map, Option.map_eq_some_iff] at h2
      obtain ⟨x, h2, rfl⟩ := h2
      exact hv (first.size + j) x d (by simp only [Op.operands]; rw [Array.getElem?_append_right (by omega), Nat.add_sub_cancel_left]; exact h2) (by rw [List.getElem?_append_right (by omega), f1, Nat.add_sub_cancel_left]; exact h1)
end
end Go.Lm
