/- The logical machine: all operations in one function. -/
import Derived.Test.YtnmnccboggljhaaGreatDoorLmMb
set_option linter.constructorNameAsVariable false
namespace Go.Lm
open Go Go.RowKit
section
variable {P : Program} {s : LS} {new : Nat} {dst : Option Tmp} {type : TypeId} {pos : String} {after : Array Edge} {guard : Option (Nat × Bool)}

/-! ### shifts and bits -/
theorem run_bin_k {op : BinOp} {t yt : TypeId} {x y : Operand} {f : Operand → Value} {w : World} {q r : IntKind} {m n : Int} {u : Value} (h1 : f x = .int q m) (h2 : f y = .int r n) (h : (binOp op t (.int q m) (.int r n)).run P w = .ok u w) :
    (execOp f ⟨dst, .binOp op t x y yt, type, pos, after, guard⟩).run P w = .ok (.value u) w :=
  run_bin (by rw [h1, h2]; exact eqGuard_int w) (by rw [h1, h2]; exact h)
theorem bits_le (q : IntKind) (n : Int) (h0 : 0 ≤ n) (h : n < 8) : min n.toNat q.bits = n.toNat := by
  cases q <;> simp [IntKind.bits] <;> omega
theorem ok_shl {t yt : TypeId} {x y : Operand} {q r : IntKind} {m n : Int} (hx : s.ev x = some (.d (.k q m))) (hy : s.ev y = some (.d (.k r n))) (h0 : 0 ≤ n) (h8 : n ≤ 60) (hq : q = .i64) (hc : fits q (m * 2 ^ n.toNat)) :
    Ok P s new ⟨dst, .binOp .shl t x y yt, type, pos, after, guard⟩ (pu [.d (.k q m), .d (.k r n)] (.d (.k q (m * 2 ^ n.toNat)))) :=
  Ok.pure (vals2 rfl hx hy) fun β fz a w hv => by
    subst hq
    refine ⟨.int .i64 (m * 2 ^ n.toNat), run_bin_k (hv 0 x _ rfl rfl).int (hv 1 y _ rfl rfl).int ?_, .i _ _ _ _⟩
    have e : min n.toNat (IntKind.bits .i64) = n.toNat := by simp [IntKind.bits]; omega
    unfold binOp
    simp only [Op.shift, if_neg (show ¬ n < 0 by omega), e, fits_wrap hc]
    rfl
theorem ok_shr {t yt : TypeId} {x y : Operand} {q r : IntKind} {m n : Int} (hx : s.ev x = some (.d (.k q m))) (hy : s.ev y = some (.d (.k r n))) (h0 : 0 ≤ n) (h8 : n ≤ 60) (hq : q = .i64 ∨ q = .u64) :
    Ok P s new ⟨dst, .binOp .shr t x y yt, type, pos, after, guard⟩ (pu [.d (.k q m), .d (.k r n)] (.d (.k q (m / 2 ^ n.toNat)))) :=
  Ok.pure (vals2 rfl hx hy) fun β fz a w hv => by
    refine ⟨.int q (m / 2 ^ n.toNat), run_bin_k (hv 0 x _ rfl rfl).int (hv 1 y _ rfl rfl).int ?_, .i _ _ _ _⟩
    have e : min n.toNat (IntKind.bits q) = n.toNat := by rcases hq with rfl | rfl <;> (simp [IntKind.bits]; omega)
    unfold binOp
    simp only [Op.shift, if_neg (show ¬ n < 0 by omega), e]
    rw [Int.fdiv_eq_ediv_of_nonneg _ (Int.pow_nonneg (by omega))]
    rfl
theorem ok_and1 {t yt : TypeId} {x y : Operand} {q : IntKind} {m : Int} (hx : s.ev x = some (.d (.k q m))) (hy : s.ev y = some (.d (.k q 1))) (hq : q = .i64) (h0 : 0 ≤ m) (h1 : m ≤ 9223372036854775807) :
    Ok P s new ⟨dst, .binOp .and t x y yt, type, pos, after, guard⟩ (pu [.d (.k q m), .d (.k q 1)] (.d (.k q (m % 2)))) :=
  Ok.pure (vals2 rfl hx hy) fun β fz a w hv => by
    subst hq
    refine ⟨.int .i64 (m % 2), run_bin_k (hv 0 x _ rfl rfl).int (hv 1 y _ rfl rfl).int ?_, .i _ _ _ _⟩
    have e : ((BitVec.ofInt (IntKind.bits .i64) m &&& BitVec.ofInt (IntKind.bits .i64) 1).toNat : Int) = m % 2 := by
      obtain ⟨k, rfl⟩ := Int.eq_ofNat_of_zero_le h0
      have h2 : BitVec.ofInt (IntKind.bits .i64) 1 = BitVec.ofNat 64 1 := rfl
      have h3 : BitVec.ofInt (IntKind.bits .i64) (k : Int) = BitVec.ofNat 64 k := by simp [IntKind.bits]
      rw [h2, h3]
      show ((BitVec.ofNat 64 k &&& BitVec.ofNat 64 1).toNat : Int) = _
      rw [BitVec.toNat_and, BitVec.toNat_ofNat, BitVec.toNat_ofNat, Nat.mod_eq_of_lt (show k < 2 ^ 64 by omega), show 1 % 2 ^ 64 = 1 by decide, Nat.and_one_is_mod]
      omega
    have e2 : IntKind.wrap .i64 (m % 2) = m % 2 := fits_wrap (q := .i64) (by simp only [fits]; omega)
    unfold binOp
    simp only [ne_eq, not_true_eq_false, if_false, Op.intBits, e, e2]
    rfl

theorem ok_and {t yt : TypeId} {x y : Operand} {q : IntKind} {m n : Int} (hx : s.ev x = some (.d (.k q m))) (hy : s.ev y = some (.d (.k q n))) (hq : q = .i64 ∨ q = .u64) (h0 : 0 ≤ m) (h1 : m ≤ 9223372036854775807) (h2 : 0 ≤ n) (h3 : n ≤ 9223372036854775807) :
    Ok P s new ⟨dst, .binOp .and t x y yt, type, pos, after, guard⟩ (pu [.d (.k q m), .d (.k q n)] (.d (.k q ((m.toNat &&& n.toNat : Nat) : Int)))) :=
  Ok.pure (vals2 rfl hx hy) fun β fz a w hv => by
    refine ⟨.int q ((m.toNat &&& n.toNat : Nat) : Int), run_bin_k (hv 0 x _ rfl rfl).int (hv 1 y _ rfl rfl).int ?_, .i _ _ _ _⟩
    obtain ⟨a, rfl⟩ := Int.eq_ofNat_of_zero_le h0
    obtain ⟨b, rfl⟩ := Int.eq_ofNat_of_zero_le h2
    have hle : a &&& b ≤ a := Nat.and_le_left
    have e : ((BitVec.ofInt (IntKind.bits q) a &&& BitVec.ofInt (IntKind.bits q) b).toNat : Int) = ((a &&& b : Nat) : Int) := by
      have hb : IntKind.bits q = 64 := by rcases hq with rfl | rfl <;> rfl
      rw [hb]
      have h2 : ∀ c : Nat, BitVec.ofInt 64 c = BitVec.ofNat 64 c := fun c => by simp
      rw [h2, h2, BitVec.toNat_and, BitVec.toNat_ofNat, BitVec.toNat_ofNat, Nat.mod_eq_of_lt (show a < 2 ^ 64 by omega), Nat.mod_eq_of_lt (show b < 2 ^ 64 by omega)]
    have e2 : IntKind.wrap q ((a &&& b : Nat) : Int) = ((a &&& b : Nat) : Int) := by
      rcases hq with rfl | rfl <;> exact fits_wrap (by simp only [fits]; omega)
    unfold binOp
    simp only [ne_eq, not_true_eq_false, if_false, Op.intBits, e, e2, Int.toNat_natCast]
    rfl

def xoBin (P : Program) (op : BinOp) (t : TypeId) : V → V → XR
  | .d (.k q m), .d (.k r n) => if q = r then match arithC op q m n with
      | some (c, z) => .one c (pu [.d (.k q m), .d (.k r n)] (.d (.k q z)))
      | none => match cmpC op m n with
        | some z => .one true (pu [.d (.k q m), .d (.k r n)] (.d (.b z)))
        | none => match op with
          | .shl => .one (decide (0 ≤ n ∧ n ≤ 60 ∧ q = .i64 ∧ fits q (m * 2 ^ n.toNat))) (pu [.d (.k q m), .d (.k r n)] (.d (.k q (m * 2 ^ n.toNat))))
          | .shr => .one (decide (0 ≤ n ∧ n ≤ 60 ∧ (q = .i64 ∨ q = .u64))) (pu [.d (.k q m), .d (.k r n)] (.d (.k q (m / 2 ^ n.toNat))))
          | .and => if n = 1 then .one (decide (n = 1 ∧ q = .i64 ∧ 0 ≤ m ∧ m ≤ 9223372036854775807)) (pu [.d (.k q m), .d (.k r n)] (.d (.k q (m % 2))))
            else .one (decide ((q = .i64 ∨ q = .u64) ∧ 0 ≤ m ∧ m ≤ 9223372036854775807 ∧ 0 ≤ n ∧ n ≤ 9223372036854775807)) (pu [.d (.k q m), .d (.k r n)] (.d (.k q ((m.toNat &&& n.toNat : Nat) : Int))))
          | _ => .none
    else .none
  | .d (.s m), .d (.s n) => match strC op m n with
      | some (c, z) => .one c (pu [.d (.s m), .d (.s n)] (.d z))
      | none => .none
  | .d (.b m), .d (.b n) => match op with
      | .eql => .one (isBoolT P t) (pu [.d (.b m), .d (.b n)] (.d (.b (m == n))))
      | _ => .none
  | v, .d .nil => match nilV v with
      | some (c, p) => match op with
        | .eql => .one ((sel P t).isSome && c) (pu [v, .d .nil] (.d (.b p)))
        | .neq => .one ((sel P t).isSome && c) (pu [v, .d .nil] (.d (.b (!p))))
        | _ => .none
      | none => .none
  | v, y => match two v, two y with
      | some (a, b), some (c, d) => match op with
        | .eql => .one (teq2 P t) (pu [v, y] (.d (.b (decide (a = c ∧ b = d)))))
        | .neq => .one (teq2 P t) (pu [v, y] (.d (.b (!decide (a = c ∧ b = d)))))
        | _ => .none
      | _, _ => .none
def xoLoad (P : Program) (s : LS) (t : TypeId) : V → XR
  | .p h off => match s.blk h with
    | some (.cells cs e) => match shp P t with
      | some none => .one (decide (off < cs.length)) ⟨[.p h off], [(h, .cells cs e)], [], [], [], cs.getD off .u⟩
      | some (some n) => .one (decide (off + n ≤ cs.length)) ⟨[.p h off], [(h, .cells cs e)], [], [], [], .agg ((cs.drop off).take n)⟩
      | none => .none
    | _ => .none
  | .q sz rows i j => match shp P t with
    | some none => .one (decide (i < rows.length ∧ j < (rows.getD i []).length)) (pu [.q sz rows i j] (.d ((rows.getD i []).getD j .nil)))
    | some (some n) => .one (decide (i < rows.length ∧ j + n ≤ (rows.getD i []).length)) (pu [.q sz rows i j] (.d (.agg (((rows.getD i []).drop j).take n))))
    | none => .none
  | _ => .none
def xoStore (P : Program) (s : LS) (t : TypeId) : V → V → XR
  | .p h off, v => match s.blk h, cellsV v, tsz P t with
    | some (.cells cs e), some xs, some n => .one (decide (n = xs.length ∧ off + xs.length ≤ cs.length)) ⟨[.p h off, v], [], [(h, .cells cs e)], [], [(h, .cells (setL cs off xs) e)], .u⟩
    | _, _, _ => .none
  | _, _ => .none
def xoIdx (P : Program) (t : TypeId) : V → V → XR
  | .p h off, .d (.k q n) => match ael P t with
    | some (m, sz) => .one (decide (0 ≤ n ∧ n < m)) (pu [.p h off, .d (.k q n)] (.p h (off + n.toNat * sz)))
    | none => .none
  | .ms h off m, .d (.k q n) => match sel P t with
    | some z => if z = 1 then .one (decide (0 ≤ n ∧ n < m)) (pu [.ms h off m, .d (.k q n)] (.p h (off + n.toNat))) else .none
    | none => .none
  | v, .d (.k q n) => match rowsV v, sel P t with
    | some (sz, rows), some z => if z = sz then .one (decide (0 ≤ n ∧ n < rows.length)) (pu [v, .d (.k q n)] (.q sz rows n.toNat 0)) else .none
    | _, _ => .none
  | _, _ => .none
def xoIndex (P : Program) (t : TypeId) : V → V → XR
  | .d (.s l), .d (.k q n) => .one (decide (isStrT P t = true ∧ 0 ≤ n ∧ n < l.length)) (pu [.d (.s l), .d (.k q n)] (.d (.k .u8 (l.getD n.toNat 0).toNat)))
  | v, .d (.k q n) => match aggV v, esh P t with
    | some cs, some (k, sz, m) => match partV cs (n.toNat * sz) m with
      | some y => .one (decide (0 ≤ n ∧ n < k)) (pu [v, .d (.k q n)] y)
      | none => .none
    | _, _ => .none
  | _, _ => .none
/-- a function value: what it enters, its first arguments, what it has captured -/
def calleeV : V → Option (FuncId × List V × List V)
  | .d (.fn (.func g) a c) => some (g, a.map .d, c.map .d)
  | .fn (.func g) a c => some (g, a, c)
  | _ => none
def xoCall (P : Program) (s : LS) (new : Nat) (c : Call) : XR := match c.callee with
  | .builtin .len => match c.args.toList, c.argTypes.toList with
    | [x], [t] => match s.ev x with
      | some v => match lenV P t v with
        | some n => .one true (pu [v] (.d (.k .i64 n)))
        | none => .none
      | none => .none
    | _, _ => .none
  | .builtin .copy => match c.args.toList, c.argTypes.toList with
    | [x, y], [t, _] => match s.ev x, s.ev y, sel P t with
      | some (.ms h off n), some vy, some 1 => match s.blk h, srcC s h vy with
        | some (.cells cs e), some (rd, xs) => .one (decide (off + n ≤ cs.length) && xs.all oneV) ⟨[.ms h off n, vy], rd, [(h, .cells cs e)], [], [(h, .cells (cs.take off ++ xs.take n ++ cs.drop (off + min xs.length n)) e)], .d (.k .i64 ((min xs.length n : Nat) : Int))⟩
        | _, _ => .none
      | _, _, _ => .none
    | _, _ => .none
  | .builtin .append => match c.args.toList, c.argTypes.toList with
    | [x, y], [t, t'] => if t = t' then match s.ev x, s.ev y, apT P t with
      | some vx, some vy, some (e, sz) => match baseV s e sz vx, srcV sz vy with
        | some (hp, rows), some rows2 => .one (decide (rows.length + rows2.length ≤ 1000000)) ⟨[vx, vy], [], hp, [new], [(new, .tail (rows.length + rows2.length) sz e)], .own new sz (rows ++ rows2)⟩
        | _, _ => .none
      | _, _, _ => .none
      else .none
    | _, _ => .none
  | .builtin .max => match c.args.toList with
    | [x, y] => match s.ev x, s.ev y with
      | some (.d (.k q m)), some (.d (.k r n)) => .one true (pu [.d (.k q m), .d (.k r n)] (.d (.k q (max m n))))
      | _, _ => .none
    | [x, y, z] => match s.ev x, s.ev y, s.ev z with
      | some (.d (.k q m)), some (.d (.k r n)), some (.d (.k p k)) => .one true (pu [.d (.k q m), .d (.k r n), .d (.k p k)] (.d (.k q (max (max m n) k))))
      | _, _, _ => .none
    | _ => .none
  | .builtin .min => match c.args.toList with
    | [x, y] => match s.ev x, s.ev y with
      | some (.d (.k q m)), some (.d (.k r n)) => .one true (pu [.d (.k q m), .d (.k r n)] (.d (.k q (min m n))))
      | _, _ => .none
    | _ => .none
  | .value f => match s.ev f, s.evs c.args.toList with
    | some fv, some vs => match calleeV fv with
      | some (g, a, cp) => .call g (a ++ vs ++ cp) (fv :: vs)
      | none => .none
    | _, _ => .none
  | .invoke r m => match s.ev r, s.evs c.args.toList with
    | some (.d (.ifc t d)), some vs => match mth P t m with
      | some g => .call g (.d d :: vs) (.d (.ifc t d) :: vs)
      | none => .none
    | _, _ => .none
  | _ => .none
/-- a call that is put off -/
def xoDfr (s : LS) (c : Call) : XR := match c.callee with
  | .value f => match s.ev f, s.evs c.args.toList with
    | some (.fn (.func f) a cp), some vs => .dfr (.func f, cp, a ++ vs)
    | _, _ => .none
  | _ => .none
def noDst : Option Tmp → Prop | none => True | some _ => False
def xoRun (P : Program) (s : LS) (new : Nat) (o : Oper) : XR := match o.op with
  | .move x => match s.ev x with
    | some v => .one true (pu [v] v)
    | none => .none
  | .assign x => match s.ev x with
    | some v => .one true (pu [v] v)
    | none => .none
  | .pick c x y => match s.ev c, s.ev x, s.ev y with
    | some (.d (.b p)), some vx, some vy => .one true (pu [.d (.b p), vx, vy] (pk p vx vy))
    | _, _, _ => .none
  | .alloc t => match tz P t with
    | some cs => .one true ⟨[], [], [], [new], [(new, .cells cs t)], .p new 0⟩
    | none => .none
  | .box t x => match s.ev x with
    | some v => match cellsV v with
      | some cs => .one true ⟨[v], [], [], [new], [(new, .cells cs t)], .p new 0⟩
      | none => .none
    | none => .none
  | .load t x => match s.ev x with
    | some v => xoLoad P s t v
    | none => .none
  | .store t x y => match o.dst with
    | none => match s.ev x, s.ev y with
      | some vx, some vy => xoStore P s t vx vy
      | _, _ => .none
    | some _ => .none
  | .nilCheck x => match s.ev x with
    | some v => .one (noNil v) (pu [v] v)
    | none => .none
  | .binOp .eql t x (.const .nilIface) _ => match s.ev x with
    | some v => match ifcNil v with
      | some p => .one (isIfcT P t == some true) (pu [v, .d (.raw .nilIface)] (.d (.b p)))
      | none => .none
    | none => .none
  | .binOp op t x y _ => match s.ev x, s.ev y with
    | some vx, some vy => xoBin P op t vx vy
    | _, _ => .none
  | .unOp op _ x => match op, s.ev x with
    | .not, some (.d (.b p)) => .one true (pu [.d (.b p)] (.d (.b (!p))))
    | .neg, some (.d (.k q n)) => .one (decide (fits q (-n))) (pu [.d (.k q n)] (.d (.k q (-n))))
    | _, _ => .none
  | .convert t t' x => match s.ev x with
    | some (.d (.k q n)) => match tik P t, tik P t' with
      | some _, some k' => .one (decide (fits k' n)) (pu [.d (.k q n)] (.d (.k k' n)))
      | _, _ => .none
    | _ => .none
  | .makeInterface t x => match s.ev x with
    | some v => match v.toD with
      | some d => .one (decide (isIfcT P t = some false)) (pu [v] (.d (.ifc t d)))
      | none => .none
    | none => .none
  | .makeFunc f first cap => match s.evs first.toList, s.evs cap.toList with
    | some vs, some cs => .one true (pu (vs ++ cs) (.fn f vs cs))
    | _, _ => .none
  | .makeSlice t x y => match s.ev x, s.ev y with
    | some (.d (.k q n)), some (.d (.k q' n')) => match apT P t with
      | some (e, sz) => match tz P e with
        | some [z] => .one (decide (n' = n ∧ sz = 1 ∧ 0 ≤ n ∧ n ≤ 1000000)) ⟨[.d (.k q n), .d (.k q' n')], [], [], [new], [(new, .cells (List.replicate n.toNat z) e)], .ms new 0 n.toNat⟩
        | _ => .none
      | none => .none
    | _, _ => .none
  | .slice t x none none none => match s.ev x with
    | some (.p h 0) => match s.blk h, ael P t with
      | some (.cells cs e), some (n, sz) => match V.toD.toDs cs with
        | some ds => .one (decide (cs.length = n * sz ∧ n ≤ 1000000) && cs.all oneV) ⟨[.p h 0], [], [(h, .cells cs e)], [], [], .d (.sl sz (chunks sz n ds))⟩
        | none => .none
      | _, _ => .none
    | _ => .none
  | .range t x => match s.ev x with
    | some (.d (.s l)) => .one (isStrT P t) ⟨[.d (.s l)], [], [], [new], [(new, .iter l 0)], .p new 0⟩
    | _ => .none
  | .next x true => match s.ev x with
    | some (.p h 0) => match s.blk h with
      | some (.iter l pos) => .one true ⟨[.p h 0], [], [(h, .iter l pos)], [], [(h, .iter l (nextP l pos))], nextV l pos⟩
      | _ => .none
    | _ => .none
  | .makeMap t none => .one true ⟨[], [], [], [new], [(new, .imap [])], .h new⟩
  | .lookup t x y true => match s.ev x, s.ev y with
    | some (.h h), some v => match s.blk h, mke P t, three v with
      | some (.imap es), some (k, e), some (a, b, c) => match midx a b c es, tz P e with
        | some r, some _ => .one true ⟨[.h h, v], [(h, .imap es)], [], [], [], .tup [lkV es r, .d (.b r.isSome)]⟩
        | _, _ => .none
      | _, _, _ => .none
    | _, _ => .none
  | .mapUpdate t x y z => match s.ev x, s.ev y, s.ev z with
    | some (.h h), some v, some vz => match s.blk h, mke P t, three v with
      | some (.imap es), some (k, e), some (a, b, c) => match midx a b c es, vz.toD with
        | some r, some d => .one true ⟨[.h h, v, vz], [], [(h, .imap es)], [], [(h, .imap (mset es a b c d r))], .u⟩
        | _, _ => .none
      | _, _, _ => .none
    | _, _, _ => .none
  | .panic x => match s.ev x with
    | some (.d (.ifc t d)) => .pan (.ifc t d)
    | _ => .none
  | .defer c => xoDfr s c
  | .slice t x (some y) none none => match s.ev x, s.ev y with
    | some v, some (.d (.k q l)) => match subV P t v (some l) none with
      | some (c, r) => .one c (pu [v, .d (.k q l)] r)
      | none => .none
    | _, _ => .none
  | .slice t x none (some y) none => match s.ev x, s.ev y with
    | some v, some (.d (.k q l)) => match subV P t v none (some l) with
      | some (c, r) => .one c (pu [v, .d (.k q l)] r)
      | none => .none
    | _, _ => .none
  | .slice t x (some y) (some z) none => match s.ev x, s.ev y, s.ev z with
    | some v, some (.d (.k q l)), some (.d (.k q' h)) => match subV P t v (some l) (some h) with
      | some (c, r) => .one c (pu [v, .d (.k q l), .d (.k q' h)] r)
      | none => .none
    | _, _, _ => .none
  | .fieldAddr t x f => match s.ev x, fo P t f with
    | some (.p h off), some n => .one true (pu [.p h off] (.p h (off + n)))
    | some (.q sz rows i j), some n => .one true (pu [.q sz rows i j] (.q sz rows i (j + n)))
    | _, _ => .none
  | .field t x f => match s.ev x with
    | some v => match aggV v, fsh P t f with
      | some cs, some (n, m) => match partV cs n m with
        | some y => .one true (pu [v] y)
        | none => .none
      | _, _ => .none
    | none => .none
  | .indexAddr t x y => match s.ev x, s.ev y with
    | some vx, some vy => xoIdx P t vx vy
    | _, _ => .none
  | .index t x y => match s.ev x, s.ev y with
    | some vx, some vy => xoIndex P t vx vy
    | _, _ => .none
  | .extract x i => match s.ev x with
    | some (.tup cs) => match cs[i]? with
      | some v => .one true (pu [.tup cs] v)
      | none => .none
    | some (.d (.tup ds)) => match ds[i]? with
      | some d => .one true (pu [.d (.tup ds)] (.d d))
      | none => .none
    | _ => .none
  | .typeAssert x t t' true => match s.ev x with
    | some (.d (.ifc tt d)) => .one (decide (isIfcT P t' = some false ∧ (tz P t').isSome = true)) (pu [.d (.ifc tt d)] (.tup [if tt = t' then .d d else .u, .d (.b (decide (tt = t')))]))
    | _ => .none
  | .build t ps => match s.evs (ps.toList.map (·.2)), tz P t with
    | some vs, some zs => match bfill (bpl P t) zs ((ps.toList.map (·.1)).zip vs) with
      | some cs => .one (bplf P t).isSome (pu vs (.agg cs))
      | none => .none
    | _, _ => .none
  | .buildSlice t len ps => match s.evs (ps.toList.map (·.2)), apT P t with
    | some vs, some (e, sz) => match bfill (fun i => some (i * sz, sz)) (List.replicate (len * sz) .u) ((ps.toList.map (·.1)).zip vs) with
      | some cs => match V.toD.toDs cs with
        | some ds => .one (decide (len * sz ≤ 10000 ∧ cs.all oneV = true)) ⟨vs, [], [], [new], [(new, .tail len sz e)], .own new sz (chunks sz len ds)⟩
        | none => .none
      | none => .none
    | _, _ => .none
  | .call c => xoCall P s new c
  | _ => .none
end
end Go.Lm
