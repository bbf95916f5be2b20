/- The logical machine: places, parts, lengths. -/
import Derived.Test.YtnmnccboggljhaaGreatDoorLmH
set_option linter.constructorNameAsVariable false
namespace Go.Lm
open Go Go.RowKit
section
variable {P : Program} {s : LS} {new : Nat} {dst : Option Tmp} {type : TypeId} {pos : String} {after : Array Edge} {guard : Option (Nat × Bool)}

theorem fo_ok {t f n : Nat} (h : fo P t f = some n) (a : Addr) (w : World) : (Instr.fieldAt t (.pointer (some a)) f).run P w = .ok (.pointer (some (a.add n))) w := by
  unfold fo at h
  split at h
  · rename_i fs hu
    split at h
    · rename_i x hx
      split at h
      · rename_i m hm
        cases h
        unfold Instr.fieldAt
        simp only [Sem.run_bind, run_underlying hu, Result.andThen_ok, hx, Instr.sureAddr, Sem.run_pure, fieldPlace, run_sizeOf' hm]
        rfl
      · cases h
    · cases h
  · cases h
theorem ok_fieldP {t : TypeId} {x : Operand} {f h off n : Nat} (hx : s.ev x = some (.p h off)) (hf : fo P t f = some n) : Ok P s new ⟨dst, .fieldAddr t x f, type, pos, after, guard⟩ (pu [.p h off] (.p h (off + n))) :=
  Ok.pure (vals1 rfl hx) fun β fz a w hv => by
    have h1 := hv 0 x _ rfl rfl
    generalize hu : a.eval x = u at h1
    cases h1 with
    | @p _ _ b hb =>
      refine ⟨.pointer (some ⟨b, off + n, none⟩), run_val (sv := Instr.fieldAt t (a.eval x) f) rfl ?_, .p hb⟩
      rw [hu, fo_ok hf, add_off]
theorem ok_fieldQ {t : TypeId} {x : Operand} {f sz i j n : Nat} {rows : List (List D)} (hx : s.ev x = some (.q sz rows i j)) (hf : fo P t f = some n) : Ok P s new ⟨dst, .fieldAddr t x f, type, pos, after, guard⟩ (pu [.q sz rows i j] (.q sz rows i (j + n))) :=
  Ok.pure (vals1 rfl hx) fun β fz a w hv => by
    have h1 := hv 0 x _ rfl rfl
    generalize hu : a.eval x = u at h1
    cases h1 with
    | @q _ _ _ b off _ g hsz hA hg =>
      refine ⟨.pointer (some ⟨b, off + i * sz + (j + n), none⟩), run_val (sv := Instr.fieldAt t (a.eval x) f) rfl ?_, .q g hsz hA hg⟩
      rw [hu, fo_ok hf, add_off, Nat.add_assoc]

/-- the rows behind a slice that is read -/
def rowsV : V → Option (Nat × List (List D))
  | .d (.sl sz rows) => some (sz, rows)
  | .own _ sz rows => some (sz, rows)
  | _ => none
theorem rowsV_ok {β : Bt} {fz : Fz} {v : V} {sz : Nat} {rows : List (List D)} {u : Value} (h : RepV β fz v u) (hr : rowsV v = some (sz, rows)) : RepD fz (.sl sz rows) u := by
  cases v with
  | d x =>
    cases x <;> simp only [rowsV, Option.some.injEq, Prod.mk.injEq, reduceCtorEq] at hr
    obtain ⟨rfl, rfl⟩ := hr
    cases h with
    | d h => exact h
  | own k a b =>
    simp only [rowsV, Option.some.injEq, Prod.mk.injEq] at hr
    obtain ⟨rfl, rfl⟩ := hr
    cases h with
    | own _ h => exact h
  | _ => cases hr
theorem ok_indexS {t : TypeId} {x y : Operand} {q : IntKind} {n : Int} {v : V} {sz : Nat} {rows : List (List D)} (hx : s.ev x = some v) (hy : s.ev y = some (.d (.k q n))) (hr : rowsV v = some (sz, rows)) (ht : sel P t = some sz) (h0 : 0 ≤ n) (hl : n < rows.length) :
    Ok P s new ⟨dst, .indexAddr t x y, type, pos, after, guard⟩ (pu [v, .d (.k q n)] (.q sz rows n.toNat 0)) :=
  Ok.pure (vals2 rfl hx hy) fun β fz a w hv => by
    have h1 := rowsV_ok (hv 0 x _ rfl rfl) hr
    have h2 := (hv 1 y _ rfl rfl).int
    generalize hu : a.eval x = u at h1
    cases h1 with
    | @sl A m c _ _ g hm hc hmm hsz hA ho hg =>
      obtain ⟨b, off, rfl, hA2⟩ := hA (by omega)
      unfold sel at ht
      split at ht
      · rename_i e he
        refine ⟨.pointer (some ⟨b, off + n.toNat * sz + 0, none⟩), run_val (sv := Instr.indexAt t (a.eval x) (a.eval y)) rfl ?_, .q g hsz (by rw [hm]; exact hA2) hg⟩
        rw [hu, h2]
        unfold Instr.indexAt
        have hlt : 0 ≤ n ∧ n < (m : Int) := ⟨h0, by omega⟩
        simp only [Sem.run_bind, asIntOf, Sem.run_pure, Result.andThen_ok, run_underlying he, if_pos hlt, run_sizeOf' ht, add_off]
        rfl
      · cases ht
theorem ok_indexM {t : TypeId} {x y : Operand} {q : IntKind} {n : Int} {h off m : Nat} (hx : s.ev x = some (.ms h off m)) (hy : s.ev y = some (.d (.k q n))) (ht : sel P t = some 1) (h0 : 0 ≤ n) (hl : n < m) :
    Ok P s new ⟨dst, .indexAddr t x y, type, pos, after, guard⟩ (pu [.ms h off m, .d (.k q n)] (.p h (off + n.toNat))) :=
  Ok.pure (vals2 rfl hx hy) fun β fz a w hv => by
    have h1 := hv 0 x _ rfl rfl
    have h2 := (hv 1 y _ rfl rfl).int
    generalize hu : a.eval x = u at h1
    cases h1 with
    | @ms _ _ _ b o c hb hnc ho =>
      obtain rfl := ho (by omega)
      unfold sel at ht
      split at ht
      · rename_i e he
        refine ⟨.pointer (some ⟨b, o + n.toNat, none⟩), run_val (sv := Instr.indexAt t (a.eval x) (a.eval y)) rfl ?_, .p hb⟩
        rw [hu, h2]
        unfold Instr.indexAt
        have hlt : 0 ≤ n ∧ n < (m : Int) := ⟨h0, hl⟩
        simp only [Sem.run_bind, asIntOf, Sem.run_pure, Result.andThen_ok, run_underlying he, if_pos hlt, run_sizeOf' ht, add_off, Nat.mul_one]
      · cases ht
theorem ok_indexA {t : TypeId} {x y : Operand} {q : IntKind} {n : Int} {h off m sz : Nat} (hx : s.ev x = some (.p h off)) (hy : s.ev y = some (.d (.k q n))) (ht : ael P t = some (m, sz)) (h0 : 0 ≤ n) (hl : n < m) :
    Ok P s new ⟨dst, .indexAddr t x y, type, pos, after, guard⟩ (pu [.p h off, .d (.k q n)] (.p h (off + n.toNat * sz))) :=
  Ok.pure (vals2 rfl hx hy) fun β fz a w hv => by
    have h1 := hv 0 x _ rfl rfl
    have h2 := (hv 1 y _ rfl rfl).int
    generalize hu : a.eval x = u at h1
    cases h1 with
    | @p _ _ b hb =>
      unfold ael at ht
      split at ht
      · rename_i k e he
        simp only [Option.map_eq_some_iff, Prod.mk.injEq] at ht
        obtain ⟨z, ht, rfl, rfl⟩ := ht
        refine ⟨.pointer (some ⟨b, off + n.toNat * z, none⟩), run_val (sv := Instr.indexAt t (a.eval x) (a.eval y)) rfl ?_, .p hb⟩
        rw [hu, h2]
        unfold Instr.indexAt
        have hlt : 0 ≤ n ∧ n < (k : Int) := ⟨h0, hl⟩
        simp only [Sem.run_bind, asIntOf, Sem.run_pure, Result.andThen_ok, run_underlying he, if_pos hlt, run_sizeOf' ht, add_off, Instr.sureAddr]
      · cases ht

/-- the cells of an aggregate -/
def aggV : V → Option (List V)
  | .agg cs => some cs
  | .d (.agg ds) => some (ds.map .d)
  | _ => none
theorem aggV_ok {β : Bt} {fz : Fz} {v : V} {cs : List V} {u : Value} (h : RepV β fz v u) (hr : aggV v = some cs) : ∃ us, u = .agg us ∧ RepVs β fz cs us := by
  cases v with
  | agg l =>
    simp only [aggV, Option.some.injEq] at hr
    subst hr
    cases h with
    | @agg _ vs hl h => exact ⟨vs, rfl, hl, h⟩
  | d x =>
    cases x <;> simp only [aggV, Option.some.injEq, reduceCtorEq] at hr
    subst hr
    cases h with
    | d h =>
      cases h with
      | @agg ds vs hl h =>
        refine ⟨vs, rfl, by simpa using hl, fun j d u h1 h2 => ?_⟩
        rw [List.getElem?_map] at h1
        simp only [Option.map_eq_some_iff] at h1
        obtain ⟨d', h1, rfl⟩ := h1
        exact .d (h j d' u h1 h2)
  | _ => cases hr
/-- a part of an aggregate: of n cells, or one that is no aggregate -/
def partV (cs : List V) (off : Nat) : Option Nat → Option V
  | some n => if off + n ≤ cs.length then some (.agg ((cs.drop off).take n)) else none
  | none => cs[off]?
/-- what a load, a field or an element of a type is: some n: an aggregate of n cells -/
def shp (P : Program) (t : TypeId) : Option (Option Nat) := match tag P t, tsz P t with
  | some true, some n => some (some n)
  | some false, some _ => some none
  | _, _ => none
theorem shp_agg {t n : Nat} (h : shp P t = some (some n)) : tag P t = some true ∧ tsz P t = some n := by
  unfold shp at h
  split at h <;> first | (rename_i h1 h2; cases h; exact ⟨h1, h2⟩) | cases h
theorem shp_one {t : Nat} (h : shp P t = some none) : tag P t = some false := by
  unfold shp at h
  split at h <;> first | (rename_i h1 h2; exact h1) | cases h
theorem part_ok {β : Bt} {fz : Fz} {cs : List V} {us : Array Value} (h : RepVs β fz cs us) {t off : Nat} {m : Option Nat} {v : V} (hs : shp P t = some m) (hv : partV cs off m = some v) (w : World) :
    ∃ u, (part t us off).run P w = .ok u w ∧ RepV β fz v u := by
  cases m with
  | none =>
    simp only [partV] at hv
    have hlt : off < us.size := by rw [h.1]; exact (List.getElem?_eq_some_iff.1 hv).1
    refine ⟨us[off], ?_, h.2 off v _ hv (Array.getElem?_eq_getElem hlt)⟩
    unfold part
    simp only [Sem.run_bind, run_isAgg' (shp_one hs), Result.andThen_ok, Bool.false_eq_true, if_false, Array.getElem?_eq_getElem hlt]
    rfl
  | some n =>
    simp only [partV] at hv
    split at hv
    · rename_i hl
      cases hv
      obtain ⟨h1, h2⟩ := shp_agg hs
      have hr := ((h.list.drop off).take n).arr
      have he : us.extract off (off + n) = ((us.toList.drop off).take n).toArray := by
        apply Array.ext'
        simp [Array.toList_extract, List.extract_eq_take_drop]
      refine ⟨.agg (us.extract off (off + n)), ?_, .agg (by rw [he]; exact hr.1) (by rw [he]; exact hr.2)⟩
      unfold part
      simp only [Sem.run_bind, run_isAgg' h1, Result.andThen_ok, if_true, run_sizeOf' h2]
      rfl
    · cases hv
/-- a field's place and shape -/
def fsh (P : Program) (t : TypeId) (f : Nat) : Option (Nat × Option Nat) := match P.underlying t with
  | some (.struct fs) => match fs[f]? with
    | some x => (shp P x.type).map fun m => (x.offset, m)
    | none => none
  | _ => none
theorem ok_field {t : TypeId} {x : Operand} {f n : Nat} {m : Option Nat} {v y : V} {cs : List V} (hx : s.ev x = some v) (hc : aggV v = some cs) (hf : fsh P t f = some (n, m)) (hp : partV cs n m = some y) :
    Ok P s new ⟨dst, .field t x f, type, pos, after, guard⟩ (pu [v] y) :=
  Ok.pure (vals1 rfl hx) fun β fz a w hv => by
    obtain ⟨us, hu, hr⟩ := aggV_ok (hv 0 x _ rfl rfl) hc
    unfold fsh at hf
    split at hf
    · rename_i fs hfs
      split at hf
      · rename_i g hg
        simp only [Option.map_eq_some_iff, Prod.mk.injEq] at hf
        obtain ⟨m', hm, rfl, rfl⟩ := hf
        obtain ⟨u, k1, k2⟩ := part_ok hr hm hp w
        refine ⟨u, run_val (sv := Instr.field t (a.eval x) f) rfl ?_, k2⟩
        rw [hu]
        unfold Instr.field
        simp only [Sem.run_bind, run_underlying hfs, Result.andThen_ok, hg, asAgg, Sem.run_pure, k1]
      · cases hf
    · cases hf
/-- an element of an array, its length -/
def esh (P : Program) (t : TypeId) : Option (Nat × Nat × Option Nat) := match P.underlying t with
  | some (.array n e) => match tsz P e, shp P e with
    | some z, some m => some (n, z, m)
    | _, _ => none
  | _ => none
theorem ok_indexV {t : TypeId} {x z : Operand} {q : IntKind} {n : Int} {k sz : Nat} {m : Option Nat} {v y : V} {cs : List V} (hx : s.ev x = some v) (hz : s.ev z = some (.d (.k q n))) (hc : aggV v = some cs) (he : esh P t = some (k, sz, m)) (h0 : 0 ≤ n) (hl : n < k)
    (hp : partV cs (n.toNat * sz) m = some y) : Ok P s new ⟨dst, .index t x z, type, pos, after, guard⟩ (pu [v, .d (.k q n)] y) :=
  Ok.pure (vals2 rfl hx hz) fun β fz a w hv => by
    obtain ⟨us, hu, hr⟩ := aggV_ok (hv 0 x _ rfl rfl) hc
    have h2 := (hv 1 z _ rfl rfl).int
    unfold esh at he
    split at he
    · rename_i k' e hue
      split at he
      · rename_i z' m' hz' hm'
        cases he
        obtain ⟨u, k1, k2⟩ := part_ok hr hm' hp w
        refine ⟨u, run_val (sv := Instr.index t (a.eval x) (a.eval z)) rfl ?_, k2⟩
        rw [hu, h2]
        unfold Instr.index
        have hlt : 0 ≤ n ∧ n < (k : Int) := ⟨h0, hl⟩
        simp only [Sem.run_bind, asIntOf, Sem.run_pure, Result.andThen_ok, run_underlying hue, if_pos hlt, run_sizeOf' hz', k1]
      · cases he
    · cases he
def isStrT (P : Program) (t : TypeId) : Bool := match P.underlying t with | some .string => true | _ => false
theorem isStr_ok {t : TypeId} (h : isStrT P t = true) : P.underlying t = some .string := by
  unfold isStrT at h
  split at h
  · assumption
  · cases h
theorem ok_indexStr {t : TypeId} {x z : Operand} {q : IntKind} {n : Int} {l : List UInt8} (hx : s.ev x = some (.d (.s l))) (hz : s.ev z = some (.d (.k q n))) (ht : isStrT P t = true) (h0 : 0 ≤ n) (hl : n < l.length) :
    Ok P s new ⟨dst, .index t x z, type, pos, after, guard⟩ (pu [.d (.s l), .d (.k q n)] (.d (.k .u8 (l.getD n.toNat 0).toNat))) :=
  Ok.pure (vals2 rfl hx hz) fun β fz a w hv => by
    have h1 := (hv 0 x _ rfl rfl).str
    have h2 := (hv 1 z _ rfl rfl).int
    refine ⟨.int .u8 (l.getD n.toNat 0).toNat, run_val (sv := Instr.index t (a.eval x) (a.eval z)) rfl ?_, .i _ _ _ _⟩
    rw [h1, h2]
    unfold Instr.index
    have hlt : n.toNat < l.length := by omega
    have hb : (ByteArray.mk l.toArray)[n.toNat]? = some l[n.toNat] := (getElem?_pos (ByteArray.mk l.toArray) n.toNat (show n.toNat < (ByteArray.mk l.toArray).size from hlt)).trans rfl
    simp only [Sem.run_bind, asIntOf, Sem.run_pure, Result.andThen_ok, run_underlying (isStr_ok ht), if_pos h0, hb, List.getD_eq_getElem?_getD, List.getElem?_eq_getElem hlt]
    rfl

/-! ### lengths; the greater and the lesser -/
def lenV (P : Program) (t : TypeId) : V → Option Nat
  | .d (.s l) => if isStrT P t then some l.length else none
  | .d .nil => if (sel P t).isSome then some 0 else none
  | .ms _ _ n => if (sel P t).isSome then some n else none
  | v => match rowsV v with
    | some (_, rows) => if (sel P t).isSome then some rows.length else none
    | none => none
theorem sel_slice {t : TypeId} (h : (sel P t).isSome = true) : ∃ e, P.underlying t = some (.slice e) := by
  unfold sel at h
  split at h
  · rename_i e he; exact ⟨e, he⟩
  · cases h
theorem lenV_ok {β : Bt} {fz : Fz} {t ty : TypeId} {v : V} {n : Nat} {u : Value} (h : RepV β fz v u) (hl : lenV P t v = some n) (w : World) : (Builtin.len_ #[t] ty #[u]).run P w = .ok (.int .i64 n) w := by
  have slice : ∀ A m c, (sel P t).isSome = true → u = .slice A m c → m = n → (Builtin.len_ #[t] ty #[u]).run P w = .ok (.int .i64 n) w := fun A m c hs hu hm => by
    obtain ⟨e, he⟩ := sel_slice hs
    subst hu; subst hm
    unfold Builtin.len_
    simp [run_underlying he, go_sem]
  have rows : (match rowsV v with | some (_, rows) => if (sel P t).isSome then some rows.length else none | none => none) = some n → (Builtin.len_ #[t] ty #[u]).run P w = .ok (.int .i64 n) w := fun hl => by
    split at hl
    · rename_i sz rows hr
      split at hl
      · rename_i hs
        cases hl
        have := rowsV_ok h hr
        cases this with
        | @sl A m c _ _ g hm hc hmm hsz hA ho hg => exact slice A m c hs rfl hm.symm
      · cases hl
    · cases hl
  cases v with
  | d x =>
    cases x with
    | s l =>
      simp only [lenV] at hl
      split at hl
      · rename_i hs
        cases hl
        rw [h.str]
        unfold Builtin.len_
        have : (ByteArray.mk l.toArray).size = l.length := rfl
        simp [run_underlying (isStr_ok hs), go_sem, this]
      · cases hl
    | nil =>
      simp only [lenV] at hl
      split at hl
      · rename_i hs
        cases hl
        cases h with
        | d h => cases h; exact slice none 0 0 hs rfl rfl
      · cases hl
    | _ => exact rows hl
  | ms k sz m =>
    simp only [lenV] at hl
    split at hl
    · rename_i hs
      cases hl
      cases h with
      | @ms _ _ _ b hb => exact slice _ _ _ hs rfl rfl
    · cases hl
  | _ => exact rows hl
theorem run_builtin {f : Operand → Value} {w w' : World} {b : Builtin} {args : Array Operand} {tys : Array TypeId} {sv : Sem Value} {u : Value} (h : ∀ consts, builtin b tys type consts (args.map f) = (do pure (.value (← sv)))) (hs : sv.run P w = .ok u w') :
    (execOp f ⟨dst, .call { callee := .builtin b, args := args, argTypes := tys }, type, pos, after, guard⟩).run P w = .ok (.value u) w' := by
  show (do let d ← resolve f { callee := .builtin b, args := args, argTypes := tys } type; invoke d.target d.args : Sem Next).run P w = _
  simp only [resolve, Sem.run_bind, Sem.run_pure, Result.andThen_ok, invoke]
  rw [h]
  simp [hs, go_sem]
theorem ok_len {t : TypeId} {x : Operand} {v : V} {n : Nat} (hx : s.ev x = some v) (hl : lenV P t v = some n) : Ok P s new ⟨dst, .call { callee := .builtin .len, args := #[x], argTypes := #[t] }, type, pos, after, guard⟩ (pu [v] (.d (.k .i64 n))) :=
  Ok.pure (vals1 rfl hx) fun β fz a w hv => ⟨.int .i64 n, run_builtin (sv := Builtin.len_ #[t] type #[a.eval x]) (fun _ => by simp; rfl) (lenV_ok (hv 0 x _ rfl rfl) hl w), .i _ _ _ _⟩
theorem ok_max2 {x y : Operand} {q r : IntKind} {m n : Int} {tys : Array TypeId} (hx : s.ev x = some (.d (.k q m))) (hy : s.ev y = some (.d (.k r n))) : Ok P s new ⟨dst, .call { callee := .builtin .max, args := #[x, y], argTypes := tys }, type, pos, after, guard⟩ (pu [.d (.k q m), .d (.k r n)] (.d (.k q (max m n)))) :=
  Ok.pure (vals2 rfl hx hy) fun β fz a w hv => by
    have h1 := (hv 0 x _ rfl rfl).int
    have h2 := (hv 1 y _ rfl rfl).int
    refine ⟨.int q (max m n), run_builtin (sv := Builtin.max_ tys type #[a.eval x, a.eval y]) (fun _ => by simp; rfl) ?_, .i _ _ _ _⟩
    rw [h1, h2]
    have : (if n > m then n else m) = max m n := by split <;> omega
    simp [Builtin.max_, Builtin.max2, go_sem, this]
theorem ok_min2 {x y : Operand} {q r : IntKind} {m n : Int} {tys : Array TypeId} (hx : s.ev x = some (.d (.k q m))) (hy : s.ev y = some (.d (.k r n))) : Ok P s new ⟨dst, .call { callee := .builtin .min, args := #[x, y], argTypes := tys }, type, pos, after, guard⟩ (pu [.d (.k q m), .d (.k r n)] (.d (.k q (min m n)))) :=
  Ok.pure (vals2 rfl hx hy) fun β fz a w hv => by
    have h1 := (hv 0 x _ rfl rfl).int
    have h2 := (hv 1 y _ rfl rfl).int
    refine ⟨.int q (min m n), run_builtin (sv := Builtin.min_ tys type #[a.eval x, a.eval y]) (fun _ => by simp; rfl) ?_, .i _ _ _ _⟩
    rw [h1, h2]
    have : (if n < m then n else m) = min m n := by split <;> omega
    simp [Builtin.min_, Builtin.min2, go_sem, this]
theorem ok_max3 {x y z : Operand} {q r p : IntKind} {m n k : Int} {tys : Array TypeId} (hx : s.ev x = some (.d (.k q m))) (hy : s.ev y = some (.d (.k r n))) (hz : s.ev z = some (.d (.k p k))) :
    Ok P s new ⟨dst, .call { callee := .builtin .max, args := #[x, y, z], argTypes := tys }, type, pos, after, guard⟩ (pu [.d (.k q m), .d (.k r n), .d (.k p k)] (.d (.k q (max (max m n) k)))) :=
  Ok.pure (vals3 rfl hx hy hz) fun β fz a w hv => by
    have h1 := (hv 0 x _ rfl rfl).int
    have h2 := (hv 1 y _ rfl rfl).int
    have h3 := (hv 2 z _ rfl rfl).int
    refine ⟨.int q (max (max m n) k), run_builtin (sv := Builtin.max_ tys type #[a.eval x, a.eval y, a.eval z]) (fun _ => by simp; rfl) ?_, .i _ _ _ _⟩
    rw [h1, h2, h3]
    have e1 : (if n > m then n else m) = max m n := by split <;> omega
    have e2 : (if k > max m n then k else max m n) = max (max m n) k := by split <;> omega
    simp [Builtin.max_, Builtin.max2, go_sem, e1, e2]
end
end Go.Lm
