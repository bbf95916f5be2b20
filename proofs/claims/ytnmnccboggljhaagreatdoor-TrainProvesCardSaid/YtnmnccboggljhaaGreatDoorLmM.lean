/- The logical machine: parts of slices and strings, conversions, make, interfaces. -/
import Derived.Test.YtnmnccboggljhaaGreatDoorLmL
import Derived.Laws.MakeOwn
set_option linter.constructorNameAsVariable false
namespace Go.Lm
open Go Go.RowKit
section
variable {P : Program} {s : LS} {new : Nat} {dst : Option Tmp} {type : TypeId} {pos : String} {after : Array Edge} {guard : Option (Nat × Bool)}

theorem run_bound {x : Int} {q : IntKind} {y : Nat} {code : BoundsCode} (h0 : 0 ≤ x) (h : x ≤ y) (w : World) : (Instr.sliceBound (.int q x) y code).run P w = .ok x.toNat w := by
  unfold Instr.sliceBound
  have : 0 ≤ x ∧ x ≤ (y : Int) := ⟨h0, h⟩
  simp only [Sem.run_bind, asIntOf, Sem.run_pure, Result.andThen_ok, if_pos this]
theorem sub_rep {fz : Fz} {sz n c l h : Nat} {A : Option Addr} {rows : List (List D)} (hr : RepD fz (.sl sz rows) (.slice A n c)) (hl : l ≤ h) (hh : h ≤ n) :
    RepD fz (.sl sz ((rows.take h).drop l)) (.slice (if c = l then A else A.map (·.add (l * sz))) (h - l) (c - l)) := by
  cases hr with
  | sl g hm hc hmm hsz hA ho hg =>
    have hrow : ∀ i (r : List D), ((rows.take h).drop l)[i]? = some r → rows[i + l]? = some r := fun i r hi => by
      rw [List.getElem?_drop, List.getElem?_take] at hi
      split at hi
      · rwa [Nat.add_comm]
      · cases hi
    refine .sl (fun i j => g (i + l) j) (by simp; omega) (by omega) (by omega) (fun r hr => hsz r (List.mem_of_mem_take (List.mem_of_mem_drop hr))) (fun h0 => ?_) (fun i j r d a b => ho (i + l) j r d (hrow i r a) b) fun i j r d a b => hg (i + l) j r d (hrow i r a) b
    obtain ⟨b, off, rfl, hA2⟩ := hA (by omega)
    refine ⟨b, off + l * sz, by rw [if_neg (by omega)]; simp [add_off], fun i j hi hj => ?_⟩
    have := hA2 (i + l) j (by omega) hj
    rw [Nat.add_mul] at this
    rw [show off + l * sz + i * sz + j = off + (i * sz + l * sz) + j by omega]
    exact this
/-- the parts of a slice that is read -/
def subV (P : Program) (t : TypeId) (v : V) (l h : Option Int) : Option (Bool × V) := match rowsV v with
  | some (sz, rows) => if sel P t = some sz then match l, h with
      | none, none => none
      | some l, none => some (decide (0 ≤ l ∧ l ≤ rows.length), .d (.sl sz (rows.drop l.toNat)))
      | none, some h => some (decide (0 ≤ h ∧ h ≤ rows.length), .d (.sl sz (rows.take h.toNat)))
      | some l, some h => some (decide (0 ≤ l ∧ l ≤ h ∧ h ≤ rows.length), .d (.sl sz ((rows.take h.toNat).drop l.toNat)))
    else none
  | none => match v with
    | .d .nil => if (sel P t).isSome then match l, h with
        | some l, none => some (decide (l = 0), .d .nil)
        | none, some h => some (decide (h = 0), .d .nil)
        | _, _ => none
      else none
    | .d (.s x) => if isStrT P t then match l, h with
        | none, none => none
        | some l, none => some (decide (0 ≤ l ∧ l ≤ x.length), .d (.s (x.drop l.toNat)))
        | none, some h => some (decide (0 ≤ h ∧ h ≤ x.length), .d (.s (x.take h.toNat)))
        | some l, some h => some (decide (0 ≤ l ∧ l ≤ h ∧ h ≤ x.length), .d (.s ((x.take h.toNat).drop l.toNat)))
      else none
    | .ms k off n => if sel P t = some 1 then match l, h with
        | none, none => none
        | some l, none => some (decide (0 ≤ l ∧ l ≤ n), .ms k (off + l.toNat) (n - l.toNat))
        | none, some h => some (decide (0 ≤ h ∧ h ≤ n), .ms k off h.toNat)
        | some l, some h => some (decide (0 ≤ l ∧ l ≤ h ∧ h ≤ n), .ms k (off + l.toNat) (h.toNat - l.toNat))
      else none
    | _ => none
theorem sub_str (x : List UInt8) (l h : Nat) : (ByteArray.mk x.toArray).extract l h = ⟨((x.take h).drop l).toArray⟩ := by
  apply ByteArray.ext
  rw [ByteArray.data_extract]
  apply Array.ext'
  simp [Array.toList_extract, List.extract_eq_take_drop, List.drop_take]
theorem run_slice_any {t sz n c : Nat} {A : Option Addr} (ht : sel P t = some sz) (hnc : n ≤ c) (lo hi : Option Value) (l h : Nat)
    (hlo : lo = none ∧ l = 0 ∨ ∃ q x, lo = some (.int q x) ∧ 0 ≤ x ∧ l = x.toNat) (hhi : hi = none ∧ h = n ∨ ∃ q x, hi = some (.int q x) ∧ 0 ≤ x ∧ h = x.toNat) (h1 : l ≤ h) (h2 : h ≤ n) (w : World) :
    (Instr.sliceAt t (.slice A n c) lo hi none).run P w = .ok (.slice (if c = l then A else A.map (·.add (l * sz))) (h - l) (c - l)) w := by
  unfold sel at ht
  split at ht
  · rename_i e he
    have hb : (Instr.sliceBounds true n c lo hi none).run P w = .ok (l, h, c) w := by
      unfold Instr.sliceBounds
      rcases hhi with ⟨rfl, rfl⟩ | ⟨q, x, rfl, hx, rfl⟩
      · rcases hlo with ⟨rfl, rfl⟩ | ⟨q, y, rfl, hy, rfl⟩
        · rfl
        · simp only [Sem.run_bind, Sem.run_pure, Result.andThen_ok]
          rw [run_bound hy (by omega)]; rfl
      · have hxb := fun code => run_bound (P := P) (q := q) (y := c) (code := code) hx (by omega) w
        rcases hlo with ⟨rfl, rfl⟩ | ⟨q, y, rfl, hy, rfl⟩
        · simp only [Sem.run_bind, Sem.run_pure, Result.andThen_ok, hxb]
        · simp only [Sem.run_bind, Sem.run_pure, Result.andThen_ok, hxb]
          rw [run_bound hy (by omega)]; rfl
    unfold Instr.sliceAt
    simp only [Sem.run_bind, run_underlying he, Result.andThen_ok]
    unfold Instr.slice
    simp only [Sem.run_bind, run_underlying he, Result.andThen_ok, hb, run_sizeOf' ht]
    rfl
  · cases ht
theorem run_slice_rows {fz : Fz} {t sz n c : Nat} {A : Option Addr} {rows : List (List D)} (ht : sel P t = some sz) (hr : RepD fz (.sl sz rows) (.slice A n c)) (lo hi : Option Value) (l h : Nat)
    (hlo : lo = none ∧ l = 0 ∨ ∃ q x, lo = some (.int q x) ∧ 0 ≤ x ∧ l = x.toNat) (hhi : hi = none ∧ h = n ∨ ∃ q x, hi = some (.int q x) ∧ 0 ≤ x ∧ h = x.toNat) (h1 : l ≤ h) (h2 : h ≤ n) (w : World) :
    (Instr.sliceAt t (.slice A n c) lo hi none).run P w = .ok (.slice (if c = l then A else A.map (·.add (l * sz))) (h - l) (c - l)) w :=
  run_slice_any ht (by cases hr with | sl g hm hc hmm hsz hA ho hg => exact hc) lo hi l h hlo hhi h1 h2 w
theorem run_slice_str {t : Nat} {x : List UInt8} (ht : isStrT P t = true) (lo hi : Option Value) (l h : Nat)
    (hlo : lo = none ∧ l = 0 ∨ ∃ q y, lo = some (.int q y) ∧ 0 ≤ y ∧ l = y.toNat) (hhi : hi = none ∧ h = x.length ∨ ∃ q y, hi = some (.int q y) ∧ 0 ≤ y ∧ h = y.toNat) (h1 : l ≤ h) (h2 : h ≤ x.length) (w : World) :
    (Instr.sliceAt t (.string ⟨x.toArray⟩) lo hi none).run P w = .ok (.string ⟨((x.take h).drop l).toArray⟩) w := by
  have he := isStr_ok ht
  have hsz : (ByteArray.mk x.toArray).size = x.length := rfl
  have hb : (Instr.sliceBounds false x.length x.length lo hi none).run P w = .ok (l, h, x.length) w := by
    unfold Instr.sliceBounds
    rcases hhi with ⟨rfl, rfl⟩ | ⟨q, z, rfl, hx, rfl⟩
    · rcases hlo with ⟨rfl, rfl⟩ | ⟨q, y, rfl, hy, rfl⟩
      · rfl
      · simp only [Sem.run_bind, Sem.run_pure, Result.andThen_ok]
        rw [run_bound hy (by omega)]; rfl
    · have hxb := fun code => run_bound (P := P) (q := q) (y := x.length) (code := code) hx (by omega) w
      rcases hlo with ⟨rfl, rfl⟩ | ⟨q, y, rfl, hy, rfl⟩
      · simp only [Sem.run_bind, Sem.run_pure, Result.andThen_ok, hxb]
      · simp only [Sem.run_bind, Sem.run_pure, Result.andThen_ok, hxb]
        rw [run_bound hy (by omega)]; rfl
  unfold Instr.sliceAt
  simp only [Sem.run_bind, run_underlying he, Result.andThen_ok]
  unfold Instr.slice
  simp only [Sem.run_bind, run_underlying he, Result.andThen_ok, hsz, Option.isSome_none, Bool.false_eq_true, if_false, hb, sub_str]
  rfl
def ofI (q : IntKind) : Option Int → Option Value
  | none => none
  | some n => some (.int q n)
theorem run_sub {β : Bt} {fz : Fz} {t : TypeId} {v r : V} {u : Value} {l h : Option Int} {c : Bool} (hv : RepV β fz v u) (hs : subV P t v l h = some (c, r)) (hc : c = true) (q q' : IntKind) (w : World) :
    ∃ u', (Instr.sliceAt t u (ofI q l) (ofI q' h) none).run P w = .ok u' w ∧ RepV β fz r u' := by
  unfold subV at hs
  split at hs
  · rename_i sz rows hr
    split at hs
    · rename_i ht
      have hd := rowsV_ok hv hr
      have hd' := hd
      cases hd' with
      | @sl A n k _ _ g hm hk hmm hsz hA ho hg =>
        split at hs
        · cases hs
        · rename_i l
          cases hs
          replace hc := of_decide_eq_true hc
          refine ⟨_, run_slice_rows ht hd _ _ l.toNat n (.inr ⟨q, l, rfl, hc.1, rfl⟩) (.inl ⟨rfl, rfl⟩) (by omega) (Nat.le_refl _) w, .d ?_⟩
          have := sub_rep hd (show l.toNat ≤ n by omega) (Nat.le_refl n)
          rwa [List.take_of_length_le (by omega)] at this
        · rename_i h
          cases hs
          replace hc := of_decide_eq_true hc
          exact ⟨_, run_slice_rows ht hd _ _ 0 h.toNat (.inl ⟨rfl, rfl⟩) (.inr ⟨q', h, rfl, hc.1, rfl⟩) (by omega) (by omega) w, .d (sub_rep hd (Nat.zero_le _) (by omega))⟩
        · rename_i l h
          cases hs
          replace hc := of_decide_eq_true hc
          exact ⟨_, run_slice_rows ht hd _ _ l.toNat h.toNat (.inr ⟨q, l, rfl, hc.1, rfl⟩) (.inr ⟨q', h, rfl, by omega, rfl⟩) (by omega) (by omega) w, .d (sub_rep hd (by omega) (by omega))⟩
    · cases hs
  · split at hs
    · split at hs
      · rename_i ht
        obtain ⟨sz, ht⟩ := Option.isSome_iff_exists.1 ht
        have hu : u = .slice none 0 0 := by
          cases hv with
          | d h => cases h; rfl
        subst hu
        have hd : RepD fz (.sl sz []) (.slice none 0 0) := .sl (fun _ _ => default) rfl (Nat.le_refl _) (by omega) (fun r hr => by cases hr) (fun h => by omega) (fun i j r d h => by simp at h) (fun i j r d h => by simp at h)
        split at hs
        · rename_i l
          cases hs
          obtain rfl := of_decide_eq_true hc
          exact ⟨_, run_slice_rows ht hd _ _ 0 0 (.inr ⟨q, 0, rfl, Int.le_refl _, rfl⟩) (.inl ⟨rfl, rfl⟩) (Nat.le_refl _) (Nat.le_refl _) w, .d .nil⟩
        · rename_i h
          cases hs
          obtain rfl := of_decide_eq_true hc
          exact ⟨_, run_slice_rows ht hd _ _ 0 0 (.inl ⟨rfl, rfl⟩) (.inr ⟨q', 0, rfl, Int.le_refl _, rfl⟩) (Nat.le_refl _) (Nat.le_refl _) w, .d .nil⟩
        · cases hs
      · cases hs
    · rename_i x _
      split at hs
      · rename_i ht
        have hu := hv.str
        subst hu
        split at hs
        · cases hs
        · rename_i l
          cases hs
          replace hc := of_decide_eq_true hc
          have := run_slice_str (P := P) (x := x) ht (some (.int q l)) none l.toNat x.length (.inr ⟨q, l, rfl, hc.1, rfl⟩) (.inl ⟨rfl, rfl⟩) (by omega) (Nat.le_refl _) w
          rw [List.take_of_length_le (Nat.le_refl _)] at this
          exact ⟨_, this, .d (.s _)⟩
        · rename_i h
          cases hs
          replace hc := of_decide_eq_true hc
          exact ⟨_, run_slice_str ht none (some (.int q' h)) 0 h.toNat (.inl ⟨rfl, rfl⟩) (.inr ⟨q', h, rfl, hc.1, rfl⟩) (by omega) (by omega) w, .d (.s _)⟩
        · rename_i l h
          cases hs
          replace hc := of_decide_eq_true hc
          exact ⟨_, run_slice_str ht (some (.int q l)) (some (.int q' h)) l.toNat h.toNat (.inr ⟨q, l, rfl, hc.1, rfl⟩) (.inr ⟨q', h, rfl, by omega, rfl⟩) (by omega) (by omega) w, .d (.s _)⟩
      · cases hs
    · rename_i k off n _
      split at hs
      · rename_i ht
        cases hv with
        | @ms _ _ _ bb o c hb hnc ho =>
          split at hs
          · cases hs
          · rename_i l
            cases hs
            replace hc := of_decide_eq_true hc
            refine ⟨_, run_slice_any ht hnc _ _ l.toNat n (.inr ⟨q, l, rfl, hc.1, rfl⟩) (.inl ⟨rfl, rfl⟩) (by omega) (Nat.le_refl _) w, ?_⟩
            split
            · exact .ms hb (by omega) fun h0 => by omega
            · rw [Option.map_some, add_off]; exact .ms hb (by omega) fun h0 => by rw [ho (by omega)]; omega
          · rename_i h
            cases hs
            replace hc := of_decide_eq_true hc
            refine ⟨_, run_slice_any ht hnc _ _ 0 h.toNat (.inl ⟨rfl, rfl⟩) (.inr ⟨q', h, rfl, hc.1, rfl⟩) (by omega) (by omega) w, ?_⟩
            split
            · exact .ms hb (by omega) fun h0 => by omega
            · rw [Option.map_some, add_off]; exact .ms hb (by omega) fun h0 => by rw [ho (by omega)]; omega
          · rename_i l h
            cases hs
            replace hc := of_decide_eq_true hc
            refine ⟨_, run_slice_any ht hnc _ _ l.toNat h.toNat (.inr ⟨q, l, rfl, hc.1, rfl⟩) (.inr ⟨q', h, rfl, by omega, rfl⟩) (by omega) (by omega) w, ?_⟩
            split
            · exact .ms hb (by omega) fun h0 => by omega
            · rw [Option.map_some, add_off]; exact .ms hb (by omega) fun h0 => by rw [ho (by omega)]; omega
      · cases hs
    · cases hs
theorem ok_slice1 {t : TypeId} {x y : Operand} {q : IntKind} {l : Int} {v r : V} {c : Bool} (hx : s.ev x = some v) (hy : s.ev y = some (.d (.k q l))) (hs : subV P t v (some l) none = some (c, r)) (hc : c = true) : Ok P s new ⟨dst, .slice t x (some y) none none, type, pos, after, guard⟩ (pu [v, .d (.k q l)] r) :=
  Ok.pure (vals2 (by simp [Op.operands]) hx hy) fun β fz a w hv => by
    have h1 := hv 0 x v (by simp [Op.operands]) rfl
    have h2 := (hv 1 y (.d (.k q l)) (by simp [Op.operands]) rfl).int
    obtain ⟨u, k1, k2⟩ := run_sub h1 hs hc q q w
    exact ⟨u, run_val (sv := Instr.sliceAt t (a.eval x) (some (a.eval y)) none none) rfl (by rw [h2]; exact k1), k2⟩
theorem ok_slice2 {t : TypeId} {x y : Operand} {q : IntKind} {l : Int} {v r : V} {c : Bool} (hx : s.ev x = some v) (hy : s.ev y = some (.d (.k q l))) (hs : subV P t v none (some l) = some (c, r)) (hc : c = true) : Ok P s new ⟨dst, .slice t x none (some y) none, type, pos, after, guard⟩ (pu [v, .d (.k q l)] r) :=
  Ok.pure (vals2 (by simp [Op.operands]) hx hy) fun β fz a w hv => by
    have h1 := hv 0 x v (by simp [Op.operands]) rfl
    have h2 := (hv 1 y (.d (.k q l)) (by simp [Op.operands]) rfl).int
    obtain ⟨u, k1, k2⟩ := run_sub h1 hs hc q q w
    exact ⟨u, run_val (sv := Instr.sliceAt t (a.eval x) none (some (a.eval y)) none) rfl (by rw [h2]; exact k1), k2⟩
theorem ok_slice3 {t : TypeId} {x y z : Operand} {q q' : IntKind} {l h : Int} {v r : V} {c : Bool} (hx : s.ev x = some v) (hy : s.ev y = some (.d (.k q l))) (hz : s.ev z = some (.d (.k q' h))) (hs : subV P t v (some l) (some h) = some (c, r)) (hc : c = true) :
    Ok P s new ⟨dst, .slice t x (some y) (some z) none, type, pos, after, guard⟩ (pu [v, .d (.k q l), .d (.k q' h)] r) :=
  Ok.pure (vals3 (by simp [Op.operands]) hx hy hz) fun β fz a w hv => by
    have h1 := hv 0 x v (by simp [Op.operands]) rfl
    have h2 := (hv 1 y (.d (.k q l)) (by simp [Op.operands]) rfl).int
    have h3 := (hv 2 z (.d (.k q' h)) (by simp [Op.operands]) rfl).int
    obtain ⟨u, k1, k2⟩ := run_sub h1 hs hc q q' w
    exact ⟨u, run_val (sv := Instr.sliceAt t (a.eval x) (some (a.eval y)) (some (a.eval z)) none) rfl (by rw [h2, h3]; exact k1), k2⟩

/-! ### conversions -/
def tik (P : Program) (t : TypeId) : Option IntKind := match P.underlying t with | some (.int k) => some k | _ => none
theorem tik_ok {t : TypeId} {k : IntKind} (h : tik P t = some k) : P.underlying t = some (.int k) := by
  unfold tik at h
  split at h
  · rename_i k' hk; cases h; exact hk
  · cases h
theorem ok_convI {t t' : TypeId} {x : Operand} {q k k' : IntKind} {n : Int} (hx : s.ev x = some (.d (.k q n))) (ht : tik P t = some k) (ht' : tik P t' = some k') (hc : fits k' n) : Ok P s new ⟨dst, .convert t t' x, type, pos, after, guard⟩ (pu [.d (.k q n)] (.d (.k k' n))) :=
  Ok.pure (vals1 rfl hx) fun β fz a w hv => by
    refine ⟨.int k' n, run_val (sv := convert t t' (a.eval x)) rfl ?_, .i _ _ _ _⟩
    rw [(hv 0 x _ rfl rfl).int]
    unfold convert
    simp only [Sem.run_bind, run_underlying (tik_ok ht), run_underlying (tik_ok ht'), Result.andThen_ok, Conv.intToInt, fits_wrap hc]
    rfl

/-! ### make -/
theorem ok_make {t e : TypeId} {x y : Operand} {q q' : IntKind} {n : Int} {z : V} (hx : s.ev x = some (.d (.k q n))) (hy : s.ev y = some (.d (.k q' n))) (hT : apT P t = some (e, 1)) (hz : tz P e = some [z]) (h0 : 0 ≤ n) (hn : n ≤ 1000000) :
    Ok P s new ⟨dst, .makeSlice t x y, type, pos, after, guard⟩ ⟨[.d (.k q n), .d (.k q' n)], [], [], [new], [(new, .cells (List.replicate n.toNat z) e)], .ms new 0 n.toNat⟩ := by
  refine ok_new (vals2 rfl hx hy) fun β fz a w hok hβ hv => ?_
  have h1 := (hv 0 x _ rfl rfl).int
  have h2 := (hv 1 y _ rfl rfl).int
  obtain ⟨i, zz, ht, hi, hzz, hzs, hsz, hby, he⟩ := apT_ok hT
  have hz' : [z] = zz.cells.toList.map constV := by
    unfold tz at hz
    rw [hi] at hz
    simp only [Option.bind_some, hzz, Option.map_some, Option.some.injEq] at hz
    exact hz.symm
  have hb : (i.bytes : Int) * n ≤ 281474976710656 := by
    have : (i.bytes : Int) * n ≤ 100 * 1000000 := Int.mul_le_mul (by omega) hn h0 (by omega)
    omega
  have hr := run_make (P := P) w t e i zz ht hi hzz q q' n n h0 (Int.le_refl _) hb (by omega)
  rw [he, Nat.mul_one] at hr
  obtain ⟨c0, hc0⟩ : ∃ c0, zz.cells = #[c0] := by
    have : zz.cells.size = 1 := by rw [hzs, he]
    exact Array.size_eq_one_iff.1 this
  have hzc : z = constV c0 := by rw [hc0] at hz'; simpa using hz'
  refine ⟨.pointer (some ⟨w.heap.size, 0, none⟩), .slice (some ⟨w.heap.size, 0, none⟩) n.toNat n.toNat, .cells (madeCells zz.cells n.toNat) e, rfl, ?_, ⟨w.heap.size, madeCells zz.cells n.toNat, rfl, heap_alloc_new w _, ⟨by simp [size_madeCells], fun j d u h1 h2 => ?_⟩, fun o => hok.new _ o (Nat.le_refl _)⟩, .ms (upd_same _ _ _) (Nat.le_refl _) fun _ => rfl⟩
  · refine run_val (sv := Instr.makeSlice t (a.eval x) (a.eval y)) rfl ?_
    rw [h1, h2]; exact hr
  · rw [List.getElem?_replicate] at h1
    split at h1
    · rename_i hj
      cases h1
      have : u = c0 := by
        simp only [madeCells, hc0, Array.getElem?_map, Option.map_eq_some_iff] at h2
        obtain ⟨k, _, rfl⟩ := h2
        simp [Nat.mod_one]
      subst this
      rw [hzc]; exact constV_rep _ _ _
    · cases h1

/-! ### interfaces -/
def isIfcT (P : Program) (t : TypeId) : Option Bool := (P.underlying t).map fun d => match d with | .interface _ => true | _ => false
theorem ok_mkIfc {t : TypeId} {x : Operand} {v : V} {d : D} (hx : s.ev x = some v) (hd : v.toD = some d) (ht : isIfcT P t = some false) : Ok P s new ⟨dst, .makeInterface t x, type, pos, after, guard⟩ (pu [v] (.d (.ifc t d))) :=
  Ok.pure (vals1 rfl hx) fun β fz a w hv => by
    refine ⟨.iface t (a.eval x), run_val (sv := Instr.makeInterface t (a.eval x)) rfl ?_, .d (.ifc t (toD_rep v hd (hv 0 x _ rfl rfl)))⟩
    unfold isIfcT at ht
    simp only [Option.map_eq_some_iff] at ht
    obtain ⟨de, h1, h2⟩ := ht
    unfold Instr.makeInterface
    simp only [Sem.run_bind, run_underlying h1, Result.andThen_ok]
    cases de <;> first | rfl | cases h2
theorem ok_assert {t t' tt : TypeId} {x : Operand} {d : D} {zs : List V} (hx : s.ev x = some (.d (.ifc tt d))) (ht : isIfcT P t' = some false) (hz : tz P t' = some zs) : Ok P s new ⟨dst, .typeAssert x t t' true, type, pos, after, guard⟩ (pu [.d (.ifc tt d)] (.tup [if tt = t' then .d d else .u, .d (.b (decide (tt = t')))])) :=
  Ok.pure (vals1 rfl hx) fun β fz a w hv => by
    have h1 := hv 0 x _ rfl rfl
    generalize hu : a.eval x = u at h1
    obtain ⟨z, hz, _⟩ := run_zero' hz w
    unfold isIfcT at ht
    simp only [Option.map_eq_some_iff] at ht
    obtain ⟨de, k1, k2⟩ := ht
    cases h1 with
    | d h1 =>
      cases h1 with
      | @ifc _ _ u h1 =>
        by_cases he : tt = t'
        · subst he
          refine ⟨.tuple #[u, .bool true], run_val (sv := Instr.typeAssert (a.eval x) t tt true) rfl ?_, .tup rfl fun j d' u' a b => ?_⟩
          · rw [hu]
            unfold Instr.typeAssert
            simp only [Sem.run_bind, run_underlying k1, Result.andThen_ok]
            cases de <;> simp at k2 <;> simp [go_sem]
          · match j with
            | 0 => simp at a b; subst a; subst b; exact .d h1
            | 1 => simp at a b; subst a; subst b; exact .d (.b _)
            | j + 2 => simp at a
        · refine ⟨.tuple #[z, .bool false], run_val (sv := Instr.typeAssert (a.eval x) t t' true) rfl ?_, .tup rfl fun j d' u' a b => ?_⟩
          · rw [hu]
            unfold Instr.typeAssert
            simp only [Sem.run_bind, run_underlying k1, Result.andThen_ok]
            cases de <;> simp at k2 <;> simp [he, hz, go_sem]
          · match j with
            | 0 => simp [he] at a b; subst a; exact .u _
            | 1 => simp [he] at a b; subst a; subst b; exact .d (.b _)
            | j + 2 => simp at a
end
end Go.Lm
