/- The logical machine: operations on memory. -/
import Derived.Test.YtnmnccboggljhaaGreatDoorLmG
import Derived.Deep.RegionHeld
set_option linter.constructorNameAsVariable false
namespace Go.Lm
open Go Go.RowKit

/-! ### lists of values -/
def RepL (β : Bt) (fz : Fz) (cs : List V) (us : List Value) : Prop := us.length = cs.length ∧ ∀ (j : Nat) (d : V) (u : Value), cs[j]? = some d → us[j]? = some u → RepV β fz d u
theorem RepVs.list {β : Bt} {fz : Fz} {cs : List V} {us : Array Value} (h : RepVs β fz cs us) : RepL β fz cs us.toList := ⟨by simpa using h.1, fun j d u a b => h.2 j d u a (by simpa using b)⟩
theorem RepL.arr {β : Bt} {fz : Fz} {cs : List V} {us : List Value} (h : RepL β fz cs us) : RepVs β fz cs us.toArray := ⟨by simpa using h.1, fun j d u a b => h.2 j d u a (by simpa using b)⟩
theorem RepL.append {β : Bt} {fz : Fz} {a b : List V} {ua ub : List Value} (h : RepL β fz a ua) (k : RepL β fz b ub) : RepL β fz (a ++ b) (ua ++ ub) := by
  refine ⟨by simp [h.1, k.1], fun j d u h1 h2 => ?_⟩
  by_cases hj : j < a.length
  · rw [List.getElem?_append_left hj] at h1
    rw [List.getElem?_append_left (by rw [h.1]; exact hj)] at h2
    exact h.2 j d u h1 h2
  · rw [List.getElem?_append_right (by omega)] at h1
    rw [List.getElem?_append_right (by rw [h.1]; omega)] at h2
    exact k.2 _ d u h1 (by rw [h.1] at h2; exact h2)
theorem RepL.take {β : Bt} {fz : Fz} {a : List V} {ua : List Value} (h : RepL β fz a ua) (n : Nat) : RepL β fz (a.take n) (ua.take n) := by
  refine ⟨by simp [h.1], fun j d u h1 h2 => ?_⟩
  rw [List.getElem?_take] at h1 h2
  split at h1
  · rename_i hj
    rw [if_pos hj] at h2
    exact h.2 j d u h1 h2
  · cases h1
theorem RepL.drop {β : Bt} {fz : Fz} {a : List V} {ua : List Value} (h : RepL β fz a ua) (n : Nat) : RepL β fz (a.drop n) (ua.drop n) := by
  refine ⟨by simp [h.1], fun j d u h1 h2 => ?_⟩
  rw [List.getElem?_drop] at h1 h2
  exact h.2 _ d u h1 h2
theorem RepL.one {β : Bt} {fz : Fz} {d : V} {u : Value} (h : RepV β fz d u) : RepL β fz [d] [u] := ⟨rfl, fun j d' u' h1 h2 => by
  match j with
  | 0 => simp at h1 h2; subst h1; subst h2; exact h
  | j + 1 => simp at h1⟩
theorem RepL.nil (β : Bt) (fz : Fz) : RepL β fz [] [] := ⟨rfl, fun j d u h => by simp at h⟩
theorem constV_rep (β : Bt) (fz : Fz) (c : Value) : RepV β fz (constV c) c := by
  unfold constV
  split
  · exact .d (.k _ _)
  · exact .d (.b _)
  · rename_i x
    exact .d (.s x.data.toList)
  · exact .d .nil
  · exact .d (.raw _)
theorem RepL.consts (β : Bt) (fz : Fz) (us : List Value) : RepL β fz (us.map constV) us := ⟨by simp, fun j d u h1 h2 => by
  rw [List.getElem?_map, h2] at h1
  cases h1
  exact constV_rep β fz u⟩

/-- the cells of a value -/
def oneD : D → Bool
  | .agg _ | .tup _ => false
  | .raw x => x.oneCell'
  | _ => true
def oneV : V → Bool
  | .d x => oneD x
  | .agg _ | .tup _ | .u => false
  | _ => true
def cellsV : V → Option (List V)
  | .agg cs => if cs.all oneV then some cs else none
  | .d (.agg ds) => if ds.all oneD then some (ds.map .d) else none
  | v => if oneV v then some [v] else none
theorem oneD_ok {fz : Fz} {d : D} {v : Value} (h : RepD fz d v) (ho : oneD d = true) : v.oneCell' = true := by
  cases h <;> first | rfl | exact ho | cases ho
theorem oneV_ok {β : Bt} {fz : Fz} {d : V} {v : Value} (h : RepV β fz d v) (ho : oneV d = true) : v.oneCell' = true := by
  cases h <;> first | rfl | cases ho | skip
  · rename_i h; exact oneD_ok h ho
  · rename_i h; cases h; rfl
theorem cells_one {v : Value} (h : v.oneCell' = true) : v.cells = #[v] := by
  cases v <;> first | rfl | cases h
theorem cellsV_ok {β : Bt} {fz : Fz} {x : V} {cs : List V} {v : Value} (h : RepV β fz x v) (hc : cellsV x = some cs) : RepL β fz cs v.cells.toList ∧ ∀ u ∈ v.cells.toList, u.oneCell' = true := by
  have single : ∀ x : V, RepV β fz x v → oneV x = true → cs = [x] → RepL β fz cs v.cells.toList ∧ ∀ u ∈ v.cells.toList, u.oneCell' = true := fun x h ho e => by
    have hv := oneV_ok h ho
    rw [cells_one hv, e]
    exact ⟨RepL.one h, fun u hu => by simp at hu; subst hu; exact hv⟩
  have rest : (if oneV x then some [x] else none) = some cs → RepL β fz cs v.cells.toList ∧ ∀ u ∈ v.cells.toList, u.oneCell' = true := fun e => by
    split at e
    · rename_i ho
      cases e
      exact single x h ho rfl
    · cases e
  cases x with
  | agg l =>
    simp only [cellsV] at hc
    split at hc
    · rename_i ho
      cases hc
      cases h with
      | @agg _ vs hl h =>
        have hr : RepVs β fz cs vs := ⟨hl, h⟩
        refine ⟨hr.list, fun u hu => ?_⟩
        obtain ⟨j, hj, e⟩ := List.getElem_of_mem hu
        have hj' : j < cs.length := by have := hr.list.1; simp only [Value.cells] at hj; omega
        refine oneV_ok (hr.list.2 j cs[j] u (List.getElem?_eq_getElem hj') (by rw [← e]; exact List.getElem?_eq_getElem hj)) ?_
        exact List.all_eq_true.1 ho _ (List.getElem_mem hj')
    · cases hc
  | d x =>
    cases x with
    | agg ds =>
      simp only [cellsV] at hc
      split at hc
      · rename_i ho
        cases hc
        cases h with
        | d h =>
          cases h with
          | @agg _ vs hl h =>
            refine ⟨⟨by simpa [Value.cells] using hl, fun j d u h1 h2 => ?_⟩, fun u hu => ?_⟩
            · rw [List.getElem?_map] at h1
              simp only [Option.map_eq_some_iff] at h1
              obtain ⟨d', h1, rfl⟩ := h1
              exact .d (h j d' u h1 (by simpa [Value.cells] using h2))
            · obtain ⟨j, hj, e⟩ := List.getElem_of_mem hu
              simp only [Value.cells, Array.length_toList] at hj
              have hj' : j < ds.length := by omega
              refine oneD_ok (h j ds[j] u (List.getElem?_eq_getElem hj') (by rw [← e]; simp [Value.cells, hj])) ?_
              exact List.all_eq_true.1 ho _ (List.getElem_mem hj')
      · cases hc
    | _ => exact rest hc
  | _ => exact rest hc

/-! ### new blocks -/
def upd (β : Bt) (new : Nat) (x : Value) : Bt := fun h => if h = new then some x else β h
theorem upd_le {β : Bt} {new : Nat} {x : Value} (h : β new = none) : Bt.Le β (upd β new x) := fun k y e => by
  unfold upd
  split
  · rename_i hk; subst hk; rw [h] at e; cases e
  · exact e
theorem upd_same (β : Bt) (new : Nat) (x : Value) : upd β new x new = some x := by simp [upd]
theorem FzOk.new {fz : Fz} {w : World} (h : FzOk fz w) (b o : Nat) (hb : w.heap.size ≤ b) : fz b o = none := by
  cases hf : fz b o with
  | none => rfl
  | some u =>
    have := h b o u hf
    simp [World.cell?, Array.getElem?_eq_none hb] at this
theorem Post.new {β : Bt} {fz : Fz} {w : World} {own : Nat → Prop} (hok : FzOk fz w) (hown : ∀ k, w.heap.size ≤ k → own k) {new : Nat} (hβ : β new = none) {blk : Blk} {x : Value} {o : Obj} {v : V} {u : Value} (hx : blkOf x = some w.heap.size)
    (hb : HB (upd β new x) fz (w.alloc o) x blk) (hv : RepV (upd β new x) fz v u) : Post β fz w own [] [new] [(new, blk)] v u (upd β new x) fz (w.alloc o) where
  ble := upd_le hβ
  bnew := fun h hh => by simp only [List.mem_singleton] at hh; simp [upd, hh]
  fle := Fz.Le.refl _
  ffr := fun _ _ _ _ => rfl
  ok := fun b o' u h => by
    have := hok b o' u h
    rw [World.cell?_alloc_some _ _ _ (by rw [this]; rfl)]; exact this
  os := rfl
  tape := rfl
  output := rfl
  size := by simp
  frame := fun b hb _ => Below.heap_alloc w _ b hb
  hreps := fun y hy => by
    simp only [List.mem_singleton] at hy
    subst hy
    exact ⟨x, upd_same _ _ _, fun k hk => by rw [hx] at hk; cases hk; exact ⟨hown _ (Nat.le_refl _), by simp⟩, hb⟩
  blks := fun y hy z k h1 h2 => by
    simp only [List.mem_singleton] at hy
    subst hy
    rw [upd_same] at h1; cases h1
    rw [hx] at h2; cases h2
    exact .inl (Nat.le_refl _)
  inj := fun h h' y y' k ⟨z, hz, e⟩ ⟨z', hz', e'⟩ _ _ _ _ => by
    simp only [List.mem_singleton] at hz hz'
    subst hz; subst hz'
    exact e.symm.trans e'
  v := hv

/-- a store into a block of one's own -/
theorem Post.set {β : Bt} {fz : Fz} {w : World} {own : Nat → Prop} (hok : FzOk fz w) {h b : Nat} {cs cs' : List V} {t : TypeId} {us us' : Array Value} (hβ : β h = some (.pointer (some ⟨b, 0, none⟩))) (hown : own b ∧ b < w.heap.size)
    (hw : w.heap[b]? = some (.cells us t (0, 0))) (hf : ∀ o, fz b o = none) (hr : RepVs β fz cs' us') {v : V} {u : Value} (hv : RepV β fz v u) :
    Post β fz w own [(h, .cells cs t)] [] [(h, .cells cs' t)] v u β fz (w.setRow b us') where
  ble := Bt.Le.refl _
  bnew := fun _ _ => rfl
  fle := Fz.Le.refl _
  ffr := fun _ _ _ _ => rfl
  ok := fun b' o u h => by
    have hne : b' ≠ b := fun e => by rw [e, hf] at h; cases h
    rw [cell_setRow_other w b us' ⟨b', o, none⟩ hne]
    exact hok b' o u h
  os := rfl
  tape := rfl
  output := rfl
  size := by simp
  frame := fun k hk hn => setRow_other w b k us' fun e => hn ⟨_, List.mem_singleton.2 rfl, _, hβ, by rw [e]; rfl⟩
  hreps := fun y hy => by
    simp only [List.mem_singleton] at hy
    subst hy
    exact ⟨_, hβ, fun k hk => by cases hk; exact ⟨hown.1, by simpa using hown.2⟩, b, us', rfl, setRow_heap w b us us' t (0, 0) hw, hr, hf⟩
  blks := fun y hy z k h1 h2 => by
    simp only [List.mem_singleton] at hy
    subst hy
    exact .inr ⟨_, List.mem_singleton.2 rfl, z, h1, h2⟩
  inj := fun h h' y y' k ⟨z, hz, e⟩ ⟨z', hz', e'⟩ _ _ _ _ => by
    simp only [List.mem_singleton] at hz hz'
    subst hz; subst hz'
    exact e.symm.trans e'
  v := hv
theorem cells_of {β : Bt} {fz : Fz} {w : World} {own : Nat → Prop} {h : Nat} {cs : List V} {t : TypeId} (hh : HRep β fz w own h (.cells cs t)) {b : Nat} (hb : β h = some (.pointer (some ⟨b, 0, none⟩))) :
    ∃ us, w.heap[b]? = some (.cells us t (0, 0)) ∧ RepVs β fz cs us ∧ (∀ o, fz b o = none) ∧ own b ∧ b < w.heap.size := by
  obtain ⟨x, h1, h2, b', us, rfl, h3, h4, h5⟩ := hh
  rw [hb] at h1; cases h1
  exact ⟨us, h3, h4, h5, h2 b rfl⟩

/-! ### what types say -/
def tsz (P : Program) (t : TypeId) : Option Nat := (P.info? t).map (·.size)
def tag (P : Program) (t : TypeId) : Option Bool := (P.underlying t).map fun d => match d with | .struct _ | .array _ _ => true | _ => false
def tz (P : Program) (t : TypeId) : Option (List V) := ((P.info? t).bind (·.zero)).map fun v => v.cells.toList.map constV
/-- the place of a field -/
def fo (P : Program) (t : TypeId) (f : Nat) : Option Nat := match P.underlying t with
  | some (.struct fs) => match fs[f]? with
    | some x => match tsz P x.type with
      | some (_ + 1) => some x.offset
      | _ => none
    | none => none
  | _ => none
/-- an element's type and size: of a slice, of an array -/
def sel (P : Program) (t : TypeId) : Option Nat := match P.underlying t with
  | some (.slice e) => tsz P e
  | _ => none
def ael (P : Program) (t : TypeId) : Option (Nat × Nat) := match P.underlying t with
  | some (.array n e) => (tsz P e).map fun m => (n, m)
  | _ => none
theorem run_sizeOf' {P : Program} {t n : Nat} (h : tsz P t = some n) (w : World) : (sizeOf t).run P w = .ok n w := by
  unfold tsz at h
  simp only [Option.map_eq_some_iff] at h
  obtain ⟨i, h, rfl⟩ := h
  simp [sizeOf, typeInfo, h, go_sem]
theorem run_isAgg' {P : Program} {t : Nat} {p : Bool} (h : tag P t = some p) (w : World) : (isAgg t).run P w = .ok p w := by
  unfold tag at h
  simp only [Option.map_eq_some_iff] at h
  obtain ⟨d, h, rfl⟩ := h
  unfold isAgg
  simp only [Sem.run_bind, run_underlying h, Result.andThen_ok]
  cases d <;> rfl
theorem run_zero' {P : Program} {t : Nat} {cs : List V} (h : tz P t = some cs) (w : World) : ∃ z, (zeroValue t).run P w = .ok z w ∧ cs = z.cells.toList.map constV := by
  unfold tz at h
  simp only [Option.map_eq_some_iff, Option.bind_eq_some_iff] at h
  obtain ⟨z, ⟨i, h1, h2⟩, rfl⟩ := h
  exact ⟨z, by simp [zeroValue, typeInfo, h1, h2, go_sem], rfl⟩

section
variable {P : Program} {s : LS} {new : Nat} {dst : Option Tmp} {type : TypeId} {pos : String} {after : Array Edge} {guard : Option (Nat × Bool)}
theorem ok_new {o : Oper} {vals : List V} {blk : Blk} {v : V} (hv : vals.length = o.op.operands.size ∧ ∀ (j : Nat) (x : Operand) (v : V), o.op.operands[j]? = some x → vals[j]? = some v → s.ev x = some v)
    (h : ∀ (β : Bt) (fz : Fz) (a : Act) (w : World), FzOk fz w → β new = none → (∀ (j : Nat) (x : Operand) (v : V), o.op.operands[j]? = some x → vals[j]? = some v → RepV β fz v (a.eval x)) →
      ∃ x u ob, blkOf x = some w.heap.size ∧ (execOp a.eval o).run P w = .ok (.value u) (w.alloc ob) ∧ HB (upd β new x) fz (w.alloc ob) x blk ∧ RepV (upd β new x) fz v u) : Ok P s new o ⟨vals, [], [], [new], [(new, blk)], v⟩ := by
  refine ⟨?_, hv.1, hv.2, (fun x hx => by cases hx), (fun x hx => by cases hx), (fun x hx => by simpa using hx), (fun x hx => by simp at hx; subst hx; exact .inl (List.mem_singleton.2 rfl))⟩
  intro β fz own a w hok hown _ _ _ hnew _ hv next Q hn
  have hβ := hnew new (List.mem_singleton.2 rfl)
  obtain ⟨x, u, ob, h1, h2, h3, h4⟩ := h β fz a w hok hβ hv
  unfold Oper.wp
  rw [h2, Oper.upon_value]
  exact hn _ _ _ _ (Post.new hok hown hβ h1 h3 h4)
theorem ok_alloc {t : TypeId} {cs : List V} (hz : tz P t = some cs) : Ok P s new ⟨dst, .alloc t, type, pos, after, guard⟩ ⟨[], [], [], [new], [(new, .cells cs t)], .p new 0⟩ := by
  refine ok_new ⟨rfl, fun j x v h => by simp [Op.operands] at h⟩ fun β fz a w hok hβ hv => ?_
  obtain ⟨z, h1, rfl⟩ := run_zero' hz w
  refine ⟨.pointer (some ⟨w.heap.size, 0, none⟩), .pointer (some ⟨w.heap.size, 0, none⟩), .cells z.cells t, rfl, ?_, ⟨w.heap.size, z.cells, rfl, heap_alloc_new w _, ?_, fun o => hok.new _ o (Nat.le_refl _)⟩, .p (upd_same _ _ _)⟩
  · refine run_val (sv := Instr.alloc t true (.tuple #[])) rfl ?_
    simp [Instr.alloc, h1, newVar, newRow, go_sem]
  · have := (RepL.consts (upd β new (.pointer (some ⟨w.heap.size, 0, none⟩))) fz z.cells.toList).arr
    simpa using this
theorem ok_box {t : TypeId} {x : Operand} {v : V} {cs : List V} (hx : s.ev x = some v) (hc : cellsV v = some cs) : Ok P s new ⟨dst, .box t x, type, pos, after, guard⟩ ⟨[v], [], [], [new], [(new, .cells cs t)], .p new 0⟩ := by
  refine ok_new (vals1 rfl hx) fun β fz a w hok hβ hv => ?_
  have h1 := hv 0 x v rfl rfl
  refine ⟨.pointer (some ⟨w.heap.size, 0, none⟩), .pointer (some ⟨w.heap.size, 0, none⟩), .cells (a.eval x).cells t, rfl, ?_, ⟨w.heap.size, (a.eval x).cells, rfl, heap_alloc_new w _, ?_, fun o => hok.new _ o (Nat.le_refl _)⟩, .p (upd_same _ _ _)⟩
  · refine run_val (sv := Instr.box t (a.eval x)) rfl ?_
    simp [Instr.box, newVar, newRow, go_sem]
  · have := (cellsV_ok (h1.mono (upd_le (x := .pointer (some ⟨w.heap.size, 0, none⟩)) hβ) (Fz.Le.refl _)) hc).1.arr
    simpa using this

/-! ### loads -/
theorem ok_rd {o : Oper} {vals : List V} {h : Nat} {blk : Blk} {v : V} (hv : vals.length = o.op.operands.size ∧ ∀ (j : Nat) (x : Operand) (v : V), o.op.operands[j]? = some x → vals[j]? = some v → s.ev x = some v) (hb : s.blk h = some blk)
    (hh : ∀ (β : Bt) (fz : Fz) (own : Nat → Prop) (a : Act) (w : World), HRep β fz w own h blk → (∀ (j : Nat) (x : Operand) (v : V), o.op.operands[j]? = some x → vals[j]? = some v → RepV β fz v (a.eval x)) →
      ∃ u, (execOp a.eval o).run P w = .ok (.value u) w ∧ RepV β fz v u) : Ok P s new o ⟨vals, [(h, blk)], [], [], [], v⟩ :=
  ⟨OpT.val fun β fz own a w _ hr hv => hh β fz own a w (hr _ (List.mem_singleton.2 rfl)) hv, hv.1, hv.2, (fun x hx => by simp at hx; subst hx; exact hb), (fun x hx => by cases hx), (fun x hx => by cases hx), (fun x hx => by cases hx)⟩
theorem add_off (b o n : Nat) : (⟨b, o, none⟩ : Addr).add n = ⟨b, o + n, none⟩ := by
  unfold Addr.add
  split
  · rename_i h; subst h; rfl
  · rfl
theorem ok_load1 {t : TypeId} {x : Operand} {h off : Nat} {cs : List V} {e : TypeId} {v : V} (hx : s.ev x = some (.p h off)) (hb : s.blk h = some (.cells cs e)) (ha : tag P t = some false) (hv : cs[off]? = some v) :
    Ok P s new ⟨dst, .load t x, type, pos, after, guard⟩ ⟨[.p h off], [(h, .cells cs e)], [], [], [], v⟩ :=
  ok_rd (vals1 rfl hx) hb fun β fz own a w hh hvv => by
    have h1 := hvv 0 x _ rfl rfl
    generalize hu : a.eval x = u at h1
    cases h1 with
    | @p _ _ b hbb =>
      obtain ⟨us, k1, k2, _, _, k3⟩ := cells_of hh hbb
      have hlt : off < us.size := by rw [k2.1]; exact (List.getElem?_eq_some_iff.1 hv).1
      have hc : w.cell? ⟨b, off, none⟩ = some us[off] := by simp [World.cell?, k1, hlt]
      refine ⟨us[off], run_val (sv := Instr.loadAt t (a.eval x)) rfl ?_, k2.2 off v _ hv (Array.getElem?_eq_getElem hlt)⟩
      rw [hu]
      show (loadVar t ⟨b, off, none⟩).run P w = _
      unfold loadVar
      simp only [Sem.run_bind, run_isAgg' ha, Result.andThen_ok, Bool.false_eq_true, if_false]
      rw [run_load, hc]
theorem ok_loadN {t : TypeId} {x : Operand} {h off n : Nat} {cs : List V} {e : TypeId} (hx : s.ev x = some (.p h off)) (hb : s.blk h = some (.cells cs e)) (ha : tag P t = some true) (hn : tsz P t = some n) (hl : off + n ≤ cs.length) :
    Ok P s new ⟨dst, .load t x, type, pos, after, guard⟩ ⟨[.p h off], [(h, .cells cs e)], [], [], [], .agg ((cs.drop off).take n)⟩ :=
  ok_rd (vals1 rfl hx) hb fun β fz own a w hh hvv => by
    have h1 := hvv 0 x _ rfl rfl
    generalize hu : a.eval x = u at h1
    cases h1 with
    | @p _ _ b hbb =>
      obtain ⟨us, k1, k2, _, _, k3⟩ := cells_of hh hbb
      have hr := (k2.list.drop off).take n
      have hlen : ((us.toList.drop off).take n).length = n := by rw [hr.1]; simp; omega
      have hc : ∀ (j : Nat) (v : Value), ((us.toList.drop off).take n)[j]? = some v → w.cell? ((⟨b, off, none⟩ : Addr).add j) = some v := fun j v hj => by
        rw [add_off, show w.cell? ⟨b, off + j, none⟩ = us[off + j]? by simp [World.cell?, k1]]
        rw [List.getElem?_take] at hj
        split at hj
        · rw [List.getElem?_drop] at hj; simpa using hj
        · cases hj
      have hrun := run_loadCells_list (P := P) (w := w) ⟨b, off, none⟩ ((us.toList.drop off).take n) hc
      rw [hlen] at hrun
      refine ⟨.agg ((us.toList.drop off).take n).toArray, run_val (sv := Instr.loadAt t (a.eval x)) rfl ?_, .agg hr.arr.1 hr.arr.2⟩
      rw [hu]
      show (loadVar t ⟨b, off, none⟩).run P w = _
      unfold loadVar
      simp only [Sem.run_bind, run_isAgg' ha, Result.andThen_ok, if_true, run_sizeOf' hn, hrun]
      rfl

theorem q_cells {β : Bt} {fz : Fz} {sz i j : Nat} {rows : List (List D)} {u : Value} (h : RepV β fz (.q sz rows i j) u) {w : World} (hok : FzOk fz w) (hi : i < rows.length) :
    ∃ b off, u = .pointer (some ⟨b, off, none⟩) ∧ ∀ (j' : Nat) (d : D), (rows.getD i [])[j + j']? = some d → ∃ x, w.cell? ⟨b, off + j', none⟩ = some x ∧ RepD fz d x := by
  cases h with
  | @q _ _ _ b off _ u hsz hA hu =>
    refine ⟨b, off + i * sz + j, rfl, fun j' d hd => ?_⟩
    have hr : rows[i]? = some (rows.getD i []) := by simp [List.getD_eq_getElem?_getD, hi]
    have hl : (rows.getD i []).length = sz := hsz _ (List.mem_of_getElem? hr)
    have hlt : j + j' < sz := by rw [← hl]; exact (List.getElem?_eq_some_iff.1 hd).1
    refine ⟨u i (j + j'), ?_, hu i _ _ d hr hd⟩
    rw [Nat.add_assoc (off + i * sz)]
    exact hok _ _ _ (hA i (j + j') hi hlt)
theorem ok_q {o : Oper} {vals : List V} {v : V} (hv : vals.length = o.op.operands.size ∧ ∀ (j : Nat) (x : Operand) (v : V), o.op.operands[j]? = some x → vals[j]? = some v → s.ev x = some v)
    (hh : ∀ (β : Bt) (fz : Fz) (a : Act) (w : World), FzOk fz w → (∀ (j : Nat) (x : Operand) (v : V), o.op.operands[j]? = some x → vals[j]? = some v → RepV β fz v (a.eval x)) →
      ∃ u, (execOp a.eval o).run P w = .ok (.value u) w ∧ RepV β fz v u) : Ok P s new o (pu vals v) :=
  ⟨OpT.val fun β fz own a w hok _ hv => hh β fz a w hok hv, hv.1, hv.2, (fun x hx => by cases hx), (fun x hx => by cases hx), (fun x hx => by cases hx), (fun x hx => by cases hx)⟩
theorem ok_loadQ1 {t : TypeId} {x : Operand} {sz i j : Nat} {rows : List (List D)} {d : D} (hx : s.ev x = some (.q sz rows i j)) (ha : tag P t = some false) (hi : i < rows.length) (hd : (rows.getD i [])[j]? = some d) :
    Ok P s new ⟨dst, .load t x, type, pos, after, guard⟩ (pu [.q sz rows i j] (.d d)) :=
  ok_q (vals1 rfl hx) fun β fz a w hok hv => by
    obtain ⟨b, off, hu, hc⟩ := q_cells (hv 0 x _ rfl rfl) hok hi
    obtain ⟨u, h1, h2⟩ := hc 0 d hd
    refine ⟨u, run_val (sv := Instr.loadAt t (a.eval x)) rfl ?_, .d h2⟩
    rw [hu]
    show (loadVar t ⟨b, off, none⟩).run P w = _
    unfold loadVar
    simp only [Sem.run_bind, run_isAgg' ha, Result.andThen_ok, Bool.false_eq_true, if_false]
    rw [run_load, show w.cell? ⟨b, off, none⟩ = some u from h1]
theorem exists_list {α : Type} {p : Nat → α → Prop} : ∀ (n : Nat), (∀ j, j < n → ∃ x, p j x) → ∃ l : List α, l.length = n ∧ ∀ (j : Nat) (x : α), l[j]? = some x → p j x
  | 0, _ => ⟨[], rfl, fun j x h => by simp at h⟩
  | n + 1, h => by
    obtain ⟨l, h1, h2⟩ := exists_list n fun j hj => h j (by omega)
    obtain ⟨x, hx⟩ := h n (by omega)
    refine ⟨l ++ [x], by simp [h1], fun j y hy => ?_⟩
    by_cases hj : j < n
    · rw [List.getElem?_append_left (by omega)] at hy
      exact h2 j y hy
    · rw [List.getElem?_append_right (by omega), h1] at hy
      have : j - n = 0 := by
        rcases Nat.eq_zero_or_pos (j - n) with h | h
        · exact h
        · rw [List.getElem?_eq_none (by simp; omega)] at hy; cases hy
      rw [this] at hy
      cases hy
      rwa [show j = n by omega]
theorem ok_loadQN {t : TypeId} {x : Operand} {sz i j n : Nat} {rows : List (List D)} (hx : s.ev x = some (.q sz rows i j)) (ha : tag P t = some true) (hn : tsz P t = some n) (hi : i < rows.length) (hl : j + n ≤ (rows.getD i []).length) :
    Ok P s new ⟨dst, .load t x, type, pos, after, guard⟩ (pu [.q sz rows i j] (.d (.agg (((rows.getD i []).drop j).take n)))) :=
  ok_q (vals1 rfl hx) fun β fz a w hok hv => by
    obtain ⟨b, off, hu, hc⟩ := q_cells (hv 0 x _ rfl rfl) hok hi
    have hd : ∀ j', j' < n → (rows.getD i [])[j + j']? = some (rows.getD i [])[j + j']! := fun j' hj' => by
      rw [List.getElem!_eq_getElem?_getD, List.getElem?_eq_getElem (by omega)]; rfl
    obtain ⟨us, h1, h2⟩ := exists_list (p := fun j' x => w.cell? ⟨b, off + j', none⟩ = some x ∧ RepD fz ((rows.getD i [])[j + j']!) x) n fun j' hj' => hc j' _ (hd j' hj')
    have hrun := run_loadCells_list (P := P) (w := w) ⟨b, off, none⟩ us fun j' v hj' => by rw [add_off]; exact (h2 j' v hj').1
    rw [h1] at hrun
    refine ⟨.agg us.toArray, run_val (sv := Instr.loadAt t (a.eval x)) rfl ?_, .d (.agg (by simp only [List.size_toArray, h1, List.length_take, List.length_drop]; omega) fun j' d u a b => ?_)⟩
    · rw [hu]
      show (loadVar t ⟨b, off, none⟩).run P w = _
      unfold loadVar
      simp only [Sem.run_bind, run_isAgg' ha, Result.andThen_ok, if_true, run_sizeOf' hn, hrun]
      rfl
    · have hb : us[j']? = some u := by simpa using b
      have hj' : j' < n := by rw [← h1]; exact (List.getElem?_eq_some_iff.1 hb).1
      have := (h2 j' u hb).2
      rw [List.getElem?_take, if_pos hj', List.getElem?_drop, hd j' hj'] at a
      cases a
      exact this

/-! ### stores -/
def setL (cs : List V) (off : Nat) : List V → List V
  | [x] => cs.set off x
  | xs => cs.take off ++ xs ++ cs.drop (off + xs.length)
theorem setL_eq (cs : List V) (off : Nat) (xs : List V) (h : off + xs.length ≤ cs.length) : setL cs off xs = cs.take off ++ xs ++ cs.drop (off + xs.length) := by
  unfold setL
  split
  · rename_i x
    simp only [List.length_singleton] at h ⊢
    rw [List.set_eq_take_append_cons_drop, if_pos (by omega)]
    simp
  · rfl
theorem ok_store {t : TypeId} {x y : Operand} {h off : Nat} {cs xs : List V} {e : TypeId} {v : V} (hx : s.ev x = some (.p h off)) (hy : s.ev y = some v) (hb : s.blk h = some (.cells cs e)) (hc : cellsV v = some xs) (hn : tsz P t = some xs.length) (hl : off + xs.length ≤ cs.length) :
    Ok P s new ⟨none, .store t x y, type, pos, after, guard⟩ ⟨[.p h off, v], [], [(h, .cells cs e)], [], [(h, .cells (setL cs off xs) e)], .u⟩ := by
  obtain ⟨v1, v2⟩ := vals2 (ops := (Op.store t x y).operands) rfl hx hy
  refine ⟨?_, v1, v2, (fun x hx => by cases hx), (fun x hx => by simp at hx; subst hx; exact hb), (fun x hx => by cases hx), (fun x hx => .inr ⟨_, List.mem_singleton.2 rfl, by simp at hx; subst hx; rfl⟩)⟩
  intro β fz own a w hok hown _ hhp _ _ _ hv next Q hnn
  have h1 := hv 0 x _ rfl rfl
  have h2 := hv 1 y _ rfl rfl
  have hh := hhp _ (List.mem_singleton.2 rfl)
  generalize hu : a.eval x = u at h1
  cases h1 with
  | @p _ _ b hbb =>
    obtain ⟨us, k1, k2, k4, k5, k3⟩ := cells_of hh hbb
    obtain ⟨c1, c2⟩ := cellsV_ok h2 hc
    have hsz : (a.eval y).cells.size = xs.length := by have := c1.1; simpa using this
    have hst := run_storeCells_at P b off e (a.eval y).cells.toList 0 us w k1 (by have := k2.1; simp; omega) c2
    simp only [Nat.add_zero] at hst
    have hr : (execOp a.eval ⟨none, .store t x y, type, pos, after, guard⟩).run P w = .ok .skip (w.setRow b (us.toList.take off ++ (a.eval y).cells.toList ++ us.toList.drop (off + (a.eval y).cells.toList.length)).toArray) := by
      show (do Instr.storeAt t (a.eval x) (a.eval y); pure Next.skip : Sem Next).run P w = _
      have : (Instr.storeAt t (a.eval x) (a.eval y)).run P w = .ok () (w.setRow b (us.toList.take off ++ (a.eval y).cells.toList ++ us.toList.drop (off + (a.eval y).cells.toList.length)).toArray) := by
        rw [hu]
        show (storeVar t ⟨b, off, none⟩ (a.eval y)).run P w = _
        unfold storeVar
        simp only [Sem.run_bind, run_sizeOf' hn, Result.andThen_ok, hsz, ne_eq, not_true_eq_false, if_false]
        exact hst
      simp only [Sem.run_bind, this, Result.andThen_ok]
      rfl
    unfold Oper.wp
    rw [hr, Oper.upon_skip]
    refine hnn _ _ _ _ (Post.set hok hbb ⟨k5, k3⟩ k1 k4 ?_ (.u _))
    have hr := ((k2.list.take off).append c1).append (k2.list.drop (off + xs.length))
    rw [setL_eq cs off xs hl]
    have hlen : (a.eval y).cells.toList.length = xs.length := by simpa using hsz
    rw [hlen]
    exact hr.arr

end
end Go.Lm
