/- The logical machine (part 3 of 7): a reading of code as conditions, proved sound; no program in sight. -/
import Derived.Test.YtkgkhggcahmiiaaGreatDoorEngB
import Derived.Laws.MakeOwn
import Derived.MapKept
/- The logical machine: rows of one's own: append, whole slices, parts of slices. -/
set_option linter.constructorNameAsVariable false
namespace Go.Lm
open Go Go.RowKit

/-- what an append leaves: in place, or anew -/
def Stays (w w' : World) (v v' : Value) : Prop := (v'.ownBlock = v.ownBlock ∧ w.grownBy w' v.ownBlock) ∨ (v'.ownBlock = some w.heap.size ∧ w.grownBy w' none)
section
variable {P : Program}
theorem app_run {w : World} {t ty e : TypeId} {i : TypeInfo} {z : Value} (ht : P.underlying t = some (.slice e)) (hi : P.info? e = some i) (hz : i.zero = some z) (hzs : z.cells.size = i.size) (hsz : 0 < i.size)
    {v : Value} {n : Nat} {xs : List Value} (hown : w.ownsRow 0 e i.size v n xs) {a : Addr} {m c : Nat} {news : List Value} (hl : news.length = m * i.size) (hnews : ∀ (j : Nat) (u : Value), news[j]? = some u → w.cell? (a.add j) = some u) (h1 : ∀ u ∈ news, u.oneCell' = true)
    (h63 : n + m ≤ 1000000) (hb : i.bytes ≤ 100) :
    ∃ v' w', (Builtin.append_ #[t, t] ty #[v, .slice (some a) m c]).run P w = .ok v' w' ∧ w'.ownsRow 0 e i.size v' (n + m) (xs ++ news) ∧ Stays w w' v v' := by
  have hbytes : (n + m) * i.bytes ≤ 140737488355328 := Nat.le_trans (Nat.mul_le_mul h63 hb) (by decide)
  obtain ⟨v', w', hr, ho, hg, _, hblk⟩ := run_append_own_at (P := P) w 0 t ty e i z i.size i.bytes ht hi hz rfl rfl hzs hsz v n xs hown a m c news hl hnews h1 (by unfold maxLen; omega) hbytes (Nat.zero_le _)
  refine ⟨v', w', hr, ho, ?_⟩
  rcases hblk with hblk | hblk
  · exact .inl ⟨hblk, hg⟩
  · rcases hown.2 with ⟨rfl, rfl⟩ | ⟨g, cap, cur, rfl, hbg, hgg, hnc, hcm, hcs, htake⟩
    · exact .inr ⟨hblk, hg⟩
    · by_cases hroom : n + m ≤ cap
      · have hfit : n * i.size + news.length ≤ cur.size := by rw [hl, hcs, ← Nat.add_mul]; exact Nat.mul_le_mul_right _ hroom
        have hr2 := run_append_room (P := P) w t ty e i ht hi g n cap cur hgg a m c news hl hnews h1 hroom hfit
        rw [hr] at hr2
        cases hr2
        exact .inl ⟨rfl, hg⟩
      · have holds := hown.cells (g := g) rfl
        have hr2 := run_append_grow (P := P) w t ty e i z ht hi hz ⟨g, 0, none⟩ n cap xs hown.1 holds a m c news hl hnews (by omega) (by omega) (growslice_fits (by omega) hbytes)
        rw [hr] at hr2
        cases hr2
        exact .inr ⟨rfl, rfl, rfl, rfl, by simp, fun k hk _ => Below.heap_alloc w.drew _ k hk⟩
theorem app_run0 {w : World} {t ty e : TypeId} {i : TypeInfo} (ht : P.underlying t = some (.slice e)) (hi : P.info? e = some i) {v : Value} {n : Nat} {xs : List Value} (hown : w.ownsRow 0 e i.size v n xs) {c : Nat} :
    (Builtin.append_ #[t, t] ty #[v, .slice none 0 c]).run P w = .ok v w := by
  rcases hown.2 with ⟨rfl, rfl⟩ | ⟨g, cap, cur, rfl, hbg, hgg, hnc, hcm, hcs, htake⟩
  · simp [Builtin.append_, run_underlying ht, sizeOf, typeInfo, hi, Builtin.lenOf, Builtin.firstCells, go_sem]
  · simp [Builtin.append_, run_underlying ht, sizeOf, typeInfo, hi, Builtin.lenOf, Builtin.firstCells, hnc, storeCells, go_sem]
end

/-- the cells of the rows -/
def CellsOf (fz : Fz) (sz : Nat) (rows : List (List D)) (xs : List Value) : Prop := (∀ r ∈ rows, r.length = sz) ∧ xs.length = rows.length * sz ∧ ∀ (i j : Nat) (r : List D) (d : D), rows[i]? = some r → r[j]? = some d → ∃ u, xs[i * sz + j]? = some u ∧ RepD fz d u ∧ u.oneCell' = true
theorem row_lt {sz i j n : Nat} (hi : i < n) (hj : j < sz) : i * sz + j < n * sz := by
  have : (i + 1) * sz ≤ n * sz := Nat.mul_le_mul_right _ hi
  rw [Nat.succ_mul] at this
  omega
theorem own_cells {fz : Fz} {w : World} {e : TypeId} {sz n : Nat} {rows : List (List D)} {v : Value} {xs : List Value} (hok : FzOk fz w) (hr : RepD fz (.sl sz rows) v) (ho : w.ownsRow 0 e sz v n xs) : n = rows.length ∧ CellsOf fz sz rows xs := by
  cases hr with
  | @sl A m c _ _ g hm hc hmm hsz hA h1 hg =>
    have hn : n = m := by
      rcases ho.2 with ⟨h, h'⟩ | ⟨b, cap, cur, h, _⟩
      · cases h; exact h'
      · cases h; rfl
    subst hn
    refine ⟨hm.symm, hsz, by rw [ho.1, hm], fun i j r d hi hj => ⟨g i j, ?_, hg i j r d hi hj, h1 i j r d hi hj⟩⟩
    have hin : i < n := by rw [← hm]; exact (List.getElem?_eq_some_iff.1 hi).1
    have hjn : j < sz := by rw [← hsz r (List.mem_of_getElem? hi)]; exact (List.getElem?_eq_some_iff.1 hj).1
    obtain ⟨b, off, rfl, hA2⟩ := hA (by omega)
    have hcell := hok _ _ _ (hA2 i j hin hjn)
    rcases ho.2 with ⟨h, h'⟩ | ⟨b', cap, cur, h, _⟩
    · cases h
    · cases h
      have hlt : i * sz + j < xs.length := by rw [ho.1]; exact row_lt hin hjn
      have := ho.cells (g := b) rfl (i * sz + j) _ (List.getElem?_eq_getElem hlt)
      rw [add_off] at this
      simp only [Nat.zero_add] at this hcell
      rw [hcell] at this
      rw [List.getElem?_eq_getElem hlt]
      exact this.symm
theorem src_cells {fz : Fz} {w : World} {sz : Nat} {rows : List (List D)} {v : Value} (hok : FzOk fz w) (hr : RepD fz (.sl sz rows) v) (hsz0 : 0 < sz) :
    ∃ A m c xs, v = .slice A m c ∧ m = rows.length ∧ CellsOf fz sz rows xs ∧ (∀ u ∈ xs, u.oneCell' = true) ∧ (m = 0 → xs = []) ∧ ∀ a, A = some a → ∀ (j : Nat) (u : Value), xs[j]? = some u → w.cell? (a.add j) = some u := by
  cases hr with
  | @sl A m c _ _ g hm hc hmm hsz hA h1 hg =>
    have hix : ∀ j, j < m * sz → j / sz < m ∧ j % sz < sz := fun j hj => ⟨(Nat.div_lt_iff_lt_mul hsz0).2 hj, Nat.mod_lt _ hsz0⟩
    have hrow : ∀ i j, i < m → j < sz → ∃ r d, rows[i]? = some r ∧ r[j]? = some d := fun i j hi hj => by
      have h1 : i < rows.length := by omega
      have h2 : j < rows[i].length := by rw [hsz _ (List.getElem_mem h1)]; exact hj
      exact ⟨_, _, List.getElem?_eq_getElem h1, List.getElem?_eq_getElem h2⟩
    refine ⟨A, m, c, (List.range (m * sz)).map fun j => g (j / sz) (j % sz), rfl, hm.symm, ⟨hsz, by simp [hm], fun i j r d hi hj => ⟨g i j, ?_, hg i j r d hi hj, h1 i j r d hi hj⟩⟩, ?_, fun h0 => by simp [h0], ?_⟩
    · have hin : i < m := by rw [← hm]; exact (List.getElem?_eq_some_iff.1 hi).1
      have hjn : j < sz := by rw [← hsz r (List.mem_of_getElem? hi)]; exact (List.getElem?_eq_some_iff.1 hj).1
      rw [List.getElem?_map, List.getElem?_range (row_lt hin hjn)]
      have e1 : (i * sz + j) / sz = i := by rw [Nat.mul_comm, Nat.mul_add_div hsz0, Nat.div_eq_of_lt hjn, Nat.add_zero]
      have e2 : (i * sz + j) % sz = j := by rw [Nat.mul_comm, Nat.mul_add_mod, Nat.mod_eq_of_lt hjn]
      simp [e1, e2]
    · intro u hu
      obtain ⟨j, hj, rfl⟩ := List.mem_map.1 hu
      have hj' := hix j (List.mem_range.1 hj)
      obtain ⟨r, d, k1, k2⟩ := hrow _ _ hj'.1 hj'.2
      exact h1 _ _ r d k1 k2
    · rintro a rfl j u hu
      rw [List.getElem?_map, Option.map_eq_some_iff] at hu
      obtain ⟨j', hj', rfl⟩ := hu
      have hlt : j < m * sz := by
        have := (List.getElem?_eq_some_iff.1 hj').1
        simpa using this
      rw [List.getElem?_range hlt] at hj'
      cases hj'
      have hj' := hix j hlt
      have hm0 : 0 < m := Nat.pos_of_ne_zero fun h => by rw [h] at hlt; simp at hlt
      obtain ⟨b, off, e, hA2⟩ := hA hm0
      cases e
      rw [add_off]
      have := hok _ _ _ (hA2 _ _ hj'.1 hj'.2)
      rwa [Nat.add_assoc, show j / sz * sz + j % sz = j by rw [Nat.mul_comm]; exact Nat.div_add_mod j sz] at this
theorem CellsOf.append {fz : Fz} {sz : Nat} {rows rows2 : List (List D)} {xs ys : List Value} (h : CellsOf fz sz rows xs) (k : CellsOf fz sz rows2 ys) : CellsOf fz sz (rows ++ rows2) (xs ++ ys) := by
  refine ⟨fun r hr => (List.mem_append.1 hr).elim (h.1 r) (k.1 r), by rw [List.length_append, List.length_append, h.2.1, k.2.1, Nat.add_mul], fun i j r d hi hj => ?_⟩
  by_cases hlt : i < rows.length
  · rw [List.getElem?_append_left hlt] at hi
    obtain ⟨u, h1, h2⟩ := h.2.2 i j r d hi hj
    exact ⟨u, by rw [List.getElem?_append_left (List.getElem?_eq_some_iff.1 h1).1]; exact h1, h2⟩
  · rw [List.getElem?_append_right (by omega)] at hi
    obtain ⟨u, h1, h2⟩ := k.2.2 _ j r d hi hj
    refine ⟨u, ?_, h2⟩
    have e : i * sz + j = xs.length + ((i - rows.length) * sz + j) := by
      rw [h.2.1, ← Nat.add_assoc, ← Nat.add_mul, Nat.add_sub_cancel' (by omega)]
    rw [e, List.getElem?_append_right (by omega), Nat.add_sub_cancel_left]
    exact h1
theorem CellsOf.mono {fz fz' : Fz} (hf : Fz.Le fz fz') {sz : Nat} {rows : List (List D)} {xs : List Value} (h : CellsOf fz sz rows xs) : CellsOf fz' sz rows xs :=
  ⟨h.1, h.2.1, fun i j r d a b => let ⟨u, h1, h2, h3⟩ := h.2.2 i j r d a b; ⟨u, h1, h2.mono hf, h3⟩⟩

def fzAdd (fz : Fz) (v' : Value) (xs : List Value) : Fz := fun b o => if v'.ownBlock = some b ∧ o < xs.length then xs[o]? else fz b o
/-- a row of one's own that has grown, or is new -/
theorem Post.row {β : Bt} {fz : Fz} {w w' : World} {own : Nat → Prop} (hok : FzOk fz w) (hown : ∀ k, w.heap.size ≤ k → own k) {new : Nat} (hβ : β new = none) {hp : List (Nat × Blk)} {e : TypeId} {sz n : Nat} {rows : List (List D)} {v v' : Value} {xs ys : List Value}
    (ho : w'.ownsRow 0 e sz v' n ys) (hr : CellsOf fz sz rows ys) (hn : n = rows.length) (hm : n ≤ 1000000) (hst : Stays w w' v v')
    (hold : ∀ b, v.ownBlock = some b → BlkIn β hp b ∧ own b ∧ b < w.heap.size ∧ (∀ o, xs.length ≤ o → fz b o = none) ∧ ∀ (o : Nat) (u : Value), w.cell? ⟨b, o, none⟩ = some u → o < xs.length → xs[o]? = some u) (hpre : ∃ news, ys = xs ++ news) :
    Post β fz w own hp [new] [(new, .tail n sz e)] (.own new sz rows) v' (upd β new v') (fzAdd fz v' ys) w' := by
  have hys : ys.length = n * sz := ho.1
  have hfle : Fz.Le fz (fzAdd fz v' ys) := fun b o u hu => by
    unfold fzAdd
    split
    · rename_i hc
      obtain ⟨hb, hlt⟩ := hc
      rcases hst with ⟨hs, _⟩ | ⟨hs, _⟩
      · rw [hs] at hb
        obtain ⟨_, _, _, k1, k2⟩ := hold b hb
        obtain ⟨news, rfl⟩ := hpre
        by_cases hx : o < xs.length
        · rw [List.getElem?_append_left hx]
          exact k2 o u (hok _ _ _ hu) hx
        · rw [k1 o (by omega)] at hu; cases hu
      · rw [hs] at hb; cases hb
        rw [hok.new _ o (Nat.le_refl _)] at hu; cases hu
    · exact hu
  have hrow : ∀ b, v'.ownBlock = some b → ∀ o, o < ys.length → w'.cell? ⟨b, o, none⟩ = ys[o]? := fun b hb o hlt => by
    have := ho.cells hb o _ (List.getElem?_eq_getElem hlt)
    rw [add_off] at this
    simp only [Nat.zero_add] at this
    rw [this, List.getElem?_eq_getElem hlt]
  have hgsize : w.heap.size ≤ w'.heap.size := by rcases hst with ⟨_, h⟩ | ⟨_, h⟩ <;> exact h.size
  have hframe : ∀ b, b < w.heap.size → v'.ownBlock ≠ some b → w'.heap[b]? = w.heap[b]? := fun b hb hne => by
    rcases hst with ⟨hs, h⟩ | ⟨hs, h⟩
    · exact h.block b hb fun e => hne (hs.trans e.symm)
    · exact h.block b hb (by simp)
  have hblk : ∀ b, v'.ownBlock = some b → (own b ∧ b < w'.heap.size) ∧ (w.heap.size ≤ b ∨ BlkIn β hp b) := fun b hb => by
    have hlt := (ho.lt b hb).2
    rcases hst with ⟨hs, h⟩ | ⟨hs, h⟩
    · rw [hs] at hb
      obtain ⟨k1, k2, _⟩ := hold b hb
      exact ⟨⟨k2, hlt⟩, .inr k1⟩
    · rw [hs] at hb; cases hb
      exact ⟨⟨hown _ (Nat.le_refl _), hlt⟩, .inl (Nat.le_refl _)⟩
  have hnotin : ∀ b, b < w.heap.size → ¬ BlkIn β hp b → v'.ownBlock ≠ some b := fun b h1 h2 e => by
    rcases (hblk b e).2 with h | h
    · omega
    · exact h2 h
  have howb : ∀ k, blkOf v' = some k → v'.ownBlock = some k := fun k hk => by
    rcases ho.2 with ⟨h, _⟩ | ⟨g, cap, cur, h, _⟩
    · subst h; cases hk
    · subst h; exact hk
  constructor
  · exact upd_le hβ
  · exact fun h hh => by simp only [List.mem_singleton] at hh; simp [upd, hh]
  · exact hfle
  · intro b h1 h2 o
    unfold fzAdd
    rw [if_neg fun h => hnotin b h1 h2 h.1]
  · intro b o u hu
    unfold fzAdd at hu
    split at hu
    · rename_i hc
      rw [hrow b hc.1 o hc.2]; exact hu
    · rename_i hc
      have hcell := hok b o u hu
      have hlt : b < w.heap.size := World.block_lt_of_cell? w _ hcell
      by_cases hb : v'.ownBlock = some b
      · exfalso
        have ho' : ys.length ≤ o := by
          rcases Nat.lt_or_ge o ys.length with h | h
          · exact absurd ⟨hb, h⟩ hc
          · exact h
        rcases hst with ⟨hs, _⟩ | ⟨hs, _⟩
        · rw [hs] at hb
          obtain ⟨_, _, _, k1, _⟩ := hold b hb
          obtain ⟨news, rfl⟩ := hpre
          rw [k1 o (by simp at ho'; omega)] at hu; cases hu
        · rw [hs] at hb; cases hb; omega
      · exact (World.cell?_of_block (w := w) (hframe b hlt hb)).trans hcell
  · rcases hst with ⟨_, h⟩ | ⟨_, h⟩ <;> exact h.os
  · rcases hst with ⟨_, h⟩ | ⟨_, h⟩ <;> exact h.tape
  · rcases hst with ⟨_, h⟩ | ⟨_, h⟩ <;> exact h.output
  · exact hgsize
  · exact fun b h1 h2 => hframe b h1 (hnotin b h1 h2)
  · intro y hy
    simp only [List.mem_singleton] at hy
    subst hy
    refine ⟨v', upd_same _ _ _, fun k hk => (hblk k (howb k hk)).1, ys, ho, fun b hb o ho' => ?_⟩
    unfold fzAdd
    rw [if_neg (by omega)]
    rcases hst with ⟨hs, _⟩ | ⟨hs, _⟩
    · rw [hs] at hb
      obtain ⟨_, _, _, k1, _⟩ := hold b hb
      obtain ⟨news, rfl⟩ := hpre
      exact k1 o (by simp at hys; omega)
    · rw [hs] at hb; cases hb
      exact hok.new _ o (Nat.le_refl _)
  · intro y hy z k h1 h2
    simp only [List.mem_singleton] at hy
    subst hy
    rw [upd_same] at h1; cases h1
    exact (hblk k (howb k h2)).2
  · intro h h' y y' k ⟨z, hz, e⟩ ⟨z', hz', e'⟩ _ _ _ _
    simp only [List.mem_singleton] at hz hz'
    subst hz; subst hz'
    exact e.symm.trans e'
  · refine .own (upd_same _ _ _) ?_
    have hr' := hr.mono hfle
    have hget : ∀ (i j : Nat) (r : List D) (d : D), rows[i]? = some r → r[j]? = some d → RepD (fzAdd fz v' ys) d (ys[i * sz + j]?.getD default) ∧ (ys[i * sz + j]?.getD default).oneCell' = true := fun i j r d hi hj => by
      obtain ⟨u, h1, h2, h3⟩ := hr'.2.2 i j r d hi hj
      rw [h1]; exact ⟨h2, h3⟩
    rcases ho.2 with ⟨hv, h0⟩ | ⟨g, cap, cur, hv, _, _, hcap, _⟩
    · subst hv
      exact .sl (fun i j => ys[i * sz + j]?.getD default) (by omega) (by omega) (by omega) hr.1 (fun h => by omega) (fun i j r d a b => (hget i j r d a b).2) (fun i j r d a b => (hget i j r d a b).1)
    · subst hv
      refine .sl (fun i j => ys[i * sz + j]?.getD default) hn.symm hcap (by omega) hr.1 (fun _ => ⟨g, 0, rfl, fun i j hi hj => ?_⟩) (fun i j r d a b => (hget i j r d a b).2) (fun i j r d a b => (hget i j r d a b).1)
      have hlt : 0 + i * sz + j < ys.length := by rw [hys, Nat.zero_add]; exact row_lt hi hj
      unfold fzAdd
      rw [if_pos ⟨rfl, hlt⟩, List.getElem?_eq_getElem hlt]
      simp only [Nat.zero_add] at hlt ⊢
      rw [List.getElem?_eq_getElem hlt]; rfl
end Go.Lm
/- The logical machine: append, whole slices, make, parts of slices. -/
set_option linter.constructorNameAsVariable false
namespace Go.Lm
open Go Go.RowKit
section
variable {P : Program} {s : LS} {new : Nat} {dst : Option Tmp} {type : TypeId} {pos : String} {after : Array Edge} {guard : Option (Nat × Bool)}

/-- a slice type's element, its size: if append serves -/
def apT (P : Program) (t : TypeId) : Option (TypeId × Nat) := match P.underlying t with
  | some (.slice e) => match P.info? e with
    | some i => match i.zero with
      | some z => if z.cells.size = i.size ∧ 0 < i.size ∧ i.bytes ≤ 100 then some (e, i.size) else none
      | none => none
    | none => none
  | _ => none
theorem apT_ok {t e : TypeId} {sz : Nat} (h : apT P t = some (e, sz)) : ∃ i z, P.underlying t = some (.slice e) ∧ P.info? e = some i ∧ i.zero = some z ∧ z.cells.size = i.size ∧ 0 < i.size ∧ i.bytes ≤ 100 ∧ i.size = sz := by
  unfold apT at h
  split at h
  · rename_i e' he
    split at h
    · rename_i i hi
      split at h
      · rename_i z hz
        split at h
        · rename_i hc
          cases h
          exact ⟨i, z, he, hi, hz, hc.1, hc.2.1, hc.2.2, rfl⟩
        · cases h
      · cases h
    · cases h
  · cases h
def baseV (s : LS) (e : TypeId) (sz : Nat) : V → Option (List (Nat × Blk) × List (List D))
  | .d .nil => some ([], [])
  | .own h z rows => match s.blk h with
    | some (.tail n z' e') => if z = sz ∧ z' = sz ∧ e' = e then some ([(h, .tail n z' e')], rows) else none
    | _ => none
  | _ => none
def srcV (sz : Nat) : V → Option (List (List D))
  | .d .nil => some []
  | v => match rowsV v with
    | some (z, rows) => if z = sz then some rows else none
    | none => none
theorem CellsOf.nil (fz : Fz) (sz : Nat) : CellsOf fz sz [] [] := ⟨(fun r hr => by cases hr), by simp, fun i j r d h => by simp at h⟩
def Src (fz : Fz) (w : World) (sz : Nat) (rows : List (List D)) (u : Value) : Prop :=
    ∃ A m c xs, u = .slice A m c ∧ m = rows.length ∧ CellsOf fz sz rows xs ∧ (∀ u ∈ xs, u.oneCell' = true) ∧ (m = 0 → xs = []) ∧ (A = none → m = 0) ∧ ∀ a, A = some a → ∀ (j : Nat) (u : Value), xs[j]? = some u → w.cell? (a.add j) = some u
theorem srcV_ok {β : Bt} {fz : Fz} {w : World} {sz : Nat} {rows : List (List D)} {v : V} {u : Value} (hok : FzOk fz w) (hsz : 0 < sz) (h : RepV β fz v u) (hs : srcV sz v = some rows) : Src fz w sz rows u := by
  have rest : (match rowsV v with | some (z, rows) => if z = sz then some rows else none | none => none) = some rows → Src fz w sz rows u := fun hs => by
    split at hs
    · rename_i z rows' hr
      split at hs
      · rename_i hz
        cases hs
        subst hz
        have hd := rowsV_ok h hr
        obtain ⟨A, m, c, xs, h1, h2, h3, h4, h5, h6⟩ := src_cells hok hd hsz
        refine ⟨A, m, c, xs, h1, h2, h3, h4, h5, fun hA => ?_, h6⟩
        subst h1; subst hA
        cases hd with
        | @sl _ _ _ _ _ g hm hc hmm hsz hA ho hg =>
          rcases Nat.eq_zero_or_pos m with h0 | h0
          · exact h0
          · obtain ⟨b, off, e, _⟩ := hA h0; cases e
      · cases hs
    · cases hs
  cases v with
  | d x =>
    cases x with
    | nil =>
      simp only [srcV, Option.some.injEq] at hs
      subst hs
      cases h with
      | d h => cases h; exact ⟨none, 0, 0, [], rfl, rfl, CellsOf.nil _ _, (fun u hu => by cases hu), (fun _ => rfl), (fun _ => rfl), fun a e => by cases e⟩
    | _ => exact rest hs
  | _ => exact rest hs
theorem baseV_ok {β : Bt} {fz : Fz} {w : World} {own : Nat → Prop} {e : TypeId} {sz : Nat} {hp : List (Nat × Blk)} {rows : List (List D)} {v : V} {u : Value} (hok : FzOk fz w) (h : RepV β fz v u) (hs : baseV s e sz v = some (hp, rows)) (hh : ∀ x ∈ hp, HRep β fz w own x.1 x.2) :
    ∃ n xs, w.ownsRow 0 e sz u n xs ∧ n = rows.length ∧ CellsOf fz sz rows xs ∧
      ∀ b, u.ownBlock = some b → BlkIn β hp b ∧ own b ∧ b < w.heap.size ∧ (∀ o, xs.length ≤ o → fz b o = none) ∧ ∀ (o : Nat) (x : Value), w.cell? ⟨b, o, none⟩ = some x → o < xs.length → xs[o]? = some x := by
  cases v with
  | d x =>
    cases x <;> simp only [baseV, Option.some.injEq, Prod.mk.injEq, reduceCtorEq] at hs
    obtain ⟨rfl, rfl⟩ := hs
    cases h with
    | d h => cases h; exact ⟨0, [], World.ownsRow_nil w 0 e sz, rfl, CellsOf.nil _ _, fun b hb => by cases hb⟩
  | own k z r =>
    simp only [baseV] at hs
    split at hs
    · rename_i n z' e' hk
      split at hs
      · rename_i hc
        cases hs
        obtain ⟨rfl, rfl, rfl⟩ := hc
        obtain ⟨x, h1, h2, xs, h3, h4⟩ := hh _ (List.mem_singleton.2 rfl)
        cases h with
        | own hb hr =>
          rw [hb] at h1; cases h1
          obtain ⟨k1, k2⟩ := own_cells hok hr h3
          refine ⟨n, xs, h3, k1, k2, fun b hbb => ⟨⟨_, List.mem_singleton.2 rfl, u, hb, blkOf_own hbb⟩, (h2 b (blkOf_own hbb)).1, (h2 b (blkOf_own hbb)).2, fun o ho => h4 b hbb o (by rw [← h3.1]; exact ho), fun o x hx hlt => ?_⟩⟩
          have := h3.cells hbb o _ (List.getElem?_eq_getElem hlt)
          rw [add_off] at this
          simp only [Nat.zero_add] at this
          rw [hx] at this
          rw [List.getElem?_eq_getElem hlt]; exact this.symm
      · cases hs
    · cases hs
  | _ => cases hs
theorem baseV_hp {e : TypeId} {sz : Nat} {hp : List (Nat × Blk)} {rows : List (List D)} {v : V} (hs : baseV s e sz v = some (hp, rows)) : ∀ x ∈ hp, s.blk x.1 = some x.2 := by
  cases v with
  | d x =>
    cases x <;> simp only [baseV, Option.some.injEq, Prod.mk.injEq, reduceCtorEq] at hs
    obtain ⟨rfl, rfl⟩ := hs
    exact fun x hx => by cases hx
  | own k z r =>
    simp only [baseV] at hs
    split at hs
    · rename_i n z' e' hk
      split at hs
      · cases hs
        intro x hx
        simp at hx; subst hx; exact hk
      · cases hs
    · cases hs
  | _ => cases hs
theorem ok_append {t e : TypeId} {x y : Operand} {sz : Nat} {hp : List (Nat × Blk)} {rows rows2 : List (List D)} {vx vy : V} (hx : s.ev x = some vx) (hy : s.ev y = some vy) (hT : apT P t = some (e, sz)) (hb : baseV s e sz vx = some (hp, rows)) (hs : srcV sz vy = some rows2)
    (hl : rows.length + rows2.length ≤ 1000000) : Ok P s new ⟨dst, .call { callee := .builtin .append, args := #[x, y], argTypes := #[t, t] }, type, pos, after, guard⟩
      ⟨[vx, vy], [], hp, [new], [(new, .tail (rows.length + rows2.length) sz e)], .own new sz (rows ++ rows2)⟩ := by
  obtain ⟨v1, v2⟩ := vals2 (ops := (Op.call { callee := .builtin .append, args := #[x, y], argTypes := #[t, t] }).operands) (by simp [Op.operands, Call.operands]) hx hy
  refine ⟨?_, v1, v2, (fun x hx => by cases hx), baseV_hp hb, (fun x hx => by simpa using hx), (fun x hx => by simp at hx; subst hx; exact .inl (List.mem_singleton.2 rfl))⟩
  intro β fz own a w hok hown _ hhp _ hnew _ hv next Q hn
  have hβ := hnew new (List.mem_singleton.2 rfl)
  have r1 := hv 0 x vx (by simp [Op.operands, Call.operands]) rfl
  have r2 := hv 1 y vy (by simp [Op.operands, Call.operands]) rfl
  obtain ⟨i, z, ht, hi, hz, hzs, hsz, hby, rfl⟩ := apT_ok hT
  obtain ⟨n, xs, ho, rfl, hc, hold⟩ := baseV_ok hok r1 hb hhp
  obtain ⟨A, m, c, ys, e2, rfl, hc2, h1, h0, hA0, hcell⟩ := srcV_ok hok hsz r2 hs
  have key : ∃ v' w', (Builtin.append_ #[t, t] type #[a.eval x, a.eval y]).run P w = .ok v' w' ∧ w'.ownsRow 0 e i.size v' (rows.length + rows2.length) (xs ++ ys) ∧ Stays w w' (a.eval x) v' := by
    rw [e2]
    cases A with
    | some ad => exact app_run ht hi hz hzs hsz ho hc2.2.1 (hcell ad rfl) h1 hl hby
    | none =>
      have hm := hA0 rfl
      rw [h0 hm, hm, List.append_nil]
      exact ⟨_, _, app_run0 ht hi ho, ho, .inl ⟨rfl, rfl, rfl, rfl, Nat.le_refl _, fun _ _ _ => rfl⟩⟩
  obtain ⟨v', w', hrun, ho', hst⟩ := key
  unfold Oper.wp
  rw [run_builtin (sv := Builtin.append_ #[t, t] type #[a.eval x, a.eval y]) (fun _ => by simp; rfl) hrun, Oper.upon_value]
  exact hn _ _ _ _ (Post.row hok hown hβ ho' (hc.append hc2) (by simp) hl hst hold ⟨ys, rfl⟩)

/-! ### whole slices -/
def chunks (sz : Nat) : Nat → List D → List (List D)
  | 0, _ => []
  | n + 1, l => l.take sz :: chunks sz n (l.drop sz)
theorem chunks_length (sz : Nat) : ∀ (n : Nat) (l : List D), (chunks sz n l).length = n
  | 0, _ => rfl
  | n + 1, l => by simp [chunks, chunks_length sz n]
theorem chunks_get {sz : Nat} : ∀ {n : Nat} {l : List D} {i : Nat} {r : List D}, (chunks sz n l)[i]? = some r → r = (l.drop (i * sz)).take sz
  | 0, l, i, r, h => by simp [chunks] at h
  | n + 1, l, 0, r, h => by simp [chunks] at h; simp [h]
  | n + 1, l, i + 1, r, h => by
    simp only [chunks, List.getElem?_cons_succ] at h
    rw [chunks_get h, List.drop_drop, Nat.succ_mul, Nat.add_comm]
theorem CellsOf.chunks {fz : Fz} {sz n : Nat} {ds : List D} {us : List Value} (hl : ds.length = n * sz) (hu : us.length = ds.length) (hr : ∀ (j : Nat) (d : D) (u : Value), ds[j]? = some d → us[j]? = some u → RepD fz d u ∧ u.oneCell' = true) : CellsOf fz sz (chunks sz n ds) us := by
  have hget : ∀ (i : Nat) (r : List D), (Lm.chunks sz n ds)[i]? = some r → r = (ds.drop (i * sz)).take sz ∧ i < n := fun i r h => ⟨chunks_get h, by rw [← chunks_length sz n ds]; exact (List.getElem?_eq_some_iff.1 h).1⟩
  refine ⟨fun r h => ?_, by rw [hu, hl, chunks_length], fun i j r d h1 h2 => ?_⟩
  · obtain ⟨i, hi, e⟩ := List.getElem_of_mem h
    obtain ⟨k1, k2⟩ := hget i r (by rw [← e]; exact List.getElem?_eq_getElem hi)
    rw [k1, List.length_take, List.length_drop, hl]
    have : i * sz + sz ≤ n * sz := by rw [← Nat.succ_mul]; exact Nat.mul_le_mul_right _ k2
    omega
  · obtain ⟨k1, k2⟩ := hget i r h1
    subst k1
    rw [List.getElem?_take] at h2
    split at h2
    · rename_i hj
      rw [List.getElem?_drop] at h2
      have hlt : i * sz + j < us.length := by rw [hu]; exact (List.getElem?_eq_some_iff.1 h2).1
      obtain ⟨q1, q2⟩ := hr _ d _ h2 (List.getElem?_eq_getElem hlt)
      exact ⟨_, List.getElem?_eq_getElem hlt, q1, q2⟩
    · cases h2
theorem fill_size {f : Nat → Option (Nat × Nat)} : ∀ {l : List (Nat × Value)} {cs r : Array Value}, Instr.fill f cs l = some r → r.size = cs.size
  | [], cs, r, h => by cases h; rfl
  | p :: l, cs, r, h => by
    simp only [Instr.fill] at h
    split at h
    · cases h
    · rename_i off size hf
      split at h
      · cases h
      · rw [fill_size h]
        have : ∀ (l : List (Value × Nat)) (cs : Array Value), (l.foldl (fun cs (x : Value × Nat) => cs.setIfInBounds (off + x.2) x.1) cs).size = cs.size := by
          intro l
          induction l with
          | nil => intro cs; rfl
          | cons x l ih => intro cs; simp only [List.foldl_cons]; rw [ih]; simp
        have e2 : p.2.cells.zipIdx = (p.2.cells.toList.zipIdx 0).toArray := by apply Array.ext'; simp
        rw [e2, List.foldl_toArray' _ _ _ (by simp)]
        exact this _ _
theorem run_bs {w : World} {t e : TypeId} {len : Nat} {i : TypeInfo} {z : Value} {parts : Array (Nat × Value)} {us' : Array Value} (ht : P.underlying t = some (.slice e)) (hi : P.info? e = some i) (hz : i.zero = some z) (hlen : len * i.size ≤ 10000)
    (h1 : Instr.fill (fun k => some (k * i.size, i.size)) ((Array.range (len * i.size)).map (z.cells[· % z.cells.size]!)) parts.toList = some us') :
    (Instr.buildSlice t len parts).run P w = .ok (.slice (some ⟨w.heap.size, 0, none⟩) len len) (w.alloc (.cells us' e)) := by
  have hrs : (sizeOf e).run P w = .ok i.size w := run_sizeOf' (by simp [tsz, hi]) w
  have hrz : (zeroValue e).run P w = .ok z w := by simp [zeroValue, typeInfo, hi, hz, go_sem]
  unfold Instr.buildSlice
  have hno : ¬ (len * i.size > 2 ^ 24) := by simp; omega
  simp only [Sem.run_bind, run_underlying ht, Result.andThen_ok, hrs, if_neg hno, Sem.run_pure]
  by_cases hl0 : len * i.size = 0
  · have e0 : (Array.range (len * i.size)).map (z.cells[· % z.cells.size]!) = (Array.range 0).map (fun k => (#[] : Array Value)[k % (#[] : Array Value).size]!) := by
      rw [hl0]; apply Array.ext'; simp
    rw [e0] at h1
    simp only [hl0, if_true, Sem.run_bind, Sem.run_pure, Result.andThen_ok]
    rw [h1]
    rfl
  · simp only [hl0, if_false, Sem.run_bind, hrz, Result.andThen_ok, Sem.run_pure]
    rw [h1]
    rfl
/-- a whole new row -/
theorem Post.whole {β : Bt} {fz : Fz} {w : World} {own : Nat → Prop} (hok : FzOk fz w) (hown : ∀ k, w.heap.size ≤ k → own k) {new : Nat} (hβ : β new = none) {e : TypeId} {sz len : Nat} {us : Array Value} {cs : List V} {ds : List D} (hsz : 0 < sz) (hsize : us.size = len * sz) (hlen : len ≤ 1000000)
    (h2 : RepVs β fz cs us) (hd : V.toD.toDs cs = some ds) (ho : cs.all oneV = true) :
    Post β fz w own [] [new] [(new, .tail len sz e)] (.own new sz (chunks sz len ds)) (.slice (some ⟨w.heap.size, 0, none⟩) len len) (upd β new (.slice (some ⟨w.heap.size, 0, none⟩) len len)) (fzAdd fz (.slice (some ⟨w.heap.size, 0, none⟩) len len) us.toList) (w.alloc (.cells us e)) := by
  have hown' : (w.alloc (.cells us e)).ownsRow 0 e sz (.slice (some ⟨w.heap.size, 0, none⟩) len len) len us.toList :=
    ⟨by simpa using hsize, .inr ⟨w.heap.size, len, us, rfl, Nat.zero_le _, heap_alloc_new w _, Nat.le_refl _, by unfold maxLen; omega, hsize, by rw [List.take_of_length_le (by simp; omega)]⟩⟩
  obtain ⟨d1, d2⟩ := toDs_rep cs hd h2
  have hdl : ds.length = len * sz := by rw [← d1]; exact hsize
  have hc : CellsOf fz sz (chunks sz len ds) us.toList := CellsOf.chunks hdl (by simpa using d1) fun j d u a b => ⟨d2 j d u a (by simpa using b), by
    have hj : j < cs.length := by rw [← h2.1, d1]; exact (List.getElem?_eq_some_iff.1 a).1
    exact oneV_ok (h2.2 j _ u (List.getElem?_eq_getElem hj) (by simpa using b)) (List.all_eq_true.1 ho _ (List.getElem_mem hj))⟩
  exact Post.row (v := .slice none 0 0) (xs := []) hok hown hβ hown' hc (by rw [chunks_length]) hlen (.inr ⟨rfl, rfl, rfl, rfl, by simp, fun k hk _ => Below.heap_alloc w _ k hk⟩) (fun b hb => by cases hb) ⟨_, rfl⟩
theorem ok_buildSlice {t e : TypeId} {len sz : Nat} {ps : Array (Nat × Operand)} {vs cs : List V} {ds : List D} (hT : apT P t = some (e, sz)) (hv : s.evs (ps.toList.map (·.2)) = some vs) (hlen : len * sz ≤ 10000)
    (hb : bfill (fun i => some (i * sz, sz)) (List.replicate (len * sz) .u) ((ps.toList.map (·.1)).zip vs) = some cs) (hd : V.toD.toDs cs = some ds) (ho : cs.all oneV = true) :
    Ok P s new ⟨dst, .buildSlice t len ps, type, pos, after, guard⟩ ⟨vs, [], [], [new], [(new, .tail len sz e)], .own new sz (chunks sz len ds)⟩ := by
  obtain ⟨v1, v2⟩ := valsL (ops := (Op.buildSlice t len ps).operands) rfl hv
  refine ⟨?_, v1, v2, (fun x hx => by cases hx), (fun x hx => by cases hx), (fun x hx => by simpa using hx), (fun x hx => by simp at hx; subst hx; exact .inl (List.mem_singleton.2 rfl))⟩
  intro β fz own a w hok hown _ _ _ hnew _ hvv next Q hn
  have hβ := hnew new (List.mem_singleton.2 rfl)
  obtain ⟨i, z, ht, hi, hz, hzs, hsz, hby, rfl⟩ := apT_ok hT
  have h0 : RepVs β fz (List.replicate (len * i.size) .u) ((Array.range (len * i.size)).map (z.cells[· % z.cells.size]!)) := ⟨by simp, fun j d u h1 _ => by
    rw [List.getElem?_replicate] at h1
    split at h1
    · cases h1; exact .u _
    · cases h1⟩
  obtain ⟨us', h1, h2⟩ := fill_ok (β := β) (fz := fz) a.eval ps.toList vs _ cs _ h0 (by have := (evs_ok hv).1; simpa using this)
    (fun j p v h1 h2 => hvv j p.2 v (by simp only [Op.operands]; rw [List.getElem?_toArray, List.getElem?_map, h1]; rfl) h2) hb
  have hsize : us'.size = len * i.size := by rw [fill_size h1]; simp
  have hle : len ≤ len * i.size := Nat.le_mul_of_pos_right _ hsz
  have hrun : (Instr.buildSlice t len (ps.map fun (i, x) => (i, a.eval x))).run P w = .ok (.slice (some ⟨w.heap.size, 0, none⟩) len len) (w.alloc (.cells us' e)) :=
    run_bs ht hi hz hlen (by rw [Array.toList_map]; exact h1)
  have hx : execOp a.eval ⟨dst, .buildSlice t len ps, type, pos, after, guard⟩ = (do pure (.value (← Instr.buildSlice t len (ps.map fun (i, x) => (i, a.eval x))))) := by simp only [execOp]
  unfold Oper.wp
  rw [run_val hx hrun, Oper.upon_value]
  exact hn _ _ _ _ (Post.whole hok hown hβ hsz hsize (by omega) h2 hd ho)
end
end Go.Lm
/- The logical machine: parts of slices and strings, conversions, make, interfaces. -/
set_option linter.constructorNameAsVariable false
namespace Go.Lm
open Go Go.RowKit
section
variable {P : Program} {s : LS} {new : Nat} {dst : Option Tmp} {type : TypeId} {pos : String} {after : Array Edge} {guard : Option (Nat × Bool)}

theorem run_bound {x : Int} {q : IntKind} {y : Nat} {code : BoundsCode} (h0 : 0 ≤ x) (h : x ≤ y) (w : World) : (Instr.sliceBound (.int q x) y code).run P w = .ok x.toNat w := by
  unfold Instr.sliceBound
  have : 0 ≤ x ∧ x ≤ (y : Int) := ⟨h0, h⟩
  simp only [Sem.run_bind, asIntOf, Sem.run_pure, Result.andThen_ok, if_pos this]
theorem sub_rep {fz : Fz} {sz n c l h : Nat} {A : Option Addr} {rows : List (List D)} (hr : RepD fz (.sl sz rows) (.slice A n c)) (hl : l ≤ h) (hh : h ≤ n) :
    RepD fz (.sl sz ((rows.take h).drop l)) (.slice (if c = l then A else A.map (·.add (l * sz))) (h - l) (c - l)) := by
  cases hr with
  | sl g hm hc hmm hsz hA ho hg =>
    have hrow : ∀ i (r : List D), ((rows.take h).drop l)[i]? = some r → rows[i + l]? = some r := fun i r hi => by
      rw [List.getElem?_drop, List.getElem?_take] at hi
      split at hi
      · rwa [Nat.add_comm]
      · cases hi
    refine .sl (fun i j => g (i + l) j) (by simp; omega) (by omega) (by omega) (fun r hr => hsz r (List.mem_of_mem_take (List.mem_of_mem_drop hr))) (fun h0 => ?_) (fun i j r d a b => ho (i + l) j r d (hrow i r a) b) fun i j r d a b => hg (i + l) j r d (hrow i r a) b
    obtain ⟨b, off, rfl, hA2⟩ := hA (by omega)
    refine ⟨b, off + l * sz, by rw [if_neg (by omega)]; simp [add_off], fun i j hi hj => ?_⟩
    have := hA2 (i + l) j (by omega) hj
    rw [Nat.add_mul] at this
    rw [show off + l * sz + i * sz + j = off + (i * sz + l * sz) + j by omega]
    exact this
/-- the parts of a slice that is read -/
def subV (P : Program) (t : TypeId) (v : V) (l h : Option Int) : Option (Bool × V) := match rowsV v with
  | some (sz, rows) => if sel P t = some sz then match l, h with
      | none, none => none
      | some l, none => some (decide (0 ≤ l ∧ l ≤ rows.length), .d (.sl sz (rows.drop l.toNat)))
      | none, some h => some (decide (0 ≤ h ∧ h ≤ rows.length), .d (.sl sz (rows.take h.toNat)))
      | some l, some h => some (decide (0 ≤ l ∧ l ≤ h ∧ h ≤ rows.length), .d (.sl sz ((rows.take h.toNat).drop l.toNat)))
    else none
  | none => match v with
    | .d .nil => if (sel P t).isSome then match l, h with
        | some l, none => some (decide (l = 0), .d .nil)
        | none, some h => some (decide (h = 0), .d .nil)
        | _, _ => none
      else none
    | .d (.s x) => if isStrT P t then match l, h with
        | none, none => none
        | some l, none => some (decide (0 ≤ l ∧ l ≤ x.length), .d (.s (x.drop l.toNat)))
        | none, some h => some (decide (0 ≤ h ∧ h ≤ x.length), .d (.s (x.take h.toNat)))
        | some l, some h => some (decide (0 ≤ l ∧ l ≤ h ∧ h ≤ x.length), .d (.s ((x.take h.toNat).drop l.toNat)))
      else none
    | .ms k off n => if sel P t = some 1 then match l, h with
        | none, none => none
        | some l, none => some (decide (0 ≤ l ∧ l ≤ n), .ms k (off + l.toNat) (n - l.toNat))
        | none, some h => some (decide (0 ≤ h ∧ h ≤ n), .ms k off h.toNat)
        | some l, some h => some (decide (0 ≤ l ∧ l ≤ h ∧ h ≤ n), .ms k (off + l.toNat) (h.toNat - l.toNat))
      else none
    | _ => none
theorem sub_str (x : List UInt8) (l h : Nat) : (ByteArray.mk x.toArray).extract l h = ⟨((x.take h).drop l).toArray⟩ := by
  apply ByteArray.ext
  rw [ByteArray.data_extract]
  apply Array.ext'
  simp [Array.toList_extract, List.extract_eq_take_drop, List.drop_take]
theorem run_slice_any {t sz n c : Nat} {A : Option Addr} (ht : sel P t = some sz) (hnc : n ≤ c) (lo hi : Option Value) (l h : Nat)
    (hlo : lo = none ∧ l = 0 ∨ ∃ q x, lo = some (.int q x) ∧ 0 ≤ x ∧ l = x.toNat) (hhi : hi = none ∧ h = n ∨ ∃ q x, hi = some (.int q x) ∧ 0 ≤ x ∧ h = x.toNat) (h1 : l ≤ h) (h2 : h ≤ n) (w : World) :
    (Instr.sliceAt t (.slice A n c) lo hi none).run P w = .ok (.slice (if c = l then A else A.map (·.add (l * sz))) (h - l) (c - l)) w := by
  unfold sel at ht
  split at ht
  · rename_i e he
    have hb : (Instr.sliceBounds true n c lo hi none).run P w = .ok (l, h, c) w := by
      unfold Instr.sliceBounds
      rcases hhi with ⟨rfl, rfl⟩ | ⟨q, x, rfl, hx, rfl⟩
      · rcases hlo with ⟨rfl, rfl⟩ | ⟨q, y, rfl, hy, rfl⟩
        · rfl
        · simp only [Sem.run_bind, Sem.run_pure, Result.andThen_ok]
          rw [run_bound hy (by omega)]; rfl
      · have hxb := fun code => run_bound (P := P) (q := q) (y := c) (code := code) hx (by omega) w
        rcases hlo with ⟨rfl, rfl⟩ | ⟨q, y, rfl, hy, rfl⟩
        · simp only [Sem.run_bind, Sem.run_pure, Result.andThen_ok, hxb]
        · simp only [Sem.run_bind, Sem.run_pure, Result.andThen_ok, hxb]
          rw [run_bound hy (by omega)]; rfl
    unfold Instr.sliceAt
    simp only [Sem.run_bind, run_underlying he, Result.andThen_ok]
    unfold Instr.slice
    simp only [Sem.run_bind, run_underlying he, Result.andThen_ok, hb, run_sizeOf' ht]
    rfl
  · cases ht
theorem run_slice_rows {fz : Fz} {t sz n c : Nat} {A : Option Addr} {rows : List (List D)} (ht : sel P t = some sz) (hr : RepD fz (.sl sz rows) (.slice A n c)) (lo hi : Option Value) (l h : Nat)
    (hlo : lo = none ∧ l = 0 ∨ ∃ q x, lo = some (.int q x) ∧ 0 ≤ x ∧ l = x.toNat) (hhi : hi = none ∧ h = n ∨ ∃ q x, hi = some (.int q x) ∧ 0 ≤ x ∧ h = x.toNat) (h1 : l ≤ h) (h2 : h ≤ n) (w : World) :
    (Instr.sliceAt t (.slice A n c) lo hi none).run P w = .ok (.slice (if c = l then A else A.map (·.add (l * sz))) (h - l) (c - l)) w :=
  run_slice_any ht (by cases hr with | sl g hm hc hmm hsz hA ho hg => exact hc) lo hi l h hlo hhi h1 h2 w
theorem run_slice_str {t : Nat} {x : List UInt8} (ht : isStrT P t = true) (lo hi : Option Value) (l h : Nat)
    (hlo : lo = none ∧ l = 0 ∨ ∃ q y, lo = some (.int q y) ∧ 0 ≤ y ∧ l = y.toNat) (hhi : hi = none ∧ h = x.length ∨ ∃ q y, hi = some (.int q y) ∧ 0 ≤ y ∧ h = y.toNat) (h1 : l ≤ h) (h2 : h ≤ x.length) (w : World) :
    (Instr.sliceAt t (.string ⟨x.toArray⟩) lo hi none).run P w = .ok (.string ⟨((x.take h).drop l).toArray⟩) w := by
  have he := isStr_ok ht
  have hsz : (ByteArray.mk x.toArray).size = x.length := rfl
  have hb : (Instr.sliceBounds false x.length x.length lo hi none).run P w = .ok (l, h, x.length) w := by
    unfold Instr.sliceBounds
    rcases hhi with ⟨rfl, rfl⟩ | ⟨q, z, rfl, hx, rfl⟩
    · rcases hlo with ⟨rfl, rfl⟩ | ⟨q, y, rfl, hy, rfl⟩
      · rfl
      · simp only [Sem.run_bind, Sem.run_pure, Result.andThen_ok]
        rw [run_bound hy (by omega)]; rfl
    · have hxb := fun code => run_bound (P := P) (q := q) (y := x.length) (code := code) hx (by omega) w
      rcases hlo with ⟨rfl, rfl⟩ | ⟨q, y, rfl, hy, rfl⟩
      · simp only [Sem.run_bind, Sem.run_pure, Result.andThen_ok, hxb]
      · simp only [Sem.run_bind, Sem.run_pure, Result.andThen_ok, hxb]
        rw [run_bound hy (by omega)]; rfl
  unfold Instr.sliceAt
  simp only [Sem.run_bind, run_underlying he, Result.andThen_ok]
  unfold Instr.slice
  simp only [Sem.run_bind, run_underlying he, Result.andThen_ok, hsz, Option.isSome_none, Bool.false_eq_true, if_false, hb, sub_str]
  rfl
def ofI (q : IntKind) : Option Int → Option Value
  | none => none
  | some n => some (.int q n)
theorem run_sub {β : Bt} {fz : Fz} {t : TypeId} {v r : V} {u : Value} {l h : Option Int} {c : Bool} (hv : RepV β fz v u) (hs : subV P t v l h = some (c, r)) (hc : c = true) (q q' : IntKind) (w : World) :
    ∃ u', (Instr.sliceAt t u (ofI q l) (ofI q' h) none).run P w = .ok u' w ∧ RepV β fz r u' := by
  unfold subV at hs
  split at hs
  · rename_i sz rows hr
    split at hs
    · rename_i ht
      have hd := rowsV_ok hv hr
      have hd' := hd
      cases hd' with
      | @sl A n k _ _ g hm hk hmm hsz hA ho hg =>
        split at hs
        · cases hs
        · rename_i l
          cases hs
          replace hc := of_decide_eq_true hc
          refine ⟨_, run_slice_rows ht hd _ _ l.toNat n (.inr ⟨q, l, rfl, hc.1, rfl⟩) (.inl ⟨rfl, rfl⟩) (by omega) (Nat.le_refl _) w, .d ?_⟩
          have := sub_rep hd (show l.toNat ≤ n by omega) (Nat.le_refl n)
          rwa [List.take_of_length_le (by omega)] at this
        · rename_i h
          cases hs
          replace hc := of_decide_eq_true hc
          exact ⟨_, run_slice_rows ht hd _ _ 0 h.toNat (.inl ⟨rfl, rfl⟩) (.inr ⟨q', h, rfl, hc.1, rfl⟩) (by omega) (by omega) w, .d (sub_rep hd (Nat.zero_le _) (by omega))⟩
        · rename_i l h
          cases hs
          replace hc := of_decide_eq_true hc
          exact ⟨_, run_slice_rows ht hd _ _ l.toNat h.toNat (.inr ⟨q, l, rfl, hc.1, rfl⟩) (.inr ⟨q', h, rfl, by omega, rfl⟩) (by omega) (by omega) w, .d (sub_rep hd (by omega) (by omega))⟩
    · cases hs
  · split at hs
    · split at hs
      · rename_i ht
        obtain ⟨sz, ht⟩ := Option.isSome_iff_exists.1 ht
        have hu : u = .slice none 0 0 := by
          cases hv with
          | d h => cases h; rfl
        subst hu
        have hd : RepD fz (.sl sz []) (.slice none 0 0) := .sl (fun _ _ => default) rfl (Nat.le_refl _) (by omega) (fun r hr => by cases hr) (fun h => by omega) (fun i j r d h => by simp at h) (fun i j r d h => by simp at h)
        split at hs
        · rename_i l
          cases hs
          obtain rfl := of_decide_eq_true hc
          exact ⟨_, run_slice_rows ht hd _ _ 0 0 (.inr ⟨q, 0, rfl, Int.le_refl _, rfl⟩) (.inl ⟨rfl, rfl⟩) (Nat.le_refl _) (Nat.le_refl _) w, .d .nil⟩
        · rename_i h
          cases hs
          obtain rfl := of_decide_eq_true hc
          exact ⟨_, run_slice_rows ht hd _ _ 0 0 (.inl ⟨rfl, rfl⟩) (.inr ⟨q', 0, rfl, Int.le_refl _, rfl⟩) (Nat.le_refl _) (Nat.le_refl _) w, .d .nil⟩
        · cases hs
      · cases hs
    · rename_i x _
      split at hs
      · rename_i ht
        have hu := hv.str
        subst hu
        split at hs
        · cases hs
        · rename_i l
          cases hs
          replace hc := of_decide_eq_true hc
          have := run_slice_str (P := P) (x := x) ht (some (.int q l)) none l.toNat x.length (.inr ⟨q, l, rfl, hc.1, rfl⟩) (.inl ⟨rfl, rfl⟩) (by omega) (Nat.le_refl _) w
          rw [List.take_of_length_le (Nat.le_refl _)] at this
          exact ⟨_, this, .d (.s _)⟩
        · rename_i h
          cases hs
          replace hc := of_decide_eq_true hc
          exact ⟨_, run_slice_str ht none (some (.int q' h)) 0 h.toNat (.inl ⟨rfl, rfl⟩) (.inr ⟨q', h, rfl, hc.1, rfl⟩) (by omega) (by omega) w, .d (.s _)⟩
        · rename_i l h
          cases hs
          replace hc := of_decide_eq_true hc
          exact ⟨_, run_slice_str ht (some (.int q l)) (some (.int q' h)) l.toNat h.toNat (.inr ⟨q, l, rfl, hc.1, rfl⟩) (.inr ⟨q', h, rfl, by omega, rfl⟩) (by omega) (by omega) w, .d (.s _)⟩
      · cases hs
    · rename_i k off n _
      split at hs
      · rename_i ht
        cases hv with
        | @ms _ _ _ bb o c hb hnc ho =>
          split at hs
          · cases hs
          · rename_i l
            cases hs
            replace hc := of_decide_eq_true hc
            refine ⟨_, run_slice_any ht hnc _ _ l.toNat n (.inr ⟨q, l, rfl, hc.1, rfl⟩) (.inl ⟨rfl, rfl⟩) (by omega) (Nat.le_refl _) w, ?_⟩
            split
            · exact .ms hb (by omega) fun h0 => by omega
            · rw [Option.map_some, add_off]; exact .ms hb (by omega) fun h0 => by rw [ho (by omega)]; omega
          · rename_i h
            cases hs
            replace hc := of_decide_eq_true hc
            refine ⟨_, run_slice_any ht hnc _ _ 0 h.toNat (.inl ⟨rfl, rfl⟩) (.inr ⟨q', h, rfl, hc.1, rfl⟩) (by omega) (by omega) w, ?_⟩
            split
            · exact .ms hb (by omega) fun h0 => by omega
            · rw [Option.map_some, add_off]; exact .ms hb (by omega) fun h0 => by rw [ho (by omega)]; omega
          · rename_i l h
            cases hs
            replace hc := of_decide_eq_true hc
            refine ⟨_, run_slice_any ht hnc _ _ l.toNat h.toNat (.inr ⟨q, l, rfl, hc.1, rfl⟩) (.inr ⟨q', h, rfl, by omega, rfl⟩) (by omega) (by omega) w, ?_⟩
            split
            · exact .ms hb (by omega) fun h0 => by omega
            · rw [Option.map_some, add_off]; exact .ms hb (by omega) fun h0 => by rw [ho (by omega)]; omega
      · cases hs
    · cases hs
theorem ok_slice1 {t : TypeId} {x y : Operand} {q : IntKind} {l : Int} {v r : V} {c : Bool} (hx : s.ev x = some v) (hy : s.ev y = some (.d (.k q l))) (hs : subV P t v (some l) none = some (c, r)) (hc : c = true) : Ok P s new ⟨dst, .slice t x (some y) none none, type, pos, after, guard⟩ (pu [v, .d (.k q l)] r) :=
  Ok.pure (vals2 (by simp [Op.operands]) hx hy) fun β fz a w hv => by
    have h1 := hv 0 x v (by simp [Op.operands]) rfl
    have h2 := (hv 1 y (.d (.k q l)) (by simp [Op.operands]) rfl).int
    obtain ⟨u, k1, k2⟩ := run_sub h1 hs hc q q w
    exact ⟨u, run_val (sv := Instr.sliceAt t (a.eval x) (some (a.eval y)) none none) rfl (by rw [h2]; exact k1), k2⟩
theorem ok_slice2 {t : TypeId} {x y : Operand} {q : IntKind} {l : Int} {v r : V} {c : Bool} (hx : s.ev x = some v) (hy : s.ev y = some (.d (.k q l))) (hs : subV P t v none (some l) = some (c, r)) (hc : c = true) : Ok P s new ⟨dst, .slice t x none (some y) none, type, pos, after, guard⟩ (pu [v, .d (.k q l)] r) :=
  Ok.pure (vals2 (by simp [Op.operands]) hx hy) fun β fz a w hv => by
    have h1 := hv 0 x v (by simp [Op.operands]) rfl
    have h2 := (hv 1 y (.d (.k q l)) (by simp [Op.operands]) rfl).int
    obtain ⟨u, k1, k2⟩ := run_sub h1 hs hc q q w
    exact ⟨u, run_val (sv := Instr.sliceAt t (a.eval x) none (some (a.eval y)) none) rfl (by rw [h2]; exact k1), k2⟩
theorem ok_slice3 {t : TypeId} {x y z : Operand} {q q' : IntKind} {l h : Int} {v r : V} {c : Bool} (hx : s.ev x = some v) (hy : s.ev y = some (.d (.k q l))) (hz : s.ev z = some (.d (.k q' h))) (hs : subV P t v (some l) (some h) = some (c, r)) (hc : c = true) :
    Ok P s new ⟨dst, .slice t x (some y) (some z) none, type, pos, after, guard⟩ (pu [v, .d (.k q l), .d (.k q' h)] r) :=
  Ok.pure (vals3 (by simp [Op.operands]) hx hy hz) fun β fz a w hv => by
    have h1 := hv 0 x v (by simp [Op.operands]) rfl
    have h2 := (hv 1 y (.d (.k q l)) (by simp [Op.operands]) rfl).int
    have h3 := (hv 2 z (.d (.k q' h)) (by simp [Op.operands]) rfl).int
    obtain ⟨u, k1, k2⟩ := run_sub h1 hs hc q q' w
    exact ⟨u, run_val (sv := Instr.sliceAt t (a.eval x) (some (a.eval y)) (some (a.eval z)) none) rfl (by rw [h2, h3]; exact k1), k2⟩

/-! ### conversions -/
def tik (P : Program) (t : TypeId) : Option IntKind := match P.underlying t with | some (.int k) => some k | _ => none
theorem tik_ok {t : TypeId} {k : IntKind} (h : tik P t = some k) : P.underlying t = some (.int k) := by
  unfold tik at h
  split at h
  · rename_i k' hk; cases h; exact hk
  · cases h
theorem ok_convI {t t' : TypeId} {x : Operand} {q k k' : IntKind} {n : Int} (hx : s.ev x = some (.d (.k q n))) (ht : tik P t = some k) (ht' : tik P t' = some k') (hc : fits k' n) : Ok P s new ⟨dst, .convert t t' x, type, pos, after, guard⟩ (pu [.d (.k q n)] (.d (.k k' n))) :=
  Ok.pure (vals1 rfl hx) fun β fz a w hv => by
    refine ⟨.int k' n, run_val (sv := convert t t' (a.eval x)) rfl ?_, .i _ _ _ _⟩
    rw [(hv 0 x _ rfl rfl).int]
    unfold convert
    simp only [Sem.run_bind, run_underlying (tik_ok ht), run_underlying (tik_ok ht'), Result.andThen_ok, Conv.intToInt, fits_wrap hc]
    rfl

/-! ### make -/
theorem ok_make {t e : TypeId} {x y : Operand} {q q' : IntKind} {n : Int} {z : V} (hx : s.ev x = some (.d (.k q n))) (hy : s.ev y = some (.d (.k q' n))) (hT : apT P t = some (e, 1)) (hz : tz P e = some [z]) (h0 : 0 ≤ n) (hn : n ≤ 1000000) :
    Ok P s new ⟨dst, .makeSlice t x y, type, pos, after, guard⟩ ⟨[.d (.k q n), .d (.k q' n)], [], [], [new], [(new, .cells (List.replicate n.toNat z) e)], .ms new 0 n.toNat⟩ := by
  refine ok_new (vals2 rfl hx hy) fun β fz a w hok hβ hv => ?_
  have h1 := (hv 0 x _ rfl rfl).int
  have h2 := (hv 1 y _ rfl rfl).int
  obtain ⟨i, zz, ht, hi, hzz, hzs, hsz, hby, he⟩ := apT_ok hT
  have hz' : [z] = zz.cells.toList.map constV := by
    unfold tz at hz
    rw [hi] at hz
    simp only [Option.bind_some, hzz, Option.map_some, Option.some.injEq] at hz
    exact hz.symm
  have hb : (i.bytes : Int) * n ≤ 281474976710656 := by
    have : (i.bytes : Int) * n ≤ 100 * 1000000 := Int.mul_le_mul (by omega) hn h0 (by omega)
    omega
  have hr := run_make (P := P) w t e i zz ht hi hzz q q' n n h0 (Int.le_refl _) hb (by omega)
  rw [he, Nat.mul_one] at hr
  obtain ⟨c0, hc0⟩ : ∃ c0, zz.cells = #[c0] := by
    have : zz.cells.size = 1 := by rw [hzs, he]
    exact Array.size_eq_one_iff.1 this
  have hzc : z = constV c0 := by rw [hc0] at hz'; simpa using hz'
  refine ⟨.pointer (some ⟨w.heap.size, 0, none⟩), .slice (some ⟨w.heap.size, 0, none⟩) n.toNat n.toNat, .cells (madeCells zz.cells n.toNat) e, rfl, ?_, ⟨w.heap.size, madeCells zz.cells n.toNat, rfl, heap_alloc_new w _, ⟨by simp [size_madeCells], fun j d u h1 h2 => ?_⟩, fun o => hok.new _ o (Nat.le_refl _)⟩, .ms (upd_same _ _ _) (Nat.le_refl _) fun _ => rfl⟩
  · refine run_val (sv := Instr.makeSlice t (a.eval x) (a.eval y)) rfl ?_
    rw [h1, h2]; exact hr
  · rw [List.getElem?_replicate] at h1
    split at h1
    · rename_i hj
      cases h1
      have : u = c0 := by
        simp only [madeCells, hc0, Array.getElem?_map, Option.map_eq_some_iff] at h2
        obtain ⟨k, _, rfl⟩ := h2
        simp [Nat.mod_one]
      subst this
      rw [hzc]; exact constV_rep _ _ _
    · cases h1

/-! ### interfaces -/
def isIfcT (P : Program) (t : TypeId) : Option Bool := (P.underlying t).map fun d => match d with | .interface _ => true | _ => false
theorem ok_mkIfc {t : TypeId} {x : Operand} {v : V} {d : D} (hx : s.ev x = some v) (hd : v.toD = some d) (ht : isIfcT P t = some false) : Ok P s new ⟨dst, .makeInterface t x, type, pos, after, guard⟩ (pu [v] (.d (.ifc t d))) :=
  Ok.pure (vals1 rfl hx) fun β fz a w hv => by
    refine ⟨.iface t (a.eval x), run_val (sv := Instr.makeInterface t (a.eval x)) rfl ?_, .d (.ifc t (toD_rep v hd (hv 0 x _ rfl rfl)))⟩
    unfold isIfcT at ht
    simp only [Option.map_eq_some_iff] at ht
    obtain ⟨de, h1, h2⟩ := ht
    unfold Instr.makeInterface
    simp only [Sem.run_bind, run_underlying h1, Result.andThen_ok]
    cases de <;> first | rfl | cases h2
theorem ok_assert {t t' tt : TypeId} {x : Operand} {d : D} {zs : List V} (hx : s.ev x = some (.d (.ifc tt d))) (ht : isIfcT P t' = some false) (hz : tz P t' = some zs) : Ok P s new ⟨dst, .typeAssert x t t' true, type, pos, after, guard⟩ (pu [.d (.ifc tt d)] (.tup [if tt = t' then .d d else .u, .d (.b (decide (tt = t')))])) :=
  Ok.pure (vals1 rfl hx) fun β fz a w hv => by
    have h1 := hv 0 x _ rfl rfl
    generalize hu : a.eval x = u at h1
    obtain ⟨z, hz, _⟩ := run_zero' hz w
    unfold isIfcT at ht
    simp only [Option.map_eq_some_iff] at ht
    obtain ⟨de, k1, k2⟩ := ht
    cases h1 with
    | d h1 =>
      cases h1 with
      | @ifc _ _ u h1 =>
        by_cases he : tt = t'
        · subst he
          refine ⟨.tuple #[u, .bool true], run_val (sv := Instr.typeAssert (a.eval x) t tt true) rfl ?_, .tup rfl fun j d' u' a b => ?_⟩
          · rw [hu]
            unfold Instr.typeAssert
            simp only [Sem.run_bind, run_underlying k1, Result.andThen_ok]
            cases de <;> simp at k2 <;> simp [go_sem]
          · match j with
            | 0 => simp at a b; subst a; subst b; exact .d h1
            | 1 => simp at a b; subst a; subst b; exact .d (.b _)
            | j + 2 => simp at a
        · refine ⟨.tuple #[z, .bool false], run_val (sv := Instr.typeAssert (a.eval x) t t' true) rfl ?_, .tup rfl fun j d' u' a b => ?_⟩
          · rw [hu]
            unfold Instr.typeAssert
            simp only [Sem.run_bind, run_underlying k1, Result.andThen_ok]
            cases de <;> simp at k2 <;> simp [he, hz, go_sem]
          · match j with
            | 0 => simp [he] at a b; subst a; exact .u _
            | 1 => simp [he] at a b; subst a; subst b; exact .d (.b _)
            | j + 2 => simp at a
end
end Go.Lm
/- The logical machine: maps whose keys are three whole numbers; strings that are ranged over. -/
set_option linter.constructorNameAsVariable false
namespace Go.Lm
open Go Go.RowKit
def putO (w : World) (b : Nat) (o : Obj) : World := { w with heap := w.heap.setIfInBounds b o }
theorem putO_same {w : World} {b : Nat} {o : Obj} (h : b < w.heap.size) : (putO w b o).heap[b]? = some o := by simp [putO, h]
theorem putO_other {w : World} {b k : Nat} {o : Obj} (h : k ≠ b) : (putO w b o).heap[k]? = w.heap[k]? := by
  simp [putO, Array.getElem?_setIfInBounds_ne (Ne.symm h)]
theorem Post.put {β : Bt} {fz : Fz} {w : World} {own : Nat → Prop} (hok : FzOk fz w) {h b : Nat} {x : Value} {blk blk' : Blk} {ob : Obj} (hβ : β h = some x) (hx : blkOf x = some b) (hown : own b ∧ b < w.heap.size)
    (hf : ∀ o, fz b o = none) (hb : HB β fz (putO w b ob) x blk') {v : V} {u : Value} (hv : RepV β fz v u) :
    Post β fz w own [(h, blk)] [] [(h, blk')] v u β fz (putO w b ob) where
  ble := Bt.Le.refl _
  bnew := fun _ _ => rfl
  fle := Fz.Le.refl _
  ffr := fun _ _ _ _ => rfl
  ok := fun b' o u h => by
    have hne : b' ≠ b := fun e => by rw [e, hf] at h; cases h
    have := hok b' o u h
    simp only [World.cell?, putO_other hne] at this ⊢
    exact this
  os := rfl
  tape := rfl
  output := rfl
  size := by simp [putO]
  frame := fun k hk hn => putO_other fun e => hn ⟨_, List.mem_singleton.2 rfl, _, hβ, by rw [e]; exact hx⟩
  hreps := fun y hy => by
    simp only [List.mem_singleton] at hy
    subst hy
    exact ⟨_, hβ, fun k hk => by rw [hx] at hk; cases hk; exact ⟨hown.1, by simpa [putO] using hown.2⟩, hb⟩
  blks := fun y hy z k h1 h2 => by
    simp only [List.mem_singleton] at hy
    subst hy
    exact .inr ⟨_, List.mem_singleton.2 rfl, z, h1, h2⟩
  inj := fun h h' y y' k ⟨z, hz, e⟩ ⟨z', hz', e'⟩ _ _ _ _ => by
    simp only [List.mem_singleton] at hz hz'
    subst hz; subst hz'
    exact e.symm.trans e'
  v := hv

section
variable {P : Program} {s : LS} {new : Nat} {dst : Option Tmp} {type : TypeId} {pos : String} {after : Array Edge} {guard : Option (Nat × Bool)}
/-- a struct of a whole number and a struct of two -/
def keyT (P : Program) (t : TypeId) : Bool := match P.underlying t with
  | some (.struct fs) => match fs.toList with
    | [f0, f1] => f0.name != "_" && f1.name != "_" && f0.offset == 0 && f1.offset == 1 && isIntT P f0.type && teq2 P f1.type && (tag P f1.type == some true) && (tsz P f1.type == some 2) && !P.stoodInHeld t
    | _ => false
  | _ => false
def kV (a b c : Int) : Value := .agg #[.int .i64 a, .int .i64 b, .int .i64 c]
theorem eq2_at {t : TypeId} (h : teq2 P t = true) (n : Nat) (a b c d : Int) (w : World) : (Op.equalIn (n + 2) t (.agg #[.int .i64 a, .int .i64 b]) (.agg #[.int .i64 c, .int .i64 d])).run P w = .ok (a == c && b == d) w := by
  unfold teq2 at h
  split at h
  · rename_i fs hfs
    split at h
    · rename_i f0 f1 hl
      simp only [Bool.and_eq_true, Bool.not_eq_true', bne_iff_ne, ne_eq, beq_iff_eq] at h
      obtain ⟨⟨⟨⟨⟨⟨⟨n0, n1⟩, o0⟩, o1⟩, i0⟩, i1⟩, st⟩, eg⟩ := h
      have hfo : P.underlying t = some (.struct (P.fieldsOf t)) := by
        rw [hfs]; unfold Program.fieldsOf; rw [hfs]
      have hff : P.fieldsOf t = fs := by unfold Program.fieldsOf; rw [hfs]
      obtain ⟨k0, u0⟩ := isInt_ok i0
      obtain ⟨k1, u1⟩ := isInt_ok i1
      rw [run_equalIn_struct w (n + 1) t _ _ hfo st, hff, hl]
      simp only [Op.eqFields, ne_eq, n0, n1, not_false_eq_true, if_true, Sem.run_bind, Sem.run_ite, o0, o1, part_int i0 #[Value.int .i64 a, .int .i64 b] 0 (.int .i64 a) rfl, part_int i0 #[Value.int .i64 c, .int .i64 d] 0 (.int .i64 c) rfl, Result.andThen_ok,
        run_equalIn_int _ n f0.type .i64 k0 a c u0, part_int i1 #[Value.int .i64 a, .int .i64 b] 1 (.int .i64 b) rfl, part_int i1 #[Value.int .i64 c, .int .i64 d] 1 (.int .i64 d) rfl, run_equalIn_int _ n f1.type .i64 k1 b d u1, Sem.run_pure]
      cases a == c <;> cases b == d <;> rfl
    · cases h
  · cases h
theorem part_two {t : TypeId} (h1 : tag P t = some true) (h2 : tsz P t = some 2) (a b c : Int) (w : World) : (part t #[.int .i64 a, .int .i64 b, .int .i64 c] 1).run P w = .ok (.agg #[.int .i64 b, .int .i64 c]) w := by
  unfold part
  simp only [Sem.run_bind, run_isAgg' h1, Result.andThen_ok, if_true, run_sizeOf' h2]
  rfl
theorem check_int {t : TypeId} (h : isIntT P t = true) (e : Bool) (n : Nat) (q : IntKind) (a : Int) (w : World) : (Instr.checkKey e (n + 1) t (.int q a)).run P w = .ok () w := by
  obtain ⟨k, hk⟩ := isInt_ok h
  unfold Instr.checkKey
  simp only [Sem.run_bind, run_underlying hk, Result.andThen_ok]
  rfl
theorem run_forIn_two {f : Field → Sem (ForInStep PUnit)} {f0 f1 : Field} {fs : Array Field} (hl : fs.toList = [f0, f1]) (w : World) (h0 : (f f0).run P w = .ok (.yield ⟨⟩) w) (h1 : (f f1).run P w = .ok (.yield ⟨⟩) w) :
    (forIn fs PUnit.unit fun x _ => f x : Sem PUnit).run P w = .ok ⟨⟩ w := by
  obtain ⟨l⟩ := fs
  simp only at hl
  subst hl
  simp only [List.forIn_toArray, List.forIn_cons, List.forIn_nil, Sem.run_bind, h0, h1, Result.andThen_ok, Sem.run_pure]
theorem run_getO {r : Nat} {en : Array MapEntry} {ck : Nat} {w : World} (h : w.heap[r]? = some (.map en ck)) : (getObj r).run P w = .ok (.map en ck) w := by simp [getObj, Sem.run, h]
theorem run_setO {r : Nat} {en : Array MapEntry} {ck : Nat} {w : World} (o' : Obj) (h : w.heap[r]? = some (.map en ck)) : (setObj r o').run P w = .ok () (putO w r o') := by simp [setObj, Sem.run, h, putO]
theorem check_two {t : TypeId} (h : teq2 P t = true) (e : Bool) (n : Nat) (a b : Int) (w : World) : (Instr.checkKey e (n + 2) t (.agg #[.int .i64 a, .int .i64 b])).run P w = .ok () w := by
  unfold teq2 at h
  split at h
  · rename_i fs hfs
    split at h
    · rename_i f0 f1 hl
      simp only [Bool.and_eq_true, Bool.not_eq_true', bne_iff_ne, ne_eq, beq_iff_eq] at h
      obtain ⟨⟨⟨⟨⟨⟨⟨n0, n1⟩, o0⟩, o1⟩, i0⟩, i1⟩, st⟩, eg⟩ := h
      unfold Instr.checkKey
      simp only [Sem.run_bind, run_underlying hfs, Result.andThen_ok]
      rw [run_forIn_two (f := _) hl w ?_ ?_]
      · rfl
      · simp only [n0, if_true, ne_eq, not_false_eq_true, Sem.run_bind, o0, part_int i0 #[Value.int .i64 a, .int .i64 b] 0 (.int .i64 a) rfl, Result.andThen_ok, check_int i0, Sem.run_pure]
      · simp only [n1, if_true, ne_eq, not_false_eq_true, Sem.run_bind, o1, part_int i1 #[Value.int .i64 a, .int .i64 b] 1 (.int .i64 b) rfl, Result.andThen_ok, check_int i1, Sem.run_pure]
    · cases h
  · cases h
theorem key_facts {t : TypeId} (h : keyT P t = true) (e : Bool) (a b c : Int) (w : World) : (∃ fs, P.underlying t = some (.struct fs)) ∧ (Instr.checkKey e 10000 t (kV a b c)).run P w = .ok () w ∧
    ∀ x y z : Int, (Op.equal t (kV a b c) (kV x y z)).run P w = .ok (decide (a = x ∧ b = y ∧ c = z)) w := by
  unfold keyT at h
  split at h
  · rename_i fs hfs
    split at h
    · rename_i f0 f1 hl
      simp only [Bool.and_eq_true, Bool.not_eq_true', bne_iff_ne, ne_eq, beq_iff_eq] at h
      obtain ⟨⟨⟨⟨⟨⟨⟨⟨n0, n1⟩, o0⟩, o1⟩, i0⟩, t1⟩, tg⟩, ts⟩, st⟩ := h
      refine ⟨⟨fs, hfs⟩, ?_, fun x y z => ?_⟩
      · unfold Instr.checkKey kV
        simp only [Sem.run_bind, run_underlying hfs, Result.andThen_ok]
        rw [run_forIn_two (f := _) hl w ?_ ?_]
        · rfl
        · simp only [n0, if_true, ne_eq, not_false_eq_true, Sem.run_bind, o0, part_int i0 #[Value.int .i64 a, .int .i64 b, .int .i64 c] 0 (.int .i64 a) rfl, Result.andThen_ok, check_int i0, Sem.run_pure]
        · simp only [n1, if_true, ne_eq, not_false_eq_true, Sem.run_bind, o1, part_two tg ts, Result.andThen_ok, check_two t1, Sem.run_pure]
      · have hfo : P.underlying t = some (.struct (P.fieldsOf t)) := by
          rw [hfs]; unfold Program.fieldsOf; rw [hfs]
        have hff : P.fieldsOf t = fs := by unfold Program.fieldsOf; rw [hfs]
        obtain ⟨k0, u0⟩ := isInt_ok i0
        unfold Op.equal Op.maxDepth kV
        rw [run_equalIn_struct w 9999 t _ _ hfo st, hff, hl]
        simp only [Op.eqFields, ne_eq, n0, n1, not_false_eq_true, if_true, Sem.run_bind, Sem.run_ite, o0, o1, part_int i0 #[Value.int .i64 a, .int .i64 b, .int .i64 c] 0 (.int .i64 a) rfl, part_int i0 #[Value.int .i64 x, .int .i64 y, .int .i64 z] 0 (.int .i64 x) rfl, Result.andThen_ok,
          run_equalIn_int _ 9998 f0.type .i64 k0 a x u0, part_two tg ts, eq2_at t1 9997, Sem.run_pure]
        by_cases h1 : a = x <;> by_cases h2 : b = y <;> by_cases h3 : c = z <;> simp [h1, h2, h3] <;> rfl
    · cases h
  · cases h
def midx (a b c : Int) : List (D × D) → Option (Option Nat)
  | [] => some none
  | (.agg [.k .i64 x, .k .i64 y, .k .i64 z], _) :: r => match decide (a = x ∧ b = y ∧ c = z) with
    | true => some (some 0)
    | false => (midx a b c r).map (·.map (· + 1))
  | _ => none
def three (v : V) : Option (Int × Int × Int) := match aggV v with
  | some [.d (.k .i64 a), .d (.k .i64 b), .d (.k .i64 c)] => some (a, b, c)
  | _ => none
theorem three_ok {β : Bt} {fz : Fz} {v : V} {a b c : Int} {u : Value} (h : RepV β fz v u) (ht : three v = some (a, b, c)) : u = kV a b c := by
  unfold three at ht
  split at ht
  · rename_i a' b' c' hc
    cases ht
    obtain ⟨us, rfl, hl, hr⟩ := aggV_ok h hc
    obtain ⟨us⟩ := us
    match us, hl with
    | [x, y, z], _ =>
      have h1 := (hr 0 _ x rfl rfl).int
      have h2 := (hr 1 _ y rfl rfl).int
      have h3 := (hr 2 _ z rfl rfl).int
      subst h1; subst h2; subst h3
      rfl
  · cases ht
theorem kD_ok {fz : Fz} {x y z : Int} {u : Value} (h : RepD fz (.agg [.k .i64 x, .k .i64 y, .k .i64 z]) u) : u = kV x y z := three_ok (β := fun _ => none) (v := .d (.agg [.k .i64 x, .k .i64 y, .k .i64 z])) (.d h) rfl
def PRep (fz : Fz) (es : List (D × D)) (en : List MapEntry) : Prop := en.length = es.length ∧ ∀ (j : Nat) (d : D × D) (e : MapEntry), es[j]? = some d → en[j]? = some e → RepD fz d.1 e.key ∧ RepD fz d.2 e.val
def Fnd (P : Program) (fz : Fz) (w : World) (es : List (D × D)) (en : List MapEntry) (k : Value) (f : Sem (Option (Nat × Value))) (i : Nat) : Option Nat → Prop
  | none => f.run P w = .ok none w
  | some j => ∃ e d, en[j]? = some e ∧ es[j]? = some d ∧ e.key = k ∧ RepD fz d.2 e.val ∧ f.run P w = .ok (some (i + j, e.val)) w
theorem asking_ok {fz : Fz} {t : TypeId} (h : keyT P t = true) (a b c : Int) (w : World) : ∀ (es : List (D × D)) (en : List MapEntry) (i : Nat) (r : Option Nat), PRep fz es en → midx a b c es = some r →
    Fnd P fz w es en (kV a b c) (Instr.findAsking t (kV a b c) en i) i r := by
  intro es
  induction es with
  | nil =>
    intro en i r hp hm
    simp only [midx, Option.some.injEq] at hm
    subst hm
    have : en = [] := List.eq_nil_of_length_eq_zero hp.1
    subst this
    rfl
  | cons x es ih =>
    intro en i r hp hm
    cases en with
    | nil => have := hp.1; simp at this
    | cons e en =>
      obtain ⟨hl, hp'⟩ := hp
      have h0 := hp' 0 x e rfl rfl
      have htl : PRep fz es en := ⟨by simpa using hl, fun j d e h1 h2 => hp' (j + 1) d e (by simpa using h1) (by simpa using h2)⟩
      unfold midx at hm
      split at hm
      · rename_i heq; cases heq
      · rename_i x' y' z' dv r' heq
        cases heq
        have hk := kD_ok h0.1
        have heq := (key_facts h false a b c w).2.2 x' y' z'
        split at hm
        · rename_i hd
          cases hm
          have hd := of_decide_eq_true hd
          refine ⟨e, _, rfl, rfl, by rw [hk, hd.1, hd.2.1, hd.2.2], h0.2, ?_⟩
          simp only [Instr.findAsking, Sem.run_bind, hk, heq, Result.andThen_ok, decide_eq_true hd, if_true]
          rfl
        · rename_i hd
          simp only [Option.map_eq_some_iff] at hm
          obtain ⟨r0, hm, rfl⟩ := hm
          have := ih en (i + 1) r0 htl hm
          cases r0 with
          | none =>
            simp only [Fnd, Option.map_none, Instr.findAsking, Sem.run_bind, hk, heq, Result.andThen_ok, hd, Bool.false_eq_true, if_false]
            exact this
          | some j =>
            obtain ⟨e', d', k1, k2, k3, k4, k5⟩ := this
            refine ⟨e', d', by simpa using k1, by simpa using k2, k3, k4, ?_⟩
            simp only [Instr.findAsking, Sem.run_bind, hk, heq, Result.andThen_ok, hd, Bool.false_eq_true, if_false]
            rw [k5]
            congr 3
            omega
      · cases hm
theorem find_ok {fz : Fz} {t : TypeId} (h : keyT P t = true) (a b c : Int) (w : World) (es : List (D × D)) (en : List MapEntry) (r : Option Nat) (hp : PRep fz es en) (hm : midx a b c es = some r) :
    Fnd P fz w es en (kV a b c) (Instr.findKey t (kV a b c) en) 0 r := by
  obtain ⟨⟨fs, hfs⟩, _⟩ := key_facts h false a b c w
  have key := asking_ok h a b c w es en 0 r hp hm
  have hrun : (Instr.findKey t (kV a b c) en).run P w = (Instr.findAsking t (kV a b c) en 0).run P w := by
    unfold Instr.findKey
    simp only [Sem.run_bind, run_underlying hfs, Result.andThen_ok]
    cases en with
    | nil => rfl
    | cons e en =>
      have : Instr.findNow (.struct fs) (kV a b c) (e :: en) 0 = none := by
        unfold Instr.findNow Instr.sameNow
        rfl
      rw [this]
  cases r with
  | none => exact hrun.trans key
  | some j =>
    obtain ⟨e, d, k1, k2, k3, k4, k5⟩ := key
    exact ⟨e, d, k1, k2, k3, k4, hrun.trans k5⟩

/-- a map's key and element -/
def mke (P : Program) (t : TypeId) : Option (TypeId × TypeId) := match P.underlying t with
  | some (.map k e) => if keyT P k then some (k, e) else none
  | _ => none
theorem mke_ok {t k e : TypeId} (h : mke P t = some (k, e)) : P.underlying t = some (.map k e) ∧ keyT P k = true := by
  unfold mke at h
  split at h
  · split at h
    · rename_i h1 h2; cases h; exact ⟨h1, h2⟩
    · cases h
  · cases h
theorem ok_makeMap {t : TypeId} : Ok P s new ⟨dst, .makeMap t none, type, pos, after, guard⟩ ⟨[], [], [], [new], [(new, .imap [])], .h new⟩ := by
  refine ok_new ⟨rfl, fun j x v h => by simp [Op.operands] at h⟩ fun β fz a w hok hβ hv => ?_
  refine ⟨.map (some w.heap.size), .map (some w.heap.size), .map #[] 0, rfl, ?_, ⟨w.heap.size, #[], 0, rfl, heap_alloc_new w _, fun o => hok.new _ o (Nat.le_refl _), rfl, fun j d e h => by simp at h⟩, .h (upd_same _ _ _)⟩
  refine run_val (sv := Instr.makeMap t none) rfl ?_
  rfl
theorem imap_of {β : Bt} {fz : Fz} {w : World} {own : Nat → Prop} {h : Nat} {es : List (D × D)} {u : Value} (hh : HRep β fz w own h (.imap es)) (hu : RepV β fz (.h h) u) :
    ∃ b en ck, u = .map (some b) ∧ w.heap[b]? = some (.map en ck) ∧ (∀ o, fz b o = none) ∧ PRep fz es en.toList ∧ own b ∧ b < w.heap.size ∧ β h = some u := by
  obtain ⟨x, h1, h2, b, en, ck, rfl, h3, h4, h5, h6⟩ := hh
  cases hu with
  | h hb =>
    rw [h1] at hb; cases hb
    exact ⟨b, en, ck, rfl, h3, h4, ⟨by simpa using h5, fun j d e p q => h6 j d e p (by simpa using q)⟩, (h2 b rfl).1, (h2 b rfl).2, h1⟩
def lkV (es : List (D × D)) : Option Nat → V
  | some j => .d (es.getD j default).2
  | none => .u
theorem ok_lookup {t k e : TypeId} {x y : Operand} {h : Nat} {es : List (D × D)} {v : V} {a b c : Int} {r : Option Nat} {zs : List V} (hx : s.ev x = some (.h h)) (hy : s.ev y = some v) (hb : s.blk h = some (.imap es)) (hm : mke P t = some (k, e)) (hz : tz P e = some zs)
    (h3 : three v = some (a, b, c)) (hr : midx a b c es = some r) :
    Ok P s new ⟨dst, .lookup t x y true, type, pos, after, guard⟩ ⟨[.h h, v], [(h, .imap es)], [], [], [], .tup [lkV es r, .d (.b r.isSome)]⟩ :=
  ok_rd (vals2 rfl hx hy) hb fun β fz own ac w hh hv => by
    obtain ⟨m, en, ck, h1, h2, h4, h5, _, _, _⟩ := imap_of hh (hv 0 x _ rfl rfl)
    have hk := three_ok (hv 1 y _ rfl rfl) h3
    obtain ⟨m1, m2⟩ := mke_ok hm
    obtain ⟨z, hz, _⟩ := run_zero' hz w
    have hf := find_ok m2 a b c w es en.toList r h5 hr
    have hck := fun p => (key_facts m2 p a b c w).2.1
    cases r with
    | none =>
      refine ⟨.tuple #[z, .bool false], run_val (sv := Instr.lookup t (ac.eval x) (ac.eval y) true) rfl ?_, .tup rfl fun j d' u' p q => ?_⟩
      · rw [h1, hk]
        unfold Instr.lookup
        simp only [Sem.run_bind, run_underlying m1, Result.andThen_ok, run_getO h2, Sem.run_pure, hck, show (Instr.findKey k (kV a b c) en.toList).run P w = .ok none w from hf, hz, if_true]
      · match j with
        | 0 => simp at p q; subst p; exact .u _
        | 1 => simp at p q; subst p; subst q; exact .d (.b _)
        | j + 2 => simp at p
    | some j =>
      obtain ⟨e', d, k1, k2, k3, k4, k5⟩ := hf
      refine ⟨.tuple #[e'.val, .bool true], run_val (sv := Instr.lookup t (ac.eval x) (ac.eval y) true) rfl ?_, .tup rfl fun j' d' u' p q => ?_⟩
      · rw [h1, hk]
        unfold Instr.lookup
        simp only [Sem.run_bind, run_underlying m1, Result.andThen_ok, run_getO h2, Sem.run_pure, hck, k5, if_true]
      · match j' with
        | 0 =>
          simp at p q; subst p; subst q
          have : (es[j]?.getD default) = d := by rw [k2]; rfl
          simp only [lkV, List.getD_eq_getElem?_getD, this] at *
          exact .d k4
        | 1 => simp at p q; subst p; subst q; exact .d (.b _)
        | j + 2 => simp at p
def kD (a b c : Int) : D := .agg [.k .i64 a, .k .i64 b, .k .i64 c]
def mset (es : List (D × D)) (a b c : Int) (d : D) : Option Nat → List (D × D)
  | some j => es.set j (kD a b c, d)
  | none => es ++ [(kD a b c, d)]
theorem kD_rep (fz : Fz) (a b c : Int) : RepD fz (kD a b c) (kV a b c) := .agg rfl fun j d u p q => by
  match j with
  | 0 => simp at p q; subst p; subst q; exact .k _ _
  | 1 => simp at p q; subst p; subst q; exact .k _ _
  | 2 => simp at p q; subst p; subst q; exact .k _ _
  | j + 3 => simp at p
theorem ok_mapUpdate {t k e : TypeId} {x y z : Operand} {h : Nat} {es : List (D × D)} {v vz : V} {d : D} {a b c : Int} {r : Option Nat} (hx : s.ev x = some (.h h)) (hy : s.ev y = some v) (hz : s.ev z = some vz) (hb : s.blk h = some (.imap es)) (hm : mke P t = some (k, e))
    (h3 : three v = some (a, b, c)) (hd : vz.toD = some d) (hr : midx a b c es = some r) :
    Ok P s new ⟨dst, .mapUpdate t x y z, type, pos, after, guard⟩ ⟨[.h h, v, vz], [], [(h, .imap es)], [], [(h, .imap (mset es a b c d r))], .u⟩ := by
  obtain ⟨v1, v2⟩ := vals3 (ops := (Op.mapUpdate t x y z).operands) rfl hx hy hz
  refine ⟨?_, v1, v2, (fun x hx => by cases hx), (fun x hx => by simp at hx; subst hx; exact hb), (fun x hx => by cases hx), (fun x hx => .inr ⟨_, List.mem_singleton.2 rfl, by simp at hx; subst hx; rfl⟩)⟩
  intro β fz own ac w hok hown _ hhp _ _ _ hv next Q hnn
  have hh := hhp _ (List.mem_singleton.2 rfl)
  obtain ⟨m, en, ck, h1, h2, h4, h5, hob, hlt, hβ⟩ := imap_of hh (hv 0 x _ rfl rfl)
  have hk := three_ok (hv 1 y _ rfl rfl) h3
  have hvz := toD_rep vz hd (hv 2 z vz rfl rfl)
  obtain ⟨m1, m2⟩ := mke_ok hm
  have hf := find_ok m2 a b c w es en.toList r h5 hr
  have hck := fun p => (key_facts m2 p a b c w).2.1
  have fin : ∀ (en' : Array MapEntry) (ck' : Nat), (Instr.mapUpdate t (ac.eval x) (ac.eval y) (ac.eval z)).run P w = .ok () (putO w m (.map en' ck')) → PRep fz (mset es a b c d r) en'.toList → Oper.wp P ⟨dst, .mapUpdate t x y z, type, pos, after, guard⟩ ac w next Q := fun en' ck' hrun hp => by
    have hr : (execOp ac.eval ⟨dst, .mapUpdate t x y z, type, pos, after, guard⟩).run P w = .ok .skip (putO w m (.map en' ck')) := by
      show (do Instr.mapUpdate t (ac.eval x) (ac.eval y) (ac.eval z); pure Next.skip : Sem Next).run P w = _
      simp only [Sem.run_bind, hrun, Result.andThen_ok]
      rfl
    unfold Oper.wp
    rw [hr, Oper.upon_skip]
    rw [h1] at hβ
    have hB : HB β fz (putO w m (.map en' ck')) (.map (some m)) (.imap (mset es a b c d r)) := ⟨m, en', ck', rfl, putO_same hlt, h4, by simpa using hp.1, fun j d e p q => hp.2 j d e p (by simpa using q)⟩
    exact hnn _ _ _ _ (Post.put hok hβ rfl ⟨hob, hlt⟩ h4 hB (.u _))
  have huw : ∀ o, ({ w with heap := w.heap.setIfInBounds m o } : World) = putO w m o := fun _ => rfl
  cases r with
  | none =>
    refine fin (en.push { key := kV a b c, val := ac.eval z, born := ck }) (ck + 1) ?_ ⟨by simp [mset, h5.1], fun j d' e' p q => ?_⟩
    · rw [h1, hk]
      unfold Instr.mapUpdate
      simp only [Sem.run_bind, run_underlying m1, Result.andThen_ok, run_getO h2, hck, show (Instr.findKey k (kV a b c) en.toList).run P w = .ok none w from hf, run_setO _ h2]
    · have hl := h5.1
      simp only [Array.toList_push] at q
      simp only [mset] at p
      by_cases hj : j < es.length
      · rw [List.getElem?_append_left hj] at p
        rw [List.getElem?_append_left (by omega)] at q
        exact h5.2 j d' e' p q
      · rw [List.getElem?_append_right (by omega)] at p
        rw [List.getElem?_append_right (by omega), hl] at q
        match hjj : j - es.length with
        | 0 =>
          rw [hjj] at p q
          simp at p q; subst p; subst q
          exact ⟨kD_rep fz a b c, hvz⟩
        | i + 1 => rw [hjj] at p; simp at p
  | some i =>
    obtain ⟨e', d0, k1, k2, k3, k4, k5⟩ := hf
    refine fin (en.modify i fun e => { e with key := kV a b c, val := ac.eval z }) ck ?_ ⟨by simp [mset, h5.1], fun j d' e'' p q => ?_⟩
    · rw [h1, hk]
      have hst : (Instr.keyThatStays (((en[i]?).map (·.key)).getD (kV a b c)) (kV a b c)).run P w = .ok (kV a b c) w := by
        have : en[i]? = some e' := by simpa using k1
        rw [this]
        simp only [Option.map_some, Option.getD_some, k3]
        unfold Instr.keyThatStays
        have : Instr.sameBits 10000 (kV a b c) (kV a b c) = true := by simp [kV, Instr.sameBits]
        rw [this]
        rfl
      unfold Instr.mapUpdate
      simp only [Sem.run_bind, run_underlying m1, Result.andThen_ok, run_getO h2, hck, k5, hst, Nat.zero_add, run_setO _ h2]
    · rw [Array.toList_modify] at q
      simp only [mset] at p
      rw [List.getElem?_set] at p
      rw [List.getElem?_modify] at q
      by_cases hj : i = j
      · subst hj
        rw [if_pos rfl] at p
        split at p
        · cases p
          rw [k1] at q
          simp only [if_true] at q
          cases q
          exact ⟨kD_rep fz a b c, hvz⟩
        · cases p
      · rw [if_neg hj] at p
        simp only [if_neg hj] at q
        have q : en.toList[j]? = some e'' := by
          cases hq : en.toList[j]? with
          | none => rw [hq] at q; cases q
          | some y => rw [hq] at q; exact q
        exact h5.2 j d' e'' p q
end
end Go.Lm
