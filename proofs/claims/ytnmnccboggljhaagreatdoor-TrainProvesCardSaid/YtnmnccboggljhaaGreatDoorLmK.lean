/- The logical machine: rows of one's own: append, whole slices, parts of slices. -/
import Derived.Test.YtnmnccboggljhaaGreatDoorLmJ
set_option linter.constructorNameAsVariable false
namespace Go.Lm
open Go Go.RowKit

/-- what an append leaves: in place, or anew -/
def Stays (w w' : World) (v v' : Value) : Prop := (v'.ownBlock = v.ownBlock ∧ w.grownBy w' v.ownBlock) ∨ (v'.ownBlock = some w.heap.size ∧ w.grownBy w' none)
section
variable {P : Program}
theorem app_run {w : World} {t ty e : TypeId} {i : TypeInfo} {z : Value} (ht : P.underlying t = some (.slice e)) (hi : P.info? e = some i) (hz : i.zero = some z) (hzs : z.cells.size = i.size) (hsz : 0 < i.size)
    {v : Value} {n : Nat} {xs : List Value} (hown : w.ownsRow 0 e i.size v n xs) {a : Addr} {m c : Nat} {news : List Value} (hl : news.length = m * i.size) (hnews : ∀ (j : Nat) (u : Value), news[j]? = some u → w.cell? (a.add j) = some u) (h1 : ∀ u ∈ news, u.oneCell' = true)
    (h63 : n + m ≤ 1000000) (hb : i.bytes ≤ 100) :
    ∃ v' w', (Builtin.append_ #[t, t] ty #[v, .slice (some a) m c]).run P w = .ok v' w' ∧ w'.ownsRow 0 e i.size v' (n + m) (xs ++ news) ∧ Stays w w' v v' := by
  have hbytes : (n + m) * i.bytes ≤ 140737488355328 := Nat.le_trans (Nat.mul_le_mul h63 hb) (by decide)
  obtain ⟨v', w', hr, ho, hg, _, hblk⟩ := run_append_own_at (P := P) w 0 t ty e i z i.size i.bytes ht hi hz rfl rfl hzs hsz v n xs hown a m c news hl hnews h1 (by unfold maxLen; omega) hbytes (Nat.zero_le _)
  refine ⟨v', w', hr, ho, ?_⟩
  rcases hblk with hblk | hblk
  · exact .inl ⟨hblk, hg⟩
  · rcases hown.2 with ⟨rfl, rfl⟩ | ⟨g, cap, cur, rfl, hbg, hgg, hnc, hcm, hcs, htake⟩
    · exact .inr ⟨hblk, hg⟩
    · by_cases hroom : n + m ≤ cap
      · have hfit : n * i.size + news.length ≤ cur.size := by rw [hl, hcs, ← Nat.add_mul]; exact Nat.mul_le_mul_right _ hroom
        have hr2 := run_append_room (P := P) w t ty e i ht hi g n cap cur hgg a m c news hl hnews h1 hroom hfit
        rw [hr] at hr2
        cases hr2
        exact .inl ⟨rfl, hg⟩
      · have holds := hown.cells (g := g) rfl
        have hr2 := run_append_grow (P := P) w t ty e i z ht hi hz ⟨g, 0, none⟩ n cap xs hown.1 holds a m c news hl hnews (by omega) (by omega) (growslice_fits (by omega) hbytes)
        rw [hr] at hr2
        cases hr2
        exact .inr ⟨rfl, rfl, rfl, rfl, by simp, fun k hk _ => Below.heap_alloc w.drew _ k hk⟩
theorem app_run0 {w : World} {t ty e : TypeId} {i : TypeInfo} (ht : P.underlying t = some (.slice e)) (hi : P.info? e = some i) {v : Value} {n : Nat} {xs : List Value} (hown : w.ownsRow 0 e i.size v n xs) {c : Nat} :
    (Builtin.append_ #[t, t] ty #[v, .slice none 0 c]).run P w = .ok v w := by
  rcases hown.2 with ⟨rfl, rfl⟩ | ⟨g, cap, cur, rfl, hbg, hgg, hnc, hcm, hcs, htake⟩
  · simp [Builtin.append_, run_underlying ht, sizeOf, typeInfo, hi, Builtin.lenOf, Builtin.firstCells, go_sem]
  · simp [Builtin.append_, run_underlying ht, sizeOf, typeInfo, hi, Builtin.lenOf, Builtin.firstCells, hnc, storeCells, go_sem]
end

/-- the cells of the rows -/
def CellsOf (fz : Fz) (sz : Nat) (rows : List (List D)) (xs : List Value) : Prop := (∀ r ∈ rows, r.length = sz) ∧ xs.length = rows.length * sz ∧ ∀ (i j : Nat) (r : List D) (d : D), rows[i]? = some r → r[j]? = some d → ∃ u, xs[i * sz + j]? = some u ∧ RepD fz d u ∧ u.oneCell' = true
theorem row_lt {sz i j n : Nat} (hi : i < n) (hj : j < sz) : i * sz + j < n * sz := by
  have : (i + 1) * sz ≤ n * sz := Nat.mul_le_mul_right _ hi
  rw [Nat.succ_mul] at this
  omega
theorem own_cells {fz : Fz} {w : World} {e : TypeId} {sz n : Nat} {rows : List (List D)} {v : Value} {xs : List Value} (hok : FzOk fz w) (hr : RepD fz (.sl sz rows) v) (ho : w.ownsRow 0 e sz v n xs) : n = rows.length ∧ CellsOf fz sz rows xs := by
  cases hr with
  | @sl A m c _ _ g hm hc hmm hsz hA h1 hg =>
    have hn : n = m := by
      rcases ho.2 with ⟨h, h'⟩ | ⟨b, cap, cur, h, _⟩
      · cases h; exact h'
      · cases h; rfl
    subst hn
    refine ⟨hm.symm, hsz, by rw [ho.1, hm], fun i j r d hi hj => ⟨g i j, ?_, hg i j r d hi hj, h1 i j r d hi hj⟩⟩
    have hin : i < n := by rw [← hm]; exact (List.getElem?_eq_some_iff.1 hi).1
    have hjn : j < sz := by rw [← hsz r (List.mem_of_getElem? hi)]; exact (List.getElem?_eq_some_iff.1 hj).1
    obtain ⟨b, off, rfl, hA2⟩ := hA (by omega)
    have hcell := hok _ _ _ (hA2 i j hin hjn)
    rcases ho.2 with ⟨h, h'⟩ | ⟨b', cap, cur, h, _⟩
    · cases h
    · cases h
      have hlt : i * sz + j < xs.length := by rw [ho.1]; exact row_lt hin hjn
      have := ho.cells (g := b) rfl (i * sz + j) _ (List.getElem?_eq_getElem hlt)
      rw [add_off] at this
      simp only [Nat.zero_add] at this hcell
      rw [hcell] at this
      rw [List.getElem?_eq_getElem hlt]
      exact this.symm
theorem src_cells {fz : Fz} {w : World} {sz : Nat} {rows : List (List D)} {v : Value} (hok : FzOk fz w) (hr : RepD fz (.sl sz rows) v) (hsz0 : 0 < sz) :
    ∃ A m c xs, v = .slice A m c ∧ m = rows.length ∧ CellsOf fz sz rows xs ∧ (∀ u ∈ xs, u.oneCell' = true) ∧ (m = 0 → xs = []) ∧ ∀ a, A = some a → ∀ (j : Nat) (u : Value), xs[j]? = some u → w.cell? (a.add j) = some u := by
  cases hr with
  | @sl A m c _ _ g hm hc hmm hsz hA h1 hg =>
    have hix : ∀ j, j < m * sz → j / sz < m ∧ j % sz < sz := fun j hj => ⟨(Nat.div_lt_iff_lt_mul hsz0).2 hj, Nat.mod_lt _ hsz0⟩
    have hrow : ∀ i j, i < m → j < sz → ∃ r d, rows[i]? = some r ∧ r[j]? = some d := fun i j hi hj => by
      have h1 : i < rows.length := by omega
      have h2 : j < rows[i].length := by rw [hsz _ (List.getElem_mem h1)]; exact hj
      exact ⟨_, _, List.getElem?_eq_getElem h1, List.getElem?_eq_getElem h2⟩
    refine ⟨A, m, c, (List.range (m * sz)).map fun j => g (j / sz) (j % sz), rfl, hm.symm, ⟨hsz, by simp [hm], fun i j r d hi hj => ⟨g i j, ?_, hg i j r d hi hj, h1 i j r d hi hj⟩⟩, ?_, fun h0 => by simp [h0], ?_⟩
    · have hin : i < m := by rw [← hm]; exact (List.getElem?_eq_some_iff.1 hi).1
      have hjn : j < sz := by rw [← hsz r (List.mem_of_getElem? hi)]; exact (List.getElem?_eq_some_iff.1 hj).1
      rw [List.getElem?_map, List.getElem?_range (row_lt hin hjn)]
      have e1 : (i * sz + j) / sz = i := by rw [Nat.mul_comm, Nat.mul_add_div hsz0, Nat.div_eq_of_lt hjn, Nat.add_zero]
      have e2 : (i * sz + j) % sz = j := by rw [Nat.mul_comm, Nat.mul_add_mod, Nat.mod_eq_of_lt hjn]
      simp [e1, e2]
    · intro u hu
      obtain ⟨j, hj, rfl⟩ := List.mem_map.1 hu
      have hj' := hix j (List.mem_range.1 hj)
      obtain ⟨r, d, k1, k2⟩ := hrow _ _ hj'.1 hj'.2
      exact h1 _ _ r d k1 k2
    · rintro a rfl j u hu
      rw [List.getElem?_map, Option.map_eq_some_iff] at hu
      obtain ⟨j', hj', rfl⟩ := hu
      have hlt : j < m * sz := by
        have := (List.getElem?_eq_some_iff.1 hj').1
        simpa using this
      rw [List.getElem?_range hlt] at hj'
      cases hj'
      have hj' := hix j hlt
      have hm0 : 0 < m := Nat.pos_of_ne_zero fun h => by rw [h] at hlt; simp at hlt
      obtain ⟨b, off, e, hA2⟩ := hA hm0
      cases e
      rw [add_off]
      have := hok _ _ _ (hA2 _ _ hj'.1 hj'.2)
      rwa [Nat.add_assoc, show j / sz * sz + j % sz = j by rw [Nat.mul_comm]; exact Nat.div_add_mod j sz] at this
theorem CellsOf.append {fz : Fz} {sz : Nat} {rows rows2 : List (List D)} {xs ys : List Value} (h : CellsOf fz sz rows xs) (k : CellsOf fz sz rows2 ys) : CellsOf fz sz (rows ++ rows2) (xs ++ ys) := by
  refine ⟨fun r hr => (List.mem_append.1 hr).elim (h.1 r) (k.1 r), by rw [List.length_append, List.length_append, h.2.1, k.2.1, Nat.add_mul], fun i j r d hi hj => ?_⟩
  by_cases hlt : i < rows.length
  · rw [List.getElem?_append_left hlt] at hi
    obtain ⟨u, h1, h2⟩ := h.2.2 i j r d hi hj
    exact ⟨u, by rw [List.getElem?_append_left (List.getElem?_eq_some_iff.1 h1).1]; exact h1, h2⟩
  · rw [List.getElem?_append_right (by omega)] at hi
    obtain ⟨u, h1, h2⟩ := k.2.2 _ j r d hi hj
    refine ⟨u, ?_, h2⟩
    have e : i * sz + j = xs.length + ((i - rows.length) * sz + j) := by
      rw [h.2.1, ← Nat.add_assoc, ← Nat.add_mul, Nat.add_sub_cancel' (by omega)]
    rw [e, List.getElem?_append_right (by omega), Nat.add_sub_cancel_left]
    exact h1
theorem CellsOf.mono {fz fz' : Fz} (hf : Fz.Le fz fz') {sz : Nat} {rows : List (List D)} {xs : List Value} (h : CellsOf fz sz rows xs) : CellsOf fz' sz rows xs :=
  ⟨h.1, h.2.1, fun i j r d a b => let ⟨u, h1, h2, h3⟩ := h.2.2 i j r d a b; ⟨u, h1, h2.mono hf, h3⟩⟩

def fzAdd (fz : Fz) (v' : Value) (xs : List Value) : Fz := fun b o => if v'.ownBlock = some b ∧ o < xs.length then xs[o]? else fz b o
/-- a row of one's own that has grown, or is new -/
theorem Post.row {β : Bt} {fz : Fz} {w w' : World} {own : Nat → Prop} (hok : FzOk fz w) (hown : ∀ k, w.heap.size ≤ k → own k) {new : Nat} (hβ : β new = none) {hp : List (Nat × Blk)} {e : TypeId} {sz n : Nat} {rows : List (List D)} {v v' : Value} {xs ys : List Value}
    (ho : w'.ownsRow 0 e sz v' n ys) (hr : CellsOf fz sz rows ys) (hn : n = rows.length) (hm : n ≤ 1000000) (hst : Stays w w' v v')
    (hold : ∀ b, v.ownBlock = some b → BlkIn β hp b ∧ own b ∧ b < w.heap.size ∧ (∀ o, xs.length ≤ o → fz b o = none) ∧ ∀ (o : Nat) (u : Value), w.cell? ⟨b, o, none⟩ = some u → o < xs.length → xs[o]? = some u) (hpre : ∃ news, ys = xs ++ news) :
    Post β fz w own hp [new] [(new, .tail n sz e)] (.own new sz rows) v' (upd β new v') (fzAdd fz v' ys) w' := by
  have hys : ys.length = n * sz := ho.1
  have hfle : Fz.Le fz (fzAdd fz v' ys) := fun b o u hu => by
    unfold fzAdd
    split
    · rename_i hc
      obtain ⟨hb, hlt⟩ := hc
      rcases hst with ⟨hs, _⟩ | ⟨hs, _⟩
      · rw [hs] at hb
        obtain ⟨_, _, _, k1, k2⟩ := hold b hb
        obtain ⟨news, rfl⟩ := hpre
        by_cases hx : o < xs.length
        · rw [List.getElem?_append_left hx]
          exact k2 o u (hok _ _ _ hu) hx
        · rw [k1 o (by omega)] at hu; cases hu
      · rw [hs] at hb; cases hb
        rw [hok.new _ o (Nat.le_refl _)] at hu; cases hu
    · exact hu
  have hrow : ∀ b, v'.ownBlock = some b → ∀ o, o < ys.length → w'.cell? ⟨b, o, none⟩ = ys[o]? := fun b hb o hlt => by
    have := ho.cells hb o _ (List.getElem?_eq_getElem hlt)
    rw [add_off] at this
    simp only [Nat.zero_add] at this
    rw [this, List.getElem?_eq_getElem hlt]
  have hgsize : w.heap.size ≤ w'.heap.size := by rcases hst with ⟨_, h⟩ | ⟨_, h⟩ <;> exact h.size
  have hframe : ∀ b, b < w.heap.size → v'.ownBlock ≠ some b → w'.heap[b]? = w.heap[b]? := fun b hb hne => by
    rcases hst with ⟨hs, h⟩ | ⟨hs, h⟩
    · exact h.block b hb fun e => hne (hs.trans e.symm)
    · exact h.block b hb (by simp)
  have hblk : ∀ b, v'.ownBlock = some b → (own b ∧ b < w'.heap.size) ∧ (w.heap.size ≤ b ∨ BlkIn β hp b) := fun b hb => by
    have hlt := (ho.lt b hb).2
    rcases hst with ⟨hs, h⟩ | ⟨hs, h⟩
    · rw [hs] at hb
      obtain ⟨k1, k2, _⟩ := hold b hb
      exact ⟨⟨k2, hlt⟩, .inr k1⟩
    · rw [hs] at hb; cases hb
      exact ⟨⟨hown _ (Nat.le_refl _), hlt⟩, .inl (Nat.le_refl _)⟩
  have hnotin : ∀ b, b < w.heap.size → ¬ BlkIn β hp b → v'.ownBlock ≠ some b := fun b h1 h2 e => by
    rcases (hblk b e).2 with h | h
    · omega
    · exact h2 h
  have howb : ∀ k, blkOf v' = some k → v'.ownBlock = some k := fun k hk => by
    rcases ho.2 with ⟨h, _⟩ | ⟨g, cap, cur, h, _⟩
    · subst h; cases hk
    · subst h; exact hk
  constructor
  · exact upd_le hβ
  · exact fun h hh => by simp only [List.mem_singleton] at hh; simp [upd, hh]
  · exact hfle
  · intro b h1 h2 o
    unfold fzAdd
    rw [if_neg fun h => hnotin b h1 h2 h.1]
  · intro b o u hu
    unfold fzAdd at hu
    split at hu
    · rename_i hc
      rw [hrow b hc.1 o hc.2]; exact hu
    · rename_i hc
      have hcell := hok b o u hu
      have hlt : b < w.heap.size := World.block_lt_of_cell? w _ hcell
      by_cases hb : v'.ownBlock = some b
      · exfalso
        have ho' : ys.length ≤ o := by
          rcases Nat.lt_or_ge o ys.length with h | h
          · exact absurd ⟨hb, h⟩ hc
          · exact h
        rcases hst with ⟨hs, _⟩ | ⟨hs, _⟩
        · rw [hs] at hb
          obtain ⟨_, _, _, k1, _⟩ := hold b hb
          obtain ⟨news, rfl⟩ := hpre
          rw [k1 o (by simp at ho'; omega)] at hu; cases hu
        · rw [hs] at hb; cases hb; omega
      · exact (World.cell?_of_block (w := w) (hframe b hlt hb)).trans hcell
  · rcases hst with ⟨_, h⟩ | ⟨_, h⟩ <;> exact h.os
  · rcases hst with ⟨_, h⟩ | ⟨_, h⟩ <;> exact h.tape
  · rcases hst with ⟨_, h⟩ | ⟨_, h⟩ <;> exact h.output
  · exact hgsize
  · exact fun b h1 h2 => hframe b h1 (hnotin b h1 h2)
  · intro y hy
    simp only [List.mem_singleton] at hy
    subst hy
    refine ⟨v', upd_same _ _ _, fun k hk => (hblk k (howb k hk)).1, ys, ho, fun b hb o ho' => ?_⟩
    unfold fzAdd
    rw [if_neg (by omega)]
    rcases hst with ⟨hs, _⟩ | ⟨hs, _⟩
    · rw [hs] at hb
      obtain ⟨_, _, _, k1, _⟩ := hold b hb
      obtain ⟨news, rfl⟩ := hpre
      exact k1 o (by simp at hys; omega)
    · rw [hs] at hb; cases hb
      exact hok.new _ o (Nat.le_refl _)
  · intro y hy z k h1 h2
    simp only [List.mem_singleton] at hy
    subst hy
    rw [upd_same] at h1; cases h1
    exact (hblk k (howb k h2)).2
  · intro h h' y y' k ⟨z, hz, e⟩ ⟨z', hz', e'⟩ _ _ _ _
    simp only [List.mem_singleton] at hz hz'
    subst hz; subst hz'
    exact e.symm.trans e'
  · refine .own (upd_same _ _ _) ?_
    have hr' := hr.mono hfle
    have hget : ∀ (i j : Nat) (r : List D) (d : D), rows[i]? = some r → r[j]? = some d → RepD (fzAdd fz v' ys) d (ys[i * sz + j]?.getD default) ∧ (ys[i * sz + j]?.getD default).oneCell' = true := fun i j r d hi hj => by
      obtain ⟨u, h1, h2, h3⟩ := hr'.2.2 i j r d hi hj
      rw [h1]; exact ⟨h2, h3⟩
    rcases ho.2 with ⟨hv, h0⟩ | ⟨g, cap, cur, hv, _, _, hcap, _⟩
    · subst hv
      exact .sl (fun i j => ys[i * sz + j]?.getD default) (by omega) (by omega) (by omega) hr.1 (fun h => by omega) (fun i j r d a b => (hget i j r d a b).2) (fun i j r d a b => (hget i j r d a b).1)
    · subst hv
      refine .sl (fun i j => ys[i * sz + j]?.getD default) hn.symm hcap (by omega) hr.1 (fun _ => ⟨g, 0, rfl, fun i j hi hj => ?_⟩) (fun i j r d a b => (hget i j r d a b).2) (fun i j r d a b => (hget i j r d a b).1)
      have hlt : 0 + i * sz + j < ys.length := by rw [hys, Nat.zero_add]; exact row_lt hi hj
      unfold fzAdd
      rw [if_pos ⟨rfl, hlt⟩, List.getElem?_eq_getElem hlt]
      simp only [Nat.zero_add] at hlt ⊢
      rw [List.getElem?_eq_getElem hlt]; rfl
end Go.Lm
