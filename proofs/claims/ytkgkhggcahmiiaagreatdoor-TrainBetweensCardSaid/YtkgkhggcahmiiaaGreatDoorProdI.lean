/- The products of a rule: the iterator's contract. -/
import Derived.Test.YtkgkhggcahmiiaaGreatDoorProdS
import Derived.Laws.EntriesVeiled
namespace Go.Proofs.Tryz
open Go Go.RowKit Go.Shelf
attribute [local go_sem] Oper.semAt_some
set_option maxRecDepth 100000
/-- the products of some wheels from a place on, in the order in which they are found -/
def ps (teeth : List Int) : Nat → Nat → Int → List Int
  | 0, _, now => [now]
  | k + 1, i, now => prodsUpto (fun m => ps teeth k (i + m) (now * (teeth[i + m]?.getD 0))) (teeth.length - i)
theorem pow60 (k : Nat) : (0 : Int) < 60 ^ k := Int.pow_pos (by decide)
theorem search_all (l bm N by_ br bs tb toff : Nat) (A : Option Addr) (c : Nat) (teeth : List Int) (hl : teeth.length ≤ 1000) (ht : ∀ j : Nat, 0 ≤ teeth[j]?.getD 0 ∧ teeth[j]?.getD 0 ≤ 60) (J Jx : List Int → World → Prop) (hJd : ∀ pre W, J pre W → J pre W.drew) (M : Int) (hM : M ≤ 1000000000000000)
    (hY : ∀ m pre x W, J pre W → pre.length < N → (0 ≤ x ∧ x ≤ M) → YieldAt Fence.wide m prog l #[.int .i64 x] W fun e W' => Ans J Jx bm W (pre ++ [x]) e W') :
    ∀ k : Nat, k ≤ 10 → ∀ n (i : Nat) (now : Int) (pre : List Int) (W : World), i ≤ teeth.length → PF W l bm by_ br bs tb toff A c teeth → J pre W → pre.length + (ps teeth k i now).length ≤ N → 0 ≤ now → now * 60 ^ k ≤ M →
      CallsIn Fence.wide n prog 148 #[.int .i64 i, .int .i64 k, .int .i64 now, .pointer (some ⟨by_, 0, none⟩), .pointer (some ⟨br, 0, none⟩), .pointer (some ⟨bs, 0, none⟩)] W fun e W' => Ans J Jx bm W (pre ++ ps teeth k i now) e W' := by
  intro k
  induction k with
  | zero =>
    intro _ n i now pre W hi hp hJ hN h0 h1
    exact search0 l bm N J Jx (fun x => 0 ≤ x ∧ x ≤ M) hY n by_ br bs i now ⟨h0, by simpa using h1⟩ pre W hJ (by simp [ps] at hN; omega) hp.cy
  | succ k ih =>
    intro hk n i now pre W hi hp hJ hN h0 h1
    have hpos := pow60 k
    have e : (60 : Int) ^ (k + 1) = 60 ^ k * 60 := Int.pow_succ 60 k
    have hb : ∀ j : Nat, 0 ≤ now * (teeth[j]?.getD 0) ∧ now * (teeth[j]?.getD 0) * 60 ^ k ≤ M := fun j => by
      obtain ⟨t0, t1⟩ := ht j
      refine ⟨Int.mul_nonneg h0 t0, Int.le_trans ?_ h1⟩
      rw [e, Int.mul_comm (60 ^ k) 60, ← Int.mul_assoc]
      exact Int.mul_le_mul_of_nonneg_right (Int.mul_le_mul_of_nonneg_left t1 h0) (Int.le_of_lt hpos)
    have hle : ∀ x : Int, 0 ≤ x → x * 60 ^ k ≤ M → x ≤ M := fun x h2 h3 => by
      have : x * 1 ≤ x * 60 ^ k := Int.mul_le_mul_of_nonneg_left (by omega) h2
      omega
    have := searchS l bm N by_ br bs tb toff A c teeth hl J Jx hJd k (by omega) (ps teeth k) (fun x => 0 ≤ x ∧ x * 60 ^ k ≤ M)
      (fun n i now pre W hi hp hJ hN _ _ hok => ih (by omega) n i now pre W (by omega) hp hJ hN hok.1 hok.2) n i now pre W hi hp hJ hN (fun j _ => hb j)
      (fun j => by have := hb j; have := hle _ (hb j).1 (hb j).2; constructor <;> omega)
    exact this
/-- what the iterator reads of the rule: its teeth, and how many wheels -/
structure TF (W : World) (bm br bw tb toff : Nat) (A : Option Addr) (c : Nat) (teeth : List Int) (k : Nat) : Prop where
  lr : br ≠ bm
  lt : tb ≠ bm
  hb : bm < W.heap.size
  cw : W.cell? ⟨bw, 0, none⟩ = some (.int .i64 k)
  ct : W.cell? ⟨br, 5, none⟩ = some (.slice A teeth.length c)
  el : ∀ j, j < teeth.length → A = some ⟨tb, toff, none⟩ ∧ W.cell? ⟨tb, toff + j, none⟩ = some (.int .i64 (teeth[j]?.getD 0))
theorem below_cell {W W' : World} (h : Below W.heap.size W W') {b o : Nat} {v : Value} (hc : W.cell? ⟨b, o, none⟩ = some v) : W'.cell? ⟨b, o, none⟩ = some v := by
  have hlt : b < W.heap.size := by
    unfold World.cell? at hc
    cases hq : W.heap[b]? with
    | none => simp [hq] at hc
    | some ob => exact (Array.getElem?_eq_some_iff.1 hq).1
  exact (h.cell (p := ⟨b, o, none⟩) hlt).trans hc
theorem cellBox {W : World} {B : Nat} {v : Value} {t : TypeId} (h : W.heap[B]? = some (.cells #[v] t (0, 0))) : W.cell? ⟨B, 0, none⟩ = some v ∧ W.frozen? ⟨B, 0, none⟩ = false := by
  constructor <;> simp [World.cell?, World.frozen?, h]
theorem cellNew (W : World) (v : Value) (t : TypeId) : (W.alloc (.cells #[v] t)).cell? ⟨W.heap.size, 0, none⟩ = some v ∧ (W.alloc (.cells #[v] t)).frozen? ⟨W.heap.size, 0, none⟩ = false := cellBox (World.alloc_heap_new W _)
theorem cell_lt {W : World} {b o : Nat} {v : Value} (hc : W.cell? ⟨b, o, none⟩ = some v) : b < W.heap.size := by
  unfold World.cell? at hc
  cases hq : W.heap[b]? with
  | none => simp [hq] at hc
  | some ob => exact (Array.getElem?_eq_some_iff.1 hq).1
theorem yield_any {m : Nat} (m' : Nat) {P : Program} {l : Nat} {args : Array Value} {W : World} {R : Ending → World → Prop} (h : YieldAt Fence.wide m P l args W R) : YieldAt Fence.wide m' P l args W R := by
  obtain ⟨fn, tmps, assign, body, hy, hR⟩ := h
  exact ⟨fn, tmps, assign, body, hy, hR.1, fun c cs _ => hR.2 c cs (fun d h => by cases h)⟩
set_option maxHeartbeats 2000000 in
/-- numbers up to a bound -/
abbrev UpTo (M : Int) := { x : Int // 0 ≤ x ∧ x ≤ M }
theorem products_stops (n bm br bw tb toff : Nat) (A : Option Addr) (c : Nat) (teeth : List Int) (k : Nat) (hk : k ≤ 3) (hl : teeth.length ≤ 1000) (ht : ∀ j : Nat, 0 ≤ teeth[j]?.getD 0 ∧ teeth[j]?.getD 0 ≤ 60) (w : World) (hw : TF w bm br bw tb toff A c teeth k) :
    SeqStopsK (α := UpTo (60 ^ k)) Fence.wide n prog 147 #[.pointer (some ⟨br, 0, none⟩), .pointer (some ⟨bw, 0, none⟩)] (fun x => #[.int .i64 x.1]) (KpB bm) (fun xs => xs.map (·.1) = ps teeth k 0 1) (fun _ => True) (ps teeth k 0 1).length w := by
  intro l J0 Jx0 W hW hJ0 hJx0 hY0 h00
  obtain ⟨J, hJ'⟩ : ∃ J : List Int → World → Prop, J = fun pre W => ∃ pre' : List (UpTo (60 ^ k)), pre'.map (·.1) = pre ∧ J0 pre' W := ⟨_, rfl⟩
  obtain ⟨Jx, hJx'⟩ : ∃ Jx : List Int → World → Prop, Jx = fun pre W => ∃ pre' : List (UpTo (60 ^ k)), pre'.map (·.1) = pre ∧ Jx0 pre' W := ⟨_, rfl⟩
  have hJ : AbidesFrom W.heap.size J := by
    rw [hJ']
    rintro s A B row ⟨pre', h1, h2⟩ hg hr
    exact ⟨pre', h1, hJ0 _ _ _ _ h2 hg hr⟩
  have h0 : J [] W := by rw [hJ']; exact ⟨[], rfl, h00⟩
  have hY : ∀ pre x W1, J pre W1 → pre.length < (ps teeth k 0 1).length → (0 ≤ x ∧ x ≤ 60 ^ k) → YieldAt Fence.wide (n - 1) prog l #[.int .i64 x] W1 fun e W' => (e = .returned (.bool true) ∧ J (pre ++ [x]) W' ∧ KpB bm W1 W') ∨ (e = .returned (.bool false) ∧ Jx (pre ++ [x]) W') := by
    rw [hJ', hJx']
    rintro pre x W1 ⟨pre', h1, h2⟩ h3 h4
    refine (hY0 pre' ⟨x, h4⟩ W1 h2 (by rw [← h1] at h3; simpa using h3)).mono fun e W' h => ?_
    rcases h with ⟨e1, h, k⟩ | ⟨e1, h⟩
    · exact .inl ⟨e1, ⟨_, by simp [h1], h⟩, k⟩
    · exact .inr ⟨e1, ⟨_, by simp [h1], h⟩⟩
  have hcw := below_cell hW hw.cw
  have hct := below_cell hW hw.ct
  have hel : ∀ j, j < teeth.length → A = some ⟨tb, toff, none⟩ ∧ W.cell? ⟨tb, toff + j, none⟩ = some (.int .i64 (teeth[j]?.getD 0)) := fun j hj => ⟨(hw.el j hj).1, below_cell hW (hw.el j hj).2⟩
  have hbm : bm < W.heap.size := Nat.lt_of_lt_of_le hw.hb hW.size
  refine callsIn_of_wp func147 rfl trivial ?_ rfl
  simp only [ntmps147, List.size_toArray, List.length_cons, List.length_nil, Nat.reduceAdd, Nat.reduceSub, Array.replicate_succ, Array.replicate_zero, List.push_toArray, List.append_toArray, List.nil_append, List.cons_append]
  obtain ⟨hy1, _⟩ := cellNew W (.func (.yield l) #[] #[]) 30
  obtain ⟨hs1, hs2⟩ := cellNew (W.alloc (.cells #[.func (.yield l) #[] #[]] 30)) .nilFunc 87
  rw [World.size_alloc] at hs1 hs2
  obtain ⟨W1, hW1⟩ : ∃ W1, W.alloc (.cells #[.func (.yield l) #[] #[]] 30) = W1 := ⟨_, rfl⟩
  obtain ⟨W2, hW2⟩ : ∃ W2, W1.alloc (.cells #[.nilFunc] 87) = W2 := ⟨_, rfl⟩
  obtain ⟨W3, hW3⟩ : ∃ W3, W2.setCell ⟨W.heap.size + 1, 0, none⟩ (.func (.func 148) #[] #[.pointer (some ⟨W.heap.size, 0, none⟩), .pointer (some ⟨br, 0, none⟩), .pointer (some ⟨W.heap.size + 1, 0, none⟩)]) = W3 := ⟨_, rfl⟩
  rw [hW1] at hs1 hs2 hy1
  rw [hW2] at hs1 hs2
  have hz1 : W1.heap.size = W.heap.size + 1 := by rw [← hW1]; simp
  have old : ∀ b o v, W.cell? ⟨b, o, none⟩ = some v → W3.cell? ⟨b, o, none⟩ = some v := fun b o v h => by
    have hlt := cell_lt h
    have h1 : W1.cell? ⟨b, o, none⟩ = some v := by rw [← hW1, World.cell?_alloc_lt _ _ _ (by exact hlt)]; exact h
    have h2 : W2.cell? ⟨b, o, none⟩ = some v := by rw [← hW2, World.cell?_alloc_lt _ _ _ (by have := cell_lt h1; exact this)]; exact h1
    rw [← hW3, World.cell?_setCell_other _ _ _ _ (by simp <;> omega)]; exact h2
  have cy : W3.cell? ⟨W.heap.size, 0, none⟩ = some (.func (.yield l) #[] #[]) := by
    have h2 : W2.cell? ⟨W.heap.size, 0, none⟩ = some (.func (.yield l) #[] #[]) := by rw [← hW2, World.cell?_alloc_lt _ _ _ (by have := cell_lt hy1; exact this)]; exact hy1
    rw [← hW3, World.cell?_setCell_other _ _ _ _ (by simp)]; exact h2
  have cs : W3.cell? ⟨W.heap.size + 1, 0, none⟩ = some (.func (.func 148) #[] #[.pointer (some ⟨W.heap.size, 0, none⟩), .pointer (some ⟨br, 0, none⟩), .pointer (some ⟨W.heap.size + 1, 0, none⟩)]) := by
    rw [← hW3]; exact World.cell?_setCell_same _ _ _ hs1
  have hgr : W.grownBy W3 none := by
    have hb : Below W.heap.size W W3 := by
      rw [← hW3, ← hW2, ← hW1]
      exact (((Below.refl _ W).alloc (Nat.le_refl _) _).alloc (by simp) _).setCell (p := ⟨W.heap.size + 1, 0, none⟩) (by simp) _
    exact ⟨hb.os, hb.tape, hb.output, hb.size, fun k hk _ => hb.block k hk⟩
  have hJ3 : J [] W3 := hJ _ _ _ _ h0 hgr (fun r e => by cases e)
  have hp : PF W3 l bm W.heap.size br (W.heap.size + 1) tb toff A c teeth := ⟨by omega, hw.lr, by omega, hw.lt, cy, old _ _ _ hct, cs, fun j hj => ⟨(hel j hj).1, old _ _ _ (hel j hj).2⟩⟩
  have call := fun n => search_all l bm (ps teeth k 0 1).length W.heap.size br (W.heap.size + 1) tb toff A c teeth hl ht J Jx (fun pre W h => hJ _ _ _ none h (⟨rfl, rfl, rfl, Nat.le_refl _, fun _ _ _ => rfl⟩) (fun r e => by cases e)) (60 ^ k) (by
      have : k = 0 ∨ k = 1 ∨ k = 2 ∨ k = 3 := by omega
      rcases this with rfl | rfl | rfl | rfl <;> decide) (fun m pre x W h1 h2 h5 => yield_any m ((hY pre x W h1 h2 h5).mono fun e W' h => by
      rcases h with ⟨e1, h, k⟩ | ⟨e1, h⟩
      · exact .inl ⟨e1, h, k⟩
      · exact .inr ⟨e1, _, h⟩)) k (by omega) n 0 1 [] W3 (Nat.zero_le _) hp hJ3 (by simp) (by decide) (by omega)
  have hcw3 := old _ _ _ hcw
  clear hW hJ hJ0 hJx0 hY0 hY hgr old hp hct hel h0 h00
  gi_wp2
  refine ⟨trivial, (fun h => by cases h), ?_⟩
  refine (call _).mono ?_
  rintro e W4 (⟨rfl, hJ4, _⟩ | ⟨rfl, q, hq⟩)
  · gi_wp2
    go_end0
    rw [hJ'] at hJ4
    obtain ⟨pre', h1, h2⟩ := hJ4
    exact ⟨⟨_, rfl⟩, .inl ⟨pre', h1, h2⟩⟩
  · gi_wp2
    go_end0
    rw [hJx'] at hq
    obtain ⟨pre', h1, h2⟩ := hq
    exact ⟨⟨_, rfl⟩, .inr ⟨pre', trivial, h2⟩⟩
end Go.Proofs.Tryz
