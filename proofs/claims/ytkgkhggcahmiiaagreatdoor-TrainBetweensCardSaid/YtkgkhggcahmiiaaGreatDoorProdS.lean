/- The search behind the products of a rule: what it hands to yield, whatever a round keeps. -/
import Derived.RangeFuncNested
import Derived.RangeFuncBound
import Derived.RangeFuncCalls
import Derived.RangeFuncLeaves
import Derived.Shelf.Abstract
import Derived.Shelf.RegionOpen
import Derived.WalkKit
import Derived.OwnWalkIn
import Derived.TacticsInMore
import Derived.LoopNIn
import Derived.LoopIn
import Derived.Test.YtkgkhggcahmiiaaGreatDoorProg
namespace Go.Proofs.Tryz
open Go Go.RowKit Go.Shelf
attribute [local go_sem] Oper.semAt_some
set_option maxRecDepth 100000
/-- what a round keeps: all cells but those of one block -/
structure KpB (bm : Nat) (W W' : World) : Prop where
  size : W.heap.size ≤ W'.heap.size
  same : ∀ k us t x, k ≠ bm → W.heap[k]? = some (.cells us t x) → W'.heap[k]? = some (.cells us t x)
theorem KpB.refl (bm : Nat) (W : World) : KpB bm W W := ⟨Nat.le_refl _, fun _ _ _ _ _ h => h⟩
theorem KpB.trans {bm : Nat} {A B C : World} (h : KpB bm A B) (k : KpB bm B C) : KpB bm A C := ⟨Nat.le_trans h.size k.size, fun i us t x hi e => k.same i us t x hi (h.same i us t x hi e)⟩
theorem KpB.drew (bm : Nat) (W : World) : KpB bm W W.drew := ⟨Nat.le_refl _, fun _ _ _ _ _ h => h⟩
theorem KpB.cell {bm : Nat} {W W' : World} (h : KpB bm W W') {b o : Nat} {v : Value} (hb : b ≠ bm) (hc : W.cell? ⟨b, o, none⟩ = some v) : W'.cell? ⟨b, o, none⟩ = some v := by
  unfold World.cell? at hc ⊢
  cases hq : W.heap[b]? with
  | none => simp [hq] at hc
  | some ob =>
    cases ob with
    | cells us t x => rw [h.same b us t x hb hq]; rw [hq] at hc; exact hc
    | _ => simp [hq] at hc
/-- the answer of a search -/
def Ans (J Jx : List Int → World → Prop) (bm : Nat) (W : World) (l : List Int) (e : Ending) (W' : World) : Prop :=
  (e = .returned (.bool true) ∧ J l W' ∧ KpB bm W W') ∨ (e = .returned (.bool false) ∧ ∃ q, Jx q W')
theorem Ans.one {J Jx : List Int → World → Prop} {bm : Nat} {W : World} {l : List Int} {e : Ending} {W' : World} (h : Ans J Jx bm W l e W') : ∃ q : Bool, e = .returned (.bool q) ∧ (q = true → J l W' ∧ KpB bm W W') ∧ (q = false → ∃ q, Jx q W') := by
  rcases h with ⟨rfl, h, k⟩ | ⟨rfl, h⟩
  · exact ⟨true, rfl, fun _ => ⟨h, k⟩, fun e => by cases e⟩
  · exact ⟨false, rfl, fun e => (by cases e), fun _ => h⟩
set_option maxHeartbeats 2000000 in
theorem search0 (l bm N : Nat) (J Jx : List Int → World → Prop)
    (ok : Int → Prop) (hY : ∀ m pre x W, J pre W → pre.length < N → ok x → YieldAt Fence.wide m prog l #[.int .i64 x] W fun e W' => Ans J Jx bm W (pre ++ [x]) e W')
    (n : Nat) (by_ br bs : Nat) (i now : Int) (hnow : ok now) (pre : List Int) (W : World) (hJ : J pre W) (hN : pre.length < N) (c3 : W.cell? ⟨by_, 0, none⟩ = some (.func (.yield l) #[] #[])) :
    CallsIn Fence.wide n prog 148 #[.int .i64 i, .int .i64 0, .int .i64 now, .pointer (some ⟨by_, 0, none⟩), .pointer (some ⟨br, 0, none⟩), .pointer (some ⟨bs, 0, none⟩)] W fun e W' =>
      Ans J Jx bm W (pre ++ [now]) e W' := by
  have hy := hY (n - 1) pre now W hJ hN hnow
  obtain ⟨fn, tmps, assign, body, hy, hR⟩ := hy
  refine callsIn_of_wp func148 rfl trivial ?_ rfl
  simp only [ntmps148, List.size_toArray, List.length_cons, List.length_nil, Nat.reduceAdd, Nat.reduceSub, Array.replicate_succ, Array.replicate_zero, List.push_toArray, List.append_toArray, List.nil_append, List.cons_append]
  gi_wp2_with ((try refine ⟨(fun h => (by cases h)), ?_⟩); refine hR.mono ?_; clear hR; rintro e W2 (⟨rfl, hJ2, hb2⟩ | ⟨rfl, hq2⟩))
  · go_ret
    exact .inl ⟨rfl, hJ2, hb2⟩
  · gi_wp2
    go_ret
    exact .inr ⟨rfl, hq2⟩

/-- what the search reads -/
structure PF (W : World) (l bm by_ br bs tb toff : Nat) (A : Option Addr) (c : Nat) (teeth : List Int) : Prop where
  ly : by_ ≠ bm
  lr : br ≠ bm
  ls : bs ≠ bm
  lt : tb ≠ bm
  cy : W.cell? ⟨by_, 0, none⟩ = some (.func (.yield l) #[] #[])
  ct : W.cell? ⟨br, 5, none⟩ = some (.slice A teeth.length c)
  cs : W.cell? ⟨bs, 0, none⟩ = some (.func (.func 148) #[] #[.pointer (some ⟨by_, 0, none⟩), .pointer (some ⟨br, 0, none⟩), .pointer (some ⟨bs, 0, none⟩)])
  el : ∀ j, j < teeth.length → A = some ⟨tb, toff, none⟩ ∧ W.cell? ⟨tb, toff + j, none⟩ = some (.int .i64 (teeth[j]?.getD 0))
theorem PF.keep {W W' : World} {l bm by_ br bs tb toff : Nat} {A : Option Addr} {c : Nat} {teeth : List Int} (h : PF W l bm by_ br bs tb toff A c teeth) (hb : KpB bm W W') : PF W' l bm by_ br bs tb toff A c teeth :=
  ⟨h.ly, h.lr, h.ls, h.lt, hb.cell h.ly h.cy, hb.cell h.lr h.ct, hb.cell h.ls h.cs, fun j hj => ⟨(h.el j hj).1, hb.cell h.lt (h.el j hj).2⟩⟩
/-- the products up to a place -/
def prodsUpto (f : Nat → List Int) : Nat → List Int
  | 0 => []
  | m + 1 => prodsUpto f m ++ f m
theorem prodsUpto_le (f : Nat → List Int) : ∀ {m n : Nat}, m < n → (prodsUpto f m).length + (f m).length ≤ (prodsUpto f n).length
  | m, n + 1, h => by
    simp only [prodsUpto, List.length_append]
    rcases Nat.lt_or_ge m n with h' | h'
    · have := prodsUpto_le f h'
      omega
    · obtain rfl : m = n := by omega
      exact Nat.le_refl _
set_option maxHeartbeats 1000000 in
theorem searchS (l bm N by_ br bs tb toff : Nat) (A : Option Addr) (c : Nat) (teeth : List Int) (hl : teeth.length ≤ 1000) (J Jx : List Int → World → Prop) (hJd : ∀ pre W, J pre W → J pre W.drew) (k : Nat) (hk : k ≤ 10) (f : Nat → Int → List Int) (ok : Int → Prop)
    (ih : ∀ n (i : Nat) (now : Int) (pre : List Int) (W : World), i < teeth.length → PF W l bm by_ br bs tb toff A c teeth → J pre W → pre.length + (f i now).length ≤ N → -9223372036854775808 ≤ now → now ≤ 9223372036854775807 → ok now →
      CallsIn Fence.wide n prog 148 #[.int .i64 i, .int .i64 k, .int .i64 now, .pointer (some ⟨by_, 0, none⟩), .pointer (some ⟨br, 0, none⟩), .pointer (some ⟨bs, 0, none⟩)] W fun e W' => Ans J Jx bm W (pre ++ f i now) e W')
    (n i : Nat) (now : Int) (pre : List Int) (W : World) (hi : i ≤ teeth.length) (hp : PF W l bm by_ br bs tb toff A c teeth) (hJ : J pre W)
    (hN : pre.length + (prodsUpto (fun m => f (i + m) (now * (teeth[i + m]?.getD 0))) (teeth.length - i)).length ≤ N)
    (hok : ∀ j : Nat, j < teeth.length → ok (now * (teeth[j]?.getD 0)))
    (hov : ∀ j : Nat, -9223372036854775808 ≤ now * (teeth[j]?.getD 0) ∧ now * (teeth[j]?.getD 0) ≤ 9223372036854775807) :
    CallsIn Fence.wide n prog 148 #[.int .i64 i, .int .i64 ((k : Int) + 1), .int .i64 now, .pointer (some ⟨by_, 0, none⟩), .pointer (some ⟨br, 0, none⟩), .pointer (some ⟨bs, 0, none⟩)] W fun e W' => Ans J Jx bm W (pre ++ prodsUpto (fun m => f (i + m) (now * (teeth[i + m]?.getD 0))) (teeth.length - i)) e W' := by
  refine callsIn_of_wp func148 rfl trivial ?_ rfl
  simp only [ntmps148, List.size_toArray, List.length_cons, List.length_nil, Nat.reduceAdd, Nat.reduceSub, Array.replicate_succ, Array.replicate_zero, List.push_toArray, List.append_toArray, List.nil_append, List.cons_append]
  have hk1 : (k : Int) + 1 ≠ 0 := by omega
  gi_wp2
  gi_loopw [10] (fun v wr => ∃ m : Nat, m ≤ teeth.length - i ∧ v = .int .i64 ((i + m : Nat) : Int) ∧ J (pre ++ prodsUpto (fun m => f (i + m) (now * (teeth[i + m]?.getD 0))) m) wr ∧ KpB bm W wr)
    (fun v _ => teeth.length - (intOf v).toNat)
  case atStart => exact ⟨0, Nat.zero_le _, rfl, by simpa [prodsUpto] using hJ, KpB.refl _ _⟩
  case round =>
    obtain ⟨m, hm, rfl, hJm, hbm⟩ := hrel
    have hpm := hp.keep hbm
    have c5 := hpm.ct
    by_cases hlt : i + m < teeth.length
    · obtain ⟨eA, ce⟩ := hpm.el _ hlt
      subst eA
      have cs := hpm.cs
      obtain ⟨o1, o2⟩ := hov (i + m)
      have mx : prog.follows .mixedOrders = true := by kernel_rfl
      have hpd : PF wr.drew l bm by_ br bs tb toff (some ⟨tb, toff, none⟩) c teeth := ⟨hpm.ly, hpm.lr, hpm.ls, hpm.lt, hpm.cy, hpm.ct, hpm.cs, hpm.el⟩
      have hNm : (pre ++ prodsUpto (fun m => f (i + m) (now * (teeth[i + m]?.getD 0))) m).length + (f (i + m) (now * (teeth[i + m]?.getD 0))).length ≤ N := by
        have := prodsUpto_le (fun m => f (i + m) (now * (teeth[i + m]?.getD 0))) (m := m) (n := teeth.length - i) (by omega)
        rw [List.length_append]
        omega
      have ihc := ih (n - 1) (i + m) (now * (teeth[i + m]?.getD 0)) _ wr.drew hlt hpd (hJd _ _ hJm) hNm o1 o2 (hok _ hlt)
      have c5d := hpd.ct
      have csd := hpd.cs
      have ced := (hpd.el _ hlt).2
      have e1 : ((i + m : Nat) : Int) = (i : Int) + (m : Int) := by omega
      have e3 : teeth[i + m]?.getD 0 = teeth[i + m] := by rw [List.getElem?_eq_getElem hlt]; rfl
      rw [e3] at ihc o1 o2
      have e2 : IntKind.i64.wrap (now * teeth[i + m]) = now * teeth[i + m] := IntWalk.i64_in _ ⟨o1, o2⟩
      rw [e1] at ihc
      clear ih hNm
      gi_wp2
      gi_region_with_o ((refine ⟨trivial, (fun h => (by cases h)), ?_⟩; refine ihc.mono ?_; rintro e W3 hA3; obtain ⟨q3, rfl, ht3, hf3⟩ := hA3.one))
      all_goals gi_wp2
      all_goals first
        | (obtain rfl : q3 = false := by simpa using ‹(!q3) = true›
           go_ret
           exact .inr ⟨rfl, hf3 rfl⟩)
        | (obtain rfl : q3 = true := by simpa using ‹(!q3) = false›
           obtain ⟨hJ3, hb3⟩ := ht3 rfl
           go_roundw
           all_goals first
             | exact ⟨_, _, _, _, _, _, _, _, _, _, _, _, _, _, _, _, _, _, _, _, _, _, ⟨m + 1, by omega, by simp [Int.add_assoc], by simpa [prodsUpto, List.append_assoc, e3] using hJ3, hbm.trans ((KpB.drew _ _).trans hb3)⟩, rfl⟩
             | (simp [intOf]; omega))
    · obtain rfl : m = teeth.length - i := by omega
      gi_wp2
      go_ret
      exact .inl ⟨rfl, hJm, hbm⟩
end Go.Proofs.Tryz
