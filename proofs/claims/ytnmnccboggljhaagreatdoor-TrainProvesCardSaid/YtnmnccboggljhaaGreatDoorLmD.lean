/- The logical machine: a region that draws its order. -/
import Derived.Test.YtnmnccboggljhaaGreatDoorLmC
namespace Go.Lm
open Go Go.RowKit

section
variable {C : Cx} {all : Array Oper}

theorem guard_wanted {s : LS} {a : Act} {w : World} {β : Bt} {fz : Fz} (r : RelB C s a w β fz) {o : Oper} {b : Bool} (h : Guard all s o b) : Region.wanted o (yielded all a.tmps) = b := by
  unfold Guard at h
  unfold Region.wanted
  cases hg : o.guard with
  | none => rw [hg] at h; simp only; exact h.symm
  | some x =>
    obtain ⟨j, want⟩ := x
    rw [hg] at h
    obtain ⟨t, h1, ⟨p, h2, rfl⟩ | ⟨⟨x, h2⟩, rfl⟩⟩ := h
    · obtain ⟨u, h3, h4⟩ := r.env t _ h2
      have hu : u = .bool p := by
        cases h4 with
        | d h4 => cases h4; rfl
      subst hu
      simp only [gdst] at h1
      simp only [yielded, h1, Option.bind_some, h3]
      cases p <;> cases want <;> rfl
    · obtain ⟨u, h3, h4⟩ := r.env t _ h2
      have hu : u = .tuple x := by
        cases h4 with
        | d h4 => cases h4; rfl
      subst hu
      simp only [gdst] at h1
      simp only [yielded, h1, Option.bind_some, h3]
      cases want <;> rfl
theorem RelB.skip {s : LS} {a : Act} {w : World} {β : Bt} {fz : Fz} (r : RelB C s a w β fz) {dst : Option Nat} (hd : ∀ d, dst = some d → d < C.nt) : RelB C (s.skip dst) (a.put dst undef) w β fz :=
  { r with
    env := fun d v hv => by
      cases dst with
      | none => exact r.env d v hv
      | some d0 =>
        simp only [LS.skip, putE, lk] at hv
        split at hv
        · rename_i e
          cases hv
          subst e
          exact ⟨undef, by simp [Act.put, r.nt, hd d rfl], .d (.raw _)⟩
        · rename_i e
          obtain ⟨u', h1, h2⟩ := r.env d v hv
          exact ⟨u', by simp only [Act.put]; rw [Array.getElem?_setIfInBounds_ne (Ne.symm e)]; exact h1, h2⟩
    nt := by
      cases dst with
      | none => exact r.nt
      | some d => simpa [Act.put] using r.nt
    dfs := by
      cases dst with
      | none => exact r.dfs.to rfl (Bt.Le.refl _) (Fz.Le.refl _) fun D _ h2 h3 h4 => ⟨h2, h3, h4⟩
      | some d => exact r.dfs.to rfl (Bt.Le.refl _) (Fz.Le.refl _) fun D _ h2 h3 h4 => ⟨h2, h3, h4⟩ }

theorem can_sound {s : LS} {a : Act} {w : World} {β : Bt} {fz : Fz} (r : RelB C s a w β fz) {i : Nat} {e : Option Eff} (h : Can C.P C.nt all i e s) {K : Act → World → Prop} {Q : Exit → Act → World → Prop}
    (hK : ∀ a' w' β' fz', RelB C (nxt all i e s) a' w' β' fz' → K a' w') : wpOp C.P all Q i K a w := by
  obtain ⟨o, ho, h⟩ := h
  simp only [nxt, ho] at hK
  simp only [wpOp, ho]
  cases e with
  | some e =>
    rw [guard_wanted r h.1]
    simp only [if_true]
    exact .inl (h.2.sound r hK)
  | none =>
    rw [guard_wanted r h.1]
    simp only [Bool.false_eq_true, if_false]
    exact hK _ _ _ _ (r.skip h.2)

def pre (all : Array Oper) (i : Nat) : List Nat := match all[i]? with
  | some o => (o.after.toList.filter (Region.binds .any)).map (·.on)
  | none => []
def reach (all : Array Oper) : Nat → Nat → Nat → Bool
  | 0, j, i => (pre all i).contains j
  | f + 1, j, i => (pre all i).contains j || (pre all i).any fun e => reach all f j e
theorem reach_listed {listed : Array Bool} (hc : ∀ i, listed[i]? = some true → ∀ e ∈ pre all i, listed[e]? = some true) : ∀ (f j i : Nat), (∀ e ∈ pre all i, listed[e]? = some true) → reach all f j i = true → listed[j]? = some true
  | 0, j, i, h, hr => h j (by simpa [reach] using hr)
  | f + 1, j, i, h, hr => by
    simp only [reach, Bool.or_eq_true, List.any_eq_true] at hr
    rcases hr with hr | ⟨e, he, hr⟩
    · exact h j (by simpa using hr)
    · exact reach_listed hc f j e (hc e (h e he)) hr

theorem ready_iff {listed : Array Bool} (hl : listed.size = all.size) (i : Nat) : i ∈ Region.ready .any all listed ↔ (i < all.size ∧ listed[i]? = some false) ∧ ∀ e ∈ pre all i, listed[e]? = some true := by
  have gd : ∀ e, listed.getD e false = true ↔ listed[e]? = some true := fun e => by
    cases he : listed[e]? <;> simp [Array.getD_eq_getD_getElem?, he]
  simp only [Region.ready, List.mem_filter, List.mem_range, Bool.and_eq_true, Bool.not_eq_true']
  constructor
  · rintro ⟨h1, h2, h3⟩
    have hi : i < listed.size := by omega
    refine ⟨⟨h1, ?_⟩, ?_⟩
    · rw [Array.getElem?_eq_getElem hi]
      have : listed.getD i true = listed[i] := by simp [Array.getD_eq_getD_getElem?, hi]
      rw [this] at h2; rw [h2]
    · intro e he
      have ho : all[i]? = some all[i] := Array.getElem?_eq_getElem h1
      simp only [pre, ho, List.mem_map, List.mem_filter] at he
      obtain ⟨x, ⟨hx, hb⟩, rfl⟩ := he
      simp only [ho, Option.map_some, Option.getD_some, Array.all_eq_true_iff_forall_mem] at h3
      have := h3 x (Array.mem_toList_iff.1 hx)
      rw [hb] at this
      simp only [Bool.not_true, Bool.false_or] at this
      exact (gd _).1 this
  · rintro ⟨⟨h1, h2⟩, h3⟩
    have hi : i < listed.size := by omega
    refine ⟨h1, ?_, ?_⟩
    · have : listed.getD i true = listed[i] := by simp [Array.getD_eq_getD_getElem?, hi]
      rw [this]
      rw [Array.getElem?_eq_getElem hi] at h2
      simpa using h2
    · have ho : all[i]? = some all[i] := Array.getElem?_eq_getElem h1
      simp only [ho, Option.map_some, Option.getD_some, Array.all_eq_true_iff_forall_mem]
      intro x hx
      cases hb : Region.binds .any x with
      | false => rfl
      | true =>
        simp only [Bool.not_true, Bool.false_or]
        refine (gd _).2 (h3 _ ?_)
        simp only [pre, ho, List.mem_map, List.mem_filter]
        exact ⟨x, ⟨Array.mem_toList_iff.2 hx, hb⟩, rfl⟩

theorem any_of_run {Q : Exit → Act → World → Prop} (hed : ∀ i, ∀ e ∈ pre all i, e < i) {t : LS} (hQ : ∀ a' w', Rel C t a' w' → Q .normal a' w') : ∀ (fuel : Nat) (listed : Array Bool) (r : List (Nat × Option Eff)) (s : LS) (a : Act) (w : World),
    Rel C s a w → Run C.P C.nt all r s t → r.length ≤ fuel → listed.size = all.size → (∀ i, i ∈ r.map (·.1) ↔ i < all.size ∧ listed[i]? = some false) →
    (∀ i, listed[i]? = some true → ∀ e ∈ pre all i, listed[e]? = some true) → (r.map (·.1)).Pairwise (· < ·) →
    r.Pairwise (fun x y => reach all 9 x.1 y.1 = true ∨ Compat all y.1 y.2 x.1 x.2) → wpAny C.P .any all Q fuel listed a w := by
  have hnil : ∀ (listed : Array Bool) (r : List (Nat × Option Eff)), listed.size = all.size → (∀ i, i ∈ r.map (·.1) ↔ i < all.size ∧ listed[i]? = some false) → (r.map (·.1)).Pairwise (· < ·) → Region.ready .any all listed = [] → r = [] := by
    intro listed r hl hi hs he
    cases r with
    | nil => rfl
    | cons x r =>
      exfalso
      have h1 := (hi x.1).1 (by simp)
      have : x.1 ∈ Region.ready .any all listed := by
        rw [ready_iff hl]
        refine ⟨h1, fun e he => ?_⟩
        have hlt := hed x.1 e he
        have hes : e < listed.size := by omega
        have hn : ¬ (e < all.size ∧ listed[e]? = some false) := fun hh => by
          have := (hi e).2 hh
          simp only [List.map_cons, List.mem_cons, List.pairwise_cons] at this hs
          rcases this with h | h
          · omega
          · have := hs.1 e h; omega
        cases hv : listed[e] with
        | true => rw [Array.getElem?_eq_getElem hes, hv]
        | false => exact absurd ⟨by omega, by rw [Array.getElem?_eq_getElem hes, hv]⟩ hn
      rw [he] at this
      cases this
  intro fuel
  induction fuel with
  | zero =>
    intro listed r s a w hr hrun hlen hl hi hc hs hp
    have : r = [] := List.eq_nil_of_length_eq_zero (by omega)
    subst this
    obtain ⟨β, fz, hr⟩ := hr
    refine ⟨?_, hQ _ _ ⟨β, fz, hr.congr hrun⟩⟩
    refine List.eq_nil_iff_forall_not_mem.2 fun i h => ?_
    rw [ready_iff hl] at h
    have := (hi i).2 h.1
    simp at this
  | succ fuel ih =>
    intro listed r s a w hr hrun hlen hl hi hc hs hp
    obtain ⟨β, fz, hr⟩ := hr
    refine ⟨fun he => ?_, fun i h => ?_⟩
    · have := hnil listed r hl hi hs he
      subst this
      exact hQ _ _ ⟨β, fz, hr.congr hrun⟩
    · rw [ready_iff hl] at h
      obtain ⟨x, hx, hxi⟩ := List.mem_map.1 ((hi i).2 h.1)
      obtain ⟨i', e⟩ := x
      obtain rfl : i' = i := hxi
      obtain ⟨p, q, rfl⟩ := List.append_of_mem hx
      have hpw := List.pairwise_append.1 hp
      have hfr : ∀ x ∈ p, Compat all i' e x.1 x.2 := fun x hx => by
        rcases hpw.2.2 x hx (i', e) List.mem_cons_self with h1 | h1
        · exfalso
          have h2 := reach_listed hc 9 x.1 i' h.2 h1
          have h3 := ((hi x.1).1 (by simp; exact .inl ⟨_, hx⟩)).2
          rw [h2] at h3; cases h3
        · exact h1
      obtain ⟨c1, c2⟩ := Run.front p hfr hrun
      refine can_sound hr c1 fun a' w' β' fz' hr' => ?_
      have hsub : (p ++ q).Sublist (p ++ (i', e) :: q) := List.Sublist.append_left (List.sublist_cons_self _ _) _
      have hni : i' ∉ (p ++ q).map (·.1) := by
        rw [List.map_append, List.map_cons, List.pairwise_append, List.pairwise_cons] at hs
        rw [List.map_append, List.mem_append]
        rintro (h1 | h1)
        · have := hs.2.2 i' h1 i' List.mem_cons_self; omega
        · have := hs.2.1.1 i' h1; omega
      have hset : ∀ x, (listed.setIfInBounds i' true)[x]? = if x = i' then some true else listed[x]? := fun x => by
        by_cases hx : x = i'
        · subst hx; simp [hl, h.1.1]
        · rw [Array.getElem?_setIfInBounds_ne (Ne.symm hx), if_neg hx]
      refine ih (listed.setIfInBounds i' true) (p ++ q) _ a' w' ⟨β', fz', hr'⟩ c2 ?_ (by simpa using hl) ?_ ?_ (hs.sublist (hsub.map _)) (hp.sublist hsub)
      · simp at hlen ⊢; omega
      · intro x
        rw [hset]
        constructor
        · intro hx
          have hne : x ≠ i' := fun e => hni (e ▸ hx)
          rw [if_neg hne]
          exact (hi x).1 (List.Sublist.subset (hsub.map _) hx)
        · rintro ⟨h1, h2⟩
          split at h2
          · cases h2
          · rename_i hne
            have := (hi x).2 ⟨h1, h2⟩
            simp only [List.map_append, List.map_cons, List.mem_append, List.mem_cons] at this ⊢
            rcases this with h | h | h
            · exact .inl h
            · exact absurd h hne
            · exact .inr h
      · intro x hx y hy
        rw [hset] at hx ⊢
        split
        · rfl
        · split at hx
          · rename_i e; subst e; exact h.2 y hy
          · exact hc x hx y hy
end
end Go.Lm
