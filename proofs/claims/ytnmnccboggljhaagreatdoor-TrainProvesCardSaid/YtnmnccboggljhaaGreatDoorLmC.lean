/- The logical machine: a region, in the text's order and in any other. -/
import Derived.Test.YtnmnccboggljhaaGreatDoorLmB
namespace Go.Lm
open Go Go.RowKit

/-- what stands in the slot of an operation that was passed over -/
def uV : V := .d (.raw (.tuple #[]))
def LS.skip (s : LS) (dst : Option Nat) : LS := { s with env := putE dst uV s.env }
def gdst (all : Array Oper) (j : Nat) : Option Nat := (all[j]?).bind (·.dst)
def Guard (all : Array Oper) (s : LS) (o : Oper) (b : Bool) : Prop := match o.guard with
  | none => b = true
  | some (j, want) => ∃ t, gdst all j = some t ∧ ((∃ p, lk s.env t = some (.d (.b p)) ∧ b = (p == want)) ∨ ((∃ x, lk s.env t = some (.d (.raw (.tuple x)))) ∧ b = false))
def nxt (all : Array Oper) (i : Nat) (e : Option Eff) (s : LS) : LS := match all[i]? with
  | none => s
  | some o => match e with | some e => s.app o.dst e | none => s.skip o.dst
def Can (P : Program) (nt : Nat) (all : Array Oper) (i : Nat) (e : Option Eff) (s : LS) : Prop := ∃ o, all[i]? = some o ∧ match e with
  | some e => Guard all s o true ∧ StepOK P nt s o e
  | none => Guard all s o false ∧ ∀ d, o.dst = some d → d < nt

structure Eqv (s s' : LS) : Prop where
  env : ∀ d, lk s.env d = lk s'.env d
  blk : ∀ h, s.blk h = s'.blk h
  free : ∀ h, s.free h ↔ s'.free h
  dfs : s.dfs = s'.dfs
theorem Eqv.refl (s : LS) : Eqv s s := ⟨fun _ => rfl, fun _ => rfl, fun _ => Iff.rfl, rfl⟩
theorem Eqv.symm {s s' : LS} (h : Eqv s s') : Eqv s' s := ⟨fun d => (h.env d).symm, fun d => (h.blk d).symm, fun d => (h.free d).symm, h.dfs.symm⟩
theorem Eqv.trans {a b c : LS} (h : Eqv a b) (k : Eqv b c) : Eqv a c := ⟨fun d => (h.env d).trans (k.env d), fun d => (h.blk d).trans (k.blk d), fun d => (h.free d).trans (k.free d), h.dfs.trans k.dfs⟩
theorem RelB.congr {C : Cx} {s s' : LS} {a : Act} {w : World} {β : Bt} {fz : Fz} (r : RelB C s a w β fz) (h : Eqv s s') : RelB C s' a w β fz :=
  { r with
    free := fun x hx => r.free x ((h.free x).2 hx)
    hreps := fun x b hb => r.hreps x b ((h.blk x).trans hb)
    inj := fun x x' y y' k ⟨b, hb⟩ ⟨b', hb'⟩ => r.inj x x' y y' k ⟨b, (h.blk x).trans hb⟩ ⟨b', (h.blk x').trans hb'⟩
    env := fun d v hv => r.env d v ((h.env d).trans hv)
    dfs := r.dfs.to h.dfs.symm (Bt.Le.refl _) (Fz.Le.refl _) fun D _ h2 h3 h4 => ⟨h2, h3, fun x b y hb hy => h4 x b y ((h.blk x).trans hb) hy⟩ }

/-- handles that an operation reads or writes; that it writes -/
def rdh : Option Eff → List Nat | none => [] | some e => e.rd.map (·.1) ++ (e.hp.map (·.1) ++ e.news)
def wrh : Option Eff → List Nat | none => [] | some e => e.hp.map (·.1) ++ e.news

section
variable {P : Program} {nt : Nat} {all : Array Oper}

theorem nxt_env (i : Nat) (e : Option Eff) (s : LS) (t : Nat) (h : ∀ o, all[i]? = some o → o.dst ≠ some t) : lk (nxt all i e s).env t = lk s.env t := by
  unfold nxt
  cases ho : all[i]? with
  | none => rfl
  | some o => cases e <;> exact lk_put_ne (h o ho)
theorem nxt_dfs (i : Nat) (e : Option Eff) (s : LS) : (nxt all i e s).dfs = s.dfs := by
  unfold nxt
  cases all[i]? with
  | none => rfl
  | some o => cases e <;> rfl
theorem nxt_blk {i : Nat} {e : Option Eff} {s : LS} (c : Can P nt all i e s) (s' : LS) (h : Nat) (hh : h ∉ wrh e) : (nxt all i e s').blk h = s'.blk h := by
  obtain ⟨o, ho, c⟩ := c
  simp only [nxt, ho]
  cases e with
  | none => rfl
  | some e =>
    simp only [LS.blk_app]
    have h1 : lk e.out h = none := by
      cases hq : lk e.out h with
      | none => rfl
      | some b =>
        refine absurd ?_ hh
        simp only [wrh, List.mem_append, List.mem_map]
        rcases c.2.outs _ (lk_mem hq) with h | ⟨z, hz, e⟩
        · exact .inr h
        · exact .inl ⟨z, hz, e⟩
    have h2 : lk e.hp h = none := by
      cases hq : lk e.hp h with
      | none => rfl
      | some b => exact absurd (by simp only [wrh, List.mem_append, List.mem_map]; exact .inl ⟨_, lk_mem hq, rfl⟩) hh
    simp [h1, h2]
theorem nxt_blk_congr (i : Nat) (e : Option Eff) (s s' : LS) (h : Nat) (hh : s.blk h = s'.blk h) : (nxt all i e s).blk h = (nxt all i e s').blk h := by
  simp only [nxt]
  cases all[i]? with
  | none => exact hh
  | some o =>
    cases e with
    | none => exact hh
    | some e => simp only [LS.blk_app, hh]
theorem nxt_free (i : Nat) (e : Option Eff) (s : LS) (h : Nat) : (nxt all i e s).free h → s.free h := by
  simp only [nxt]
  cases all[i]? with
  | none => exact id
  | some o =>
    cases e with
    | none => exact id
    | some e => exact fun ⟨h1, h2⟩ => ⟨h1, fun h3 => h2 (by simp [LS.app, h3])⟩
theorem nxt_free2 (i : Nat) (e : Option Eff) (s : LS) (h : Nat) (hn : h ∉ wrh e) : s.free h → (nxt all i e s).free h := by
  simp only [nxt]
  cases all[i]? with
  | none => exact id
  | some o =>
    cases e with
    | none => exact id
    | some e =>
      simp only [wrh, List.mem_append, not_or] at hn
      exact fun ⟨h1, h2⟩ => ⟨h1, fun h3 => by
        simp only [LS.app, List.mem_append] at h3
        exact h3.elim hn.2 h2⟩
theorem nxt_congr (i : Nat) (e : Option Eff) {s s' : LS} (h : Eqv s s') : Eqv (nxt all i e s) (nxt all i e s') := by
  refine ⟨fun d => ?_, fun x => nxt_blk_congr i e s s' x (h.blk x), fun x => ?_, by rw [nxt_dfs, nxt_dfs]; exact h.dfs⟩
  · simp only [nxt]
    cases all[i]? with
    | none => exact h.env d
    | some o =>
      cases e <;> exact lk_put_congr (h.env d)
  · simp only [nxt]
    cases all[i]? with
    | none => exact h.free x
    | some o =>
      cases e with
      | none => exact h.free x
      | some e =>
        have hx := h.free x
        simp only [LS.free, LS.app, List.mem_append, not_or] at hx ⊢
        constructor
        · exact fun ⟨h1, h2, h3⟩ => ⟨(hx.1 ⟨h1, h3⟩).1, h2, (hx.1 ⟨h1, h3⟩).2⟩
        · exact fun ⟨h1, h2, h3⟩ => ⟨(hx.2 ⟨h1, h3⟩).1, h2, (hx.2 ⟨h1, h3⟩).2⟩

theorem ev_congr {s s' : LS} {o : Oper} (he : ∀ t ∈ o.looksAt all, lk s.env t = lk s'.env t) {j : Nat} {x : Operand} (hx : o.op.operands[j]? = some x) : s.ev x = s'.ev x := by
  cases x with
  | tmp t =>
    refine he t (List.mem_append_left _ (List.mem_filterMap.2 ⟨.tmp t, ?_, rfl⟩))
    rw [Array.mem_toList_iff]
    exact Array.mem_of_getElem? hx
  | _ => rfl
theorem Guard.congr {s s' : LS} {o : Oper} {b : Bool} (he : ∀ t ∈ o.looksAt all, lk s.env t = lk s'.env t) (h : Guard all s o b) : Guard all s' o b := by
  unfold Guard at *
  cases hg : o.guard with
  | none => rw [hg] at h; exact h
  | some x =>
    obtain ⟨j, want⟩ := x
    rw [hg] at h
    obtain ⟨t, h1, h2⟩ := h
    refine ⟨t, h1, ?_⟩
    rw [← he t ?_]
    · exact h2
    · refine List.mem_append_right _ ?_
      rw [hg]
      simpa [gdst] using h1
theorem StepOK.congr {s s' : LS} {o : Oper} {e : Eff} (he : ∀ t ∈ o.looksAt all, lk s.env t = lk s'.env t) (hb : ∀ h ∈ rdh (some e), s.blk h = s'.blk h) (hf : ∀ h ∈ e.news, s.free h → s'.free h) (c : StepOK P nt s o e) : StepOK P nt s' o e :=
  { c with
    vals := fun j x v hx hv => (ev_congr he hx).symm.trans (c.vals j x v hx hv)
    rd := fun x hx => (hb x.1 (by simp only [rdh, List.mem_append, List.mem_map]; exact .inl ⟨x, hx, rfl⟩)).symm.trans (c.rd x hx)
    hp := fun x hx => (hb x.1 (by simp only [rdh, List.mem_append, List.mem_map]; exact .inr (.inl ⟨x, hx, rfl⟩))).symm.trans (c.hp x hx)
    news := fun h hh => hf h hh (c.news h hh) }
theorem Can.congr {i : Nat} {e : Option Eff} {s s' : LS} (he : ∀ o, all[i]? = some o → ∀ t ∈ o.looksAt all, lk s.env t = lk s'.env t) (hb : ∀ h ∈ rdh e, s.blk h = s'.blk h) (hf : ∀ h ∈ wrh e, s.free h → s'.free h)
    (c : Can P nt all i e s) : Can P nt all i e s' := by
  obtain ⟨o, ho, c⟩ := c
  refine ⟨o, ho, ?_⟩
  cases e with
  | none => exact ⟨c.1.congr (he o ho), c.2⟩
  | some e => exact ⟨c.1.congr (he o ho), c.2.congr (he o ho) hb fun h hh => hf h (by simp [wrh, hh])⟩

/-- two operations do not meet -/
structure Compat (all : Array Oper) (i : Nat) (ei : Option Eff) (j : Nat) (ej : Option Eff) : Prop where
  apart : ∀ oi oj, all[i]? = some oi → all[j]? = some oj → oi.apart all oj = true
  one : ∀ h ∈ wrh ei, h ∉ rdh ej
  two : ∀ h ∈ wrh ej, h ∉ rdh ei
theorem wr_rd {e : Option Eff} {h : Nat} (hh : h ∈ wrh e) : h ∈ rdh e := by
  cases e with
  | none => exact hh
  | some e => exact List.mem_append_right _ hh

theorem swap {i j : Nat} {ei ej : Option Eff} {s : LS} (hc : Compat all i ei j ej) (cj : Can P nt all j ej s) (ci : Can P nt all i ei (nxt all j ej s)) :
    Can P nt all i ei s ∧ Can P nt all j ej (nxt all i ei s) ∧ Eqv (nxt all i ei (nxt all j ej s)) (nxt all j ej (nxt all i ei s)) := by
  have cj' := cj
  have ci' := ci
  obtain ⟨oj, hoj, _⟩ := cj'
  obtain ⟨oi, hoi, _⟩ := ci'
  obtain ⟨a1, a2, a3⟩ := Oper.apart_spec (hc.apart oi oj hoi hoj)
  have e1 : ∀ t ∈ oi.looksAt all, ∀ o, all[j]? = some o → o.dst ≠ some t := fun t ht o ho hd => by
    rw [hoj] at ho; cases ho
    exact a3 t hd ht
  have e2 : ∀ t ∈ oj.looksAt all, ∀ o, all[i]? = some o → o.dst ≠ some t := fun t ht o ho hd => by
    rw [hoi] at ho; cases ho
    exact a1 t hd ht
  have ci0 : Can P nt all i ei s := ci.congr (fun o ho t ht => by rw [hoi] at ho; cases ho; exact nxt_env j ej s t (e1 t ht)) (fun h hh => nxt_blk cj s h fun hw => hc.two h hw hh) (fun h _ => nxt_free j ej s h)
  refine ⟨ci0, cj.congr (fun o ho t ht => by rw [hoj] at ho; cases ho; exact (nxt_env i ei s t (e2 t ht)).symm) (fun h hh => (nxt_blk ci0 s h fun hw => hc.one h hw hh).symm)
    (fun h hh => nxt_free2 i ei s h fun hw => hc.one h hw (wr_rd hh)), ?_⟩
  constructor
  · intro d
    by_cases hi : oi.dst = some d
    · have hj : ∀ o, all[j]? = some o → o.dst ≠ some d := fun o ho hd => by
        rw [hoj] at ho; cases ho
        exact a2 d hi hd
      rw [nxt_env j ej (nxt all i ei s) d hj]
      simp only [nxt, hoi, hoj]
      cases ei <;> simp only [LS.app, LS.skip, lk_put_eq hi]
    · have hi' : ∀ o, all[i]? = some o → o.dst ≠ some d := fun o ho hd => by
        rw [hoi] at ho; cases ho
        exact hi hd
      rw [nxt_env i ei _ d hi']
      by_cases hj : oj.dst = some d
      · simp only [nxt, hoj]
        cases ej <;> simp only [LS.app, LS.skip, lk_put_eq hj]
      · have hj' : ∀ o, all[j]? = some o → o.dst ≠ some d := fun o ho hd => by
          rw [hoj] at ho; cases ho
          exact hj hd
        rw [nxt_env j ej _ d hj', nxt_env j ej _ d hj', nxt_env i ei _ d hi']
  · intro h
    by_cases hi : h ∈ wrh ei
    · have hj : h ∉ wrh ej := fun hw => hc.two h hw (wr_rd hi)
      rw [nxt_blk cj (nxt all i ei s) h hj]
      exact nxt_blk_congr i ei _ _ h (nxt_blk cj s h hj)
    · rw [nxt_blk ci0 (nxt all j ej s) h hi]
      exact nxt_blk_congr j ej _ _ h (nxt_blk ci0 s h hi).symm
  · intro h
    simp only [nxt, hoi, hoj]
    cases ei <;> cases ej <;> simp [LS.free, LS.app, LS.skip, and_comm, and_left_comm, or_left_comm] <;> (constructor <;> intro hh <;> simp_all)
  · rw [nxt_dfs, nxt_dfs, nxt_dfs, nxt_dfs]

def Run (P : Program) (nt : Nat) (all : Array Oper) : List (Nat × Option Eff) → LS → LS → Prop
  | [], s, t => Eqv s t
  | (i, e) :: r, s, t => Can P nt all i e s ∧ Run P nt all r (nxt all i e s) t
theorem Run.congr : ∀ (r : List (Nat × Option Eff)) {s s' t : LS}, Eqv s s' → Run P nt all r s t → Run P nt all r s' t
  | [], _, _, _, h, k => h.symm.trans k
  | (i, e) :: r, _, _, _, h, ⟨c, k⟩ =>
    ⟨c.congr (fun _ _ t _ => h.env t) (fun x _ => h.blk x) (fun x _ => (h.free x).1), Run.congr r (nxt_congr i e h) k⟩
theorem Run.front : ∀ (p : List (Nat × Option Eff)) {i : Nat} {e : Option Eff} {q : List (Nat × Option Eff)} {s t : LS}, (∀ x ∈ p, Compat all i e x.1 x.2) → Run P nt all (p ++ (i, e) :: q) s t → Run P nt all ((i, e) :: (p ++ q)) s t
  | [], _, _, _, _, _, _, h => h
  | (j, ej) :: p, i, e, q, s, t, hc, ⟨cj, h⟩ => by
    obtain ⟨ci, h⟩ := Run.front p (fun x hx => hc x (List.mem_cons_of_mem _ hx)) h
    obtain ⟨c1, c2, c3⟩ := swap (hc (j, ej) List.mem_cons_self) cj ci
    exact ⟨c1, c2, Run.congr _ c3 h⟩
end
end Go.Lm
