/- The logical machine: what it says holds of the model. -/
import Derived.Test.YtnmnccboggljhaaGreatDoorLmE
import Derived.Scope
namespace Go.Lm
open Go Go.RowKit

theorem Eqv.setB {s : LS} {t : Nat} {p : Bool} (h : lk s.env t = some (.d (.b p))) : Eqv s (s.setB t p) :=
  ⟨fun d => by
    simp only [LS.setB, lk]
    split
    · rename_i e; subst e; exact h
    · rfl, fun _ => rfl, fun _ => Iff.rfl, rfl⟩
theorem settle_ge (l : List Nat) : ∀ (m : Nat), m ≤ l.foldl (fun m h => if m ≤ h then h + 1 else m) m ∧ ∀ x ∈ l, x < l.foldl (fun m h => if m ≤ h then h + 1 else m) m := by
  induction l with
  | nil => intro m; exact ⟨Nat.le_refl _, fun x hx => by cases hx⟩
  | cons y l ih =>
    intro m
    simp only [List.foldl_cons]
    have hy : m ≤ (if m ≤ y then y + 1 else m) ∧ y < (if m ≤ y then y + 1 else m) := by split <;> omega
    obtain ⟨h1, h2⟩ := ih (if m ≤ y then y + 1 else m)
    refine ⟨Nat.le_trans hy.1 h1, fun x hx => ?_⟩
    rcases List.mem_cons.1 hx with rfl | hx
    · exact Nat.lt_of_lt_of_le hy.2 h1
    · exact h2 x hx
theorem RelB.settle {C : Cx} {s : LS} {a : Act} {w : World} {β : Bt} {fz : Fz} (r : RelB C s a w β fz) : RelB C s.settle a w β fz :=
  { r with
    free := fun h ⟨h1, _⟩ => r.free h ⟨Nat.le_trans (settle_ge s.taken s.fresh).1 h1, fun h2 => by
      have h3 := (settle_ge s.taken s.fresh).2 h h2
      have h4 : s.settle.fresh ≤ h := h1
      simp only [LS.settle] at h4
      omega⟩
    dfs := r.dfs.to rfl (Bt.Le.refl _) (Fz.Le.refl _) fun D _ h2 h3 h4 => ⟨h2, h3, h4⟩ }
theorem RelB.drew {C : Cx} {s : LS} {a : Act} {w : World} {β : Bt} {fz : Fz} (r : RelB C s a w β fz) (n : Nat) : RelB C s a { w with drawn := n } β fz :=
  { r with
    hreps := fun h blk hb => (r.hreps h blk hb).frame (Bt.Le.refl _) (Fz.Le.refl _) (Nat.le_refl _) fun _ _ _ _ => ⟨rfl, fun _ => rfl⟩
    dfs := r.dfs.to rfl (Bt.Le.refl _) (Fz.Le.refl _) fun D _ h2 h3 h4 => ⟨h2, h3, h4⟩ }

theorem RelB.defer {C : Cx} {s : LS} {a : Act} {w : World} {β : Bt} {fz : Fz} (r : RelB C s a w β fz) {dst : Option Nat} (hd : ∀ d, dst = some d → d < C.nt) {x : Fn × List V × List V} {d : Deferred}
    (h : x.1 ≠ .method "" ∧ ∃ cap, d.target = .fn x.1 cap ∧ RepVs β fz x.2.1 cap ∧ RepVs β fz x.2.2 d.args) : RelB C { s with env := putE dst uV s.env, dfs := x :: s.dfs } ({ a with defers := d :: a.defers }.put dst undef) w β fz := by
  have r1 := r.skip hd
  refine { r1 with env := ?_, nt := ?_, dfs := ?_ }
  · intro t v hv
    obtain ⟨u, h1, h2⟩ := r1.env t v hv
    refine ⟨u, ?_, h2⟩
    cases dst <;> exact h1
  · have := r1.nt
    cases dst <;> exact this
  · have k := r.dfs
    have e : ({ a with defers := d :: a.defers }.put dst undef).defers = d :: a.defers := by cases dst <;> rfl
    rw [e]
    have ext : ∀ (l : List (Fn × List V × List V)) (ds : List Deferred), DRep β fz l ds → DRep β fz (x :: l) (d :: ds) := fun l ds k => by
      refine ⟨by simp [k.1], fun j y z p q => ?_⟩
      cases j with
      | zero => simp at p q; subst p; subst q; exact h
      | succ j => exact k.2 j y z (by simpa using p) (by simpa using q)
    rcases k with k | ⟨l, p, q, h1, h2, h3, h4⟩
    · exact .inl (ext _ _ k)
    · exact .inr ⟨x :: l, d :: p, q, by simp [h1], by simp [h2], ext _ _ h3, h4.to fun D _ q1 q2 q3 => ⟨q1, q2, q3⟩⟩

theorem sem_out {X : Cx} {F : Fx → LS → Prop} {a : Act} {w : World} {e : Exit} (he : e = .ret ∨ ∃ ch, e = .panic ch) : ∀ k : List It, sem X F [] e a w → sem X F k e a w
  | [], h => h
  | x :: k, h => by
    have ih := sem_out he k h
    rcases he with rfl | ⟨ch, rfl⟩ <;> cases x <;> exact ih
theorem sem_exit {X : Cx} {F : Fx → LS → Prop} {a : Act} {w : World} {id : Nat} : ∀ {k k' : List It}, popTo id k = some k' → sem X F k' .normal a w → sem X F k (.exit id) a w
  | [], _, h, _ => by cases h
  | x :: k, k', h, hs => by
    cases x with
    | blk j =>
      simp only [popTo] at h
      simp only [sem, Exit.inBlock]
      split at h
      · rename_i e; subst e; cases h; rw [if_pos rfl]; exact hs
      · rename_i e; rw [if_neg e]; exact sem_exit h hs
    | code c => exact sem_exit (k := k) h hs
    | ops _ _ _ _ _ => exact sem_exit (k := k) h hs
    | op1 _ _ _ _ _ _ => exact sem_exit (k := k) h hs
    | back B => exact sem_exit (k := k) h hs
theorem sem_code {X : Cx} {F : Fx → LS → Prop} (c : Code) (k : List It) : sem X F (.code c :: k) = Exit.then (c.wp X.P (sem X F k)) (sem X F k) := by
  funext e a w
  cases e <;> rfl

def It.plain : It → Prop
  | .ops _ _ _ _ _ | .op1 _ _ _ _ _ _ => False
  | _ => True
def Wf : List It → Prop
  | [] => True
  | x :: k => (match x with
    | .ops all i l _ draw => draw = false ∧ all.toList.drop i = l
    | .op1 all i o l _ draw => draw = false ∧ all.toList.drop i = o :: l
    | _ => True) ∧ ∀ y ∈ k, y.plain
theorem Wf.of_plain {k : List It} (h : ∀ y ∈ k, y.plain) : Wf k := by
  cases k with
  | nil => trivial
  | cons x k =>
    refine ⟨?_, fun y hy => h y (List.mem_cons_of_mem _ hy)⟩
    have := h x List.mem_cons_self
    cases x <;> first | trivial | exact this.elim
theorem drop_cons {all : Array Oper} {i : Nat} {o : Oper} {l : List Oper} (h : all.toList.drop i = o :: l) : all[i]? = some o ∧ all.toList.drop (i + 1) = l := by
  constructor
  · have : (all.toList.drop i)[0]? = some o := by rw [h]; rfl
    rw [List.getElem?_drop] at this
    simpa using this
  · rw [← List.tail_drop, h]; rfl

def ent (x : Nat × Option Eff) : Nat × List Nat × List Nat := (x.1, rdh x.2, wrh x.2)
theorem chkP_pairs {all : Array Oper} : ∀ {tr : List (Nat × List Nat × List Nat)}, chkP all tr = true → tr.Pairwise fun x y => reach all 9 y.1 x.1 = true ∨ compatB all x y = true
  | [], _ => .nil
  | x :: tr, h => by
    simp only [chkP, Bool.and_eq_true, List.all_eq_true, Bool.or_eq_true] at h
    exact .cons (fun y hy => (h.1 y hy).symm) (chkP_pairs h.2)
theorem compat_of {all : Array Oper} {x y : Nat × Option Eff} (h : compatB all (ent x) (ent y) = true) : Compat all x.1 x.2 y.1 y.2 := by
  simp only [compatB, ent, Bool.and_eq_true, List.all_eq_true, Bool.not_eq_true', List.contains_eq_mem, decide_eq_false_iff_not] at h
  obtain ⟨⟨h1, h2⟩, h3⟩ := h
  refine ⟨fun oi oj hi hj => ?_, fun z hz => h2 z hz, fun z hz => h3 z hz⟩
  simpa [apartB, hi, hj] using h1

theorem opOK {C : Cf} {s : LS} {i : Nat} {o : Oper} {c : Bool} {e : Eff} (hx : C.xo.run s (s.fresh + i) o = .one c e) (hd : dlt o.dst C.nt = true) (ht : s.fresh + i ∉ s.taken) (hc : c = true) : StepOK C.P C.nt s o e := by
  obtain ⟨h1, h2, h3, h4, h5, h6, h7⟩ := C.xo.ok s _ o c e hx hc
  exact ⟨h1, h2, h3, h4, h5, fun h hh => by rw [h6 h hh]; exact ⟨Nat.le_add_right _ _, ht⟩, h7, dlt_ok hd⟩

theorem guard_yes {all : Array Oper} {s : LS} {o : Oper} (h : guardOf all s o = .yes) : Guard all s o true := by
  unfold guardOf at h
  unfold Guard
  cases hg : o.guard with
  | none => rfl
  | some x =>
    obtain ⟨j, want⟩ := x
    simp only [hg] at h
    cases hj : gdst all j with
    | none => simp [hj] at h
    | some t =>
      simp only [hj] at h
      split at h <;> cases h
theorem guard_ask {all : Array Oper} {s : LS} {o : Oper} {t : Nat} {p want : Bool} (h : guardOf all s o = .ask t p want) : ∃ j, o.guard = some (j, want) ∧ gdst all j = some t ∧ lk s.env t = some (.d (.b p)) := by
  unfold guardOf at h
  cases hg : o.guard with
  | none => simp [hg] at h
  | some x =>
    obtain ⟨j, want⟩ := x
    simp only [hg] at h
    cases hj : gdst all j with
    | none => simp [hj] at h
    | some t =>
      simp only [hj] at h
      split at h
      · rename_i p hp
        cases h
        exact ⟨j, rfl, hj, hp⟩
      · cases h
      · cases h
theorem guard_no {all : Array Oper} {s : LS} {o : Oper} (h : guardOf all s o = .no) : Guard all s o false := by
  unfold guardOf at h
  unfold Guard
  cases hg : o.guard with
  | none => simp [hg] at h
  | some x =>
    obtain ⟨j, want⟩ := x
    simp only [hg] at h
    cases hj : gdst all j with
    | none => simp [hj] at h
    | some t =>
      simp only [hj] at h
      split at h
      · cases h
      · rename_i x hx
        exact ⟨t, hj, .inr ⟨⟨x, hx⟩, rfl⟩⟩
      · cases h
theorem guard_of {all : Array Oper} {s : LS} {o : Oper} {t : Nat} {p want : Bool} (h : guardOf all s o = .ask t p want) : Guard all s o (p == want) := by
  obtain ⟨j, h1, h2, h3⟩ := guard_ask h
  unfold Guard
  rw [h1]
  exact ⟨t, h2, .inl ⟨p, h3, rfl⟩⟩
theorem guard_setB {all : Array Oper} {s : LS} {o : Oper} {t : Nat} {p want : Bool} (h : guardOf all s o = .ask t p want) : Eqv s (s.setB t p) := by
  obtain ⟨j, h1, h2, h3⟩ := guard_ask h
  exact Eqv.setB h3
theorem Guard.eqv {all : Array Oper} {s s' : LS} {o : Oper} {b : Bool} (h : Guard all s o b) (he : Eqv s s') : Guard all s' o b := h.congr fun t _ => he.env t

theorem run_of_gx {C : Cf} {all : Array Oper} {k : List It} : ∀ (l : List Oper) (i : Nat) (tr : List (Nat × List Nat × List Nat)) (s : LS), all.toList.drop i = l → gx C (.ops all i l tr true :: k) s →
    ∃ r t, Run C.P C.nt all r s t ∧ r.map (·.1) = List.range' i l.length ∧ Chk all ((r.map ent).reverse ++ tr) ∧ gx C k t.settle
  | [], i, tr, s, _, h => by
    simp only [gx] at h
    exact ⟨[], s, Eqv.refl s, rfl, h.1 trivial, h.2⟩
  | o :: l, i, tr, s, hdr, h => by
    obtain ⟨ho, hdr'⟩ := drop_cons hdr
    have key : ∀ s', Eqv s' s → Guard all s' o true → gx C (.op1 all i o l tr true :: k) s' → ∃ r t, Run C.P C.nt all r s t ∧ r.map (·.1) = List.range' i (l.length + 1) ∧ Chk all ((r.map ent).reverse ++ tr) ∧ gx C k t.settle := fun s' he hg h => by
      have : ∃ e, StepOK C.P C.nt s' o e ∧ gx C (.ops all (i + 1) l ((i, rdh (some e), wrh (some e)) :: tr) true :: k) (s'.app o.dst e) := by
        rw [gx] at h
        split at h
        · rename_i c e hx
          exact ⟨e, opOK hx h.1.1 h.1.2.1 h.1.2.2, h.2⟩
        · cases h.1
        · cases h.1
        · rcases h with h | ⟨h, _⟩
          · exact h
          · cases h
        · rcases h with h | ⟨h, _⟩
          · exact h
          · cases h
      obtain ⟨e, h1, h2⟩ := this
      obtain ⟨r, t, k1, k2, k3, k4⟩ := run_of_gx l (i + 1) _ _ hdr' h2
      refine ⟨(i, some e) :: r, t, Run.congr _ he ⟨⟨o, ho, hg, h1⟩, ?_⟩, by simp [k2, List.range'_succ], by simpa [ent] using k3, k4⟩
      simp only [nxt, ho]
      exact k1
    simp only [List.length_cons]
    rw [gx] at h
    split at h
    · rename_i hg
      exact key s (Eqv.refl s) (guard_yes hg) h
    · rename_i t p want hg
      have hge := guard_of hg
      have hgs := guard_setB hg
      by_cases hpw : p = want
      · subst hpw
        rw [beq_self_eq_true] at hge
        exact key _ hgs.symm (hge.eqv hgs) (h.1 rfl)
      · have hpn : p = !want := by cases p <;> cases want <;> simp_all
        have hpf : (p == want) = false := by simpa using hpw
        rw [hpf] at hge
        obtain ⟨hd, h⟩ := h.2 hpn
        rw [← hpn] at h
        obtain ⟨r, t', k1, k2, k3, k4⟩ := run_of_gx l (i + 1) _ _ hdr' h
        refine ⟨(i, none) :: r, t', Run.congr _ hgs.symm ⟨⟨o, ho, hge.eqv hgs, dlt_ok hd⟩, ?_⟩, by simp [k2, List.range'_succ], by simpa [ent, rdh, wrh] using k3, k4⟩
        simp only [nxt, ho]
        exact k1
    · rename_i hg
      have hge := guard_no hg
      obtain ⟨hd, h⟩ := h
      obtain ⟨r, t', k1, k2, k3, k4⟩ := run_of_gx l (i + 1) _ _ hdr' h
      refine ⟨(i, none) :: r, t', ⟨⟨o, ho, hge, dlt_ok hd⟩, ?_⟩, by simp [k2, List.range'_succ], by simpa [ent, rdh, wrh] using k3, k4⟩
      simp only [nxt, ho]
      exact k1
    · exact h.elim

theorem sem_no {X : Cx} {F : Fx → LS → Prop} {a : Act} {w : World} {e : Exit} (he : e = .outgrown ∨ ∃ l, e = .goto l) : ∀ k : List It, ¬ sem X F k e a w
  | [], h => by rcases he with rfl | ⟨l, rfl⟩ <;> exact h
  | x :: k, h => by
    have ih := sem_no (X := X) (F := F) (a := a) (w := w) he k
    rcases he with rfl | ⟨l, rfl⟩ <;> cases x <;> exact ih h
theorem gx_sound {P : Program} {nt n0 : Nat} {xo : Xo P} {F : Fx → LS → Prop} (hmx : P.follows .mixedOrders = true) (X : Cx) (hP : X.P = P) (hnt : X.nt = nt) (hn0 : X.n0 = n0) :
    ∀ (n : Nat) (k : List It) (s : LS), ssize k ≤ n → Wf k → gx ⟨P, nt, n0, xo, F⟩ k s → ∀ a w, Rel X s a w → sem X F k .normal a w := by
  subst hP; subst hnt; subst hn0
  have base : ∀ (k : List It) (s : LS) (a : Act) (w : World), F .ret s → Rel X s a w → sem X F k .ret a w := fun k s a w h r => sem_out (.inl rfl) k ⟨s, h, r⟩
  intro n
  induction n with
  | zero =>
    intro k s hn
    cases k with
    | nil => exact fun _ h a w r => ⟨s, by rw [gx] at h; exact h, r⟩
    | cons x k =>
      rw [ssize_cons] at hn
      have : 0 < x.size := by cases x <;> simp [It.size]
      omega
  | succ n ih =>
    intro k s hn hw h a w r
    cases k with
    | nil => exact ⟨s, by rw [gx] at h; exact h, r⟩
    | cons x k =>
      obtain ⟨hx, hk⟩ := hw
      have hwk : Wf k := Wf.of_plain hk
      rw [ssize_cons] at hn
      cases x with
      | blk id =>
        rw [gx] at h
        exact ih k s (by simp [It.size] at hn; omega) hwk h a w r
      | back B =>
        rw [gx] at h
        exact ⟨s, h, r⟩
      | op1 all i o l tr draw =>
        obtain ⟨rfl, hdr⟩ := hx
        obtain ⟨ho, hdr'⟩ := drop_cons hdr
        have key : ∀ e, StepOK X.P X.nt s o e → gx ⟨X.P, X.nt, X.n0, xo, F⟩ (.ops all (i + 1) l ((i, rdh (some e), wrh (some e)) :: tr) false :: k) (s.app o.dst e) → sem X F (.op1 all i o l tr false :: k) .normal a w := fun e he h => by
          obtain ⟨β, fz, r⟩ := r
          exact he.sound r fun a' w' β' fz' r' => ih (.ops all (i + 1) l ((i, rdh (some e), wrh (some e)) :: tr) false :: k) _ (by rw [ssize_cons]; simp [It.size] at hn ⊢; omega) ⟨⟨rfl, hdr'⟩, hk⟩ h a' w' ⟨β', fz', r'⟩
        have leaf : ((∃ e, StepOK X.P X.nt s o e ∧ gx ⟨X.P, X.nt, X.n0, xo, F⟩ (.ops all (i + 1) l ((i, rdh (some e), wrh (some e)) :: tr) false :: k) (s.app o.dst e)) ∨ (false = false ∧ ∃ d, PanOK X.P s o d ∧ F (.pan d) s)) → sem X F (.op1 all i o l tr false :: k) .normal a w := fun h => by
          rcases h with ⟨e, h1, h2⟩ | ⟨_, d, h1, h2⟩
          · exact key e h1 h2
          · obtain ⟨β, fz, r⟩ := r
            refine h1 β fz X.own a w r.ok (fun k hk => .inl (Nat.le_trans r.size hk)) (fun x v hx => evOK r hx) _ _ fun v fz' w' p hv => ?_
            refine sem_out (.inr ⟨_, rfl⟩) k ⟨s, d, v, β, fz', h2, rfl, ?_, hv⟩
            have := p.rel (e := ⟨[], [], [], [], [], .u⟩) (dst := none) r (fun d e => by cases e) (fun x hx => by cases hx) (fun x hx => by cases hx)
            exact this.congr ⟨fun _ => rfl, fun _ => rfl, fun _ => by simp [LS.free, LS.app], rfl⟩
        rw [gx] at h
        split at h
        · rename_i c e hx
          exact key e (opOK (C := ⟨X.P, X.nt, X.n0, xo, F⟩) hx h.1.1 h.1.2.1 h.1.2.2) h.2
        · rename_i d hx
          exact leaf (.inr ⟨rfl, d, xo.okp _ _ _ _ hx, h.2⟩)
        · rename_i x hx
          obtain ⟨_, hd, h⟩ := h
          obtain ⟨β, fz, r⟩ := r
          obtain ⟨d, hrun, q0, cap, q1, q2, q3⟩ := xo.okd _ _ _ _ hx β fz a w (fun x v hx => evOK r hx)
          show Oper.wp X.P o a w (wpOps X.P all (sem X F k) (List.range' (i + 1) l.length)) (sem X F k)
          unfold Oper.wp
          rw [hrun, Oper.upon_defer]
          exact ih (.ops all (i + 1) l ((i, [], []) :: tr) false :: k) _ (by rw [ssize_cons]; simp [It.size] at hn ⊢; omega) ⟨⟨rfl, hdr'⟩, hk⟩ h _ w ⟨β, fz, r.defer (dlt_ok hd) ⟨q0, cap, q1, q2, q3⟩⟩
        · exact leaf h
        · exact leaf h
      | ops all i l tr draw =>
        obtain ⟨rfl, hdr⟩ := hx
        cases l with
        | nil =>
          rw [gx] at h
          obtain ⟨β, fz, r⟩ := r
          exact ih k s.settle (by simp [It.size] at hn; omega) hwk h.2 a w ⟨β, fz, r.settle⟩
        | cons o l =>
          obtain ⟨ho, hdr'⟩ := drop_cons hdr
          show wpOps X.P all (sem X F k) (List.range' i (l.length + 1)) a w
          rw [List.range'_succ, wpOps_cons]
          rw [gx] at h
          obtain ⟨β, fz, r⟩ := r
          have yes : ∀ s', RelB X s' a w β fz → Guard all s' o true → gx ⟨X.P, X.nt, X.n0, xo, F⟩ (.op1 all i o l tr false :: k) s' → wpOp X.P all (sem X F k) i (wpOps X.P all (sem X F k) (List.range' (i + 1) l.length)) a w := fun s' r' hg h => by
            unfold wpOp
            simp only [ho, guard_wanted r' hg, if_true]
            exact .inl (ih (.op1 all i o l tr false :: k) s' (by rw [ssize_cons]; simp [It.size] at hn ⊢; omega) ⟨⟨rfl, hdr⟩, hk⟩ h a w ⟨β, fz, r'⟩)
          split at h
          · rename_i hg
            exact yes s r (guard_yes hg) h
          · rename_i t p want hg
            have hge := guard_of hg
            have hgs := guard_setB hg
            by_cases hpw : p = want
            · subst hpw
              rw [beq_self_eq_true] at hge
              exact yes _ (r.congr hgs) (hge.eqv hgs) (h.1 rfl)
            · have hpn : p = !want := by cases p <;> cases want <;> simp_all
              have hpf : (p == want) = false := by simpa using hpw
              rw [hpf] at hge
              obtain ⟨hd, h⟩ := h.2 hpn
              rw [← hpn] at h
              unfold wpOp
              simp only [ho, guard_wanted r hge, Bool.false_eq_true, if_false]
              exact ih (.ops all (i + 1) l ((i, [], []) :: tr) false :: k) _ (by rw [ssize_cons]; simp [It.size] at hn ⊢; omega) ⟨⟨rfl, hdr'⟩, hk⟩ h _ w ⟨β, fz, (r.congr hgs).skip (dlt_ok hd)⟩
          · rename_i hg
            obtain ⟨hd, h⟩ := h
            unfold wpOp
            simp only [ho, guard_wanted r (guard_no hg), Bool.false_eq_true, if_false]
            exact ih (.ops all (i + 1) l ((i, [], []) :: tr) false :: k) _ (by rw [ssize_cons]; simp [It.size] at hn ⊢; omega) ⟨⟨rfl, hdr'⟩, hk⟩ h _ w ⟨β, fz, r.skip (dlt_ok hd)⟩
          · exact h.elim
      | code c =>
        have sub : ∀ (k' : List It) (s' : LS), ssize k' ≤ n → (∀ y ∈ k', y.plain) → gx ⟨X.P, X.nt, X.n0, xo, F⟩ k' s' → ∀ a w, Rel X s' a w → sem X F k' .normal a w := fun k' s' h1 h2 h3 => ih k' s' h1 (Wf.of_plain h2) h3
        have pl1 : ∀ c : Code, ∀ y ∈ (It.code c :: k), y.plain := fun c y hy => by
          rcases List.mem_cons.1 hy with rfl | hy
          · trivial
          · exact hk y hy
        show c.wp X.P (sem X F k) a w
        cases c with
        | skip =>
          rw [gx] at h
          exact wp_skip (sub k s (by simp [It.size] at hn; omega) hk h a w r)
        | label l =>
          rw [gx] at h
          exact wp_label (sub k s (by simp [It.size] at hn; omega) hk h a w r)
        | seq x y =>
          rw [gx] at h
          refine wp_seq ?_
          rw [← sem_code]
          refine sub (.code x :: .code y :: k) s (by simp only [ssize_cons, It.size, csize] at hn ⊢; omega) ?_ h a w r
          intro z hz
          rcases List.mem_cons.1 hz with rfl | hz
          · trivial
          · exact pl1 y z hz
        | block id c =>
          rw [gx] at h
          refine wp_block ?_
          refine sub (.code c :: .blk id :: k) s (by simp only [ssize_cons, It.size, csize] at hn ⊢; omega) ?_ h a w r
          intro z hz
          rcases List.mem_cons.1 hz with rfl | hz
          · trivial
          · rcases List.mem_cons.1 hz with rfl | hz
            · trivial
            · exact hk z hz
        | exit id =>
          rw [gx] at h
          refine wp_exit ?_
          split at h
          · rename_i k' hp
            have hpl : ∀ {k k' : List It}, (∀ y ∈ k, y.plain) → popTo id k = some k' → ∀ y ∈ k', y.plain := by
              intro k
              induction k with
              | nil => intro k' _ h; cases h
              | cons x k ih =>
                intro k' hk h
                have : popTo id k = some k' ∨ k' = k := by
                  cases x <;> simp only [popTo] at h <;> first | exact .inl h | skip
                  split at h
                  · cases h; exact .inr rfl
                  · exact .inl h
                rcases this with h | rfl
                · exact ih (fun y hy => hk y (List.mem_cons_of_mem _ hy)) h
                · exact fun y hy => hk y (List.mem_cons_of_mem _ hy)
            exact sem_exit hp (sub k' s (by have := popTo_size hp; simp only [It.size, csize] at hn; omega) (hpl hk hp) h a w r)
          · exact h.elim
        | ret =>
          rw [gx] at h
          exact wp_ret (base k s a w h r)
        | cond x y z =>
          cases x with
          | tmp t =>
            rw [gx] at h
            split at h
            · rename_i p hp
              obtain ⟨β, fz, r⟩ := r
              have he : a.eval (.tmp t) = .bool p := by
                have := evOK r (x := .tmp t) hp
                generalize a.eval (.tmp t) = v at this ⊢
                cases this with
                | d h => cases h; rfl
              refine wp_cond_split he (fun e => ?_) (fun e => ?_)
              · subst e
                exact sub (.code y :: k) _ (by simp only [ssize_cons, It.size, csize] at hn ⊢; omega) (pl1 y) (h.1 rfl) a w ⟨β, fz, r.congr (Eqv.setB hp)⟩
              · subst e
                exact sub (.code z :: k) _ (by simp only [ssize_cons, It.size, csize] at hn ⊢; omega) (pl1 z) (h.2 rfl) a w ⟨β, fz, r.congr (Eqv.setB hp)⟩
            · exact h.elim
          | const v =>
            cases v with
            | bool p =>
              rw [gx] at h
              refine wp_cond_split (t := p) rfl (fun e => ?_) (fun e => ?_)
              · exact sub (.code y :: k) _ (by simp only [ssize_cons, It.size, csize] at hn ⊢; omega) (pl1 y) (h.1 e) a w r
              · exact sub (.code z :: k) _ (by simp only [ssize_cons, It.size, csize] at hn ⊢; omega) (pl1 z) (h.2 e) a w r
            | _ => simp only [gx] at h; exact h X rfl rfl rfl a w r
          | _ => simp only [gx] at h; exact h X rfl rfl rfl a w r
        | region id ops draw =>
          rw [gx] at h
          cases draw with
          | false =>
            refine wp_region ?_
            rw [List.range_eq_range']
            have := ih (.ops ops 0 ops.toList [] false :: k) s (by rw [ssize_cons]; simp only [It.size, csize, Array.length_toList] at hn ⊢; omega) ⟨⟨rfl, rfl⟩, hk⟩ h a w r
            simpa [sem] using this
          | true =>
            obtain ⟨rr, t, k1, k2, k3, k4⟩ := run_of_gx ops.toList 0 [] s rfl h
            simp only [List.append_nil, Chk, Bool.and_eq_true] at k3
            refine wp_region_any hmx ?_
            have hed : ∀ i, ∀ e ∈ pre ops i, e < i := fun i e he => by
              have h1 := k3.1
              simp only [edgesB, List.all_eq_true, List.mem_range, decide_eq_true_eq] at h1
              by_cases hi : i < ops.size
              · exact h1 i hi e he
              · simp [pre, Array.getElem?_eq_none (show ops.size ≤ i by omega)] at he
            have hpw := chkP_pairs k3.2
            rw [List.pairwise_reverse, List.pairwise_map] at hpw
            have hlen : rr.length = ops.size := by
              have := congrArg List.length k2
              simpa using this
            refine any_of_run hed (t := t) (fun a' w' ⟨β, fz, r'⟩ => sub k t.settle (by simp only [It.size, csize] at hn; omega) hk k4 a' w' ⟨β, fz, r'.settle⟩) ops.size _ rr s a _ ?_ k1 (by omega) (by simp) ?_ ?_ ?_ ?_
            · obtain ⟨β, fz, r⟩ := r
              exact ⟨β, fz, r.drew _⟩
            · intro i
              rw [k2]
              simp [List.mem_range', Array.getElem?_replicate]
            · intro i hi
              simp [Array.getElem?_replicate] at hi
            · rw [k2]
              exact List.pairwise_lt_range' ..
            · refine hpw.imp fun {x y} h => ?_
              rcases h with h | h
              · exact .inl h
              · exact .inr (compat_of h)
        | loop c => simp only [gx] at h; exact h X rfl rfl rfl a w r
        | rangeFunc f ps x y => simp only [gx] at h; exact h X rfl rfl rfl a w r
        | scope c =>
          rw [gx] at h
          refine wp_scope_straight (wp_mono (show c.wp X.P (sem X F k) a w from sub (.code c :: k) s (by rw [ssize_cons]; simp only [It.size, csize] at hn ⊢; omega) (pl1 c) h a w r) fun e a' w' he => ?_)
          cases e with
          | goto l => exact (sem_no (.inr ⟨l, rfl⟩) k he).elim
          | _ => exact he
        | goto l => simp only [gx] at h; exact h X rfl rfl rfl a w r
        | refuse y => simp only [gx] at h; exact h X rfl rfl rfl a w r
end Go.Lm
