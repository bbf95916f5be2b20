/- The logical machine: its steps as equations; calls; loops. -/
import Derived.Test.YtnmnccboggljhaaGreatDoorLmP
set_option linter.constructorNameAsVariable false
namespace Go.Lm
open Go Go.RowKit

/-! ### leaves -/
def XS (C : Cf) (all : Array Oper) (i : Nat) (o : Oper) (l : List Oper) (tr : List (Nat × List Nat × List Nat)) (draw : Bool) (k : List It) (s : LS) : Prop :=
  (∃ e, StepOK C.P C.nt s o e ∧ gx C (.ops all (i + 1) l ((i, rdh (some e), wrh (some e)) :: tr) draw :: k) (s.app o.dst e)) ∨ (draw = false ∧ ∃ d, PanOK C.P s o d ∧ C.F (.pan d) s)
/-- a call: what is called, with what -/
def XC (C : Cf) (g : FuncId) (args : List V) (ds : Option (List D)) (vals : List V) (all : Array Oper) (i : Nat) (o : Oper) (l : List Oper) (tr : List (Nat × List Nat × List Nat)) (draw : Bool) (k : List It) (s : LS) : Prop :=
  C.xo.run s (s.fresh + i) o = .call g args vals → ds = V.toD.toDs args → XS C all i o l tr draw k s
def stepX (C : Cf) (all : Array Oper) (i : Nat) (o : Oper) (l : List Oper) (tr : List (Nat × List Nat × List Nat)) (draw : Bool) (k : List It) (s : LS) : XR → Prop
  | .one c e => (dlt o.dst C.nt = true ∧ s.fresh + i ∉ s.taken ∧ c = true) ∧ gx C (.ops all (i + 1) l ((i, rdh (some e), wrh (some e)) :: tr) draw :: k) (s.app o.dst e)
  | .call g args vals => XC C g args (V.toD.toDs args) vals all i o l tr draw k s
  | .pan d => draw = false ∧ C.F (.pan d) s
  | .dfr x => draw = false ∧ dlt o.dst C.nt = true ∧ gx C (.ops all (i + 1) l ((i, [], []) :: tr) draw :: k) { s with env := putE o.dst uV s.env, dfs := x :: s.dfs }
  | .none => XS C all i o l tr draw k s
def askX (C : Cf) (all : Array Oper) (i : Nat) (o : Oper) (l : List Oper) (tr : List (Nat × List Nat × List Nat)) (draw : Bool) (k : List It) (s : LS) : GR → Prop
  | .yes => gx C (.op1 all i o l tr draw :: k) s
  | .ask t p want => (p = want → gx C (.op1 all i o l tr draw :: k) (s.setB t want)) ∧ (p = !want → dlt o.dst C.nt = true ∧ gx C (.ops all (i + 1) l ((i, [], []) :: tr) draw :: k) ((s.setB t (!want)).skip o.dst))
  | .no => dlt o.dst C.nt = true ∧ gx C (.ops all (i + 1) l ((i, [], []) :: tr) draw :: k) (s.skip o.dst)
  | .bad => False
def condX (C : Cf) (t : Nat) (a b : Code) (k : List It) (s : LS) : Option V → Prop
  | some (.d (.b p)) => (p = true → gx C (.code a :: k) (s.setB t true)) ∧ (p = false → gx C (.code b :: k) (s.setB t false))
  | _ => False
def exitX (C : Cf) (s : LS) : Option (List It) → Prop
  | some k => gx C k s
  | none => False
def endX (C : Cf) (all : Array Oper) (tr : List (Nat × List Nat × List Nat)) (k : List It) (s : LS) : Bool → Prop
  | true => Chk all tr ∧ gx C k s.settle
  | false => gx C k s.settle

section
variable (C : Cf) (k : List It) (s : LS)
theorem gx_nil : gx C [] s = C.F .ret s := by rw [gx]
theorem gx_blk (id : Nat) : gx C (.blk id :: k) s = gx C k s := by rw [gx]
theorem gx_back (B : LS → Prop) : gx C (.back B :: k) s = B s := by rw [gx]
theorem gx_skip : gx C (.code .skip :: k) s = gx C k s := by rw [gx]
theorem gx_label (l : Nat) : gx C (.code (.label l) :: k) s = gx C k s := by rw [gx]
theorem gx_seq (a b : Code) : gx C (.code (.seq a b) :: k) s = gx C (.code a :: .code b :: k) s := by rw [gx]
theorem gx_block (id : Nat) (c : Code) : gx C (.code (.block id c) :: k) s = gx C (.code c :: .blk id :: k) s := by rw [gx]
theorem gx_scope (c : Code) : gx C (.code (.scope c) :: k) s = gx C (.code c :: k) s := by rw [gx]
theorem gx_exit (id : Nat) : gx C (.code (.exit id) :: k) s = exitX C s (popTo id k) := by
  rw [gx]
  split <;> (rename_i h; rw [h]; rfl)
theorem gx_ret : gx C (.code .ret :: k) s = C.F .ret s := by rw [gx]
theorem gx_cond (t : Nat) (a b : Code) : gx C (.code (.cond (.tmp t) a b) :: k) s = condX C t a b k s (lk s.env t) := by
  rw [gx]
  unfold condX
  rfl
theorem gx_region (id : Nat) (ops : Array Oper) (draw : Bool) : gx C (.code (.region id ops draw) :: k) s = gx C (.ops ops 0 ops.toList [] draw :: k) s := by rw [gx]
theorem gx_loop (c : Code) : gx C (.code (.loop c) :: k) s = Leaf C (.loop c) k s := by simp only [gx]
theorem gx_end (all : Array Oper) (i : Nat) (tr : List (Nat × List Nat × List Nat)) (draw : Bool) : gx C (.ops all i [] tr draw :: k) s = endX C all tr k s draw := by
  rw [gx]
  cases draw <;> simp [endX]
theorem gx_ops (all : Array Oper) (i : Nat) (o : Oper) (l : List Oper) (tr : List (Nat × List Nat × List Nat)) (draw : Bool) : gx C (.ops all i (o :: l) tr draw :: k) s = askX C all i o l tr draw k s (guardOf all s o) := by
  rw [gx]
  unfold askX
  rfl
theorem gx_op1 (all : Array Oper) (i : Nat) (o : Oper) (l : List Oper) (tr : List (Nat × List Nat × List Nat)) (draw : Bool) : gx C (.op1 all i o l tr draw :: k) s = stepX C all i o l tr draw k s (C.xo.run s (s.fresh + i) o) := by
  rw [gx]
  generalize hr : C.xo.run s (s.fresh + i) o = r
  cases r with
  | none => rfl
  | one c e => rfl
  | pan d => rfl
  | dfr x => rfl
  | call g args vals =>
    apply propext
    exact ⟨fun h _ _ => h, fun h => h hr rfl⟩
end

/-! ### calls -/
theorem xoRun_call {P : Program} {s : LS} {new : Nat} {o : Oper} {g : FuncId} {args vals : List V} (h : xoRun P s new o = .call g args vals) : CallOK P s o g args vals := by
  obtain ⟨dst, op, type, pos, after, guard⟩ := o
  have key : ∃ c, op = .call c := by
    unfold xoRun at h
    split at h
    all_goals first
      | (rename_i x hop; exact ⟨x, by simpa using hop⟩)
      | (cases h; done)
      | (unfold xoDfr at h; (repeat' split at h) <;> cases h; done)
      | (unfold xoLoad at h; (repeat' split at h) <;> cases h; done)
      | (unfold xoStore at h; (repeat' split at h) <;> cases h; done)
      | (unfold xoBin at h; (repeat' split at h) <;> cases h; done)
      | (unfold xoIdx at h; (repeat' split at h) <;> cases h; done)
      | (unfold xoIndex at h; (repeat' split at h) <;> cases h; done)
      | ((repeat' split at h) <;> cases h; done)
  obtain ⟨⟨callee, args', tys⟩, rfl⟩ := key
  simp only [xoRun] at h
  cases callee with
  | builtin b =>
    simp only [xoCall] at h
    cases b <;> simp only at h <;> first | cases h | (repeat' split at h) <;> cases h
  | value fo =>
    simp only [xoCall] at h
    split at h
    · rename_i fv vs hfv hvs
      split at h
      · rename_i g' a c hc
        cases h
        have hops : (Op.call { callee := .value fo, args := args', argTypes := tys }).operands = (fo :: args'.toList).toArray := by simp [Op.operands, Call.operands]
        obtain ⟨v1, v2⟩ := valsL (s := s) hops (vs := fv :: vs) (by simp [LS.evs, hfv, hvs])
        refine ⟨v1, v2, fun β fz ac w hv => ?_⟩
        have r0 := hv 0 fo fv (by simp only; rw [hops]; rfl) rfl
        obtain ⟨ua, uc, hu, ra, rc⟩ := calleeV_ok r0 hc
        have rvs : RepL β fz vs (args'.map ac.eval).toList := by
          obtain ⟨k1, _⟩ := evs_ok hvs
          refine ⟨by simp at k1 ⊢; omega, fun j d u q1 q2 => ?_⟩
          rw [Array.toList_map, List.getElem?_map, Option.map_eq_some_iff] at q2
          obtain ⟨x, q2, rfl⟩ := q2
          exact hv (j + 1) x d (by simp only; rw [hops, List.getElem?_toArray, List.getElem?_cons_succ]; exact q2) q1
        have hall : RepVs β fz (a ++ vs ++ c) (ua ++ args'.map ac.eval ++ uc) := by
          have := ((ra.append rvs).append rc).arr
          have e : (ua.toList ++ (args'.map ac.eval).toList ++ uc.toList).toArray = ua ++ args'.map ac.eval ++ uc := by apply Array.ext'; simp
          rwa [e] at this
        refine ⟨_, ?_, hall⟩
        show (do let d ← resolve ac.eval { callee := .value fo, args := args', argTypes := tys } type; invoke d.target d.args : Sem Next).run P w = _
        simp only [resolve, hu, Deferred.ofValue, Sem.run_bind, Sem.run_pure, Result.andThen_ok, invoke]
      · cases h
    · cases h
  | invoke rv m =>
    simp only [xoCall] at h
    split at h
    · rename_i t d vs hr hvs
      split at h
      · rename_i g' hm
        cases h
        have hops : (Op.call { callee := .invoke rv m, args := args', argTypes := tys }).operands = (rv :: args'.toList).toArray := by simp [Op.operands, Call.operands]
        obtain ⟨v1, v2⟩ := valsL (s := s) hops (vs := .d (.ifc t d) :: vs) (by simp [LS.evs, hr, hvs])
        refine ⟨v1, v2, fun β fz ac w hv => ?_⟩
        have r0 := hv 0 rv _ (by simp only; rw [hops]; rfl) rfl
        have rvs : RepL β fz vs (args'.map ac.eval).toList := by
          obtain ⟨k1, _⟩ := evs_ok hvs
          refine ⟨by simp at k1 ⊢; omega, fun j d u q1 q2 => ?_⟩
          rw [Array.toList_map, List.getElem?_map, Option.map_eq_some_iff] at q2
          obtain ⟨x, q2, rfl⟩ := q2
          exact hv (j + 1) x d (by simp only; rw [hops, List.getElem?_toArray, List.getElem?_cons_succ]; exact q2) q1
        generalize hu : ac.eval rv = u at r0
        cases r0 with
        | d r0 =>
          cases r0 with
          | @ifc _ _ u r0 =>
            have hall : RepVs β fz (.d d :: vs) (#[u] ++ args'.map ac.eval) := by
              have := ((RepL.one (RepV.d r0)).append rvs).arr
              have e : ([u] ++ (args'.map ac.eval).toList).toArray = #[u] ++ args'.map ac.eval := by apply Array.ext'; simp
              rwa [e] at this
            refine ⟨_, ?_, hall⟩
            show (do let d ← resolve ac.eval { callee := .invoke rv m, args := args', argTypes := tys } type; invoke d.target d.args : Sem Next).run P w = _
            have hx : (#[Value.iface t u] ++ args'.map ac.eval).extract 1 (#[Value.iface t u] ++ args'.map ac.eval).size = args'.map ac.eval := by
              apply Array.ext'
              simp
              rw [List.take_of_length_le (by simp)]
            have hp : (program : Sem Program).run P w = .ok P w := rfl
            simp only [resolve, hu, Sem.run_bind, Sem.run_pure, Result.andThen_ok, invoke]
            have h0 : (#[Value.iface t u] ++ args'.map ac.eval)[0]? = some (.iface t u) := by
              rw [Array.getElem?_append_left (by simp)]
              rfl
            rw [h0]
            simp only [callMethod, Sem.run_bind, hp, Result.andThen_ok, hx]
            rw [run_method_any hm]
            rfl
      · cases h
    · cases h
/-- a contract, with the door through which the function is entered -/
def LSpec (P : Program) (g : FuncId) (ds : List D) (o : LO) : Prop := Enters P g ∧ SpecP P g ds o
section
variable {P : Program} {nt n0 : Nat} {F : Fx → LS → Prop} {g : FuncId} {args vals : List V} {ds : List D} {all : Array Oper} {i : Nat} {o : Oper} {l : List Oper} {tr : List (Nat × List Nat × List Nat)} {draw : Bool} {k : List It} {s : LS}
theorem XC.gen (rd hp out : List (Nat × Blk)) (news : List Nat) (r : V) (hg : Enters P g) (hsp : SpecH P g args rd hp news out r) (hrd : ∀ x ∈ rd, s.blk x.1 = some x.2) (hhp : ∀ x ∈ hp, s.blk x.1 = some x.2) (hnews : ∀ h ∈ news, s.free h)
    (houts : ∀ x ∈ out, x.1 ∈ news ∨ ∃ z ∈ hp, z.1 = x.1) (hd : dlt o.dst nt = true) {d : Option (List D)}
    (h : gx ⟨P, nt, n0, xo P, F⟩ (.ops all (i + 1) l ((i, rdh (some ⟨vals, rd, hp, news, out, r⟩), wrh (some ⟨vals, rd, hp, news, out, r⟩)) :: tr) draw :: k) (s.app o.dst ⟨vals, rd, hp, news, out, r⟩)) :
    XC ⟨P, nt, n0, xo P, F⟩ g args d vals all i o l tr draw k s := by
  intro hr _
  exact .inl ⟨_, stepCall (xoRun_call hr) hg hsp hrd hhp hnews houts hd, h⟩
theorem XC.p {r : D} (hsp : LSpec P g ds (.ret r)) (hd : dlt o.dst nt = true)
    (h : gx ⟨P, nt, n0, xo P, F⟩ (.ops all (i + 1) l ((i, [], []) :: tr) draw :: k) ⟨putE o.dst (.d r) s.env, s.heap, s.fresh, s.taken, s.dfs⟩) : XC ⟨P, nt, n0, xo P, F⟩ g args (some ds) vals all i o l tr draw k s := by
  intro hr ht
  exact XC.gen [] [] [] [] (.d r) hsp.1 (hsp.2.toH ht.symm) (fun x hx => by cases hx) (fun x hx => by cases hx) (fun x hx => by cases hx) (fun x hx => by cases hx) hd (d := some ds) h hr ht
theorem XC.pan {d : D} (hsp : LSpec P g ds (.pan d)) (h : F (.pan d) s) : XC ⟨P, nt, n0, xo P, F⟩ g args (some ds) vals all i o l tr false k s := by
  intro hr ht
  obtain ⟨v1, v2, v3⟩ := xoRun_call hr
  refine .inr ⟨rfl, d, ?_, h⟩
  intro β fz own ac w hok hown hv' next Q hQ
  obtain ⟨us, hrun, hall⟩ := v3 β fz ac w fun j x v h1 h2 => hv' x v (v2 j x v h1 h2)
  unfold Oper.wp
  rw [hrun, hsp.1 us w, Oper.upon_enter]
  refine (hsp.2 fz w _ hok (toDs_rep _ ht.symm hall)).mono fun e w' ⟨fz', u, hB, k1, k2, k3, k4, k5⟩ => ?_
  subst k4
  refine hQ u fz' w' ?_ k5
  exact {
    ble := Bt.Le.refl _
    bnew := fun _ _ => rfl
    fle := k1
    ffr := fun b hb _ => k2 b hb
    ok := k3
    os := hB.os
    tape := hB.tape
    output := hB.output
    size := hB.size
    frame := fun b hb _ => hB.block b hb
    hreps := fun x hx => by cases hx
    blks := fun x hx => by cases hx
    inj := fun h h' y y' k ⟨x, hx, _⟩ => by cases hx
    v := .u _ }
end

section
variable {P : Program} {nt n0 : Nat} {F : Fx → LS → Prop} {g : FuncId} {args vals : List V} {ds : List D} {all : Array Oper} {i : Nat} {o : Oper} {l : List Oper} {tr : List (Nat × List Nat × List Nat)} {draw : Bool} {k : List It} {s : LS}
/-- a function without a body: what it gives -/
def Direct (P : Program) (g : FuncId) (ds : List D) (r : D) : Prop := ∀ (fz : Fz) (w : World) (us : Array Value), RepDs fz ds us → ∃ u, (callFunc g us).run P w = .ok (.value u) w ∧ RepD fz r u
theorem XC.ext {r : D} (hsp : Direct P g ds r) (hd : dlt o.dst nt = true)
    (h : gx ⟨P, nt, n0, xo P, F⟩ (.ops all (i + 1) l ((i, [], []) :: tr) draw :: k) ⟨putE o.dst (.d r) s.env, s.heap, s.fresh, s.taken, s.dfs⟩) : XC ⟨P, nt, n0, xo P, F⟩ g args (some ds) vals all i o l tr draw k s := by
  intro hr ht
  obtain ⟨v1, v2, v3⟩ := xoRun_call hr
  refine .inl ⟨⟨vals, [], [], [], [], .d r⟩, ⟨?_, v1, v2, (fun x hx => by cases hx), (fun x hx => by cases hx), (fun x hx => by cases hx), (fun x hx => by cases hx), dlt_ok hd⟩, h⟩
  refine OpT.val fun β fz own a w _ _ hv => ?_
  obtain ⟨us, hrun, hall⟩ := v3 β fz a w hv
  obtain ⟨u, h1, h2⟩ := hsp fz w us (toDs_rep args ht.symm hall)
  exact ⟨u, hrun.trans h1, .d h2⟩
end
/-! ### guards and tests -/
theorem ask_intro {C : Cf} {all : Array Oper} {i : Nat} {o : Oper} {l : List Oper} {tr : List (Nat × List Nat × List Nat)} {draw : Bool} {k : List It} {s : LS} {t : Nat} {p want : Bool}
    (h1 : p = true → askX C all i o l tr draw k s (.ask t true want)) (h2 : p = false → askX C all i o l tr draw k s (.ask t false want)) : askX C all i o l tr draw k s (.ask t p want) := by
  cases p
  · exact h2 rfl
  · exact h1 rfl
theorem ask_tt (C : Cf) (all : Array Oper) (i : Nat) (o : Oper) (l : List Oper) (tr : List (Nat × List Nat × List Nat)) (draw : Bool) (k : List It) (s : LS) (t : Nat) : askX C all i o l tr draw k s (.ask t true true) = gx C (.op1 all i o l tr draw :: k) (s.setB t true) := by
  simp [askX]
theorem ask_ff (C : Cf) (all : Array Oper) (i : Nat) (o : Oper) (l : List Oper) (tr : List (Nat × List Nat × List Nat)) (draw : Bool) (k : List It) (s : LS) (t : Nat) : askX C all i o l tr draw k s (.ask t false false) = gx C (.op1 all i o l tr draw :: k) (s.setB t false) := by
  simp [askX]
theorem ask_tf (C : Cf) (all : Array Oper) (i : Nat) (o : Oper) (l : List Oper) (tr : List (Nat × List Nat × List Nat)) (draw : Bool) (k : List It) (s : LS) (t : Nat) : askX C all i o l tr draw k s (.ask t true false) = (dlt o.dst C.nt = true ∧ gx C (.ops all (i + 1) l ((i, [], []) :: tr) draw :: k) ((s.setB t true).skip o.dst)) := by
  simp [askX]
theorem ask_ft (C : Cf) (all : Array Oper) (i : Nat) (o : Oper) (l : List Oper) (tr : List (Nat × List Nat × List Nat)) (draw : Bool) (k : List It) (s : LS) (t : Nat) : askX C all i o l tr draw k s (.ask t false true) = (dlt o.dst C.nt = true ∧ gx C (.ops all (i + 1) l ((i, [], []) :: tr) draw :: k) ((s.setB t false).skip o.dst)) := by
  simp [askX]
theorem ask_yes (C : Cf) (all : Array Oper) (i : Nat) (o : Oper) (l : List Oper) (tr : List (Nat × List Nat × List Nat)) (draw : Bool) (k : List It) (s : LS) : askX C all i o l tr draw k s .yes = gx C (.op1 all i o l tr draw :: k) s := rfl
theorem cond_intro {C : Cf} {t : Nat} {a b : Code} {k : List It} {s : LS} {p : Bool} (h1 : p = true → condX C t a b k s (some (.d (.b true)))) (h2 : p = false → condX C t a b k s (some (.d (.b false)))) : condX C t a b k s (some (.d (.b p))) := by
  cases p
  · exact h2 rfl
  · exact h1 rfl
theorem cond_t (C : Cf) (t : Nat) (a b : Code) (k : List It) (s : LS) : condX C t a b k s (some (.d (.b true))) = gx C (.code a :: k) (s.setB t true) := by simp [condX]
theorem cond_f (C : Cf) (t : Nat) (a b : Code) (k : List It) (s : LS) : condX C t a b k s (some (.d (.b false))) = gx C (.code b :: k) (s.setB t false) := by simp [condX]
end Go.Lm
