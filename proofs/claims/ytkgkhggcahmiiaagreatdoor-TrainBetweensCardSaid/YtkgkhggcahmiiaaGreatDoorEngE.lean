/- The logical machine (part 5 of 7): a reading of code as conditions, proved sound; no program in sight. -/
import Derived.Test.YtkgkhggcahmiiaaGreatDoorEngD
import Derived.Recover
/- The logical machine: its steps as equations; calls; loops. -/
set_option linter.constructorNameAsVariable false
namespace Go.Lm
open Go Go.RowKit

/-! ### leaves -/
def XS (C : Cf) (all : Array Oper) (i : Nat) (o : Oper) (l : List Oper) (tr : List (Nat × List Nat × List Nat)) (draw : Bool) (k : List It) (s : LS) : Prop :=
  (∃ e, StepOK C.P C.nt s o e ∧ gx C (.ops all (i + 1) l ((i, rdh (some e), wrh (some e)) :: tr) draw :: k) (s.app o.dst e)) ∨ (draw = false ∧ ∃ d, PanOK C.P s o d ∧ C.F (.pan d) s)
/-- a call: what is called, with what -/
def XC (C : Cf) (g : FuncId) (args : List V) (ds : Option (List D)) (vals : List V) (all : Array Oper) (i : Nat) (o : Oper) (l : List Oper) (tr : List (Nat × List Nat × List Nat)) (draw : Bool) (k : List It) (s : LS) : Prop :=
  C.xo.run s (s.fresh + i) o = .call g args vals → ds = V.toD.toDs args → XS C all i o l tr draw k s
def stepX (C : Cf) (all : Array Oper) (i : Nat) (o : Oper) (l : List Oper) (tr : List (Nat × List Nat × List Nat)) (draw : Bool) (k : List It) (s : LS) : XR → Prop
  | .one c e => (dlt o.dst C.nt = true ∧ s.fresh + i ∉ s.taken ∧ c = true) ∧ gx C (.ops all (i + 1) l ((i, rdh (some e), wrh (some e)) :: tr) draw :: k) (s.app o.dst e)
  | .call g args vals => XC C g args (V.toD.toDs args) vals all i o l tr draw k s
  | .pan d => draw = false ∧ C.F (.pan d) s
  | .dfr x => draw = false ∧ dlt o.dst C.nt = true ∧ gx C (.ops all (i + 1) l ((i, [], []) :: tr) draw :: k) { s with env := putE o.dst uV s.env, dfs := x :: s.dfs }
  | .none => XS C all i o l tr draw k s
def askX (C : Cf) (all : Array Oper) (i : Nat) (o : Oper) (l : List Oper) (tr : List (Nat × List Nat × List Nat)) (draw : Bool) (k : List It) (s : LS) : GR → Prop
  | .yes => gx C (.op1 all i o l tr draw :: k) s
  | .ask t p want => (p = want → gx C (.op1 all i o l tr draw :: k) (s.setB t want)) ∧ (p = !want → dlt o.dst C.nt = true ∧ gx C (.ops all (i + 1) l ((i, [], []) :: tr) draw :: k) ((s.setB t (!want)).skip o.dst))
  | .no => dlt o.dst C.nt = true ∧ gx C (.ops all (i + 1) l ((i, [], []) :: tr) draw :: k) (s.skip o.dst)
  | .bad => False
def condX (C : Cf) (t : Nat) (a b : Code) (k : List It) (s : LS) : Option V → Prop
  | some (.d (.b p)) => (p = true → gx C (.code a :: k) (s.setB t true)) ∧ (p = false → gx C (.code b :: k) (s.setB t false))
  | _ => False
def exitX (C : Cf) (s : LS) : Option (List It) → Prop
  | some k => gx C k s
  | none => False
def endX (C : Cf) (all : Array Oper) (tr : List (Nat × List Nat × List Nat)) (k : List It) (s : LS) : Bool → Prop
  | true => Chk all tr ∧ gx C k s.settle
  | false => gx C k s.settle

section
variable (C : Cf) (k : List It) (s : LS)
theorem gx_nil : gx C [] s = C.F .ret s := by rw [gx]
theorem gx_blk (id : Nat) : gx C (.blk id :: k) s = gx C k s := by rw [gx]
theorem gx_back (B : LS → Prop) : gx C (.back B :: k) s = B s := by rw [gx]
theorem gx_skip : gx C (.code .skip :: k) s = gx C k s := by rw [gx]
theorem gx_label (l : Nat) : gx C (.code (.label l) :: k) s = gx C k s := by rw [gx]
theorem gx_seq (a b : Code) : gx C (.code (.seq a b) :: k) s = gx C (.code a :: .code b :: k) s := by rw [gx]
theorem gx_block (id : Nat) (c : Code) : gx C (.code (.block id c) :: k) s = gx C (.code c :: .blk id :: k) s := by rw [gx]
theorem gx_scope (c : Code) : gx C (.code (.scope c) :: k) s = gx C (.code c :: k) s := by rw [gx]
theorem gx_exit (id : Nat) : gx C (.code (.exit id) :: k) s = exitX C s (popTo id k) := by
  rw [gx]
  split <;> (rename_i h; rw [h]; rfl)
theorem gx_ret : gx C (.code .ret :: k) s = C.F .ret s := by rw [gx]
theorem gx_cond (t : Nat) (a b : Code) : gx C (.code (.cond (.tmp t) a b) :: k) s = condX C t a b k s (lk s.env t) := by
  rw [gx]
  unfold condX
  rfl
theorem gx_region (id : Nat) (ops : Array Oper) (draw : Bool) : gx C (.code (.region id ops draw) :: k) s = gx C (.ops ops 0 ops.toList [] draw :: k) s := by rw [gx]
theorem gx_loop (c : Code) : gx C (.code (.loop c) :: k) s = Leaf C (.loop c) k s := by simp only [gx]
theorem gx_end (all : Array Oper) (i : Nat) (tr : List (Nat × List Nat × List Nat)) (draw : Bool) : gx C (.ops all i [] tr draw :: k) s = endX C all tr k s draw := by
  rw [gx]
  cases draw <;> simp [endX]
theorem gx_ops (all : Array Oper) (i : Nat) (o : Oper) (l : List Oper) (tr : List (Nat × List Nat × List Nat)) (draw : Bool) : gx C (.ops all i (o :: l) tr draw :: k) s = askX C all i o l tr draw k s (guardOf all s o) := by
  rw [gx]
  unfold askX
  rfl
theorem gx_op1 (all : Array Oper) (i : Nat) (o : Oper) (l : List Oper) (tr : List (Nat × List Nat × List Nat)) (draw : Bool) : gx C (.op1 all i o l tr draw :: k) s = stepX C all i o l tr draw k s (C.xo.run s (s.fresh + i) o) := by
  rw [gx]
  generalize hr : C.xo.run s (s.fresh + i) o = r
  cases r with
  | none => rfl
  | one c e => rfl
  | pan d => rfl
  | dfr x => rfl
  | call g args vals =>
    apply propext
    exact ⟨fun h _ _ => h, fun h => h hr rfl⟩
end

/-! ### calls -/
theorem xoRun_call {P : Program} {s : LS} {new : Nat} {o : Oper} {g : FuncId} {args vals : List V} (h : xoRun P s new o = .call g args vals) : CallOK P s o g args vals := by
  obtain ⟨dst, op, type, pos, after, guard⟩ := o
  have key : ∃ c, op = .call c := by
    unfold xoRun at h
    split at h
    all_goals first
      | (rename_i x hop; exact ⟨x, by simpa using hop⟩)
      | (cases h; done)
      | (unfold xoDfr at h; (repeat' split at h) <;> cases h; done)
      | (unfold xoLoad at h; (repeat' split at h) <;> cases h; done)
      | (unfold xoStore at h; (repeat' split at h) <;> cases h; done)
      | (unfold xoBin at h; (repeat' split at h) <;> cases h; done)
      | (unfold xoIdx at h; (repeat' split at h) <;> cases h; done)
      | (unfold xoIndex at h; (repeat' split at h) <;> cases h; done)
      | ((repeat' split at h) <;> cases h; done)
  obtain ⟨⟨callee, args', tys⟩, rfl⟩ := key
  simp only [xoRun] at h
  cases callee with
  | builtin b =>
    simp only [xoCall] at h
    cases b <;> simp only at h <;> first | cases h | (repeat' split at h) <;> cases h
  | value fo =>
    simp only [xoCall] at h
    split at h
    · rename_i fv vs hfv hvs
      split at h
      · rename_i g' a c hc
        cases h
        have hops : (Op.call { callee := .value fo, args := args', argTypes := tys }).operands = (fo :: args'.toList).toArray := by simp [Op.operands, Call.operands]
        obtain ⟨v1, v2⟩ := valsL (s := s) hops (vs := fv :: vs) (by simp [LS.evs, hfv, hvs])
        refine ⟨v1, v2, fun β fz ac w hv => ?_⟩
        have r0 := hv 0 fo fv (by simp only; rw [hops]; rfl) rfl
        obtain ⟨ua, uc, hu, ra, rc⟩ := calleeV_ok r0 hc
        have rvs : RepL β fz vs (args'.map ac.eval).toList := by
          obtain ⟨k1, _⟩ := evs_ok hvs
          refine ⟨by simp at k1 ⊢; omega, fun j d u q1 q2 => ?_⟩
          rw [Array.toList_map, List.getElem?_map, Option.map_eq_some_iff] at q2
          obtain ⟨x, q2, rfl⟩ := q2
          exact hv (j + 1) x d (by simp only; rw [hops, List.getElem?_toArray, List.getElem?_cons_succ]; exact q2) q1
        have hall : RepVs β fz (a ++ vs ++ c) (ua ++ args'.map ac.eval ++ uc) := by
          have := ((ra.append rvs).append rc).arr
          have e : (ua.toList ++ (args'.map ac.eval).toList ++ uc.toList).toArray = ua ++ args'.map ac.eval ++ uc := by apply Array.ext'; simp
          rwa [e] at this
        refine ⟨_, ?_, hall⟩
        show (do let d ← resolve ac.eval { callee := .value fo, args := args', argTypes := tys } type; invoke d.target d.args : Sem Next).run P w = _
        simp only [resolve, hu, Deferred.ofValue, Sem.run_bind, Sem.run_pure, Result.andThen_ok, invoke]
      · cases h
    · cases h
  | invoke rv m =>
    simp only [xoCall] at h
    split at h
    · rename_i t d vs hr hvs
      split at h
      · rename_i g' hm
        cases h
        have hops : (Op.call { callee := .invoke rv m, args := args', argTypes := tys }).operands = (rv :: args'.toList).toArray := by simp [Op.operands, Call.operands]
        obtain ⟨v1, v2⟩ := valsL (s := s) hops (vs := .d (.ifc t d) :: vs) (by simp [LS.evs, hr, hvs])
        refine ⟨v1, v2, fun β fz ac w hv => ?_⟩
        have r0 := hv 0 rv _ (by simp only; rw [hops]; rfl) rfl
        have rvs : RepL β fz vs (args'.map ac.eval).toList := by
          obtain ⟨k1, _⟩ := evs_ok hvs
          refine ⟨by simp at k1 ⊢; omega, fun j d u q1 q2 => ?_⟩
          rw [Array.toList_map, List.getElem?_map, Option.map_eq_some_iff] at q2
          obtain ⟨x, q2, rfl⟩ := q2
          exact hv (j + 1) x d (by simp only; rw [hops, List.getElem?_toArray, List.getElem?_cons_succ]; exact q2) q1
        generalize hu : ac.eval rv = u at r0
        cases r0 with
        | d r0 =>
          cases r0 with
          | @ifc _ _ u r0 =>
            have hall : RepVs β fz (.d d :: vs) (#[u] ++ args'.map ac.eval) := by
              have := ((RepL.one (RepV.d r0)).append rvs).arr
              have e : ([u] ++ (args'.map ac.eval).toList).toArray = #[u] ++ args'.map ac.eval := by apply Array.ext'; simp
              rwa [e] at this
            refine ⟨_, ?_, hall⟩
            show (do let d ← resolve ac.eval { callee := .invoke rv m, args := args', argTypes := tys } type; invoke d.target d.args : Sem Next).run P w = _
            have hx : (#[Value.iface t u] ++ args'.map ac.eval).extract 1 (#[Value.iface t u] ++ args'.map ac.eval).size = args'.map ac.eval := by
              apply Array.ext'
              simp
              rw [List.take_of_length_le (by simp)]
            have hp : (program : Sem Program).run P w = .ok P w := rfl
            simp only [resolve, hu, Sem.run_bind, Sem.run_pure, Result.andThen_ok, invoke]
            have h0 : (#[Value.iface t u] ++ args'.map ac.eval)[0]? = some (.iface t u) := by
              rw [Array.getElem?_append_left (by simp)]
              rfl
            rw [h0]
            simp only [callMethod, Sem.run_bind, hp, Result.andThen_ok, hx]
            rw [run_method_any hm]
            rfl
      · cases h
    · cases h
/-- a contract, with the door through which the function is entered -/
def LSpec (P : Program) (g : FuncId) (ds : List D) (o : LO) : Prop := Enters P g ∧ SpecP P g ds o
section
variable {P : Program} {nt n0 : Nat} {F : Fx → LS → Prop} {g : FuncId} {args vals : List V} {ds : List D} {all : Array Oper} {i : Nat} {o : Oper} {l : List Oper} {tr : List (Nat × List Nat × List Nat)} {draw : Bool} {k : List It} {s : LS}
theorem XC.gen (rd hp out : List (Nat × Blk)) (news : List Nat) (r : V) (hg : Enters P g) (hsp : SpecH P g args rd hp news out r) (hrd : ∀ x ∈ rd, s.blk x.1 = some x.2) (hhp : ∀ x ∈ hp, s.blk x.1 = some x.2) (hnews : ∀ h ∈ news, s.free h)
    (houts : ∀ x ∈ out, x.1 ∈ news ∨ ∃ z ∈ hp, z.1 = x.1) (hd : dlt o.dst nt = true) {d : Option (List D)}
    (h : gx ⟨P, nt, n0, xo P, F⟩ (.ops all (i + 1) l ((i, rdh (some ⟨vals, rd, hp, news, out, r⟩), wrh (some ⟨vals, rd, hp, news, out, r⟩)) :: tr) draw :: k) (s.app o.dst ⟨vals, rd, hp, news, out, r⟩)) :
    XC ⟨P, nt, n0, xo P, F⟩ g args d vals all i o l tr draw k s := by
  intro hr _
  exact .inl ⟨_, stepCall (xoRun_call hr) hg hsp hrd hhp hnews houts hd, h⟩
theorem XC.p {r : D} (hsp : LSpec P g ds (.ret r)) (hd : dlt o.dst nt = true)
    (h : gx ⟨P, nt, n0, xo P, F⟩ (.ops all (i + 1) l ((i, [], []) :: tr) draw :: k) ⟨putE o.dst (.d r) s.env, s.heap, s.fresh, s.taken, s.dfs⟩) : XC ⟨P, nt, n0, xo P, F⟩ g args (some ds) vals all i o l tr draw k s := by
  intro hr ht
  exact XC.gen [] [] [] [] (.d r) hsp.1 (hsp.2.toH ht.symm) (fun x hx => by cases hx) (fun x hx => by cases hx) (fun x hx => by cases hx) (fun x hx => by cases hx) hd (d := some ds) h hr ht
theorem XC.pan {d : D} (hsp : LSpec P g ds (.pan d)) (h : F (.pan d) s) : XC ⟨P, nt, n0, xo P, F⟩ g args (some ds) vals all i o l tr false k s := by
  intro hr ht
  obtain ⟨v1, v2, v3⟩ := xoRun_call hr
  refine .inr ⟨rfl, d, ?_, h⟩
  intro β fz own ac w hok hown hv' next Q hQ
  obtain ⟨us, hrun, hall⟩ := v3 β fz ac w fun j x v h1 h2 => hv' x v (v2 j x v h1 h2)
  unfold Oper.wp
  rw [hrun, hsp.1 us w, Oper.upon_enter]
  refine (hsp.2 fz w _ hok (toDs_rep _ ht.symm hall)).mono fun e w' ⟨fz', u, hB, k1, k2, k3, k4, k5⟩ => ?_
  subst k4
  refine hQ u fz' w' ?_ k5
  exact {
    ble := Bt.Le.refl _
    bnew := fun _ _ => rfl
    fle := k1
    ffr := fun b hb _ => k2 b hb
    ok := k3
    os := hB.os
    tape := hB.tape
    output := hB.output
    size := hB.size
    frame := fun b hb _ => hB.block b hb
    hreps := fun x hx => by cases hx
    blks := fun x hx => by cases hx
    inj := fun h h' y y' k ⟨x, hx, _⟩ => by cases hx
    v := .u _ }
end

section
variable {P : Program} {nt n0 : Nat} {F : Fx → LS → Prop} {g : FuncId} {args vals : List V} {ds : List D} {all : Array Oper} {i : Nat} {o : Oper} {l : List Oper} {tr : List (Nat × List Nat × List Nat)} {draw : Bool} {k : List It} {s : LS}
/-- a function without a body: what it gives -/
def Direct (P : Program) (g : FuncId) (ds : List D) (r : D) : Prop := ∀ (fz : Fz) (w : World) (us : Array Value), RepDs fz ds us → ∃ u, (callFunc g us).run P w = .ok (.value u) w ∧ RepD fz r u
theorem XC.ext {r : D} (hsp : Direct P g ds r) (hd : dlt o.dst nt = true)
    (h : gx ⟨P, nt, n0, xo P, F⟩ (.ops all (i + 1) l ((i, [], []) :: tr) draw :: k) ⟨putE o.dst (.d r) s.env, s.heap, s.fresh, s.taken, s.dfs⟩) : XC ⟨P, nt, n0, xo P, F⟩ g args (some ds) vals all i o l tr draw k s := by
  intro hr ht
  obtain ⟨v1, v2, v3⟩ := xoRun_call hr
  refine .inl ⟨⟨vals, [], [], [], [], .d r⟩, ⟨?_, v1, v2, (fun x hx => by cases hx), (fun x hx => by cases hx), (fun x hx => by cases hx), (fun x hx => by cases hx), dlt_ok hd⟩, h⟩
  refine OpT.val fun β fz own a w _ _ hv => ?_
  obtain ⟨us, hrun, hall⟩ := v3 β fz a w hv
  obtain ⟨u, h1, h2⟩ := hsp fz w us (toDs_rep args ht.symm hall)
  exact ⟨u, hrun.trans h1, .d h2⟩
end
/-! ### guards and tests -/
theorem ask_intro {C : Cf} {all : Array Oper} {i : Nat} {o : Oper} {l : List Oper} {tr : List (Nat × List Nat × List Nat)} {draw : Bool} {k : List It} {s : LS} {t : Nat} {p want : Bool}
    (h1 : p = true → askX C all i o l tr draw k s (.ask t true want)) (h2 : p = false → askX C all i o l tr draw k s (.ask t false want)) : askX C all i o l tr draw k s (.ask t p want) := by
  cases p
  · exact h2 rfl
  · exact h1 rfl
theorem ask_tt (C : Cf) (all : Array Oper) (i : Nat) (o : Oper) (l : List Oper) (tr : List (Nat × List Nat × List Nat)) (draw : Bool) (k : List It) (s : LS) (t : Nat) : askX C all i o l tr draw k s (.ask t true true) = gx C (.op1 all i o l tr draw :: k) (s.setB t true) := by
  simp [askX]
theorem ask_ff (C : Cf) (all : Array Oper) (i : Nat) (o : Oper) (l : List Oper) (tr : List (Nat × List Nat × List Nat)) (draw : Bool) (k : List It) (s : LS) (t : Nat) : askX C all i o l tr draw k s (.ask t false false) = gx C (.op1 all i o l tr draw :: k) (s.setB t false) := by
  simp [askX]
theorem ask_tf (C : Cf) (all : Array Oper) (i : Nat) (o : Oper) (l : List Oper) (tr : List (Nat × List Nat × List Nat)) (draw : Bool) (k : List It) (s : LS) (t : Nat) : askX C all i o l tr draw k s (.ask t true false) = (dlt o.dst C.nt = true ∧ gx C (.ops all (i + 1) l ((i, [], []) :: tr) draw :: k) ((s.setB t true).skip o.dst)) := by
  simp [askX]
theorem ask_ft (C : Cf) (all : Array Oper) (i : Nat) (o : Oper) (l : List Oper) (tr : List (Nat × List Nat × List Nat)) (draw : Bool) (k : List It) (s : LS) (t : Nat) : askX C all i o l tr draw k s (.ask t false true) = (dlt o.dst C.nt = true ∧ gx C (.ops all (i + 1) l ((i, [], []) :: tr) draw :: k) ((s.setB t false).skip o.dst)) := by
  simp [askX]
theorem ask_yes (C : Cf) (all : Array Oper) (i : Nat) (o : Oper) (l : List Oper) (tr : List (Nat × List Nat × List Nat)) (draw : Bool) (k : List It) (s : LS) : askX C all i o l tr draw k s .yes = gx C (.op1 all i o l tr draw :: k) s := rfl
theorem cond_intro {C : Cf} {t : Nat} {a b : Code} {k : List It} {s : LS} {p : Bool} (h1 : p = true → condX C t a b k s (some (.d (.b true)))) (h2 : p = false → condX C t a b k s (some (.d (.b false)))) : condX C t a b k s (some (.d (.b p))) := by
  cases p
  · exact h2 rfl
  · exact h1 rfl
theorem cond_t (C : Cf) (t : Nat) (a b : Code) (k : List It) (s : LS) : condX C t a b k s (some (.d (.b true))) = gx C (.code a :: k) (s.setB t true) := by simp [condX]
theorem cond_f (C : Cf) (t : Nat) (a b : Code) (k : List It) (s : LS) : condX C t a b k s (some (.d (.b false))) = gx C (.code b :: k) (s.setB t false) := by simp [condX]
end Go.Lm
/- The logical machine: closed runs, by computation. -/
set_option linter.constructorNameAsVariable false
namespace Go.Lm
open Go Go.RowKit

/-- a state that knows less -/
structure Wk (s s' : LS) : Prop where
  env : ∀ d v, lk s'.env d = some v → lk s.env d = some v
  blk : ∀ h b, s'.blk h = some b → s.blk h = some b
  free : ∀ h, s'.free h → s.free h
  dfs : s.dfs = s'.dfs
theorem RelB.wk {C : Cx} {s s' : LS} {a : Act} {w : World} {β : Bt} {fz : Fz} (r : RelB C s a w β fz) (h : Wk s s') : RelB C s' a w β fz :=
  { r with
    free := fun x hx => r.free x (h.free x hx)
    hreps := fun x b hb => r.hreps x b (h.blk x b hb)
    inj := fun x x' y y' k ⟨b, hb⟩ ⟨b', hb'⟩ => r.inj x x' y y' k ⟨b, h.blk x b hb⟩ ⟨b', h.blk x' b' hb'⟩
    env := fun d v hv => r.env d v (h.env d v hv)
    dfs := r.dfs.to h.dfs.symm (Bt.Le.refl _) (Fz.Le.refl _) fun D _ h2 h3 h4 => ⟨h2, h3, fun x b y hb hy => h4 x b y (h.blk x b hb) hy⟩ }

/-! ### what is overwritten is dropped -/
def clE {α : Type} : Nat → List (Nat × α) → List (Nat × α)
  | _, [] => []
  | m, x :: l => match Nat.testBit m x.1 with
    | true => clE m l
    | false => x :: clE (m ||| 1 <<< x.1) l
theorem clE_lk {α : Type} (l : List (Nat × α)) : ∀ (m d : Nat) (v : α), lk (clE m l) d = some v → m.testBit d = false ∧ lk l d = some v := by
  induction l with
  | nil => intro m d v h; cases h
  | cons x l ih =>
    intro m d v h
    obtain ⟨k, u⟩ := x
    simp only [clE] at h
    split at h
    · rename_i hm
      obtain ⟨h1, h2⟩ := ih m d v h
      refine ⟨h1, ?_⟩
      simp only [lk]
      rw [if_neg (fun e => by subst e; rw [hm] at h1; cases h1)]
      exact h2
    · rename_i hm
      simp only [lk] at h ⊢
      by_cases e : d = k
      · subst e
        rw [if_pos rfl] at h ⊢
        exact ⟨hm, h⟩
      · rw [if_neg e] at h ⊢
        obtain ⟨h1, h2⟩ := ih _ d v h
        rw [Nat.testBit_or] at h1
        simp only [Bool.or_eq_false_iff] at h1
        exact ⟨h1.1, h2⟩
theorem clE_mem {α : Type} (l : List (Nat × α)) : ∀ (m : Nat) (x : Nat × α), x ∈ clE m l → m.testBit x.1 = false ∧ lk l x.1 = some x.2 := by
  induction l with
  | nil => intro m x h; cases h
  | cons y l ih =>
    intro m x h
    obtain ⟨k, u⟩ := y
    simp only [clE] at h
    split at h
    · rename_i hm
      obtain ⟨h1, h2⟩ := ih m x h
      refine ⟨h1, ?_⟩
      simp only [lk]
      rw [if_neg (fun e => by rw [e] at h1; rw [hm] at h1; cases h1)]
      exact h2
    · rename_i hm
      rcases List.mem_cons.1 h with rfl | h
      · exact ⟨hm, by simp [lk]⟩
      · obtain ⟨h1, h2⟩ := ih _ x h
        rw [Nat.testBit_or] at h1
        simp only [Bool.or_eq_false_iff] at h1
        refine ⟨h1.1, ?_⟩
        simp only [lk]
        rw [if_neg (fun e => by rw [e] at h1; simp at h1)]
        exact h2
/-- the handles of a value -/
def hsV : V → Nat → Nat
  | .p x _, m => m ||| 1 <<< x
  | .own x _ _, m => m ||| 1 <<< x
  | .ms x _ _, m => m ||| 1 <<< x
  | .h x, m => m ||| 1 <<< x
  | .agg cs, m => go cs m
  | .tup cs, m => go cs m
  | .fn _ a c, m => go a (go c m)
  | _, m => m
where go : List V → Nat → Nat
  | [], m => m
  | v :: vs, m => go vs (hsV v m)
def hsB : Blk → Nat → Nat
  | .cells cs _, m => hsV.go cs m
  | _, m => m
def hsE : List (Nat × V) → Nat → Nat
  | [], m => m
  | x :: l, m => hsE l (hsV x.2 m)
def mark1 : List (Nat × Option Blk) → Nat → Nat
  | [], m => m
  | (k, some b) :: l, m => match Nat.testBit m k with
    | true => mark1 l (hsB b m)
    | false => mark1 l m
  | (_, none) :: l, m => mark1 l m
def mark : Nat → List (Nat × Option Blk) → Nat → Nat
  | 0, _, m => m
  | f + 1, l, m => match Nat.beq (mark1 l m) m with
    | true => m
    | false => mark f l (mark1 l m)
/-- the blocks that are kept -/
def live (m : Nat) : List (Nat × Option Blk) → List (Nat × Blk)
  | [] => []
  | (k, some b) :: l => match Nat.testBit m k with
    | true => (k, b) :: live m l
    | false => live m l
  | (_, none) :: l => live m l
theorem live_mem {m : Nat} {x : Nat × Blk} : ∀ {l : List (Nat × Option Blk)}, x ∈ live m l → (x.1, some x.2) ∈ l
  | [], h => by cases h
  | (k, some b) :: l, h => by
    simp only [live] at h
    split at h
    · rcases List.mem_cons.1 h with rfl | h
      · exact List.mem_cons_self
      · exact List.mem_cons_of_mem _ (live_mem h)
    · exact List.mem_cons_of_mem _ (live_mem h)
  | (_, none) :: l, h => List.mem_cons_of_mem _ (live_mem (l := l) h)
/-- the blocks that can be come to -/
def LS.blocks (s : LS) (m : Nat) : List (Nat × Blk) := live (mark 20 (clE 0 s.heap) m) (clE 0 s.heap)
theorem LS.blocks_ok {s : LS} {m : Nat} {x : Nat × Blk} (h : x ∈ s.blocks m) : s.blk x.1 = some x.2 := by
  have := (clE_mem _ 0 _ (live_mem h)).2
  simp only [LS.blk, this]
  rfl
def LS.clean (s : LS) : LS := { s with env := clE 0 s.env, heap := (s.blocks (hsE (clE 0 s.env) 0)).map fun x => (x.1, some x.2) }
theorem LS.clean_wk (s : LS) : Wk s s.clean :=
  ⟨fun d v h => (clE_lk _ 0 d v h).2, fun h b hb => by
    simp only [LS.blk, LS.clean, lk_some_map] at hb
    cases hq : lk (s.blocks (hsE (clE 0 s.env) 0)) h with
    | none => rw [hq] at hb; cases hb
    | some b' => rw [hq] at hb; cases hb; exact s.blocks_ok (lk_mem hq), fun h hh => hh, rfl⟩

theorem exitTo_len {id : Nat} : ∀ {k k' : List Item}, exitTo id k = some k' → k'.length < k.length + 1
  | [], _, h => by cases h
  | x :: k, k', h => by
    have : exitTo id k = some k' ∨ k' = k := by
      cases x <;> simp only [exitTo] at h <;> first | exact .inl h | skip
      split at h
      · cases h; exact .inr rfl
      · exact .inl h
    rcases this with h | rfl
    · have := exitTo_len h; simp; omega
    · simp; omega
theorem steps_tail {P : Program} {m m1 m2 : Machine} (h : step P m = .next m1) (hs : Steps P m m2) (hne : m ≠ m2) : Steps P m1 m2 := by
  obtain ⟨n, hn⟩ := hs
  cases n with
  | zero => simp [runN] at hn; exact absurd hn hne
  | succ n => simp only [runN, h] at hn; exact ⟨n, hn⟩
theorem todo_ne {b : Frame} {a a' : Act} {k k' : List Item} {cs : List Frame} {w w' : World} {x : Item} (h : k'.length < k.length + 1) : lone (b.at a (x :: k)) cs w ≠ lone (b.at a' k') cs w' := fun e => by
  have e1 := congrArg (fun m : Machine => (m.gs.toList.map fun g => g.frame.todo.length)) e
  simp [lone, Frame.at] at e1
  omega
theorem mode_ne {b : Frame} {a a' : Act} {k todo : List Item} {cs : List Frame} {w w' : World} {m : FrameMode} (h : m ≠ .run) : lone (b.at a k) cs w ≠ lone { b.at a' todo with mode := m } cs w' := fun e => by
  have e1 := congrArg (fun m : Machine => (m.gs.toList.map fun g => g.frame.mode)) e
  simp [lone, Frame.at] at e1
  exact h e1.symm
theorem wp_loop_unfold {P : Program} {Q : Exit → Act → World → Prop} {c : Code} {a : Act} {w : World} (hg : ∀ l a w, ¬ Q (.goto l) a w) (ho : ∀ a w, ¬ Q .outgrown a w) (h : c.wp P (Exit.then ((Code.loop c).wp P Q) Q) a w) : (Code.loop c).wp P Q a w := by
  intro b k' cs
  obtain ⟨e, a₁, w₁, hq, harr⟩ := h b (.inLoop c :: k') cs
  cases e with
  | normal =>
    obtain ⟨e₂, a₂, w₂, hq₂, harr₂⟩ := hq b k' cs
    refine ⟨e₂, a₂, w₂, hq₂, .of_steps (.one step_loop) (.of_steps harr (.of_steps (.one step_inLoop) ?_))⟩
    cases e₂ with
    | normal => exact steps_tail step_loop harr₂ (todo_ne (by omega))
    | exit id => exact fun k'' hk => steps_tail step_loop (harr₂ k'' hk) (todo_ne (exitTo_len hk))
    | goto l => exact (hg _ _ _ hq₂).elim
    | ret =>
      obtain ⟨todo, hs⟩ := harr₂
      exact ⟨todo, steps_tail step_loop hs (mode_ne (fun e => by cases e))⟩
    | panic ch =>
      obtain ⟨todo, hs⟩ := harr₂
      exact ⟨todo, steps_tail step_loop hs (mode_ne (fun e => by cases e))⟩
    | outgrown => exact (ho _ _ hq₂).elim
  | exit id => exact ⟨_, a₁, w₁, hq, .of_steps (.one step_loop) (.pass (x := .inLoop c) rfl (fun _ _ => .inl (by simp)) harr)⟩
  | goto l => exact ⟨_, a₁, w₁, hq, .of_steps (.one step_loop) (.pass (x := .inLoop c) rfl (fun _ _ => .inl (by simp)) harr)⟩
  | ret => exact ⟨_, a₁, w₁, hq, .of_steps (.one step_loop) (.pass (x := .inLoop c) rfl (fun _ _ => .inl (by simp)) harr)⟩
  | panic ch => exact ⟨_, a₁, w₁, hq, .of_steps (.one step_loop) (.pass (x := .inLoop c) rfl (fun _ _ => .inl (by simp)) harr)⟩
  | outgrown => exact ⟨_, a₁, w₁, hq, .of_steps (.one step_loop) (.pass (x := .inLoop c) rfl (fun _ _ => .inl (by simp)) harr)⟩
theorem loop_unroll {P : Program} {nt n0 : Nat} {F : Fx → LS → Prop} (hmx : P.follows .mixedOrders = true) {c : Code} {k : List It} {s s' : LS} (hw : Wk s s') (hk : ∀ y ∈ k, y.plain)
    (h : gx ⟨P, nt, n0, xo P, F⟩ (.code c :: .code (.loop c) :: k) s') : Leaf ⟨P, nt, n0, xo P, F⟩ (.loop c) k s := by
  intro X hP hnt hn0 a w ⟨β, fz, r⟩
  have h1 := gx_sound hmx X hP hnt hn0 _ (.code c :: .code (.loop c) :: k) s' (Nat.le_refl _) ⟨trivial, fun y hy => by
    rcases List.mem_cons.1 hy with rfl | hy
    · trivial
    · exact hk y hy⟩ h a w ⟨β, fz, r.wk hw⟩
  have h2 : c.wp X.P (sem X F (.code (.loop c) :: k)) a w := h1
  rw [sem_code] at h2
  exact wp_loop_unfold (fun l a w => sem_no (.inr ⟨l, rfl⟩) k) (fun a w => sem_no (.inl rfl) k) h2

end Go.Lm
/- The logical machine: loops with an invariant; states that know less, under other names. -/
set_option linter.constructorNameAsVariable false
namespace Go.Lm
open Go Go.RowKit

/-! ### the same value, under other names, or less known -/
def rl (n0 : Nat) (R : List (Nat × Option Nat)) (h : Nat) : Option (Option Nat) := if h < n0 then some (some h) else lk R h
def Vd : V → D → Prop
  | .d .nil, .sl _ r => r = []
  | v, y => v.toD = some y
def tupV : V → Option (List V)
  | .tup cs => some cs
  | .d (.tup ds) => some (ds.map .d)
  | _ => none
def fnV : V → Option (Fn × List V × List V)
  | .fn f a c => some (f, a, c)
  | .d (.fn f a c) => some (f, a.map .d, c.map .d)
  | _ => none
def Vw (n0 : Nat) (R : List (Nat × Option Nat)) (v : V) : V → Prop
  | .u => True
  | .d y => Vd v y
  | .p h o => ∃ k, rl n0 R h = some (some k) ∧ v = .p k o
  | .own h sz rows => match rl n0 R h with
    | some (some k) => v = .own k sz rows
    | some none => rows = [] ∧ v = .d .nil
    | none => False
  | .ms h sz n => ∃ k, rl n0 R h = some (some k) ∧ v = .ms k sz n
  | .agg cs => match aggV v with
    | some vs => go vs cs
    | none => False
  | .tup cs => match tupV v with
    | some vs => go vs cs
    | none => False
  | .fn f a c => match fnV v with
    | some (f', a', c') => f' = f ∧ go a' a ∧ go c' c
    | none => False
  | .q sz rows i j => v = .q sz rows i j
  | .h h => ∃ k, rl n0 R h = some (some k) ∧ v = .h k
where go : List V → List V → Prop
  | [], [] => True
  | v :: vs, x :: xs => Vw n0 R v x ∧ go vs xs
  | _, _ => False
def Bw (n0 : Nat) (R : List (Nat × Option Nat)) : Blk → Blk → Prop
  | .cells cs t, .cells cs' t' => t = t' ∧ Vw.go n0 R cs cs'
  | .tail n sz e, b => b = .tail n sz e
  | .iter l p, b => b = .iter l p
  | .imap es, b => b = .imap es
  | _, _ => False
def Hw (n0 : Nat) (R : List (Nat × Option Nat)) (s : LS) (h : Nat) : Option Blk → Prop
  | none => True
  | some b' => match rl n0 R h with
    | some (some k) => match s.blk k with
      | some b => Bw n0 R b b'
      | none => False
    | some none => ∃ sz e, b' = .tail 0 sz e
    | none => False
structure Wr (n0 : Nat) (R : List (Nat × Option Nat)) (s s' : LS) : Prop where
  env : ∀ x ∈ s'.env, ∃ v, lk s.env x.1 = some v ∧ Vw n0 R v x.2
  heap : ∀ x ∈ s'.heap, Hw n0 R s x.1 x.2
  keys : R.Pairwise fun x y => ∀ k, x.2 = some k → y.2 = some k → False
  low : ∀ x ∈ R, x.1 < s'.fresh ∧ ∀ k, x.2 = some k → n0 ≤ k
  fresh : n0 ≤ s'.fresh
  dfs : (s.dfs = [] ∨ s.dfs = [snt]) ∧ (s'.dfs = s.dfs ∨ s'.dfs = [snt])

def bR (n0 : Nat) (R : List (Nat × Option Nat)) (β : Bt) : Bt := fun h => match rl n0 R h with
  | some (some k) => β k
  | some none => some (.slice none 0 0)
  | none => none
theorem Vd.rep {β : Bt} {fz : Fz} {v : V} {y : D} {u : Value} (h : Vd v y) (hr : RepV β fz v u) : RepD fz y u := by
  unfold Vd at h
  split at h
  · subst h
    cases hr with
    | d hr =>
      cases hr
      exact .sl (fun _ _ => default) rfl (Nat.le_refl _) (Nat.zero_le _) (fun r hr => by cases hr) (fun h => absurd h (Nat.lt_irrefl 0)) (fun i j r d h => by simp at h) (fun i j r d h => by simp at h)
  · exact toD_rep _ h hr
theorem tupV_ok {β : Bt} {fz : Fz} {v : V} {cs : List V} {u : Value} (h : RepV β fz v u) (hr : tupV v = some cs) : ∃ us, u = .tuple us ∧ RepVs β fz cs us := by
  cases v with
  | tup l =>
    simp only [tupV, Option.some.injEq] at hr
    subst hr
    cases h with
    | @tup _ vs hl h => exact ⟨vs, rfl, hl, h⟩
  | d x =>
    cases x <;> simp only [tupV, Option.some.injEq, reduceCtorEq] at hr
    subst hr
    cases h with
    | d h =>
      cases h with
      | @tup _ vs hl h =>
        refine ⟨vs, rfl, by simpa using hl, fun j d u a b => ?_⟩
        rw [List.getElem?_map, Option.map_eq_some_iff] at a
        obtain ⟨x, a, rfl⟩ := a
        exact .d (h j x u a b)
  | _ => cases hr
theorem fnV_ok {β : Bt} {fz : Fz} {v : V} {f : Fn} {a c : List V} {u : Value} (h : RepV β fz v u) (hr : fnV v = some (f, a, c)) : ∃ ua uc, u = .func f ua uc ∧ RepVs β fz a ua ∧ RepVs β fz c uc := by
  cases v with
  | fn f' l m =>
    simp only [fnV, Option.some.injEq, Prod.mk.injEq] at hr
    obtain ⟨rfl, rfl, rfl⟩ := hr
    cases h with
    | @fn _ _ _ va vc hla ha hlc hc => exact ⟨va, vc, rfl, ⟨hla, ha⟩, ⟨hlc, hc⟩⟩
  | d x =>
    cases x <;> simp only [fnV, Option.some.injEq, Prod.mk.injEq, reduceCtorEq] at hr
    obtain ⟨rfl, rfl, rfl⟩ := hr
    cases h with
    | d h =>
      cases h with
      | @fn _ _ _ va vc hla ha hlc hc =>
        refine ⟨va, vc, rfl, ⟨by simpa using hla, fun j d u a b => ?_⟩, ⟨by simpa using hlc, fun j d u a b => ?_⟩⟩
        · rw [List.getElem?_map, Option.map_eq_some_iff] at a
          obtain ⟨x, a, rfl⟩ := a
          exact .d (ha j x u a b)
        · rw [List.getElem?_map, Option.map_eq_some_iff] at a
          obtain ⟨x, a, rfl⟩ := a
          exact .d (hc j x u a b)
  | _ => cases hr
theorem RepVs.tail {β : Bt} {fz : Fz} {v : V} {vs : List V} {us : Array Value} (h : RepVs β fz (v :: vs) us) : ∃ u, us[0]? = some u ∧ RepV β fz v u ∧ RepVs β fz vs (us.extract 1 us.size) := by
  have hs := h.1
  simp only [List.length_cons] at hs
  have h0 : us[0]? = some us[0] := Array.getElem?_eq_getElem (by omega)
  refine ⟨us[0], h0, h.2 0 v _ rfl h0, ⟨by simp; omega, fun j v u a b => h.2 (j + 1) v u (by simpa using a) ?_⟩⟩
  rw [Array.getElem?_extract] at b
  split at b
  · rwa [Nat.add_comm] at b
  · cases b
mutual
theorem Vw.rep {n0 : Nat} {R : List (Nat × Option Nat)} {β : Bt} {fz : Fz} {v : V} {u : Value} : ∀ (x : V), Vw n0 R v x → RepV β fz v u → RepV (bR n0 R β) fz x u
  | .u, _, _ => .u _
  | .d y, h, hr => .d (Vd.rep (by simpa only [Vw] using h) hr)
  | .p h' o, h, hr => by
    simp only [Vw] at h
    obtain ⟨k, h1, rfl⟩ := h
    cases hr with
    | p hb => exact .p (by simp only [bR, h1]; exact hb)
  | .own h' sz rows, h, hr => by
    simp only [Vw] at h
    split at h
    · rename_i k h1
      subst h
      cases hr with
      | own hb hr => exact .own (by simp only [bR, h1]; exact hb) hr
    · rename_i h1
      obtain ⟨rfl, rfl⟩ := h
      have hu : u = .slice none 0 0 := by
        cases hr with
        | d hr => cases hr; rfl
      subst hu
      exact .own (by simp only [bR, h1]) (Vd.rep (v := .d .nil) (by simp [Vd]) hr)
    · exact h.elim
  | .ms h' sz n, h, hr => by
    simp only [Vw] at h
    obtain ⟨k, h1, rfl⟩ := h
    cases hr with
    | ms hb hn ho => exact .ms (by simp only [bR, h1]; exact hb) hn ho
  | .agg cs, h, hr => by
    simp only [Vw] at h
    split at h
    · rename_i vs hv
      obtain ⟨us, rfl, k⟩ := aggV_ok hr hv
      have := Vw.reps cs h k
      exact .agg this.1 this.2
    · exact h.elim
  | .tup cs, h, hr => by
    simp only [Vw] at h
    split at h
    · rename_i vs hv
      obtain ⟨us, rfl, k⟩ := tupV_ok hr hv
      have := Vw.reps cs h k
      exact .tup this.1 this.2
    · exact h.elim
  | .fn f a c, h, hr => by
    simp only [Vw] at h
    split at h
    · rename_i f' a' c' hv
      obtain ⟨ua, uc, rfl, k1, k2⟩ := fnV_ok hr hv
      obtain ⟨rfl, h1, h2⟩ := h
      have m1 := Vw.reps a h1 k1
      have m2 := Vw.reps c h2 k2
      exact .fn m1.1 m1.2 m2.1 m2.2
    · exact h.elim
  | .q sz rows i j, h, hr => by
    simp only [Vw] at h
    subst h
    cases hr with
    | q g hsz hA hu => exact .q g hsz hA hu
  | .h h', h, hr => by
    simp only [Vw] at h
    obtain ⟨k, h1, rfl⟩ := h
    cases hr with
    | h hb => exact .h (by simp only [bR, h1]; exact hb)
theorem Vw.reps {n0 : Nat} {R : List (Nat × Option Nat)} {β : Bt} {fz : Fz} {vs : List V} {us : Array Value} : ∀ (xs : List V), Vw.go n0 R vs xs → RepVs β fz vs us → RepVs (bR n0 R β) fz xs us
  | [], h, hr => by
    cases vs with
    | nil => exact ⟨hr.1, fun j d u a => by simp at a⟩
    | cons v vs => simp only [Vw.go] at h
  | x :: xs, h, hr => by
    cases vs with
    | nil => simp only [Vw.go] at h
    | cons v vs =>
      simp only [Vw.go] at h
      obtain ⟨u, h0, h1, h2⟩ := hr.tail
      have k1 := Vw.rep x h.1 h1
      have k2 := Vw.reps xs h.2 h2
      have hs := hr.1
      simp only [List.length_cons] at hs
      have ks := k2.1
      simp only [Array.size_extract] at ks
      refine ⟨by simp only [List.length_cons]; omega, fun j d w a b => ?_⟩
      cases j with
      | zero =>
        simp at a
        subst a
        rw [h0] at b; cases b; exact k1
      | succ j =>
        refine k2.2 j d w (by simpa using a) ?_
        have := (Array.getElem?_eq_some_iff.1 b).1
        rw [Array.getElem?_extract, if_pos (by omega), Nat.add_comm]; exact b
end
theorem lk_mem' {α : Type} {l : List (Nat × α)} {n : Nat} {v : α} (h : lk l n = some v) : (n, v) ∈ l := lk_mem h
theorem key_ne {R : List (Nat × Option Nat)} (hp : R.Pairwise fun x y => ∀ k, x.2 = some k → y.2 = some k → False) {h h' k : Nat} (h1 : lk R h = some (some k)) (h2 : lk R h' = some (some k)) : h = h' := by
  induction R with
  | nil => cases h1
  | cons x R ih =>
    obtain ⟨m, o⟩ := x
    simp only [lk] at h1 h2
    obtain ⟨q1, q2⟩ := List.pairwise_cons.1 hp
    split at h1
    · rename_i e1
      split at h2
      · rename_i e2; exact e1.trans e2.symm
      · cases h1
        exact (q1 _ (lk_mem h2) k rfl rfl).elim
    · split at h2
      · cases h2
        exact (q1 _ (lk_mem h1) k rfl rfl).elim
      · exact ih q2 h1 h2
theorem RelB.wr {C : Cx} {R : List (Nat × Option Nat)} {s s' : LS} {a : Act} {w : World} {β : Bt} {fz : Fz} (r : RelB C s a w β fz) (h : Wr C.n0 R s s') : RelB C s' a w (bR C.n0 R β) fz := by
  have low : ∀ k, k < C.n0 → bR C.n0 R β k = β k := fun k hk => by simp [bR, rl, hk]
  have real : ∀ x b', s'.blk x = some b' → Hw C.n0 R s x (some b') := fun x b' hb => by
    simp only [LS.blk, Option.join_eq_some_iff] at hb
    exact h.heap _ (lk_mem hb)
  refine { r with ble := ?_, bnew := ?_, free := ?_, hreps := ?_, inj := ?_, env := ?_, dfs := ?_ }
  · intro k x hk
    have := C.hb k x hk
    rw [low k this, r.bnew k this, hk]
  · exact fun k hk => (low k hk).trans (r.bnew k hk)
  · rintro k ⟨h1, h2⟩
    have h0 : ¬ k < C.n0 := by have := h.fresh; omega
    refine ⟨?_, by omega⟩
    have : lk R k = none := by
      cases hq : lk R k with
      | none => rfl
      | some o =>
        have := (h.low _ (lk_mem hq)).1
        simp only at this; omega
    simp [bR, rl, h0, this]
  · intro x b' hb
    have hx := real x b' hb
    simp only [Hw] at hx
    split at hx
    · rename_i k hk
      split at hx
      · rename_i b hbk
        obtain ⟨y, h1, h2, h3⟩ := r.hreps k b hbk
        refine ⟨y, by simp only [bR, hk]; exact h1, h2, ?_⟩
        cases b with
        | cells cs t =>
          cases b' <;> simp only [Bw] at hx
          obtain ⟨rfl, hx⟩ := hx
          obtain ⟨bb, us, rfl, k1, k2, k3⟩ := h3
          exact ⟨bb, us, rfl, k1, Vw.reps _ hx k2, k3⟩
        | tail n sz e => simp only [Bw] at hx; subst hx; exact h3
        | iter l p => simp only [Bw] at hx; subst hx; exact h3
        | imap es => simp only [Bw] at hx; subst hx; exact h3
      · exact hx.elim
    · rename_i hk
      obtain ⟨sz, e, rfl⟩ := hx
      exact ⟨.slice none 0 0, by simp only [bR, hk], (fun k e => by cases e), [], World.ownsRow_nil .., fun b e => by cases e⟩
    · exact hx.elim
  · rintro x x' y y' k ⟨b, hb⟩ ⟨b', hb'⟩ h1 h2 h3 h4
    have tgt : ∀ x b y, s'.blk x = some b → bR C.n0 R β x = some y → blkOf y = some k → ∃ t bt, rl C.n0 R x = some (some t) ∧ s.blk t = some bt ∧ β t = some y := fun x b y hb h1 h3 => by
      have hx := real x b hb
      simp only [Hw] at hx
      split at hx
      · rename_i t ht
        split at hx
        · rename_i bt hbt
          exact ⟨t, bt, ht, hbt, by simpa only [bR, ht] using h1⟩
        · exact hx.elim
      · rename_i ht
        simp only [bR, ht, Option.some.injEq] at h1
        subst h1
        cases h3
      · exact hx.elim
    obtain ⟨t, bt, p1, p2, p3⟩ := tgt x b y hb h1 h3
    obtain ⟨t', bt', q1, q2, q3⟩ := tgt x' b' y' hb' h2 h4
    have := r.inj t t' y y' k ⟨_, p2⟩ ⟨_, q2⟩ p3 q3 h3 h4
    subst this
    unfold rl at p1 q1
    split at p1
    · rename_i hl
      cases p1
      split at q1
      · cases q1; rfl
      · have := (h.low _ (lk_mem q1)).2 _ rfl; omega
    · split at q1
      · cases q1
        have := (h.low _ (lk_mem p1)).2 _ rfl; omega
      · exact key_ne h.keys p1 q1
  · intro d v hv
    obtain ⟨v', h1, h2⟩ := h.env _ (lk_mem hv)
    obtain ⟨u, h3, h4⟩ := r.env d v' h1
    exact ⟨u, h3, Vw.rep v h2 h4⟩
  · have none' : s.dfs = [] → DR C.w0.heap.size s' w (bR C.n0 R β) fz a.defers := fun e => by
      rw [r.dfs.nil e]
      rcases h.dfs.2 with e' | e'
      · exact .inl ⟨by rw [e', e]; rfl, fun j x d _ q => by simp at q⟩
      · exact .inr ⟨[], [], [], by rw [e']; rfl, rfl, ⟨rfl, fun j x d _ q => by simp at q⟩, ⟨(fun d hd => by cases hd), List.Pairwise.nil⟩⟩
    rcases h.dfs.1 with e | e
    · exact none' e
    · have e' : s'.dfs = [snt] := by rcases h.dfs.2 with e' | e'; exact e'.trans e; exact e'
      refine .inr ⟨[], [], a.defers, by rw [e']; rfl, rfl, ⟨rfl, fun j x d _ q => by simp at q⟩, (r.dfs.marks e).to fun D _ h2 h3 h4 => ⟨h2, h3, fun x b y hb hy hk => ?_⟩⟩
      have hx := real x b hb
      simp only [Hw] at hx
      split at hx
      · rename_i k hk'
        split at hx
        · rename_i bt hbt
          exact h4 k bt y hbt (by simpa only [bR, hk'] using hy) hk
        · exact hx.elim
      · rename_i hk'
        simp only [bR, hk', Option.some.injEq] at hy
        subst hy
        cases hk
      · exact hx.elim
theorem Leaf.loop {P : Program} {nt n0 : Nat} {F : Fx → LS → Prop} (hmx : P.follows .mixedOrders = true) {c : Code} {k : List It} {s : LS} {α : Type} (I : α → LS) (pre : α → Prop) (μ : α → Nat) (x0 : α) (R0 : List (Nat × Option Nat)) (hk : ∀ y ∈ k, y.plain)
    (h0 : pre x0) (hw : Wr n0 R0 s (I x0))
    (round : ∀ x, pre x → ∀ B : LS → Prop, (∀ x' R s', pre x' → μ x' < μ x → Wr n0 R s' (I x') → B s') → gx ⟨P, nt, n0, xo P, F⟩ (.code c :: .back B :: k) (I x)) : Leaf ⟨P, nt, n0, xo P, F⟩ (.loop c) k s := by
  intro X hP hnt hn0 a w ⟨β, fz, r⟩
  subst hP; subst hnt; subst hn0
  refine wp_loop_ghost (fun n a w => ∃ x, pre x ∧ μ x = n ∧ Rel X (I x) a w) (μ x0) ⟨x0, h0, rfl, _, _, r.wr hw⟩ ?_
  rintro n a w ⟨x, hx, rfl, hr⟩
  have h1 := gx_sound hmx X rfl rfl rfl _ _ _ (Nat.le_refl _) (show Wf (.code c :: .back (fun s' => ∃ x' R, pre x' ∧ μ x' < μ x ∧ Wr X.n0 R s' (I x')) :: k) from ⟨trivial, fun y hy => by
    rcases List.mem_cons.1 hy with rfl | hy
    · trivial
    · exact hk y hy⟩) (round x hx _ fun x' R s' a b c => ⟨x', R, a, b, c⟩) a w hr
  have h2 : c.wp X.P (sem X F (.back (fun s' => ∃ x' R, pre x' ∧ μ x' < μ x ∧ Wr X.n0 R s' (I x')) :: k)) a w := h1
  refine wp_mono h2 fun e a' w' hq => ?_
  cases e with
  | normal =>
    obtain ⟨s', ⟨x', R, p1, p2, p3⟩, β', fz', r'⟩ := hq
    exact ⟨_, p2, x', p1, rfl, _, _, r'.wr p3⟩
  | exit id => exact hq
  | goto l => exact hq
  | ret => exact hq
  | panic ch => exact hq
  | outgrown => exact hq
end Go.Lm
/- The logical machine: calls that are handed memory of the caller's. -/
set_option linter.constructorNameAsVariable false
namespace Go.Lm
open Go Go.RowKit

/-- all handles in a value are less than N -/
def V.lt (N : Nat) : V → Bool
  | .p x _ => Nat.blt x N
  | .own x _ _ => Nat.blt x N
  | .ms x _ _ => Nat.blt x N
  | .h x => Nat.blt x N
  | .agg cs => lts cs
  | .tup cs => lts cs
  | .fn _ a c => lts a && lts c
  | _ => true
where lts : List V → Bool
  | [] => true
  | v :: vs => v.lt N && lts vs
def Blk.lt (N : Nat) : Blk → Bool
  | .cells cs _ => V.lt.lts N cs
  | _ => true
/-- a row is handed over as data that nobody changes -/
def V.frz : V → V
  | .own _ sz rows => .d (.sl sz rows)
  | .agg cs => .agg (go cs)
  | .tup cs => .tup (go cs)
  | v => v
where go : List V → List V
  | [] => []
  | v :: vs => v.frz :: go vs

mutual
theorem lt_rep {N : Nat} {β β' : Bt} {fz : Fz} (hb : ∀ h x, h < N → β h = some x → β' h = some x) : ∀ (v : V) {u : Value}, v.lt N = true → RepV β fz v u → RepV β' fz v u
  | .d x, _, _, .d h => .d h
  | .p h o, _, k, .p hq => .p (hb _ _ (by simpa [V.lt] using k) hq)
  | .q .., _, _, .q g a b c => .q g a b c
  | .own h sz r, _, k, .own hq hr => .own (hb _ _ (by simpa [V.lt] using k) hq) hr
  | .ms h sz n, _, k, .ms hq hn ho => .ms (hb _ _ (by simpa [V.lt] using k) hq) hn ho
  | .agg cs, _, k, .agg hl h => by
    have := lts_rep hb cs (by simpa only [V.lt] using k) ⟨hl, h⟩
    exact .agg this.1 this.2
  | .tup cs, _, k, .tup hl h => by
    have := lts_rep hb cs (by simpa only [V.lt] using k) ⟨hl, h⟩
    exact .tup this.1 this.2
  | .fn f a c, _, k, .fn hla ha hlc hc => by
    simp only [V.lt, Bool.and_eq_true] at k
    have h1 := lts_rep hb a k.1 ⟨hla, ha⟩
    have h2 := lts_rep hb c k.2 ⟨hlc, hc⟩
    exact .fn h1.1 h1.2 h2.1 h2.2
  | .h _, _, k, .h hq => .h (hb _ _ (by simpa [V.lt] using k) hq)
  | .u, _, _, .u v => .u v
theorem lts_rep {N : Nat} {β β' : Bt} {fz : Fz} (hb : ∀ h x, h < N → β h = some x → β' h = some x) : ∀ (vs : List V) {us : Array Value}, V.lt.lts N vs = true → RepVs β fz vs us → RepVs β' fz vs us
  | [], us, _, h => ⟨h.1, fun j d u a => by simp at a⟩
  | v :: vs, us, k, h => by
    simp only [V.lt.lts, Bool.and_eq_true] at k
    obtain ⟨u, h0, h1, h2⟩ := h.tail
    have k1 := lt_rep hb v k.1 h1
    have k2 := lts_rep hb vs k.2 h2
    have hs := h.1
    simp only [List.length_cons] at hs
    refine ⟨by simp only [List.length_cons]; omega, fun j d w a b => ?_⟩
    cases j with
    | zero =>
      simp at a
      subst a
      rw [h0] at b; cases b; exact k1
    | succ j =>
      refine k2.2 j d w (by simpa using a) ?_
      have := (Array.getElem?_eq_some_iff.1 b).1
      rw [Array.getElem?_extract, if_pos (by omega), Nat.add_comm]; exact b
end
mutual
theorem frz_rep {β : Bt} {fz : Fz} : ∀ (v : V) {u : Value}, RepV β fz v u → RepV β fz v.frz u
  | .d x, _, h => h
  | .p _ _, _, hh => hh
  | .q .., _, h => h
  | .own h sz r, _, .own hq hr => .d hr
  | .ms _ _ _, _, hh => hh
  | .agg cs, _, .agg hl h => by
    have := frzs_rep cs ⟨hl, h⟩
    exact .agg this.1 this.2
  | .tup cs, _, .tup hl h => by
    have := frzs_rep cs ⟨hl, h⟩
    exact .tup this.1 this.2
  | .fn f a c, _, h => h
  | .h _, _, hh => hh
  | .u, _, h => h
theorem frzs_rep {β : Bt} {fz : Fz} : ∀ (vs : List V) {us : Array Value}, RepVs β fz vs us → RepVs β fz (V.frz.go vs) us
  | [], us, h => h
  | v :: vs, us, h => by
    obtain ⟨u, h0, h1, h2⟩ := h.tail
    have k1 := frz_rep v h1
    have k2 := frzs_rep vs h2
    have hs := h.1
    simp only [List.length_cons] at hs
    have ks := k2.1
    simp only [Array.size_extract] at ks
    refine ⟨by simp only [V.frz.go, List.length_cons]; omega, fun j d w a b => ?_⟩
    cases j with
    | zero =>
      simp [V.frz.go] at a
      subst a
      rw [h0] at b; cases b; exact k1
    | succ j =>
      refine k2.2 j d w (by simpa [V.frz.go] using a) ?_
      have := (Array.getElem?_eq_some_iff.1 b).1
      rw [Array.getElem?_extract, if_pos (by omega), Nat.add_comm]; exact b
end

/-- called with such values, where such blocks lie and no handle from N on is in use -/
def SpecN (P : Program) (f : FuncId) (args : List V) (N : Nat) (H : List (Nat × Blk)) (r : V) (H' : List (Nat × Blk)) (N' : Nat) : Prop :=
  ∀ (β : Bt) (fz : Fz) (own : Nat → Prop) (w : World) (us : Array Value), FzOk fz w → (∀ k, w.heap.size ≤ k → own k) →
  (∀ x ∈ H, HRep β fz w own x.1 x.2) → InjOn β (fun h => ∃ x ∈ H, x.1 = h) → (∀ h, N ≤ h → β h = none) → RepVs β fz args us →
  Calls P f us w fun e w' => ∃ u β' fz', Post β fz w own H (List.range' N (N' - N)) H' r u β' fz' w' ∧ e = .returned u
def envV : Nat → List V → List (Nat × V)
  | _, [] => []
  | k, v :: vs => (k, v) :: envV (k + 1) vs
theorem lk_envV : ∀ (ds : List V) (k n : Nat) (v : V), lk (envV k ds) n = some v → ds[n - k]? = some v ∧ k ≤ n
  | [], k, n, v, h => by cases h
  | d :: ds, k, n, v, h => by
    simp only [envV, lk] at h
    split at h
    · rename_i e
      cases h
      subst e
      exact ⟨by simp, Nat.le_refl _⟩
    · rename_i e
      obtain ⟨h1, h3⟩ := lk_envV ds (k + 1) n v h
      refine ⟨?_, by omega⟩
      rw [show n - k = (n - (k + 1)) + 1 by omega]
      simpa using h1
def RetV (P : Program) (rs : List ResultVar) (r : V) (H' : List (Nat × Blk)) (N' : Nat) (fx : Fx) (s : LS) : Prop := s.dfs = [] ∧ match fx with
  | .ret => ∃ vs, resL P s rs = some vs ∧ pack vs = r ∧ (∀ x ∈ H', s.blk x.1 = some x.2) ∧ (∀ h, N' ≤ h → s.free h)
  | .pan _ => False
/-- a function's contract by its body -/
theorem SpecN.of_gx {P : Program} {f : FuncId} {fn : Func} {c : Code} {args : List V} {N : Nat} {H : List (Nat × Blk)} {r : V} {H' : List (Nat × Blk)} {N' : Nat} (hmx : P.follows .mixedOrders = true) (hf : P.funcs[f]? = some fn) (hb : fn.body = some c) (hn : args.length ≤ fn.ntmps)
    (h : ∀ F : Fx → LS → Prop, (∀ fx s, RetV P fn.results.toList r H' N' fx s → F fx s) → gx ⟨P, fn.ntmps, N, xo P, F⟩ [.code c] ⟨envV 0 args, H.map (fun x => (x.1, some x.2)), N, [], []⟩) : SpecN P f args N H r H' N' := by
  intro β fz own w us hok hown hH hinj hfree hr
  refine calls_of_wp hf hb ?_
  let X : Cx := ⟨P, w, β, fz, BlkIn β H, N, fn.ntmps, fun k x e => by
    refine Decidable.byContradiction fun hk => ?_
    rw [hfree k (by omega)] at e; cases e⟩
  have hHm : ∀ x b, (LS.mk (envV 0 args) (H.map (fun x => (x.1, some x.2))) N [] []).blk x = some b → (x, b) ∈ H := fun x b e => by
    simp only [LS.blk, lk_some_map] at e
    cases hq : lk H x with
    | none => rw [hq] at e; cases e
    | some b' => rw [hq] at e; cases e; exact lk_mem hq
  have hrel : Rel X ⟨envV 0 args, H.map (fun x => (x.1, some x.2)), N, [], []⟩ { tmps := us ++ Array.replicate (fn.ntmps - us.size) undef, defers := [] } w := by
    refine ⟨β, fz, rfl, rfl, rfl, Nat.le_refl _, (fun _ _ _ => rfl), Bt.Le.refl _, (fun _ _ => rfl), Fz.Le.refl _, (fun _ _ _ _ => rfl), hok, (fun h hh => ⟨hfree h hh.1, hh.1⟩), (fun h blk hb => ?_), (fun h h' y y' k ⟨b, hb⟩ ⟨b', hb'⟩ => hinj h h' y y' k ⟨_, hHm _ _ hb, rfl⟩ ⟨_, hHm _ _ hb', rfl⟩), (fun d v hv => ?_), ?_, .inl ⟨rfl, fun j x d a => by simp at a⟩⟩
    · have hm := hHm _ _ hb
      obtain ⟨y, h1, h2, h3⟩ := hH _ hm
      exact ⟨y, h1, fun k hk => ⟨.inr ⟨_, hm, y, h1, hk⟩, (h2 k hk).2⟩, h3⟩
    · obtain ⟨h1, _⟩ := lk_envV args 0 d v hv
      have hlt : d < us.size := by rw [hr.1]; exact (List.getElem?_eq_some_iff.1 h1).1
      refine ⟨us[d], ?_, hr.2 d v _ (by simpa using h1) (Array.getElem?_eq_getElem hlt)⟩
      rw [Array.getElem?_append_left hlt, Array.getElem?_eq_getElem hlt]
    · have := hr.1
      show (us ++ Array.replicate (fn.ntmps - us.size) undef).size = fn.ntmps
      simp; omega
  have hs := gx_sound hmx X rfl rfl rfl _ [.code c] _ (Nat.le_refl _) ⟨trivial, fun y hy => by cases hy⟩ (h (RetV P fn.results.toList r H' N') fun _ _ h => h) _ w hrel
  refine wp_mono (show c.wp P (sem X (RetV P fn.results.toList r H' N') []) _ w from hs) fun e a' w' he => ?_
  have ret : (∃ s, RetV P fn.results.toList r H' N' .ret s ∧ Rel X s a' w') → bodyPost P fn (fun e w' => ∃ u β' fz', Post β fz w own H (List.range' N (N' - N)) H' r u β' fz' w' ∧ e = .returned u) .ret a' w' := fun ⟨s, ⟨hd, vs, h1, h2, h3, h4⟩, β', fz', rb⟩ => by
    obtain ⟨u, k1, k2⟩ := results_ok rb h1
    have nodef : a'.defers = [] := rb.dfs.nil hd
    refine ⟨nodef, u, k1, u, β', fz', ?_, rfl⟩
    subst h2
    exact {
      ble := rb.ble
      bnew := fun x hx => by
        by_cases h0 : x < N
        · exact rb.bnew x h0
        · have h5 : N' ≤ x := by
            refine Decidable.byContradiction fun h6 => hx ?_
            rw [List.mem_range'_1]
            omega
          rw [(rb.free x (h4 x h5)).1, hfree x (by omega)]
      fle := rb.fle
      ffr := fun b hb hn o => rb.ffr b hb hn o
      ok := rb.ok
      os := rb.os
      tape := rb.tape
      output := rb.output
      size := rb.size
      frame := fun b hb hn => rb.frame b hb hn
      hreps := fun x hx => by
        obtain ⟨y, q1, q2, q3⟩ := rb.hreps _ _ (h3 x hx)
        refine ⟨y, q1, fun k hk => ⟨?_, (q2 k hk).2⟩, q3⟩
        rcases (q2 k hk).1 with h | ⟨z, hz, y', hy', hk'⟩
        · exact hown k h
        · obtain ⟨y'', p1, p2, _⟩ := hH z hz
          rw [hy'] at p1; cases p1
          exact (p2 k hk').1
      blks := fun x hx y k hy hk => by
        obtain ⟨y', q1, q2, q3⟩ := rb.hreps _ _ (h3 x hx)
        rw [hy] at q1; cases q1
        exact (q2 k hk).1
      inj := fun h h' y y' k ⟨x, hx, e⟩ ⟨x', hx', e'⟩ => rb.inj h h' y y' k ⟨_, e ▸ h3 x hx⟩ ⟨_, e' ▸ h3 x' hx'⟩
      v := k2 }
  cases e with
  | normal => exact ret he
  | ret => exact ret he
  | panic ch =>
    obtain ⟨s, x, v, β, fz', ⟨hd, hs⟩, _⟩ := he
    exact hs.elim
  | exit id => exact he.elim
  | goto l => exact he.elim
  | outgrown => exact he.elim

theorem HB.lt {N : Nat} {β β' : Bt} {fz : Fz} {w : World} {x : Value} {b : Blk} (hb : ∀ h x, h < N → β h = some x → β' h = some x) (hl : b.lt N = true) (h : HB β fz w x b) : HB β' fz w x b := by
  cases b with
  | cells cs t =>
    obtain ⟨bb, us, rfl, h1, h2, h3⟩ := h
    exact ⟨bb, us, rfl, h1, lts_rep hb cs hl h2, h3⟩
  | _ => exact h
/-- what a way of calling says, with names of blocks -/
def HG (C : Fz → Array Value → World → (Value → World → Prop) → Prop) (args : List V) (hp : List (Nat × Blk)) (news : List Nat) (out : List (Nat × Blk)) (r : V) : Prop := ∀ (β : Bt) (fz : Fz) (own : Nat → Prop) (w : World) (us : Array Value), FzOk fz w → (∀ k, w.heap.size ≤ k → own k) →
  (∀ x ∈ hp, HRep β fz w own x.1 x.2) → InjOn β (fun h => ∃ x ∈ hp, x.1 = h) → (∀ h ∈ news, β h = none) → RepVs β fz args us →
  C fz us w fun u w' => ∃ β' fz', Post β fz w own hp news out r u β' fz' w'
def NG (C : Fz → Array Value → World → (Value → World → Prop) → Prop) (args : List V) (N : Nat) (H : List (Nat × Blk)) (r : V) (H' : List (Nat × Blk)) (N' : Nat) : Prop := ∀ (β : Bt) (fz : Fz) (own : Nat → Prop) (w : World) (us : Array Value), FzOk fz w → (∀ k, w.heap.size ≤ k → own k) →
  (∀ x ∈ H, HRep β fz w own x.1 x.2) → InjOn β (fun h => ∃ x ∈ H, x.1 = h) → (∀ h, N ≤ h → β h = none) → RepVs β fz args us →
  C fz us w fun u w' => ∃ β' fz', Post β fz w own H (List.range' N (N' - N)) H' r u β' fz' w'
theorem NG.toH {C : Fz → Array Value → World → (Value → World → Prop) → Prop} (hC : ∀ fz us w (R R' : Value → World → Prop), (∀ u w', R u w' → R' u w') → C fz us w R → C fz us w R') {args : List V} {N : Nat} {H : List (Nat × Blk)} {r : V} {H' : List (Nat × Blk)} {N' : Nat} (h : NG C (V.frz.go args) N H r H' N') (ha : V.lt.lts N (V.frz.go args) = true) (hH : ∀ x ∈ H, x.1 < N ∧ x.2.lt N = true) : HG C args H (List.range' N (N' - N)) H' r := by
  intro β fz own w us hok hown hhp hinj hnews hr
  let βr : Bt := fun k => if k < N then β k else none
  have hle : ∀ k x, k < N → β k = some x → βr k = some x := fun k x hk e => by simp [βr, hk, e]
  have hle' : Bt.Le βr β := fun k x e => by
    simp only [βr] at e
    split at e
    · exact e
    · cases e
  have hk0 : ∀ x ∈ H, βr x.1 = β x.1 := fun x hx => by simp [βr, (hH x hx).1]
  refine hC _ _ _ _ _ ?_ (h βr fz own w us hok hown (fun x hx => ?_) (fun h h' y y' k ⟨x, hx, e⟩ ⟨x', hx', e'⟩ h1 h2 => hinj h h' y y' k ⟨x, hx, e⟩ ⟨x', hx', e'⟩ (hle' _ _ h1) (hle' _ _ h2)) (fun k hk => by simp [βr, Nat.not_lt.2 hk]) (lts_rep hle _ ha (frzs_rep _ hr)))
  · rintro u w' ⟨β', fz', p⟩
    let β'' : Bt := fun k => if k ∈ List.range' N (N' - N) then β' k else β k
    have hup : Bt.Le β' β'' := fun k x e => by
      by_cases hk : k ∈ List.range' N (N' - N)
      · simp only [β'', if_pos hk]; exact e
      · have := p.bnew k hk
        rw [this] at e
        simp only [β'', if_neg hk]
        exact hle' _ _ e
    have hbi : ∀ k, BlkIn βr H k ↔ BlkIn β H k := fun k => by
      constructor
      · exact fun ⟨x, hx, y, h1, h2⟩ => ⟨x, hx, y, hle' _ _ h1, h2⟩
      · exact fun ⟨x, hx, y, h1, h2⟩ => ⟨x, hx, y, by rw [hk0 x hx]; exact h1, h2⟩
    have hout : ∀ x ∈ H', ∀ y, β'' x.1 = some y → β' x.1 = some y := fun x hx y e => by
      obtain ⟨y', h1, _⟩ := p.hreps x hx
      have := hup _ _ h1
      rw [e] at this; cases this
      exact h1
    refine ⟨β'', fz', ?_⟩
    exact {
      ble := fun k x e => by
        by_cases hk : k ∈ List.range' N (N' - N)
        · rw [hnews k hk] at e; cases e
        · simp only [β'', if_neg hk]; exact e
      bnew := fun k hk => by simp only [β'', if_neg hk]
      fle := p.fle
      ffr := fun b hb hn o => p.ffr b hb (fun h => hn ((hbi b).1 h)) o
      ok := p.ok
      os := p.os
      tape := p.tape
      output := p.output
      size := p.size
      frame := fun b hb hn => p.frame b hb fun h => hn ((hbi b).1 h)
      hreps := fun x hx => by
        obtain ⟨y, h1, h2, h3⟩ := p.hreps x hx
        exact ⟨y, hup _ _ h1, h2, h3.frame hup (Fz.Le.refl _) fun _ _ => ⟨rfl, fun _ => rfl⟩⟩
      blks := fun x hx y k hy hk => by
        rcases p.blks x hx y k (hout x hx y hy) hk with h | h
        · exact .inl h
        · exact .inr ((hbi k).1 h)
      inj := fun h h' y y' k ⟨x, hx, e⟩ ⟨x', hx', e'⟩ h1 h2 h3 h4 => p.inj h h' y y' k ⟨x, hx, e⟩ ⟨x', hx', e'⟩ (e ▸ hout x hx y (e ▸ h1)) (e' ▸ hout x' hx' y' (e' ▸ h2)) h3 h4
      v := p.v.mono hup (Fz.Le.refl _) }
  · obtain ⟨y, h1, h2, h3⟩ := hhp x hx
    exact ⟨y, by rw [hk0 x hx]; exact h1, h2, h3.lt hle (hH x hx).2⟩
/-- a call of the function -/
def callC (P : Program) (f : FuncId) (_ : Fz) (us : Array Value) (w : World) (R : Value → World → Prop) : Prop := Calls P f us w fun e w' => ∃ u, e = .returned u ∧ R u w'
theorem callC_mono {P : Program} {f : FuncId} : ∀ fz us w (R R' : Value → World → Prop), (∀ u w', R u w' → R' u w') → callC P f fz us w R → callC P f fz us w R' := fun _ _ _ _ _ hR h => h.mono fun _ w' ⟨u, e, k⟩ => ⟨u, e, hR u w' k⟩
/-- with the caller's names for its blocks, whatever other names there are -/
theorem SpecN.toH {P : Program} {f : FuncId} {args : List V} {N : Nat} {H : List (Nat × Blk)} {r : V} {H' : List (Nat × Blk)} {N' : Nat} (h : SpecN P f (V.frz.go args) N H r H' N') (ha : V.lt.lts N (V.frz.go args) = true) (hH : ∀ x ∈ H, x.1 < N ∧ x.2.lt N = true) : SpecH P f args [] H (List.range' N (N' - N)) H' r := by
  have hg : NG (callC P f) (V.frz.go args) N H r H' N' := fun β fz own w us a b c d e g => (h β fz own w us a b c d e g).mono fun _ _ ⟨u, β', fz', p, q⟩ => ⟨u, q, β', fz', p⟩
  have hh := hg.toH callC_mono ha hH
  exact fun β fz own w us a b _ c d e g => (hh β fz own w us a b c (fun h h' y y' k h1 h2 => d h h' y y' k (.inl h1) (.inl h2)) e g).mono fun _ _ ⟨u, q, β', fz', p⟩ => ⟨u, β', fz', p, q⟩
end Go.Lm
/- The logical machine: calls that are put off, and panics that are recovered from. -/
set_option linter.constructorNameAsVariable false
namespace Go.Lm
open Go Go.RowKit

def modeIs (fz : Fz) (m : Option D) (u : FrameMode) : Prop := match m with
  | none => u = .returning
  | some d => ∃ vp, u = .panicking [{ v := vp, recovered := false }] ∧ RepD fz d vp
/-- the function runs as a call that was put off; m: what the frame panics with -/
def dfrC (P : Program) (f : FuncId) (m : Option D) (fz : Fz) (us : Array Value) (w : World) (R : Value → World → Prop) : Prop := ∀ u, modeIs fz m u → CallsD P f us u w fun e u' w' => settle u' = .returning ∧ ∃ v, e = .returned v ∧ R v w'
theorem dfrC_mono {P : Program} {f : FuncId} {m : Option D} : ∀ fz us w (R R' : Value → World → Prop), (∀ u w', R u w' → R' u w') → dfrC P f m fz us w R → dfrC P f m fz us w R' := fun _ _ _ _ _ hR h u hu => (h u hu).mono fun _ _ w' ⟨a, v, b, c⟩ => ⟨a, v, b, hR v w' c⟩
def recV : Option D → V
  | none => .d (.raw .nilIface)
  | some d => .d d
theorem NG.of_gxD {P : Program} {f : FuncId} {fn : Func} {id t : Nat} {as : Array TypeId} {ty : TypeId} {pos : String} {aft : Array Edge} {rest : Code} {args : List V} {N : Nat} {H : List (Nat × Blk)} {m : Option D} {r : V} {H' : List (Nat × Blk)} {N' : Nat} (hmx : P.follows .mixedOrders = true)
    (hf : P.funcs[f]? = some fn) (hb : fn.body = some (.seq (.region id #[⟨some t, .call { callee := .builtin .recover, args := #[], argTypes := as }, ty, pos, aft, none⟩] false) rest)) (hn : args.length ≤ fn.ntmps) (ht : t < fn.ntmps)
    (h : ∀ F : Fx → LS → Prop, (∀ fx s, RetV P fn.results.toList r H' N' fx s → F fx s) → gx ⟨P, fn.ntmps, N, xo P, F⟩ [.code rest] ⟨(t, recV m) :: envV 0 args, H.map (fun x => (x.1, some x.2)), N, [], []⟩) : NG (dfrC P f m) args N H r H' N' := by
  intro β fz own w us hok hown hH hinj hfree hr u hu
  refine callsD_of_wpS hf hb fun c₀ cs hmode => ?_
  let X : Cx := ⟨P, w, β, fz, BlkIn β H, N, fn.ntmps, fun k x e => by
    refine Decidable.byContradiction fun hk => ?_
    rw [hfree k (by omega)] at e; cases e⟩
  have hHm : ∀ e x b, (LS.mk e (H.map (fun x => (x.1, some x.2))) N [] []).blk x = some b → (x, b) ∈ H := fun _ x b e => by
    simp only [LS.blk, lk_some_map] at e
    cases hq : lk H x with
    | none => rw [hq] at e; cases e
    | some b' => rw [hq] at e; cases e; exact lk_mem hq
  let a0 : Act := { tmps := us ++ Array.replicate (fn.ntmps - us.size) undef, defers := [] }
  have hsz : a0.tmps.size = fn.ntmps := by
    have := hr.1
    show (us ++ Array.replicate (fn.ntmps - us.size) undef).size = fn.ntmps
    simp; omega
  have hrel : ∀ vr, RepV β fz (recV m) vr → Rel X ⟨(t, recV m) :: envV 0 args, H.map (fun x => (x.1, some x.2)), N, [], []⟩ (a0.put (some t) vr) w := fun vr hvr => by
    refine ⟨β, fz, rfl, rfl, rfl, Nat.le_refl _, (fun _ _ _ => rfl), Bt.Le.refl _, (fun _ _ => rfl), Fz.Le.refl _, (fun _ _ _ _ => rfl), hok, (fun h hh => ⟨hfree h hh.1, hh.1⟩), (fun h blk hb => ?_), (fun h h' y y' k ⟨b, hb⟩ ⟨b', hb'⟩ => hinj h h' y y' k ⟨_, hHm _ _ _ hb, rfl⟩ ⟨_, hHm _ _ _ hb', rfl⟩), (fun d v hv => ?_), ?_, .inl ⟨rfl, fun j x d a => by simp at a⟩⟩
    · have hm := hHm _ _ _ hb
      obtain ⟨y, h1, h2, h3⟩ := hH _ hm
      exact ⟨y, h1, fun k hk => ⟨.inr ⟨_, hm, y, h1, hk⟩, (h2 k hk).2⟩, h3⟩
    · simp only [lk] at hv
      split at hv
      · rename_i e
        cases hv
        subst e
        exact ⟨vr, by simp [Act.put, hsz, ht], hvr⟩
      · rename_i e
        obtain ⟨h1, _⟩ := lk_envV args 0 d v hv
        have hlt : d < us.size := by rw [hr.1]; exact (List.getElem?_eq_some_iff.1 h1).1
        refine ⟨us[d], ?_, hr.2 d v _ (by simpa using h1) (Array.getElem?_eq_getElem hlt)⟩
        simp only [Act.put]
        rw [Array.getElem?_setIfInBounds_ne (Ne.symm e)]
        show (us ++ Array.replicate (fn.ntmps - us.size) undef)[d]? = _
        rw [Array.getElem?_append_left hlt, Array.getElem?_eq_getElem hlt]
    · show (a0.put (some t) vr).tmps.size = fn.ntmps
      simpa [Act.put] using hsz
  have main : ∀ vr, RepV β fz (recV m) vr → rest.wp P (fun e a' w' => match e with
      | .normal | .ret => a'.defers = [] ∧ ∃ v, (results fn a'.tmps).run P w' = .ok v w' ∧ ∃ β' fz', Post β fz w own H (List.range' N (N' - N)) H' r v β' fz' w'
      | _ => False) (a0.put (some t) vr) w := fun vr hvr => by
    have hs := gx_sound hmx X rfl rfl rfl _ [.code rest] _ (Nat.le_refl _) ⟨trivial, fun y hy => by cases hy⟩ (h (RetV P fn.results.toList r H' N') fun _ _ h => h) _ w (hrel vr hvr)
    refine wp_mono (show rest.wp P (sem X (RetV P fn.results.toList r H' N') []) _ w from hs) fun e a' w' he => ?_
    have ret : (∃ s, RetV P fn.results.toList r H' N' .ret s ∧ Rel X s a' w') → a'.defers = [] ∧ ∃ v, (results fn a'.tmps).run P w' = .ok v w' ∧ ∃ β' fz', Post β fz w own H (List.range' N (N' - N)) H' r v β' fz' w' := fun ⟨s, ⟨hd, vs, h1, h2, h3, h4⟩, β', fz', rb⟩ => by
      obtain ⟨u, k1, k2⟩ := results_ok rb h1
      have nodef : a'.defers = [] := rb.dfs.nil hd
      refine ⟨nodef, u, k1, β', fz', ?_⟩
      subst h2
      exact {
        ble := rb.ble
        bnew := fun x hx => by
          by_cases h0 : x < N
          · exact rb.bnew x h0
          · have h5 : N' ≤ x := by
              refine Decidable.byContradiction fun h6 => hx ?_
              rw [List.mem_range'_1]
              omega
            rw [(rb.free x (h4 x h5)).1, hfree x (by omega)]
        fle := rb.fle
        ffr := fun b hb hn o => rb.ffr b hb hn o
        ok := rb.ok
        os := rb.os
        tape := rb.tape
        output := rb.output
        size := rb.size
        frame := fun b hb hn => rb.frame b hb hn
        hreps := fun x hx => by
          obtain ⟨y, q1, q2, q3⟩ := rb.hreps _ _ (h3 x hx)
          refine ⟨y, q1, fun k hk => ⟨?_, (q2 k hk).2⟩, q3⟩
          rcases (q2 k hk).1 with h | ⟨z, hz, y', hy', hk'⟩
          · exact hown k h
          · obtain ⟨y'', p1, p2, _⟩ := hH z hz
            rw [hy'] at p1; cases p1
            exact (p2 k hk').1
        blks := fun x hx y k hy hk => by
          obtain ⟨y', q1, q2, q3⟩ := rb.hreps _ _ (h3 x hx)
          rw [hy] at q1; cases q1
          exact (q2 k hk).1
        inj := fun h h' y y' k ⟨x, hx, e⟩ ⟨x', hx', e'⟩ => rb.inj h h' y y' k ⟨_, e ▸ h3 x hx⟩ ⟨_, e' ▸ h3 x' hx'⟩
        v := k2 }
    cases e with
    | normal => exact ret he
    | ret => exact ret he
    | panic ch =>
      obtain ⟨s, x, v, β, fz', ⟨hd, hs⟩, _⟩ := he
      exact hs.elim
    | exit id => exact he.elim
    | goto l => exact he.elim
    | outgrown => exact he.elim
  have fin : ∀ (u' : FrameMode) (vr : Value), RepV β fz (recV m) vr → settle u' = .returning → rest.wpS P (bodyPostS P fn c₀ cs fun e u' w' => settle u' = .returning ∧ ∃ v, e = .returned v ∧ ∃ β' fz', Post β fz w own H (List.range' N (N' - N)) H' r v β' fz' w') (a0.put (some t) vr) ({ c₀ with mode := u' } :: cs) w := fun u' vr hvr hs => by
    refine wpS_of_wp (wp_mono (main vr hvr) fun e a' w' he => ?_)
    cases e with
    | normal => exact ⟨he.1, u', rfl, he.2.choose, he.2.choose_spec.1, hs, _, rfl, he.2.choose_spec.2⟩
    | ret => exact ⟨he.1, u', rfl, he.2.choose, he.2.choose_spec.1, hs, _, rfl, he.2.choose_spec.2⟩
    | _ => exact he.elim
  refine wpS_seq (wpS_region ?_)
  show wpOpsS P #[⟨some t, .call { callee := .builtin .recover, args := #[], argTypes := as }, ty, pos, aft, none⟩] _ [0] a0 (c₀ :: cs) w
  unfold wpOpsS
  simp only [List.getElem?_toArray, List.getElem?_cons_zero, Region.wanted, if_true]
  have hx : (execOp (Act.eval a0) ⟨some t, .call { callee := .builtin .recover, args := #[], argTypes := as }, ty, pos, aft, none⟩).run P w = .ok .recover w := rfl
  simp only [hx]
  cases m with
  | none =>
    obtain rfl : u = .returning := hu
    have : recoverD (c₀ :: cs) = none := by simp [recoverD, hmode]
    simp only [this]
    have := fin .returning .nilIface (.d (.raw _)) rfl
    rwa [show ({ c₀ with mode := .returning } : Frame) = c₀ by rw [← hmode]] at this
  | some d =>
    obtain ⟨vp, rfl, hvp⟩ := hu
    have : recoverD (c₀ :: cs) = some (vp, { c₀ with mode := .panicking [{ v := vp, recovered := true }] } :: cs) := by simp [recoverD, hmode]
    simp only [this]
    exact fin _ vp (.d hvp) rfl

/-- how a function with at most one call that was put off may end -/
def RetX (P : Program) (rs : List ResultVar) (o : LO) (fx : Fx) (s : LS) : Prop := RetD P rs o fx s ∨ ∃ d f cap args H news H' r, o = .ret d ∧ s.dfs = [(.func f, cap, args)] ∧ Enters P f ∧ HG (dfrC P f (match fx with | .ret => none | .pan d => some d)) (args ++ cap) H news H' r ∧
  (∀ x ∈ H, s.blk x.1 = some x.2) ∧ (∀ h ∈ news, s.free h) ∧ (∀ x ∈ H', x.1 ∈ news ∨ ∃ z ∈ H, z.1 = x.1) ∧ ∃ vs, resL P (s.app none ⟨[], [], H, news, H', r⟩) rs = some vs ∧ (pack vs).toDh (s.app none ⟨[], [], H, news, H', r⟩) = some d
theorem SpecP.of_gxD {P : Program} {f : FuncId} {fn : Func} {c : Code} {args : List D} {o : LO} (hmx : P.follows .mixedOrders = true) (hf : P.funcs[f]? = some fn) (hb : fn.body = some c) (hn : args.length ≤ fn.ntmps)
    (h : ∀ F : Fx → LS → Prop, (∀ fx s, RetX P fn.results.toList o fx s → F fx s) → gx ⟨P, fn.ntmps, 0, xo P, F⟩ [.code c] ⟨envD 0 args, [], 0, [], []⟩) : SpecP P f args o := by
  intro fz w us hok hr
  refine calls_of_wp_defers hf hb ?_
  let X : Cx := ⟨P, w, fun _ => none, fz, fun _ => False, 0, fn.ntmps, fun _ _ e => by cases e⟩
  have hrel : Rel X ⟨envD 0 args, [], 0, [], []⟩ { tmps := us ++ Array.replicate (fn.ntmps - us.size) undef, defers := [] } w := by
    refine ⟨fun _ => none, fz, rfl, rfl, rfl, Nat.le_refl _, (fun _ _ _ => rfl), Bt.Le.refl _, (fun _ _ => rfl), Fz.Le.refl _, (fun _ _ _ _ => rfl), hok, (fun _ _ => ⟨rfl, Nat.zero_le _⟩), (fun h blk hb => by cases hb), (fun h h' y y' k ⟨b, hb⟩ => by cases hb), (fun d v hv => ?_), ?_, .inl ⟨rfl, fun j x d a => by simp at a⟩⟩
    · obtain ⟨x, h1, rfl, _⟩ := lk_envD args 0 d v hv
      have hlt : d < us.size := by rw [hr.1]; exact (List.getElem?_eq_some_iff.1 h1).1
      refine ⟨us[d], ?_, .d (hr.2 d x _ (by simpa using h1) (Array.getElem?_eq_getElem hlt))⟩
      rw [Array.getElem?_append_left hlt, Array.getElem?_eq_getElem hlt]
    · have := hr.1
      show (us ++ Array.replicate (fn.ntmps - us.size) undef).size = fn.ntmps
      simp; omega
  have hs := gx_sound hmx X rfl rfl rfl _ [.code c] _ (Nat.le_refl _) ⟨trivial, fun y hy => by cases hy⟩ (h (RetX P fn.results.toList o) fun _ _ h => h) _ w hrel
  refine wp_mono (show c.wp P (sem X (RetX P fn.results.toList o) []) _ w from hs) fun e a' w' he => ?_
  have below : ∀ {s a' w' β fz'}, RelB X s a' w' β fz' → Below w.heap.size w w' ∧ Fz.Le fz fz' ∧ (∀ b, b < w.heap.size → ∀ o, fz' b o = fz b o) ∧ FzOk fz' w' := fun r =>
    ⟨⟨r.os, r.tape, r.output, r.size, fun k hk => r.frame k hk fun h => h⟩, r.fle, fun b hb o => r.ffr b hb (fun h => h) o, r.ok⟩
  have belowA : ∀ {s a' w' β fz'}, RelB X s a' w' β fz' → Below w.heap.size w w' ∧ Fz.Le fz (fzAll X w' fz') ∧ (∀ b, b < w.heap.size → ∀ o, fzAll X w' fz' b o = fz b o) ∧ FzOk (fzAll X w' fz') w' := fun r =>
    ⟨⟨r.os, r.tape, r.output, r.size, fun k hk => r.frame k hk fun h => h⟩, r.fle.trans (fzAll_le r.ok), fun b hb o => by
      unfold fzAll
      rw [if_neg (Nat.not_le.2 hb)]
      exact r.ffr b hb (fun h => h) o, fzAll_ok r.ok⟩
  have nodef : ∀ {s β fz'}, RelB X s a' w' β fz' → s.dfs = [] → a'.defers = [] := fun {s β fz'} r hd => r.dfs.nil hd
  -- one call that was put off
  have one : ∀ (s : LS) (β : Bt) (fz' : Fz) (fx : Fx) (u : FrameMode), RelB X s a' w' β fz' → u ≠ .run → modeIs fz' (match fx with | .ret => none | .pan d => some d) u →
      (∃ d f cap args H news H' r, o = .ret d ∧ s.dfs = [(.func f, cap, args)] ∧ Enters P f ∧ HG (dfrC P f (match fx with | .ret => none | .pan d => some d)) (args ++ cap) H news H' r ∧
        (∀ x ∈ H, s.blk x.1 = some x.2) ∧ (∀ h ∈ news, s.free h) ∧ (∀ x ∈ H', x.1 ∈ news ∨ ∃ z ∈ H, z.1 = x.1) ∧ ∃ vs, resL P (s.app none ⟨[], [], H, news, H', r⟩) fn.results.toList = some vs ∧ (pack vs).toDh (s.app none ⟨[], [], H, news, H', r⟩) = some d) →
      Leaves P fn a'.tmps (fun e w' => ∃ fz' u, Below w.heap.size w w' ∧ Fz.Le fz fz' ∧ (∀ b, b < w.heap.size → ∀ o, fz' b o = fz b o) ∧ FzOk fz' w' ∧ o.is fz' u e) a'.defers u w' := fun s β fz' fx u r hu hm ⟨d, g, cap, dargs, H, news, H', rv, ho, hd, hen, hg, h1, h2, h3, vs, h4, h5⟩ => by
    subst ho
    obtain ⟨hl, hdr⟩ := r.dfs.plain (fun x hx => by rw [hd] at hx; simp at hx; subst hx; intro e; cases e)
    rw [hd] at hl
    match hds : a'.defers, hl with
    | [df], _ =>
      rw [hds] at hdr
      obtain ⟨_, cap', q1, q2, q3⟩ := hdr 0 (.func g, cap, dargs) df (by rw [hd]; rfl) rfl
      have hall : RepVs β fz' (dargs ++ cap) (df.args ++ cap') := by
        have := ((RepVs.list q3).append (RepVs.list q2)).arr
        have e : (df.args.toList ++ cap'.toList).toArray = df.args ++ cap' := by apply Array.ext'; simp
        rwa [e] at this
      have hinv : (invoke df.target df.args).run P w' = .ok (.enter g (df.args ++ cap')) w' := by
        rw [q1]
        exact hen _ w'
      refine ⟨hu, .func g, cap', g, _, q1, hinv, ?_⟩
      have hc := hg β fz' X.own w' _ r.ok (fun k hk => .inl (Nat.le_trans r.size hk)) (fun x hx => r.hreps _ _ (h1 x hx)) (fun h h' y y' k ⟨x, hx, e⟩ ⟨x', hx', e'⟩ => r.inj h h' y y' k ⟨_, e ▸ h1 x hx⟩ ⟨_, e' ▸ h1 x' hx'⟩) (fun h hh => (r.free h (h2 h hh)).1) hall u hm
      refine hc.mono fun e u' w'' ⟨k1, v, k2, β', fz'', p⟩ => ?_
      subst k2
      have r' := p.rel (e := ⟨[], [], H, news, H', rv⟩) (dst := none) r (fun d e => by cases e) h1 h2
      obtain ⟨ur, k3, k4⟩ := results_ok r' h4
      obtain ⟨b1, b2, b3, b4⟩ := belowA r'
      simp only [k1]
      exact ⟨ur, k3, fzAll X w'' fz'', ur, b1, b2, b3, b4, rfl, toDh_rep r' (fun _ h => h) _ h5 k4⟩
  have ret : (∃ s, RetX P fn.results.toList o .ret s ∧ Rel X s a' w') → bodyPostD P fn (fun e w' => ∃ fz' u, Below w.heap.size w w' ∧ Fz.Le fz fz' ∧ (∀ b, b < w.heap.size → ∀ o, fz' b o = fz b o) ∧ FzOk fz' w' ∧ o.is fz' u e) .ret a' w' := fun ⟨s, hx, β, fz', r⟩ => by
    rcases hx with ⟨hd, hs⟩ | hx
    · cases o with
      | pan d => exact hs.elim
      | ret d =>
        obtain ⟨vs, h1, h2⟩ := hs
        obtain ⟨u, h3, h4⟩ := results_ok r h1
        obtain ⟨k1, k2, k3, k4⟩ := belowA r
        show Leaves P fn a'.tmps _ a'.defers .returning w'
        rw [nodef r hd]
        exact ⟨u, h3, fzAll X w' fz', u, k1, k2, k3, k4, rfl, toDh_rep r (fun _ h => h) _ h2 h4⟩
    · exact one s β fz' .ret .returning r (fun e => by cases e) rfl hx
  cases e with
  | normal => exact ret he
  | ret => exact ret he
  | panic ch =>
    obtain ⟨s, x, v, β, fz', hx, rfl, r, hv⟩ := he
    rcases hx with ⟨hd, hs⟩ | hx
    · cases o with
      | ret d => exact hs.elim
      | pan d =>
        obtain rfl : x = d := hs
        obtain ⟨k1, k2, k3, k4⟩ := below r
        show Leaves P fn a'.tmps _ a'.defers (.panicking _) w'
        rw [nodef r hd]
        exact ⟨fz', v, k1, k2, k3, k4, rfl, hv⟩
    · exact one s β fz' (.pan x) _ r (fun e => by cases e) ⟨v, rfl, hv⟩ hx
  | exit id => exact he.elim
  | goto l => exact he.elim
  | outgrown => exact he.elim
end Go.Lm
