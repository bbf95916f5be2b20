/- The logical machine: whole structs, equality of structs and with nil. -/
import Derived.Test.YtnmnccboggljhaaGreatDoorLmI
import Derived.Laws.StructEq
set_option linter.constructorNameAsVariable false
namespace Go.Lm
open Go Go.RowKit
section
variable {P : Program} {s : LS} {new : Nat} {dst : Option Tmp} {type : TypeId} {pos : String} {after : Array Edge} {guard : Option (Nat × Bool)}

def bplf (P : Program) (t : TypeId) : Option (Nat → Option (Nat × Nat)) := match P.info? t, P.underlying t with
  | some _, some (.array _ e) => match P.info? e with
    | some ie => some fun i => some (i * ie.size, ie.size)
    | none => none
  | some _, some (.struct fields) => match fields.toList.mapM (fun f => (P.info? f.type).map fun i => (f.offset, i.size)) with
    | some places => some (places.toArray[·]?)
    | none => none
  | _, _ => none
/-- place and size of a part -/
def bpl (P : Program) (t : TypeId) (i : Nat) : Option (Nat × Nat) := (bplf P t).bind fun f => f i
theorem built_eq {t : TypeId} {zs : List V} {f : Nat → Option (Nat × Nat)} (hz : tz P t = some zs) (hf : bplf P t = some f) (parts : List (Nat × Value)) : ∃ z : Value, zs = z.cells.toList.map constV ∧ P.built t parts = Instr.fill f z.cells parts := by
  unfold tz at hz
  simp only [Option.map_eq_some_iff, Option.bind_eq_some_iff] at hz
  obtain ⟨z, ⟨it, h1, h2⟩, rfl⟩ := hz
  refine ⟨z, rfl, ?_⟩
  unfold bplf at hf
  unfold Program.built
  rw [h1] at hf ⊢
  split at hf
  · rename_i h3 h4
    cases h3
    rw [h4]
    split at hf
    · rename_i ie hie
      cases hf
      simp only [h2, hie]
    · cases hf
  · rename_i h3 h4
    cases h3
    rw [h4]
    split at hf
    · rename_i pl hpl
      cases hf
      simp only [h2, hpl]
    · cases hf
  · cases hf
def bfill (f : Nat → Option (Nat × Nat)) : List V → List (Nat × V) → Option (List V)
  | cs, [] => some cs
  | cs, (i, v) :: l => match f i, cellsV v with
    | some (off, sz), some xs => if xs.length = sz ∧ off + sz ≤ cs.length then bfill f (setL cs off xs) l else none
    | _, _ => none
theorem foldl_set (off : Nat) : ∀ (xs : List Value) (k : Nat) (us : Array Value), off + k + xs.length ≤ us.size →
    ((xs.zipIdx k).foldl (fun cs (c, j) => cs.setIfInBounds (off + j) c) us).toList = us.toList.take (off + k) ++ xs ++ us.toList.drop (off + k + xs.length)
  | [], k, us, _ => by simp
  | x :: xs, k, us, h => by
    simp only [List.zipIdx_cons, List.foldl_cons]
    rw [foldl_set off xs (k + 1) _ (by simp at h ⊢; omega)]
    simp only [Array.toList_setIfInBounds, List.length_cons] at h ⊢
    have hl : off + k < us.toList.length := by simp; omega
    rw [List.set_eq_take_append_cons_drop, if_pos hl]
    have e1 : off + (k + 1) = (us.toList.take (off + k)).length + 1 := by simp; omega
    have h2 : (us.toList.take (off + k)).length = off + k := by simp; omega
    rw [List.take_append, List.drop_append]
    rw [h2, show off + (k + 1) - (off + k) = 1 by omega, show off + (k + 1) + xs.length - (off + k) = xs.length + 1 by omega]
    simp only [List.take_succ_cons, List.take_zero, List.drop_succ_cons, List.drop_drop]
    rw [List.take_of_length_le (show (us.toList.take (off + k)).length ≤ off + (k + 1) by omega), List.drop_of_length_le (show (us.toList.take (off + k)).length ≤ off + (k + 1) + xs.length by omega)]
    simp
    congr 1
    omega
theorem fill_ok {β : Bt} {fz : Fz} {f : Nat → Option (Nat × Nat)} (ev : Operand → Value) : ∀ (ps : List (Nat × Operand)) (vs : List V) (cs cs' : List V) (us : Array Value), RepVs β fz cs us → vs.length = ps.length →
    (∀ (j : Nat) (p : Nat × Operand) (v : V), ps[j]? = some p → vs[j]? = some v → RepV β fz v (ev p.2)) → bfill f cs ((ps.map (·.1)).zip vs) = some cs' →
    ∃ us', Instr.fill f us (ps.map fun p => (p.1, ev p.2)) = some us' ∧ RepVs β fz cs' us'
  | [], vs, cs, cs', us, hr, hl, _, h => by
    simp only [List.map_nil, List.zip_nil_left, bfill, Option.some.injEq] at h
    subst h
    exact ⟨us, rfl, hr⟩
  | p :: ps, [], cs, cs', us, hr, hl, _, h => by simp at hl
  | p :: ps, v :: vs, cs, cs', us, hr, hl, hv, h => by
    simp only [List.map_cons, List.zip_cons_cons, bfill] at h
    split at h
    · rename_i off sz xs hb hc
      split at h
      · rename_i hc2
        obtain ⟨hc2, hc3⟩ := hc2
        have h1 := hv 0 p v rfl rfl
        obtain ⟨c1, c2⟩ := cellsV_ok h1 hc
        have hbf := hb
        have hsz : (ev p.2).cells.size = sz := by have := c1.1; simp at this; omega
        simp only [List.map_cons, Instr.fill, hbf]
        have hus : us.size = cs.length := hr.1
        have hno : ¬ ((ev p.2).cells.size ≠ sz ∨ off + (ev p.2).cells.size > us.size) := by omega
        simp only [hsz, ne_eq, not_true_eq_false, decide_false, Bool.false_or, decide_eq_true_eq]
        rw [if_neg (by omega)]
        refine fill_ok ev ps vs _ cs' _ ?_ (by simpa using hl) (fun j q u a b => hv (j + 1) q u (by simpa using a) (by simpa using b)) h
        have he := foldl_set off (ev p.2).cells.toList 0 us (by simp; omega)
        rw [setL_eq cs off xs (by omega)]
        have hlen : (ev p.2).cells.toList.length = xs.length := by simp; omega
        have hrr := ((hr.list.take off).append c1).append (hr.list.drop (off + xs.length))
        simp only [Nat.add_zero, hlen] at he
        rw [← he] at hrr
        have := hrr.arr
        simp only [Array.toArray_toList] at this
        have e2 : (ev p.2).cells.zipIdx = ((ev p.2).cells.toList.zipIdx 0).toArray := by apply Array.ext'; simp
        rw [e2, List.foldl_toArray']
        · exact this
        · simp
      · cases h
    · cases h
theorem ok_build {t : TypeId} {ps : Array (Nat × Operand)} {vs zs cs : List V} (hv : s.evs (ps.toList.map (·.2)) = some vs) (hz : tz P t = some zs) (hf : (bplf P t).isSome = true) (hb : bfill (bpl P t) zs ((ps.toList.map (·.1)).zip vs) = some cs) :
    Ok P s new ⟨dst, .build t ps, type, pos, after, guard⟩ (pu vs (.agg cs)) :=
  Ok.pure (valsL rfl hv) fun β fz a w hvv => by
    obtain ⟨f, hf⟩ := Option.isSome_iff_exists.1 hf
    obtain ⟨z, rfl, hbu⟩ := built_eq hz hf (ps.toList.map fun p => (p.1, a.eval p.2))
    have hbp : bpl P t = f := by funext i; simp [bpl, hf]
    rw [hbp] at hb
    obtain ⟨us', h1, h2⟩ := fill_ok (β := β) (fz := fz) a.eval ps.toList vs _ cs z.cells (by simpa using (RepL.consts β fz z.cells.toList).arr) (by have := (evs_ok hv).1; simpa using this)
      (fun j p v h1 h2 => hvv j p.2 v (by simp only [Op.operands]; rw [List.getElem?_toArray, List.getElem?_map, h1]; rfl) h2) hb
    refine ⟨.agg us', run_val (sv := Instr.build t (ps.map fun p => (p.1, a.eval p.2))) rfl ?_, .agg h2.1 h2.2⟩
    refine run_build w t _ us' ?_
    rw [Array.toList_map, hbu, h1]

/-! ### equality -/
def isIntT (P : Program) (t : TypeId) : Bool := match P.underlying t with | some (.int _) => true | _ => false
/-- a struct of two whole numbers -/
def teq2 (P : Program) (t : TypeId) : Bool := match P.underlying t with
  | some (.struct fs) => match fs.toList with
    | [f0, f1] => f0.name != "_" && f1.name != "_" && f0.offset == 0 && f1.offset == 1 && isIntT P f0.type && isIntT P f1.type && !P.stoodInHeld t && !P.eqGuardType P.depth t
    | _ => false
  | _ => false
theorem isInt_ok {t : TypeId} (h : isIntT P t = true) : ∃ k, P.underlying t = some (.int k) := by
  unfold isIntT at h
  split at h
  · rename_i k hk; exact ⟨k, hk⟩
  · cases h
theorem part_int {t : TypeId} (h : isIntT P t = true) (us : Array Value) (i : Nat) (v : Value) (hi : us[i]? = some v) (w : World) : (part t us i).run P w = .ok v w := by
  obtain ⟨k, hk⟩ := isInt_ok h
  unfold part isAgg
  simp only [Sem.run_bind, run_underlying hk, Result.andThen_ok, Sem.run_pure, Bool.false_eq_true, if_false, hi]
theorem eq2_ok {t : TypeId} (h : teq2 P t = true) (a b c d : Int) (w : World) : (Op.equalIn 10000 t (.agg #[.int .i64 a, .int .i64 b]) (.agg #[.int .i64 c, .int .i64 d])).run P w = .ok (a == c && b == d) w ∧ P.eqGuardType P.depth t = false := by
  unfold teq2 at h
  split at h
  · rename_i fs hfs
    split at h
    · rename_i f0 f1 hl
      simp only [Bool.and_eq_true, Bool.not_eq_true', bne_iff_ne, ne_eq, beq_iff_eq] at h
      obtain ⟨⟨⟨⟨⟨⟨⟨n0, n1⟩, o0⟩, o1⟩, i0⟩, i1⟩, st⟩, eg⟩ := h
      refine ⟨?_, eg⟩
      have hfo : P.underlying t = some (.struct (P.fieldsOf t)) := by
        rw [hfs]; unfold Program.fieldsOf; rw [hfs]
      have hff : P.fieldsOf t = fs := by unfold Program.fieldsOf; rw [hfs]
      obtain ⟨k0, u0⟩ := isInt_ok i0
      obtain ⟨k1, u1⟩ := isInt_ok i1
      rw [run_equalIn_struct w 9999 t _ _ hfo st, hff, hl]
      simp only [Op.eqFields, ne_eq, n0, n1, not_false_eq_true, if_true, Sem.run_bind, Sem.run_ite, o0, o1, part_int i0 #[Value.int .i64 a, .int .i64 b] 0 (.int .i64 a) rfl, part_int i0 #[Value.int .i64 c, .int .i64 d] 0 (.int .i64 c) rfl, Result.andThen_ok,
        run_equalIn_int _ 9998 f0.type .i64 k0 a c u0, part_int i1 #[Value.int .i64 a, .int .i64 b] 1 (.int .i64 b) rfl, part_int i1 #[Value.int .i64 c, .int .i64 d] 1 (.int .i64 d) rfl, run_equalIn_int _ 9998 f1.type .i64 k1 b d u1, Sem.run_pure]
      cases a == c <;> cases b == d <;> rfl
    · cases h
  · cases h
/-- two whole numbers -/
def two (v : V) : Option (Int × Int) := match aggV v with
  | some [.d (.k .i64 a), .d (.k .i64 b)] => some (a, b)
  | _ => none
theorem two_ok {β : Bt} {fz : Fz} {v : V} {a b : Int} {u : Value} (h : RepV β fz v u) (ht : two v = some (a, b)) : u = .agg #[.int .i64 a, .int .i64 b] := by
  unfold two at ht
  split at ht
  · rename_i a' b' hc
    cases ht
    obtain ⟨us, rfl, hl, hr⟩ := aggV_ok h hc
    obtain ⟨us⟩ := us
    match us, hl with
    | [x, y], _ =>
      have h1 := (hr 0 _ x rfl rfl).int
      have h2 := (hr 1 _ y rfl rfl).int
      subst h1; subst h2
      rfl
  · cases ht
theorem ok_eq2 {t yt : TypeId} {x y : Operand} {vx vy : V} {a b c d : Int} (hx : s.ev x = some vx) (hy : s.ev y = some vy) (h1 : two vx = some (a, b)) (h2 : two vy = some (c, d)) (ht : teq2 P t = true) :
    Ok P s new ⟨dst, .binOp .eql t x y yt, type, pos, after, guard⟩ (pu [vx, vy] (.d (.b (decide (a = c ∧ b = d))))) :=
  Ok.pure (vals2 rfl hx hy) fun β fz ac w hv => by
    have e1 := two_ok (hv 0 x _ rfl rfl) h1
    have e2 := two_ok (hv 1 y _ rfl rfl) h2
    obtain ⟨k1, k2⟩ := eq2_ok ht a b c d w
    refine ⟨.bool (decide (a = c ∧ b = d)), run_bin (by rw [e1, e2]; exact run_eqGuard_agg w _ t x y _ _ k2) ?_, .bb _ _ _⟩
    rw [e1, e2, run_eql_struct, k1, Result.andThen_ok]
    congr 2
    rw [Bool.eq_iff_iff]; simp
theorem ok_ne2 {t yt : TypeId} {x y : Operand} {vx vy : V} {a b c d : Int} (hx : s.ev x = some vx) (hy : s.ev y = some vy) (h1 : two vx = some (a, b)) (h2 : two vy = some (c, d)) (ht : teq2 P t = true) :
    Ok P s new ⟨dst, .binOp .neq t x y yt, type, pos, after, guard⟩ (pu [vx, vy] (.d (.b (!decide (a = c ∧ b = d))))) :=
  Ok.pure (vals2 rfl hx hy) fun β fz ac w hv => by
    have e1 := two_ok (hv 0 x _ rfl rfl) h1
    have e2 := two_ok (hv 1 y _ rfl rfl) h2
    obtain ⟨k1, k2⟩ := eq2_ok ht a b c d w
    refine ⟨.bool (!decide (a = c ∧ b = d)), run_bin (by rw [e1, e2]; exact run_eqGuard_agg w _ t x y _ _ k2) ?_, .bb _ _ _⟩
    rw [e1, e2, run_neq_struct, k1, Result.andThen_ok]
    congr 3
    rw [Bool.eq_iff_iff]; simp

/-- a slice against nil: some true: it is nil; some false: it is none, if it has an element -/
def nilV : V → Option (Bool × Bool)
  | .d .nil => some (true, true)
  | v => match rowsV v with
    | some (_, rows) => some (decide (0 < rows.length), false)
    | none => none
theorem nilV_ok {β : Bt} {fz : Fz} {v : V} {c p : Bool} {u : Value} (h : RepV β fz v u) (ht : nilV v = some (c, p)) (hc : c = true) : ∃ A n k, u = .slice A n k ∧ A.isNone = p := by
  have rest : (match rowsV v with | some (_, rows) => some (decide (0 < rows.length), false) | none => none) = some (c, p) → ∃ A n k, u = .slice A n k ∧ A.isNone = p := fun ht => by
    split at ht
    · rename_i sz rows hr
      cases ht
      replace hc := of_decide_eq_true hc
      have := rowsV_ok h hr
      cases this with
      | @sl A n k _ _ g hn hk hm hsz hA ho hg =>
        obtain ⟨b, off, rfl, _⟩ := hA (by omega)
        exact ⟨_, _, _, rfl, rfl⟩
    · cases ht
  cases v with
  | d x =>
    cases x with
    | nil =>
      simp only [nilV, Option.some.injEq, Prod.mk.injEq] at ht
      obtain ⟨rfl, rfl⟩ := ht
      cases h with
      | d h => cases h; exact ⟨_, _, _, rfl, rfl⟩
    | _ => exact rest ht
  | _ => exact rest ht
theorem eqGuard_slice {op : BinOp} {t : TypeId} {x y : Operand} {A B : Option Addr} {n k m l : Nat} (w : World) : (eqGuard op t x y (.slice A n k) (.slice B m l)).run P w = .ok () w := by
  unfold eqGuard
  split <;> rfl
theorem eqNil_ok {t : TypeId} (ht : (sel P t).isSome = true) (A : Option Addr) (n k : Nat) (w : World) : (Op.equal t (.slice A n k) (.slice none 0 0)).run P w = .ok A.isNone w := by
  obtain ⟨e, he⟩ := sel_slice ht
  unfold Op.equal Op.maxDepth Op.equalIn
  simp only [Sem.run_bind, run_underlying he, Result.andThen_ok]
  cases A <;> rfl
theorem ok_eqNil {t yt : TypeId} {x y : Operand} {v : V} {c p : Bool} (hx : s.ev x = some v) (hy : s.ev y = some (.d .nil)) (hn : nilV v = some (c, p)) (ht : (sel P t).isSome = true) (hc : c = true) :
    Ok P s new ⟨dst, .binOp .eql t x y yt, type, pos, after, guard⟩ (pu [v, .d .nil] (.d (.b p))) :=
  Ok.pure (vals2 rfl hx hy) fun β fz ac w hv => by
    obtain ⟨A, n, k, e1, rfl⟩ := nilV_ok (hv 0 x _ rfl rfl) hn hc
    have e2 : ac.eval y = .slice none 0 0 := by
      have := hv 1 y _ rfl rfl
      generalize ac.eval y = u at this
      cases this with
      | d h => cases h; rfl
    refine ⟨.bool A.isNone, run_bin (by rw [e1, e2]; exact eqGuard_slice w) ?_, .bb _ _ _⟩
    rw [e1, e2]
    show (do pure (Value.bool (← Op.equal t (.slice A n k) (.slice none 0 0))) : Sem Value).run P w = _
    simp only [Sem.run_bind, eqNil_ok ht, Result.andThen_ok]
    rfl
theorem ok_neNil {t yt : TypeId} {x y : Operand} {v : V} {c p : Bool} (hx : s.ev x = some v) (hy : s.ev y = some (.d .nil)) (hn : nilV v = some (c, p)) (ht : (sel P t).isSome = true) (hc : c = true) :
    Ok P s new ⟨dst, .binOp .neq t x y yt, type, pos, after, guard⟩ (pu [v, .d .nil] (.d (.b (!p)))) :=
  Ok.pure (vals2 rfl hx hy) fun β fz ac w hv => by
    obtain ⟨A, n, k, e1, rfl⟩ := nilV_ok (hv 0 x _ rfl rfl) hn hc
    have e2 : ac.eval y = .slice none 0 0 := by
      have := hv 1 y _ rfl rfl
      generalize ac.eval y = u at this
      cases this with
      | d h => cases h; rfl
    refine ⟨.bool (!A.isNone), run_bin (by rw [e1, e2]; exact eqGuard_slice w) ?_, .bb _ _ _⟩
    rw [e1, e2]
    show (do pure (Value.bool (!(← Op.equal t (.slice A n k) (.slice none 0 0)))) : Sem Value).run P w = _
    simp only [Sem.run_bind, eqNil_ok ht, Result.andThen_ok]
    rfl
end
end Go.Lm
