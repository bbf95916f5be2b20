/- The logical machine (part 4 of 7): a reading of code as conditions, proved sound; no program in sight. -/
import Derived.Test.YtkgkhggcahmiiaaGreatDoorEngC
import GoSem.Extern.Table
/- The logical machine: strings that are ranged over; interfaces and nil; panics; arrays that become slices; methods; what is called. -/
set_option linter.constructorNameAsVariable false
namespace Go.Lm
open Go Go.RowKit
section
variable {P : Program} {s : LS} {new : Nat} {dst : Option Tmp} {type : TypeId} {pos : String} {after : Array Edge} {guard : Option (Nat × Bool)}
/-! ### range over a string -/
theorem ok_range {t : TypeId} {x : Operand} {l : List UInt8} (hx : s.ev x = some (.d (.s l))) (ht : isStrT P t = true) :
    Ok P s new ⟨dst, .range t x, type, pos, after, guard⟩ ⟨[.d (.s l)], [], [], [new], [(new, .iter l 0)], .p new 0⟩ := by
  refine ok_new (vals1 rfl hx) fun β fz a w hok hβ hv => ?_
  have h1 := (hv 0 x _ rfl rfl).str
  refine ⟨.pointer (some ⟨w.heap.size, 0, none⟩), .pointer (some ⟨w.heap.size, 0, none⟩), .stringIter ⟨l.toArray⟩ 0, rfl, ?_, ⟨w.heap.size, rfl, heap_alloc_new w _, fun o => hok.new _ o (Nat.le_refl _)⟩, .p (upd_same _ _ _)⟩
  refine run_val (sv := Instr.range t (a.eval x)) rfl ?_
  rw [h1]
  unfold Instr.range
  simp only [Sem.run_bind, run_underlying (isStr_ok ht), Result.andThen_ok, Sem.run_pure]
  rfl
def nextV (l : List UInt8) (pos : Nat) : V := match Nat.blt pos l.length with
  | true => .d (.tup [.b true, .k .i64 pos, .k .i32 (Utf8.decode ⟨l.toArray⟩ pos).1])
  | false => .d (.tup [.b false])
def nextP (l : List UInt8) (pos : Nat) : Nat := match Nat.blt pos l.length with
  | true => pos + (Utf8.decode ⟨l.toArray⟩ pos).2
  | false => pos
theorem ok_next {x : Operand} {h pos0 : Nat} {l : List UInt8} (hx : s.ev x = some (.p h 0)) (hb : s.blk h = some (.iter l pos0)) :
    Ok P s new ⟨dst, .next x true, type, pos, after, guard⟩ ⟨[.p h 0], [], [(h, .iter l pos0)], [], [(h, .iter l (nextP l pos0))], nextV l pos0⟩ := by
  obtain ⟨v1, v2⟩ := vals1 (ops := (Op.next x true).operands) rfl hx
  refine ⟨?_, v1, v2, (fun x hx => by cases hx), (fun x hx => by simp at hx; subst hx; exact hb), (fun x hx => by cases hx), (fun x hx => .inr ⟨_, List.mem_singleton.2 rfl, by simp at hx; subst hx; rfl⟩)⟩
  intro β fz own ac w hok hown _ hhp _ _ _ hv next Q hnn
  have hh := hhp _ (List.mem_singleton.2 rfl)
  have h1 := hv 0 x _ rfl rfl
  generalize hu : ac.eval x = u at h1
  cases h1 with
  | @p _ _ b hbb =>
    obtain ⟨y, q1, q2, b', rfl, q3, q4⟩ := hh
    simp only at q1
    rw [hbb] at q1; cases q1
    obtain ⟨hob, hlt⟩ := q2 b rfl
    have hg : (getObj b).run P w = .ok (.stringIter ⟨l.toArray⟩ pos0) w := by simp [getObj, Sem.run, q3]
    have hs : ∀ o', (setObj b o').run P w = .ok () (putO w b o') := fun o' => by simp [setObj, Sem.run, q3, putO]
    have hsz : (ByteArray.mk l.toArray).size = l.length := rfl
    have fin : ∀ (p : Nat) (v : V) (u : Value) (w' : World), w' = putO w b (.stringIter ⟨l.toArray⟩ p) → (Instr.next (ac.eval x) true type).run P w = .ok u w' → RepV β fz v u → p = nextP l pos0 → v = nextV l pos0 → Oper.wp P ⟨dst, .next x true, type, pos, after, guard⟩ ac w next Q := fun p v u w' hw hrun hr hp hv' => by
      subst hw; subst hp; subst hv'
      unfold Oper.wp
      rw [run_val (sv := Instr.next (ac.eval x) true type) rfl hrun, Oper.upon_value]
      have hB : HB β fz (putO w b (.stringIter ⟨l.toArray⟩ (nextP l pos0))) (.pointer (some ⟨b, 0, none⟩)) (.iter l (nextP l pos0)) := ⟨b, rfl, putO_same hlt, q4⟩
      exact hnn _ _ _ _ (Post.put hok hbb rfl ⟨hob, hlt⟩ q4 hB hr)
    by_cases hp : pos0 < l.length
    · have hpb : Nat.blt pos0 l.length = true := by rw [Nat.blt_eq]; exact hp
      refine fin (pos0 + (Utf8.decode ⟨l.toArray⟩ pos0).2) (.d (.tup [.b true, .k .i64 pos0, .k .i32 (Utf8.decode ⟨l.toArray⟩ pos0).1])) (.tuple #[.bool true, goInt pos0, .int .i32 (Utf8.decode ⟨l.toArray⟩ pos0).1]) _ rfl ?_ (.d (.tup rfl fun j d u a b => ?_)) (by simp only [nextP, hpb]) (by simp only [nextV, hpb])
      · rw [hu]
        unfold Instr.next
        simp only [Sem.run_bind, hg, Result.andThen_ok, hsz, if_pos hp, hs, Sem.run_pure]
      · match j with
        | 0 => simp at a b; subst a; subst b; exact .b _
        | 1 => simp at a b; subst a; subst b; exact .k _ _
        | 2 => simp at a b; subst a; subst b; exact .k _ _
        | j + 3 => simp at a
    · have hpb : Nat.blt pos0 l.length = false := by
        cases hq : Nat.blt pos0 l.length with
        | false => rfl
        | true => rw [Nat.blt_eq] at hq; exact absurd hq hp
      have hw : putO w b (.stringIter ⟨l.toArray⟩ pos0) = w := by
        unfold putO
        have : w.heap.setIfInBounds b (.stringIter ⟨l.toArray⟩ pos0) = w.heap := by
          apply Array.ext_getElem?
          intro i
          by_cases hi : i = b
          · subst hi; rw [q3]; simp [hlt]
          · rw [Array.getElem?_setIfInBounds_ne (Ne.symm hi)]
        rw [this]
      refine fin pos0 (.d (.tup [.b false])) (.tuple #[.bool false]) w hw.symm ?_ (.d (.tup rfl fun j d u a b => ?_)) (by simp only [nextP, hpb]) (by simp only [nextV, hpb])
      · rw [hu]
        unfold Instr.next
        simp only [Sem.run_bind, hg, Result.andThen_ok, hsz, if_neg hp, Sem.run_pure]
      · match j with
        | 0 => simp at a b; subst a; subst b; exact .b _
        | j + 1 => simp at a

/-! ### an interface value against nil -/
def ifcNil : V → Option Bool
  | .d (.ifc _ _) => some false
  | .d (.raw .nilIface) => some true
  | _ => none
theorem ok_ifcNil {t yt : TypeId} {x : Operand} {v : V} {p : Bool} (hx : s.ev x = some v) (hp : ifcNil v = some p) (ht : isIfcT P t = some true) :
    Ok P s new ⟨dst, .binOp .eql t x (.const .nilIface) yt, type, pos, after, guard⟩ (pu [v, .d (.raw .nilIface)] (.d (.b p))) :=
  Ok.pure (vals2 rfl hx (show s.ev (.const .nilIface) = some (.d (.raw .nilIface)) from rfl)) fun β fz ac w hv => by
    have h1 := hv 0 x _ rfl rfl
    generalize hu : ac.eval x = u at h1
    unfold isIfcT at ht
    simp only [Option.map_eq_some_iff] at ht
    obtain ⟨de, k1, k2⟩ := ht
    refine ⟨.bool p, run_bin (y := .const .nilIface) (f := ac.eval) ?_ ?_, .bb _ _ _⟩
    · rw [hu]
      show (eqGuard .eql t x (.const .nilIface) u .nilIface).run P w = .ok () w
      unfold eqGuard
      unfold ifcNil at hp
      split at hp
      · cases h1 with
        | d h1 => cases h1; rfl
      · cases h1 with
        | d h1 =>
          cases h1
          cases x <;> rfl
      · cases hp
    · rw [hu]
      show (binOp .eql t u .nilIface).run P w = .ok (.bool p) w
      have he : (Op.equal t u .nilIface).run P w = .ok p w := by
        unfold Op.equal Op.maxDepth Op.equalIn
        simp only [Sem.run_bind, run_underlying k1, Result.andThen_ok]
        unfold ifcNil at hp
        split at hp
        · cases hp
          cases h1 with
          | d h1 =>
            cases h1
            cases de <;> first | rfl | cases k2
        · cases hp
          cases h1 with
          | d h1 =>
            cases h1
            cases de <;> first | rfl | cases k2
        · cases hp
      have : binOp .eql t u .nilIface = (do pure (Value.bool (← Op.equal t u .nilIface)) : Sem Value) := by
        unfold ifcNil at hp
        split at hp
        · cases h1 with
          | d h1 => cases h1; rfl
        · cases h1 with
          | d h1 => cases h1; rfl
        · cases hp
      rw [this]
      simp only [Sem.run_bind, he, Result.andThen_ok]
      rfl

/-! ### an array of one's own becomes a slice that is read -/
theorem ok_sliceArr {t : TypeId} {x : Operand} {h n sz : Nat} {cs : List V} {ds : List D} {e : TypeId} (hx : s.ev x = some (.p h 0)) (hb : s.blk h = some (.cells cs e)) (ht : ael P t = some (n, sz)) (hl : cs.length = n * sz) (hn : n ≤ 1000000)
    (hd : V.toD.toDs cs = some ds) (ho : cs.all oneV = true) :
    Ok P s new ⟨dst, .slice t x none none none, type, pos, after, guard⟩ ⟨[.p h 0], [], [(h, .cells cs e)], [], [], .d (.sl sz (chunks sz n ds))⟩ := by
  obtain ⟨v1, v2⟩ := vals1 (ops := (Op.slice t x none none none).operands) rfl hx
  refine ⟨?_, v1, v2, (fun x hx => by cases hx), (fun x hx => by simp at hx; subst hx; exact hb), (fun x hx => by cases hx), (fun x hx => by cases hx)⟩
  intro β fz own ac w hok hown _ hhp _ _ _ hv next Q hnn
  have hh := hhp _ (List.mem_singleton.2 rfl)
  have h1 := hv 0 x _ rfl rfl
  generalize hu : ac.eval x = u at h1
  cases h1 with
  | @p _ _ b hbb =>
    obtain ⟨us, k1, k2, k3, k4, k5⟩ := cells_of hh hbb
    have hrun : (Instr.sliceAt t (ac.eval x) none none none).run P w = .ok (.slice (some ⟨b, 0, none⟩) n n) w := by
      rw [hu]
      unfold ael at ht
      split at ht
      · rename_i m el hue
        simp only [Option.map_eq_some_iff, Prod.mk.injEq] at ht
        obtain ⟨z, hz, rfl, rfl⟩ := ht
        unfold Instr.sliceAt
        simp only [Sem.run_bind, run_underlying hue, Result.andThen_ok]
        have hb : (Instr.sliceBounds false m m none none none).run P w = .ok (0, m, m) w := rfl
        have ha : (Instr.sureAddr (.pointer (some ⟨b, 0, none⟩))).run P w = .ok ⟨b, 0, none⟩ w := rfl
        simp only [Sem.run_bind, ha, hb, Result.andThen_ok, run_sizeOf' hz, Sem.run_pure, Nat.zero_mul, Nat.sub_zero, add_off, Nat.zero_add, ite_self]
      · cases ht
    let fz' : Fz := fun k o => if k = b then (if o < us.size then us[o]? else none) else fz k o
    have hle : Fz.Le fz fz' := fun k o u e => by
      simp only [fz']
      rw [if_neg (fun e' => by rw [e', k3] at e; cases e)]
      exact e
    obtain ⟨d1, d2⟩ := toDs_rep cs hd k2
    have hsz : us.size = n * sz := by rw [k2.1, hl]
    have hc : CellsOf fz sz (chunks sz n ds) us.toList := CellsOf.chunks (by rw [← d1]; exact hsz) (by simpa using d1) fun j d u a b => ⟨d2 j d u a (by simpa using b), by
      have hj : j < cs.length := by rw [← k2.1, d1]; exact (List.getElem?_eq_some_iff.1 a).1
      exact oneV_ok (k2.2 j _ u (List.getElem?_eq_getElem hj) (by simpa using b)) (List.all_eq_true.1 ho _ (List.getElem_mem hj))⟩
    have hrep : RepD fz' (.sl sz (chunks sz n ds)) (.slice (some ⟨b, 0, none⟩) n n) := by
      refine .sl (fun i j => us.getD (i * sz + j) default) (chunks_length ..) (Nat.le_refl _) (by omega) hc.1 (fun _ => ⟨b, 0, rfl, fun i j hi hj => ?_⟩) (fun i j r d a c => ?_) (fun i j r d a c => ?_)
      · have hlt := row_lt hi hj
        simp only [fz', if_true, Nat.zero_add]
        rw [if_pos (by omega), Array.getElem?_eq_getElem (by omega)]
        simp [Array.getD, show i * sz + j < us.size by omega]
      · obtain ⟨u, q1, q2, q3⟩ := hc.2.2 i j r d a c
        have : us.getD (i * sz + j) default = u := by
          rw [Array.getElem?_toList] at q1
          simp [Array.getD_eq_getD_getElem?, q1]
        rw [this]; exact q3
      · obtain ⟨u, q1, q2, q3⟩ := hc.2.2 i j r d a c
        have : us.getD (i * sz + j) default = u := by
          rw [Array.getElem?_toList] at q1
          simp [Array.getD_eq_getD_getElem?, q1]
        rw [this]; exact q2.mono hle
    unfold Oper.wp
    rw [run_val (sv := Instr.sliceAt t (ac.eval x) none none none) rfl hrun, Oper.upon_value]
    refine hnn _ β fz' w {
      ble := Bt.Le.refl _
      bnew := fun _ _ => rfl
      fle := hle
      ffr := fun k hk hn o => by
        simp only [fz']
        rw [if_neg fun e => hn ⟨_, List.mem_singleton.2 rfl, _, hbb, by rw [e]; rfl⟩]
      ok := fun k o u e => by
        simp only [fz'] at e
        split at e
        · rename_i hk
          subst hk
          split at e
          · simp [World.cell?, k1, e]
          · cases e
        · exact hok k o u e
      os := rfl
      tape := rfl
      output := rfl
      size := Nat.le_refl _
      frame := fun _ _ _ => rfl
      hreps := fun x hx => by cases hx
      blks := fun x hx => by cases hx
      inj := fun h h' y y' k ⟨x, hx, _⟩ => by cases hx
      v := .d hrep }

/-! ### what is called -/
/-! ### copy -/
/-- what is copied into block h -/
def srcC (s : LS) (h : Nat) : V → Option (List (Nat × Blk) × List V)
  | .ms h2 off n => match s.blk h2 with
    | some (.cells cs e) => if off + n ≤ cs.length then some (if h2 = h then [] else [(h2, .cells cs e)], (cs.drop off).take n) else none
    | _ => none
  | v => match rowsV v with
    | some (1, rows) => some ([], rows.flatten.map .d)
    | _ => none
/-- a slice of cells of one word each, to be read from the front -/
def Front (P : Program) (β : Bt) (fz : Fz) (w : World) (xs : List V) (u : Value) : Prop := ∃ us : List Value, RepL β fz xs us ∧ (Builtin.lenOf u).run P w = .ok xs.length w ∧ ∀ k, k ≤ xs.length → (Builtin.firstCells 1 k u).run P w = .ok (us.take k).toArray w
theorem flat_one {rows : List (List D)} (h : ∀ r ∈ rows, r.length = 1) : rows.flatten.length = rows.length ∧ ∀ (j : Nat) (d : D), rows.flatten[j]? = some d → ∃ r, rows[j]? = some r ∧ r[0]? = some d := by
  induction rows with
  | nil => exact ⟨rfl, fun j d e => by simp at e⟩
  | cons r rows ih =>
    obtain ⟨h1, h2⟩ := ih fun r hr => h r (List.mem_cons_of_mem _ hr)
    have hr := h r List.mem_cons_self
    match r, hr with
    | [d0], _ =>
      refine ⟨by simp [h1], fun j d e => ?_⟩
      cases j with
      | zero => simp at e; subst e; exact ⟨[d0], rfl, rfl⟩
      | succ j => exact h2 j d (by simpa using e)
theorem front_rows {β : Bt} {fz : Fz} {w : World} {rows : List (List D)} {u : Value} (hok : FzOk fz w) (hr : RepD fz (.sl 1 rows) u) : Front P β fz w (rows.flatten.map .d) u := by
  obtain ⟨A, m, c, xs, rfl, hm, hc, _, h0, hcell⟩ := src_cells hok hr (by omega)
  obtain ⟨f1, f2⟩ := flat_one hc.1
  have hlen : xs.length = rows.length := by rw [hc.2.1, Nat.mul_one]
  refine ⟨xs, ⟨by rw [List.length_map, f1, hlen], fun j d u h1 h2 => ?_⟩, by rw [List.length_map, f1, ← hm]; rfl, fun k hk => ?_⟩
  · rw [List.getElem?_map, Option.map_eq_some_iff] at h1
    obtain ⟨d', h1, rfl⟩ := h1
    obtain ⟨r, h3, h4⟩ := f2 j d' h1
    obtain ⟨u', q1, q2, _⟩ := hc.2.2 j 0 r d' h3 h4
    simp only [Nat.mul_one, Nat.add_zero] at q1
    rw [h2] at q1; cases q1
    exact .d q2
  · simp only [List.length_map, f1] at hk
    cases A with
    | none =>
      have : xs = [] := h0 (by
        cases hr with
        | sl g hn hcc hmm hsz hA ho hg =>
          refine Decidable.byContradiction fun hne => ?_
          obtain ⟨b, off, e, _⟩ := hA (by omega)
          cases e)
      subst this
      simp [Builtin.firstCells]
    | some ad =>
      simp only [Builtin.firstCells, Nat.mul_one]
      have := run_loadCells_list (P := P) (w := w) ad (xs.take k) fun j v hj => by
        rw [List.getElem?_take] at hj
        split at hj
        · exact hcell ad rfl j v hj
        · cases hj
      rw [List.length_take, Nat.min_eq_left (by omega)] at this
      exact this
theorem front_ms {β : Bt} {fz : Fz} {w : World} {own : Nat → Prop} {h off n : Nat} {cs : List V} {e : TypeId} {u : Value} (hh : HRep β fz w own h (.cells cs e)) (hu : RepV β fz (.ms h off n) u) (hl : off + n ≤ cs.length) : Front P β fz w ((cs.drop off).take n) u := by
  cases hu with
  | @ms _ _ _ b o c hb hnc ho =>
    obtain ⟨us, k1, k2, _, _, k3⟩ := cells_of hh hb
    have hr := (k2.list.drop off).take n
    have hlen : ((cs.drop off).take n).length = n := by simp; omega
    have hlen2 : ((us.toList.drop off).take n).length = n := by rw [hr.1, hlen]
    refine ⟨(us.toList.drop off).take n, hr, by rw [hlen]; rfl, fun k hk => ?_⟩
    rw [hlen] at hk
    simp only [Builtin.firstCells, Nat.mul_one]
    have := run_loadCells_list (P := P) (w := w) ⟨b, o, none⟩ (((us.toList.drop off).take n).take k) fun j v hj => by
      rw [List.getElem?_take] at hj
      split at hj
      · rename_i hjk
        obtain rfl := ho (by omega)
        rw [List.getElem?_take] at hj
        split at hj
        · rw [List.getElem?_drop] at hj
          rw [add_off, show w.cell? ⟨b, o + j, none⟩ = us[o + j]? by simp [World.cell?, k1]]
          simpa using hj
        · cases hj
      · cases hj
    rw [List.length_take, hlen2, Nat.min_eq_left hk] at this
    exact this
theorem ok_copy {t t' : TypeId} {x y : Operand} {h off n : Nat} {cs xs : List V} {e : TypeId} {vy : V} {rd : List (Nat × Blk)} (hx : s.ev x = some (.ms h off n)) (hy : s.ev y = some vy) (ht : sel P t = some 1) (hb : s.blk h = some (.cells cs e)) (hs : srcC s h vy = some (rd, xs)) (hl : off + n ≤ cs.length) (ho : xs.all oneV = true) :
    Ok P s new ⟨dst, .call { callee := .builtin .copy, args := #[x, y], argTypes := #[t, t'] }, type, pos, after, guard⟩ ⟨[.ms h off n, vy], rd, [(h, .cells cs e)], [], [(h, .cells (cs.take off ++ xs.take n ++ cs.drop (off + min xs.length n)) e)], .d (.k .i64 ((min xs.length n : Nat) : Int))⟩ := by
  obtain ⟨v1, v2⟩ := vals2 (ops := (Op.call { callee := .builtin .copy, args := #[x, y], argTypes := #[t, t'] }).operands) (by simp [Op.operands, Call.operands]) hx hy
  have hrd : ∀ z ∈ rd, s.blk z.1 = some z.2 := fun z hz => by
    unfold srcC at hs
    split at hs
    · split at hs
      · rename_i hb2
        split at hs
        · simp only [Option.some.injEq, Prod.mk.injEq] at hs
          obtain ⟨hs, _⟩ := hs
          subst hs
          split at hz
          · cases hz
          · simp only [List.mem_singleton] at hz
            subst hz
            exact hb2
        · cases hs
      · cases hs
    · split at hs
      · cases hs; cases hz
      · cases hs
  refine ⟨?_, v1, v2, hrd, (fun x hx => by simp at hx; subst hx; exact hb), (fun x hx => by cases hx), (fun x hx => .inr ⟨_, List.mem_singleton.2 rfl, by simp at hx; subst hx; rfl⟩)⟩
  intro β fz own a w hok hown hrds hhp hinj0 hnew0 hlen0 hv next Q hnn
  simp only at hrds hhp
  have h1 := hv 0 x _ (by simp [Op.operands, Call.operands]) rfl
  have h2 := hv 1 y _ (by simp [Op.operands, Call.operands]) rfl
  have hh := hhp _ (List.mem_singleton.2 rfl)
  have hfr : Front P β fz w xs (a.eval y) := by
    unfold srcC at hs
    split at hs
    · rename_i h2' off2 n2
      split at hs
      · rename_i cs2 e2 hb2
        split at hs
        · rename_i hl2
          simp only [Option.some.injEq, Prod.mk.injEq] at hs
          obtain ⟨hs1, rfl⟩ := hs
          by_cases he : h2' = h
          · subst he
            rw [hb] at hb2; cases hb2
            exact front_ms hh h2 hl2
          · rw [if_neg he] at hs1
            subst hs1
            exact front_ms (hrds _ (List.mem_singleton.2 rfl)) h2 hl2
        · cases hs
      · cases hs
    · split at hs
      · rename_i rows hr
        cases hs
        exact front_rows hok (rowsV_ok h2 hr)
      · cases hs
  obtain ⟨us2, f1, f2, f3⟩ := hfr
  generalize hu : a.eval x = u at h1
  cases h1 with
  | @ms _ _ _ b o c hbb hnc hoo =>
    obtain ⟨us, k1, k2, k4, k5, k3⟩ := cells_of hh hbb
    have hk : min xs.length n ≤ xs.length := Nat.min_le_left _ _
    have hone : ∀ v ∈ us2.take (min xs.length n), v.oneCell' = true := fun v hv => by
      obtain ⟨j, hj, rfl⟩ := List.getElem_of_mem hv
      have hj2 : j < us2.length := by simp at hj; omega
      have hjx : j < xs.length := by rw [← f1.1]; exact hj2
      have := f1.2 j xs[j] us2[j] (List.getElem?_eq_getElem hjx) (List.getElem?_eq_getElem hj2)
      simp only [List.getElem_take]
      exact oneV_ok this (List.all_eq_true.1 ho _ (List.getElem_mem hjx))
    have hlen : (us2.take (min xs.length n)).length = min xs.length n := by rw [List.length_take, f1.1]; omega
    have hst := run_storeCells_at P b off e (us2.take (min xs.length n)) 0 us w k1 (by have := k2.1; rw [hlen]; simp; omega) hone
    simp only [Nat.add_zero] at hst
    have hst' : (storeCells ⟨b, o, none⟩ (us2.take (min xs.length n))).run P w = .ok () (w.setRow b (us.toList.take off ++ us2.take (min xs.length n) ++ us.toList.drop (off + (us2.take (min xs.length n)).length)).toArray) := by
      by_cases h0 : min xs.length n = 0
      · rw [h0] at hst ⊢
        exact hst
      · obtain rfl := hoo (by omega)
        exact hst
    have hrun : (Builtin.copy_ #[t, t'] type #[.slice (some ⟨b, o, none⟩) n c, a.eval y]).run P w = .ok (goInt (min xs.length n : Nat)) (w.setRow b (us.toList.take off ++ us2.take (min xs.length n) ++ us.toList.drop (off + (us2.take (min xs.length n)).length)).toArray) := by
      obtain ⟨el, he⟩ := sel_slice (show (sel P t).isSome = true by rw [ht]; rfl)
      have hsz : (sizeOf el).run P w = .ok 1 w := by
        refine run_sizeOf' ?_ w
        unfold sel at ht
        rw [he] at ht
        exact ht
      have hmin : Nat.min xs.length n = min xs.length n := rfl
      unfold Builtin.copy_
      simp only [List.getElem?_toArray, List.getElem?_cons_zero, List.getElem?_cons_succ, Sem.run_bind, run_underlying he, Result.andThen_ok, f2, hsz, hmin, f3 _ hk, hst', Sem.run_pure]
    unfold Oper.wp
    rw [run_builtin (sv := Builtin.copy_ #[t, t'] type #[a.eval x, a.eval y]) (fun _ => by simp; rfl) (by rw [hu]; exact hrun), Oper.upon_value]
    refine hnn _ β fz _ ?_
    have hp := Post.set (cs := cs) (cs' := cs.take off ++ xs.take n ++ cs.drop (off + min xs.length n)) (v := .d (.k .i64 ((min xs.length n : Nat) : Int))) (u := goInt (min xs.length n : Nat)) hok hbb ⟨k5, k3⟩ k1 k4 (us' := (us.toList.take off ++ us2.take (min xs.length n) ++ us.toList.drop (off + (us2.take (min xs.length n)).length)).toArray) ?_ (.d (.k _ _))
    · exact hp
    · have hr := ((k2.list.take off).append (f1.take n)).append (k2.list.drop (off + min xs.length n))
      have e1 : us2.take (min xs.length n) = us2.take n := by
        rw [← f1.1]
        by_cases hle : us2.length ≤ n
        · rw [Nat.min_eq_left hle, List.take_of_length_le (Nat.le_refl _), List.take_of_length_le hle]
        · rw [Nat.min_eq_right (by omega)]
      rw [hlen, e1]
      exact hr.arr
/-- a method of a type's values -/
def mth (P : Program) (t : TypeId) (name : String) : Option FuncId := match P.info? t with
  | some i => match i.methods.find? (·.name == name) with
    | some m => match m.path.toList, m.func with
      | [], some (f, false) => match P.underlying t with
        | some (.pointer _) => none
        | some _ => some f
        | none => none
      | _, _ => none
    | none => none
  | none => none
theorem run_method {t : TypeId} {name : String} {f : FuncId} (h : mth P t name = some f) (n : Nat) (v : Value) (w : World) : (method (n + 1) t v name).run P w = .ok (f, v) w := by
  unfold mth at h
  split at h
  · rename_i i hi
    split at h
    · rename_i m hm
      split at h
      · rename_i f' hp hf
        have ht : (typeInfo t).run P w = .ok i w := by simp [typeInfo, hi, go_sem]
        split at h
        · cases h
        · rename_i de hnp hu
          cases h
          unfold method
          simp only [Sem.run_bind, ht, Result.andThen_ok, hm, hp, follow, Sem.run_pure, hf]
          unfold receiverAt
          simp only [Sem.run_bind, run_underlying hu, Result.andThen_ok]
          cases de <;> first | rfl | exact absurd rfl (hnp _)
        · cases h
      · cases h
    · cases h
  · cases h
theorem run_method_any {t : TypeId} {name : String} {f : FuncId} (h : mth P t name = some f) {n : Nat} (v : Value) (w : World) : (method (n + Made.depth) t v name).run P w = .ok (f, v) w := by
  have : n + Made.depth = (n + (Made.depth - 1)) + 1 := by simp [Made.depth]
  rw [this]
  exact run_method h _ v w
end
end Go.Lm
/- The logical machine: all operations in one function. -/
set_option linter.constructorNameAsVariable false
namespace Go.Lm
open Go Go.RowKit
section
variable {P : Program} {s : LS} {new : Nat} {dst : Option Tmp} {type : TypeId} {pos : String} {after : Array Edge} {guard : Option (Nat × Bool)}

/-! ### shifts and bits -/
theorem run_bin_k {op : BinOp} {t yt : TypeId} {x y : Operand} {f : Operand → Value} {w : World} {q r : IntKind} {m n : Int} {u : Value} (h1 : f x = .int q m) (h2 : f y = .int r n) (h : (binOp op t (.int q m) (.int r n)).run P w = .ok u w) :
    (execOp f ⟨dst, .binOp op t x y yt, type, pos, after, guard⟩).run P w = .ok (.value u) w :=
  run_bin (by rw [h1, h2]; exact eqGuard_int w) (by rw [h1, h2]; exact h)
theorem bits_le (q : IntKind) (n : Int) (h0 : 0 ≤ n) (h : n < 8) : min n.toNat q.bits = n.toNat := by
  cases q <;> simp [IntKind.bits] <;> omega
theorem ok_shl {t yt : TypeId} {x y : Operand} {q r : IntKind} {m n : Int} (hx : s.ev x = some (.d (.k q m))) (hy : s.ev y = some (.d (.k r n))) (h0 : 0 ≤ n) (h8 : n ≤ 60) (hq : q = .i64) (hc : fits q (m * 2 ^ n.toNat)) :
    Ok P s new ⟨dst, .binOp .shl t x y yt, type, pos, after, guard⟩ (pu [.d (.k q m), .d (.k r n)] (.d (.k q (m * 2 ^ n.toNat)))) :=
  Ok.pure (vals2 rfl hx hy) fun β fz a w hv => by
    subst hq
    refine ⟨.int .i64 (m * 2 ^ n.toNat), run_bin_k (hv 0 x _ rfl rfl).int (hv 1 y _ rfl rfl).int ?_, .i _ _ _ _⟩
    have e : min n.toNat (IntKind.bits .i64) = n.toNat := by simp [IntKind.bits]; omega
    unfold binOp
    simp only [Op.shift, if_neg (show ¬ n < 0 by omega), e, fits_wrap hc]
    rfl
theorem ok_shr {t yt : TypeId} {x y : Operand} {q r : IntKind} {m n : Int} (hx : s.ev x = some (.d (.k q m))) (hy : s.ev y = some (.d (.k r n))) (h0 : 0 ≤ n) (h8 : n ≤ 60) (hq : q = .i64 ∨ q = .u64) :
    Ok P s new ⟨dst, .binOp .shr t x y yt, type, pos, after, guard⟩ (pu [.d (.k q m), .d (.k r n)] (.d (.k q (m / 2 ^ n.toNat)))) :=
  Ok.pure (vals2 rfl hx hy) fun β fz a w hv => by
    refine ⟨.int q (m / 2 ^ n.toNat), run_bin_k (hv 0 x _ rfl rfl).int (hv 1 y _ rfl rfl).int ?_, .i _ _ _ _⟩
    have e : min n.toNat (IntKind.bits q) = n.toNat := by rcases hq with rfl | rfl <;> (simp [IntKind.bits]; omega)
    unfold binOp
    simp only [Op.shift, if_neg (show ¬ n < 0 by omega), e]
    rw [Int.fdiv_eq_ediv_of_nonneg _ (Int.pow_nonneg (by omega))]
    rfl
theorem ok_and1 {t yt : TypeId} {x y : Operand} {q : IntKind} {m : Int} (hx : s.ev x = some (.d (.k q m))) (hy : s.ev y = some (.d (.k q 1))) (hq : q = .i64) (h0 : 0 ≤ m) (h1 : m ≤ 9223372036854775807) :
    Ok P s new ⟨dst, .binOp .and t x y yt, type, pos, after, guard⟩ (pu [.d (.k q m), .d (.k q 1)] (.d (.k q (m % 2)))) :=
  Ok.pure (vals2 rfl hx hy) fun β fz a w hv => by
    subst hq
    refine ⟨.int .i64 (m % 2), run_bin_k (hv 0 x _ rfl rfl).int (hv 1 y _ rfl rfl).int ?_, .i _ _ _ _⟩
    have e : ((BitVec.ofInt (IntKind.bits .i64) m &&& BitVec.ofInt (IntKind.bits .i64) 1).toNat : Int) = m % 2 := by
      obtain ⟨k, rfl⟩ := Int.eq_ofNat_of_zero_le h0
      have h2 : BitVec.ofInt (IntKind.bits .i64) 1 = BitVec.ofNat 64 1 := rfl
      have h3 : BitVec.ofInt (IntKind.bits .i64) (k : Int) = BitVec.ofNat 64 k := by simp [IntKind.bits]
      rw [h2, h3]
      show ((BitVec.ofNat 64 k &&& BitVec.ofNat 64 1).toNat : Int) = _
      rw [BitVec.toNat_and, BitVec.toNat_ofNat, BitVec.toNat_ofNat, Nat.mod_eq_of_lt (show k < 2 ^ 64 by omega), show 1 % 2 ^ 64 = 1 by decide, Nat.and_one_is_mod]
      omega
    have e2 : IntKind.wrap .i64 (m % 2) = m % 2 := fits_wrap (q := .i64) (by simp only [fits]; omega)
    unfold binOp
    simp only [ne_eq, not_true_eq_false, if_false, Op.intBits, e, e2]
    rfl

theorem ok_and {t yt : TypeId} {x y : Operand} {q : IntKind} {m n : Int} (hx : s.ev x = some (.d (.k q m))) (hy : s.ev y = some (.d (.k q n))) (hq : q = .i64 ∨ q = .u64) (h0 : 0 ≤ m) (h1 : m ≤ 9223372036854775807) (h2 : 0 ≤ n) (h3 : n ≤ 9223372036854775807) :
    Ok P s new ⟨dst, .binOp .and t x y yt, type, pos, after, guard⟩ (pu [.d (.k q m), .d (.k q n)] (.d (.k q ((m.toNat &&& n.toNat : Nat) : Int)))) :=
  Ok.pure (vals2 rfl hx hy) fun β fz a w hv => by
    refine ⟨.int q ((m.toNat &&& n.toNat : Nat) : Int), run_bin_k (hv 0 x _ rfl rfl).int (hv 1 y _ rfl rfl).int ?_, .i _ _ _ _⟩
    obtain ⟨a, rfl⟩ := Int.eq_ofNat_of_zero_le h0
    obtain ⟨b, rfl⟩ := Int.eq_ofNat_of_zero_le h2
    have hle : a &&& b ≤ a := Nat.and_le_left
    have e : ((BitVec.ofInt (IntKind.bits q) a &&& BitVec.ofInt (IntKind.bits q) b).toNat : Int) = ((a &&& b : Nat) : Int) := by
      have hb : IntKind.bits q = 64 := by rcases hq with rfl | rfl <;> rfl
      rw [hb]
      have h2 : ∀ c : Nat, BitVec.ofInt 64 c = BitVec.ofNat 64 c := fun c => by simp
      rw [h2, h2, BitVec.toNat_and, BitVec.toNat_ofNat, BitVec.toNat_ofNat, Nat.mod_eq_of_lt (show a < 2 ^ 64 by omega), Nat.mod_eq_of_lt (show b < 2 ^ 64 by omega)]
    have e2 : IntKind.wrap q ((a &&& b : Nat) : Int) = ((a &&& b : Nat) : Int) := by
      rcases hq with rfl | rfl <;> exact fits_wrap (by simp only [fits]; omega)
    unfold binOp
    simp only [ne_eq, not_true_eq_false, if_false, Op.intBits, e, e2, Int.toNat_natCast]
    rfl

def xoBin (P : Program) (op : BinOp) (t : TypeId) : V → V → XR
  | .d (.k q m), .d (.k r n) => if q = r then match arithC op q m n with
      | some (c, z) => .one c (pu [.d (.k q m), .d (.k r n)] (.d (.k q z)))
      | none => match cmpC op m n with
        | some z => .one true (pu [.d (.k q m), .d (.k r n)] (.d (.b z)))
        | none => match op with
          | .shl => .one (decide (0 ≤ n ∧ n ≤ 60 ∧ q = .i64 ∧ fits q (m * 2 ^ n.toNat))) (pu [.d (.k q m), .d (.k r n)] (.d (.k q (m * 2 ^ n.toNat))))
          | .shr => .one (decide (0 ≤ n ∧ n ≤ 60 ∧ (q = .i64 ∨ q = .u64))) (pu [.d (.k q m), .d (.k r n)] (.d (.k q (m / 2 ^ n.toNat))))
          | .and => if n = 1 then .one (decide (n = 1 ∧ q = .i64 ∧ 0 ≤ m ∧ m ≤ 9223372036854775807)) (pu [.d (.k q m), .d (.k r n)] (.d (.k q (m % 2))))
            else .one (decide ((q = .i64 ∨ q = .u64) ∧ 0 ≤ m ∧ m ≤ 9223372036854775807 ∧ 0 ≤ n ∧ n ≤ 9223372036854775807)) (pu [.d (.k q m), .d (.k r n)] (.d (.k q ((m.toNat &&& n.toNat : Nat) : Int))))
          | _ => .none
    else .none
  | .d (.s m), .d (.s n) => match strC op m n with
      | some (c, z) => .one c (pu [.d (.s m), .d (.s n)] (.d z))
      | none => .none
  | .d (.b m), .d (.b n) => match op with
      | .eql => .one (isBoolT P t) (pu [.d (.b m), .d (.b n)] (.d (.b (m == n))))
      | _ => .none
  | v, .d .nil => match nilV v with
      | some (c, p) => match op with
        | .eql => .one ((sel P t).isSome && c) (pu [v, .d .nil] (.d (.b p)))
        | .neq => .one ((sel P t).isSome && c) (pu [v, .d .nil] (.d (.b (!p))))
        | _ => .none
      | none => .none
  | v, y => match two v, two y with
      | some (a, b), some (c, d) => match op with
        | .eql => .one (teq2 P t) (pu [v, y] (.d (.b (decide (a = c ∧ b = d)))))
        | .neq => .one (teq2 P t) (pu [v, y] (.d (.b (!decide (a = c ∧ b = d)))))
        | _ => .none
      | _, _ => .none
def xoLoad (P : Program) (s : LS) (t : TypeId) : V → XR
  | .p h off => match s.blk h with
    | some (.cells cs e) => match shp P t with
      | some none => .one (decide (off < cs.length)) ⟨[.p h off], [(h, .cells cs e)], [], [], [], cs.getD off .u⟩
      | some (some n) => .one (decide (off + n ≤ cs.length)) ⟨[.p h off], [(h, .cells cs e)], [], [], [], .agg ((cs.drop off).take n)⟩
      | none => .none
    | _ => .none
  | .q sz rows i j => match shp P t with
    | some none => .one (decide (i < rows.length ∧ j < (rows.getD i []).length)) (pu [.q sz rows i j] (.d ((rows.getD i []).getD j .nil)))
    | some (some n) => .one (decide (i < rows.length ∧ j + n ≤ (rows.getD i []).length)) (pu [.q sz rows i j] (.d (.agg (((rows.getD i []).drop j).take n))))
    | none => .none
  | _ => .none
def xoStore (P : Program) (s : LS) (t : TypeId) : V → V → XR
  | .p h off, v => match s.blk h, cellsV v, tsz P t with
    | some (.cells cs e), some xs, some n => .one (decide (n = xs.length ∧ off + xs.length ≤ cs.length)) ⟨[.p h off, v], [], [(h, .cells cs e)], [], [(h, .cells (setL cs off xs) e)], .u⟩
    | _, _, _ => .none
  | _, _ => .none
def xoIdx (P : Program) (t : TypeId) : V → V → XR
  | .p h off, .d (.k q n) => match ael P t with
    | some (m, sz) => .one (decide (0 ≤ n ∧ n < m)) (pu [.p h off, .d (.k q n)] (.p h (off + n.toNat * sz)))
    | none => .none
  | .ms h off m, .d (.k q n) => match sel P t with
    | some z => if z = 1 then .one (decide (0 ≤ n ∧ n < m)) (pu [.ms h off m, .d (.k q n)] (.p h (off + n.toNat))) else .none
    | none => .none
  | v, .d (.k q n) => match rowsV v, sel P t with
    | some (sz, rows), some z => if z = sz then .one (decide (0 ≤ n ∧ n < rows.length)) (pu [v, .d (.k q n)] (.q sz rows n.toNat 0)) else .none
    | _, _ => .none
  | _, _ => .none
def xoIndex (P : Program) (t : TypeId) : V → V → XR
  | .d (.s l), .d (.k q n) => .one (decide (isStrT P t = true ∧ 0 ≤ n ∧ n < l.length)) (pu [.d (.s l), .d (.k q n)] (.d (.k .u8 (l.getD n.toNat 0).toNat)))
  | v, .d (.k q n) => match aggV v, esh P t with
    | some cs, some (k, sz, m) => match partV cs (n.toNat * sz) m with
      | some y => .one (decide (0 ≤ n ∧ n < k)) (pu [v, .d (.k q n)] y)
      | none => .none
    | _, _ => .none
  | _, _ => .none
/-- a function value: what it enters, its first arguments, what it has captured -/
def calleeV : V → Option (FuncId × List V × List V)
  | .d (.fn (.func g) a c) => some (g, a.map .d, c.map .d)
  | .fn (.func g) a c => some (g, a, c)
  | _ => none
def xoCall (P : Program) (s : LS) (new : Nat) (c : Call) : XR := match c.callee with
  | .builtin .len => match c.args.toList, c.argTypes.toList with
    | [x], [t] => match s.ev x with
      | some v => match lenV P t v with
        | some n => .one true (pu [v] (.d (.k .i64 n)))
        | none => .none
      | none => .none
    | _, _ => .none
  | .builtin .copy => match c.args.toList, c.argTypes.toList with
    | [x, y], [t, _] => match s.ev x, s.ev y, sel P t with
      | some (.ms h off n), some vy, some 1 => match s.blk h, srcC s h vy with
        | some (.cells cs e), some (rd, xs) => .one (decide (off + n ≤ cs.length) && xs.all oneV) ⟨[.ms h off n, vy], rd, [(h, .cells cs e)], [], [(h, .cells (cs.take off ++ xs.take n ++ cs.drop (off + min xs.length n)) e)], .d (.k .i64 ((min xs.length n : Nat) : Int))⟩
        | _, _ => .none
      | _, _, _ => .none
    | _, _ => .none
  | .builtin .append => match c.args.toList, c.argTypes.toList with
    | [x, y], [t, t'] => if t = t' then match s.ev x, s.ev y, apT P t with
      | some vx, some vy, some (e, sz) => match baseV s e sz vx, srcV sz vy with
        | some (hp, rows), some rows2 => .one (decide (rows.length + rows2.length ≤ 1000000)) ⟨[vx, vy], [], hp, [new], [(new, .tail (rows.length + rows2.length) sz e)], .own new sz (rows ++ rows2)⟩
        | _, _ => .none
      | _, _, _ => .none
      else .none
    | _, _ => .none
  | .builtin .max => match c.args.toList with
    | [x, y] => match s.ev x, s.ev y with
      | some (.d (.k q m)), some (.d (.k r n)) => .one true (pu [.d (.k q m), .d (.k r n)] (.d (.k q (max m n))))
      | _, _ => .none
    | [x, y, z] => match s.ev x, s.ev y, s.ev z with
      | some (.d (.k q m)), some (.d (.k r n)), some (.d (.k p k)) => .one true (pu [.d (.k q m), .d (.k r n), .d (.k p k)] (.d (.k q (max (max m n) k))))
      | _, _, _ => .none
    | _ => .none
  | .builtin .min => match c.args.toList with
    | [x, y] => match s.ev x, s.ev y with
      | some (.d (.k q m)), some (.d (.k r n)) => .one true (pu [.d (.k q m), .d (.k r n)] (.d (.k q (min m n))))
      | _, _ => .none
    | _ => .none
  | .value f => match s.ev f, s.evs c.args.toList with
    | some fv, some vs => match calleeV fv with
      | some (g, a, cp) => .call g (a ++ vs ++ cp) (fv :: vs)
      | none => .none
    | _, _ => .none
  | .invoke r m => match s.ev r, s.evs c.args.toList with
    | some (.d (.ifc t d)), some vs => match mth P t m with
      | some g => .call g (.d d :: vs) (.d (.ifc t d) :: vs)
      | none => .none
    | _, _ => .none
  | _ => .none
/-- a call that is put off -/
def xoDfr (s : LS) (c : Call) : XR := match c.callee with
  | .value f => match s.ev f, s.evs c.args.toList with
    | some (.fn (.func f) a cp), some vs => .dfr (.func f, cp, a ++ vs)
    | _, _ => .none
  | _ => .none
def noDst : Option Tmp → Prop | none => True | some _ => False
def xoRun (P : Program) (s : LS) (new : Nat) (o : Oper) : XR := match o.op with
  | .move x => match s.ev x with
    | some v => .one true (pu [v] v)
    | none => .none
  | .assign x => match s.ev x with
    | some v => .one true (pu [v] v)
    | none => .none
  | .pick c x y => match s.ev c, s.ev x, s.ev y with
    | some (.d (.b p)), some vx, some vy => .one true (pu [.d (.b p), vx, vy] (pk p vx vy))
    | _, _, _ => .none
  | .alloc t => match tz P t with
    | some cs => .one true ⟨[], [], [], [new], [(new, .cells cs t)], .p new 0⟩
    | none => .none
  | .box t x => match s.ev x with
    | some v => match cellsV v with
      | some cs => .one true ⟨[v], [], [], [new], [(new, .cells cs t)], .p new 0⟩
      | none => .none
    | none => .none
  | .load t x => match s.ev x with
    | some v => xoLoad P s t v
    | none => .none
  | .store t x y => match o.dst with
    | none => match s.ev x, s.ev y with
      | some vx, some vy => xoStore P s t vx vy
      | _, _ => .none
    | some _ => .none
  | .nilCheck x => match s.ev x with
    | some v => .one (noNil v) (pu [v] v)
    | none => .none
  | .binOp .eql t x (.const .nilIface) _ => match s.ev x with
    | some v => match ifcNil v with
      | some p => .one (isIfcT P t == some true) (pu [v, .d (.raw .nilIface)] (.d (.b p)))
      | none => .none
    | none => .none
  | .binOp op t x y _ => match s.ev x, s.ev y with
    | some vx, some vy => xoBin P op t vx vy
    | _, _ => .none
  | .unOp op _ x => match op, s.ev x with
    | .not, some (.d (.b p)) => .one true (pu [.d (.b p)] (.d (.b (!p))))
    | .neg, some (.d (.k q n)) => .one (decide (fits q (-n))) (pu [.d (.k q n)] (.d (.k q (-n))))
    | _, _ => .none
  | .convert t t' x => match s.ev x with
    | some (.d (.k q n)) => match tik P t, tik P t' with
      | some _, some k' => .one (decide (fits k' n)) (pu [.d (.k q n)] (.d (.k k' n)))
      | _, _ => .none
    | _ => .none
  | .makeInterface t x => match s.ev x with
    | some v => match v.toD with
      | some d => .one (decide (isIfcT P t = some false)) (pu [v] (.d (.ifc t d)))
      | none => .none
    | none => .none
  | .makeFunc f first cap => match s.evs first.toList, s.evs cap.toList with
    | some vs, some cs => .one true (pu (vs ++ cs) (.fn f vs cs))
    | _, _ => .none
  | .makeSlice t x y => match s.ev x, s.ev y with
    | some (.d (.k q n)), some (.d (.k q' n')) => match apT P t with
      | some (e, sz) => match tz P e with
        | some [z] => .one (decide (n' = n ∧ sz = 1 ∧ 0 ≤ n ∧ n ≤ 1000000)) ⟨[.d (.k q n), .d (.k q' n')], [], [], [new], [(new, .cells (List.replicate n.toNat z) e)], .ms new 0 n.toNat⟩
        | _ => .none
      | none => .none
    | _, _ => .none
  | .slice t x none none none => match s.ev x with
    | some (.p h 0) => match s.blk h, ael P t with
      | some (.cells cs e), some (n, sz) => match V.toD.toDs cs with
        | some ds => .one (decide (cs.length = n * sz ∧ n ≤ 1000000) && cs.all oneV) ⟨[.p h 0], [], [(h, .cells cs e)], [], [], .d (.sl sz (chunks sz n ds))⟩
        | none => .none
      | _, _ => .none
    | _ => .none
  | .range t x => match s.ev x with
    | some (.d (.s l)) => .one (isStrT P t) ⟨[.d (.s l)], [], [], [new], [(new, .iter l 0)], .p new 0⟩
    | _ => .none
  | .next x true => match s.ev x with
    | some (.p h 0) => match s.blk h with
      | some (.iter l pos) => .one true ⟨[.p h 0], [], [(h, .iter l pos)], [], [(h, .iter l (nextP l pos))], nextV l pos⟩
      | _ => .none
    | _ => .none
  | .makeMap t none => .one true ⟨[], [], [], [new], [(new, .imap [])], .h new⟩
  | .lookup t x y true => match s.ev x, s.ev y with
    | some (.h h), some v => match s.blk h, mke P t, three v with
      | some (.imap es), some (k, e), some (a, b, c) => match midx a b c es, tz P e with
        | some r, some _ => .one true ⟨[.h h, v], [(h, .imap es)], [], [], [], .tup [lkV es r, .d (.b r.isSome)]⟩
        | _, _ => .none
      | _, _, _ => .none
    | _, _ => .none
  | .mapUpdate t x y z => match s.ev x, s.ev y, s.ev z with
    | some (.h h), some v, some vz => match s.blk h, mke P t, three v with
      | some (.imap es), some (k, e), some (a, b, c) => match midx a b c es, vz.toD with
        | some r, some d => .one true ⟨[.h h, v, vz], [], [(h, .imap es)], [], [(h, .imap (mset es a b c d r))], .u⟩
        | _, _ => .none
      | _, _, _ => .none
    | _, _, _ => .none
  | .panic x => match s.ev x with
    | some (.d (.ifc t d)) => .pan (.ifc t d)
    | _ => .none
  | .defer c => xoDfr s c
  | .slice t x (some y) none none => match s.ev x, s.ev y with
    | some v, some (.d (.k q l)) => match subV P t v (some l) none with
      | some (c, r) => .one c (pu [v, .d (.k q l)] r)
      | none => .none
    | _, _ => .none
  | .slice t x none (some y) none => match s.ev x, s.ev y with
    | some v, some (.d (.k q l)) => match subV P t v none (some l) with
      | some (c, r) => .one c (pu [v, .d (.k q l)] r)
      | none => .none
    | _, _ => .none
  | .slice t x (some y) (some z) none => match s.ev x, s.ev y, s.ev z with
    | some v, some (.d (.k q l)), some (.d (.k q' h)) => match subV P t v (some l) (some h) with
      | some (c, r) => .one c (pu [v, .d (.k q l), .d (.k q' h)] r)
      | none => .none
    | _, _, _ => .none
  | .fieldAddr t x f => match s.ev x, fo P t f with
    | some (.p h off), some n => .one true (pu [.p h off] (.p h (off + n)))
    | some (.q sz rows i j), some n => .one true (pu [.q sz rows i j] (.q sz rows i (j + n)))
    | _, _ => .none
  | .field t x f => match s.ev x with
    | some v => match aggV v, fsh P t f with
      | some cs, some (n, m) => match partV cs n m with
        | some y => .one true (pu [v] y)
        | none => .none
      | _, _ => .none
    | none => .none
  | .indexAddr t x y => match s.ev x, s.ev y with
    | some vx, some vy => xoIdx P t vx vy
    | _, _ => .none
  | .index t x y => match s.ev x, s.ev y with
    | some vx, some vy => xoIndex P t vx vy
    | _, _ => .none
  | .extract x i => match s.ev x with
    | some (.tup cs) => match cs[i]? with
      | some v => .one true (pu [.tup cs] v)
      | none => .none
    | some (.d (.tup ds)) => match ds[i]? with
      | some d => .one true (pu [.d (.tup ds)] (.d d))
      | none => .none
    | _ => .none
  | .typeAssert x t t' true => match s.ev x with
    | some (.d (.ifc tt d)) => .one (decide (isIfcT P t' = some false ∧ (tz P t').isSome = true)) (pu [.d (.ifc tt d)] (.tup [if tt = t' then .d d else .u, .d (.b (decide (tt = t')))]))
    | _ => .none
  | .build t ps => match s.evs (ps.toList.map (·.2)), tz P t with
    | some vs, some zs => match bfill (bpl P t) zs ((ps.toList.map (·.1)).zip vs) with
      | some cs => .one (bplf P t).isSome (pu vs (.agg cs))
      | none => .none
    | _, _ => .none
  | .buildSlice t len ps => match s.evs (ps.toList.map (·.2)), apT P t with
    | some vs, some (e, sz) => match bfill (fun i => some (i * sz, sz)) (List.replicate (len * sz) .u) ((ps.toList.map (·.1)).zip vs) with
      | some cs => match V.toD.toDs cs with
        | some ds => .one (decide (len * sz ≤ 10000 ∧ cs.all oneV = true)) ⟨vs, [], [], [new], [(new, .tail len sz e)], .own new sz (chunks sz len ds)⟩
        | none => .none
      | none => .none
    | _, _ => .none
  | .call c => xoCall P s new c
  | _ => .none
end
end Go.Lm
/- The logical machine: that function is sound. -/
set_option linter.constructorNameAsVariable false
namespace Go.Lm
open Go Go.RowKit
section
variable {P : Program} {s : LS} {new : Nat} {dst : Option Tmp} {type : TypeId} {pos : String} {after : Array Edge} {guard : Option (Nat × Bool)}

theorem dc {p : Prop} [Decidable p] (h : decide p = true) : p := of_decide_eq_true h
theorem ac {a b : Bool} (h : (a && b) = true) : a = true ∧ b = true := by simpa using h
theorem one_inj {c c' : Bool} {e e' : Eff} (h : XR.one c e = XR.one c' e') : c = c' ∧ e = e' := by cases h; exact ⟨rfl, rfl⟩
theorem xoBin_ok {op : BinOp} {t yt : TypeId} {x y : Operand} {vx vy : V} {c : Bool} {e : Eff} (hx : s.ev x = some vx) (hy : s.ev y = some vy) (h : xoBin P op t vx vy = .one c e) (hc : c = true) : Ok P s new ⟨dst, .binOp op t x y yt, type, pos, after, guard⟩ e := by
  have two_ : ∀ v y' : V, s.ev y = some y' → s.ev x = some v → (match two v, two y' with
      | some (a, b), some (c, d) => (match op with
        | .eql => XR.one (teq2 P t) (pu [v, y'] (.d (.b (decide (a = c ∧ b = d)))))
        | .neq => .one (teq2 P t) (pu [v, y'] (.d (.b (!decide (a = c ∧ b = d)))))
        | _ => .none)
      | _, _ => .none) = .one c e → Ok P s new ⟨dst, .binOp op t x y yt, type, pos, after, guard⟩ e := fun v y' hy hx h => by
    split at h
    · rename_i a b c' d h1 h2
      split at h
      · obtain ⟨rfl, rfl⟩ := one_inj h
        exact ok_eq2 hx hy h1 h2 hc
      · obtain ⟨rfl, rfl⟩ := one_inj h
        exact ok_ne2 hx hy h1 h2 hc
      · cases h
    · cases h
  unfold xoBin at h
  split at h
  · split at h
    · rename_i q m r n hq
      subst hq
      split at h
      · rename_i c' z ha
        obtain ⟨rfl, rfl⟩ := one_inj h
        exact ok_arith hx hy ha hc
      · split at h
        · rename_i z hcmp
          obtain ⟨rfl, rfl⟩ := one_inj h
          exact ok_cmp hx hy hcmp
        · split at h
          · obtain ⟨rfl, rfl⟩ := one_inj h
            exact ok_shl hx hy (dc hc).1 (dc hc).2.1 (dc hc).2.2.1 (dc hc).2.2.2
          · obtain ⟨rfl, rfl⟩ := one_inj h
            exact ok_shr hx hy (dc hc).1 (dc hc).2.1 (dc hc).2.2
          · split at h
            · obtain ⟨rfl, rfl⟩ := one_inj h
              obtain ⟨rfl, h2, h3, h4⟩ := dc hc
              exact ok_and1 hx hy h2 h3 h4
            · obtain ⟨rfl, rfl⟩ := one_inj h
              obtain ⟨h2, h3, h4, h5, h6⟩ := dc hc
              exact ok_and hx hy h2 h3 h4 h5 h6
          · cases h
    · cases h
  · split at h
    · rename_i c' z hs
      obtain ⟨rfl, rfl⟩ := one_inj h
      exact ok_str hx hy hs hc
    · cases h
  · split at h
    · obtain ⟨rfl, rfl⟩ := one_inj h
      exact ok_beq hx hy hc
    · cases h
  · split at h
    · rename_i c' p hn
      split at h
      · obtain ⟨rfl, rfl⟩ := one_inj h
        exact ok_eqNil hx hy hn (ac hc).1 (ac hc).2
      · obtain ⟨rfl, rfl⟩ := one_inj h
        exact ok_neNil hx hy hn (ac hc).1 (ac hc).2
      · cases h
    · cases h
  · exact two_ _ _ hy hx h
theorem getD_get {cs : List V} {off : Nat} (h : off < cs.length) : cs[off]? = some (cs.getD off .u) := by
  rw [List.getElem?_eq_getElem h, List.getD_eq_getElem?_getD, List.getElem?_eq_getElem h]; rfl
theorem xoLoad_ok {t : TypeId} {x : Operand} {vx : V} {c : Bool} {e : Eff} (hx : s.ev x = some vx) (h : xoLoad P s t vx = .one c e) (hc : c = true) : Ok P s new ⟨dst, .load t x, type, pos, after, guard⟩ e := by
  unfold xoLoad at h
  split at h
  · split at h
    · rename_i hb
      split at h
      · rename_i hs
        obtain ⟨rfl, rfl⟩ := one_inj h
        exact ok_load1 hx hb (shp_one hs) (getD_get (dc hc))
      · rename_i n hs
        obtain ⟨rfl, rfl⟩ := one_inj h
        exact ok_loadN hx hb (shp_agg hs).1 (shp_agg hs).2 (dc hc)
      · cases h
    · cases h
  · split at h
    · rename_i hs
      obtain ⟨rfl, rfl⟩ := one_inj h
      refine ok_loadQ1 hx (shp_one hs) (dc hc).1 ?_
      rw [List.getElem?_eq_getElem (dc hc).2, List.getD_eq_getElem?_getD (l := List.getD _ _ _), List.getElem?_eq_getElem (dc hc).2]; rfl
    · rename_i n hs
      obtain ⟨rfl, rfl⟩ := one_inj h
      exact ok_loadQN hx (shp_agg hs).1 (shp_agg hs).2 (dc hc).1 (dc hc).2
    · cases h
  · cases h
theorem xoStore_ok {t : TypeId} {x y : Operand} {vx vy : V} {c : Bool} {e : Eff} (hx : s.ev x = some vx) (hy : s.ev y = some vy) (h : xoStore P s t vx vy = .one c e) (hc : c = true) : Ok P s new ⟨none, .store t x y, type, pos, after, guard⟩ e := by
  unfold xoStore at h
  split at h
  · split at h
    · rename_i cs e' xs n hb hcv hn
      obtain ⟨rfl, rfl⟩ := one_inj h
      obtain ⟨rfl, hl⟩ := dc hc
      exact ok_store hx hy hb hcv hn hl
    · cases h
  · cases h
theorem xoIdx_ok {t : TypeId} {x y : Operand} {vx vy : V} {c : Bool} {e : Eff} (hx : s.ev x = some vx) (hy : s.ev y = some vy) (h : xoIdx P t vx vy = .one c e) (hc : c = true) : Ok P s new ⟨dst, .indexAddr t x y, type, pos, after, guard⟩ e := by
  unfold xoIdx at h
  split at h
  · split at h
    · rename_i m sz ha
      obtain ⟨rfl, rfl⟩ := one_inj h
      exact ok_indexA hx hy ha (dc hc).1 (dc hc).2
    · cases h
  · split at h
    · split at h
      · rename_i z hz hzs
        obtain ⟨rfl, rfl⟩ := one_inj h
        subst hzs
        exact ok_indexM hx hy hz (dc hc).1 (dc hc).2
      · cases h
    · cases h
  · split at h
    · split at h
      · rename_i hr hz hzs
        obtain ⟨rfl, rfl⟩ := one_inj h
        subst hzs
        exact ok_indexS hx hy hr hz (dc hc).1 (dc hc).2
      · cases h
    · cases h
  · cases h
theorem xoIndex_ok {t : TypeId} {x y : Operand} {vx vy : V} {c : Bool} {e : Eff} (hx : s.ev x = some vx) (hy : s.ev y = some vy) (h : xoIndex P t vx vy = .one c e) (hc : c = true) : Ok P s new ⟨dst, .index t x y, type, pos, after, guard⟩ e := by
  unfold xoIndex at h
  split at h
  · obtain ⟨rfl, rfl⟩ := one_inj h
    exact ok_indexStr hx hy (dc hc).1 (dc hc).2.1 (dc hc).2.2
  · split at h
    · rename_i ha he
      split at h
      · rename_i y' hp
        obtain ⟨rfl, rfl⟩ := one_inj h
        exact ok_indexV hx hy ha he (dc hc).1 (dc hc).2 hp
      · cases h
    · cases h
  · cases h
theorem toList_one {α : Type} {a : Array α} {x : α} (h : a.toList = [x]) : a = #[x] := by apply Array.ext'; simpa using h
theorem toList_two {α : Type} {a : Array α} {x y : α} (h : a.toList = [x, y]) : a = #[x, y] := by apply Array.ext'; simpa using h
theorem toList_three {α : Type} {a : Array α} {x y z : α} (h : a.toList = [x, y, z]) : a = #[x, y, z] := by apply Array.ext'; simpa using h
theorem xoCall_ok {cl : Call} {c : Bool} {e : Eff} (h : xoCall P s new cl = .one c e) (hc : c = true) : Ok P s new ⟨dst, .call cl, type, pos, after, guard⟩ e := by
  obtain ⟨callee, args, tys⟩ := cl
  unfold xoCall at h
  split at h
  · rename_i hcl
    simp only at hcl
    subst hcl
    split at h
    · rename_i x t ha ht
      obtain rfl := toList_one ha; obtain rfl := toList_one ht
      split at h
      · rename_i v hx
        split at h
        · rename_i n hl
          obtain ⟨rfl, rfl⟩ := one_inj h
          exact ok_len hx hl
        · cases h
      · cases h
    · cases h
  · rename_i hcl
    simp only at hcl
    subst hcl
    split at h
    · rename_i x y t t' ha ht
      obtain rfl := toList_two ha; obtain rfl := toList_two ht
      split at h
      · rename_i hx hy hT
        split at h
        · rename_i hb hs
          obtain ⟨rfl, rfl⟩ := one_inj h
          obtain ⟨h1, h2⟩ := ac hc
          exact ok_copy hx hy hT hb hs (dc h1) h2
        · cases h
      · cases h
    · cases h
  · rename_i hcl
    simp only at hcl
    subst hcl
    split at h
    · rename_i x y t t' ha ht
      obtain rfl := toList_two ha; obtain rfl := toList_two ht
      split at h
      · rename_i htt
        subst htt
        split at h
        · rename_i hx hy hT
          split at h
          · rename_i hb hs
            obtain ⟨rfl, rfl⟩ := one_inj h
            exact ok_append hx hy hT hb hs (dc hc)
          · cases h
        · cases h
      · cases h
    · cases h
  · rename_i hcl
    simp only at hcl
    subst hcl
    split at h
    · rename_i x y ha
      obtain rfl := toList_two ha
      split at h
      · rename_i hx hy
        obtain ⟨rfl, rfl⟩ := one_inj h
        exact ok_max2 hx hy
      · cases h
    · rename_i x y z ha
      obtain rfl := toList_three ha
      split at h
      · rename_i hx hy hz
        obtain ⟨rfl, rfl⟩ := one_inj h
        exact ok_max3 hx hy hz
      · cases h
    · cases h
  · rename_i hcl
    simp only at hcl
    subst hcl
    split at h
    · rename_i x y ha
      obtain rfl := toList_two ha
      split at h
      · rename_i hx hy
        obtain ⟨rfl, rfl⟩ := one_inj h
        exact ok_min2 hx hy
      · cases h
    · cases h
  · split at h
    · split at h <;> cases h
    · cases h
  · split at h
    · split at h <;> cases h
    · cases h
  · cases h
theorem xoRun_ok {o : Oper} {c : Bool} {e : Eff} (h : xoRun P s new o = .one c e) (hc : c = true) : Ok P s new o e := by
  obtain ⟨dst, op, type, pos, after, guard⟩ := o
  unfold xoRun at h
  split at h
  · -- move
    rename_i x hop; simp only at hop; subst hop
    split at h
    · rename_i v hx; obtain ⟨rfl, rfl⟩ := one_inj h; exact ok_move hx
    · cases h
  · rename_i x hop; simp only at hop; subst hop
    split at h
    · rename_i v hx; obtain ⟨rfl, rfl⟩ := one_inj h; exact ok_assign hx
    · cases h
  · rename_i hop; simp only at hop; subst hop
    split at h
    · rename_i h1 h2 h3; obtain ⟨rfl, rfl⟩ := one_inj h; exact ok_pick h1 h2 h3
    · cases h
  · rename_i hop; simp only at hop; subst hop
    split at h
    · rename_i h1; obtain ⟨rfl, rfl⟩ := one_inj h; exact ok_alloc h1
    · cases h
  · rename_i hop; simp only at hop; subst hop
    split at h
    · rename_i hx
      split at h
      · rename_i h1; obtain ⟨rfl, rfl⟩ := one_inj h; exact ok_box hx h1
      · cases h
    · cases h
  · rename_i hop; simp only at hop; subst hop
    split at h
    · rename_i hx; exact xoLoad_ok hx h hc
    · cases h
  · rename_i hop; simp only at hop; subst hop
    split at h
    · rename_i hd; simp only at hd; subst hd
      split at h
      · rename_i hx hy; exact xoStore_ok hx hy h hc
      · cases h
    · cases h
  · rename_i hop; simp only at hop; subst hop
    split at h
    · rename_i hx; obtain ⟨rfl, rfl⟩ := one_inj h; exact ok_nilCheck hx hc
    · cases h
  · rename_i hop; simp only at hop; subst hop
    split at h
    · rename_i hx
      split at h
      · rename_i hp; obtain ⟨rfl, rfl⟩ := one_inj h; exact ok_ifcNil hx hp (by simpa using hc)
      · cases h
    · cases h
  · rename_i hop; simp only at hop; subst hop
    split at h
    · rename_i hx hy; exact xoBin_ok hx hy h hc
    · cases h
  · rename_i hop; simp only at hop; subst hop
    split at h
    · rename_i hx; obtain ⟨rfl, rfl⟩ := one_inj h; exact ok_not hx
    · rename_i hx; obtain ⟨rfl, rfl⟩ := one_inj h; exact ok_neg hx (dc hc)
    · cases h
  · rename_i hop; simp only at hop; subst hop
    split at h
    · rename_i hx
      split at h
      · rename_i h1 h2; obtain ⟨rfl, rfl⟩ := one_inj h; exact ok_convI hx h1 h2 (dc hc)
      · cases h
    · cases h
  · rename_i hop; simp only at hop; subst hop
    split at h
    · rename_i hx
      split at h
      · rename_i h1; obtain ⟨rfl, rfl⟩ := one_inj h; exact ok_mkIfc hx h1 (dc hc)
      · cases h
    · cases h
  · rename_i hop; simp only at hop; subst hop
    split at h
    · rename_i h1 h2; obtain ⟨rfl, rfl⟩ := one_inj h; exact ok_makeFunc h1 h2
    · cases h
  · rename_i hop; simp only at hop; subst hop
    split at h
    · rename_i hx hy
      split at h
      · rename_i hT
        split at h
        · rename_i hz
          obtain ⟨rfl, rfl⟩ := one_inj h
          obtain ⟨rfl, rfl, h1, h2⟩ := dc hc
          exact ok_make hx hy hT hz h1 h2
        · cases h
      · cases h
    · cases h
  · rename_i hop; simp only at hop; subst hop
    split at h
    · rename_i hx
      split at h
      · rename_i hb ha
        split at h
        · rename_i hd
          obtain ⟨rfl, rfl⟩ := one_inj h
          obtain ⟨h1, h2⟩ := ac hc
          obtain ⟨h3, h4⟩ := dc h1
          exact ok_sliceArr hx hb ha h3 h4 hd h2
        · cases h
      · cases h
    · cases h
  · rename_i hop; simp only at hop; subst hop
    split at h
    · rename_i hx; obtain ⟨rfl, rfl⟩ := one_inj h; exact ok_range hx hc
    · cases h
  · rename_i hop; simp only at hop; subst hop
    split at h
    · rename_i hx
      split at h
      · rename_i hb; obtain ⟨rfl, rfl⟩ := one_inj h; exact ok_next hx hb
      · cases h
    · cases h
  · rename_i hop; simp only at hop; subst hop
    obtain ⟨rfl, rfl⟩ := one_inj h; exact ok_makeMap
  · rename_i hop; simp only at hop; subst hop
    split at h
    · rename_i hx hy
      split at h
      · rename_i hb hm h3
        split at h
        · rename_i hr hz; obtain ⟨rfl, rfl⟩ := one_inj h; exact ok_lookup hx hy hb hm hz h3 hr
        · cases h
      · cases h
    · cases h
  · rename_i hop; simp only at hop; subst hop
    split at h
    · rename_i hx hy hz
      split at h
      · rename_i hb hm h3
        split at h
        · rename_i hr hd; obtain ⟨rfl, rfl⟩ := one_inj h; exact ok_mapUpdate hx hy hz hb hm h3 hd hr
        · cases h
      · cases h
    · cases h
  · split at h <;> cases h
  · unfold xoDfr at h
    (repeat' split at h) <;> cases h
  · rename_i hop; simp only at hop; subst hop
    split at h
    · rename_i hx hy
      split at h
      · rename_i hs; obtain ⟨rfl, rfl⟩ := one_inj h; exact ok_slice1 hx hy hs hc
      · cases h
    · cases h
  · rename_i hop; simp only at hop; subst hop
    split at h
    · rename_i hx hy
      split at h
      · rename_i hs; obtain ⟨rfl, rfl⟩ := one_inj h; exact ok_slice2 hx hy hs hc
      · cases h
    · cases h
  · rename_i hop; simp only at hop; subst hop
    split at h
    · rename_i hx hy hz
      split at h
      · rename_i hs; obtain ⟨rfl, rfl⟩ := one_inj h; exact ok_slice3 hx hy hz hs hc
      · cases h
    · cases h
  · rename_i hop; simp only at hop; subst hop
    split at h
    · rename_i hx hf; obtain ⟨rfl, rfl⟩ := one_inj h; exact ok_fieldP hx hf
    · rename_i hx hf; obtain ⟨rfl, rfl⟩ := one_inj h; exact ok_fieldQ hx hf
    · cases h
  · rename_i hop; simp only at hop; subst hop
    split at h
    · rename_i hx
      split at h
      · rename_i ha hf
        split at h
        · rename_i hp; obtain ⟨rfl, rfl⟩ := one_inj h; exact ok_field hx ha hf hp
        · cases h
      · cases h
    · cases h
  · rename_i hop; simp only at hop; subst hop
    split at h
    · rename_i hx hy; exact xoIdx_ok hx hy h hc
    · cases h
  · rename_i hop; simp only at hop; subst hop
    split at h
    · rename_i hx hy; exact xoIndex_ok hx hy h hc
    · cases h
  · rename_i hop; simp only at hop; subst hop
    split at h
    · rename_i hx
      split at h
      · rename_i hi; obtain ⟨rfl, rfl⟩ := one_inj h; exact ok_extractV hx hi
      · cases h
    · rename_i hx
      split at h
      · rename_i hi; obtain ⟨rfl, rfl⟩ := one_inj h; exact ok_extractD hx hi
      · cases h
    · cases h
  · rename_i hop; simp only at hop; subst hop
    split at h
    · rename_i hx
      obtain ⟨rfl, rfl⟩ := one_inj h
      obtain ⟨zs, hz⟩ := Option.isSome_iff_exists.1 (dc hc).2
      exact ok_assert hx (dc hc).1 hz
    · cases h
  · rename_i hop; simp only at hop; subst hop
    split at h
    · rename_i hv hz
      split at h
      · rename_i hb; obtain ⟨rfl, rfl⟩ := one_inj h; exact ok_build hv hz hc hb
      · cases h
    · cases h
  · rename_i hop; simp only at hop; subst hop
    split at h
    · rename_i hv hT
      split at h
      · rename_i hb
        split at h
        · rename_i hd; obtain ⟨rfl, rfl⟩ := one_inj h; exact ok_buildSlice hT hv (dc hc).1 hb hd (dc hc).2
        · cases h
      · cases h
    · cases h
  · rename_i hop; simp only at hop; subst hop
    exact xoCall_ok h hc
  · cases h
theorem ac_ev {s : LS} {l : List Operand} {vs : List V} (h : s.evs l = some vs) {β : Bt} {fz : Fz} {a : Act} (hv : ∀ x v, s.ev x = some v → RepV β fz v (a.eval x)) : RepVs β fz vs (l.map a.eval).toArray := by
  obtain ⟨k1, k2⟩ := evs_ok h
  refine ⟨by simp [k1], fun j d u q1 q2 => ?_⟩
  rw [List.getElem?_toArray, List.getElem?_map, Option.map_eq_some_iff] at q2
  obtain ⟨x, q2, rfl⟩ := q2
  exact hv x d (k2 j x d q2 q1)
theorem xoRun_pan {o : Oper} {d : D} (h : xoRun P s new o = .pan d) : PanOK P s o d := by
  obtain ⟨dst, op, type, pos, after, guard⟩ := o
  have key : ∃ x, op = .panic x := by
    unfold xoRun at h
    split at h
    all_goals first
      | (rename_i x hop; exact ⟨x, by simpa using hop⟩)
      | (cases h; done)
      | (unfold xoCall at h; (repeat' split at h) <;> cases h; done)
      | (unfold xoDfr at h; (repeat' split at h) <;> cases h; done)
      | (unfold xoLoad at h; (repeat' split at h) <;> cases h; done)
      | (unfold xoStore at h; (repeat' split at h) <;> cases h; done)
      | (unfold xoBin at h; (repeat' split at h) <;> cases h; done)
      | (unfold xoIdx at h; (repeat' split at h) <;> cases h; done)
      | (unfold xoIndex at h; (repeat' split at h) <;> cases h; done)
      | ((repeat' split at h) <;> cases h; done)
  obtain ⟨x, rfl⟩ := key
  simp only [xoRun] at h
  split at h
  · rename_i t d' hx
    cases h
    intro β fz own a w hok _ hv next Q hQ
    have h1 := hv x _ hx
    generalize hu : a.eval x = u at h1
    cases h1 with
    | d h1 =>
      cases h1 with
      | @ifc _ _ u h1 =>
        have hr : (execOp a.eval ⟨dst, .panic x, type, pos, after, guard⟩).run P w = .halt (.panic (.iface t u)) w := by
          simp only [execOp, hu]
          rfl
        unfold Oper.wp
        rw [hr, Oper.upon_panic]
        refine hQ _ fz w ?_ (.ifc t h1)
        exact {
          ble := Bt.Le.refl _
          bnew := fun _ _ => rfl
          fle := Fz.Le.refl _
          ffr := fun _ _ _ _ => rfl
          ok := hok
          os := rfl
          tape := rfl
          output := rfl
          size := Nat.le_refl _
          frame := fun _ _ _ => rfl
          hreps := fun x hx => by cases hx
          blks := fun x hx => by cases hx
          inj := fun h h' y y' k ⟨x, hx, _⟩ => by cases hx
          v := .u _ }
  · cases h
theorem xoRun_dfr {o : Oper} {y : Fn × List V × List V} (h : xoRun P s new o = .dfr y) : DfrOK P s o y := by
  obtain ⟨dst, op, type, pos, after, guard⟩ := o
  have key : ∃ c, op = .defer c := by
    unfold xoRun at h
    split at h
    all_goals first
      | (rename_i x hop; exact ⟨x, by simpa using hop⟩)
      | (cases h; done)
      | (unfold xoCall at h; (repeat' split at h) <;> cases h; done)
      | (unfold xoLoad at h; (repeat' split at h) <;> cases h; done)
      | (unfold xoStore at h; (repeat' split at h) <;> cases h; done)
      | (unfold xoBin at h; (repeat' split at h) <;> cases h; done)
      | (unfold xoIdx at h; (repeat' split at h) <;> cases h; done)
      | (unfold xoIndex at h; (repeat' split at h) <;> cases h; done)
      | ((repeat' split at h) <;> cases h; done)
  obtain ⟨c, rfl⟩ := key
  simp only [xoRun] at h
  unfold xoDfr at h
  split at h
  · rename_i fo hc
    split at h
    · rename_i f a cp vs hf hvs
      cases h
      obtain ⟨callee, args, tys⟩ := c
      simp only at hc hvs
      subst hc
      intro β fz ac w hv
      have h1 := hv fo _ hf
      have h2 := ac_ev hvs hv
      generalize hu : ac.eval fo = u at h1
      cases h1 with
      | @fn _ _ _ va vc hla ha hlc hcc =>
        refine ⟨{ target := .fn (.func f) vc, args := va ++ args.map ac.eval }, ?_, (fun e => by cases e), vc, rfl, ⟨hlc, hcc⟩, ?_⟩
        · show (do pure (Next.defer (← resolve ac.eval { callee := .value fo, args := args, argTypes := tys } type)) : Sem Next).run P w = _
          simp only [resolve, hu, Deferred.ofValue, Sem.run_bind, Sem.run_pure, Result.andThen_ok]
        · have := ((RepVs.list ⟨hla, ha⟩).append (RepVs.list h2)).arr
          have e : (va.toList ++ (args.toList.map ac.eval).toArray.toList).toArray = va ++ args.map ac.eval := by apply Array.ext'; simp
          rwa [e] at this
    · cases h
  · cases h
/-- the function that carries operations out -/
def xo (P : Program) : Xo P where
  run := xoRun P
  ok := fun s new o c e h hc => by
    have k := xoRun_ok h hc
    exact ⟨k.op, k.len, k.vals, k.rd, k.hp, k.news, k.outs⟩
  okp := fun s new o d h => xoRun_pan h
  okd := fun s new o x h => xoRun_dfr h
end
end Go.Lm
/- The logical machine: what a function does; calls. -/
set_option linter.constructorNameAsVariable false
namespace Go.Lm
open Go Go.RowKit

inductive LO where
  | ret (d : D)
  | pan (d : D)
def LO.is (fz : Fz) (u : Value) (e : Ending) : LO → Prop
  | .ret d => e = .returned u ∧ RepD fz d u
  | .pan d => e = .panicked [{ v := u, recovered := false }] ∧ RepD fz d u
/-- called with such data, the function ends so -/
def SpecP (P : Program) (f : FuncId) (args : List D) (o : LO) : Prop := ∀ (fz : Fz) (w : World) (us : Array Value), FzOk fz w → RepDs fz args us →
  Calls P f us w fun e w' => ∃ fz' u, Below w.heap.size w w' ∧ Fz.Le fz fz' ∧ (∀ b, b < w.heap.size → ∀ o, fz' b o = fz b o) ∧ FzOk fz' w' ∧ o.is fz' u e

/-! ### results -/
def resV (P : Program) (s : LS) : ResultVar → Option V
  | .tmp t => lk s.env t
  | .cell a t => match lk s.env a with
    | some (.p h off) => match s.blk h with
      | some (.cells cs _) => match shp P t with
        | some none => cs[off]?
        | some (some n) => if off + n ≤ cs.length then some (.agg ((cs.drop off).take n)) else none
        | none => none
      | _ => none
    | _ => none
def resL (P : Program) (s : LS) : List ResultVar → Option (List V)
  | [] => some []
  | x :: l => match resV P s x, resL P s l with
    | some v, some vs => some (v :: vs)
    | _, _ => none
def pack : List V → V
  | [v] => v
  | vs => .tup vs
def resS (tmps : Array Value) : ResultVar → Sem Value
  | .tmp t => pure (tmps.getD t undef)
  | .cell a t => do loadVar t (← asAddr (tmps.getD a undef))
theorem results_eq (fn : Func) (tmps : Array Value) : results fn tmps = (do let vs ← fn.results.mapM (resS tmps); pure (if h : vs.size = 1 then vs[0] else .tuple vs)) := by
  unfold results
  congr 1
theorem resV_ok {C : Cx} {s : LS} {a : Act} {w : World} {β : Bt} {fz : Fz} (r : RelB C s a w β fz) {x : ResultVar} {v : V} (h : resV C.P s x = some v) :
    ∃ u, (resS a.tmps x).run C.P w = .ok u w ∧ RepV β fz v u := by
  cases x with
  | tmp t =>
    obtain ⟨u, h1, h2⟩ := r.env t v h
    exact ⟨u, by simp only [resS]; rw [show a.tmps.getD t undef = u by simp [h1]]; rfl, h2⟩
  | cell b t =>
    simp only [resV] at h
    split at h
    · rename_i k off hb
      split at h
      · rename_i cs e hbl
        obtain ⟨u, h1, h2⟩ := r.env b _ hb
        have hg : a.tmps.getD b undef = u := by simp [h1]
        cases h2 with
        | @p _ _ bb hbb =>
          obtain ⟨us, k1, k2, _, _, k3⟩ := cells_of (r.hreps k _ hbl) hbb
          have he : (resS a.tmps (.cell b t)) = (do loadVar t (← asAddr (.pointer (some ⟨bb, off, none⟩)))) := by simp only [resS, hg]
          rw [he]
          show ∃ u, (loadVar t ⟨bb, off, none⟩).run C.P w = .ok u w ∧ RepV β fz v u
          split at h
          · rename_i hs
            have hlt : off < us.size := by rw [k2.1]; exact (List.getElem?_eq_some_iff.1 h).1
            have hc : w.cell? ⟨bb, off, none⟩ = some us[off] := by simp [World.cell?, k1, hlt]
            refine ⟨us[off], ?_, k2.2 off v _ h (Array.getElem?_eq_getElem hlt)⟩
            unfold loadVar
            simp only [Sem.run_bind, run_isAgg' (shp_one hs), Result.andThen_ok, Bool.false_eq_true, if_false]
            rw [run_load, hc]
          · rename_i n hs
            split at h
            · rename_i hl
              cases h
              obtain ⟨s1, s2⟩ := shp_agg hs
              have hr := (k2.list.drop off).take n
              have hlen : ((us.toList.drop off).take n).length = n := by rw [hr.1]; simp; omega
              have hc : ∀ (j : Nat) (v : Value), ((us.toList.drop off).take n)[j]? = some v → w.cell? ((⟨bb, off, none⟩ : Addr).add j) = some v := fun j v hj => by
                rw [add_off, show w.cell? ⟨bb, off + j, none⟩ = us[off + j]? by simp [World.cell?, k1]]
                rw [List.getElem?_take] at hj
                split at hj
                · rw [List.getElem?_drop] at hj; simpa using hj
                · cases hj
              have hrun := run_loadCells_list (P := C.P) (w := w) ⟨bb, off, none⟩ ((us.toList.drop off).take n) hc
              rw [hlen] at hrun
              refine ⟨.agg ((us.toList.drop off).take n).toArray, ?_, .agg hr.arr.1 hr.arr.2⟩
              unfold loadVar
              simp only [Sem.run_bind, run_isAgg' s1, Result.andThen_ok, if_true, run_sizeOf' s2, hrun]
              rfl
            · cases h
          · cases h
      · cases h
    · cases h
theorem resL_ok {C : Cx} {s : LS} {a : Act} {w : World} {β : Bt} {fz : Fz} (r : RelB C s a w β fz) : ∀ {l : List ResultVar} {vs : List V}, resL C.P s l = some vs →
    ∃ us : List Value, (l.mapM (resS a.tmps)).run C.P w = .ok us w ∧ RepL β fz vs us
  | [], vs, h => by
    simp only [resL, Option.some.injEq] at h
    subst h
    exact ⟨[], rfl, RepL.nil _ _⟩
  | x :: l, vs, h => by
    simp only [resL] at h
    split at h
    · rename_i v vs' hx hl
      cases h
      obtain ⟨u, h1, h2⟩ := resV_ok r hx
      obtain ⟨us, h3, h4⟩ := resL_ok r hl
      refine ⟨u :: us, ?_, (RepL.one h2).append h4⟩
      rw [List.mapM_cons]
      simp only [Sem.run_bind, h1, Result.andThen_ok, h3]
      rfl
    · cases h
theorem results_ok {C : Cx} {s : LS} {a : Act} {w : World} {β : Bt} {fz : Fz} (r : RelB C s a w β fz) {fn : Func} {vs : List V} (h : resL C.P s fn.results.toList = some vs) : ∃ u, (results fn a.tmps).run C.P w = .ok u w ∧ RepV β fz (pack vs) u := by
  obtain ⟨us, h1, h2⟩ := resL_ok r h
  refine ⟨if h : us.toArray.size = 1 then us.toArray[0] else .tuple us.toArray, ?_, ?_⟩
  · rw [results_eq, Array.mapM_eq_mapM_toList]
    simp only [bind_map_left, Sem.run_bind, h1, Result.andThen_ok]
    rfl
  · match vs, us, h2 with
    | [v], [u], h2 => exact h2.2 0 v u rfl rfl
    | [], [], h2 => exact .tup rfl fun j d u a => by simp at a
    | v :: v' :: vs, u :: u' :: us, h2 =>
      have := h2.arr
      simp only [List.size_toArray, List.length_cons]
      rw [dif_neg (by omega)]
      exact .tup this.1 this.2
    | [v], [], h2 => have := h2.1; simp at this
    | [v], u :: u' :: us, h2 => have := h2.1; simp at this
    | [], u :: us, h2 => have := h2.1; simp at this
    | v :: v' :: vs, [], h2 => have := h2.1; simp at this
    | v :: v' :: vs, [u], h2 => have := h2.1; simp at this

/-- a value that is handed back: what is one's own is given up -/
def V.toDh (s : LS) : V → Option D
  | .ms x off n => match s.blk x with
    | some (.cells cs _) => match Nat.ble (off + n) cs.length && (Nat.ble n 1000000 && ((cs.drop off).take n).all oneV) with
      | true => (V.toD.toDs ((cs.drop off).take n)).map fun ds => .sl 1 (ds.map fun d => [d])
      | false => none
    | _ => none
  | .agg cs => (go s cs).map .agg
  | .tup cs => (go s cs).map .tup
  | v => v.toD
where go (s : LS) : List V → Option (List D)
  | [] => some []
  | v :: vs => match v.toDh s, go s vs with | some y, some ys => some (y :: ys) | _, _ => none
/-- all blocks of a function's own, frozen -/
def fzAll (C : Cx) (w : World) (fz : Fz) : Fz := fun b o => if C.w0.heap.size ≤ b then w.cell? ⟨b, o, none⟩ else fz b o
theorem fzAll_le {C : Cx} {w : World} {fz : Fz} (h : FzOk fz w) : Fz.Le fz (fzAll C w fz) := fun b o u e => by
  unfold fzAll
  split
  · exact h b o u e
  · exact e
theorem fzAll_ok {C : Cx} {w : World} {fz : Fz} (h : FzOk fz w) : FzOk (fzAll C w fz) w := fun b o u e => by
  unfold fzAll at e
  split at e
  · exact e
  · exact h b o u e
theorem RepVs.tail' {β : Bt} {fz : Fz} {v : V} {vs : List V} {us : Array Value} (h : RepVs β fz (v :: vs) us) : ∃ u, us[0]? = some u ∧ RepV β fz v u ∧ RepVs β fz vs (us.extract 1 us.size) := by
  have hs := h.1
  simp only [List.length_cons] at hs
  have h0 : us[0]? = some us[0] := Array.getElem?_eq_getElem (by omega)
  refine ⟨us[0], h0, h.2 0 v _ rfl h0, ⟨by simp; omega, fun j v u a b => h.2 (j + 1) v u (by simpa using a) ?_⟩⟩
  rw [Array.getElem?_extract] at b
  split at b
  · rwa [Nat.add_comm] at b
  · cases b
mutual
theorem toDh_rep {C : Cx} {s : LS} {a : Act} {w : World} {β : Bt} {fz : Fz} (r : RelB C s a w β fz) (hX : ∀ k, ¬ C.X k) : ∀ (x : V) {d : D} {v : Value}, x.toDh s = some d → RepV β fz x v → RepD (fzAll C w fz) d v
  | .ms h off n, d, v, e, hr => by
    simp only [V.toDh] at e
    split at e
    · rename_i cs ty hb
      split at e
      · rename_i hc
        simp only [Bool.and_eq_true] at hc
        have hl := Nat.le_of_ble_eq_true hc.1
        have hn := Nat.le_of_ble_eq_true hc.2.1
        simp only [Option.map_eq_some_iff] at e
        obtain ⟨ds, hd, rfl⟩ := e
        cases hr with
        | @ms _ _ _ b o c hbb hnc ho =>
          obtain ⟨us, k1, k2, _, k4, _⟩ := cells_of (r.hreps h _ hb) hbb
          have hbs : C.w0.heap.size ≤ b := k4.resolve_right (hX b)
          have hrl := ((k2.list.drop off).take n).arr
          obtain ⟨d1, d2⟩ := toDs_rep _ hd hrl
          have hlen : ds.length = n := by
            rw [← d1]; have := hrl.1; rw [this]; simp; omega
          have hget : ∀ i, i < n → ((us.toList.drop off).take n).toArray[i]? = us[off + i]? := fun i hi => by
            rw [List.getElem?_toArray, List.getElem?_take, if_pos hi, List.getElem?_drop, Array.getElem?_toList]
          have hus : us.size = cs.length := k2.1
          have row : ∀ (i j : Nat) (r : List D) (d : D), (ds.map fun d => [d])[i]? = some r → r[j]? = some d → i < n ∧ ds[i]? = some d := fun i j r d a c => by
            rw [List.getElem?_map, Option.map_eq_some_iff] at a
            obtain ⟨d', a, rfl⟩ := a
            have hi := (List.getElem?_eq_some_iff.1 a).1
            match j with
            | 0 => simp at c; subst c; exact ⟨by omega, a⟩
            | j + 1 => simp at c
          refine .sl (fun i _ => us.getD (off + i) default) (by simpa using hlen) hnc (by omega) (fun r' hr => ?_) (fun h0 => ?_) (fun i j r' d a c => ?_) (fun i j r' d a c => ?_)
          · simp only [List.mem_map] at hr
            obtain ⟨d, _, rfl⟩ := hr
            rfl
          · obtain rfl := ho h0
            refine ⟨b, o, rfl, fun i j hi hj => ?_⟩
            obtain rfl : j = 0 := by omega
            have hlt : o + i < us.size := by omega
            simp only [fzAll, if_pos hbs, Nat.mul_one, Nat.add_zero]
            simp [World.cell?, k1, hlt]
          · obtain ⟨hi, hd'⟩ := row i j r' d a c
            have hlt : off + i < us.size := by omega
            have hq : (cs.drop off)[i]? = some cs[off + i] := by rw [List.getElem?_drop]; exact List.getElem?_eq_getElem (by omega)
            have hone := List.all_eq_true.1 hc.2.2 (cs[off + i]) (List.mem_of_getElem? (i := i) (by rw [List.getElem?_take, if_pos hi]; exact hq))
            have := oneV_ok (k2.2 (off + i) _ _ (List.getElem?_eq_getElem (by omega)) (Array.getElem?_eq_getElem hlt)) hone
            simpa [Array.getD, hlt] using this
          · obtain ⟨hi, hd'⟩ := row i j r' d a c
            have hlt : off + i < us.size := by omega
            have := d2 i d (us[off + i]) hd' (by rw [hget i hi]; exact Array.getElem?_eq_getElem hlt)
            have := this.mono (fzAll_le (C := C) r.ok)
            simpa [Array.getD, hlt] using this
      · cases e
    · cases e
  | .agg cs, d, v, e, h => by
    simp only [V.toDh, Option.map_eq_some_iff] at e
    obtain ⟨ds, e, rfl⟩ := e
    cases h with
    | agg hl h =>
      obtain ⟨k1, k2⟩ := toDhs_rep r hX cs e ⟨hl, h⟩
      exact .agg k1 k2
  | .tup cs, d, v, e, h => by
    simp only [V.toDh, Option.map_eq_some_iff] at e
    obtain ⟨ds, e, rfl⟩ := e
    cases h with
    | tup hl h =>
      obtain ⟨k1, k2⟩ := toDhs_rep r hX cs e ⟨hl, h⟩
      exact .tup k1 k2
  | .d x, _, _, e, h => (toD_rep _ (by simpa only [V.toDh] using e) h).mono (fzAll_le r.ok)
  | .p _ _, _, _, e, _ => by simp [V.toDh, V.toD] at e
  | .q _ _ _ _, _, _, e, _ => by simp [V.toDh, V.toD] at e
  | .own x y z, _, _, e, h => (toD_rep _ (by simpa only [V.toDh] using e) h).mono (fzAll_le r.ok)
  | .fn f x y, _, _, e, h => (toD_rep _ (by simpa only [V.toDh] using e) h).mono (fzAll_le r.ok)
  | .h _, _, _, e, _ => by simp [V.toDh, V.toD] at e
  | .u, _, _, e, _ => by simp [V.toDh, V.toD] at e
theorem toDhs_rep {C : Cx} {s : LS} {a : Act} {w : World} {β : Bt} {fz : Fz} (r : RelB C s a w β fz) (hX : ∀ k, ¬ C.X k) : ∀ (xs : List V) {ds : List D} {vs : Array Value}, V.toDh.go s xs = some ds → RepVs β fz xs vs → RepDs (fzAll C w fz) ds vs
  | [], ds, vs, e, h => by
    simp only [V.toDh.go, Option.some.injEq] at e
    subst e
    exact ⟨h.1, fun j d u a => by simp at a⟩
  | x :: xs, ds, vs, e, h => by
    simp only [V.toDh.go] at e
    split at e
    · rename_i d ds' ed eds
      cases e
      obtain ⟨u0, h0, h1, h2⟩ := h.tail'
      have k1 := toDh_rep r hX x ed h1
      have k2 := toDhs_rep r hX xs eds h2
      have hs := h.1
      simp only [List.length_cons] at hs
      have ks := k2.1
      simp only [Array.size_extract] at ks
      refine ⟨by simp only [List.length_cons]; omega, fun j d' u a b => ?_⟩
      cases j with
      | zero => simp at a; subst a; rw [h0] at b; cases b; exact k1
      | succ j =>
        refine k2.2 j d' u (by simpa using a) ?_
        have := (Array.getElem?_eq_some_iff.1 b).1
        rw [Array.getElem?_extract, if_pos (by omega), Nat.add_comm]; exact b
    · cases e
end
def RetD (P : Program) (rs : List ResultVar) (o : LO) (fx : Fx) (s : LS) : Prop := s.dfs = [] ∧ match fx, o with
  | .ret, .ret d => ∃ vs, resL P s rs = some vs ∧ (pack vs).toDh s = some d
  | .pan x, .pan d => x = d
  | _, _ => False
def envD : Nat → List D → List (Nat × V)
  | _, [] => []
  | k, d :: ds => (k, .d d) :: envD (k + 1) ds
theorem lk_envD : ∀ (ds : List D) (k n : Nat) (v : V), lk (envD k ds) n = some v → ∃ d, ds[n - k]? = some d ∧ v = .d d ∧ k ≤ n
  | [], k, n, v, h => by cases h
  | d :: ds, k, n, v, h => by
    simp only [envD, lk] at h
    split at h
    · rename_i e
      cases h
      subst e
      exact ⟨d, by simp, rfl, Nat.le_refl _⟩
    · rename_i e
      obtain ⟨d', h1, h2, h3⟩ := lk_envD ds (k + 1) n v h
      refine ⟨d', ?_, h2, by omega⟩
      rw [show n - k = (n - (k + 1)) + 1 by omega]
      simpa using h1
/-- a function's contract by its body -/
theorem SpecP.of_gx {P : Program} {f : FuncId} {fn : Func} {c : Code} {args : List D} {o : LO} (hmx : P.follows .mixedOrders = true) (hf : P.funcs[f]? = some fn) (hb : fn.body = some c) (hn : args.length ≤ fn.ntmps)
    (h : ∀ F : Fx → LS → Prop, (∀ fx s, RetD P fn.results.toList o fx s → F fx s) → gx ⟨P, fn.ntmps, 0, xo P, F⟩ [.code c] ⟨envD 0 args, [], 0, [], []⟩) : SpecP P f args o := by
  intro fz w us hok hr
  refine calls_of_wp hf hb ?_
  let X : Cx := ⟨P, w, fun _ => none, fz, fun _ => False, 0, fn.ntmps, fun _ _ e => by cases e⟩
  have hrel : Rel X ⟨envD 0 args, [], 0, [], []⟩ { tmps := us ++ Array.replicate (fn.ntmps - us.size) undef, defers := [] } w := by
    refine ⟨fun _ => none, fz, rfl, rfl, rfl, Nat.le_refl _, (fun _ _ _ => rfl), Bt.Le.refl _, (fun _ _ => rfl), Fz.Le.refl _, (fun _ _ _ _ => rfl), hok, (fun _ _ => ⟨rfl, Nat.zero_le _⟩), (fun h blk hb => by cases hb), (fun h h' y y' k ⟨b, hb⟩ => by cases hb), (fun d v hv => ?_), ?_, .inl ⟨rfl, fun j x d a => by simp at a⟩⟩
    · obtain ⟨x, h1, rfl, _⟩ := lk_envD args 0 d v hv
      have hlt : d < us.size := by rw [hr.1]; exact (List.getElem?_eq_some_iff.1 h1).1
      refine ⟨us[d], ?_, .d (hr.2 d x _ (by simpa using h1) (Array.getElem?_eq_getElem hlt))⟩
      rw [Array.getElem?_append_left hlt, Array.getElem?_eq_getElem hlt]
    · have := hr.1
      show (us ++ Array.replicate (fn.ntmps - us.size) undef).size = fn.ntmps
      simp; omega
  have hs := gx_sound hmx X rfl rfl rfl _ [.code c] _ (Nat.le_refl _) ⟨trivial, fun y hy => by cases hy⟩ (h (RetD P fn.results.toList o) fun _ _ h => h) _ w hrel
  refine wp_mono (show c.wp P (sem X (RetD P fn.results.toList o) []) _ w from hs) fun e a' w' he => ?_
  have below : ∀ {s β fz'}, RelB X s a' w' β fz' → Below w.heap.size w w' ∧ Fz.Le fz fz' ∧ (∀ b, b < w.heap.size → ∀ o, fz' b o = fz b o) ∧ FzOk fz' w' := fun r =>
    ⟨⟨r.os, r.tape, r.output, r.size, fun k hk => r.frame k hk fun h => h⟩, r.fle, fun b hb o => r.ffr b hb (fun h => h) o, r.ok⟩
  have belowA : ∀ {s a' w' β fz'}, RelB X s a' w' β fz' → Below w.heap.size w w' ∧ Fz.Le fz (fzAll X w' fz') ∧ (∀ b, b < w.heap.size → ∀ o, fzAll X w' fz' b o = fz b o) ∧ FzOk (fzAll X w' fz') w' := fun r =>
    ⟨⟨r.os, r.tape, r.output, r.size, fun k hk => r.frame k hk fun h => h⟩, r.fle.trans (fzAll_le r.ok), fun b hb o => by
      unfold fzAll
      rw [if_neg (Nat.not_le.2 hb)]
      exact r.ffr b hb (fun h => h) o, fzAll_ok r.ok⟩
  have nodef : ∀ {s β fz'}, RelB X s a' w' β fz' → s.dfs = [] → a'.defers = [] := fun {s β fz'} r hd => r.dfs.nil hd
  have ret : (∃ s, RetD P fn.results.toList o .ret s ∧ Rel X s a' w') → bodyPost P fn (fun e w' => ∃ fz' u, Below w.heap.size w w' ∧ Fz.Le fz fz' ∧ (∀ b, b < w.heap.size → ∀ o, fz' b o = fz b o) ∧ FzOk fz' w' ∧ o.is fz' u e) .ret a' w' := fun ⟨s, ⟨hd, hs⟩, β, fz', r⟩ => by
    cases o with
    | pan d => exact hs.elim
    | ret d =>
      obtain ⟨vs, h1, h2⟩ := hs
      obtain ⟨u, h3, h4⟩ := results_ok r h1
      obtain ⟨k1, k2, k3, k4⟩ := belowA r
      exact ⟨nodef r hd, u, h3, fzAll X w' fz', u, k1, k2, k3, k4, rfl, toDh_rep r (fun _ h => h) _ h2 h4⟩
  cases e with
  | normal => exact ret he
  | ret => exact ret he
  | panic ch =>
    obtain ⟨s, x, v, β, fz', ⟨hd, hs⟩, rfl, r, hv⟩ := he
    cases o with
    | ret d => exact hs.elim
    | pan d =>
      obtain rfl : x = d := hs
      obtain ⟨k1, k2, k3, k4⟩ := below r
      exact ⟨nodef r hd, fz', v, k1, k2, k3, k4, rfl, hv⟩
  | exit id => exact he.elim
  | goto l => exact he.elim
  | outgrown => exact he.elim

/-! ### calls -/
def Enters (P : Program) (g : FuncId) : Prop := ∀ (args : Array Value) (w : World), (callFunc g args).run P w = .ok (.enter g args) w
theorem RepL.ofD {β : Bt} {fz : Fz} {ds : List D} {us : Array Value} (hl : us.size = ds.length) (h : ∀ (j : Nat) (d : D) (u : Value), ds[j]? = some d → us[j]? = some u → RepD fz d u) : RepL β fz (ds.map .d) us.toList :=
  ⟨by simpa using hl, fun j d u h1 h2 => by
    rw [List.getElem?_map, Option.map_eq_some_iff] at h1
    obtain ⟨x, h1, rfl⟩ := h1
    exact .d (h j x u h1 (by simpa using h2))⟩
theorem calleeV_ok {β : Bt} {fz : Fz} {v : V} {g : FuncId} {a c : List V} {u : Value} (h : RepV β fz v u) (hc : calleeV v = some (g, a, c)) : ∃ ua uc, u = .func (.func g) ua uc ∧ RepL β fz a ua.toList ∧ RepL β fz c uc.toList := by
  cases v with
  | d x =>
    cases x with
    | fn f ad cd =>
      cases f <;> simp only [calleeV, Option.some.injEq, Prod.mk.injEq, reduceCtorEq] at hc
      obtain ⟨rfl, rfl, rfl⟩ := hc
      cases h with
      | d h =>
        cases h with
        | @fn _ _ _ va vc hla ha hlc hc => exact ⟨va, vc, rfl, RepL.ofD hla ha, RepL.ofD hlc hc⟩
    | _ => cases hc
  | fn f ad cd =>
    cases f <;> simp only [calleeV, Option.some.injEq, Prod.mk.injEq, reduceCtorEq] at hc
    obtain ⟨rfl, rfl, rfl⟩ := hc
    cases h with
    | @fn _ _ _ va vc hla ha hlc hc => exact ⟨va, vc, rfl, RepVs.list ⟨hla, ha⟩, RepVs.list ⟨hlc, hc⟩⟩
  | _ => cases hc
/-- called with such values, with such blocks of one's own -/
def SpecH (P : Program) (f : FuncId) (args : List V) (rd hp : List (Nat × Blk)) (news : List Nat) (out : List (Nat × Blk)) (r : V) : Prop := ∀ (β : Bt) (fz : Fz) (own : Nat → Prop) (w : World) (us : Array Value), FzOk fz w → (∀ k, w.heap.size ≤ k → own k) →
  (∀ x ∈ rd, HRep β fz w own x.1 x.2) → (∀ x ∈ hp, HRep β fz w own x.1 x.2) → InjOn β (fun h => (∃ x ∈ hp, x.1 = h) ∨ ∃ x ∈ rd, x.1 = h) → (∀ h ∈ news, β h = none) → RepVs β fz args us →
  Calls P f us w fun e w' => ∃ u β' fz', Post β fz w own hp news out r u β' fz' w' ∧ e = .returned u
theorem SpecP.toH {P : Program} {f : FuncId} {args : List V} {ds : List D} {r : D} (h : SpecP P f ds (.ret r)) (hd : V.toD.toDs args = some ds) : SpecH P f args [] [] [] [] (.d r) := by
  intro β fz own w us hok hown _ _ _ _ hr
  refine (h fz w us hok (toDs_rep args hd hr)).mono fun e w' ⟨fz', u, hB, k1, k2, k3, k4, k5⟩ => ⟨u, β, fz', ?_, k4⟩
  exact {
    ble := Bt.Le.refl _
    bnew := fun _ _ => rfl
    fle := k1
    ffr := fun b hb _ => k2 b hb
    ok := k3
    os := hB.os
    tape := hB.tape
    output := hB.output
    size := hB.size
    frame := fun b hb _ => hB.block b hb
    hreps := fun x hx => by cases hx
    blks := fun x hx => by cases hx
    inj := fun h h' y y' k ⟨x, hx, _⟩ => by cases hx
    v := .d k5 }
theorem stepCall {P : Program} {nt : Nat} {s : LS} {o : Oper} {r : V} {g : FuncId} {args vals : List V} {rd hp out : List (Nat × Blk)} {news : List Nat}
    (hc : CallOK P s o g args vals) (hg : Enters P g) (hsp : SpecH P g args rd hp news out r) (hrd : ∀ x ∈ rd, s.blk x.1 = some x.2) (hhp : ∀ x ∈ hp, s.blk x.1 = some x.2) (hnews : ∀ h ∈ news, s.free h)
    (houts : ∀ x ∈ out, x.1 ∈ news ∨ ∃ z ∈ hp, z.1 = x.1) (hd : dlt o.dst nt = true) : StepOK P nt s o ⟨vals, rd, hp, news, out, r⟩ := by
  obtain ⟨v1, v2, v3⟩ := hc
  refine ⟨?_, v1, v2, hrd, hhp, hnews, houts, dlt_ok hd⟩
  intro β fz own ac w hok hown h1 h2 hinj hnew _ hv next Q hn
  obtain ⟨us, hrun, hall⟩ := v3 β fz ac w hv
  unfold Oper.wp
  rw [hrun, hg us w, Oper.upon_enter]
  refine (hsp β fz own w _ hok hown h1 h2 hinj hnew hall).mono fun e w' ⟨u, β', fz', hp, he⟩ => ?_
  subst he
  exact hn u β' fz' w' hp
end Go.Lm
