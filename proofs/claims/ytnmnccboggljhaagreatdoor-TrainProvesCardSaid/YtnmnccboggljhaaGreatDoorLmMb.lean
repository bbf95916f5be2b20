/- The logical machine: strings that are ranged over; interfaces and nil; panics; arrays that become slices; methods; what is called. -/
import Derived.Test.YtnmnccboggljhaaGreatDoorLmMa
import GoSem.Extern.Table
set_option linter.constructorNameAsVariable false
namespace Go.Lm
open Go Go.RowKit
section
variable {P : Program} {s : LS} {new : Nat} {dst : Option Tmp} {type : TypeId} {pos : String} {after : Array Edge} {guard : Option (Nat × Bool)}
/-! ### range over a string -/
theorem ok_range {t : TypeId} {x : Operand} {l : List UInt8} (hx : s.ev x = some (.d (.s l))) (ht : isStrT P t = true) :
    Ok P s new ⟨dst, .range t x, type, pos, after, guard⟩ ⟨[.d (.s l)], [], [], [new], [(new, .iter l 0)], .p new 0⟩ := by
  refine ok_new (vals1 rfl hx) fun β fz a w hok hβ hv => ?_
  have h1 := (hv 0 x _ rfl rfl).str
  refine ⟨.pointer (some ⟨w.heap.size, 0, none⟩), .pointer (some ⟨w.heap.size, 0, none⟩), .stringIter ⟨l.toArray⟩ 0, rfl, ?_, ⟨w.heap.size, rfl, heap_alloc_new w _, fun o => hok.new _ o (Nat.le_refl _)⟩, .p (upd_same _ _ _)⟩
  refine run_val (sv := Instr.range t (a.eval x)) rfl ?_
  rw [h1]
  unfold Instr.range
  simp only [Sem.run_bind, run_underlying (isStr_ok ht), Result.andThen_ok, Sem.run_pure]
  rfl
def nextV (l : List UInt8) (pos : Nat) : V := match Nat.blt pos l.length with
  | true => .d (.tup [.b true, .k .i64 pos, .k .i32 (Utf8.decode ⟨l.toArray⟩ pos).1])
  | false => .d (.tup [.b false])
def nextP (l : List UInt8) (pos : Nat) : Nat := match Nat.blt pos l.length with
  | true => pos + (Utf8.decode ⟨l.toArray⟩ pos).2
  | false => pos
theorem ok_next {x : Operand} {h pos0 : Nat} {l : List UInt8} (hx : s.ev x = some (.p h 0)) (hb : s.blk h = some (.iter l pos0)) :
    Ok P s new ⟨dst, .next x true, type, pos, after, guard⟩ ⟨[.p h 0], [], [(h, .iter l pos0)], [], [(h, .iter l (nextP l pos0))], nextV l pos0⟩ := by
  obtain ⟨v1, v2⟩ := vals1 (ops := (Op.next x true).operands) rfl hx
  refine ⟨?_, v1, v2, (fun x hx => by cases hx), (fun x hx => by simp at hx; subst hx; exact hb), (fun x hx => by cases hx), (fun x hx => .inr ⟨_, List.mem_singleton.2 rfl, by simp at hx; subst hx; rfl⟩)⟩
  intro β fz own ac w hok hown _ hhp _ _ _ hv next Q hnn
  have hh := hhp _ (List.mem_singleton.2 rfl)
  have h1 := hv 0 x _ rfl rfl
  generalize hu : ac.eval x = u at h1
  cases h1 with
  | @p _ _ b hbb =>
    obtain ⟨y, q1, q2, b', rfl, q3, q4⟩ := hh
    simp only at q1
    rw [hbb] at q1; cases q1
    obtain ⟨hob, hlt⟩ := q2 b rfl
    have hg : (getObj b).run P w = .ok (.stringIter ⟨l.toArray⟩ pos0) w := by simp [getObj, Sem.run, q3]
    have hs : ∀ o', (setObj b o').run P w = .ok () (putO w b o') := fun o' => by simp [setObj, Sem.run, q3, putO]
    have hsz : (ByteArray.mk l.toArray).size = l.length := rfl
    have fin : ∀ (p : Nat) (v : V) (u : Value) (w' : World), w' = putO w b (.stringIter ⟨l.toArray⟩ p) → (Instr.next (ac.eval x) true type).run P w = .ok u w' → RepV β fz v u → p = nextP l pos0 → v = nextV l pos0 → Oper.wp P ⟨dst, .next x true, type, pos, after, guard⟩ ac w next Q := fun p v u w' hw hrun hr hp hv' => by
      subst hw; subst hp; subst hv'
      unfold Oper.wp
      rw [run_val (sv := Instr.next (ac.eval x) true type) rfl hrun, Oper.upon_value]
      have hB : HB β fz (putO w b (.stringIter ⟨l.toArray⟩ (nextP l pos0))) (.pointer (some ⟨b, 0, none⟩)) (.iter l (nextP l pos0)) := ⟨b, rfl, putO_same hlt, q4⟩
      exact hnn _ _ _ _ (Post.put hok hbb rfl ⟨hob, hlt⟩ q4 hB hr)
    by_cases hp : pos0 < l.length
    · have hpb : Nat.blt pos0 l.length = true := by rw [Nat.blt_eq]; exact hp
      refine fin (pos0 + (Utf8.decode ⟨l.toArray⟩ pos0).2) (.d (.tup [.b true, .k .i64 pos0, .k .i32 (Utf8.decode ⟨l.toArray⟩ pos0).1])) (.tuple #[.bool true, goInt pos0, .int .i32 (Utf8.decode ⟨l.toArray⟩ pos0).1]) _ rfl ?_ (.d (.tup rfl fun j d u a b => ?_)) (by simp only [nextP, hpb]) (by simp only [nextV, hpb])
      · rw [hu]
        unfold Instr.next
        simp only [Sem.run_bind, hg, Result.andThen_ok, hsz, if_pos hp, hs, Sem.run_pure]
      · match j with
        | 0 => simp at a b; subst a; subst b; exact .b _
        | 1 => simp at a b; subst a; subst b; exact .k _ _
        | 2 => simp at a b; subst a; subst b; exact .k _ _
        | j + 3 => simp at a
    · have hpb : Nat.blt pos0 l.length = false := by
        cases hq : Nat.blt pos0 l.length with
        | false => rfl
        | true => rw [Nat.blt_eq] at hq; exact absurd hq hp
      have hw : putO w b (.stringIter ⟨l.toArray⟩ pos0) = w := by
        unfold putO
        have : w.heap.setIfInBounds b (.stringIter ⟨l.toArray⟩ pos0) = w.heap := by
          apply Array.ext_getElem?
          intro i
          by_cases hi : i = b
          · subst hi; rw [q3]; simp [hlt]
          · rw [Array.getElem?_setIfInBounds_ne (Ne.symm hi)]
        rw [this]
      refine fin pos0 (.d (.tup [.b false])) (.tuple #[.bool false]) w hw.symm ?_ (.d (.tup rfl fun j d u a b => ?_)) (by simp only [nextP, hpb]) (by simp only [nextV, hpb])
      · rw [hu]
        unfold Instr.next
        simp only [Sem.run_bind, hg, Result.andThen_ok, hsz, if_neg hp, Sem.run_pure]
      · match j with
        | 0 => simp at a b; subst a; subst b; exact .b _
        | j + 1 => simp at a

/-! ### an interface value against nil -/
def ifcNil : V → Option Bool
  | .d (.ifc _ _) => some false
  | .d (.raw .nilIface) => some true
  | _ => none
theorem ok_ifcNil {t yt : TypeId} {x : Operand} {v : V} {p : Bool} (hx : s.ev x = some v) (hp : ifcNil v = some p) (ht : isIfcT P t = some true) :
    Ok P s new ⟨dst, .binOp .eql t x (.const .nilIface) yt, type, pos, after, guard⟩ (pu [v, .d (.raw .nilIface)] (.d (.b p))) :=
  Ok.pure (vals2 rfl hx (show s.ev (.const .nilIface) = some (.d (.raw .nilIface)) from rfl)) fun β fz ac w hv => by
    have h1 := hv 0 x _ rfl rfl
    generalize hu : ac.eval x = u at h1
    unfold isIfcT at ht
    simp only [Option.map_eq_some_iff] at ht
    obtain ⟨de, k1, k2⟩ := ht
    refine ⟨.bool p, run_bin (y := .const .nilIface) (f := ac.eval) ?_ ?_, .bb _ _ _⟩
    · rw [hu]
      show (eqGuard .eql t x (.const .nilIface) u .nilIface).run P w = .ok () w
      unfold eqGuard
      unfold ifcNil at hp
      split at hp
      · cases h1 with
        | d h1 => cases h1; rfl
      · cases h1 with
        | d h1 =>
          cases h1
          cases x <;> rfl
      · cases hp
    · rw [hu]
      show (binOp .eql t u .nilIface).run P w = .ok (.bool p) w
      have he : (Op.equal t u .nilIface).run P w = .ok p w := by
        unfold Op.equal Op.maxDepth Op.equalIn
        simp only [Sem.run_bind, run_underlying k1, Result.andThen_ok]
        unfold ifcNil at hp
        split at hp
        · cases hp
          cases h1 with
          | d h1 =>
            cases h1
            cases de <;> first | rfl | cases k2
        · cases hp
          cases h1 with
          | d h1 =>
            cases h1
            cases de <;> first | rfl | cases k2
        · cases hp
      have : binOp .eql t u .nilIface = (do pure (Value.bool (← Op.equal t u .nilIface)) : Sem Value) := by
        unfold ifcNil at hp
        split at hp
        · cases h1 with
          | d h1 => cases h1; rfl
        · cases h1 with
          | d h1 => cases h1; rfl
        · cases hp
      rw [this]
      simp only [Sem.run_bind, he, Result.andThen_ok]
      rfl

/-! ### an array of one's own becomes a slice that is read -/
theorem ok_sliceArr {t : TypeId} {x : Operand} {h n sz : Nat} {cs : List V} {ds : List D} {e : TypeId} (hx : s.ev x = some (.p h 0)) (hb : s.blk h = some (.cells cs e)) (ht : ael P t = some (n, sz)) (hl : cs.length = n * sz) (hn : n ≤ 1000000)
    (hd : V.toD.toDs cs = some ds) (ho : cs.all oneV = true) :
    Ok P s new ⟨dst, .slice t x none none none, type, pos, after, guard⟩ ⟨[.p h 0], [], [(h, .cells cs e)], [], [], .d (.sl sz (chunks sz n ds))⟩ := by
  obtain ⟨v1, v2⟩ := vals1 (ops := (Op.slice t x none none none).operands) rfl hx
  refine ⟨?_, v1, v2, (fun x hx => by cases hx), (fun x hx => by simp at hx; subst hx; exact hb), (fun x hx => by cases hx), (fun x hx => by cases hx)⟩
  intro β fz own ac w hok hown _ hhp _ _ _ hv next Q hnn
  have hh := hhp _ (List.mem_singleton.2 rfl)
  have h1 := hv 0 x _ rfl rfl
  generalize hu : ac.eval x = u at h1
  cases h1 with
  | @p _ _ b hbb =>
    obtain ⟨us, k1, k2, k3, k4, k5⟩ := cells_of hh hbb
    have hrun : (Instr.sliceAt t (ac.eval x) none none none).run P w = .ok (.slice (some ⟨b, 0, none⟩) n n) w := by
      rw [hu]
      unfold ael at ht
      split at ht
      · rename_i m el hue
        simp only [Option.map_eq_some_iff, Prod.mk.injEq] at ht
        obtain ⟨z, hz, rfl, rfl⟩ := ht
        unfold Instr.sliceAt
        simp only [Sem.run_bind, run_underlying hue, Result.andThen_ok]
        have hb : (Instr.sliceBounds false m m none none none).run P w = .ok (0, m, m) w := rfl
        have ha : (Instr.sureAddr (.pointer (some ⟨b, 0, none⟩))).run P w = .ok ⟨b, 0, none⟩ w := rfl
        simp only [Sem.run_bind, ha, hb, Result.andThen_ok, run_sizeOf' hz, Sem.run_pure, Nat.zero_mul, Nat.sub_zero, add_off, Nat.zero_add, ite_self]
      · cases ht
    let fz' : Fz := fun k o => if k = b then (if o < us.size then us[o]? else none) else fz k o
    have hle : Fz.Le fz fz' := fun k o u e => by
      simp only [fz']
      rw [if_neg (fun e' => by rw [e', k3] at e; cases e)]
      exact e
    obtain ⟨d1, d2⟩ := toDs_rep cs hd k2
    have hsz : us.size = n * sz := by rw [k2.1, hl]
    have hc : CellsOf fz sz (chunks sz n ds) us.toList := CellsOf.chunks (by rw [← d1]; exact hsz) (by simpa using d1) fun j d u a b => ⟨d2 j d u a (by simpa using b), by
      have hj : j < cs.length := by rw [← k2.1, d1]; exact (List.getElem?_eq_some_iff.1 a).1
      exact oneV_ok (k2.2 j _ u (List.getElem?_eq_getElem hj) (by simpa using b)) (List.all_eq_true.1 ho _ (List.getElem_mem hj))⟩
    have hrep : RepD fz' (.sl sz (chunks sz n ds)) (.slice (some ⟨b, 0, none⟩) n n) := by
      refine .sl (fun i j => us.getD (i * sz + j) default) (chunks_length ..) (Nat.le_refl _) (by omega) hc.1 (fun _ => ⟨b, 0, rfl, fun i j hi hj => ?_⟩) (fun i j r d a c => ?_) (fun i j r d a c => ?_)
      · have hlt := row_lt hi hj
        simp only [fz', if_true, Nat.zero_add]
        rw [if_pos (by omega), Array.getElem?_eq_getElem (by omega)]
        simp [Array.getD, show i * sz + j < us.size by omega]
      · obtain ⟨u, q1, q2, q3⟩ := hc.2.2 i j r d a c
        have : us.getD (i * sz + j) default = u := by
          rw [Array.getElem?_toList] at q1
          simp [Array.getD_eq_getD_getElem?, q1]
        rw [this]; exact q3
      · obtain ⟨u, q1, q2, q3⟩ := hc.2.2 i j r d a c
        have : us.getD (i * sz + j) default = u := by
          rw [Array.getElem?_toList] at q1
          simp [Array.getD_eq_getD_getElem?, q1]
        rw [this]; exact q2.mono hle
    unfold Oper.wp
    rw [run_val (sv := Instr.sliceAt t (ac.eval x) none none none) rfl hrun, Oper.upon_value]
    refine hnn _ β fz' w {
      ble := Bt.Le.refl _
      bnew := fun _ _ => rfl
      fle := hle
      ffr := fun k hk hn o => by
        simp only [fz']
        rw [if_neg fun e => hn ⟨_, List.mem_singleton.2 rfl, _, hbb, by rw [e]; rfl⟩]
      ok := fun k o u e => by
        simp only [fz'] at e
        split at e
        · rename_i hk
          subst hk
          split at e
          · simp [World.cell?, k1, e]
          · cases e
        · exact hok k o u e
      os := rfl
      tape := rfl
      output := rfl
      size := Nat.le_refl _
      frame := fun _ _ _ => rfl
      hreps := fun x hx => by cases hx
      blks := fun x hx => by cases hx
      inj := fun h h' y y' k ⟨x, hx, _⟩ => by cases hx
      v := .d hrep }

/-! ### what is called -/
/-! ### copy -/
/-- what is copied into block h -/
def srcC (s : LS) (h : Nat) : V → Option (List (Nat × Blk) × List V)
  | .ms h2 off n => match s.blk h2 with
    | some (.cells cs e) => if off + n ≤ cs.length then some (if h2 = h then [] else [(h2, .cells cs e)], (cs.drop off).take n) else none
    | _ => none
  | v => match rowsV v with
    | some (1, rows) => some ([], rows.flatten.map .d)
    | _ => none
/-- a slice of cells of one word each, to be read from the front -/
def Front (P : Program) (β : Bt) (fz : Fz) (w : World) (xs : List V) (u : Value) : Prop := ∃ us : List Value, RepL β fz xs us ∧ (Builtin.lenOf u).run P w = .ok xs.length w ∧ ∀ k, k ≤ xs.length → (Builtin.firstCells 1 k u).run P w = .ok (us.take k).toArray w
theorem flat_one {rows : List (List D)} (h : ∀ r ∈ rows, r.length = 1) : rows.flatten.length = rows.length ∧ ∀ (j : Nat) (d : D), rows.flatten[j]? = some d → ∃ r, rows[j]? = some r ∧ r[0]? = some d := by
  induction rows with
  | nil => exact ⟨rfl, fun j d e => by simp at e⟩
  | cons r rows ih =>
    obtain ⟨h1, h2⟩ := ih fun r hr => h r (List.mem_cons_of_mem _ hr)
    have hr := h r List.mem_cons_self
    match r, hr with
    | [d0], _ =>
      refine ⟨by simp [h1], fun j d e => ?_⟩
      cases j with
      | zero => simp at e; subst e; exact ⟨[d0], rfl, rfl⟩
      | succ j => exact h2 j d (by simpa using e)
theorem front_rows {β : Bt} {fz : Fz} {w : World} {rows : List (List D)} {u : Value} (hok : FzOk fz w) (hr : RepD fz (.sl 1 rows) u) : Front P β fz w (rows.flatten.map .d) u := by
  obtain ⟨A, m, c, xs, rfl, hm, hc, _, h0, hcell⟩ := src_cells hok hr (by omega)
  obtain ⟨f1, f2⟩ := flat_one hc.1
  have hlen : xs.length = rows.length := by rw [hc.2.1, Nat.mul_one]
  refine ⟨xs, ⟨by rw [List.length_map, f1, hlen], fun j d u h1 h2 => ?_⟩, by rw [List.length_map, f1, ← hm]; rfl, fun k hk => ?_⟩
  · rw [List.getElem?_map, Option.map_eq_some_iff] at h1
    obtain ⟨d', h1, rfl⟩ := h1
    obtain ⟨r, h3, h4⟩ := f2 j d' h1
    obtain ⟨u', q1, q2, _⟩ := hc.2.2 j 0 r d' h3 h4
    simp only [Nat.mul_one, Nat.add_zero] at q1
    rw [h2] at q1; cases q1
    exact .d q2
  · simp only [List.length_map, f1] at hk
    cases A with
    | none =>
      have : xs = [] := h0 (by
        cases hr with
        | sl g hn hcc hmm hsz hA ho hg =>
          refine Decidable.byContradiction fun hne => ?_
          obtain ⟨b, off, e, _⟩ := hA (by omega)
          cases e)
      subst this
      simp [Builtin.firstCells]
    | some ad =>
      simp only [Builtin.firstCells, Nat.mul_one]
      have := run_loadCells_list (P := P) (w := w) ad (xs.take k) fun j v hj => by
        rw [List.getElem?_take] at hj
        split at hj
        · exact hcell ad rfl j v hj
        · cases hj
      rw [List.length_take, Nat.min_eq_left (by omega)] at this
      exact this
theorem front_ms {β : Bt} {fz : Fz} {w : World} {own : Nat → Prop} {h off n : Nat} {cs : List V} {e : TypeId} {u : Value} (hh : HRep β fz w own h (.cells cs e)) (hu : RepV β fz (.ms h off n) u) (hl : off + n ≤ cs.length) : Front P β fz w ((cs.drop off).take n) u := by
  cases hu with
  | @ms _ _ _ b o c hb hnc ho =>
    obtain ⟨us, k1, k2, _, _, k3⟩ := cells_of hh hb
    have hr := (k2.list.drop off).take n
    have hlen : ((cs.drop off).take n).length = n := by simp; omega
    have hlen2 : ((us.toList.drop off).take n).length = n := by rw [hr.1, hlen]
    refine ⟨(us.toList.drop off).take n, hr, by rw [hlen]; rfl, fun k hk => ?_⟩
    rw [hlen] at hk
    simp only [Builtin.firstCells, Nat.mul_one]
    have := run_loadCells_list (P := P) (w := w) ⟨b, o, none⟩ (((us.toList.drop off).take n).take k) fun j v hj => by
      rw [List.getElem?_take] at hj
      split at hj
      · rename_i hjk
        obtain rfl := ho (by omega)
        rw [List.getElem?_take] at hj
        split at hj
        · rw [List.getElem?_drop] at hj
          rw [add_off, show w.cell? ⟨b, o + j, none⟩ = us[o + j]? by simp [World.cell?, k1]]
          simpa using hj
        · cases hj
      · cases hj
    rw [List.length_take, hlen2, Nat.min_eq_left hk] at this
    exact this
theorem ok_copy {t t' : TypeId} {x y : Operand} {h off n : Nat} {cs xs : List V} {e : TypeId} {vy : V} {rd : List (Nat × Blk)} (hx : s.ev x = some (.ms h off n)) (hy : s.ev y = some vy) (ht : sel P t = some 1) (hb : s.blk h = some (.cells cs e)) (hs : srcC s h vy = some (rd, xs)) (hl : off + n ≤ cs.length) (ho : xs.all oneV = true) :
    Ok P s new ⟨dst, .call { callee := .builtin .copy, args := #[x, y], argTypes := #[t, t'] }, type, pos, after, guard⟩ ⟨[.ms h off n, vy], rd, [(h, .cells cs e)], [], [(h, .cells (cs.take off ++ xs.take n ++ cs.drop (off + min xs.length n)) e)], .d (.k .i64 ((min xs.length n : Nat) : Int))⟩ := by
  obtain ⟨v1, v2⟩ := vals2 (ops := (Op.call { callee := .builtin .copy, args := #[x, y], argTypes := #[t, t'] }).operands) (by simp [Op.operands, Call.operands]) hx hy
  have hrd : ∀ z ∈ rd, s.blk z.1 = some z.2 := fun z hz => by
    unfold srcC at hs
    split at hs
    · split at hs
      · rename_i hb2
        split at hs
        · simp only [Option.some.injEq, Prod.mk.injEq] at hs
          obtain ⟨hs, _⟩ := hs
          subst hs
          split at hz
          · cases hz
          · simp only [List.mem_singleton] at hz
            subst hz
            exact hb2
        · cases hs
      · cases hs
    · split at hs
      · cases hs; cases hz
      · cases hs
  refine ⟨?_, v1, v2, hrd, (fun x hx => by simp at hx; subst hx; exact hb), (fun x hx => by cases hx), (fun x hx => .inr ⟨_, List.mem_singleton.2 rfl, by simp at hx; subst hx; rfl⟩)⟩
  intro β fz own a w hok hown hrds hhp hinj0 hnew0 hlen0 hv next Q hnn
  simp only at hrds hhp
  have h1 := hv 0 x _ (by simp [Op.operands, Call.operands]) rfl
  have h2 := hv 1 y _ (by simp [Op.operands, Call.operands]) rfl
  have hh := hhp _ (List.mem_singleton.2 rfl)
  have hfr : Front P β fz w xs (a.eval y) := by
    unfold srcC at hs
    split at hs
    · rename_i h2' off2 n2
      split at hs
      · rename_i cs2 e2 hb2
        split at hs
        · rename_i hl2
          simp only [Option.some.injEq, Prod.mk.injEq] at hs
          obtain ⟨hs1, rfl⟩ := hs
          by_cases he : h2' = h
          · subst he
            rw [hb] at hb2; cases hb2
            exact front_ms hh h2 hl2
          · rw [if_neg he] at hs1
            subst hs1
            exact front_ms (hrds _ (List.mem_singleton.2 rfl)) h2 hl2
        · cases hs
      · cases hs
    · split at hs
      · rename_i rows hr
        cases hs
        exact front_rows hok (rowsV_ok h2 hr)
      · cases hs
  obtain ⟨us2, f1, f2, f3⟩ := hfr
  generalize hu : a.eval x = u at h1
  cases h1 with
  | @ms _ _ _ b o c hbb hnc hoo =>
    obtain ⟨us, k1, k2, k4, k5, k3⟩ := cells_of hh hbb
    have hk : min xs.length n ≤ xs.length := Nat.min_le_left _ _
    have hone : ∀ v ∈ us2.take (min xs.length n), v.oneCell' = true := fun v hv => by
      obtain ⟨j, hj, rfl⟩ := List.getElem_of_mem hv
      have hj2 : j < us2.length := by simp at hj; omega
      have hjx : j < xs.length := by rw [← f1.1]; exact hj2
      have := f1.2 j xs[j] us2[j] (List.getElem?_eq_getElem hjx) (List.getElem?_eq_getElem hj2)
      simp only [List.getElem_take]
      exact oneV_ok this (List.all_eq_true.1 ho _ (List.getElem_mem hjx))
    have hlen : (us2.take (min xs.length n)).length = min xs.length n := by rw [List.length_take, f1.1]; omega
    have hst := run_storeCells_at P b off e (us2.take (min xs.length n)) 0 us w k1 (by have := k2.1; rw [hlen]; simp; omega) hone
    simp only [Nat.add_zero] at hst
    have hst' : (storeCells ⟨b, o, none⟩ (us2.take (min xs.length n))).run P w = .ok () (w.setRow b (us.toList.take off ++ us2.take (min xs.length n) ++ us.toList.drop (off + (us2.take (min xs.length n)).length)).toArray) := by
      by_cases h0 : min xs.length n = 0
      · rw [h0] at hst ⊢
        exact hst
      · obtain rfl := hoo (by omega)
        exact hst
    have hrun : (Builtin.copy_ #[t, t'] type #[.slice (some ⟨b, o, none⟩) n c, a.eval y]).run P w = .ok (goInt (min xs.length n : Nat)) (w.setRow b (us.toList.take off ++ us2.take (min xs.length n) ++ us.toList.drop (off + (us2.take (min xs.length n)).length)).toArray) := by
      obtain ⟨el, he⟩ := sel_slice (show (sel P t).isSome = true by rw [ht]; rfl)
      have hsz : (sizeOf el).run P w = .ok 1 w := by
        refine run_sizeOf' ?_ w
        unfold sel at ht
        rw [he] at ht
        exact ht
      have hmin : Nat.min xs.length n = min xs.length n := rfl
      unfold Builtin.copy_
      simp only [List.getElem?_toArray, List.getElem?_cons_zero, List.getElem?_cons_succ, Sem.run_bind, run_underlying he, Result.andThen_ok, f2, hsz, hmin, f3 _ hk, hst', Sem.run_pure]
    unfold Oper.wp
    rw [run_builtin (sv := Builtin.copy_ #[t, t'] type #[a.eval x, a.eval y]) (fun _ => by simp; rfl) (by rw [hu]; exact hrun), Oper.upon_value]
    refine hnn _ β fz _ ?_
    have hp := Post.set (cs := cs) (cs' := cs.take off ++ xs.take n ++ cs.drop (off + min xs.length n)) (v := .d (.k .i64 ((min xs.length n : Nat) : Int))) (u := goInt (min xs.length n : Nat)) hok hbb ⟨k5, k3⟩ k1 k4 (us' := (us.toList.take off ++ us2.take (min xs.length n) ++ us.toList.drop (off + (us2.take (min xs.length n)).length)).toArray) ?_ (.d (.k _ _))
    · exact hp
    · have hr := ((k2.list.take off).append (f1.take n)).append (k2.list.drop (off + min xs.length n))
      have e1 : us2.take (min xs.length n) = us2.take n := by
        rw [← f1.1]
        by_cases hle : us2.length ≤ n
        · rw [Nat.min_eq_left hle, List.take_of_length_le (Nat.le_refl _), List.take_of_length_le hle]
        · rw [Nat.min_eq_right (by omega)]
      rw [hlen, e1]
      exact hr.arr
/-- a method of a type's values -/
def mth (P : Program) (t : TypeId) (name : String) : Option FuncId := match P.info? t with
  | some i => match i.methods.find? (·.name == name) with
    | some m => match m.path.toList, m.func with
      | [], some (f, false) => match P.underlying t with
        | some (.pointer _) => none
        | some _ => some f
        | none => none
      | _, _ => none
    | none => none
  | none => none
theorem run_method {t : TypeId} {name : String} {f : FuncId} (h : mth P t name = some f) (n : Nat) (v : Value) (w : World) : (method (n + 1) t v name).run P w = .ok (f, v) w := by
  unfold mth at h
  split at h
  · rename_i i hi
    split at h
    · rename_i m hm
      split at h
      · rename_i f' hp hf
        have ht : (typeInfo t).run P w = .ok i w := by simp [typeInfo, hi, go_sem]
        split at h
        · cases h
        · rename_i de hnp hu
          cases h
          unfold method
          simp only [Sem.run_bind, ht, Result.andThen_ok, hm, hp, follow, Sem.run_pure, hf]
          unfold receiverAt
          simp only [Sem.run_bind, run_underlying hu, Result.andThen_ok]
          cases de <;> first | rfl | exact absurd rfl (hnp _)
        · cases h
      · cases h
    · cases h
  · cases h
theorem run_method_any {t : TypeId} {name : String} {f : FuncId} (h : mth P t name = some f) {n : Nat} (v : Value) (w : World) : (method (n + Made.depth) t v name).run P w = .ok (f, v) w := by
  have : n + Made.depth = (n + (Made.depth - 1)) + 1 := by simp [Made.depth]
  rw [this]
  exact run_method h _ v w
end
end Go.Lm
