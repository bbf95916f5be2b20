/- The logical machine: append, whole slices, make, parts of slices. -/
import Derived.Test.YtnmnccboggljhaaGreatDoorLmK
set_option linter.constructorNameAsVariable false
namespace Go.Lm
open Go Go.RowKit
section
variable {P : Program} {s : LS} {new : Nat} {dst : Option Tmp} {type : TypeId} {pos : String} {after : Array Edge} {guard : Option (Nat × Bool)}

/-- a slice type's element, its size: if append serves -/
def apT (P : Program) (t : TypeId) : Option (TypeId × Nat) := match P.underlying t with
  | some (.slice e) => match P.info? e with
    | some i => match i.zero with
      | some z => if z.cells.size = i.size ∧ 0 < i.size ∧ i.bytes ≤ 100 then some (e, i.size) else none
      | none => none
    | none => none
  | _ => none
theorem apT_ok {t e : TypeId} {sz : Nat} (h : apT P t = some (e, sz)) : ∃ i z, P.underlying t = some (.slice e) ∧ P.info? e = some i ∧ i.zero = some z ∧ z.cells.size = i.size ∧ 0 < i.size ∧ i.bytes ≤ 100 ∧ i.size = sz := by
  unfold apT at h
  split at h
  · rename_i e' he
    split at h
    · rename_i i hi
      split at h
      · rename_i z hz
        split at h
        · rename_i hc
          cases h
          exact ⟨i, z, he, hi, hz, hc.1, hc.2.1, hc.2.2, rfl⟩
        · cases h
      · cases h
    · cases h
  · cases h
def baseV (s : LS) (e : TypeId) (sz : Nat) : V → Option (List (Nat × Blk) × List (List D))
  | .d .nil => some ([], [])
  | .own h z rows => match s.blk h with
    | some (.tail n z' e') => if z = sz ∧ z' = sz ∧ e' = e then some ([(h, .tail n z' e')], rows) else none
    | _ => none
  | _ => none
def srcV (sz : Nat) : V → Option (List (List D))
  | .d .nil => some []
  | v => match rowsV v with
    | some (z, rows) => if z = sz then some rows else none
    | none => none
theorem CellsOf.nil (fz : Fz) (sz : Nat) : CellsOf fz sz [] [] := ⟨(fun r hr => by cases hr), by simp, fun i j r d h => by simp at h⟩
def Src (fz : Fz) (w : World) (sz : Nat) (rows : List (List D)) (u : Value) : Prop :=
    ∃ A m c xs, u = .slice A m c ∧ m = rows.length ∧ CellsOf fz sz rows xs ∧ (∀ u ∈ xs, u.oneCell' = true) ∧ (m = 0 → xs = []) ∧ (A = none → m = 0) ∧ ∀ a, A = some a → ∀ (j : Nat) (u : Value), xs[j]? = some u → w.cell? (a.add j) = some u
theorem srcV_ok {β : Bt} {fz : Fz} {w : World} {sz : Nat} {rows : List (List D)} {v : V} {u : Value} (hok : FzOk fz w) (hsz : 0 < sz) (h : RepV β fz v u) (hs : srcV sz v = some rows) : Src fz w sz rows u := by
  have rest : (match rowsV v with | some (z, rows) => if z = sz then some rows else none | none => none) = some rows → Src fz w sz rows u := fun hs => by
    split at hs
    · rename_i z rows' hr
      split at hs
      · rename_i hz
        cases hs
        subst hz
        have hd := rowsV_ok h hr
        obtain ⟨A, m, c, xs, h1, h2, h3, h4, h5, h6⟩ := src_cells hok hd hsz
        refine ⟨A, m, c, xs, h1, h2, h3, h4, h5, fun hA => ?_, h6⟩
        subst h1; subst hA
        cases hd with
        | @sl _ _ _ _ _ g hm hc hmm hsz hA ho hg =>
          rcases Nat.eq_zero_or_pos m with h0 | h0
          · exact h0
          · obtain ⟨b, off, e, _⟩ := hA h0; cases e
      · cases hs
    · cases hs
  cases v with
  | d x =>
    cases x with
    | nil =>
      simp only [srcV, Option.some.injEq] at hs
      subst hs
      cases h with
      | d h => cases h; exact ⟨none, 0, 0, [], rfl, rfl, CellsOf.nil _ _, (fun u hu => by cases hu), (fun _ => rfl), (fun _ => rfl), fun a e => by cases e⟩
    | _ => exact rest hs
  | _ => exact rest hs
theorem baseV_ok {β : Bt} {fz : Fz} {w : World} {own : Nat → Prop} {e : TypeId} {sz : Nat} {hp : List (Nat × Blk)} {rows : List (List D)} {v : V} {u : Value} (hok : FzOk fz w) (h : RepV β fz v u) (hs : baseV s e sz v = some (hp, rows)) (hh : ∀ x ∈ hp, HRep β fz w own x.1 x.2) :
    ∃ n xs, w.ownsRow 0 e sz u n xs ∧ n = rows.length ∧ CellsOf fz sz rows xs ∧
      ∀ b, u.ownBlock = some b → BlkIn β hp b ∧ own b ∧ b < w.heap.size ∧ (∀ o, xs.length ≤ o → fz b o = none) ∧ ∀ (o : Nat) (x : Value), w.cell? ⟨b, o, none⟩ = some x → o < xs.length → xs[o]? = some x := by
  cases v with
  | d x =>
    cases x <;> simp only [baseV, Option.some.injEq, Prod.mk.injEq, reduceCtorEq] at hs
    obtain ⟨rfl, rfl⟩ := hs
    cases h with
    | d h => cases h; exact ⟨0, [], World.ownsRow_nil w 0 e sz, rfl, CellsOf.nil _ _, fun b hb => by cases hb⟩
  | own k z r =>
    simp only [baseV] at hs
    split at hs
    · rename_i n z' e' hk
      split at hs
      · rename_i hc
        cases hs
        obtain ⟨rfl, rfl, rfl⟩ := hc
        obtain ⟨x, h1, h2, xs, h3, h4⟩ := hh _ (List.mem_singleton.2 rfl)
        cases h with
        | own hb hr =>
          rw [hb] at h1; cases h1
          obtain ⟨k1, k2⟩ := own_cells hok hr h3
          refine ⟨n, xs, h3, k1, k2, fun b hbb => ⟨⟨_, List.mem_singleton.2 rfl, u, hb, blkOf_own hbb⟩, (h2 b (blkOf_own hbb)).1, (h2 b (blkOf_own hbb)).2, fun o ho => h4 b hbb o (by rw [← h3.1]; exact ho), fun o x hx hlt => ?_⟩⟩
          have := h3.cells hbb o _ (List.getElem?_eq_getElem hlt)
          rw [add_off] at this
          simp only [Nat.zero_add] at this
          rw [hx] at this
          rw [List.getElem?_eq_getElem hlt]; exact this.symm
      · cases hs
    · cases hs
  | _ => cases hs
theorem baseV_hp {e : TypeId} {sz : Nat} {hp : List (Nat × Blk)} {rows : List (List D)} {v : V} (hs : baseV s e sz v = some (hp, rows)) : ∀ x ∈ hp, s.blk x.1 = some x.2 := by
  cases v with
  | d x =>
    cases x <;> simp only [baseV, Option.some.injEq, Prod.mk.injEq, reduceCtorEq] at hs
    obtain ⟨rfl, rfl⟩ := hs
    exact fun x hx => by cases hx
  | own k z r =>
    simp only [baseV] at hs
    split at hs
    · rename_i n z' e' hk
      split at hs
      · cases hs
        intro x hx
        simp at hx; subst hx; exact hk
      · cases hs
    · cases hs
  | _ => cases hs
theorem ok_append {t e : TypeId} {x y : Operand} {sz : Nat} {hp : List (Nat × Blk)} {rows rows2 : List (List D)} {vx vy : V} (hx : s.ev x = some vx) (hy : s.ev y = some vy) (hT : apT P t = some (e, sz)) (hb : baseV s e sz vx = some (hp, rows)) (hs : srcV sz vy = some rows2)
    (hl : rows.length + rows2.length ≤ 1000000) : Ok P s new ⟨dst, .call { callee := .builtin .append, args := #[x, y], argTypes := #[t, t] }, type, pos, after, guard⟩
      ⟨[vx, vy], [], hp, [new], [(new, .tail (rows.length + rows2.length) sz e)], .own new sz (rows ++ rows2)⟩ := by
  obtain ⟨v1, v2⟩ := vals2 (ops := (Op.call { callee := .builtin .append, args := #[x, y], argTypes := #[t, t] }).operands) (by simp [Op.operands, Call.operands]) hx hy
  refine ⟨?_, v1, v2, (fun x hx => by cases hx), baseV_hp hb, (fun x hx => by simpa using hx), (fun x hx => by simp at hx; subst hx; exact .inl (List.mem_singleton.2 rfl))⟩
  intro β fz own a w hok hown _ hhp _ hnew _ hv next Q hn
  have hβ := hnew new (List.mem_singleton.2 rfl)
  have r1 := hv 0 x vx (by simp [Op.operands, Call.operands]) rfl
  have r2 := hv 1 y vy (by simp [Op.operands, Call.operands]) rfl
  obtain ⟨i, z, ht, hi, hz, hzs, hsz, hby, rfl⟩ := apT_ok hT
  obtain ⟨n, xs, ho, rfl, hc, hold⟩ := baseV_ok hok r1 hb hhp
  obtain ⟨A, m, c, ys, e2, rfl, hc2, h1, h0, hA0, hcell⟩ := srcV_ok hok hsz r2 hs
  have key : ∃ v' w', (Builtin.append_ #[t, t] type #[a.eval x, a.eval y]).run P w = .ok v' w' ∧ w'.ownsRow 0 e i.size v' (rows.length + rows2.length) (xs ++ ys) ∧ Stays w w' (a.eval x) v' := by
    rw [e2]
    cases A with
    | some ad => exact app_run ht hi hz hzs hsz ho hc2.2.1 (hcell ad rfl) h1 hl hby
    | none =>
      have hm := hA0 rfl
      rw [h0 hm, hm, List.append_nil]
      exact ⟨_, _, app_run0 ht hi ho, ho, .inl ⟨rfl, rfl, rfl, rfl, Nat.le_refl _, fun _ _ _ => rfl⟩⟩
  obtain ⟨v', w', hrun, ho', hst⟩ := key
  unfold Oper.wp
  rw [run_builtin (sv := Builtin.append_ #[t, t] type #[a.eval x, a.eval y]) (fun _ => by simp; rfl) hrun, Oper.upon_value]
  exact hn _ _ _ _ (Post.row hok hown hβ ho' (hc.append hc2) (by simp) hl hst hold ⟨ys, rfl⟩)

/-! ### whole slices -/
def chunks (sz : Nat) : Nat → List D → List (List D)
  | 0, _ => []
  | n + 1, l => l.take sz :: chunks sz n (l.drop sz)
theorem chunks_length (sz : Nat) : ∀ (n : Nat) (l : List D), (chunks sz n l).length = n
  | 0, _ => rfl
  | n + 1, l => by simp [chunks, chunks_length sz n]
theorem chunks_get {sz : Nat} : ∀ {n : Nat} {l : List D} {i : Nat} {r : List D}, (chunks sz n l)[i]? = some r → r = (l.drop (i * sz)).take sz
  | 0, l, i, r, h => by simp [chunks] at h
  | n + 1, l, 0, r, h => by simp [chunks] at h; simp [h]
  | n + 1, l, i + 1, r, h => by
    simp only [chunks, List.getElem?_cons_succ] at h
    rw [chunks_get h, List.drop_drop, Nat.succ_mul, Nat.add_comm]
theorem CellsOf.chunks {fz : Fz} {sz n : Nat} {ds : List D} {us : List Value} (hl : ds.length = n * sz) (hu : us.length = ds.length) (hr : ∀ (j : Nat) (d : D) (u : Value), ds[j]? = some d → us[j]? = some u → RepD fz d u ∧ u.oneCell' = true) : CellsOf fz sz (chunks sz n ds) us := by
  have hget : ∀ (i : Nat) (r : List D), (Lm.chunks sz n ds)[i]? = some r → r = (ds.drop (i * sz)).take sz ∧ i < n := fun i r h => ⟨chunks_get h, by rw [← chunks_length sz n ds]; exact (List.getElem?_eq_some_iff.1 h).1⟩
  refine ⟨fun r h => ?_, by rw [hu, hl, chunks_length], fun i j r d h1 h2 => ?_⟩
  · obtain ⟨i, hi, e⟩ := List.getElem_of_mem h
    obtain ⟨k1, k2⟩ := hget i r (by rw [← e]; exact List.getElem?_eq_getElem hi)
    rw [k1, List.length_take, List.length_drop, hl]
    have : i * sz + sz ≤ n * sz := by rw [← Nat.succ_mul]; exact Nat.mul_le_mul_right _ k2
    omega
  · obtain ⟨k1, k2⟩ := hget i r h1
    subst k1
    rw [List.getElem?_take] at h2
    split at h2
    · rename_i hj
      rw [List.getElem?_drop] at h2
      have hlt : i * sz + j < us.length := by rw [hu]; exact (List.getElem?_eq_some_iff.1 h2).1
      obtain ⟨q1, q2⟩ := hr _ d _ h2 (List.getElem?_eq_getElem hlt)
      exact ⟨_, List.getElem?_eq_getElem hlt, q1, q2⟩
    · cases h2
theorem fill_size {f : Nat → Option (Nat × Nat)} : ∀ {l : List (Nat × Value)} {cs r : Array Value}, Instr.fill f cs l = some r → r.size = cs.size
  | [], cs, r, h => by cases h; rfl
  | p :: l, cs, r, h => by
    simp only [Instr.fill] at h
    split at h
    · cases h
    · rename_i off size hf
      split at h
      · cases h
      · rw [fill_size h]
        have : ∀ (l : List (Value × Nat)) (cs : Array Value), (l.foldl (fun cs (x : Value × Nat) => cs.setIfInBounds (off + x.2) x.1) cs).size = cs.size := by
          intro l
          induction l with
          | nil => intro cs; rfl
          | cons x l ih => intro cs; simp only [List.foldl_cons]; rw [ih]; simp
        have e2 : p.2.cells.zipIdx = (p.2.cells.toList.zipIdx 0).toArray := by apply Array.ext'; simp
        rw [e2, List.foldl_toArray' _ _ _ (by simp)]
        exact this _ _
theorem run_bs {w : World} {t e : TypeId} {len : Nat} {i : TypeInfo} {z : Value} {parts : Array (Nat × Value)} {us' : Array Value} (ht : P.underlying t = some (.slice e)) (hi : P.info? e = some i) (hz : i.zero = some z) (hlen : len * i.size ≤ 10000)
    (h1 : Instr.fill (fun k => some (k * i.size, i.size)) ((Array.range (len * i.size)).map (z.cells[· % z.cells.size]!)) parts.toList = some us') :
    (Instr.buildSlice t len parts).run P w = .ok (.slice (some ⟨w.heap.size, 0, none⟩) len len) (w.alloc (.cells us' e)) := by
  have hrs : (sizeOf e).run P w = .ok i.size w := run_sizeOf' (by simp [tsz, hi]) w
  have hrz : (zeroValue e).run P w = .ok z w := by simp [zeroValue, typeInfo, hi, hz, go_sem]
  unfold Instr.buildSlice
  have hno : ¬ (len * i.size > 2 ^ 24) := by simp; omega
  simp only [Sem.run_bind, run_underlying ht, Result.andThen_ok, hrs, if_neg hno, Sem.run_pure]
  by_cases hl0 : len * i.size = 0
  · have e0 : (Array.range (len * i.size)).map (z.cells[· % z.cells.size]!) = (Array.range 0).map (fun k => (#[] : Array Value)[k % (#[] : Array Value).size]!) := by
      rw [hl0]; apply Array.ext'; simp
    rw [e0] at h1
    simp only [hl0, if_true, Sem.run_bind, Sem.run_pure, Result.andThen_ok]
    rw [h1]
    rfl
  · simp only [hl0, if_false, Sem.run_bind, hrz, Result.andThen_ok, Sem.run_pure]
    rw [h1]
    rfl
/-- a whole new row -/
theorem Post.whole {β : Bt} {fz : Fz} {w : World} {own : Nat → Prop} (hok : FzOk fz w) (hown : ∀ k, w.heap.size ≤ k → own k) {new : Nat} (hβ : β new = none) {e : TypeId} {sz len : Nat} {us : Array Value} {cs : List V} {ds : List D} (hsz : 0 < sz) (hsize : us.size = len * sz) (hlen : len ≤ 1000000)
    (h2 : RepVs β fz cs us) (hd : V.toD.toDs cs = some ds) (ho : cs.all oneV = true) :
    Post β fz w own [] [new] [(new, .tail len sz e)] (.own new sz (chunks sz len ds)) (.slice (some ⟨w.heap.size, 0, none⟩) len len) (upd β new (.slice (some ⟨w.heap.size, 0, none⟩) len len)) (fzAdd fz (.slice (some ⟨w.heap.size, 0, none⟩) len len) us.toList) (w.alloc (.cells us e)) := by
  have hown' : (w.alloc (.cells us e)).ownsRow 0 e sz (.slice (some ⟨w.heap.size, 0, none⟩) len len) len us.toList :=
    ⟨by simpa using hsize, .inr ⟨w.heap.size, len, us, rfl, Nat.zero_le _, heap_alloc_new w _, Nat.le_refl _, by unfold maxLen; omega, hsize, by rw [List.take_of_length_le (by simp; omega)]⟩⟩
  obtain ⟨d1, d2⟩ := toDs_rep cs hd h2
  have hdl : ds.length = len * sz := by rw [← d1]; exact hsize
  have hc : CellsOf fz sz (chunks sz len ds) us.toList := CellsOf.chunks hdl (by simpa using d1) fun j d u a b => ⟨d2 j d u a (by simpa using b), by
    have hj : j < cs.length := by rw [← h2.1, d1]; exact (List.getElem?_eq_some_iff.1 a).1
    exact oneV_ok (h2.2 j _ u (List.getElem?_eq_getElem hj) (by simpa using b)) (List.all_eq_true.1 ho _ (List.getElem_mem hj))⟩
  exact Post.row (v := .slice none 0 0) (xs := []) hok hown hβ hown' hc (by rw [chunks_length]) hlen (.inr ⟨rfl, rfl, rfl, rfl, by simp, fun k hk _ => Below.heap_alloc w _ k hk⟩) (fun b hb => by cases hb) ⟨_, rfl⟩
theorem ok_buildSlice {t e : TypeId} {len sz : Nat} {ps : Array (Nat × Operand)} {vs cs : List V} {ds : List D} (hT : apT P t = some (e, sz)) (hv : s.evs (ps.toList.map (·.2)) = some vs) (hlen : len * sz ≤ 10000)
    (hb : bfill (fun i => some (i * sz, sz)) (List.replicate (len * sz) .u) ((ps.toList.map (·.1)).zip vs) = some cs) (hd : V.toD.toDs cs = some ds) (ho : cs.all oneV = true) :
    Ok P s new ⟨dst, .buildSlice t len ps, type, pos, after, guard⟩ ⟨vs, [], [], [new], [(new, .tail len sz e)], .own new sz (chunks sz len ds)⟩ := by
  obtain ⟨v1, v2⟩ := valsL (ops := (Op.buildSlice t len ps).operands) rfl hv
  refine ⟨?_, v1, v2, (fun x hx => by cases hx), (fun x hx => by cases hx), (fun x hx => by simpa using hx), (fun x hx => by simp at hx; subst hx; exact .inl (List.mem_singleton.2 rfl))⟩
  intro β fz own a w hok hown _ _ _ hnew _ hvv next Q hn
  have hβ := hnew new (List.mem_singleton.2 rfl)
  obtain ⟨i, z, ht, hi, hz, hzs, hsz, hby, rfl⟩ := apT_ok hT
  have h0 : RepVs β fz (List.replicate (len * i.size) .u) ((Array.range (len * i.size)).map (z.cells[· % z.cells.size]!)) := ⟨by simp, fun j d u h1 _ => by
    rw [List.getElem?_replicate] at h1
    split at h1
    · cases h1; exact .u _
    · cases h1⟩
  obtain ⟨us', h1, h2⟩ := fill_ok (β := β) (fz := fz) a.eval ps.toList vs _ cs _ h0 (by have := (evs_ok hv).1; simpa using this)
    (fun j p v h1 h2 => hvv j p.2 v (by simp only [Op.operands]; rw [List.getElem?_toArray, List.getElem?_map, h1]; rfl) h2) hb
  have hsize : us'.size = len * i.size := by rw [fill_size h1]; simp
  have hle : len ≤ len * i.size := Nat.le_mul_of_pos_right _ hsz
  have hrun : (Instr.buildSlice t len (ps.map fun (i, x) => (i, a.eval x))).run P w = .ok (.slice (some ⟨w.heap.size, 0, none⟩) len len) (w.alloc (.cells us' e)) :=
    run_bs ht hi hz hlen (by rw [Array.toList_map]; exact h1)
  have hx : execOp a.eval ⟨dst, .buildSlice t len ps, type, pos, after, guard⟩ = (do pure (.value (← Instr.buildSlice t len (ps.map fun (i, x) => (i, a.eval x))))) := by simp only [execOp]
  unfold Oper.wp
  rw [run_val hx hrun, Oper.upon_value]
  exact hn _ _ _ _ (Post.whole hok hown hβ hsz hsize (by omega) h2 hd ho)
end
end Go.Lm
