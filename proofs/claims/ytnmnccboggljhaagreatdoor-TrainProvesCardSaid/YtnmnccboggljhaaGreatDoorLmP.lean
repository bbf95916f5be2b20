/- The logical machine: what a function does; calls. -/
import Derived.Test.YtnmnccboggljhaaGreatDoorLmO
set_option linter.constructorNameAsVariable false
namespace Go.Lm
open Go Go.RowKit

inductive LO where
  | ret (d : D)
  | pan (d : D)
def LO.is (fz : Fz) (u : Value) (e : Ending) : LO → Prop
  | .ret d => e = .returned u ∧ RepD fz d u
  | .pan d => e = .panicked [{ v := u, recovered := false }] ∧ RepD fz d u
/-- called with such data, the function ends so -/
def SpecP (P : Program) (f : FuncId) (args : List D) (o : LO) : Prop := ∀ (fz : Fz) (w : World) (us : Array Value), FzOk fz w → RepDs fz args us →
  Calls P f us w fun e w' => ∃ fz' u, Below w.heap.size w w' ∧ Fz.Le fz fz' ∧ (∀ b, b < w.heap.size → ∀ o, fz' b o = fz b o) ∧ FzOk fz' w' ∧ o.is fz' u e

/-! ### results -/
def resV (P : Program) (s : LS) : ResultVar → Option V
  | .tmp t => lk s.env t
  | .cell a t => match lk s.env a with
    | some (.p h off) => match s.blk h with
      | some (.cells cs _) => match shp P t with
        | some none => cs[off]?
        | some (some n) => if off + n ≤ cs.length then some (.agg ((cs.drop off).take n)) else none
        | none => none
      | _ => none
    | _ => none
def resL (P : Program) (s : LS) : List ResultVar → Option (List V)
  | [] => some []
  | x :: l => match resV P s x, resL P s l with
    | some v, some vs => some (v :: vs)
    | _, _ => none
def pack : List V → V
  | [v] => v
  | vs => .tup vs
def resS (tmps : Array Value) : ResultVar → Sem Value
  | .tmp t => pure (tmps.getD t undef)
  | .cell a t => do loadVar t (← asAddr (tmps.getD a undef))
theorem results_eq (fn : Func) (tmps : Array Value) : results fn tmps = (do let vs ← fn.results.mapM (resS tmps); pure (if h : vs.size = 1 then vs[0] else .tuple vs)) := by
  unfold results
  congr 1
theorem resV_ok {C : Cx} {s : LS} {a : Act} {w : World} {β : Bt} {fz : Fz} (r : RelB C s a w β fz) {x : ResultVar} {v : V} (h : resV C.P s x = some v) :
    ∃ u, (resS a.tmps x).run C.P w = .ok u w ∧ RepV β fz v u := by
  cases x with
  | tmp t =>
    obtain ⟨u, h1, h2⟩ := r.env t v h
    exact ⟨u, by simp only [resS]; rw [show a.tmps.getD t undef = u by simp [h1]]; rfl, h2⟩
  | cell b t =>
    simp only [resV] at h
    split at h
    · rename_i k off hb
      split at h
      · rename_i cs e hbl
        obtain ⟨u, h1, h2⟩ := r.env b _ hb
        have hg : a.tmps.getD b undef = u := by simp [h1]
        cases h2 with
        | @p _ _ bb hbb =>
          obtain ⟨us, k1, k2, _, _, k3⟩ := cells_of (r.hreps k _ hbl) hbb
          have he : (resS a.tmps (.cell b t)) = (do loadVar t (← asAddr (.pointer (some ⟨bb, off, none⟩)))) := by simp only [resS, hg]
          rw [he]
          show ∃ u, (loadVar t ⟨bb, off, none⟩).run C.P w = .ok u w ∧ RepV β fz v u
          split at h
          · rename_i hs
            have hlt : off < us.size := by rw [k2.1]; exact (List.getElem?_eq_some_iff.1 h).1
            have hc : w.cell? ⟨bb, off, none⟩ = some us[off] := by simp [World.cell?, k1, hlt]
            refine ⟨us[off], ?_, k2.2 off v _ h (Array.getElem?_eq_getElem hlt)⟩
            unfold loadVar
            simp only [Sem.run_bind, run_isAgg' (shp_one hs), Result.andThen_ok, Bool.false_eq_true, if_false]
            rw [run_load, hc]
          · rename_i n hs
            split at h
            · rename_i hl
              cases h
              obtain ⟨s1, s2⟩ := shp_agg hs
              have hr := (k2.list.drop off).take n
              have hlen : ((us.toList.drop off).take n).length = n := by rw [hr.1]; simp; omega
              have hc : ∀ (j : Nat) (v : Value), ((us.toList.drop off).take n)[j]? = some v → w.cell? ((⟨bb, off, none⟩ : Addr).add j) = some v := fun j v hj => by
                rw [add_off, show w.cell? ⟨bb, off + j, none⟩ = us[off + j]? by simp [World.cell?, k1]]
                rw [List.getElem?_take] at hj
                split at hj
                · rw [List.getElem?_drop] at hj; simpa using hj
                · cases hj
              have hrun := run_loadCells_list (P := C.P) (w := w) ⟨bb, off, none⟩ ((us.toList.drop off).take n) hc
              rw [hlen] at hrun
              refine ⟨.agg ((us.toList.drop off).take n).toArray, ?_, .agg hr.arr.1 hr.arr.2⟩
              unfold loadVar
              simp only [Sem.run_bind, run_isAgg' s1, Result.andThen_ok, if_true, run_sizeOf' s2, hrun]
              rfl
            · cases h
          · cases h
      · cases h
    · cases h
theorem resL_ok {C : Cx} {s : LS} {a : Act} {w : World} {β : Bt} {fz : Fz} (r : RelB C s a w β fz) : ∀ {l : List ResultVar} {vs : List V}, resL C.P s l = some vs →
    ∃ us : List Value, (l.mapM (resS a.tmps)).run C.P w = .ok us w ∧ RepL β fz vs us
  | [], vs, h => by
    simp only [resL, Option.some.injEq] at h
    subst h
    exact ⟨[], rfl, RepL.nil _ _⟩
  | x :: l, vs, h => by
    simp only [resL] at h
    split at h
    · rename_i v vs' hx hl
      cases h
      obtain ⟨u, h1, h2⟩ := resV_ok r hx
      obtain ⟨us, h3, h4⟩ := resL_ok r hl
      refine ⟨u :: us, ?_, (RepL.one h2).append h4⟩
      rw [List.mapM_cons]
      simp only [Sem.run_bind, h1, Result.andThen_ok, h3]
      rfl
    · cases h
theorem results_ok {C : Cx} {s : LS} {a : Act} {w : World} {β : Bt} {fz : Fz} (r : RelB C s a w β fz) {fn : Func} {vs : List V} (h : resL C.P s fn.results.toList = some vs) : ∃ u, (results fn a.tmps).run C.P w = .ok u w ∧ RepV β fz (pack vs) u := by
  obtain ⟨us, h1, h2⟩ := resL_ok r h
  refine ⟨if h : us.toArray.size = 1 then us.toArray[0] else .tuple us.toArray, ?_, ?_⟩
  · rw [results_eq, Array.mapM_eq_mapM_toList]
    simp only [bind_map_left, Sem.run_bind, h1, Result.andThen_ok]
    rfl
  · match vs, us, h2 with
    | [v], [u], h2 => exact h2.2 0 v u rfl rfl
    | [], [], h2 => exact .tup rfl fun j d u a => by simp at a
    | v :: v' :: vs, u :: u' :: us, h2 =>
      have := h2.arr
      simp only [List.size_toArray, List.length_cons]
      rw [dif_neg (by omega)]
      exact .tup this.1 this.2
    | [v], [], h2 => have := h2.1; simp at this
    | [v], u :: u' :: us, h2 => have := h2.1; simp at this
    | [], u :: us, h2 => have := h2.1; simp at this
    | v :: v' :: vs, [], h2 => have := h2.1; simp at this
    | v :: v' :: vs, [u], h2 => have := h2.1; simp at this

/-- a value that is handed back: what is one's own is given up -/
def V.toDh (s : LS) : V → Option D
  | .ms x off n => match s.blk x with
    | some (.cells cs _) => match Nat.ble (off + n) cs.length && (Nat.ble n 1000000 && ((cs.drop off).take n).all oneV) with
      | true => (V.toD.toDs ((cs.drop off).take n)).map fun ds => .sl 1 (ds.map fun d => [d])
      | false => none
    | _ => none
  | .agg cs => (go s cs).map .agg
  | .tup cs => (go s cs).map .tup
  | v => v.toD
where go (s : LS) : List V → Option (List D)
  | [] => some []
  | v :: vs => match v.toDh s, go s vs with | some y, some ys => some (y :: ys) | _, _ => none
/-- all blocks of a function's own, frozen -/
def fzAll (C : Cx) (w : World) (fz : Fz) : Fz := fun b o => if C.w0.heap.size ≤ b then w.cell? ⟨b, o, none⟩ else fz b o
theorem fzAll_le {C : Cx} {w : World} {fz : Fz} (h : FzOk fz w) : Fz.Le fz (fzAll C w fz) := fun b o u e => by
  unfold fzAll
  split
  · exact h b o u e
  · exact e
theorem fzAll_ok {C : Cx} {w : World} {fz : Fz} (h : FzOk fz w) : FzOk (fzAll C w fz) w := fun b o u e => by
  unfold fzAll at e
  split at e
  · exact e
  · exact h b o u e
theorem RepVs.tail' {β : Bt} {fz : Fz} {v : V} {vs : List V} {us : Array Value} (h : RepVs β fz (v :: vs) us) : ∃ u, us[0]? = some u ∧ RepV β fz v u ∧ RepVs β fz vs (us.extract 1 us.size) := by
  have hs := h.1
  simp only [List.length_cons] at hs
  have h0 : us[0]? = some us[0] := Array.getElem?_eq_getElem (by omega)
  refine ⟨us[0], h0, h.2 0 v _ rfl h0, ⟨by simp; omega, fun j v u a b => h.2 (j + 1) v u (by simpa using a) ?_⟩⟩
  rw [Array.getElem?_extract] at b
  split at b
  · rwa [Nat.add_comm] at b
  · cases b
mutual
theorem toDh_rep {C : Cx} {s : LS} {a : Act} {w : World} {β : Bt} {fz : Fz} (r : RelB C s a w β fz) (hX : ∀ k, ¬ C.X k) : ∀ (x : V) {d : D} {v : Value}, x.toDh s = some d → RepV β fz x v → RepD (fzAll C w fz) d v
  | .ms h off n, d, v, e, hr => by
    simp only [V.toDh] at e
    split at e
    · rename_i cs ty hb
      split at e
      · rename_i hc
        simp only [Bool.and_eq_true] at hc
        have hl := Nat.le_of_ble_eq_true hc.1
        have hn := Nat.le_of_ble_eq_true hc.2.1
        simp only [Option.map_eq_some_iff] at e
        obtain ⟨ds, hd, rfl⟩ := e
        cases hr with
        | @ms _ _ _ b o c hbb hnc ho =>
          obtain ⟨us, k1, k2, _, k4, _⟩ := cells_of (r.hreps h _ hb) hbb
          have hbs : C.w0.heap.size ≤ b := k4.resolve_right (hX b)
          have hrl := ((k2.list.drop off).take n).arr
          obtain ⟨d1, d2⟩ := toDs_rep _ hd hrl
          have hlen : ds.length = n := by
            rw [← d1]; have := hrl.1; rw [this]; simp; omega
          have hget : ∀ i, i < n → ((us.toList.drop off).take n).toArray[i]? = us[off + i]? := fun i hi => by
            rw [List.getElem?_toArray, List.getElem?_take, if_pos hi, List.getElem?_drop, Array.getElem?_toList]
          have hus : us.size = cs.length := k2.1
          have row : ∀ (i j : Nat) (r : List D) (d : D), (ds.map fun d => [d])[i]? = some r → r[j]? = some d → i < n ∧ ds[i]? = some d := fun i j r d a c => by
            rw [List.getElem?_map, Option.map_eq_some_iff] at a
            obtain ⟨d', a, rfl⟩ := a
            have hi := (List.getElem?_eq_some_iff.1 a).1
            match j with
            | 0 => simp at c; subst c; exact ⟨by omega, a⟩
            | j + 1 => simp at c
          refine .sl (fun i _ => us.getD (off + i) default) (by simpa using hlen) hnc (by omega) (fun r' hr => ?_) (fun h0 => ?_) (fun i j r' d a c => ?_) (fun i j r' d a c => ?_)
          · simp only [List.mem_map] at hr
            obtain ⟨d, _, rfl⟩ := hr
            rfl
          · obtain rfl := ho h0
            refine ⟨b, o, rfl, fun i j hi hj => ?_⟩
            obtain rfl : j = 0 := by omega
            have hlt : o + i < us.size := by omega
            simp only [fzAll, if_pos hbs, Nat.mul_one, Nat.add_zero]
            simp [World.cell?, k1, hlt]
          · obtain ⟨hi, hd'⟩ := row i j r' d a c
            have hlt : off + i < us.size := by omega
            have hq : (cs.drop off)[i]? = some cs[off + i] := by rw [List.getElem?_drop]; exact List.getElem?_eq_getElem (by omega)
            have hone := List.all_eq_true.1 hc.2.2 (cs[off + i]) (List.mem_of_getElem? (i := i) (by rw [List.getElem?_take, if_pos hi]; exact hq))
            have := oneV_ok (k2.2 (off + i) _ _ (List.getElem?_eq_getElem (by omega)) (Array.getElem?_eq_getElem hlt)) hone
            simpa [Array.getD, hlt] using this
          · obtain ⟨hi, hd'⟩ := row i j r' d a c
            have hlt : off + i < us.size := by omega
            have := d2 i d (us[off + i]) hd' (by rw [hget i hi]; exact Array.getElem?_eq_getElem hlt)
            have := this.mono (fzAll_le (C := C) r.ok)
            simpa [Array.getD, hlt] using this
      · cases e
    · cases e
  | .agg cs, d, v, e, h => by
    simp only [V.toDh, Option.map_eq_some_iff] at e
    obtain ⟨ds, e, rfl⟩ := e
    cases h with
    | agg hl h =>
      obtain ⟨k1, k2⟩ := toDhs_rep r hX cs e ⟨hl, h⟩
      exact .agg k1 k2
  | .tup cs, d, v, e, h => by
    simp only [V.toDh, Option.map_eq_some_iff] at e
    obtain ⟨ds, e, rfl⟩ := e
    cases h with
    | tup hl h =>
      obtain ⟨k1, k2⟩ := toDhs_rep r hX cs e ⟨hl, h⟩
      exact .tup k1 k2
  | .d x, _, _, e, h => (toD_rep _ (by simpa only [V.toDh] using e) h).mono (fzAll_le r.ok)
  | .p _ _, _, _, e, _ => by simp [V.toDh, V.toD] at e
  | .q _ _ _ _, _, _, e, _ => by simp [V.toDh, V.toD] at e
  | .own x y z, _, _, e, h => (toD_rep _ (by simpa only [V.toDh] using e) h).mono (fzAll_le r.ok)
  | .fn f x y, _, _, e, h => (toD_rep _ (by simpa only [V.toDh] using e) h).mono (fzAll_le r.ok)
  | .h _, _, _, e, _ => by simp [V.toDh, V.toD] at e
  | .u, _, _, e, _ => by simp [V.toDh, V.toD] at e
theorem toDhs_rep {C : Cx} {s : LS} {a : Act} {w : World} {β : Bt} {fz : Fz} (r : RelB C s a w β fz) (hX : ∀ k, ¬ C.X k) : ∀ (xs : List V) {ds : List D} {vs : Array Value}, V.toDh.go s xs = some ds → RepVs β fz xs vs → RepDs (fzAll C w fz) ds vs
  | [], ds, vs, e, h => by
    simp only [V.toDh.go, Option.some.injEq] at e
    subst e
    exact ⟨h.1, fun j d u a => by simp at a⟩
  | x :: xs, ds, vs, e, h => by
    simp only [V.toDh.go] at e
    split at e
    · rename_i d ds' ed eds
      cases e
      obtain ⟨u0, h0, h1, h2⟩ := h.tail'
      have k1 := toDh_rep r hX x ed h1
      have k2 := toDhs_rep r hX xs eds h2
      have hs := h.1
      simp only [List.length_cons] at hs
      have ks := k2.1
      simp only [Array.size_extract] at ks
      refine ⟨by simp only [List.length_cons]; omega, fun j d' u a b => ?_⟩
      cases j with
      | zero => simp at a; subst a; rw [h0] at b; cases b; exact k1
      | succ j =>
        refine k2.2 j d' u (by simpa using a) ?_
        have := (Array.getElem?_eq_some_iff.1 b).1
        rw [Array.getElem?_extract, if_pos (by omega), Nat.add_comm]; exact b
    · cases e
end
def RetD (P : Program) (rs : List ResultVar) (o : LO) (fx : Fx) (s : LS) : Prop := s.dfs = [] ∧ match fx, o with
  | .ret, .ret d => ∃ vs, resL P s rs = some vs ∧ (pack vs).toDh s = some d
  | .pan x, .pan d => x = d
  | _, _ => False
def envD : Nat → List D → List (Nat × V)
  | _, [] => []
  | k, d :: ds => (k, .d d) :: envD (k + 1) ds
theorem lk_envD : ∀ (ds : List D) (k n : Nat) (v : V), lk (envD k ds) n = some v → ∃ d, ds[n - k]? = some d ∧ v = .d d ∧ k ≤ n
  | [], k, n, v, h => by cases h
  | d :: ds, k, n, v, h => by
    simp only [envD, lk] at h
    split at h
    · rename_i e
      cases h
      subst e
      exact ⟨d, by simp, rfl, Nat.le_refl _⟩
    · rename_i e
      obtain ⟨d', h1, h2, h3⟩ := lk_envD ds (k + 1) n v h
      refine ⟨d', ?_, h2, by omega⟩
      rw [show n - k = (n - (k + 1)) + 1 by omega]
      simpa using h1
/-- a function's contract by its body -/
theorem SpecP.of_gx {P : Program} {f : FuncId} {fn : Func} {c : Code} {args : List D} {o : LO} (hmx : P.follows .mixedOrders = true) (hf : P.funcs[f]? = some fn) (hb : fn.body = some c) (hn : args.length ≤ fn.ntmps)
    (h : ∀ F : Fx → LS → Prop, (∀ fx s, RetD P fn.results.toList o fx s → F fx s) → gx ⟨P, fn.ntmps, 0, xo P, F⟩ [.code c] ⟨envD 0 args, [], 0, [], []⟩) : SpecP P f args o := by
  intro fz w us hok hr
  refine calls_of_wp hf hb ?_
  let X : Cx := ⟨P, w, fun _ => none, fz, fun _ => False, 0, fn.ntmps, fun _ _ e => by cases e⟩
  have hrel : Rel X ⟨envD 0 args, [], 0, [], []⟩ { tmps := us ++ Array.replicate (fn.ntmps - us.size) undef, defers := [] } w := by
    refine ⟨fun _ => none, fz, rfl, rfl, rfl, Nat.le_refl _, (fun _ _ _ => rfl), Bt.Le.refl _, (fun _ _ => rfl), Fz.Le.refl _, (fun _ _ _ _ => rfl), hok, (fun _ _ => ⟨rfl, Nat.zero_le _⟩), (fun h blk hb => by cases hb), (fun h h' y y' k ⟨b, hb⟩ => by cases hb), (fun d v hv => ?_), ?_, .inl ⟨rfl, fun j x d a => by simp at a⟩⟩
    · obtain ⟨x, h1, rfl, _⟩ := lk_envD args 0 d v hv
      have hlt : d < us.size := by rw [hr.1]; exact (List.getElem?_eq_some_iff.1 h1).1
      refine ⟨us[d], ?_, .d (hr.2 d x _ (by simpa using h1) (Array.getElem?_eq_getElem hlt))⟩
      rw [Array.getElem?_append_left hlt, Array.getElem?_eq_getElem hlt]
    · have := hr.1
      show (us ++ Array.replicate (fn.ntmps - us.size) undef).size = fn.ntmps
      simp; omega
  have hs := gx_sound hmx X rfl rfl rfl _ [.code c] _ (Nat.le_refl _) ⟨trivial, fun y hy => by cases hy⟩ (h (RetD P fn.results.toList o) fun _ _ h => h) _ w hrel
  refine wp_mono (show c.wp P (sem X (RetD P fn.results.toList o) []) _ w from hs) fun e a' w' he => ?_
  have below : ∀ {s β fz'}, RelB X s a' w' β fz' → Below w.heap.size w w' ∧ Fz.Le fz fz' ∧ (∀ b, b < w.heap.size → ∀ o, fz' b o = fz b o) ∧ FzOk fz' w' := fun r =>
    ⟨⟨r.os, r.tape, r.output, r.size, fun k hk => r.frame k hk fun h => h⟩, r.fle, fun b hb o => r.ffr b hb (fun h => h) o, r.ok⟩
  have belowA : ∀ {s a' w' β fz'}, RelB X s a' w' β fz' → Below w.heap.size w w' ∧ Fz.Le fz (fzAll X w' fz') ∧ (∀ b, b < w.heap.size → ∀ o, fzAll X w' fz' b o = fz b o) ∧ FzOk (fzAll X w' fz') w' := fun r =>
    ⟨⟨r.os, r.tape, r.output, r.size, fun k hk => r.frame k hk fun h => h⟩, r.fle.trans (fzAll_le r.ok), fun b hb o => by
      unfold fzAll
      rw [if_neg (Nat.not_le.2 hb)]
      exact r.ffr b hb (fun h => h) o, fzAll_ok r.ok⟩
  have nodef : ∀ {s β fz'}, RelB X s a' w' β fz' → s.dfs = [] → a'.defers = [] := fun {s β fz'} r hd => r.dfs.nil hd
  have ret : (∃ s, RetD P fn.results.toList o .ret s ∧ Rel X s a' w') → bodyPost P fn (fun e w' => ∃ fz' u, Below w.heap.size w w' ∧ Fz.Le fz fz' ∧ (∀ b, b < w.heap.size → ∀ o, fz' b o = fz b o) ∧ FzOk fz' w' ∧ o.is fz' u e) .ret a' w' := fun ⟨s, ⟨hd, hs⟩, β, fz', r⟩ => by
    cases o with
    | pan d => exact hs.elim
    | ret d =>
      obtain ⟨vs, h1, h2⟩ := hs
      obtain ⟨u, h3, h4⟩ := results_ok r h1
      obtain ⟨k1, k2, k3, k4⟩ := belowA r
      exact ⟨nodef r hd, u, h3, fzAll X w' fz', u, k1, k2, k3, k4, rfl, toDh_rep r (fun _ h => h) _ h2 h4⟩
  cases e with
  | normal => exact ret he
  | ret => exact ret he
  | panic ch =>
    obtain ⟨s, x, v, β, fz', ⟨hd, hs⟩, rfl, r, hv⟩ := he
    cases o with
    | ret d => exact hs.elim
    | pan d =>
      obtain rfl : x = d := hs
      obtain ⟨k1, k2, k3, k4⟩ := below r
      exact ⟨nodef r hd, fz', v, k1, k2, k3, k4, rfl, hv⟩
  | exit id => exact he.elim
  | goto l => exact he.elim
  | outgrown => exact he.elim

/-! ### calls -/
def Enters (P : Program) (g : FuncId) : Prop := ∀ (args : Array Value) (w : World), (callFunc g args).run P w = .ok (.enter g args) w
theorem RepL.ofD {β : Bt} {fz : Fz} {ds : List D} {us : Array Value} (hl : us.size = ds.length) (h : ∀ (j : Nat) (d : D) (u : Value), ds[j]? = some d → us[j]? = some u → RepD fz d u) : RepL β fz (ds.map .d) us.toList :=
  ⟨by simpa using hl, fun j d u h1 h2 => by
    rw [List.getElem?_map, Option.map_eq_some_iff] at h1
    obtain ⟨x, h1, rfl⟩ := h1
    exact .d (h j x u h1 (by simpa using h2))⟩
theorem calleeV_ok {β : Bt} {fz : Fz} {v : V} {g : FuncId} {a c : List V} {u : Value} (h : RepV β fz v u) (hc : calleeV v = some (g, a, c)) : ∃ ua uc, u = .func (.func g) ua uc ∧ RepL β fz a ua.toList ∧ RepL β fz c uc.toList := by
  cases v with
  | d x =>
    cases x with
    | fn f ad cd =>
      cases f <;> simp only [calleeV, Option.some.injEq, Prod.mk.injEq, reduceCtorEq] at hc
      obtain ⟨rfl, rfl, rfl⟩ := hc
      cases h with
      | d h =>
        cases h with
        | @fn _ _ _ va vc hla ha hlc hc => exact ⟨va, vc, rfl, RepL.ofD hla ha, RepL.ofD hlc hc⟩
    | _ => cases hc
  | fn f ad cd =>
    cases f <;> simp only [calleeV, Option.some.injEq, Prod.mk.injEq, reduceCtorEq] at hc
    obtain ⟨rfl, rfl, rfl⟩ := hc
    cases h with
    | @fn _ _ _ va vc hla ha hlc hc => exact ⟨va, vc, rfl, RepVs.list ⟨hla, ha⟩, RepVs.list ⟨hlc, hc⟩⟩
  | _ => cases hc
/-- called with such values, with such blocks of one's own -/
def SpecH (P : Program) (f : FuncId) (args : List V) (rd hp : List (Nat × Blk)) (news : List Nat) (out : List (Nat × Blk)) (r : V) : Prop := ∀ (β : Bt) (fz : Fz) (own : Nat → Prop) (w : World) (us : Array Value), FzOk fz w → (∀ k, w.heap.size ≤ k → own k) →
  (∀ x ∈ rd, HRep β fz w own x.1 x.2) → (∀ x ∈ hp, HRep β fz w own x.1 x.2) → InjOn β (fun h => (∃ x ∈ hp, x.1 = h) ∨ ∃ x ∈ rd, x.1 = h) → (∀ h ∈ news, β h = none) → RepVs β fz args us →
  Calls P f us w fun e w' => ∃ u β' fz', Post β fz w own hp news out r u β' fz' w' ∧ e = .returned u
theorem SpecP.toH {P : Program} {f : FuncId} {args : List V} {ds : List D} {r : D} (h : SpecP P f ds (.ret r)) (hd : V.toD.toDs args = some ds) : SpecH P f args [] [] [] [] (.d r) := by
  intro β fz own w us hok hown _ _ _ _ hr
  refine (h fz w us hok (toDs_rep args hd hr)).mono fun e w' ⟨fz', u, hB, k1, k2, k3, k4, k5⟩ => ⟨u, β, fz', ?_, k4⟩
  exact {
    ble := Bt.Le.refl _
    bnew := fun _ _ => rfl
    fle := k1
    ffr := fun b hb _ => k2 b hb
    ok := k3
    os := hB.os
    tape := hB.tape
    output := hB.output
    size := hB.size
    frame := fun b hb _ => hB.block b hb
    hreps := fun x hx => by cases hx
    blks := fun x hx => by cases hx
    inj := fun h h' y y' k ⟨x, hx, _⟩ => by cases hx
    v := .d k5 }
theorem stepCall {P : Program} {nt : Nat} {s : LS} {o : Oper} {r : V} {g : FuncId} {args vals : List V} {rd hp out : List (Nat × Blk)} {news : List Nat}
    (hc : CallOK P s o g args vals) (hg : Enters P g) (hsp : SpecH P g args rd hp news out r) (hrd : ∀ x ∈ rd, s.blk x.1 = some x.2) (hhp : ∀ x ∈ hp, s.blk x.1 = some x.2) (hnews : ∀ h ∈ news, s.free h)
    (houts : ∀ x ∈ out, x.1 ∈ news ∨ ∃ z ∈ hp, z.1 = x.1) (hd : dlt o.dst nt = true) : StepOK P nt s o ⟨vals, rd, hp, news, out, r⟩ := by
  obtain ⟨v1, v2, v3⟩ := hc
  refine ⟨?_, v1, v2, hrd, hhp, hnews, houts, dlt_ok hd⟩
  intro β fz own ac w hok hown h1 h2 hinj hnew _ hv next Q hn
  obtain ⟨us, hrun, hall⟩ := v3 β fz ac w hv
  unfold Oper.wp
  rw [hrun, hg us w, Oper.upon_enter]
  refine (hsp β fz own w _ hok hown h1 h2 hinj hnew hall).mono fun e w' ⟨u, β', fz', hp, he⟩ => ?_
  subst he
  exact hn u β' fz' w' hp
end Go.Lm
