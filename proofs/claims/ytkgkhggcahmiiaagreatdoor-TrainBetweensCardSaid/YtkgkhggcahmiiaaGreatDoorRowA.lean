/- From a contract of the logical machine to a row: the arguments as data, what the call leaves, the witness' world. -/
import Derived.Test.YtkgkhggcahmiiaaGreatDoorEngG
import Derived.ProofKit
import Derived.LaidMore
import Derived.OpenShut
import Derived.Stop.Joined
import Derived.Carry
import Derived.Lib.SmallJoins
import Derived.SizedLaws
import Derived.ChangeSlices
import Derived.Deep.SlicePairs
namespace Go.Lm
open Go Go.RowKit Go.ChangeShapes Go.WideShapes Go.ChangeAt Go.WideElems

def fzW (W : World) : Fz := fun b o => W.cell? ⟨b, o, none⟩
theorem fzW_ok (W : World) : FzOk (fzW W) W := fun _ _ _ h => h
section
variable {H : Type} {enc : TypeId × Value → H} {P : Program} {W : World}
/-- an argument and its datum -/
def ArgD (W : World) (v : Value) (d : D) : Prop := RepD (fzW W) d v
theorem arg_int {base b0 : Nat} {spare : Nat → Bool} {held : Bool} {r : Reach} {t : TypeId} {v : Value} {d : DataW H} {ps : List MemPlace} (ht : P.underlying t = some (.int .i64)) (hval : Value.okWide P W r b0 t v)
    (hd : DataW.Trod enc P W base spare held t v d ps) : ∃ n : Int, ArgD W v (.k .i64 n) ∧ (Lit.int .i64 n).wf = true := by
  obtain ⟨n, rfl, _, _, hw⟩ := open_int ht hval hd
  exact ⟨n, .k _ _, hw⟩
theorem int_of_trod {base : Nat} {spare : Nat → Bool} {held : Bool} {t : TypeId} {n : Nat} {v : Value} {y : DataW H × List MemPlace} (ht : P.underlying t = some (.int .i64)) (h : DataW.trod enc P W base spare held n t [v] = some y) :
    ∃ k : Int, v = .int .i64 k ∧ (Lit.int .i64 k).wf = true := by
  obtain ⟨k, h1, _, h2⟩ := DataW.trod_int ht h
  simp at h1
  exact ⟨k, h1, h2⟩
theorem arg_pair {base b0 : Nat} {spare : Nat → Bool} {held : Bool} {r : Reach} {t : TypeId} {f0 f1 : Field} {v : Value} {d : DataW H} {ps : List MemPlace} (hs : P.underlying t = some (.struct #[f0, f1])) (hone : Go.Deep.oneCellFields P #[f0, f1] = true) (hC : P.cellsOf t = 2)
    (h0 : P.underlying f0.type = some (.int .i64)) (h1 : P.underlying f1.type = some (.int .i64)) (hval : Value.okWide P W r b0 t v)
    (hd : DataW.Trod enc P W base spare held t v d ps) : ∃ n m : Int, ArgD W v (.agg [.k .i64 n, .k .i64 m]) ∧ (Lit.int .i64 n).wf = true ∧ (Lit.int .i64 m).wf = true := by
  obtain ⟨v0, v1, y0, y1, k, rfl, _, _, k0, k1⟩ := Go.Joins.open_agg2 hs hone hC hval hd
  obtain ⟨n, rfl, hn⟩ := int_of_trod h0 k0
  obtain ⟨m, rfl, hm⟩ := int_of_trod h1 k1
  exact ⟨n, m, .agg rfl (fun j d u a b => by
    match j with
    | 0 => cases a; simp at b; subst b; exact .k _ _
    | 1 => cases a; simp at b; subst b; exact .k _ _
    | j + 2 => simp at a), hn, hm⟩
theorem spot_none {w : World} {a : Addr} {v : Value} (h : w.cell? a = some v) : a.spot = none := by
  unfold World.cell? at h
  split at h
  · split at h
    · cases h
    · rename_i hs
      cases e : a.spot with
      | none => rfl
      | some x => rw [e] at hs; exact absurd rfl hs
  · cases h
theorem add_eq {a : Addr} (h : a.spot = none) (k : Nat) : a.add k = ⟨a.block, a.off + k, none⟩ := by
  obtain ⟨b, o, s⟩ := a
  obtain rfl : s = none := h
  unfold Addr.add
  split
  · subst_vars; rfl
  · rfl
theorem cells_slice (A : Option Addr) (n c : Nat) : (Value.slice A n c).cells.toList = [.slice A n c] := rfl
theorem arg_ints {b0 : Nat} {r : Reach} {t e : TypeId} {v : Value} {d : DataW H} {ps : List MemPlace} (ht : P.underlying t = some (.slice e)) (he : P.underlying e = some (.int .i64)) (hc : P.cellsOf e = 1) (hby : P.bytesOf e = 8)
    (hval : Value.okWide P W r b0 t v) (hd : DataW.Trod enc P W 0 (fun _ => true) true t v d ps) (hsz : ∀ el sp, d = .slice el sp → (el.length + sp.length) * P.bytesOf e ≤ reachBytes) :
    ∃ l : List Int, ArgD W v (.sl 1 (l.map fun n => [.k .i64 n])) ∧ (l.length ≤ 17592186044416 ∧ ∀ n ∈ l, (Lit.int .i64 n).wf = true) := by
  obtain ⟨A, len, cap, rfl⟩ := Go.WideShapes.okWide_slice ht hval
  obtain ⟨fuel, hf⟩ := hd
  rw [cells_slice] at hf
  rcases open_ints ht he hc hf with ⟨h1, h2⟩ | ⟨a, len', cap', zs, h1, _, hl, _, hz, h2, hcell, hwf⟩
  · cases h1
    exact ⟨[], .sl (fun _ _ => .bool false) rfl (Nat.le_refl _) (Nat.zero_le _) (fun r hr => by cases hr) (fun h => absurd h (Nat.lt_irrefl _)) (fun i j r d a => by simp at a) (fun i j r d a => by simp at a), Nat.zero_le _, fun n hn => by cases hn⟩
  · simp only [List.cons.injEq, Value.slice.injEq, and_true] at h1
    obtain ⟨rfl, rfl, rfl⟩ := h1
    simp only [Prod.mk.injEq] at h2
    have hb := hsz _ _ h2.1
    simp only [lits, List.length_map, hby, reachBytes, List.length_take, List.length_drop] at hb
    simp only [if_true] at hz
    have hlen : (zs.take len).length = len := by rw [List.length_take]; omega
    refine ⟨zs.take len, .sl (fun i _ => .int .i64 (zs.getD i 0)) (by rw [List.length_map, hlen]) hl (by omega) (fun r hr => ?_) (fun h0 => ?_) (fun i j r d a b => rfl) (fun i j r d a b => ?_), by omega, fun n hn => hwf n (List.mem_of_mem_take hn)⟩
    · obtain ⟨n, _, rfl⟩ := List.mem_map.1 hr
      rfl
    · have hs := spot_none (a := a) (by have := hcell 0 (by omega); simpa [Addr.add] using this)
      obtain ⟨b, o, s⟩ := a
      obtain rfl : s = none := hs
      refine ⟨b, o, rfl, fun i j hi hj => ?_⟩
      have := hcell i (by omega)
      rw [add_eq rfl] at this
      obtain rfl : j = 0 := by omega
      simpa [fzW] using this
    · simp only [List.getElem?_map, Option.map_eq_some_iff] at a
      obtain ⟨n, hn, rfl⟩ := a
      match j, b with
      | 0, b =>
        cases b
        have hi : i < len := by have := (List.getElem?_eq_some_iff.1 hn).1; omega
        rw [List.getElem?_take, if_pos hi] at hn
        have : zs.getD i 0 = n := by simp [List.getD, hn]
        rw [this]
        exact .k _ _
      | j + 1, b => simp at b
theorem arg_pairs {b0 : Nat} {r : Reach} {t e : TypeId} {f0 f1 : Field} {v : Value} {d : DataW H} {ps : List MemPlace} (ht : P.underlying t = some (.slice e)) (he : P.underlying e = some (.struct #[f0, f1])) (ce : P.cellsOf e = 2) (hby : P.bytesOf e = 16)
    (o0 : f0.offset = 0) (o1 : f1.offset = 1) (c0 : P.cellsOf f0.type = 1) (c1 : P.cellsOf f1.type = 1) (h0 : P.underlying f0.type = some (.int .i64)) (h1 : P.underlying f1.type = some (.int .i64))
    (hval : Value.okWide P W r b0 t v) (hd : DataW.Trod enc P W 0 (fun _ => true) true t v d ps) (hsz : ∀ el sp, d = .slice el sp → (el.length + sp.length) * P.bytesOf e ≤ reachBytes) :
    ∃ l : List (Int × Int), ArgD W v (.sl 2 (l.map fun p => [.k .i64 p.1, .k .i64 p.2])) ∧ (l.length ≤ 8796093022208 ∧ ∀ p ∈ l, (Lit.int .i64 p.1).wf = true ∧ (Lit.int .i64 p.2).wf = true) := by
  obtain ⟨A, len, cap, rfl⟩ := Go.WideShapes.okWide_slice ht hval
  obtain ⟨fuel, hf⟩ := hd
  rw [cells_slice] at hf
  rcases Go.Deep.open_slice_pairs ht he ce o0 o1 c0 c1 hf with ⟨e1, e2⟩ | ⟨a, len', cap', m, k, V0, V1, D0, D1, P0, P1, e1, _, hl, _, hm, e2, hcell⟩
  · cases e1
    exact ⟨[], .sl (fun _ _ => .bool false) rfl (Nat.le_refl _) (Nat.zero_le _) (fun r hr => by cases hr) (fun h => absurd h (Nat.lt_irrefl _)) (fun i j r d a => by simp at a) (fun i j r d a => by simp at a), Nat.zero_le _, fun n hn => by cases hn⟩
  · simp only [List.cons.injEq, Value.slice.injEq, and_true] at e1
    obtain ⟨rfl, rfl, rfl⟩ := e1
    simp only [Prod.mk.injEq] at e2
    have hb := hsz _ _ e2.1
    simp only [List.length_map, List.length_range, hby, reachBytes] at hb
    simp only [if_true] at hm
    have g0 : ∀ i, i < len → ∃ n : Int, V0 i = .int .i64 n ∧ (Lit.int .i64 n).wf = true := fun i hi => int_of_trod h0 (hcell i (by omega)).2.2.1
    have g1 : ∀ i, i < len → ∃ n : Int, V1 i = .int .i64 n ∧ (Lit.int .i64 n).wf = true := fun i hi => int_of_trod h1 (hcell i (by omega)).2.2.2
    let nOf : Value → Int := fun | .int _ n => n | _ => 0
    have n0 : ∀ i, i < len → V0 i = .int .i64 (nOf (V0 i)) ∧ (Lit.int .i64 (nOf (V0 i))).wf = true := fun i hi => by obtain ⟨n, e, w⟩ := g0 i hi; rw [e]; exact ⟨rfl, w⟩
    have n1 : ∀ i, i < len → V1 i = .int .i64 (nOf (V1 i)) ∧ (Lit.int .i64 (nOf (V1 i))).wf = true := fun i hi => by obtain ⟨n, e, w⟩ := g1 i hi; rw [e]; exact ⟨rfl, w⟩
    refine ⟨(List.range len).map fun i => (nOf (V0 i), nOf (V1 i)), .sl (fun i j => if j = 0 then V0 i else V1 i) (by simp) hl (by omega) (fun r hr => ?_) (fun hlt => ?_) (fun i j r d a b => ?_) (fun i j r d a b => ?_), by simp; omega, fun p hp => ?_⟩
    · obtain ⟨n, _, rfl⟩ := List.mem_map.1 hr
      rfl
    · have hs := spot_none (a := a) (by have := (hcell 0 (by omega)).1; simpa [Addr.add] using this)
      obtain ⟨b, o, s⟩ := a
      obtain rfl : s = none := hs
      refine ⟨b, o, rfl, fun i j hi hj => ?_⟩
      obtain ⟨k0, k1, _⟩ := hcell i (by omega)
      rw [add_eq rfl] at k0 k1
      match j, hj with
      | 0, _ => simpa [fzW] using k0
      | 1, _ => simpa [fzW, Nat.add_assoc] using k1
    · simp only [List.getElem?_map, Option.map_eq_some_iff, List.getElem?_range] at a
      obtain ⟨p, ⟨i', hi, rfl⟩, rfl⟩ := a
      obtain ⟨hi1, hi2⟩ := List.getElem?_eq_some_iff.1 hi
      simp at hi1 hi2
      subst hi2
      split
      · rw [(n0 i hi1).1]; rfl
      · rw [(n1 i hi1).1]; rfl
    · simp only [List.getElem?_map, Option.map_eq_some_iff, List.getElem?_range] at a
      obtain ⟨p, ⟨i', hi, rfl⟩, rfl⟩ := a
      obtain ⟨hi1, hi2⟩ := List.getElem?_eq_some_iff.1 hi
      simp at hi1 hi2
      subst hi2
      match j, b with
      | 0, b => cases b; rw [if_pos rfl, (n0 i hi1).1]; exact .k _ _
      | 1, b => cases b; rw [if_neg (by omega), (n1 i hi1).1]; exact .k _ _
      | j + 2, b => simp at b
    · obtain ⟨i, hi, rfl⟩ := List.mem_map.1 hp
      have hi := List.mem_range.1 hi
      exact ⟨(n0 i hi).2, (n1 i hi).2⟩
theorem trodAll_stays (hl : laidOutB P = true) {W' : World} (hb : Below W.heap.size W W') : ∀ {ts : List TypeId} {vs : List Value} {ds : List (DataW H)} {ps : List MemPlace}, (ts.all fun t => P.readableRec t && decide (t < P.types.size)) = true →
    DataW.TrodAll enc P W 0 (fun _ => true) true ts vs ds ps → (∀ x ∈ ps, x.block < W.heap.size) → DataW.TrodAll enc P W' 0 (fun b => decide (b < W.heap.size)) true ts vs ds ps
  | [], [], [], _, _, h, _ => h
  | t :: ts, v :: vs, d :: ds, ps, ht, h, hlt => by
    obtain ⟨p, q, h1, h2, rfl⟩ := h
    simp only [List.all_cons, Bool.and_eq_true, decide_eq_true_eq] at ht
    exact ⟨p, q, Below.trod hl ht.1.1 ht.1.2 h1 hb fun x hx => hlt x (List.mem_append.2 (.inl hx)), trodAll_stays hl hb ht.2 h2 fun x hx => hlt x (List.mem_append.2 (.inr hx)), rfl⟩
  | [], _ :: _, _, _, _, h, _ => h.elim
  | [], [], _ :: _, _, _, h, _ => h.elim
  | _ :: _, [], _, _, _, h, _ => h.elim
  | _ :: _, _ :: _, [], _, _, h, _ => h.elim
theorem shut_true {base : Nat} {spare : Nat → Bool} {held : Bool} {t : TypeId} {w : World} (ht : P.underlying t = some .bool) : DataW.TrodAll enc P w base spare held [t] [.bool true] [.lit (.bool true)] [] :=
  trodAll_mk1 (shut_bool ht _)
/-- WHAT A LAW LEAVES: true; the arguments as they were -/
theorem law_calls {f : FuncId} {fn : Func} {s : ChangeSpec} {tb : TypeId} {args : Array Value} {ds gs : List (DataW H)} {before : List MemPlace} {cs : List D} (hl : laidOutB P = true) (hv : s.vars = []) (hr : fn.resultTypes = #[tb]) (htb : P.underlying tb = some .bool)
    (hp : (fn.params.toList.all fun t => P.readableRec t && decide (t < P.types.size)) = true) (hW : DataW.Whole enc P fn.params.toList s.vars false W args.toList ds gs before)
    (hfn : (s.fn H (ds ++ gs)) = { results := [.lit (.bool true)], args := ds }) (ha : RepDs (fzW W) cs args) (h : LSpec P f cs (.ret (.b true))) :
    Calls P f args W fun e W' => ∃ v, e = .returned v ∧ s.post enc P fn false true false false W args v W' := by
  refine (h.2 (fzW W) W args (fzW_ok W) ha).mono fun e W' ⟨fz', u, hb, _, _, _, ho⟩ => ?_
  obtain ⟨rfl, hu⟩ : e = .returned (.bool true) ∧ True := by
    simp only [LO.is] at ho
    obtain ⟨rfl, hu⟩ := ho
    cases hu
    exact ⟨rfl, trivial⟩
  have hlt := fun x hx => hW.lt x hx
  have hW0 := hW
  obtain ⟨p, q, hA, hV, rfl, _, _⟩ := hW
  rw [hv] at hV
  match gs, hV with
  | [], hV =>
    obtain rfl : q = [] := hV
    refine ⟨_, rfl, ds, [], p ++ [], [], p, [], hW0, ?_, ?_, ?_, Below.frame hb _, fun h => by cases h⟩
    · rw [hfn, hr]; exact shut_true htb
    · rw [hfn]
      exact trodAll_stays hl hb hp hA fun x hx => hlt x (List.mem_append.2 (.inl hx))
    · rw [hfn, hv]; rfl
theorem RepDs.nil (fz : Fz) : RepDs fz [] #[] := ⟨rfl, fun j d u a => by simp at a⟩
theorem RepDs.cons {fz : Fz} {c : D} {cs : List D} {v : Value} {vs : List Value} (h : RepD fz c v) (this : RepDs fz cs vs.toArray) : RepDs fz (c :: cs) (v :: vs).toArray := by
  refine ⟨by simpa using this.1, fun j d u a b => ?_⟩
  cases j with
  | zero => simp at a b; subst a; subst b; exact h
  | succ j => exact this.2 j d u (by simpa using a) (by simpa using b)
end
end Go.Lm
