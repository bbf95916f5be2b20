/- From a contract of the logical machine to a row: the arguments as data, what the call leaves, the witness' world. -/
import Derived.Test.YtnmnccboggljhaaGreatDoorLmX
import Derived.ProofKit
import Derived.LaidMore
import Derived.OpenShut
import Derived.Stop.Joined
import Derived.Carry
import Derived.Lib.SmallJoins
namespace Go.Lm
open Go Go.RowKit Go.ChangeShapes Go.WideShapes Go.ChangeAt Go.WideElems

def fzW (W : World) : Fz := fun b o => W.cell? ⟨b, o, none⟩
theorem fzW_ok (W : World) : FzOk (fzW W) W := fun _ _ _ h => h
section
variable {H : Type} {enc : TypeId × Value → H} {P : Program} {W : World}
/-- an argument and its datum -/
def ArgD (W : World) (v : Value) (d : D) : Prop := RepD (fzW W) d v
theorem arg_int {base b0 : Nat} {spare : Nat → Bool} {held : Bool} {r : Reach} {t : TypeId} {v : Value} {d : DataW H} {ps : List MemPlace} (ht : P.underlying t = some (.int .i64)) (hval : Value.okWide P W r b0 t v)
    (hd : DataW.Trod enc P W base spare held t v d ps) : ∃ n : Int, ArgD W v (.k .i64 n) ∧ (Lit.int .i64 n).wf = true := by
  obtain ⟨n, rfl, _, _, hw⟩ := open_int ht hval hd
  exact ⟨n, .k _ _, hw⟩
theorem int_of_trod {base : Nat} {spare : Nat → Bool} {held : Bool} {t : TypeId} {n : Nat} {v : Value} {y : DataW H × List MemPlace} (ht : P.underlying t = some (.int .i64)) (h : DataW.trod enc P W base spare held n t [v] = some y) :
    ∃ k : Int, v = .int .i64 k ∧ (Lit.int .i64 k).wf = true := by
  obtain ⟨k, h1, _, h2⟩ := DataW.trod_int ht h
  simp at h1
  exact ⟨k, h1, h2⟩
theorem arg_pair {base b0 : Nat} {spare : Nat → Bool} {held : Bool} {r : Reach} {t : TypeId} {f0 f1 : Field} {v : Value} {d : DataW H} {ps : List MemPlace} (hs : P.underlying t = some (.struct #[f0, f1])) (hone : Go.Deep.oneCellFields P #[f0, f1] = true) (hC : P.cellsOf t = 2)
    (h0 : P.underlying f0.type = some (.int .i64)) (h1 : P.underlying f1.type = some (.int .i64)) (hval : Value.okWide P W r b0 t v)
    (hd : DataW.Trod enc P W base spare held t v d ps) : ∃ n m : Int, ArgD W v (.agg [.k .i64 n, .k .i64 m]) ∧ (Lit.int .i64 n).wf = true ∧ (Lit.int .i64 m).wf = true := by
  obtain ⟨v0, v1, y0, y1, k, rfl, _, _, k0, k1⟩ := Go.Joins.open_agg2 hs hone hC hval hd
  obtain ⟨n, rfl, hn⟩ := int_of_trod h0 k0
  obtain ⟨m, rfl, hm⟩ := int_of_trod h1 k1
  exact ⟨n, m, .agg rfl (fun j d u a b => by
    match j with
    | 0 => cases a; simp at b; subst b; exact .k _ _
    | 1 => cases a; simp at b; subst b; exact .k _ _
    | j + 2 => simp at a), hn, hm⟩
theorem trodAll_stays (hl : laidOutB P = true) {W' : World} (hb : Below W.heap.size W W') : ∀ {ts : List TypeId} {vs : List Value} {ds : List (DataW H)} {ps : List MemPlace}, (ts.all fun t => P.readableRec t && decide (t < P.types.size)) = true →
    DataW.TrodAll enc P W 0 (fun _ => true) true ts vs ds ps → (∀ x ∈ ps, x.block < W.heap.size) → DataW.TrodAll enc P W' 0 (fun b => decide (b < W.heap.size)) true ts vs ds ps
  | [], [], [], _, _, h, _ => h
  | t :: ts, v :: vs, d :: ds, ps, ht, h, hlt => by
    obtain ⟨p, q, h1, h2, rfl⟩ := h
    simp only [List.all_cons, Bool.and_eq_true, decide_eq_true_eq] at ht
    exact ⟨p, q, Below.trod hl ht.1.1 ht.1.2 h1 hb fun x hx => hlt x (List.mem_append.2 (.inl hx)), trodAll_stays hl hb ht.2 h2 fun x hx => hlt x (List.mem_append.2 (.inr hx)), rfl⟩
  | [], _ :: _, _, _, _, h, _ => h.elim
  | [], [], _ :: _, _, _, h, _ => h.elim
  | _ :: _, [], _, _, _, h, _ => h.elim
  | _ :: _, _ :: _, [], _, _, h, _ => h.elim
theorem shut_true {base : Nat} {spare : Nat → Bool} {held : Bool} {t : TypeId} {w : World} (ht : P.underlying t = some .bool) : DataW.TrodAll enc P w base spare held [t] [.bool true] [.lit (.bool true)] [] :=
  trodAll_mk1 (shut_bool ht _)
/-- WHAT A LAW LEAVES: true; the arguments as they were -/
theorem law_calls {f : FuncId} {fn : Func} {s : ChangeSpec} {tb : TypeId} {args : Array Value} {ds gs : List (DataW H)} {before : List MemPlace} {cs : List D} (hl : laidOutB P = true) (hv : s.vars = []) (hr : fn.resultTypes = #[tb]) (htb : P.underlying tb = some .bool)
    (hp : (fn.params.toList.all fun t => P.readableRec t && decide (t < P.types.size)) = true) (hW : DataW.Whole enc P fn.params.toList s.vars false W args.toList ds gs before)
    (hfn : (s.fn H (ds ++ gs)) = { results := [.lit (.bool true)], args := ds }) (ha : RepDs (fzW W) cs args) (h : LSpec P f cs (.ret (.b true))) :
    Calls P f args W fun e W' => ∃ v, e = .returned v ∧ s.post enc P fn false true false false W args v W' := by
  refine (h.2 (fzW W) W args (fzW_ok W) ha).mono fun e W' ⟨fz', u, hb, _, _, _, ho⟩ => ?_
  obtain ⟨rfl, hu⟩ : e = .returned (.bool true) ∧ True := by
    simp only [LO.is] at ho
    obtain ⟨rfl, hu⟩ := ho
    cases hu
    exact ⟨rfl, trivial⟩
  have hlt := fun x hx => hW.lt x hx
  have hW0 := hW
  obtain ⟨p, q, hA, hV, rfl, _, _⟩ := hW
  rw [hv] at hV
  match gs, hV with
  | [], hV =>
    obtain rfl : q = [] := hV
    refine ⟨_, rfl, ds, [], p ++ [], [], p, [], hW0, ?_, ?_, ?_, Below.frame hb _, fun h => by cases h⟩
    · rw [hfn, hr]; exact shut_true htb
    · rw [hfn]
      exact trodAll_stays hl hb hp hA fun x hx => hlt x (List.mem_append.2 (.inl hx))
    · rw [hfn, hv]; rfl
theorem RepDs.nil (fz : Fz) : RepDs fz [] #[] := ⟨rfl, fun j d u a => by simp at a⟩
theorem RepDs.cons {fz : Fz} {c : D} {cs : List D} {v : Value} {vs : List Value} (h : RepD fz c v) (this : RepDs fz cs vs.toArray) : RepDs fz (c :: cs) (v :: vs).toArray := by
  refine ⟨by simpa using this.1, fun j d u a b => ?_⟩
  cases j with
  | zero => simp at a b; subst a; subst b; exact h
  | succ j => exact this.2 j d u (by simpa using a) (by simpa using b)
end
end Go.Lm
