/- Words for contracts: from what is to be shown to a function's contract; loops. -/
import Derived.Test.YtkgkhggcahmiiaaGreatDoorTab
import Derived.Test.YtkgkhggcahmiiaaGreatDoorEngG
namespace Go.Proofs.Tryz
open Go Go.RowKit Go.Lm
set_option maxRecDepth 100000
noncomputable def bodyOf (f : Func) : Code := match f.body with
  | some c => c
  | none => .skip
def noP : FuncId → Bool := fun _ => false
def noB : Nat → LS → Prop := fun _ _ => False
/-- the slots that a loop and what stands behind it look at -/
noncomputable def uL (f : Func) (Bs : Nat → LS → Prop) (i u : Nat) : Nat := (useC (.loop (lpAt f Bs i).1) 0 (useK (lpAt f Bs i).2 u)).2
noncomputable def rsOf (f : Func) : Nat := resU f.results.toList 0
theorem spec_of {f : Func} {g : FuncId} {args : List D} {o : LO} (hfu : lk tab g = some f) (hb : f.body = some (bodyOf f)) (hn : Nat.ble args.length f.ntmps = true) (U : List Nat) (pn : FuncId → Bool) (hf : Hf) (n : Nat)
    (h : ∀ F : Fx → LS → Prop, (∀ fx s, RetD prog f.results.toList o fx s → F fx s) → Go.Lm.vx prog f.ntmps 0 F (retG prog f.results.toList o) (lk tab) U pn hf (rsOf f) n [.code (bodyOf f)] ⟨envD 0 args, [], 0, [], []⟩) : LSpec prog g args o :=
  LSpec.vx mx tabOk.fn hfu hb hn U pn hf n h
theorem gx_of {f : Func} {o : LO} {F : Fx → LS → Prop} (hF : ∀ fx s, RetD prog f.results.toList o fx s → F fx s) (U : List Nat) (pn : FuncId → Bool) (hf : Hf) (rs n : Nat) {k : List It} {s : LS} (hk : tailPlain k)
    (h : Go.Lm.vx prog f.ntmps 0 F (retG prog f.results.toList o) (lk tab) U pn hf rs n k s) : gx ⟨prog, f.ntmps, 0, xo prog, F⟩ k s :=
  vx_ok mx (fun fx s hg => hF fx s (retG_ok hg)) n k s hk h
theorem loop_of {f : Func} {o : LO} {F : Fx → LS → Prop} (hF : ∀ fx s, RetD prog f.results.toList o fx s → F fx s) (U : List Nat) (pn : FuncId → Bool) (hf : Hf) (rs n : Nat) {Bs : Nat → LS → Prop} {id : Nat} {s : LS} {α : Type} (I : α → LS) (pre : α → Prop) (μ : α → Nat) (x0 : α) (R0 : List (Nat × Option Nat))
    (h0 : pre x0) (hw : Wr 0 R0 s (I x0))
    (round : ∀ x, pre x → ∀ B : LS → Prop, (∀ x' R s', pre x' → μ x' < μ x → Wr 0 R s' (I x') → B s') →
      Go.Lm.vx prog f.ntmps 0 F (retG prog f.results.toList o) (lk tab) U pn hf (uL f Bs id rs) n (.code (lpAt f Bs id).1 :: .back (fun s => B (s.keep (uL f Bs id rs))) :: (lpAt f Bs id).2) (I x)) : LeafAt prog f F Bs id s :=
  Leaf.loopV mx (uL f Bs id rs) I pre μ x0 R0 (lpAt_plain f Bs id) h0 hw fun x hx B hB => gx_of hF U pn hf (uL f Bs id rs) n (fun y hy => by
    rcases List.mem_cons.1 hy with rfl | hy
    · trivial
    · exact lpAt_plain f Bs id y hy) (round x hx B hB)
end Go.Proofs.Tryz
