/- The witness' world of the seat's rows. -/
import Derived.Test.YtkgkhggcahmiiaaGreatDoorRowA
import Derived.Test.YtkgkhggcahmiiaaGreatDoorRows
namespace Go.Proofs.YtkgkhggcahmiiaaGreatDoor
open Go Go.RowKit Go.Lm
set_option maxRecDepth 100000
theorem own : ownKnob Tryz.prog.godebug = none := by kernel_rfl
theorem laidOut : laidOutB Tryz.prog = true := by kernel_rfl
noncomputable def firstG : Nat := (Tryz.prog.globalNamed "unicode/utf8.first").getD 0
def litV : DataW Unit → Value
  | .lit (.int k n) => .int k n
  | _ => .bool false
def firstCells : Array Value := match Go.Pinned.utf8First with
  | .agg l => (l.map litV).toArray
  | _ => #[]
/-- the witness' world: the door's own run, and Go's table -/
noncomputable def w0 (os : Os) : World := { World.doorLaid Tryz.prog 34 os with heap := (World.doorLaid Tryz.prog 34 os).heap.modify firstG fun
  | .cells _ t fr => .cells firstCells t fr
  | o => o }
theorem w0_shaped (os : Os) (args : Array Value) : ((w0 os).forCall (fun _ _ => 0) ⟨#[], args, []⟩).Shaped Tryz.prog := World.shaped_of_RefB (by kernel_rfl) (by kernel_rfl)
theorem w0_laid (os : Os) (args : Array Value) : laidMetH Tryz.prog Rows.trainBestsRow.laid ((w0 os).forCall (fun _ _ => 0) ⟨#[], args, []⟩).memory :=
  laidMetH_of_parts3 (fuel := 8) (laidMet_of_run' 8 (by kernel_rfl) (by kernel_rfl)) (by kernel_rfl) (by kernel_rfl)
end Go.Proofs.YtkgkhggcahmiiaaGreatDoor
