/- Closed runs: the first train of two pairs. -/
import Derived.Test.YtkgkhggcahmiiaaGreatDoorKnB
namespace Go.Proofs.Tryz
open Go Go.RowKit Go.Lm
set_option maxRecDepth 100000
def M1 : List (List D) := (List.range 61).map fun i => [.b (Nat.testBit 8000 i)]
theorem first2F (a b p d : Int) (nv sr : List (List D)) (m2 : D) : LSpec prog 124 [whD a b p d nv (ints L1) sr [[m0D], [.sl 1 M1], [m2]], ki 2, fr 36 25] (.ret (pl [(12, 10), (12, 10)])) := run0 100000 (by kernel_rfl)
end Go.Proofs.Tryz
