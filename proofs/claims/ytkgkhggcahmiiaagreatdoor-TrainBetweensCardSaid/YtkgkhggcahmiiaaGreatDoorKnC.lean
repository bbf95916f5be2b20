/- Closed runs: the nearest fractions among products of two wheels. -/
import Derived.Test.YtkgkhggcahmiiaaGreatDoorKnB
namespace Go.Proofs.Tryz
open Go Go.RowKit Go.Lm
set_option maxRecDepth 100000
theorem near2F (a b p d : Int) (nv te mr : List (List D)) (s0 s1 : D) : LSpec prog 120 [whD a b p d nv te [[s0], [s1], [il L2]] mr, ki 2, Fd] (.ret (.tup [pl [(36, 25)], fr 5 25])) := run0 100000 (by kernel_rfl)
end Go.Proofs.Tryz
