/- Closed runs: the nearest fractions among products, whatever else the wheels are. -/
import Derived.Test.YtkgkhggcahmiiaaGreatDoorKnA
import Derived.Test.YtkgkhggcahmiiaaGreatDoorPres
namespace Go.Proofs.Tryz
open Go Go.RowKit Go.Lm
set_option maxRecDepth 100000
def L1 : List Int := [6, 8, 9, 10, 11, 12]
def L2 : List Int := [36, 48, 54, 60, 64, 66, 72, 80, 81, 88, 90, 96, 99, 100, 108, 110, 120, 121, 132, 144]
/-- wheels: rows of products and of marks -/
def whD (a b p d : Int) (nv te sr mr : List (List D)) : D := .agg [.k .i64 a, .k .i64 b, .k .i64 p, .k .i64 d, .sl 1 nv, .sl 1 te, .sl 1 sr, .sl 1 mr]
def m0D : D := .sl 1 [[.b false], [.b true]]
section
variable (a b p d : Int) (nv te mr : List (List D)) (s0 s1 s2 m1 m2 : D)
theorem near1F : LSpec prog 120 [whD a b p d nv te [[s0], [il L1]] mr, ki 1, Fd] (.ret (.tup [pl [(11, 8)], fr 14 8])) := run0 100000 (by kernel_rfl)
theorem near1I : LSpec prog 120 [whD a b p d nv te [[s0], [il L1]] mr, ki 1, fr 1 1] (.ret (.tup [pl [(1, 1)], fr 0 1])) := run0 100000 (by kernel_rfl)
theorem near1F2 : LSpec prog 120 [whD a b p d nv te [[s0], [il L1], [s2]] mr, ki 1, Fd] (.ret (.tup [pl [(11, 8)], fr 14 8])) := run0 100000 (by kernel_rfl)
theorem near1I2 : LSpec prog 120 [whD a b p d nv te [[s0], [il L1], [s2]] mr, ki 1, fr 1 1] (.ret (.tup [pl [(1, 1)], fr 0 1])) := run0 100000 (by kernel_rfl)
theorem first1F (sr : List (List D)) : LSpec prog 124 [whD a b p d nv (ints L1) sr [[m0D], [m1]], ki 1, fr 11 8] (.ret (pl [(11, 8)])) := run0 100000 (by kernel_rfl)
theorem first1I (sr : List (List D)) : LSpec prog 124 [whD a b p d nv (ints L1) sr [[m0D], [m1]], ki 1, fr 1 1] (.ret (pl [(6, 6)])) := run0 100000 (by kernel_rfl)
theorem first1I2 (sr : List (List D)) : LSpec prog 124 [whD a b p d nv (ints L1) sr [[m0D], [m1], [m2]], ki 1, fr 1 1] (.ret (pl [(6, 6)])) := run0 100000 (by kernel_rfl)
end
end Go.Proofs.Tryz
