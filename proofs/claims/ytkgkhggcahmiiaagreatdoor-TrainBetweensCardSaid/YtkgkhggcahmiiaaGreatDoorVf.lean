/- Conditions of contracts, printed by program: frac. -/
import Derived.Test.YtkgkhggcahmiiaaGreatDoorVcB
namespace Go.Proofs.Tryz
open Go Go.RowKit Go.Lm
set_option maxRecDepth 100000
theorem vc_in {x l h : Int} {res : D} (hvc : brn (decide (l ≤ x)) (D.b (decide (x ≤ h)) = res) (D.b false = res)) : LSpec prog 53 [.k .i64 x, .k .i64 l, .k .i64 h] (.ret res) := by
  refine spec_of (f := f53) (by kernel_rfl) (by kernel_rfl) (by kernel_rfl) [] noP noHf 1000 fun F hF => ?_
  exact Eq.mpr (by kernel_rfl) hvc
theorem vc_isFraction {x y : Int} {res : D} (hvc : ∃ r, LSpec prog 53 [D.k IntKind.i64 x, D.k IntKind.i64 0, D.k IntKind.i64 50000] (LO.ret (D.b r)) ∧ brn r (∃ r, LSpec prog 53 [D.k IntKind.i64 y, D.k IntKind.i64 1, D.k IntKind.i64 50000] (LO.ret (D.b r)) ∧ D.b r = res) (D.b false = res)) : LSpec prog 52 [.agg [.k .i64 x, .k .i64 y]] (.ret res) := by
  refine spec_of (f := f52) (by kernel_rfl) (by kernel_rfl) (by kernel_rfl) [] noP noHf 1000 fun F hF => ?_
  exact Eq.mpr (by kernel_rfl) hvc
theorem vc_compare {x y z w : Int} {res : D} (hvc : brn (decide (fits IntKind.i64 (x * w))) (brn (decide (fits IntKind.i64 (z * y))) (brn (decide (fits IntKind.i64 (x * w - z * y))) (D.k IntKind.i64 (x * w - z * y) = res) False) False) False) : LSpec prog 51 [.agg [.k .i64 x, .k .i64 y], .agg [.k .i64 z, .k .i64 w]] (.ret res) := by
  refine spec_of (f := f51) (by kernel_rfl) (by kernel_rfl) (by kernel_rfl) [] noP noHf 1000 fun F hF => ?_
  exact Eq.mpr (by kernel_rfl) hvc
theorem vc_rin {x l h : Int} {res : D} (hvc : brn (decide (l ≤ x)) (D.b (decide (x ≤ h)) = res) (D.b false = res)) : LSpec prog 55 [.k .i64 x, .k .i64 l, .k .i64 h] (.ret res) := by
  refine spec_of (f := f55) (by kernel_rfl) (by kernel_rfl) (by kernel_rfl) [] noP noHf 1000 fun F hF => ?_
  exact Eq.mpr (by kernel_rfl) hvc
theorem vc_rFraction {x y : Int} {res : D} (hvc : ∃ r, LSpec prog 55 [D.k IntKind.i64 x, D.k IntKind.i64 0, D.k IntKind.i64 50000] (LO.ret (D.b r)) ∧ brn r (∃ r, LSpec prog 55 [D.k IntKind.i64 y, D.k IntKind.i64 1, D.k IntKind.i64 50000] (LO.ret (D.b r)) ∧ D.b r = res) (D.b false = res)) : LSpec prog 14 [.agg [.k .i64 x, .k .i64 y]] (.ret res) := by
  refine spec_of (f := f14) (by kernel_rfl) (by kernel_rfl) (by kernel_rfl) [] noP noHf 1000 fun F hF => ?_
  exact Eq.mpr (by kernel_rfl) hvc
theorem vc_rBound {x : Int} {res : D} (hvc : ∃ r, LSpec prog 55 [D.k IntKind.i64 x, D.k IntKind.i64 1, D.k IntKind.i64 50000] (LO.ret (D.b r)) ∧ D.b r = res) : LSpec prog 15 [.k .i64 x] (.ret res) := by
  refine spec_of (f := f15) (by kernel_rfl) (by kernel_rfl) (by kernel_rfl) [] noP noHf 1000 fun F hF => ?_
  exact Eq.mpr (by kernel_rfl) hvc
theorem vc_rReduced {x y : Int} {res : D} (hvc : ∃ r, LSpec prog 157 [D.k IntKind.i64 x, D.k IntKind.i64 y] (LO.ret (D.k IntKind.i64 r)) ∧ brn (decide (r ≠ 0 ∧ fits IntKind.i64 (x.tdiv r))) (brn (decide (r ≠ 0 ∧ fits IntKind.i64 (y.tdiv r))) (D.agg [D.k IntKind.i64 (x.tdiv r), D.k IntKind.i64 (y.tdiv r)] = res) False) False) : LSpec prog 135 [.agg [.k .i64 x, .k .i64 y]] (.ret res) := by
  refine spec_of (f := f135) (by kernel_rfl) (by kernel_rfl) (by kernel_rfl) [] noP noHf 1000 fun F hF => ?_
  exact Eq.mpr (by kernel_rfl) hvc
theorem vc_rBelow {x y z w : Int} {res : D} (hvc : brn (decide (fits IntKind.i64 (x * w))) (brn (decide (fits IntKind.i64 (z * y))) (D.b (decide (x * w < z * y)) = res) False) False) : LSpec prog 26 [.agg [.k .i64 x, .k .i64 y], .agg [.k .i64 z, .k .i64 w]] (.ret res) := by
  refine spec_of (f := f26) (by kernel_rfl) (by kernel_rfl) (by kernel_rfl) [] noP noHf 1000 fun F hF => ?_
  exact Eq.mpr (by kernel_rfl) hvc
end Go.Proofs.Tryz
