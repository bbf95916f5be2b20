/- Conditions of contracts, printed by program: turn2. -/
import Derived.Test.YtnmnccboggljhaaGreatDoorVf
namespace Go.Proofs.Tryz
open Go Go.RowKit Go.Lm
set_option maxRecDepth 100000
theorem vc_Again0 {rows : List (List D)} {res : D} (hvc : ∀ F : Fx → LS → Prop, (∀ fx s, RetD prog f14.results.toList (.ret res) fx s → F fx s) → ∃ r, LSpec prog 55 [D.sl 2 rows] (LO.ret (D.b r)) ∧ brn (!r) (D.tup [D.k IntKind.i64 0, D.k IntKind.i64 2] = res) (LeafAt prog f14 F noB 5 { env := [(12, V.d (D.k IntKind.i64 0)), (11, V.d (D.k IntKind.i64 (rows.length : Int))), (4, V.d (D.k IntKind.i64 1)), (3, V.d (D.k IntKind.i64 0)), (2, V.d (D.k IntKind.i64 0)), (0, V.d (D.sl 2 rows))], heap := [], fresh := 0, taken := [], dfs := [] })) : LSpec prog 14 [.sl 2 rows] (.ret res) := by
  refine spec_of (f := f14) (by kernel_rfl) (by kernel_rfl) (by kernel_rfl) [] noP noHf 1000 fun F hF => ?_
  exact Eq.mpr (by kernel_rfl) (hvc F hF)
end Go.Proofs.Tryz
