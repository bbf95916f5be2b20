/- Contracts: gcd, reduced. -/
import Derived.Test.YtkgkhggcahmiiaaGreatDoorVcB
namespace Go.Proofs.Tryz
open Go Go.RowKit Go.Lm
set_option maxRecDepth 100000
theorem gcd_step {x y : Int} (hx : 0 ≤ x) (hy : 0 < y) : Int.gcd y (x.tmod y) = Int.gcd x y := by
  obtain ⟨m, rfl⟩ := Int.eq_ofNat_of_zero_le hx
  obtain ⟨n, rfl⟩ := Int.eq_ofNat_of_zero_le (Int.le_of_lt hy)
  rw [← Int.ofNat_tmod, Int.gcd_natCast_natCast, Int.gcd_natCast_natCast, Nat.gcd_comm n, ← Nat.gcd_rec, Nat.gcd_comm]
theorem gcd_spec (a b : Int) (ha : 0 ≤ a) (hb : 0 ≤ b) : LSpec prog 156 [.k .i64 a, .k .i64 b] (.ret (.k .i64 (Int.gcd a b))) := by
  refine spec_of (f := f156) (by kernel_rfl) (by kernel_rfl) (by kernel_rfl) [] noP noHf 1000 fun F hF => ?_
  refine Eq.mpr (β := LeafAt prog f156 F noB 1 { env := [(4, V.d (D.k IntKind.i64 0)), (0, V.d (D.k IntKind.i64 a)), (1, V.d (D.k IntKind.i64 b))], heap := [], fresh := 0, taken := [], dfs := [] }) (by kernel_rfl) ?_
  refine loop_of hF [] noP noHf (rsOf f156) 1000 (fun x : Int × Int => ⟨[(0, .d (.k .i64 x.1)), (1, .d (.k .i64 x.2)), (4, .d (.k .i64 0))], [], 0, [], []⟩) (fun x => 0 ≤ x.1 ∧ 0 ≤ x.2 ∧ Int.gcd x.1 x.2 = Int.gcd a b) (fun x => x.2.toNat) (a, b) [] ⟨ha, hb, rfl⟩ (Wr.of rfl rfl rfl rfl ⟨rfl, rfl, rfl, trivial⟩ trivial) ?_
  rintro ⟨x, y⟩ ⟨hx, hy, hg⟩ B hB
  refine Eq.mpr (β := brn (decide (0 < y)) (brn (decide (y ≠ 0)) (B { env := [(1, V.d (D.k IntKind.i64 (x.tmod y))), (0, V.d (D.k IntKind.i64 y)), (4, V.d (D.k IntKind.i64 0))], heap := [], fresh := 0, taken := [], dfs := [] }) False) (D.k IntKind.i64 x = .k .i64 (Int.gcd a b))) (by kernel_rfl) ?_
  simp only at hx hy hg
  refine brn_intro (fun h => ?_) (fun h => ?_)
  · have h := of_decide_eq_true h
    refine brn_must (decide_eq_true (by omega)) ?_
    refine hB (y, x.tmod y) [] _ ⟨hy, Int.tmod_nonneg _ hx, ?_⟩ ?_ (Wr.of rfl rfl rfl rfl ⟨rfl, rfl, rfl, trivial⟩ trivial)
    · rw [← hg]; exact gcd_step hx h
    · have := Int.tmod_lt_of_pos x h
      have := Int.tmod_nonneg y hx
      simp only
      omega
  · have h := of_decide_eq_false h
    obtain rfl : y = 0 := by omega
    rw [← hg, Int.gcd_zero_right]
    congr 1
    omega
end Go.Proofs.Tryz
