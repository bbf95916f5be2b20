/- Closed runs: known() is true. -/
import Derived.Test.YtkgkhggcahmiiaaGreatDoorKnG
namespace Go.Proofs.Tryz
open Go Go.RowKit Go.Lm
set_option maxRecDepth 100000
theorem k_share : LSpec prog 40 [Rd, .sl 2 [[ki 43, ki 30], [ki 1, ki 1]], ki 3, ki 100] (.ret (.tup [.sl 1 [[Td], [pl [(6, 6)]]], ki 14400, ki 0])) := runS TP_ok 100000 (by kernel_rfl)
def knL : List (Nat × List D × LO) := [
  (12, [Fd, ki 10], .ret (.tup [fr 10 7, ki 0])),
  (13, [Fd, ki 10], .ret (.tup [fr 10 7, fr 13 9, ki 0])),
  (57, [Fd], .ret (.tup [il [1, 2, 3, 4], ki 0])),
  (20, [Rd, Fd], .ret (.tup [Td, ki 0])),
  (37, [Td, Fd, ki 100], .ret (.tup [ki 14400, ki 0])),
  (24, [Td, Fd, fr 13 9, ki 100], .ret (.tup [fr (-9600) 14400, ki 0])),
  (30, [Td, Fd, ki 720, il [4, 8, 9, 12], ki 14], .ret (.tup [il [0, 2], ki 0])),
  (36, [Td, Fd, il [4, 8, 9, 12], il [0, 2], ki 10], .ret (.tup [ki 7344, ki 0])),
  (40, [Rd, .sl 2 [[ki 43, ki 30], [ki 1, ki 1]], ki 3, ki 100], .ret (.tup [.sl 1 [[Td], [pl [(6, 6)]]], ki 14400, ki 0])),
  (61, [.s [114, 117, 108, 101, 32, 52, 32, 52, 32, 49, 32, 97, 110, 121, 10, 110, 101, 118, 101, 114, 10, 101, 110, 100, 32, 48, 57, 53, 10]], .ret (.tup [.agg [ki 4, ki 4, ki 1, ki 1, .nil], .nil, ki 0]))]
theorem knL_ok : ∀ x ∈ knL, LSpec prog x.1 x.2.1 x.2.2 := fun x hx => by
  simp only [knL, List.mem_cons, List.mem_nil_iff, or_false] at hx
  rcases hx with rfl | rfl | rfl | rfl | rfl | rfl | rfl | rfl | rfl | rfl
  · exact k_best
  · exact k_around
  · exact k_chain
  · exact k_nearest
  · exact k_off
  · exact k_between
  · exact k_settings
  · exact k_shown
  · exact k_share
  · exact k_read
/-- known() is true -/
theorem known_spec : LSpec prog 16 [] (.ret (.b true)) := runT knL knL_ok 100000 (by kernel_rfl)
#print axioms known_spec
end Go.Proofs.Tryz
