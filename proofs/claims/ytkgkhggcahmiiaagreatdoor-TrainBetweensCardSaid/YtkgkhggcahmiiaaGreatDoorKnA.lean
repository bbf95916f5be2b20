/- Closed runs: what known() computes, but for the nearest trains. -/
import Derived.Test.YtkgkhggcahmiiaaGreatDoorVcB
import Derived.Test.YtkgkhggcahmiiaaGreatDoorEngG
namespace Go.Proofs.Tryz
open Go Go.RowKit Go.Lm
set_option maxRecDepth 100000
def W0 (g : FuncId) : Bool := Nat.beq g 95 || Nat.beq g 102
def E0 (g : FuncId) : List D → Option D
  | [.s l, .k .u8 c] => match Nat.beq g 171 with
    | true => some (.k .i64 ((l.count c.toNat.toUInt8 : Nat) : Int))
    | false => match Nat.beq g 183 with
      | true => some (.k .i64 (idxB l c.toNat.toUInt8 0))
      | false => none
  | _ => none
theorem hE0 : ∀ g ds d, E0 g ds = some d → Direct prog g ds d := by
  intro g ds d h
  unfold E0 at h
  split at h
  · rename_i l c
    split at h
    · rename_i hg
      cases h
      obtain rfl := Nat.eq_of_beq_eq_true hg
      exact direct_count (f := f171) func171 (by kernel_rfl) (by kernel_rfl) (by kernel_rfl) (by kernel_rfl) l c
    · split at h
      · rename_i hg
        cases h
        obtain rfl := Nat.eq_of_beq_eq_true hg
        exact direct_index (f := f183) func183 (by kernel_rfl) (by kernel_rfl) (by kernel_rfl) (by kernel_rfl) l c
      · cases h
  · cases h
def T0 : FuncId → List D → Option LO := fun _ _ => none
theorem run0 (n : Nat) {g : FuncId} {ds : List D} {o : LO} (h : callX prog T0 (lk tab) (exK prog W0 E0 T0 (lk tab) n) g ds = some o) : LSpec prog g ds o :=
  LSpec.runK mx tabOk.fn hE0 (fun g ds o h => by cases h) n h
theorem runT (l : List (Nat × List D × LO)) (hl : ∀ x ∈ l, LSpec prog x.1 x.2.1 x.2.2) (n : Nat) {g : FuncId} {ds : List D} {o : LO} (h : callX prog (tabT l) (lk tab) (exK prog W0 E0 (tabT l) (lk tab) n) g ds = some o) : LSpec prog g ds o :=
  LSpec.runK mx tabOk.fn hE0 (tabT_ok hl) n h
def ki (a : Int) : D := .k .i64 a
def fr (a b : Int) : D := .agg [.k .i64 a, .k .i64 b]
def il (l : List Int) : D := .sl 1 (l.map fun x => [.k .i64 x])
def pl (l : List (Int × Int)) : D := .sl 2 (l.map fun x => [.k .i64 x.1, .k .i64 x.2])
def Fd : D := fr 43 30
def Td : D := pl [(12, 10), (12, 10)]
def bytes (s : String) : List UInt8 := s.toUTF8.data.toList
theorem k_best : LSpec prog 12 [Fd, ki 10] (.ret (.tup [fr 10 7, ki 0])) := run0 100000 (by kernel_rfl)
theorem k_around : LSpec prog 13 [Fd, ki 10] (.ret (.tup [fr 10 7, fr 13 9, ki 0])) := run0 100000 (by kernel_rfl)
theorem k_chain : LSpec prog 57 [Fd] (.ret (.tup [il [1, 2, 3, 4], ki 0])) := run0 100000 (by kernel_rfl)
theorem k_off : LSpec prog 37 [Td, Fd, ki 100] (.ret (.tup [ki 14400, ki 0])) := run0 100000 (by kernel_rfl)
theorem k_between : LSpec prog 24 [Td, Fd, fr 13 9, ki 100] (.ret (.tup [fr (-9600) 14400, ki 0])) := run0 100000 (by kernel_rfl)
theorem k_settings : LSpec prog 30 [Td, Fd, ki 720, il [4, 8, 9, 12], ki 14] (.ret (.tup [il [0, 2], ki 0])) := run0 100000 (by kernel_rfl)
theorem k_shown : LSpec prog 36 [Td, Fd, il [4, 8, 9, 12], il [0, 2], ki 10] (.ret (.tup [ki 7344, ki 0])) := run0 100000 (by kernel_rfl)
theorem k_read : LSpec prog 61 [.s [114, 117, 108, 101, 32, 52, 32, 52, 32, 49, 32, 97, 110, 121, 10, 110, 101, 118, 101, 114, 10, 101, 110, 100, 32, 48, 57, 53, 10]] (.ret (.tup [.agg [ki 4, ki 4, ki 1, ki 1, .nil], .nil, ki 0])) := run0 100000 (by kernel_rfl)
end Go.Proofs.Tryz
