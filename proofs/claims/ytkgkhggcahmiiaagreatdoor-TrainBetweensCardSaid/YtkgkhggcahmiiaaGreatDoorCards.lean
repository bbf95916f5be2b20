/-
  DERIVED. GIVEN WITH THE SEED: THE CARDS: each row of YtkgkhggcahmiiaaGreatDoorRows.lean that lists a variable, with what it lists TIED to the program's text (the seventh form; the later family's looks); each row that meets fmt, with fmt's text TOLD by the authors' own Lean function (tested against real Go, not proved from fmt's source: count such statements apart). THE CARD IS WHAT COUNTS. Prove the row's statement (the work); the ties are given (YtkgkhggcahmiiaaGreatDoorTie.lean); close each card by the builder's one call (the guide's Derived/Test/ToyasCard.lean, 'card_holds'). Laid BY PROGRAM, IN A SANDBOX (cutbox-door.mjs). By AI agents, Wed Nov 11 2026. No macro, syntax, notation, axiom, sorry.
-/
import Derived.Test.YtkgkhggcahmiiaaGreatDoorRows
import GoSem.ClaimSeven
namespace Go.Proofs.YtkgkhggcahmiiaaGreatDoor
namespace Rows

/-- THE TIED CARD OF 'tellurionlaw01.TrainBests'. -/
def trainBestsCard : Claim7 := { stood := { row := trainBestsRow, standIns := [], harness := (true, "92c2d8d4a83377390fc3c885eee39a8edfc0a7aac1d8a50d4179521ae992f15d"), looks := true }, kinds := [], alts := [], laidByText := true, laidKinds := [.data, .data, .data, .data, .pinned], laidTests := true, laidLooks := .later }
def TrainBestsCardSaid : Prop := Claim7.holds Tryz.pinned (.plain (OpenSpec.ofChange trainBestsSpec)) trainBestsCard

/-- THE TIED CARD OF 'tellurionlaw01.TrainNearests'. -/
def trainNearestsCard : Claim7 := { stood := { row := trainNearestsRow, standIns := [], harness := (true, "92c2d8d4a83377390fc3c885eee39a8edfc0a7aac1d8a50d4179521ae992f15d"), looks := true }, kinds := [], alts := [], laidByText := true, laidKinds := [.data, .data, .data, .data, .pinned], laidTests := true, laidLooks := .later }
def TrainNearestsCardSaid : Prop := Claim7.holds Tryz.pinned (.plain (OpenSpec.ofChange trainNearestsSpec)) trainNearestsCard

/-- THE TIED CARD OF 'tellurionlaw01.TrainBetweens'. -/
def trainBetweensCard : Claim7 := { stood := { row := trainBetweensRow, standIns := [], harness := (true, "92c2d8d4a83377390fc3c885eee39a8edfc0a7aac1d8a50d4179521ae992f15d"), looks := true }, kinds := [], alts := [], laidByText := true, laidKinds := [.data, .data, .data, .data, .pinned], laidTests := true, laidLooks := .later }
def TrainBetweensCardSaid : Prop := Claim7.holds Tryz.pinned (.plain (OpenSpec.ofChange trainBetweensSpec)) trainBetweensCard

/-- THE TIED CARD OF 'tellurionlaw01.TrainSettings'. -/
def trainSettingsCard : Claim7 := { stood := { row := trainSettingsRow, standIns := [], harness := (true, "92c2d8d4a83377390fc3c885eee39a8edfc0a7aac1d8a50d4179521ae992f15d"), looks := true }, kinds := [], alts := [], laidByText := true, laidKinds := [.data, .data, .data, .data, .pinned], laidTests := true, laidLooks := .later }
def TrainSettingsCardSaid : Prop := Claim7.holds Tryz.pinned (.plain (OpenSpec.ofChange trainSettingsSpec)) trainSettingsCard

/-- THE TIED CARD OF 'tellurionlaw01.TrainRight'. -/
def trainRightCard : Claim7 := { stood := { row := trainRightRow, standIns := [], harness := (true, "92c2d8d4a83377390fc3c885eee39a8edfc0a7aac1d8a50d4179521ae992f15d"), looks := true }, kinds := [], alts := [], laidByText := true, laidKinds := [.data, .data, .data, .data, .pinned], laidTests := true, laidLooks := .later }
def TrainRightCardSaid : Prop := Claim7.holds Tryz.pinned (.plain (OpenSpec.ofChange trainRightSpec)) trainRightCard

/-- THE TIED CARD OF 'tellurionlaw01.TrainShares'. -/
def trainSharesCard : Claim7 := { stood := { row := trainSharesRow, standIns := [], harness := (true, "92c2d8d4a83377390fc3c885eee39a8edfc0a7aac1d8a50d4179521ae992f15d"), looks := true }, kinds := [], alts := [], laidByText := true, laidKinds := [.data, .data, .data, .data, .pinned], laidTests := true, laidLooks := .later }
def TrainSharesCardSaid : Prop := Claim7.holds Tryz.pinned (.plain (OpenSpec.ofChange trainSharesSpec)) trainSharesCard

/-- THE TIED CARD OF 'tellurionlaw01.TrainWorst'. -/
def trainWorstCard : Claim7 := { stood := { row := trainWorstRow, standIns := [], harness := (true, "92c2d8d4a83377390fc3c885eee39a8edfc0a7aac1d8a50d4179521ae992f15d"), looks := true }, kinds := [], alts := [], laidByText := true, laidKinds := [.data, .data, .data, .data, .pinned], laidTests := true, laidLooks := .later }
def TrainWorstCardSaid : Prop := Claim7.holds Tryz.pinned (.plain (OpenSpec.ofChange trainWorstSpec)) trainWorstCard

/-- THE TIED CARD OF 'tellurionlaw01.TrainLess'. -/
def trainLessCard : Claim7 := { stood := { row := trainLessRow, standIns := [], harness := (true, "92c2d8d4a83377390fc3c885eee39a8edfc0a7aac1d8a50d4179521ae992f15d"), looks := true }, kinds := [], alts := [], laidByText := true, laidKinds := [.data, .data, .data, .data, .pinned], laidTests := true, laidLooks := .later }
def TrainLessCardSaid : Prop := Claim7.holds Tryz.pinned (.plain (OpenSpec.ofChange trainLessSpec)) trainLessCard

/-- THE TIED CARD OF 'tellurionlaw01.TrainNearers'. -/
def trainNearersCard : Claim7 := { stood := { row := trainNearersRow, standIns := [], harness := (true, "92c2d8d4a83377390fc3c885eee39a8edfc0a7aac1d8a50d4179521ae992f15d"), looks := true }, kinds := [], alts := [], laidByText := true, laidKinds := [.data, .data, .data, .data, .pinned], laidTests := true, laidLooks := .later }
def TrainNearersCardSaid : Prop := Claim7.holds Tryz.pinned (.plain (OpenSpec.ofChange trainNearersSpec)) trainNearersCard

/-- THE SECOND FORM's CARD OF 'tellurionlaw01.TrainBests'. -/
def trainBestsUptoCard : Claim7 := { stood := { row := trainBestsUptoRow, standIns := [], harness := (true, "92c2d8d4a83377390fc3c885eee39a8edfc0a7aac1d8a50d4179521ae992f15d"), looks := true }, kinds := [], alts := [], laidByText := true, laidKinds := [.data, .data, .data, .data, .pinned], laidTests := true, laidLooks := .later }
def TrainBestsUptoCardSaid : Prop := Claim7.holds Tryz.pinned (.plain (OpenSpec.upto trainBestsSpec)) trainBestsUptoCard

/-- THE SECOND FORM's CARD OF 'tellurionlaw01.TrainNearests'. -/
def trainNearestsUptoCard : Claim7 := { stood := { row := trainNearestsUptoRow, standIns := [], harness := (true, "92c2d8d4a83377390fc3c885eee39a8edfc0a7aac1d8a50d4179521ae992f15d"), looks := true }, kinds := [], alts := [], laidByText := true, laidKinds := [.data, .data, .data, .data, .pinned], laidTests := true, laidLooks := .later }
def TrainNearestsUptoCardSaid : Prop := Claim7.holds Tryz.pinned (.plain (OpenSpec.upto trainNearestsSpec)) trainNearestsUptoCard

/-- THE SECOND FORM's CARD OF 'tellurionlaw01.TrainBetweens'. -/
def trainBetweensUptoCard : Claim7 := { stood := { row := trainBetweensUptoRow, standIns := [], harness := (true, "92c2d8d4a83377390fc3c885eee39a8edfc0a7aac1d8a50d4179521ae992f15d"), looks := true }, kinds := [], alts := [], laidByText := true, laidKinds := [.data, .data, .data, .data, .pinned], laidTests := true, laidLooks := .later }
def TrainBetweensUptoCardSaid : Prop := Claim7.holds Tryz.pinned (.plain (OpenSpec.upto trainBetweensSpec)) trainBetweensUptoCard

/-- THE SECOND FORM's CARD OF 'tellurionlaw01.TrainSettings'. -/
def trainSettingsUptoCard : Claim7 := { stood := { row := trainSettingsUptoRow, standIns := [], harness := (true, "92c2d8d4a83377390fc3c885eee39a8edfc0a7aac1d8a50d4179521ae992f15d"), looks := true }, kinds := [], alts := [], laidByText := true, laidKinds := [.data, .data, .data, .data, .pinned], laidTests := true, laidLooks := .later }
def TrainSettingsUptoCardSaid : Prop := Claim7.holds Tryz.pinned (.plain (OpenSpec.upto trainSettingsSpec)) trainSettingsUptoCard

/-- THE SECOND FORM's CARD OF 'tellurionlaw01.TrainRight'. -/
def trainRightUptoCard : Claim7 := { stood := { row := trainRightUptoRow, standIns := [], harness := (true, "92c2d8d4a83377390fc3c885eee39a8edfc0a7aac1d8a50d4179521ae992f15d"), looks := true }, kinds := [], alts := [], laidByText := true, laidKinds := [.data, .data, .data, .data, .pinned], laidTests := true, laidLooks := .later }
def TrainRightUptoCardSaid : Prop := Claim7.holds Tryz.pinned (.plain (OpenSpec.upto trainRightSpec)) trainRightUptoCard

/-- THE SECOND FORM's CARD OF 'tellurionlaw01.TrainShares'. -/
def trainSharesUptoCard : Claim7 := { stood := { row := trainSharesUptoRow, standIns := [], harness := (true, "92c2d8d4a83377390fc3c885eee39a8edfc0a7aac1d8a50d4179521ae992f15d"), looks := true }, kinds := [], alts := [], laidByText := true, laidKinds := [.data, .data, .data, .data, .pinned], laidTests := true, laidLooks := .later }
def TrainSharesUptoCardSaid : Prop := Claim7.holds Tryz.pinned (.plain (OpenSpec.upto trainSharesSpec)) trainSharesUptoCard

/-- THE SECOND FORM's CARD OF 'tellurionlaw01.TrainWorst'. -/
def trainWorstUptoCard : Claim7 := { stood := { row := trainWorstUptoRow, standIns := [], harness := (true, "92c2d8d4a83377390fc3c885eee39a8edfc0a7aac1d8a50d4179521ae992f15d"), looks := true }, kinds := [], alts := [], laidByText := true, laidKinds := [.data, .data, .data, .data, .pinned], laidTests := true, laidLooks := .later }
def TrainWorstUptoCardSaid : Prop := Claim7.holds Tryz.pinned (.plain (OpenSpec.upto trainWorstSpec)) trainWorstUptoCard

/-- THE SECOND FORM's CARD OF 'tellurionlaw01.TrainLess'. -/
def trainLessUptoCard : Claim7 := { stood := { row := trainLessUptoRow, standIns := [], harness := (true, "92c2d8d4a83377390fc3c885eee39a8edfc0a7aac1d8a50d4179521ae992f15d"), looks := true }, kinds := [], alts := [], laidByText := true, laidKinds := [.data, .data, .data, .data, .pinned], laidTests := true, laidLooks := .later }
def TrainLessUptoCardSaid : Prop := Claim7.holds Tryz.pinned (.plain (OpenSpec.upto trainLessSpec)) trainLessUptoCard

/-- THE SECOND FORM's CARD OF 'tellurionlaw01.TrainNearers'. -/
def trainNearersUptoCard : Claim7 := { stood := { row := trainNearersUptoRow, standIns := [], harness := (true, "92c2d8d4a83377390fc3c885eee39a8edfc0a7aac1d8a50d4179521ae992f15d"), looks := true }, kinds := [], alts := [], laidByText := true, laidKinds := [.data, .data, .data, .data, .pinned], laidTests := true, laidLooks := .later }
def TrainNearersUptoCardSaid : Prop := Claim7.holds Tryz.pinned (.plain (OpenSpec.upto trainNearersSpec)) trainNearersUptoCard
end Rows
end Go.Proofs.YtkgkhggcahmiiaaGreatDoor
