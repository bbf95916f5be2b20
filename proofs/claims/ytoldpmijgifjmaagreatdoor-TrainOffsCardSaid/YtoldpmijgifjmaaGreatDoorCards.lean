/-
  DERIVED. GIVEN WITH THE SEED: THE CARDS: each row of YtoldpmijgifjmaaGreatDoorRows.lean that lists a variable, with what it lists TIED to the program's text (the seventh form; the later family's looks); each row that meets fmt, with fmt's text TOLD by the authors' own Lean function (tested against real Go, not proved from fmt's source: count such statements apart). THE CARD IS WHAT COUNTS. Prove the row's statement (the work); the ties are given (YtoldpmijgifjmaaGreatDoorTie.lean); close each card by the builder's one call (the guide's Derived/Test/ToyasCard.lean, 'card_holds'). Laid BY PROGRAM, IN A SANDBOX (cutbox-door.mjs). By AI agents, Wed Nov 11 2026. No macro, syntax, notation, axiom, sorry.
-/
import Derived.Test.YtoldpmijgifjmaaGreatDoorRows
import GoSem.ClaimSeven
namespace Go.Proofs.YtoldpmijgifjmaaGreatDoor
namespace Rows

/-- THE TIED CARD OF 'tellurionlaw01.TrainOffs'. -/
def trainOffsCard : Claim7 := { stood := { row := trainOffsRow, standIns := [], harness := (true, "24fbf403ce332d965156d8e0d90377ab4d0266098d15e98db6d10c9a373c850a"), looks := true }, kinds := [], alts := [], laidByText := true, laidKinds := [.data, .data, .data, .data, .pinned], laidTests := true, laidLooks := .later }
def TrainOffsCardSaid : Prop := Claim7.holds Tryz.pinned (.plain (OpenSpec.ofChange trainOffsSpec)) trainOffsCard

/-- THE TIED CARD OF 'tellurionlaw01.TrainTrue'. -/
def trainTrueCard : Claim7 := { stood := { row := trainTrueRow, standIns := [], harness := (true, "24fbf403ce332d965156d8e0d90377ab4d0266098d15e98db6d10c9a373c850a"), looks := true }, kinds := [], alts := [], laidByText := true, laidKinds := [.data, .data, .data, .data, .pinned], laidTests := true, laidLooks := .later }
def TrainTrueCardSaid : Prop := Claim7.holds Tryz.pinned (.plain (OpenSpec.ofChange trainTrueSpec)) trainTrueCard

/-- THE TIED CARD OF 'tellurionlaw01.TrainKeeps'. -/
def trainKeepsCard : Claim7 := { stood := { row := trainKeepsRow, standIns := [], harness := (true, "24fbf403ce332d965156d8e0d90377ab4d0266098d15e98db6d10c9a373c850a"), looks := true }, kinds := [], alts := [], laidByText := true, laidKinds := [.data, .data, .data, .data, .pinned], laidTests := true, laidLooks := .later }
def TrainKeepsCardSaid : Prop := Claim7.holds Tryz.pinned (.plain (OpenSpec.ofChange trainKeepsSpec)) trainKeepsCard

/-- THE TIED CARD OF 'tellurionlaw01.TrainFewest'. -/
def trainFewestCard : Claim7 := { stood := { row := trainFewestRow, standIns := [], harness := (true, "24fbf403ce332d965156d8e0d90377ab4d0266098d15e98db6d10c9a373c850a"), looks := true }, kinds := [], alts := [], laidByText := true, laidKinds := [.data, .data, .data, .data, .pinned], laidTests := true, laidLooks := .later }
def TrainFewestCardSaid : Prop := Claim7.holds Tryz.pinned (.plain (OpenSpec.ofChange trainFewestSpec)) trainFewestCard

/-- THE TIED CARD OF 'tellurionlaw01.TrainMore'. -/
def trainMoreCard : Claim7 := { stood := { row := trainMoreRow, standIns := [], harness := (true, "24fbf403ce332d965156d8e0d90377ab4d0266098d15e98db6d10c9a373c850a"), looks := true }, kinds := [], alts := [], laidByText := true, laidKinds := [.data, .data, .data, .data, .pinned], laidTests := true, laidLooks := .later }
def TrainMoreCardSaid : Prop := Claim7.holds Tryz.pinned (.plain (OpenSpec.ofChange trainMoreSpec)) trainMoreCard

/-- THE TIED CARD OF 'tellurionlaw01.TrainPrints'. -/
def trainPrintsCard : Claim7 := { stood := { row := trainPrintsRow, standIns := [], harness := (true, "24fbf403ce332d965156d8e0d90377ab4d0266098d15e98db6d10c9a373c850a"), looks := true }, kinds := [], alts := [], laidByText := true, laidKinds := [.data, .data, .data, .data, .pinned], laidTests := true, laidLooks := .later }
def TrainPrintsCardSaid : Prop := Claim7.holds Tryz.pinned (.plain (OpenSpec.ofChange trainPrintsSpec)) trainPrintsCard

/-- THE TIED CARD OF 'tellurionlaw01.TrainReads'. -/
def trainReadsCard : Claim7 := { stood := { row := trainReadsRow, standIns := [], harness := (true, "24fbf403ce332d965156d8e0d90377ab4d0266098d15e98db6d10c9a373c850a"), looks := true }, kinds := [], alts := [], laidByText := true, laidKinds := [.data, .data, .data, .data, .pinned], laidTests := true, laidLooks := .later }
def TrainReadsCardSaid : Prop := Claim7.holds Tryz.pinned (.plain (OpenSpec.ofChange trainReadsSpec)) trainReadsCard

/-- THE TIED CARD OF 'tellurionlaw01.TrainSpoilt'. -/
def trainSpoiltCard : Claim7 := { stood := { row := trainSpoiltRow, standIns := [], harness := (true, "24fbf403ce332d965156d8e0d90377ab4d0266098d15e98db6d10c9a373c850a"), looks := true }, kinds := [], alts := [], laidByText := true, laidKinds := [.data, .data, .data, .data, .pinned], laidTests := true, laidLooks := .later }
def TrainSpoiltCardSaid : Prop := Claim7.holds Tryz.pinned (.plain (OpenSpec.ofChange trainSpoiltSpec)) trainSpoiltCard

/-- THE TIED CARD OF 'tellurionlaw01.TrainCuts'. -/
def trainCutsCard : Claim7 := { stood := { row := trainCutsRow, standIns := [], harness := (true, "24fbf403ce332d965156d8e0d90377ab4d0266098d15e98db6d10c9a373c850a"), looks := true }, kinds := [], alts := [], laidByText := true, laidKinds := [.data, .data, .data, .data, .pinned], laidTests := true, laidLooks := .later }
def TrainCutsCardSaid : Prop := Claim7.holds Tryz.pinned (.plain (OpenSpec.ofChange trainCutsSpec)) trainCutsCard

/-- THE SECOND FORM's CARD OF 'tellurionlaw01.TrainOffs'. -/
def trainOffsUptoCard : Claim7 := { stood := { row := trainOffsUptoRow, standIns := [], harness := (true, "24fbf403ce332d965156d8e0d90377ab4d0266098d15e98db6d10c9a373c850a"), looks := true }, kinds := [], alts := [], laidByText := true, laidKinds := [.data, .data, .data, .data, .pinned], laidTests := true, laidLooks := .later }
def TrainOffsUptoCardSaid : Prop := Claim7.holds Tryz.pinned (.plain (OpenSpec.upto trainOffsSpec)) trainOffsUptoCard

/-- THE SECOND FORM's CARD OF 'tellurionlaw01.TrainTrue'. -/
def trainTrueUptoCard : Claim7 := { stood := { row := trainTrueUptoRow, standIns := [], harness := (true, "24fbf403ce332d965156d8e0d90377ab4d0266098d15e98db6d10c9a373c850a"), looks := true }, kinds := [], alts := [], laidByText := true, laidKinds := [.data, .data, .data, .data, .pinned], laidTests := true, laidLooks := .later }
def TrainTrueUptoCardSaid : Prop := Claim7.holds Tryz.pinned (.plain (OpenSpec.upto trainTrueSpec)) trainTrueUptoCard

/-- THE SECOND FORM's CARD OF 'tellurionlaw01.TrainKeeps'. -/
def trainKeepsUptoCard : Claim7 := { stood := { row := trainKeepsUptoRow, standIns := [], harness := (true, "24fbf403ce332d965156d8e0d90377ab4d0266098d15e98db6d10c9a373c850a"), looks := true }, kinds := [], alts := [], laidByText := true, laidKinds := [.data, .data, .data, .data, .pinned], laidTests := true, laidLooks := .later }
def TrainKeepsUptoCardSaid : Prop := Claim7.holds Tryz.pinned (.plain (OpenSpec.upto trainKeepsSpec)) trainKeepsUptoCard

/-- THE SECOND FORM's CARD OF 'tellurionlaw01.TrainFewest'. -/
def trainFewestUptoCard : Claim7 := { stood := { row := trainFewestUptoRow, standIns := [], harness := (true, "24fbf403ce332d965156d8e0d90377ab4d0266098d15e98db6d10c9a373c850a"), looks := true }, kinds := [], alts := [], laidByText := true, laidKinds := [.data, .data, .data, .data, .pinned], laidTests := true, laidLooks := .later }
def TrainFewestUptoCardSaid : Prop := Claim7.holds Tryz.pinned (.plain (OpenSpec.upto trainFewestSpec)) trainFewestUptoCard

/-- THE SECOND FORM's CARD OF 'tellurionlaw01.TrainMore'. -/
def trainMoreUptoCard : Claim7 := { stood := { row := trainMoreUptoRow, standIns := [], harness := (true, "24fbf403ce332d965156d8e0d90377ab4d0266098d15e98db6d10c9a373c850a"), looks := true }, kinds := [], alts := [], laidByText := true, laidKinds := [.data, .data, .data, .data, .pinned], laidTests := true, laidLooks := .later }
def TrainMoreUptoCardSaid : Prop := Claim7.holds Tryz.pinned (.plain (OpenSpec.upto trainMoreSpec)) trainMoreUptoCard

/-- THE SECOND FORM's CARD OF 'tellurionlaw01.TrainPrints'. -/
def trainPrintsUptoCard : Claim7 := { stood := { row := trainPrintsUptoRow, standIns := [], harness := (true, "24fbf403ce332d965156d8e0d90377ab4d0266098d15e98db6d10c9a373c850a"), looks := true }, kinds := [], alts := [], laidByText := true, laidKinds := [.data, .data, .data, .data, .pinned], laidTests := true, laidLooks := .later }
def TrainPrintsUptoCardSaid : Prop := Claim7.holds Tryz.pinned (.plain (OpenSpec.upto trainPrintsSpec)) trainPrintsUptoCard

/-- THE SECOND FORM's CARD OF 'tellurionlaw01.TrainReads'. -/
def trainReadsUptoCard : Claim7 := { stood := { row := trainReadsUptoRow, standIns := [], harness := (true, "24fbf403ce332d965156d8e0d90377ab4d0266098d15e98db6d10c9a373c850a"), looks := true }, kinds := [], alts := [], laidByText := true, laidKinds := [.data, .data, .data, .data, .pinned], laidTests := true, laidLooks := .later }
def TrainReadsUptoCardSaid : Prop := Claim7.holds Tryz.pinned (.plain (OpenSpec.upto trainReadsSpec)) trainReadsUptoCard

/-- THE SECOND FORM's CARD OF 'tellurionlaw01.TrainSpoilt'. -/
def trainSpoiltUptoCard : Claim7 := { stood := { row := trainSpoiltUptoRow, standIns := [], harness := (true, "24fbf403ce332d965156d8e0d90377ab4d0266098d15e98db6d10c9a373c850a"), looks := true }, kinds := [], alts := [], laidByText := true, laidKinds := [.data, .data, .data, .data, .pinned], laidTests := true, laidLooks := .later }
def TrainSpoiltUptoCardSaid : Prop := Claim7.holds Tryz.pinned (.plain (OpenSpec.upto trainSpoiltSpec)) trainSpoiltUptoCard

/-- THE SECOND FORM's CARD OF 'tellurionlaw01.TrainCuts'. -/
def trainCutsUptoCard : Claim7 := { stood := { row := trainCutsUptoRow, standIns := [], harness := (true, "24fbf403ce332d965156d8e0d90377ab4d0266098d15e98db6d10c9a373c850a"), looks := true }, kinds := [], alts := [], laidByText := true, laidKinds := [.data, .data, .data, .data, .pinned], laidTests := true, laidLooks := .later }
def TrainCutsUptoCardSaid : Prop := Claim7.holds Tryz.pinned (.plain (OpenSpec.upto trainCutsSpec)) trainCutsUptoCard
end Rows
end Go.Proofs.YtoldpmijgifjmaaGreatDoor
