/-
  DERIVED. GIVEN WITH THE SEED: THE CARDS: each row of YtnmnccboggljhaaGreatDoorRows.lean that lists a variable, with what it lists TIED to the program's text (the seventh form; the later family's looks); each row that meets fmt, with fmt's text TOLD by the authors' own Lean function (tested against real Go, not proved from fmt's source: count such statements apart). THE CARD IS WHAT COUNTS. Prove the row's statement (the work); the ties are given (YtnmnccboggljhaaGreatDoorTie.lean); close each card by the builder's one call (the guide's Derived/Test/ToyasCard.lean, 'card_holds'). Laid BY PROGRAM, IN A SANDBOX (cutbox-door.mjs). By AI agents, Wed Nov 11 2026. No macro, syntax, notation, axiom, sorry.
-/
import Derived.Test.YtnmnccboggljhaaGreatDoorRows
import GoSem.ClaimSeven
namespace Go.Proofs.YtnmnccboggljhaaGreatDoor
namespace Rows

/-- THE TIED CARD OF 'tellurionlaw01.TrainWhole'. -/
def trainWholeCard : Claim7 := { stood := { row := trainWholeRow, standIns := [], harness := (true, "1ee4b9b21c8db02a07689c58f5f9af9f85562696b7cdd2cc47bd291458c80ed2"), looks := true }, kinds := [], alts := [], laidByText := true, laidKinds := [.data, .data, .data, .data, .pinned], laidTests := true, laidLooks := .later }
def TrainWholeCardSaid : Prop := Claim7.holds Tryz.pinned (.plain (OpenSpec.ofChange trainWholeSpec)) trainWholeCard

/-- THE TIED CARD OF 'tellurionlaw01.TrainProved'. -/
def trainProvedCard : Claim7 := { stood := { row := trainProvedRow, standIns := [], harness := (true, "1ee4b9b21c8db02a07689c58f5f9af9f85562696b7cdd2cc47bd291458c80ed2"), looks := true }, kinds := [], alts := [], laidByText := true, laidKinds := [.data, .data, .data, .data, .pinned], laidTests := true, laidLooks := .later }
def TrainProvedCardSaid : Prop := Claim7.holds Tryz.pinned (.plain (OpenSpec.ofChange trainProvedSpec)) trainProvedCard

/-- THE TIED CARD OF 'tellurionlaw01.TrainProves'. -/
def trainProvesCard : Claim7 := { stood := { row := trainProvesRow, standIns := [], harness := (true, "1ee4b9b21c8db02a07689c58f5f9af9f85562696b7cdd2cc47bd291458c80ed2"), looks := true }, kinds := [], alts := [], laidByText := true, laidKinds := [.data, .data, .data, .data, .pinned], laidTests := true, laidLooks := .later }
def TrainProvesCardSaid : Prop := Claim7.holds Tryz.pinned (.plain (OpenSpec.ofChange trainProvesSpec)) trainProvesCard

/-- THE TIED CARD OF 'tellurionlaw01.TrainTurns'. -/
def trainTurnsCard : Claim7 := { stood := { row := trainTurnsRow, standIns := [], harness := (true, "1ee4b9b21c8db02a07689c58f5f9af9f85562696b7cdd2cc47bd291458c80ed2"), looks := true }, kinds := [], alts := [], laidByText := true, laidKinds := [.data, .data, .data, .data, .pinned], laidTests := true, laidLooks := .later }
def TrainTurnsCardSaid : Prop := Claim7.holds Tryz.pinned (.plain (OpenSpec.ofChange trainTurnsSpec)) trainTurnsCard

/-- THE TIED CARD OF 'tellurionlaw01.TrainFits'. -/
def trainFitsCard : Claim7 := { stood := { row := trainFitsRow, standIns := [], harness := (true, "1ee4b9b21c8db02a07689c58f5f9af9f85562696b7cdd2cc47bd291458c80ed2"), looks := true }, kinds := [], alts := [], laidByText := true, laidKinds := [.data, .data, .data, .data, .pinned], laidTests := true, laidLooks := .later }
def TrainFitsCardSaid : Prop := Claim7.holds Tryz.pinned (.plain (OpenSpec.ofChange trainFitsSpec)) trainFitsCard

/-- THE TIED CARD OF 'tellurionlaw01.TrainRivals'. -/
def trainRivalsCard : Claim7 := { stood := { row := trainRivalsRow, standIns := [], harness := (true, "1ee4b9b21c8db02a07689c58f5f9af9f85562696b7cdd2cc47bd291458c80ed2"), looks := true }, kinds := [], alts := [], laidByText := true, laidKinds := [.data, .data, .data, .data, .pinned], laidTests := true, laidLooks := .later }
def TrainRivalsCardSaid : Prop := Claim7.holds Tryz.pinned (.plain (OpenSpec.ofChange trainRivalsSpec)) trainRivalsCard

/-- THE TIED CARD OF 'tellurionlaw01.TrainChains'. -/
def trainChainsCard : Claim7 := { stood := { row := trainChainsRow, standIns := [], harness := (true, "1ee4b9b21c8db02a07689c58f5f9af9f85562696b7cdd2cc47bd291458c80ed2"), looks := true }, kinds := [], alts := [], laidByText := true, laidKinds := [.data, .data, .data, .data, .pinned], laidTests := true, laidLooks := .later }
def TrainChainsCardSaid : Prop := Claim7.holds Tryz.pinned (.plain (OpenSpec.ofChange trainChainsSpec)) trainChainsCard

/-- THE TIED CARD OF 'tellurionlaw01.TrainFolds'. -/
def trainFoldsCard : Claim7 := { stood := { row := trainFoldsRow, standIns := [], harness := (true, "1ee4b9b21c8db02a07689c58f5f9af9f85562696b7cdd2cc47bd291458c80ed2"), looks := true }, kinds := [], alts := [], laidByText := true, laidKinds := [.data, .data, .data, .data, .pinned], laidTests := true, laidLooks := .later }
def TrainFoldsCardSaid : Prop := Claim7.holds Tryz.pinned (.plain (OpenSpec.ofChange trainFoldsSpec)) trainFoldsCard

/-- THE SECOND FORM's CARD OF 'tellurionlaw01.TrainWhole'. -/
def trainWholeUptoCard : Claim7 := { stood := { row := trainWholeUptoRow, standIns := [], harness := (true, "1ee4b9b21c8db02a07689c58f5f9af9f85562696b7cdd2cc47bd291458c80ed2"), looks := true }, kinds := [], alts := [], laidByText := true, laidKinds := [.data, .data, .data, .data, .pinned], laidTests := true, laidLooks := .later }
def TrainWholeUptoCardSaid : Prop := Claim7.holds Tryz.pinned (.plain (OpenSpec.upto trainWholeSpec)) trainWholeUptoCard

/-- THE SECOND FORM's CARD OF 'tellurionlaw01.TrainProved'. -/
def trainProvedUptoCard : Claim7 := { stood := { row := trainProvedUptoRow, standIns := [], harness := (true, "1ee4b9b21c8db02a07689c58f5f9af9f85562696b7cdd2cc47bd291458c80ed2"), looks := true }, kinds := [], alts := [], laidByText := true, laidKinds := [.data, .data, .data, .data, .pinned], laidTests := true, laidLooks := .later }
def TrainProvedUptoCardSaid : Prop := Claim7.holds Tryz.pinned (.plain (OpenSpec.upto trainProvedSpec)) trainProvedUptoCard

/-- THE SECOND FORM's CARD OF 'tellurionlaw01.TrainProves'. -/
def trainProvesUptoCard : Claim7 := { stood := { row := trainProvesUptoRow, standIns := [], harness := (true, "1ee4b9b21c8db02a07689c58f5f9af9f85562696b7cdd2cc47bd291458c80ed2"), looks := true }, kinds := [], alts := [], laidByText := true, laidKinds := [.data, .data, .data, .data, .pinned], laidTests := true, laidLooks := .later }
def TrainProvesUptoCardSaid : Prop := Claim7.holds Tryz.pinned (.plain (OpenSpec.upto trainProvesSpec)) trainProvesUptoCard

/-- THE SECOND FORM's CARD OF 'tellurionlaw01.TrainTurns'. -/
def trainTurnsUptoCard : Claim7 := { stood := { row := trainTurnsUptoRow, standIns := [], harness := (true, "1ee4b9b21c8db02a07689c58f5f9af9f85562696b7cdd2cc47bd291458c80ed2"), looks := true }, kinds := [], alts := [], laidByText := true, laidKinds := [.data, .data, .data, .data, .pinned], laidTests := true, laidLooks := .later }
def TrainTurnsUptoCardSaid : Prop := Claim7.holds Tryz.pinned (.plain (OpenSpec.upto trainTurnsSpec)) trainTurnsUptoCard

/-- THE SECOND FORM's CARD OF 'tellurionlaw01.TrainFits'. -/
def trainFitsUptoCard : Claim7 := { stood := { row := trainFitsUptoRow, standIns := [], harness := (true, "1ee4b9b21c8db02a07689c58f5f9af9f85562696b7cdd2cc47bd291458c80ed2"), looks := true }, kinds := [], alts := [], laidByText := true, laidKinds := [.data, .data, .data, .data, .pinned], laidTests := true, laidLooks := .later }
def TrainFitsUptoCardSaid : Prop := Claim7.holds Tryz.pinned (.plain (OpenSpec.upto trainFitsSpec)) trainFitsUptoCard

/-- THE SECOND FORM's CARD OF 'tellurionlaw01.TrainRivals'. -/
def trainRivalsUptoCard : Claim7 := { stood := { row := trainRivalsUptoRow, standIns := [], harness := (true, "1ee4b9b21c8db02a07689c58f5f9af9f85562696b7cdd2cc47bd291458c80ed2"), looks := true }, kinds := [], alts := [], laidByText := true, laidKinds := [.data, .data, .data, .data, .pinned], laidTests := true, laidLooks := .later }
def TrainRivalsUptoCardSaid : Prop := Claim7.holds Tryz.pinned (.plain (OpenSpec.upto trainRivalsSpec)) trainRivalsUptoCard

/-- THE SECOND FORM's CARD OF 'tellurionlaw01.TrainChains'. -/
def trainChainsUptoCard : Claim7 := { stood := { row := trainChainsUptoRow, standIns := [], harness := (true, "1ee4b9b21c8db02a07689c58f5f9af9f85562696b7cdd2cc47bd291458c80ed2"), looks := true }, kinds := [], alts := [], laidByText := true, laidKinds := [.data, .data, .data, .data, .pinned], laidTests := true, laidLooks := .later }
def TrainChainsUptoCardSaid : Prop := Claim7.holds Tryz.pinned (.plain (OpenSpec.upto trainChainsSpec)) trainChainsUptoCard

/-- THE SECOND FORM's CARD OF 'tellurionlaw01.TrainFolds'. -/
def trainFoldsUptoCard : Claim7 := { stood := { row := trainFoldsUptoRow, standIns := [], harness := (true, "1ee4b9b21c8db02a07689c58f5f9af9f85562696b7cdd2cc47bd291458c80ed2"), looks := true }, kinds := [], alts := [], laidByText := true, laidKinds := [.data, .data, .data, .data, .pinned], laidTests := true, laidLooks := .later }
def TrainFoldsUptoCardSaid : Prop := Claim7.holds Tryz.pinned (.plain (OpenSpec.upto trainFoldsSpec)) trainFoldsUptoCard
end Rows
end Go.Proofs.YtnmnccboggljhaaGreatDoor
