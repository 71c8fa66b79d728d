/-
  DERIVED. GIVEN WITH THE SEED: THE CARDS: each row of YtnkllabpkchblaaGreatDoorRows.lean that lists a variable, with what it lists TIED to the program's text (the seventh form; the later family's looks); each row that meets fmt, with fmt's text TOLD by the authors' own Lean function (tested against real Go, not proved from fmt's source: count such statements apart). THE CARD IS WHAT COUNTS. Prove the row's statement (the work); the ties are given (YtnkllabpkchblaaGreatDoorTie.lean); close each card by the builder's one call (the guide's Derived/Test/ToyasCard.lean, 'card_holds'). Laid BY PROGRAM, IN A SANDBOX (cutbox-door.mjs). By AI agents, Wed Nov 11 2026. No macro, syntax, notation, axiom, sorry.
-/
import Derived.Test.YtnkllabpkchblaaGreatDoorRows
import GoSem.ClaimSeven
namespace Go.Proofs.YtnkllabpkchblaaGreatDoor
namespace Rows

/-- THE TIED CARD OF 'clewlaw13.StepJoins'. -/
def stepJoinsCard : Claim7 := { stood := { row := stepJoinsRow, standIns := [], harness := (true, "ef449e982ad9a753fcde013e50abd8b855c5eb05a650e379517207639c6358a3"), looks := true }, kinds := [], alts := [], laidByText := true, laidKinds := [.data], laidTests := true, laidLooks := .later }
def StepJoinsCardSaid : Prop := Claim7.holds Tryz.pinned (.plain (OpenSpec.ofChange stepJoinsSpec)) stepJoinsCard

/-- THE TIED CARD OF 'clewlaw13.StepAgain'. -/
def stepAgainCard : Claim7 := { stood := { row := stepAgainRow, standIns := [], harness := (true, "ef449e982ad9a753fcde013e50abd8b855c5eb05a650e379517207639c6358a3"), looks := true }, kinds := [], alts := [], laidByText := true, laidKinds := [.data], laidTests := true, laidLooks := .later }
def StepAgainCardSaid : Prop := Claim7.holds Tryz.pinned (.plain (OpenSpec.ofChange stepAgainSpec)) stepAgainCard

/-- THE TIED CARD OF 'clewlaw13.StepFrames'. -/
def stepFramesCard : Claim7 := { stood := { row := stepFramesRow, standIns := [], harness := (true, "ef449e982ad9a753fcde013e50abd8b855c5eb05a650e379517207639c6358a3"), looks := true }, kinds := [], alts := [], laidByText := true, laidKinds := [.data], laidTests := true, laidLooks := .later }
def StepFramesCardSaid : Prop := Claim7.holds Tryz.pinned (.plain (OpenSpec.ofChange stepFramesSpec)) stepFramesCard

/-- THE TIED CARD OF 'clewlaw17.CheckTells'. -/
def checkTellsCard : Claim7 := { stood := { row := checkTellsRow, standIns := [], harness := (true, "ef449e982ad9a753fcde013e50abd8b855c5eb05a650e379517207639c6358a3"), looks := true }, kinds := [], alts := [], laidByText := true, laidKinds := [.data, .data], laidTests := true, laidLooks := .later }
def CheckTellsCardSaid : Prop := Claim7.holds Tryz.pinned (.plain (OpenSpec.ofChange checkTellsSpec)) checkTellsCard

/-- THE TIED CARD OF 'clewlaw17.CheckBytes'. -/
def checkBytesCard : Claim7 := { stood := { row := checkBytesRow, standIns := [], harness := (true, "ef449e982ad9a753fcde013e50abd8b855c5eb05a650e379517207639c6358a3"), looks := true }, kinds := [], alts := [], laidByText := true, laidKinds := [.data, .data], laidTests := true, laidLooks := .later }
def CheckBytesCardSaid : Prop := Claim7.holds Tryz.pinned (.plain (OpenSpec.ofChange checkBytesSpec)) checkBytesCard

/-- THE TIED CARD OF 'clewlaw17.CheckSound'. -/
def checkSoundCard : Claim7 := { stood := { row := checkSoundRow, standIns := [], harness := (true, "ef449e982ad9a753fcde013e50abd8b855c5eb05a650e379517207639c6358a3"), looks := true }, kinds := [], alts := [], laidByText := true, laidKinds := [.data, .data], laidTests := true, laidLooks := .later }
def CheckSoundCardSaid : Prop := Claim7.holds Tryz.pinned (.plain (OpenSpec.ofChange checkSoundSpec)) checkSoundCard

/-- THE TIED CARD OF 'clewlaw17.CheckTwo'. -/
def checkTwoCard : Claim7 := { stood := { row := checkTwoRow, standIns := [], harness := (true, "ef449e982ad9a753fcde013e50abd8b855c5eb05a650e379517207639c6358a3"), looks := true }, kinds := [], alts := [], laidByText := true, laidKinds := [.data, .data], laidTests := true, laidLooks := .later }
def CheckTwoCardSaid : Prop := Claim7.holds Tryz.pinned (.plain (OpenSpec.ofChange checkTwoSpec)) checkTwoCard

/-- THE TIED CARD OF 'clewlaw17.CheckSkips'. -/
def checkSkipsCard : Claim7 := { stood := { row := checkSkipsRow, standIns := [], harness := (true, "ef449e982ad9a753fcde013e50abd8b855c5eb05a650e379517207639c6358a3"), looks := true }, kinds := [], alts := [], laidByText := true, laidKinds := [.data, .data], laidTests := true, laidLooks := .later }
def CheckSkipsCardSaid : Prop := Claim7.holds Tryz.pinned (.plain (OpenSpec.ofChange checkSkipsSpec)) checkSkipsCard

/-- THE TIED CARD OF 'clewlaw17.CheckShort'. -/
def checkShortCard : Claim7 := { stood := { row := checkShortRow, standIns := [], harness := (true, "ef449e982ad9a753fcde013e50abd8b855c5eb05a650e379517207639c6358a3"), looks := true }, kinds := [], alts := [], laidByText := true, laidKinds := [.data, .data], laidTests := true, laidLooks := .later }
def CheckShortCardSaid : Prop := Claim7.holds Tryz.pinned (.plain (OpenSpec.ofChange checkShortSpec)) checkShortCard

/-- THE TIED CARD OF 'clewlaw17.CheckPlaces'. -/
def checkPlacesCard : Claim7 := { stood := { row := checkPlacesRow, standIns := [], harness := (true, "ef449e982ad9a753fcde013e50abd8b855c5eb05a650e379517207639c6358a3"), looks := true }, kinds := [], alts := [], laidByText := true, laidKinds := [.data, .data], laidTests := true, laidLooks := .later }
def CheckPlacesCardSaid : Prop := Claim7.holds Tryz.pinned (.plain (OpenSpec.ofChange checkPlacesSpec)) checkPlacesCard

/-- THE TIED CARD OF 'clewlaw17.CheckCost'. -/
def checkCostCard : Claim7 := { stood := { row := checkCostRow, standIns := [], harness := (true, "ef449e982ad9a753fcde013e50abd8b855c5eb05a650e379517207639c6358a3"), looks := true }, kinds := [], alts := [], laidByText := true, laidKinds := [.data, .data], laidTests := true, laidLooks := .later }
def CheckCostCardSaid : Prop := Claim7.holds Tryz.pinned (.plain (OpenSpec.ofChange checkCostSpec)) checkCostCard

/-- THE SECOND FORM's CARD OF 'clewlaw13.StepJoins'. -/
def stepJoinsUptoCard : Claim7 := { stood := { row := stepJoinsUptoRow, standIns := [], harness := (true, "ef449e982ad9a753fcde013e50abd8b855c5eb05a650e379517207639c6358a3"), looks := true }, kinds := [], alts := [], laidByText := true, laidKinds := [.data], laidTests := true, laidLooks := .later }
def StepJoinsUptoCardSaid : Prop := Claim7.holds Tryz.pinned (.plain (OpenSpec.upto stepJoinsSpec)) stepJoinsUptoCard

/-- THE SECOND FORM's CARD OF 'clewlaw13.StepAgain'. -/
def stepAgainUptoCard : Claim7 := { stood := { row := stepAgainUptoRow, standIns := [], harness := (true, "ef449e982ad9a753fcde013e50abd8b855c5eb05a650e379517207639c6358a3"), looks := true }, kinds := [], alts := [], laidByText := true, laidKinds := [.data], laidTests := true, laidLooks := .later }
def StepAgainUptoCardSaid : Prop := Claim7.holds Tryz.pinned (.plain (OpenSpec.upto stepAgainSpec)) stepAgainUptoCard

/-- THE SECOND FORM's CARD OF 'clewlaw13.StepFrames'. -/
def stepFramesUptoCard : Claim7 := { stood := { row := stepFramesUptoRow, standIns := [], harness := (true, "ef449e982ad9a753fcde013e50abd8b855c5eb05a650e379517207639c6358a3"), looks := true }, kinds := [], alts := [], laidByText := true, laidKinds := [.data], laidTests := true, laidLooks := .later }
def StepFramesUptoCardSaid : Prop := Claim7.holds Tryz.pinned (.plain (OpenSpec.upto stepFramesSpec)) stepFramesUptoCard

/-- THE SECOND FORM's CARD OF 'clewlaw17.CheckTells'. -/
def checkTellsUptoCard : Claim7 := { stood := { row := checkTellsUptoRow, standIns := [], harness := (true, "ef449e982ad9a753fcde013e50abd8b855c5eb05a650e379517207639c6358a3"), looks := true }, kinds := [], alts := [], laidByText := true, laidKinds := [.data, .data], laidTests := true, laidLooks := .later }
def CheckTellsUptoCardSaid : Prop := Claim7.holds Tryz.pinned (.plain (OpenSpec.upto checkTellsSpec)) checkTellsUptoCard

/-- THE SECOND FORM's CARD OF 'clewlaw17.CheckBytes'. -/
def checkBytesUptoCard : Claim7 := { stood := { row := checkBytesUptoRow, standIns := [], harness := (true, "ef449e982ad9a753fcde013e50abd8b855c5eb05a650e379517207639c6358a3"), looks := true }, kinds := [], alts := [], laidByText := true, laidKinds := [.data, .data], laidTests := true, laidLooks := .later }
def CheckBytesUptoCardSaid : Prop := Claim7.holds Tryz.pinned (.plain (OpenSpec.upto checkBytesSpec)) checkBytesUptoCard

/-- THE SECOND FORM's CARD OF 'clewlaw17.CheckSound'. -/
def checkSoundUptoCard : Claim7 := { stood := { row := checkSoundUptoRow, standIns := [], harness := (true, "ef449e982ad9a753fcde013e50abd8b855c5eb05a650e379517207639c6358a3"), looks := true }, kinds := [], alts := [], laidByText := true, laidKinds := [.data, .data], laidTests := true, laidLooks := .later }
def CheckSoundUptoCardSaid : Prop := Claim7.holds Tryz.pinned (.plain (OpenSpec.upto checkSoundSpec)) checkSoundUptoCard

/-- THE SECOND FORM's CARD OF 'clewlaw17.CheckTwo'. -/
def checkTwoUptoCard : Claim7 := { stood := { row := checkTwoUptoRow, standIns := [], harness := (true, "ef449e982ad9a753fcde013e50abd8b855c5eb05a650e379517207639c6358a3"), looks := true }, kinds := [], alts := [], laidByText := true, laidKinds := [.data, .data], laidTests := true, laidLooks := .later }
def CheckTwoUptoCardSaid : Prop := Claim7.holds Tryz.pinned (.plain (OpenSpec.upto checkTwoSpec)) checkTwoUptoCard

/-- THE SECOND FORM's CARD OF 'clewlaw17.CheckSkips'. -/
def checkSkipsUptoCard : Claim7 := { stood := { row := checkSkipsUptoRow, standIns := [], harness := (true, "ef449e982ad9a753fcde013e50abd8b855c5eb05a650e379517207639c6358a3"), looks := true }, kinds := [], alts := [], laidByText := true, laidKinds := [.data, .data], laidTests := true, laidLooks := .later }
def CheckSkipsUptoCardSaid : Prop := Claim7.holds Tryz.pinned (.plain (OpenSpec.upto checkSkipsSpec)) checkSkipsUptoCard

/-- THE SECOND FORM's CARD OF 'clewlaw17.CheckShort'. -/
def checkShortUptoCard : Claim7 := { stood := { row := checkShortUptoRow, standIns := [], harness := (true, "ef449e982ad9a753fcde013e50abd8b855c5eb05a650e379517207639c6358a3"), looks := true }, kinds := [], alts := [], laidByText := true, laidKinds := [.data, .data], laidTests := true, laidLooks := .later }
def CheckShortUptoCardSaid : Prop := Claim7.holds Tryz.pinned (.plain (OpenSpec.upto checkShortSpec)) checkShortUptoCard

/-- THE SECOND FORM's CARD OF 'clewlaw17.CheckPlaces'. -/
def checkPlacesUptoCard : Claim7 := { stood := { row := checkPlacesUptoRow, standIns := [], harness := (true, "ef449e982ad9a753fcde013e50abd8b855c5eb05a650e379517207639c6358a3"), looks := true }, kinds := [], alts := [], laidByText := true, laidKinds := [.data, .data], laidTests := true, laidLooks := .later }
def CheckPlacesUptoCardSaid : Prop := Claim7.holds Tryz.pinned (.plain (OpenSpec.upto checkPlacesSpec)) checkPlacesUptoCard

/-- THE SECOND FORM's CARD OF 'clewlaw17.CheckCost'. -/
def checkCostUptoCard : Claim7 := { stood := { row := checkCostUptoRow, standIns := [], harness := (true, "ef449e982ad9a753fcde013e50abd8b855c5eb05a650e379517207639c6358a3"), looks := true }, kinds := [], alts := [], laidByText := true, laidKinds := [.data, .data], laidTests := true, laidLooks := .later }
def CheckCostUptoCardSaid : Prop := Claim7.holds Tryz.pinned (.plain (OpenSpec.upto checkCostSpec)) checkCostUptoCard
end Rows
end Go.Proofs.YtnkllabpkchblaaGreatDoor
