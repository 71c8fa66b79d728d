/-
  DERIVED. GIVEN WITH THE SEED: THE CARDS: each row of YtkdbaijabnhniaaGreatDoorRows.lean that lists a variable, with what it lists TIED to the program's text (the seventh form; the later family's looks); each row that meets fmt, with fmt's text TOLD by the authors' own Lean function (tested against real Go, not proved from fmt's source: count such statements apart). THE CARD IS WHAT COUNTS. Prove the row's statement (the work); the ties are given (YtkdbaijabnhniaaGreatDoorTie.lean); close each card by the builder's one call (the guide's Derived/Test/ToyasCard.lean, 'card_holds'). Laid BY PROGRAM, IN A SANDBOX (cutbox-door.mjs). By AI agents, Wed Nov 11 2026. No macro, syntax, notation, axiom, sorry.
-/
import Derived.Test.YtkdbaijabnhniaaGreatDoorRows
import GoSem.ClaimSeven
namespace Go.Proofs.YtkdbaijabnhniaaGreatDoor
namespace Rows

/-- THE TIED CARD OF 'clewlaw23.SuiteBytes'. -/
def suiteBytesCard : Claim7 := { stood := { row := suiteBytesRow, standIns := [], harness := (true, "ebbf8c0da2465b9d9882b4f94e4519dcd99905ee1f61db20f3555c92f309311c"), looks := true }, kinds := [], alts := [], laidByText := true, laidKinds := [.data, .data, .data, .data], laidTests := true, laidLooks := .later }
def SuiteBytesCardSaid : Prop := Claim7.holds Tryz.pinned (.plain (OpenSpec.ofChange suiteBytesSpec)) suiteBytesCard

/-- THE TIED CARD OF 'clewlaw23.SuiteTexts'. -/
def suiteTextsCard : Claim7 := { stood := { row := suiteTextsRow, standIns := [], harness := (true, "ebbf8c0da2465b9d9882b4f94e4519dcd99905ee1f61db20f3555c92f309311c"), looks := true }, kinds := [], alts := [], laidByText := true, laidKinds := [.data, .data, .data, .data], laidTests := true, laidLooks := .later }
def SuiteTextsCardSaid : Prop := Claim7.holds Tryz.pinned (.plain (OpenSpec.ofChange suiteTextsSpec)) suiteTextsCard

/-- THE SECOND FORM's CARD OF 'clewlaw23.SuiteBytes'. -/
def suiteBytesUptoCard : Claim7 := { stood := { row := suiteBytesUptoRow, standIns := [], harness := (true, "ebbf8c0da2465b9d9882b4f94e4519dcd99905ee1f61db20f3555c92f309311c"), looks := true }, kinds := [], alts := [], laidByText := true, laidKinds := [.data, .data, .data, .data], laidTests := true, laidLooks := .later }
def SuiteBytesUptoCardSaid : Prop := Claim7.holds Tryz.pinned (.plain (OpenSpec.upto suiteBytesSpec)) suiteBytesUptoCard

/-- THE SECOND FORM's CARD OF 'clewlaw23.SuiteTexts'. -/
def suiteTextsUptoCard : Claim7 := { stood := { row := suiteTextsUptoRow, standIns := [], harness := (true, "ebbf8c0da2465b9d9882b4f94e4519dcd99905ee1f61db20f3555c92f309311c"), looks := true }, kinds := [], alts := [], laidByText := true, laidKinds := [.data, .data, .data, .data], laidTests := true, laidLooks := .later }
def SuiteTextsUptoCardSaid : Prop := Claim7.holds Tryz.pinned (.plain (OpenSpec.upto suiteTextsSpec)) suiteTextsUptoCard
end Rows
end Go.Proofs.YtkdbaijabnhniaaGreatDoor
