/-
  NARROWER THAN 'FOR EVERY INPUT', by the rows' own cells (each row's printed sentence says how): StepJoins: laid · StepAgain: laid · StepFrames: laid · CheckTells: laid · CheckBytes: laid · CheckSound: laid · CheckTwo: laid · CheckSkips: laid · CheckShort: laid · CheckPlaces: laid · CheckCost: laid.
  DERIVED. THE GIVEN ROWS OF THIS SEAT. 11 by the template 'for every input the law returns true; each argument reads behind the call as it read before'; 0 by the template 'total and deterministic' (their statements: YtnkllabpkchblaaGreatDoorTotals.lean).
  GIVEN WITH THE SEED: the statements are not yours to turn. If you find one false, say at which input.
  Laid BY PROGRAM, IN A SANDBOX (cutbox-rows.mjs): the forced cells as the released guide's own fill.sh prints them over the translation c872e53e1526f80c… (all of the seat's roots in one cut). By AI agents, Wed Nov 11 2026. No macro, syntax, notation, axiom, sorry.
-/
import Derived.Test.YtnkllabpkchblaaGreatDoorChecked
import GoSem.Claim
import GoSem.ClaimJoined
import GoSem.ClaimMapViews
import Derived.JoinedTies
import Derived.KernelRfl
namespace Go.Proofs.YtnkllabpkchblaaGreatDoor
/- THE CELL 'sum', in the pinned program and in every row, IS THE sha256 OF THE DUMP (.gsa) THAT YtnkllabpkchblaaGreatDoorProg.lean LOADS. Nothing in Lean hashes anything: it is a label: what it is worth is what the hold of that sum in a sandbox is worth. -/
noncomputable def Tryz.pinned : Pinned := { name := "ytnkllabpkchblaagreatdoor", sum := "c872e53e1526f80c5b842ffdae5a09ecbd346e9b6d3d037b3e39455348e24adb", checked := Tryz.checked }
namespace Rows
def none {H : Type} : Left H := { results := [], args := [] }

/- WHAT THE LISTED PACKAGE-LEVEL VARIABLES READ AS WHEN THE CALL BEGINS. Each datum BY PROGRAM (the guide's laid-datum.mjs) off the statement by which the dump's own 'gosem.cut.vars' lays the variable. In a bare row this is a premise. The card (YtnkllabpkchblaaGreatDoorCards.lean) ties it to the program's text. -/
def laid_math_bits_deBruijn64tab {H : Type} : DataW H := .agg [.lit (.int .u8 0), .lit (.int .u8 1), .lit (.int .u8 56), .lit (.int .u8 2), .lit (.int .u8 57), .lit (.int .u8 49), .lit (.int .u8 28), .lit (.int .u8 3), .lit (.int .u8 61), .lit (.int .u8 58), .lit (.int .u8 42), .lit (.int .u8 50), .lit (.int .u8 38), .lit (.int .u8 29), .lit (.int .u8 17), .lit (.int .u8 4), .lit (.int .u8 62), .lit (.int .u8 47), .lit (.int .u8 59), .lit (.int .u8 36), .lit (.int .u8 45), .lit (.int .u8 43), .lit (.int .u8 51), .lit (.int .u8 22), .lit (.int .u8 53), .lit (.int .u8 39), .lit (.int .u8 33), .lit (.int .u8 30), .lit (.int .u8 24), .lit (.int .u8 18), .lit (.int .u8 12), .lit (.int .u8 5), .lit (.int .u8 63), .lit (.int .u8 55), .lit (.int .u8 48), .lit (.int .u8 27), .lit (.int .u8 60), .lit (.int .u8 41), .lit (.int .u8 37), .lit (.int .u8 16), .lit (.int .u8 46), .lit (.int .u8 35), .lit (.int .u8 44), .lit (.int .u8 21), .lit (.int .u8 52), .lit (.int .u8 32), .lit (.int .u8 23), .lit (.int .u8 11), .lit (.int .u8 54), .lit (.int .u8 26), .lit (.int .u8 40), .lit (.int .u8 15), .lit (.int .u8 34), .lit (.int .u8 20), .lit (.int .u8 31), .lit (.int .u8 10), .lit (.int .u8 25), .lit (.int .u8 14), .lit (.int .u8 19), .lit (.int .u8 9), .lit (.int .u8 13), .lit (.int .u8 8), .lit (.int .u8 7), .lit (.int .u8 6)]
def laid_clew_crc_table {H : Type} : DataW H := .agg [.lit (.int .u32 0), .lit (.int .u32 8801531), .lit (.int .u32 9098509), .lit (.int .u32 825846), .lit (.int .u32 9692897), .lit (.int .u32 1419802), .lit (.int .u32 1651692), .lit (.int .u32 10452759), .lit (.int .u32 10584377), .lit (.int .u32 2608578), .lit (.int .u32 2839604), .lit (.int .u32 11344079), .lit (.int .u32 3303384), .lit (.int .u32 11807523), .lit (.int .u32 12104405), .lit (.int .u32 4128302)]

/-- 'clewlaw13.StepJoins': WHATEVER THE INPUT: true; the input reads as it did. -/
def stepJoinsSpec : ChangeSpec := { name := "stepJoins", fn := fun _ => fun
  | [d1, d2, d3] => { results := [.lit (.bool true)], args := [d1, d2, d3] }
  | _ => none }
def stepJoinsRow : OpenClaim := { program := "ytnkllabpkchblaagreatdoor", sum := "c872e53e1526f80c5b842ffdae5a09ecbd346e9b6d3d037b3e39455348e24adb", func := "clew/clewlaw13.StepJoins", spec := "stepJoins", inPlace := ["internal/bytealg.IndexByteString", "internal/bytealg.IndexString"], unfollowed := true, recurses := true, named := ["math/bits.deBruijn64tab", "internal/bytealg.MaxLen"], plainKeys := false, apart := false, laid := [("math/bits.deBruijn64tab", laid_math_bits_deBruijn64tab)] }
def StepJoinsSaid : Prop := stepJoinsRow.holds Tryz.pinned (OpenSpec.ofChange stepJoinsSpec)

/-- ITS FALSE NEIGHBOUR: 'it returns false'. Refute it at one input. -/
def stepJoinsWrong : ChangeSpec := { name := "stepJoins", fn := fun _ => fun
  | [d1, d2, d3] => { results := [.lit (.bool false)], args := [d1, d2, d3] }
  | _ => none }
def StepJoinsWrongFalsely : Prop := stepJoinsRow.holds Tryz.pinned (OpenSpec.ofChange stepJoinsWrong)

/-- 'clewlaw13.StepAgain': WHATEVER THE INPUT: true; the input reads as it did. -/
def stepAgainSpec : ChangeSpec := { name := "stepAgain", fn := fun _ => fun
  | [d1, d2, d3] => { results := [.lit (.bool true)], args := [d1, d2, d3] }
  | _ => none }
def stepAgainRow : OpenClaim := { program := "ytnkllabpkchblaagreatdoor", sum := "c872e53e1526f80c5b842ffdae5a09ecbd346e9b6d3d037b3e39455348e24adb", func := "clew/clewlaw13.StepAgain", spec := "stepAgain", inPlace := ["internal/bytealg.IndexByteString", "internal/bytealg.IndexString"], unfollowed := true, recurses := true, named := ["math/bits.deBruijn64tab", "internal/bytealg.MaxLen"], plainKeys := false, apart := false, laid := [("math/bits.deBruijn64tab", laid_math_bits_deBruijn64tab)] }
def StepAgainSaid : Prop := stepAgainRow.holds Tryz.pinned (OpenSpec.ofChange stepAgainSpec)

/-- ITS FALSE NEIGHBOUR: 'it returns false'. Refute it at one input. -/
def stepAgainWrong : ChangeSpec := { name := "stepAgain", fn := fun _ => fun
  | [d1, d2, d3] => { results := [.lit (.bool false)], args := [d1, d2, d3] }
  | _ => none }
def StepAgainWrongFalsely : Prop := stepAgainRow.holds Tryz.pinned (OpenSpec.ofChange stepAgainWrong)

/-- 'clewlaw13.StepFrames': WHATEVER THE INPUT: true; the input reads as it did. -/
def stepFramesSpec : ChangeSpec := { name := "stepFrames", fn := fun _ => fun
  | [d1, d2, d3] => { results := [.lit (.bool true)], args := [d1, d2, d3] }
  | _ => none }
def stepFramesRow : OpenClaim := { program := "ytnkllabpkchblaagreatdoor", sum := "c872e53e1526f80c5b842ffdae5a09ecbd346e9b6d3d037b3e39455348e24adb", func := "clew/clewlaw13.StepFrames", spec := "stepFrames", inPlace := ["internal/bytealg.IndexByteString", "internal/bytealg.IndexString"], unfollowed := true, recurses := true, named := ["math/bits.deBruijn64tab", "internal/bytealg.MaxLen"], plainKeys := false, apart := false, laid := [("math/bits.deBruijn64tab", laid_math_bits_deBruijn64tab)] }
def StepFramesSaid : Prop := stepFramesRow.holds Tryz.pinned (OpenSpec.ofChange stepFramesSpec)

/-- ITS FALSE NEIGHBOUR: 'it returns false'. Refute it at one input. -/
def stepFramesWrong : ChangeSpec := { name := "stepFrames", fn := fun _ => fun
  | [d1, d2, d3] => { results := [.lit (.bool false)], args := [d1, d2, d3] }
  | _ => none }
def StepFramesWrongFalsely : Prop := stepFramesRow.holds Tryz.pinned (OpenSpec.ofChange stepFramesWrong)

/-- 'clewlaw17.CheckTells': WHATEVER THE INPUT: true; the input reads as it did. -/
def checkTellsSpec : ChangeSpec := { name := "checkTells", fn := fun _ => fun
  | [d1, d2, d3] => { results := [.lit (.bool true)], args := [d1, d2, d3] }
  | _ => none }
def checkTellsRow : OpenClaim := { program := "ytnkllabpkchblaagreatdoor", sum := "c872e53e1526f80c5b842ffdae5a09ecbd346e9b6d3d037b3e39455348e24adb", func := "clew/clewlaw17.CheckTells", spec := "checkTells", inPlace := ["internal/bytealg.IndexByteString", "internal/bytealg.IndexString", "internal/abi.NoEscape"], unfollowed := true, recurses := true, named := ["math/bits.deBruijn64tab", "internal/bytealg.MaxLen", "clew/crc.table"], plainKeys := false, apart := false, laid := [("clew/crc.table", laid_clew_crc_table), ("math/bits.deBruijn64tab", laid_math_bits_deBruijn64tab)] }
def CheckTellsSaid : Prop := checkTellsRow.holds Tryz.pinned (OpenSpec.ofChange checkTellsSpec)

/-- ITS FALSE NEIGHBOUR: 'it returns false'. Refute it at one input. -/
def checkTellsWrong : ChangeSpec := { name := "checkTells", fn := fun _ => fun
  | [d1, d2, d3] => { results := [.lit (.bool false)], args := [d1, d2, d3] }
  | _ => none }
def CheckTellsWrongFalsely : Prop := checkTellsRow.holds Tryz.pinned (OpenSpec.ofChange checkTellsWrong)

/-- 'clewlaw17.CheckBytes': WHATEVER THE INPUT: true; the input reads as it did. -/
def checkBytesSpec : ChangeSpec := { name := "checkBytes", fn := fun _ => fun
  | [d1, d2, d3] => { results := [.lit (.bool true)], args := [d1, d2, d3] }
  | _ => none }
def checkBytesRow : OpenClaim := { program := "ytnkllabpkchblaagreatdoor", sum := "c872e53e1526f80c5b842ffdae5a09ecbd346e9b6d3d037b3e39455348e24adb", func := "clew/clewlaw17.CheckBytes", spec := "checkBytes", inPlace := ["internal/bytealg.IndexByteString", "internal/bytealg.IndexString", "internal/abi.NoEscape"], unfollowed := true, recurses := true, named := ["math/bits.deBruijn64tab", "internal/bytealg.MaxLen", "clew/crc.table"], plainKeys := false, apart := false, laid := [("clew/crc.table", laid_clew_crc_table), ("math/bits.deBruijn64tab", laid_math_bits_deBruijn64tab)] }
def CheckBytesSaid : Prop := checkBytesRow.holds Tryz.pinned (OpenSpec.ofChange checkBytesSpec)

/-- ITS FALSE NEIGHBOUR: 'it returns false'. Refute it at one input. -/
def checkBytesWrong : ChangeSpec := { name := "checkBytes", fn := fun _ => fun
  | [d1, d2, d3] => { results := [.lit (.bool false)], args := [d1, d2, d3] }
  | _ => none }
def CheckBytesWrongFalsely : Prop := checkBytesRow.holds Tryz.pinned (OpenSpec.ofChange checkBytesWrong)

/-- 'clewlaw17.CheckSound': WHATEVER THE INPUT: true; the input reads as it did. -/
def checkSoundSpec : ChangeSpec := { name := "checkSound", fn := fun _ => fun
  | [d1, d2, d3] => { results := [.lit (.bool true)], args := [d1, d2, d3] }
  | _ => none }
def checkSoundRow : OpenClaim := { program := "ytnkllabpkchblaagreatdoor", sum := "c872e53e1526f80c5b842ffdae5a09ecbd346e9b6d3d037b3e39455348e24adb", func := "clew/clewlaw17.CheckSound", spec := "checkSound", inPlace := ["internal/bytealg.IndexByteString", "internal/bytealg.IndexString", "internal/abi.NoEscape"], unfollowed := true, recurses := true, named := ["math/bits.deBruijn64tab", "internal/bytealg.MaxLen", "clew/crc.table"], plainKeys := false, apart := false, laid := [("clew/crc.table", laid_clew_crc_table), ("math/bits.deBruijn64tab", laid_math_bits_deBruijn64tab)] }
def CheckSoundSaid : Prop := checkSoundRow.holds Tryz.pinned (OpenSpec.ofChange checkSoundSpec)

/-- ITS FALSE NEIGHBOUR: 'it returns false'. Refute it at one input. -/
def checkSoundWrong : ChangeSpec := { name := "checkSound", fn := fun _ => fun
  | [d1, d2, d3] => { results := [.lit (.bool false)], args := [d1, d2, d3] }
  | _ => none }
def CheckSoundWrongFalsely : Prop := checkSoundRow.holds Tryz.pinned (OpenSpec.ofChange checkSoundWrong)

/-- 'clewlaw17.CheckTwo': WHATEVER THE INPUT: true; the input reads as it did. -/
def checkTwoSpec : ChangeSpec := { name := "checkTwo", fn := fun _ => fun
  | [d1, d2, d3] => { results := [.lit (.bool true)], args := [d1, d2, d3] }
  | _ => none }
def checkTwoRow : OpenClaim := { program := "ytnkllabpkchblaagreatdoor", sum := "c872e53e1526f80c5b842ffdae5a09ecbd346e9b6d3d037b3e39455348e24adb", func := "clew/clewlaw17.CheckTwo", spec := "checkTwo", inPlace := ["internal/bytealg.IndexByteString", "internal/bytealg.IndexString", "internal/abi.NoEscape"], unfollowed := true, recurses := true, named := ["math/bits.deBruijn64tab", "internal/bytealg.MaxLen", "clew/crc.table"], plainKeys := false, apart := false, laid := [("clew/crc.table", laid_clew_crc_table), ("math/bits.deBruijn64tab", laid_math_bits_deBruijn64tab)] }
def CheckTwoSaid : Prop := checkTwoRow.holds Tryz.pinned (OpenSpec.ofChange checkTwoSpec)

/-- ITS FALSE NEIGHBOUR: 'it returns false'. Refute it at one input. -/
def checkTwoWrong : ChangeSpec := { name := "checkTwo", fn := fun _ => fun
  | [d1, d2, d3] => { results := [.lit (.bool false)], args := [d1, d2, d3] }
  | _ => none }
def CheckTwoWrongFalsely : Prop := checkTwoRow.holds Tryz.pinned (OpenSpec.ofChange checkTwoWrong)

/-- 'clewlaw17.CheckSkips': WHATEVER THE INPUT: true; the input reads as it did. -/
def checkSkipsSpec : ChangeSpec := { name := "checkSkips", fn := fun _ => fun
  | [d1, d2] => { results := [.lit (.bool true)], args := [d1, d2] }
  | _ => none }
def checkSkipsRow : OpenClaim := { program := "ytnkllabpkchblaagreatdoor", sum := "c872e53e1526f80c5b842ffdae5a09ecbd346e9b6d3d037b3e39455348e24adb", func := "clew/clewlaw17.CheckSkips", spec := "checkSkips", inPlace := ["internal/bytealg.IndexByteString", "internal/bytealg.IndexString", "internal/abi.NoEscape"], unfollowed := true, recurses := true, named := ["math/bits.deBruijn64tab", "internal/bytealg.MaxLen", "clew/crc.table"], plainKeys := false, apart := false, laid := [("clew/crc.table", laid_clew_crc_table), ("math/bits.deBruijn64tab", laid_math_bits_deBruijn64tab)] }
def CheckSkipsSaid : Prop := checkSkipsRow.holds Tryz.pinned (OpenSpec.ofChange checkSkipsSpec)

/-- ITS FALSE NEIGHBOUR: 'it returns false'. Refute it at one input. -/
def checkSkipsWrong : ChangeSpec := { name := "checkSkips", fn := fun _ => fun
  | [d1, d2] => { results := [.lit (.bool false)], args := [d1, d2] }
  | _ => none }
def CheckSkipsWrongFalsely : Prop := checkSkipsRow.holds Tryz.pinned (OpenSpec.ofChange checkSkipsWrong)

/-- 'clewlaw17.CheckShort': WHATEVER THE INPUT: true; the input reads as it did. -/
def checkShortSpec : ChangeSpec := { name := "checkShort", fn := fun _ => fun
  | [d1, d2, d3] => { results := [.lit (.bool true)], args := [d1, d2, d3] }
  | _ => none }
def checkShortRow : OpenClaim := { program := "ytnkllabpkchblaagreatdoor", sum := "c872e53e1526f80c5b842ffdae5a09ecbd346e9b6d3d037b3e39455348e24adb", func := "clew/clewlaw17.CheckShort", spec := "checkShort", inPlace := ["internal/bytealg.IndexByteString", "internal/bytealg.IndexString", "internal/abi.NoEscape"], unfollowed := true, recurses := true, named := ["math/bits.deBruijn64tab", "internal/bytealg.MaxLen", "clew/crc.table"], plainKeys := false, apart := false, laid := [("clew/crc.table", laid_clew_crc_table), ("math/bits.deBruijn64tab", laid_math_bits_deBruijn64tab)] }
def CheckShortSaid : Prop := checkShortRow.holds Tryz.pinned (OpenSpec.ofChange checkShortSpec)

/-- ITS FALSE NEIGHBOUR: 'it returns false'. Refute it at one input. -/
def checkShortWrong : ChangeSpec := { name := "checkShort", fn := fun _ => fun
  | [d1, d2, d3] => { results := [.lit (.bool false)], args := [d1, d2, d3] }
  | _ => none }
def CheckShortWrongFalsely : Prop := checkShortRow.holds Tryz.pinned (OpenSpec.ofChange checkShortWrong)

/-- 'clewlaw17.CheckPlaces': WHATEVER THE INPUT: true; the input reads as it did. -/
def checkPlacesSpec : ChangeSpec := { name := "checkPlaces", fn := fun _ => fun
  | [d1, d2, d3] => { results := [.lit (.bool true)], args := [d1, d2, d3] }
  | _ => none }
def checkPlacesRow : OpenClaim := { program := "ytnkllabpkchblaagreatdoor", sum := "c872e53e1526f80c5b842ffdae5a09ecbd346e9b6d3d037b3e39455348e24adb", func := "clew/clewlaw17.CheckPlaces", spec := "checkPlaces", inPlace := ["internal/bytealg.IndexByteString", "internal/bytealg.IndexString", "internal/abi.NoEscape"], unfollowed := true, recurses := true, named := ["math/bits.deBruijn64tab", "internal/bytealg.MaxLen", "clew/crc.table"], plainKeys := false, apart := false, laid := [("clew/crc.table", laid_clew_crc_table), ("math/bits.deBruijn64tab", laid_math_bits_deBruijn64tab)] }
def CheckPlacesSaid : Prop := checkPlacesRow.holds Tryz.pinned (OpenSpec.ofChange checkPlacesSpec)

/-- ITS FALSE NEIGHBOUR: 'it returns false'. Refute it at one input. -/
def checkPlacesWrong : ChangeSpec := { name := "checkPlaces", fn := fun _ => fun
  | [d1, d2, d3] => { results := [.lit (.bool false)], args := [d1, d2, d3] }
  | _ => none }
def CheckPlacesWrongFalsely : Prop := checkPlacesRow.holds Tryz.pinned (OpenSpec.ofChange checkPlacesWrong)

/-- 'clewlaw17.CheckCost': WHATEVER THE INPUT: true; the input reads as it did. -/
def checkCostSpec : ChangeSpec := { name := "checkCost", fn := fun _ => fun
  | [d1, d2, d3] => { results := [.lit (.bool true)], args := [d1, d2, d3] }
  | _ => none }
def checkCostRow : OpenClaim := { program := "ytnkllabpkchblaagreatdoor", sum := "c872e53e1526f80c5b842ffdae5a09ecbd346e9b6d3d037b3e39455348e24adb", func := "clew/clewlaw17.CheckCost", spec := "checkCost", inPlace := ["internal/bytealg.IndexByteString", "internal/bytealg.IndexString", "internal/abi.NoEscape"], unfollowed := true, recurses := true, named := ["math/bits.deBruijn64tab", "internal/bytealg.MaxLen", "clew/crc.table"], plainKeys := false, apart := false, laid := [("clew/crc.table", laid_clew_crc_table), ("math/bits.deBruijn64tab", laid_math_bits_deBruijn64tab)] }
def CheckCostSaid : Prop := checkCostRow.holds Tryz.pinned (OpenSpec.ofChange checkCostSpec)

/-- ITS FALSE NEIGHBOUR: 'it returns false'. Refute it at one input. -/
def checkCostWrong : ChangeSpec := { name := "checkCost", fn := fun _ => fun
  | [d1, d2, d3] => { results := [.lit (.bool false)], args := [d1, d2, d3] }
  | _ => none }
def CheckCostWrongFalsely : Prop := checkCostRow.holds Tryz.pinned (OpenSpec.ofChange checkCostWrong)

/- THE SECOND FORM. 'bulk': how many values and letters a reading holds, each counted each time it is reached (what is shared counts as often as it is met; a slice's spare places count too). A statement '..UptoSaid' is the law's where the arguments, and the package variables that the reading takes, are together of bulk at most 1048576: NARROWER than '..Said'. Prove '..Said' where nothing that the law and all that it calls make is longer than what came in: it says more and counts as full. Else prove '..UptoSaid'. A law counts once. -/
mutual
def uptoBulk {H : Type} : DataW H → Nat
  | .lit (.string bytes) => bytes.length + 1
  | .lit _ => 1
  | .nil => 1
  | .ptr d => uptoBulk d + 1
  | .slice elems spare => uptoBulkAll elems + uptoBulkAll spare + 1
  | .agg parts => uptoBulkAll parts + 1
  | .iface _ d => uptoBulk d + 1
  | .map entries => uptoBulkEntries entries + 1
  | .held _ => 1
def uptoBulkAll {H : Type} : List (DataW H) → Nat
  | [] => 0
  | d :: r => uptoBulk d + uptoBulkAll r
def uptoBulkEntries {H : Type} : List (Lit × DataW H) → Nat
  | [] => 0
  | x :: r => uptoBulkEntry x + uptoBulkEntries r
def uptoBulkEntry {H : Type} : Lit × DataW H → Nat
  | (.string bytes, d) => bytes.length + uptoBulk d + 1
  | (_, d) => uptoBulk d + 1
 end
def uptoSmall : (H : Type) → List (DataW H) → Bool := fun _ ds => decide (uptoBulkAll ds ≤ 1048576)
def OpenSpec.upto (s : _root_.Go.ChangeSpec) : _root_.Go.OpenSpec := { _root_.Go.OpenSpec.ofChange s with cond := some uptoSmall }

/-- 'clewlaw13.StepJoins', WHERE WHAT IT READS IS OF BULK AT MOST 1048576: true; the input reads as it did. -/
def stepJoinsUptoRow : OpenClaim := { program := "ytnkllabpkchblaagreatdoor", sum := "c872e53e1526f80c5b842ffdae5a09ecbd346e9b6d3d037b3e39455348e24adb", func := "clew/clewlaw13.StepJoins", spec := "stepJoins", inPlace := ["internal/bytealg.IndexByteString", "internal/bytealg.IndexString"], unfollowed := true, recurses := true, named := ["math/bits.deBruijn64tab", "internal/bytealg.MaxLen"], plainKeys := false, apart := false, laid := [("math/bits.deBruijn64tab", laid_math_bits_deBruijn64tab)], narrowed := true }
def StepJoinsUptoSaid : Prop := stepJoinsUptoRow.holds Tryz.pinned (OpenSpec.upto stepJoinsSpec)

/-- 'clewlaw13.StepAgain', WHERE WHAT IT READS IS OF BULK AT MOST 1048576: true; the input reads as it did. -/
def stepAgainUptoRow : OpenClaim := { program := "ytnkllabpkchblaagreatdoor", sum := "c872e53e1526f80c5b842ffdae5a09ecbd346e9b6d3d037b3e39455348e24adb", func := "clew/clewlaw13.StepAgain", spec := "stepAgain", inPlace := ["internal/bytealg.IndexByteString", "internal/bytealg.IndexString"], unfollowed := true, recurses := true, named := ["math/bits.deBruijn64tab", "internal/bytealg.MaxLen"], plainKeys := false, apart := false, laid := [("math/bits.deBruijn64tab", laid_math_bits_deBruijn64tab)], narrowed := true }
def StepAgainUptoSaid : Prop := stepAgainUptoRow.holds Tryz.pinned (OpenSpec.upto stepAgainSpec)

/-- 'clewlaw13.StepFrames', WHERE WHAT IT READS IS OF BULK AT MOST 1048576: true; the input reads as it did. -/
def stepFramesUptoRow : OpenClaim := { program := "ytnkllabpkchblaagreatdoor", sum := "c872e53e1526f80c5b842ffdae5a09ecbd346e9b6d3d037b3e39455348e24adb", func := "clew/clewlaw13.StepFrames", spec := "stepFrames", inPlace := ["internal/bytealg.IndexByteString", "internal/bytealg.IndexString"], unfollowed := true, recurses := true, named := ["math/bits.deBruijn64tab", "internal/bytealg.MaxLen"], plainKeys := false, apart := false, laid := [("math/bits.deBruijn64tab", laid_math_bits_deBruijn64tab)], narrowed := true }
def StepFramesUptoSaid : Prop := stepFramesUptoRow.holds Tryz.pinned (OpenSpec.upto stepFramesSpec)

/-- 'clewlaw17.CheckTells', WHERE WHAT IT READS IS OF BULK AT MOST 1048576: true; the input reads as it did. -/
def checkTellsUptoRow : OpenClaim := { program := "ytnkllabpkchblaagreatdoor", sum := "c872e53e1526f80c5b842ffdae5a09ecbd346e9b6d3d037b3e39455348e24adb", func := "clew/clewlaw17.CheckTells", spec := "checkTells", inPlace := ["internal/bytealg.IndexByteString", "internal/bytealg.IndexString", "internal/abi.NoEscape"], unfollowed := true, recurses := true, named := ["math/bits.deBruijn64tab", "internal/bytealg.MaxLen", "clew/crc.table"], plainKeys := false, apart := false, laid := [("clew/crc.table", laid_clew_crc_table), ("math/bits.deBruijn64tab", laid_math_bits_deBruijn64tab)], narrowed := true }
def CheckTellsUptoSaid : Prop := checkTellsUptoRow.holds Tryz.pinned (OpenSpec.upto checkTellsSpec)

/-- 'clewlaw17.CheckBytes', WHERE WHAT IT READS IS OF BULK AT MOST 1048576: true; the input reads as it did. -/
def checkBytesUptoRow : OpenClaim := { program := "ytnkllabpkchblaagreatdoor", sum := "c872e53e1526f80c5b842ffdae5a09ecbd346e9b6d3d037b3e39455348e24adb", func := "clew/clewlaw17.CheckBytes", spec := "checkBytes", inPlace := ["internal/bytealg.IndexByteString", "internal/bytealg.IndexString", "internal/abi.NoEscape"], unfollowed := true, recurses := true, named := ["math/bits.deBruijn64tab", "internal/bytealg.MaxLen", "clew/crc.table"], plainKeys := false, apart := false, laid := [("clew/crc.table", laid_clew_crc_table), ("math/bits.deBruijn64tab", laid_math_bits_deBruijn64tab)], narrowed := true }
def CheckBytesUptoSaid : Prop := checkBytesUptoRow.holds Tryz.pinned (OpenSpec.upto checkBytesSpec)

/-- 'clewlaw17.CheckSound', WHERE WHAT IT READS IS OF BULK AT MOST 1048576: true; the input reads as it did. -/
def checkSoundUptoRow : OpenClaim := { program := "ytnkllabpkchblaagreatdoor", sum := "c872e53e1526f80c5b842ffdae5a09ecbd346e9b6d3d037b3e39455348e24adb", func := "clew/clewlaw17.CheckSound", spec := "checkSound", inPlace := ["internal/bytealg.IndexByteString", "internal/bytealg.IndexString", "internal/abi.NoEscape"], unfollowed := true, recurses := true, named := ["math/bits.deBruijn64tab", "internal/bytealg.MaxLen", "clew/crc.table"], plainKeys := false, apart := false, laid := [("clew/crc.table", laid_clew_crc_table), ("math/bits.deBruijn64tab", laid_math_bits_deBruijn64tab)], narrowed := true }
def CheckSoundUptoSaid : Prop := checkSoundUptoRow.holds Tryz.pinned (OpenSpec.upto checkSoundSpec)

/-- 'clewlaw17.CheckTwo', WHERE WHAT IT READS IS OF BULK AT MOST 1048576: true; the input reads as it did. -/
def checkTwoUptoRow : OpenClaim := { program := "ytnkllabpkchblaagreatdoor", sum := "c872e53e1526f80c5b842ffdae5a09ecbd346e9b6d3d037b3e39455348e24adb", func := "clew/clewlaw17.CheckTwo", spec := "checkTwo", inPlace := ["internal/bytealg.IndexByteString", "internal/bytealg.IndexString", "internal/abi.NoEscape"], unfollowed := true, recurses := true, named := ["math/bits.deBruijn64tab", "internal/bytealg.MaxLen", "clew/crc.table"], plainKeys := false, apart := false, laid := [("clew/crc.table", laid_clew_crc_table), ("math/bits.deBruijn64tab", laid_math_bits_deBruijn64tab)], narrowed := true }
def CheckTwoUptoSaid : Prop := checkTwoUptoRow.holds Tryz.pinned (OpenSpec.upto checkTwoSpec)

/-- 'clewlaw17.CheckSkips', WHERE WHAT IT READS IS OF BULK AT MOST 1048576: true; the input reads as it did. -/
def checkSkipsUptoRow : OpenClaim := { program := "ytnkllabpkchblaagreatdoor", sum := "c872e53e1526f80c5b842ffdae5a09ecbd346e9b6d3d037b3e39455348e24adb", func := "clew/clewlaw17.CheckSkips", spec := "checkSkips", inPlace := ["internal/bytealg.IndexByteString", "internal/bytealg.IndexString", "internal/abi.NoEscape"], unfollowed := true, recurses := true, named := ["math/bits.deBruijn64tab", "internal/bytealg.MaxLen", "clew/crc.table"], plainKeys := false, apart := false, laid := [("clew/crc.table", laid_clew_crc_table), ("math/bits.deBruijn64tab", laid_math_bits_deBruijn64tab)], narrowed := true }
def CheckSkipsUptoSaid : Prop := checkSkipsUptoRow.holds Tryz.pinned (OpenSpec.upto checkSkipsSpec)

/-- 'clewlaw17.CheckShort', WHERE WHAT IT READS IS OF BULK AT MOST 1048576: true; the input reads as it did. -/
def checkShortUptoRow : OpenClaim := { program := "ytnkllabpkchblaagreatdoor", sum := "c872e53e1526f80c5b842ffdae5a09ecbd346e9b6d3d037b3e39455348e24adb", func := "clew/clewlaw17.CheckShort", spec := "checkShort", inPlace := ["internal/bytealg.IndexByteString", "internal/bytealg.IndexString", "internal/abi.NoEscape"], unfollowed := true, recurses := true, named := ["math/bits.deBruijn64tab", "internal/bytealg.MaxLen", "clew/crc.table"], plainKeys := false, apart := false, laid := [("clew/crc.table", laid_clew_crc_table), ("math/bits.deBruijn64tab", laid_math_bits_deBruijn64tab)], narrowed := true }
def CheckShortUptoSaid : Prop := checkShortUptoRow.holds Tryz.pinned (OpenSpec.upto checkShortSpec)

/-- 'clewlaw17.CheckPlaces', WHERE WHAT IT READS IS OF BULK AT MOST 1048576: true; the input reads as it did. -/
def checkPlacesUptoRow : OpenClaim := { program := "ytnkllabpkchblaagreatdoor", sum := "c872e53e1526f80c5b842ffdae5a09ecbd346e9b6d3d037b3e39455348e24adb", func := "clew/clewlaw17.CheckPlaces", spec := "checkPlaces", inPlace := ["internal/bytealg.IndexByteString", "internal/bytealg.IndexString", "internal/abi.NoEscape"], unfollowed := true, recurses := true, named := ["math/bits.deBruijn64tab", "internal/bytealg.MaxLen", "clew/crc.table"], plainKeys := false, apart := false, laid := [("clew/crc.table", laid_clew_crc_table), ("math/bits.deBruijn64tab", laid_math_bits_deBruijn64tab)], narrowed := true }
def CheckPlacesUptoSaid : Prop := checkPlacesUptoRow.holds Tryz.pinned (OpenSpec.upto checkPlacesSpec)

/-- 'clewlaw17.CheckCost', WHERE WHAT IT READS IS OF BULK AT MOST 1048576: true; the input reads as it did. -/
def checkCostUptoRow : OpenClaim := { program := "ytnkllabpkchblaagreatdoor", sum := "c872e53e1526f80c5b842ffdae5a09ecbd346e9b6d3d037b3e39455348e24adb", func := "clew/clewlaw17.CheckCost", spec := "checkCost", inPlace := ["internal/bytealg.IndexByteString", "internal/bytealg.IndexString", "internal/abi.NoEscape"], unfollowed := true, recurses := true, named := ["math/bits.deBruijn64tab", "internal/bytealg.MaxLen", "clew/crc.table"], plainKeys := false, apart := false, laid := [("clew/crc.table", laid_clew_crc_table), ("math/bits.deBruijn64tab", laid_math_bits_deBruijn64tab)], narrowed := true }
def CheckCostUptoSaid : Prop := checkCostUptoRow.holds Tryz.pinned (OpenSpec.upto checkCostSpec)

end Rows
end Go.Proofs.YtnkllabpkchblaaGreatDoor
