/- This program's table, its functions run by the evaluator; what the document fixes for chapter 13. -/
import Derived.Test.YtnkllabpkchblaaGreatDoorProg
import Derived.Test.YtnkllabpkchblaaGreatDoorChecked
import Derived.Test.YtnkllabpkchblaaGreatDoorEvDB
namespace Go.Proofs.YtnkllabpkchblaaGreatDoor
open Go.Ev

noncomputable def T0 : Tab := tabOf Tryz.prog
def G0 : Gl := ⟨fun _ => none, []⟩
def ks0 (_ : Code) : List Nat := rangeN 0 230
def kb0 (_ : Code) : List Nat := []
def ext0 : Orc := putO 283 indexByteP failO
noncomputable def O0 (n : Nat) : Orc := orcN T0 (fnsOf Tryz.prog []) (fun _ => {}) ks0 kb0 1000 6 ext0 n

theorem T0_ok : TabOK Tryz.prog T0 := tabOf_ok _
theorem names_ok : (Tryz.prog.funcs.toList.all fun fn => !(fn.name == "runtime.NumGoroutine")) = true := by kernel_rfl
theorem mixed : Tryz.prog.follows .mixedOrders = true := Tryz.checked.mixed
theorem f283_ext : Extern.findNext Tryz.f283 = none := by kernel_rfl
theorem f283_find : Extern.find Tryz.f283 = some Extern.BytealgIndexByte.indexByte := by kernel_rfl
theorem f283_name : (Tryz.f283.name == "runtime.NumGoroutine") = false := by kernel_rfl
theorem f283_body : Tryz.f283.body.isNone = true := by kernel_rfl
theorem byte_ok (args : List AV) : SoundP Tryz.prog G0 283 args (indexByteP args) :=
  @indexByte_sound Tryz.prog G0 283 Tryz.f283 Tryz.func283 f283_name f283_body f283_ext f283_find args
set_option maxRecDepth 100000 in
theorem ext0_ok : OrcOK Tryz.prog G0 ext0 := putO_ok byte_ok failO_ok
theorem O0_ok (n : Nat) : OrcOK Tryz.prog G0 (O0 n) := orcN_ok rfl T0_ok mixed (fnsOf_ok names_ok) (fun _ => rfl) ks0 kb0 1000 6 ext0_ok n

theorem pf1 : laidOutB Tryz.prog = true := by kernel_rfl
theorem pf2 : mapsRowed Tryz.prog = true := by kernel_rfl
theorem pf3 : (Tryz.prog.stops == []) = true := by kernel_rfl
theorem pf4 : (Tryz.prog.stopKnobs == []) = true := by kernel_rfl
theorem pf5 : Tryz.prog.stopsHeard = true := by kernel_rfl
theorem pf6 : Tryz.prog.mayEnter = true := by kernel_rfl
theorem progFacts : ProgFacts Tryz.prog := ⟨pf1, pf2, pf3, pf4, pf5, pf6⟩
theorem plainKeysF : (false == Tryz.prog.plainKeys) = true := by kernel_rfl
theorem liftedF : (false == Tryz.prog.liftsFinal) = true := by kernel_rfl

/-- what the document fixes, chapter 13 -/
theorem fixed13 : (O0 60).pure 17 [] = .ret (.s (.bool true)) := by kernel_rfl
set_option maxRecDepth 100000 in
theorem fixed13_ok : SoundP Tryz.prog G0 17 [] (.ret (.s (.bool true))) := fixed13 ▸ (O0_ok 60).pure 17 []

end Go.Proofs.YtnkllabpkchblaaGreatDoor
