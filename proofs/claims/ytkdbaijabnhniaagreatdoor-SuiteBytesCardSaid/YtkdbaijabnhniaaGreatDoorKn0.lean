/- The closed part: the oracles of Go's own library functions. -/
import Derived.Test.YtkdbaijabnhniaaGreatDoorBase3
import Derived.Test.YtkdbaijabnhniaaGreatDoorShl
import Derived.Test.YtkdbaijabnhniaaGreatDoorEvDC
namespace Go.Proofs.YtkdbaijabnhniaaGreatDoor.kn
open Go.Ev
set_option maxRecDepth 100000

theorem T0k : TabOK Tryz.prog T0 := tabOf_ok _
theorem namesk : (Tryz.prog.funcs.toList.all fun fn => !(fn.name == "runtime.NumGoroutine")) = true := by kernel_rfl
theorem mixedk : Tryz.prog.follows .mixedOrders = true := by kernel_rfl
theorem namek {f : FuncId} {fn : Func} (hf : Tryz.prog.funcs[f]? = some fn) : (fn.name == "runtime.NumGoroutine") = false := by
  have h := List.all_eq_true.1 namesk fn (by
    rw [Array.mem_toList_iff]
    exact Array.mem_of_getElem? hf)
  simpa using h
theorem e226 : Extern.findNext Tryz.f226 = none := by kernel_rfl
theorem x226 : Extern.find Tryz.f226 = some Extern.BytealgIndexByte.indexByte := by kernel_rfl
theorem b226 : Tryz.f226.body.isNone = true := by kernel_rfl
theorem k226 (args : List AV) : SoundP Tryz.prog G0 226 args (indexByteP args) := @indexByte_sound Tryz.prog G0 226 Tryz.f226 Tryz.func226 (namek Tryz.func226) b226 e226 x226 args
theorem e261 : Extern.findNext Tryz.f261 = none := by kernel_rfl
theorem x261 : Extern.find Tryz.f261 = some Extern.MathFloatBits.float64bits := by kernel_rfl
theorem b261 : Tryz.f261.body.isNone = true := by kernel_rfl
theorem k261 (args : List AV) : SoundP Tryz.prog G0 261 args (floatBitsP args) := floatBits_sound Tryz.func261 (namek Tryz.func261) b261 e261 x261 args
theorem e94 : Extern.findNext Tryz.f94 = none := by kernel_rfl
theorem x94 : Extern.find Tryz.f94 = some Extern.MathFloatBits.float64frombits := by kernel_rfl
theorem b94 : Tryz.f94.body.isNone = true := by kernel_rfl
theorem k94 (args : List AV) : SoundP Tryz.prog G0 94 args (bitsFloatP args) := bitsFloat_sound Tryz.func94 (namek Tryz.func94) b94 e94 x94 args
theorem e34 : Extern.findNext Tryz.f34 = none := by kernel_rfl
theorem x34 : Extern.find Tryz.f34 = some Extern.AbiNoEscape.same := by kernel_rfl
theorem b34 : Tryz.f34.body.isNone = true := by kernel_rfl
theorem k34 (args : List AV) (hs : List HO) : SoundI Tryz.prog G0 34 args hs (sameI args hs) := same_sound Tryz.func34 (namek Tryz.func34) b34 e34 x34 args hs
theorem g33 : Tryz.prog.globalNamed "internal/strconv.uint64pow10" = some 2 := by kernel_rfl
theorem p33 : powTab = Lib.pow10Tab.map (fun n => SV.int .u64 n) := rfl
theorem k33 (args : List AV) : SoundP Tryz.prog G0 33 args (itoaP args) := itoaP_ok Tryz.func33 (namek Tryz.func33) (by kernel_rfl) g33 (show G0 2 = some powTab from rfl) p33 Tryz.strconv_Itoa args
theorem k53 (args : List AV) : SoundP Tryz.prog G0 53 args (joinP args) := joinP_ok Tryz.func53 (namek Tryz.func53) (by kernel_rfl) Tryz.strings_Join Tryz.strings_Join_none args
theorem k53i (args : List AV) (hs : List HO) : SoundI Tryz.prog G0 53 args hs (joinI args hs) := joinI_ok Tryz.func53 (namek Tryz.func53) (by kernel_rfl) Tryz.strings_Join args hs
theorem ext0_ok : OrcOK Tryz.prog G0 ext0 := putO_ok k226 (putO_ok k261 (putO_ok k94 (putO_ok k33 (putO_ok k53 (putI_ok k53i (putI_ok k34 failO_ok))))))
theorem orc_ok {but : List Nat} {ext : Orc} (h : OrcOK Tryz.prog G0 ext) (n : Nat) : OrcOK Tryz.prog G0 (orcN T0 (fnsOf Tryz.prog but) an0 ks0 kb0 1000 6 ext n) := orcN_ok rfl T0k mixedk (fnsOf_ok namesk) (fun _ => rfl) ks0 kb0 1000 6 h n

end Go.Proofs.YtkdbaijabnhniaaGreatDoor.kn
