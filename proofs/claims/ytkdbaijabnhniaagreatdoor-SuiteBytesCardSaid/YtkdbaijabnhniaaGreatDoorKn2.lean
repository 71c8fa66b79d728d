/- Known calls, run. -/
import Derived.Test.YtkdbaijabnhniaaGreatDoorKn1
namespace Go.Proofs.YtkdbaijabnhniaaGreatDoor.kn
open Go.Ev
set_option maxRecDepth 100000

def a7 : List AV := [(.agg [(.s (.vs 12 4 (rowsL [[(.int .i64 1), (.int .i64 0), (.int .i64 0), (.int .u64 0), (.int .u64 8589934592), (.int .u64 0), (.int .u64 0), (.int .i64 0), (.int .i64 0), (.int .i64 0), (.int .i64 0), (.bool false)], [(.int .i64 11), (.int .i64 0), (.int .i64 0), (.int .u64 0), (.int .u64 0), (.int .u64 0), (.int .u64 0), (.int .i64 0), (.int .i64 0), (.int .i64 0), (.int .i64 1), (.bool false)], [(.int .i64 1), (.int .i64 0), (.int .i64 0), (.int .u64 0), (.int .u64 17179869184), (.int .u64 0), (.int .u64 0), (.int .i64 0), (.int .i64 0), (.int .i64 0), (.int .i64 0), (.bool false)], [(.int .i64 9), (.int .i64 1), (.int .i64 2), (.int .u64 0), (.int .u64 0), (.int .u64 0), (.int .u64 0), (.int .i64 0), (.int .i64 0), (.int .i64 0), (.int .i64 0), (.bool false)]])))])]
def r7 : PR := .ret (.s (.str [40, 97, 41, 124, 98]))
def ext8 : Orc := memoO 62 a7 r7 ext7
noncomputable def O8 (n : Nat) : Orc := orcN T0 (fnsOf Tryz.prog [33, 53, 5, 57, 58, 59, 60, 61, 64, 65, 67, 68, 70, 71, 73, 75, 80, 82, 116, 117]) an0 ks0 kb0 1000 6 ext7 n
theorem run7 : samePR r7 ((O8 60).pure 62 a7) = true := by kernel_rfl
theorem ok7 : SoundP Tryz.prog G0 62 a7 r7 := ((orc_ok ext7_ok 60).pure 62 a7).of_same run7
theorem ext8_ok : OrcOK Tryz.prog G0 ext8 := memoO_ok ok7 ext7_ok

end Go.Proofs.YtkdbaijabnhniaaGreatDoor.kn
