/- Known calls, run. -/
import Derived.Test.YtkdbaijabnhniaaGreatDoorKn3
namespace Go.Proofs.YtkdbaijabnhniaaGreatDoor.kn
open Go.Ev
set_option maxRecDepth 100000

def a26 : List AV := [(.agg [(.s (.vs 12 2 (rowsL [[(.int .i64 1), (.int .i64 0), (.int .i64 0), (.int .u64 0), (.int .u64 8589934592), (.int .u64 0), (.int .u64 0), (.int .i64 0), (.int .i64 0), (.int .i64 0), (.int .i64 0), (.bool false)], [(.int .i64 10), (.int .i64 0), (.int .i64 0), (.int .u64 0), (.int .u64 0), (.int .u64 0), (.int .u64 0), (.int .i64 0), (.int .i64 (-1)), (.int .i64 0), (.int .i64 0), (.bool false)]])))])]
def r26 : PR := .ret (.s (.str [97, 42]))
def ext27 : Orc := memoO 62 a26 r26 ext26
noncomputable def O27 (n : Nat) : Orc := orcN T0 (fnsOf Tryz.prog [33, 53, 5, 57, 58, 59, 60, 61, 64, 65, 67, 68, 70, 71, 73, 75, 80, 82, 116, 117]) an0 ks0 kb0 1000 6 ext26 n
theorem run26 : samePR r26 ((O27 60).pure 62 a26) = true := by kernel_rfl
theorem ok26 : SoundP Tryz.prog G0 62 a26 r26 := ((orc_ok ext26_ok 60).pure 62 a26).of_same run26
theorem ext27_ok : OrcOK Tryz.prog G0 ext27 := memoO_ok ok26 ext26_ok

end Go.Proofs.YtkdbaijabnhniaaGreatDoor.kn
