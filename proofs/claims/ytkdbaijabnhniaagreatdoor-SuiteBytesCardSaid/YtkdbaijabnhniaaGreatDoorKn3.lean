/- Known calls, run. -/
import Derived.Test.YtkdbaijabnhniaaGreatDoorKn2
namespace Go.Proofs.YtkdbaijabnhniaaGreatDoor.kn
open Go.Ev
set_option maxRecDepth 100000

def a8 : List AV := [(.agg [(.s (.int .u64 0)), (.s (.int .u64 25769803776)), (.s (.int .u64 0)), (.s (.int .u64 0)), (.s (.bool false)), (.s (.bool false)), (.s (.str []))]), (.s (.str [120, 98])), (.s (.int .i64 0))]
def r8 : PR := .ret (.s (.bool true))
def ext9 : Orc := memoO 70 a8 r8 ext8
noncomputable def O9 (n : Nat) : Orc := orcN T0 (fnsOf Tryz.prog [33, 53, 5, 57, 58, 59, 60, 61, 62, 64, 65, 67, 68, 71, 73, 75, 80, 82, 116, 117]) an0 ks0 kb0 1000 6 ext8 n
theorem run8 : samePR r8 ((O9 60).pure 70 a8) = true := by kernel_rfl
theorem ok8 : SoundP Tryz.prog G0 70 a8 r8 := ((orc_ok ext8_ok 60).pure 70 a8).of_same run8
theorem ext9_ok : OrcOK Tryz.prog G0 ext9 := memoO_ok ok8 ext8_ok

def a9 : List AV := [(.agg [(.s (.int .u64 0)), (.s (.int .u64 25769803776)), (.s (.int .u64 0)), (.s (.int .u64 0)), (.s (.bool false)), (.s (.bool false)), (.s (.str []))]), (.s (.str [120, 98])), (.s (.int .i64 1))]
def r9 : PR := .ret (.s (.bool false))
def ext10 : Orc := memoO 70 a9 r9 ext9
noncomputable def O10 (n : Nat) : Orc := orcN T0 (fnsOf Tryz.prog [33, 53, 5, 57, 58, 59, 60, 61, 62, 64, 65, 67, 68, 71, 73, 75, 80, 82, 116, 117]) an0 ks0 kb0 1000 6 ext9 n
theorem run9 : samePR r9 ((O10 60).pure 70 a9) = true := by kernel_rfl
theorem ok9 : SoundP Tryz.prog G0 70 a9 r9 := ((orc_ok ext9_ok 60).pure 70 a9).of_same run9
theorem ext10_ok : OrcOK Tryz.prog G0 ext10 := memoO_ok ok9 ext9_ok

def a10 : List AV := [(.agg [(.s (.vs 12 4 (rowsL [[(.int .i64 1), (.int .i64 0), (.int .i64 0), (.int .u64 0), (.int .u64 8589934592), (.int .u64 0), (.int .u64 0), (.int .i64 0), (.int .i64 0), (.int .i64 0), (.int .i64 0), (.bool false)], [(.int .i64 11), (.int .i64 0), (.int .i64 0), (.int .u64 0), (.int .u64 0), (.int .u64 0), (.int .u64 0), (.int .i64 0), (.int .i64 0), (.int .i64 0), (.int .i64 1), (.bool false)], [(.int .i64 1), (.int .i64 0), (.int .i64 0), (.int .u64 0), (.int .u64 17179869184), (.int .u64 0), (.int .u64 0), (.int .i64 0), (.int .i64 0), (.int .i64 0), (.int .i64 0), (.bool false)], [(.int .i64 9), (.int .i64 1), (.int .i64 2), (.int .u64 0), (.int .u64 0), (.int .u64 0), (.int .u64 0), (.int .i64 0), (.int .i64 0), (.int .i64 0), (.int .i64 0), (.bool false)]])))]), (.s (.str [120, 98])), (.agg [(.s (.bool true)), (.s (.bool true))]), (.agg [(.s (.flt .f64 4652007308841189376)), (.s (.flt .f64 4652007308841189376))])]
def r10 : PR := .ret (.tup [(.agg [(.s (.bool true)), (.s (.int .i64 1)), (.s (.int .i64 2)), (.s (.bool false)), (.s (.bool false)), (.s (.bool false)), (.s (.bool false)), (.s (.bool false)), (.s (.bool false)), (.s (.bool false)), (.s (.bool false)), (.s (.bool false)), (.s (.int .i64 0)), (.s (.int .i64 0)), (.s (.int .i64 0)), (.s (.int .i64 0)), (.s (.int .i64 0)), (.s (.int .i64 0)), (.s (.int .i64 0)), (.s (.int .i64 0)), (.s (.int .i64 0)), (.s (.int .i64 0)), (.s (.int .i64 0)), (.s (.int .i64 0)), (.s (.int .i64 0)), (.s (.int .i64 0)), (.s (.int .i64 0)), (.s (.int .i64 0)), (.s (.int .i64 0)), (.s (.int .i64 0)), (.own 2 3 (rowsL [[(.int .i64 0), (.int .i64 1)], [(.int .i64 1), (.int .i64 0)], [(.int .i64 3), (.int .i64 0)]])), (.s (.int .i64 5))]), (.s (.int .i64 0))])
def ext11 : Orc := memoO 64 a10 r10 ext10
noncomputable def O11 (n : Nat) : Orc := orcN T0 (fnsOf Tryz.prog [33, 53, 5, 57, 58, 59, 60, 61, 62, 65, 67, 68, 70, 71, 73, 75, 80, 82, 116, 117]) an0 ks0 kb0 1000 6 ext10 n
theorem run10 : samePR r10 ((O11 60).pure 64 a10) = true := by kernel_rfl
theorem ok10 : SoundP Tryz.prog G0 64 a10 r10 := ((orc_ok ext10_ok 60).pure 64 a10).of_same run10
theorem ext11_ok : OrcOK Tryz.prog G0 ext11 := memoO_ok ok10 ext10_ok

def a11 : List AV := [(.s (.vs 2 3 (rowsL [[(.int .i64 0), (.int .i64 1)], [(.int .i64 1), (.int .i64 0)], [(.int .i64 3), (.int .i64 0)]])))]
def r11 : PR := .ret (.s (.str [67, 76, 69, 87, 3, 6, 1, 3, 111, 43, 251]))
def ext12 : Orc := memoO 65 a11 r11 ext11
noncomputable def O12 (n : Nat) : Orc := orcN T0 (fnsOf Tryz.prog [33, 53, 5, 57, 58, 59, 60, 61, 62, 64, 67, 68, 70, 71, 73, 75, 80, 82, 116, 117]) an0 ks0 kb0 1000 6 ext11 n
theorem run11 : samePR r11 ((O12 60).pure 65 a11) = true := by kernel_rfl
theorem ok11 : SoundP Tryz.prog G0 65 a11 r11 := ((orc_ok ext11_ok 60).pure 65 a11).of_same run11
theorem ext12_ok : OrcOK Tryz.prog G0 ext12 := memoO_ok ok11 ext11_ok

def a12 : List AV := [(.agg [(.s (.bool false)), (.s (.bool false)), (.s (.bool false)), (.s (.bool false)), (.s (.bool false)), (.s (.bool false)), (.s (.bool false)), (.s (.bool false)), (.s (.bool false)), (.s (.int .i64 0)), (.s (.int .i64 0)), (.s (.int .i64 0)), (.s (.int .i64 0)), (.s (.int .i64 0)), (.s (.int .i64 0)), (.s (.int .i64 0)), (.s (.int .i64 0)), (.s (.int .i64 0)), (.s (.int .i64 0)), (.s (.int .i64 0)), (.s (.int .i64 0)), (.s (.int .i64 0)), (.s (.int .i64 0)), (.s (.int .i64 0)), (.s (.int .i64 0)), (.s (.int .i64 0)), (.s (.int .i64 0))]), (.s (.int .i64 1))]
def r12 : PR := .ret (.s (.str [63]))
def ext13 : Orc := memoO 67 a12 r12 ext12
noncomputable def O13 (n : Nat) : Orc := orcN T0 (fnsOf Tryz.prog [33, 53, 5, 57, 58, 59, 60, 61, 62, 64, 65, 68, 70, 71, 73, 75, 80, 82, 116, 117]) an0 ks0 kb0 1000 6 ext12 n
theorem run12 : samePR r12 ((O13 60).pure 67 a12) = true := by kernel_rfl
theorem ok12 : SoundP Tryz.prog G0 67 a12 r12 := ((orc_ok ext12_ok 60).pure 67 a12).of_same run12
theorem ext13_ok : OrcOK Tryz.prog G0 ext13 := memoO_ok ok12 ext12_ok

def a13 : List AV := [(.s (.str [67, 76, 69, 87, 3, 6, 1, 3, 111, 43, 251]))]
def r13 : PR := .ret (.tup [(.s (.vs 2 3 (rowsL [[(.int .i64 0), (.int .i64 1)], [(.int .i64 1), (.int .i64 0)], [(.int .i64 3), (.int .i64 0)]]))), (.s (.int .i64 0))])
def ext14 : Orc := memoO 116 a13 r13 ext13
noncomputable def O14 (n : Nat) : Orc := orcN T0 (fnsOf Tryz.prog [33, 53, 5, 57, 58, 59, 60, 61, 62, 64, 65, 67, 68, 70, 71, 73, 75, 80, 82, 117]) an0 ks0 kb0 1000 6 ext13 n
theorem run13 : samePR r13 ((O14 60).pure 116 a13) = true := by kernel_rfl
theorem ok13 : SoundP Tryz.prog G0 116 a13 r13 := ((orc_ok ext13_ok 60).pure 116 a13).of_same run13
theorem ext14_ok : OrcOK Tryz.prog G0 ext14 := memoO_ok ok13 ext13_ok

def a14 : List AV := [(.agg [(.s (.vs 12 4 (rowsL [[(.int .i64 1), (.int .i64 0), (.int .i64 0), (.int .u64 0), (.int .u64 8589934592), (.int .u64 0), (.int .u64 0), (.int .i64 0), (.int .i64 0), (.int .i64 0), (.int .i64 0), (.bool false)], [(.int .i64 11), (.int .i64 0), (.int .i64 0), (.int .u64 0), (.int .u64 0), (.int .u64 0), (.int .u64 0), (.int .i64 0), (.int .i64 0), (.int .i64 0), (.int .i64 1), (.bool false)], [(.int .i64 1), (.int .i64 0), (.int .i64 0), (.int .u64 0), (.int .u64 17179869184), (.int .u64 0), (.int .u64 0), (.int .i64 0), (.int .i64 0), (.int .i64 0), (.int .i64 0), (.bool false)], [(.int .i64 9), (.int .i64 1), (.int .i64 2), (.int .u64 0), (.int .u64 0), (.int .u64 0), (.int .u64 0), (.int .i64 0), (.int .i64 0), (.int .i64 0), (.int .i64 0), (.bool false)]])))]), (.s (.str [120, 98])), (.s (.vs 2 3 (rowsL [[(.int .i64 0), (.int .i64 1)], [(.int .i64 1), (.int .i64 0)], [(.int .i64 3), (.int .i64 0)]]))), (.s (.int .i64 100000000))]
def r14 : PR := .ret (.tup [(.agg [(.s (.bool true)), (.s (.int .i64 1)), (.s (.int .i64 2)), (.s (.bool false)), (.s (.bool false)), (.s (.bool false)), (.s (.bool false)), (.s (.bool false)), (.s (.bool false)), (.s (.bool false)), (.s (.bool false)), (.s (.bool false)), (.s (.int .i64 0)), (.s (.int .i64 0)), (.s (.int .i64 0)), (.s (.int .i64 0)), (.s (.int .i64 0)), (.s (.int .i64 0)), (.s (.int .i64 0)), (.s (.int .i64 0)), (.s (.int .i64 0)), (.s (.int .i64 0)), (.s (.int .i64 0)), (.s (.int .i64 0)), (.s (.int .i64 0)), (.s (.int .i64 0)), (.s (.int .i64 0)), (.s (.int .i64 0)), (.s (.int .i64 0)), (.s (.int .i64 0)), (.s (.int .i64 5))]), (.s (.int .i64 0))])
def ext15 : Orc := memoO 117 a14 r14 ext14
noncomputable def O15 (n : Nat) : Orc := orcN T0 (fnsOf Tryz.prog [33, 53, 5, 57, 58, 59, 60, 61, 62, 64, 65, 67, 68, 70, 71, 73, 75, 80, 82, 116]) an0 ks0 kb0 1000 6 ext14 n
theorem run14 : samePR r14 ((O15 60).pure 117 a14) = true := by kernel_rfl
theorem ok14 : SoundP Tryz.prog G0 117 a14 r14 := ((orc_ok ext14_ok 60).pure 117 a14).of_same run14
theorem ext15_ok : OrcOK Tryz.prog G0 ext15 := memoO_ok ok14 ext14_ok

def a15 : List AV := [(.s (.str [40, 97, 41, 124, 98])), (.s (.str [120, 98])), (.s (.str [67, 76, 69, 87, 3, 6, 1, 3, 111, 43, 251])), (.s (.int .i64 100000000))]
def r15 : PR := .ret (.tup [(.agg [(.s (.bool true)), (.s (.int .i64 1)), (.s (.int .i64 2)), (.s (.bool false)), (.s (.bool false)), (.s (.bool false)), (.s (.bool false)), (.s (.bool false)), (.s (.bool false)), (.s (.bool false)), (.s (.bool false)), (.s (.bool false)), (.s (.int .i64 0)), (.s (.int .i64 0)), (.s (.int .i64 0)), (.s (.int .i64 0)), (.s (.int .i64 0)), (.s (.int .i64 0)), (.s (.int .i64 0)), (.s (.int .i64 0)), (.s (.int .i64 0)), (.s (.int .i64 0)), (.s (.int .i64 0)), (.s (.int .i64 0)), (.s (.int .i64 0)), (.s (.int .i64 0)), (.s (.int .i64 0)), (.s (.int .i64 0)), (.s (.int .i64 0)), (.s (.int .i64 0)), (.s (.int .i64 5))]), (.s (.int .i64 0))])
def ext16 : Orc := memoO 75 a15 r15 ext15
noncomputable def O16 (n : Nat) : Orc := orcN T0 (fnsOf Tryz.prog [33, 53, 5, 57, 58, 59, 60, 61, 62, 64, 65, 67, 68, 70, 71, 73, 80, 82, 116, 117]) an0 ks0 kb0 1000 6 ext15 n
theorem run15 : samePR r15 ((O16 60).pure 75 a15) = true := by kernel_rfl
theorem ok15 : SoundP Tryz.prog G0 75 a15 r15 := ((orc_ok ext15_ok 60).pure 75 a15).of_same run15
theorem ext16_ok : OrcOK Tryz.prog G0 ext16 := memoO_ok ok15 ext15_ok

def a16 : List AV := [(.s (.str [67, 76, 69, 87, 3, 7, 1, 3, 111, 43, 251]))]
def r16 : PR := .ret (.tup [(.s .nils), (.s (.int .i64 8))])
def ext17 : Orc := memoO 116 a16 r16 ext16
noncomputable def O17 (n : Nat) : Orc := orcN T0 (fnsOf Tryz.prog [33, 53, 5, 57, 58, 59, 60, 61, 62, 64, 65, 67, 68, 70, 71, 73, 75, 80, 82, 117]) an0 ks0 kb0 1000 6 ext16 n
theorem run16 : samePR r16 ((O17 60).pure 116 a16) = true := by kernel_rfl
theorem ok16 : SoundP Tryz.prog G0 116 a16 r16 := ((orc_ok ext16_ok 60).pure 116 a16).of_same run16
theorem ext17_ok : OrcOK Tryz.prog G0 ext17 := memoO_ok ok16 ext16_ok

def a17 : List AV := [(.s (.str [40, 97, 41, 124, 98])), (.s (.str [120, 98])), (.s (.str [67, 76, 69, 87, 3, 7, 1, 3, 111, 43, 251])), (.s (.int .i64 100000000))]
def r17 : PR := .ret (.tup [(.agg [(.s (.bool false)), (.s (.int .i64 0)), (.s (.int .i64 0)), (.s (.bool false)), (.s (.bool false)), (.s (.bool false)), (.s (.bool false)), (.s (.bool false)), (.s (.bool false)), (.s (.bool false)), (.s (.bool false)), (.s (.bool false)), (.s (.int .i64 0)), (.s (.int .i64 0)), (.s (.int .i64 0)), (.s (.int .i64 0)), (.s (.int .i64 0)), (.s (.int .i64 0)), (.s (.int .i64 0)), (.s (.int .i64 0)), (.s (.int .i64 0)), (.s (.int .i64 0)), (.s (.int .i64 0)), (.s (.int .i64 0)), (.s (.int .i64 0)), (.s (.int .i64 0)), (.s (.int .i64 0)), (.s (.int .i64 0)), (.s (.int .i64 0)), (.s (.int .i64 0)), (.s (.int .i64 0))]), (.s (.int .i64 8))])
def ext18 : Orc := memoO 75 a17 r17 ext17
noncomputable def O18 (n : Nat) : Orc := orcN T0 (fnsOf Tryz.prog [33, 53, 5, 57, 58, 59, 60, 61, 62, 64, 65, 67, 68, 70, 71, 73, 80, 82, 116, 117]) an0 ks0 kb0 1000 6 ext17 n
theorem run17 : samePR r17 ((O18 60).pure 75 a17) = true := by kernel_rfl
theorem ok17 : SoundP Tryz.prog G0 75 a17 r17 := ((orc_ok ext17_ok 60).pure 75 a17).of_same run17
theorem ext18_ok : OrcOK Tryz.prog G0 ext18 := memoO_ok ok17 ext17_ok

def a18 : List AV := [(.s (.str [0, 0, 2, 97, 42, 1, 0, 2, 98, 97, 6, 9, 0, 7, 0, 1, 45, 8, 0, 0, 5, 0, 0, 115, 241, 106]))]
def r18 : PR := .ret (.tup [(.own 3 6 (rowsL [[(.int .i64 0), (.int .u64 0), (.str [97, 42])], [(.int .i64 1), (.int .u64 0), (.str [98, 97])], [(.int .i64 6), (.int .u64 9), (.str [])], [(.int .i64 7), (.int .u64 0), (.str [45])], [(.int .i64 8), (.int .u64 0), (.str [])], [(.int .i64 5), (.int .u64 0), (.str [])]])), (.s (.int .i64 0))])
def ext19 : Orc := memoO 5 a18 r18 ext18
noncomputable def O19 (n : Nat) : Orc := orcN T0 (fnsOf Tryz.prog [33, 53, 57, 58, 59, 60, 61, 62, 64, 65, 67, 68, 70, 71, 73, 75, 80, 82, 116, 117]) an0 ks0 kb0 1000 6 ext18 n
theorem run18 : samePR r18 ((O19 60).pure 5 a18) = true := by kernel_rfl
theorem ok18 : SoundP Tryz.prog G0 5 a18 r18 := ((orc_ok ext18_ok 60).pure 5 a18).of_same run18
theorem ext19_ok : OrcOK Tryz.prog G0 ext19 := memoO_ok ok18 ext18_ok

def a19 : List AV := [(.s (.str [97, 42]))]
def r19 : PR := .ret (.tup [(.own 10 2 (rowsL [[(.int .i64 0), (.int .u64 0), (.int .u64 8589934592), (.int .u64 0), (.int .u64 0), (.int .i64 0), (.int .i64 0), (.int .i64 0), (.int .i64 0), (.str [])], [(.int .i64 16), (.int .u64 0), (.int .u64 0), (.int .u64 0), (.int .u64 0), (.int .i64 0), (.int .i64 (-1)), (.int .i64 0), (.int .i64 0), (.str [])]])), (.s (.int .i64 0))])
def ext20 : Orc := memoO 80 a19 r19 ext19
noncomputable def O20 (n : Nat) : Orc := orcN T0 (fnsOf Tryz.prog [33, 53, 5, 57, 58, 59, 60, 61, 62, 64, 65, 67, 68, 70, 71, 73, 75, 82, 116, 117]) an0 ks0 kb0 1000 6 ext19 n
theorem run19 : samePR r19 ((O20 60).pure 80 a19) = true := by kernel_rfl
theorem ok19 : SoundP Tryz.prog G0 80 a19 r19 := ((orc_ok ext19_ok 60).pure 80 a19).of_same run19
theorem ext20_ok : OrcOK Tryz.prog G0 ext20 := memoO_ok ok19 ext19_ok

def a20 : List AV := [(.agg [(.s (.vs 12 2 (rowsL [[(.int .i64 1), (.int .i64 0), (.int .i64 0), (.int .u64 0), (.int .u64 8589934592), (.int .u64 0), (.int .u64 0), (.int .i64 0), (.int .i64 0), (.int .i64 0), (.int .i64 0), (.bool false)], [(.int .i64 10), (.int .i64 0), (.int .i64 0), (.int .u64 0), (.int .u64 0), (.int .u64 0), (.int .u64 0), (.int .i64 0), (.int .i64 (-1)), (.int .i64 0), (.int .i64 0), (.bool false)]])))])]
def r20 : PR := .ret (.s (.int .i64 0))
def ext21 : Orc := memoO 82 a20 r20 ext20
noncomputable def O21 (n : Nat) : Orc := orcN T0 (fnsOf Tryz.prog [33, 53, 5, 57, 58, 59, 60, 61, 62, 64, 65, 67, 68, 70, 71, 73, 75, 80, 116, 117]) an0 ks0 kb0 1000 6 ext20 n
theorem run20 : samePR r20 ((O21 60).pure 82 a20) = true := by kernel_rfl
theorem ok20 : SoundP Tryz.prog G0 82 a20 r20 := ((orc_ok ext20_ok 60).pure 82 a20).of_same run20
theorem ext21_ok : OrcOK Tryz.prog G0 ext21 := memoO_ok ok20 ext20_ok

def a21 : List AV := [(.s (.str [97, 42]))]
def r21 : PR := .ret (.tup [(.agg [(.s (.vs 12 2 (rowsL [[(.int .i64 1), (.int .i64 0), (.int .i64 0), (.int .u64 0), (.int .u64 8589934592), (.int .u64 0), (.int .u64 0), (.int .i64 0), (.int .i64 0), (.int .i64 0), (.int .i64 0), (.bool false)], [(.int .i64 10), (.int .i64 0), (.int .i64 0), (.int .u64 0), (.int .u64 0), (.int .u64 0), (.int .u64 0), (.int .i64 0), (.int .i64 (-1)), (.int .i64 0), (.int .i64 0), (.bool false)]])))]), (.s (.int .i64 0))])
def ext22 : Orc := memoO 57 a21 r21 ext21
noncomputable def O22 (n : Nat) : Orc := orcN T0 (fnsOf Tryz.prog [33, 53, 5, 58, 59, 60, 61, 62, 64, 65, 67, 68, 70, 71, 73, 75, 80, 82, 116, 117]) an0 ks0 kb0 1000 6 ext21 n
theorem run21 : samePR r21 ((O22 60).pure 57 a21) = true := by kernel_rfl
theorem ok21 : SoundP Tryz.prog G0 57 a21 r21 := ((orc_ok ext21_ok 60).pure 57 a21).of_same run21
theorem ext22_ok : OrcOK Tryz.prog G0 ext22 := memoO_ok ok21 ext21_ok

def a22 : List AV := [(.agg [(.s (.vs 12 2 (rowsL [[(.int .i64 1), (.int .i64 0), (.int .i64 0), (.int .u64 0), (.int .u64 8589934592), (.int .u64 0), (.int .u64 0), (.int .i64 0), (.int .i64 0), (.int .i64 0), (.int .i64 0), (.bool false)], [(.int .i64 10), (.int .i64 0), (.int .i64 0), (.int .u64 0), (.int .u64 0), (.int .u64 0), (.int .u64 0), (.int .i64 0), (.int .i64 (-1)), (.int .i64 0), (.int .i64 0), (.bool false)]])))])]
def r22 : PR := .ret (.tup [(.agg [(.s (.int .u64 0)), (.s (.int .u64 8589934592)), (.s (.int .u64 0)), (.s (.int .u64 0)), (.s (.bool true)), (.s (.bool false)), (.s (.str []))]), (.s (.int .i64 0))])
def ext23 : Orc := memoO 58 a22 r22 ext22
noncomputable def O23 (n : Nat) : Orc := orcN T0 (fnsOf Tryz.prog [33, 53, 5, 57, 59, 60, 61, 62, 64, 65, 67, 68, 70, 71, 73, 75, 80, 82, 116, 117]) an0 ks0 kb0 1000 6 ext22 n
theorem run22 : samePR r22 ((O23 60).pure 58 a22) = true := by kernel_rfl
theorem ok22 : SoundP Tryz.prog G0 58 a22 r22 := ((orc_ok ext22_ok 60).pure 58 a22).of_same run22
theorem ext23_ok : OrcOK Tryz.prog G0 ext23 := memoO_ok ok22 ext22_ok

def a23 : List AV := [(.agg [(.s (.vs 12 2 (rowsL [[(.int .i64 1), (.int .i64 0), (.int .i64 0), (.int .u64 0), (.int .u64 8589934592), (.int .u64 0), (.int .u64 0), (.int .i64 0), (.int .i64 0), (.int .i64 0), (.int .i64 0), (.bool false)], [(.int .i64 10), (.int .i64 0), (.int .i64 0), (.int .u64 0), (.int .u64 0), (.int .u64 0), (.int .u64 0), (.int .i64 0), (.int .i64 (-1)), (.int .i64 0), (.int .i64 0), (.bool false)]])))])]
def r23 : PR := .ret (.tup [(.agg [(.s (.vs 12 2 (rowsL [[(.int .i64 1), (.int .i64 0), (.int .i64 0), (.int .u64 0), (.int .u64 8589934592), (.int .u64 0), (.int .u64 0), (.int .i64 0), (.int .i64 0), (.int .i64 0), (.int .i64 0), (.bool false)], [(.int .i64 10), (.int .i64 0), (.int .i64 0), (.int .u64 0), (.int .u64 0), (.int .u64 0), (.int .u64 0), (.int .i64 0), (.int .i64 (-1)), (.int .i64 0), (.int .i64 0), (.bool false)]])))]), (.s (.int .i64 0))])
def ext24 : Orc := memoO 59 a23 r23 ext23
noncomputable def O24 (n : Nat) : Orc := orcN T0 (fnsOf Tryz.prog [33, 53, 5, 57, 58, 60, 61, 62, 64, 65, 67, 68, 70, 71, 73, 75, 80, 82, 116, 117]) an0 ks0 kb0 1000 6 ext23 n
theorem run23 : samePR r23 ((O24 60).pure 59 a23) = true := by kernel_rfl
theorem ok23 : SoundP Tryz.prog G0 59 a23 r23 := ((orc_ok ext23_ok 60).pure 59 a23).of_same run23
theorem ext24_ok : OrcOK Tryz.prog G0 ext24 := memoO_ok ok23 ext23_ok

def a24 : List AV := [(.agg [(.s (.vs 12 2 (rowsL [[(.int .i64 1), (.int .i64 0), (.int .i64 0), (.int .u64 0), (.int .u64 8589934592), (.int .u64 0), (.int .u64 0), (.int .i64 0), (.int .i64 0), (.int .i64 0), (.int .i64 0), (.bool false)], [(.int .i64 10), (.int .i64 0), (.int .i64 0), (.int .u64 0), (.int .u64 0), (.int .u64 0), (.int .u64 0), (.int .i64 0), (.int .i64 (-1)), (.int .i64 0), (.int .i64 0), (.bool false)]])))])]
def r24 : PR := .ret (.tup [(.agg [(.own 12 5 (rowsL [[(.int .i64 8), (.int .i64 0), (.int .i64 0), (.int .i64 0), (.int .i64 0), (.int .i64 0), (.int .i64 0), (.int .u64 0), (.int .u64 0), (.int .u64 0), (.int .u64 0), (.bool false)], [(.int .i64 9), (.int .i64 2), (.int .i64 4), (.int .i64 0), (.int .i64 0), (.int .i64 (-1)), (.int .i64 0), (.int .u64 0), (.int .u64 0), (.int .u64 0), (.int .u64 0), (.bool false)], [(.int .i64 1), (.int .i64 0), (.int .i64 0), (.int .i64 0), (.int .i64 0), (.int .i64 0), (.int .i64 0), (.int .u64 0), (.int .u64 8589934592), (.int .u64 0), (.int .u64 0), (.bool false)], [(.int .i64 4), (.int .i64 1), (.int .i64 0), (.int .i64 0), (.int .i64 0), (.int .i64 0), (.int .i64 0), (.int .u64 0), (.int .u64 0), (.int .u64 0), (.int .u64 0), (.bool false)], [(.int .i64 0), (.int .i64 0), (.int .i64 0), (.int .i64 0), (.int .i64 0), (.int .i64 0), (.int .i64 0), (.int .u64 0), (.int .u64 0), (.int .u64 0), (.int .u64 0), (.bool false)]])), (.s (.int .i64 1))]), (.s (.int .i64 0))])
def ext25 : Orc := memoO 60 a24 r24 ext24
noncomputable def O25 (n : Nat) : Orc := orcN T0 (fnsOf Tryz.prog [33, 53, 5, 57, 58, 59, 61, 62, 64, 65, 67, 68, 70, 71, 73, 75, 80, 82, 116, 117]) an0 ks0 kb0 1000 6 ext24 n
theorem run24 : samePR r24 ((O25 60).pure 60 a24) = true := by kernel_rfl
theorem ok24 : SoundP Tryz.prog G0 60 a24 r24 := ((orc_ok ext24_ok 60).pure 60 a24).of_same run24
theorem ext25_ok : OrcOK Tryz.prog G0 ext25 := memoO_ok ok24 ext24_ok

def a25 : List AV := [(.agg [(.s (.vs 12 5 (rowsL [[(.int .i64 8), (.int .i64 0), (.int .i64 0), (.int .i64 0), (.int .i64 0), (.int .i64 0), (.int .i64 0), (.int .u64 0), (.int .u64 0), (.int .u64 0), (.int .u64 0), (.bool false)], [(.int .i64 9), (.int .i64 2), (.int .i64 4), (.int .i64 0), (.int .i64 0), (.int .i64 (-1)), (.int .i64 0), (.int .u64 0), (.int .u64 0), (.int .u64 0), (.int .u64 0), (.bool false)], [(.int .i64 1), (.int .i64 0), (.int .i64 0), (.int .i64 0), (.int .i64 0), (.int .i64 0), (.int .i64 0), (.int .u64 0), (.int .u64 8589934592), (.int .u64 0), (.int .u64 0), (.bool false)], [(.int .i64 4), (.int .i64 1), (.int .i64 0), (.int .i64 0), (.int .i64 0), (.int .i64 0), (.int .i64 0), (.int .u64 0), (.int .u64 0), (.int .u64 0), (.int .u64 0), (.bool false)], [(.int .i64 0), (.int .i64 0), (.int .i64 0), (.int .i64 0), (.int .i64 0), (.int .i64 0), (.int .i64 0), (.int .u64 0), (.int .u64 0), (.int .u64 0), (.int .u64 0), (.bool false)]]))), (.s (.int .i64 1))])]
def r25 : PR := .ret (.agg [(.own 12 5 (rowsL [[(.int .i64 8), (.int .i64 0), (.int .i64 0), (.int .i64 0), (.int .i64 0), (.int .i64 0), (.int .i64 0), (.int .u64 0), (.int .u64 0), (.int .u64 0), (.int .u64 0), (.bool false)], [(.int .i64 9), (.int .i64 2), (.int .i64 4), (.int .i64 0), (.int .i64 0), (.int .i64 (-1)), (.int .i64 0), (.int .u64 0), (.int .u64 0), (.int .u64 0), (.int .u64 0), (.bool false)], [(.int .i64 1), (.int .i64 0), (.int .i64 0), (.int .i64 0), (.int .i64 0), (.int .i64 0), (.int .i64 0), (.int .u64 0), (.int .u64 8589934592), (.int .u64 0), (.int .u64 0), (.bool false)], [(.int .i64 4), (.int .i64 1), (.int .i64 0), (.int .i64 0), (.int .i64 0), (.int .i64 0), (.int .i64 0), (.int .u64 0), (.int .u64 0), (.int .u64 0), (.int .u64 0), (.bool false)], [(.int .i64 0), (.int .i64 0), (.int .i64 0), (.int .i64 0), (.int .i64 0), (.int .i64 0), (.int .i64 0), (.int .u64 0), (.int .u64 0), (.int .u64 0), (.int .u64 0), (.bool false)]])), (.s (.int .i64 1))])
def ext26 : Orc := memoO 61 a25 r25 ext25
noncomputable def O26 (n : Nat) : Orc := orcN T0 (fnsOf Tryz.prog [33, 53, 5, 57, 58, 59, 60, 62, 64, 65, 67, 68, 70, 71, 73, 75, 80, 82, 116, 117]) an0 ks0 kb0 1000 6 ext25 n
theorem run25 : samePR r25 ((O26 60).pure 61 a25) = true := by kernel_rfl
theorem ok25 : SoundP Tryz.prog G0 61 a25 r25 := ((orc_ok ext25_ok 60).pure 61 a25).of_same run25
theorem ext26_ok : OrcOK Tryz.prog G0 ext26 := memoO_ok ok25 ext25_ok

end Go.Proofs.YtkdbaijabnhniaaGreatDoor.kn
