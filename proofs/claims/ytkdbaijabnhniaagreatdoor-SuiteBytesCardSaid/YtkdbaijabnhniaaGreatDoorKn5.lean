/- Known calls, run. -/
import Derived.Test.YtkdbaijabnhniaaGreatDoorKn4
namespace Go.Proofs.YtkdbaijabnhniaaGreatDoor.kn
open Go.Ev
set_option maxRecDepth 100000

def a27 : List AV := [(.agg [(.s (.int .u64 0)), (.s (.int .u64 8589934592)), (.s (.int .u64 0)), (.s (.int .u64 0)), (.s (.bool true)), (.s (.bool false)), (.s (.str []))]), (.s (.str [98, 97])), (.s (.int .i64 0))]
def r27 : PR := .ret (.s (.bool false))
def ext28 : Orc := memoO 70 a27 r27 ext27
noncomputable def O28 (n : Nat) : Orc := orcN T0 (fnsOf Tryz.prog [33, 53, 5, 57, 58, 59, 60, 61, 62, 64, 65, 67, 68, 71, 73, 75, 80, 82, 116, 117]) an0 ks0 kb0 1000 6 ext27 n
theorem run27 : samePR r27 ((O28 60).pure 70 a27) = true := by kernel_rfl
theorem ok27 : SoundP Tryz.prog G0 70 a27 r27 := ((orc_ok ext27_ok 60).pure 70 a27).of_same run27
theorem ext28_ok : OrcOK Tryz.prog G0 ext28 := memoO_ok ok27 ext27_ok

def a28 : List AV := [(.agg [(.s (.vs 12 5 (rowsL [[(.int .i64 8), (.int .i64 0), (.int .i64 0), (.int .i64 0), (.int .i64 0), (.int .i64 0), (.int .i64 0), (.int .u64 0), (.int .u64 0), (.int .u64 0), (.int .u64 0), (.bool false)], [(.int .i64 9), (.int .i64 2), (.int .i64 4), (.int .i64 0), (.int .i64 0), (.int .i64 (-1)), (.int .i64 0), (.int .u64 0), (.int .u64 0), (.int .u64 0), (.int .u64 0), (.bool false)], [(.int .i64 1), (.int .i64 0), (.int .i64 0), (.int .i64 0), (.int .i64 0), (.int .i64 0), (.int .i64 0), (.int .u64 0), (.int .u64 8589934592), (.int .u64 0), (.int .u64 0), (.bool false)], [(.int .i64 4), (.int .i64 1), (.int .i64 0), (.int .i64 0), (.int .i64 0), (.int .i64 0), (.int .i64 0), (.int .u64 0), (.int .u64 0), (.int .u64 0), (.int .u64 0), (.bool false)], [(.int .i64 0), (.int .i64 0), (.int .i64 0), (.int .i64 0), (.int .i64 0), (.int .i64 0), (.int .i64 0), (.int .u64 0), (.int .u64 0), (.int .u64 0), (.int .u64 0), (.bool false)]]))), (.s (.int .i64 1))]), (.s (.str [98, 97])), (.s (.int .i64 0)), (.agg [(.s (.flt .f64 4652007308841189376)), (.s (.flt .f64 4652007308841189376))])]
def r28 : PR := .ret (.tup [(.agg [(.s (.bool true)), (.s (.int .i64 0)), (.s (.bool false)), (.s (.bool false)), (.s (.bool false)), (.s (.bool false)), (.s (.bool false)), (.s (.bool false)), (.s (.bool false)), (.s (.bool false)), (.s (.bool false)), (.s (.int .i64 0)), (.s (.int .i64 0)), (.s (.int .i64 0)), (.s (.int .i64 0)), (.s (.int .i64 0)), (.s (.int .i64 0)), (.s (.int .i64 0)), (.s (.int .i64 0)), (.s (.int .i64 0)), (.s (.int .i64 0)), (.s (.int .i64 0)), (.s (.int .i64 0)), (.s (.int .i64 0)), (.s (.int .i64 0)), (.s (.int .i64 0)), (.s (.int .i64 0)), (.s (.int .i64 0)), (.s (.int .i64 0)), (.s (.int .u64 4)), (.s (.int .u64 1))]), (.s (.int .i64 0))])
def ext29 : Orc := memoO 71 a28 r28 ext28
noncomputable def O29 (n : Nat) : Orc := orcN T0 (fnsOf Tryz.prog [33, 53, 5, 57, 58, 59, 60, 61, 62, 64, 65, 67, 68, 70, 73, 75, 80, 82, 116, 117]) an0 ks0 kb0 1000 6 ext28 n
theorem run28 : samePR r28 ((O29 60).pure 71 a28) = true := by kernel_rfl
theorem ok28 : SoundP Tryz.prog G0 71 a28 r28 := ((orc_ok ext28_ok 60).pure 71 a28).of_same run28
theorem ext29_ok : OrcOK Tryz.prog G0 ext29 := memoO_ok ok28 ext28_ok

def a29 : List AV := [(.agg [(.s (.int .u64 0)), (.s (.int .u64 8589934592)), (.s (.int .u64 0)), (.s (.int .u64 0)), (.s (.bool true)), (.s (.bool false)), (.s (.str []))]), (.s (.str [98, 97])), (.s (.int .i64 1))]
def r29 : PR := .ret (.s (.bool false))
def ext30 : Orc := memoO 70 a29 r29 ext29
noncomputable def O30 (n : Nat) : Orc := orcN T0 (fnsOf Tryz.prog [33, 53, 5, 57, 58, 59, 60, 61, 62, 64, 65, 67, 68, 71, 73, 75, 80, 82, 116, 117]) an0 ks0 kb0 1000 6 ext29 n
theorem run29 : samePR r29 ((O30 60).pure 70 a29) = true := by kernel_rfl
theorem ok29 : SoundP Tryz.prog G0 70 a29 r29 := ((orc_ok ext29_ok 60).pure 70 a29).of_same run29
theorem ext30_ok : OrcOK Tryz.prog G0 ext30 := memoO_ok ok29 ext29_ok

def a30 : List AV := [(.agg [(.s (.vs 12 5 (rowsL [[(.int .i64 8), (.int .i64 0), (.int .i64 0), (.int .i64 0), (.int .i64 0), (.int .i64 0), (.int .i64 0), (.int .u64 0), (.int .u64 0), (.int .u64 0), (.int .u64 0), (.bool false)], [(.int .i64 9), (.int .i64 2), (.int .i64 4), (.int .i64 0), (.int .i64 0), (.int .i64 (-1)), (.int .i64 0), (.int .u64 0), (.int .u64 0), (.int .u64 0), (.int .u64 0), (.bool false)], [(.int .i64 1), (.int .i64 0), (.int .i64 0), (.int .i64 0), (.int .i64 0), (.int .i64 0), (.int .i64 0), (.int .u64 0), (.int .u64 8589934592), (.int .u64 0), (.int .u64 0), (.bool false)], [(.int .i64 4), (.int .i64 1), (.int .i64 0), (.int .i64 0), (.int .i64 0), (.int .i64 0), (.int .i64 0), (.int .u64 0), (.int .u64 0), (.int .u64 0), (.int .u64 0), (.bool false)], [(.int .i64 0), (.int .i64 0), (.int .i64 0), (.int .i64 0), (.int .i64 0), (.int .i64 0), (.int .i64 0), (.int .u64 0), (.int .u64 0), (.int .u64 0), (.int .u64 0), (.bool false)]]))), (.s (.int .i64 1))]), (.s (.str [98, 97])), (.s (.int .i64 1)), (.agg [(.s (.flt .f64 4652007308841189376)), (.s (.flt .f64 4652007308841189376))])]
def r30 : PR := .ret (.tup [(.agg [(.s (.bool true)), (.s (.int .i64 2)), (.s (.bool false)), (.s (.bool false)), (.s (.bool false)), (.s (.bool false)), (.s (.bool false)), (.s (.bool false)), (.s (.bool false)), (.s (.bool false)), (.s (.bool false)), (.s (.int .i64 0)), (.s (.int .i64 0)), (.s (.int .i64 0)), (.s (.int .i64 0)), (.s (.int .i64 0)), (.s (.int .i64 0)), (.s (.int .i64 0)), (.s (.int .i64 0)), (.s (.int .i64 0)), (.s (.int .i64 0)), (.s (.int .i64 0)), (.s (.int .i64 0)), (.s (.int .i64 0)), (.s (.int .i64 0)), (.s (.int .i64 0)), (.s (.int .i64 0)), (.s (.int .i64 0)), (.s (.int .i64 0)), (.s (.int .u64 7)), (.s (.int .u64 2))]), (.s (.int .i64 0))])
def ext31 : Orc := memoO 71 a30 r30 ext30
noncomputable def O31 (n : Nat) : Orc := orcN T0 (fnsOf Tryz.prog [33, 53, 5, 57, 58, 59, 60, 61, 62, 64, 65, 67, 68, 70, 73, 75, 80, 82, 116, 117]) an0 ks0 kb0 1000 6 ext30 n
theorem run30 : samePR r30 ((O31 60).pure 71 a30) = true := by kernel_rfl
theorem ok30 : SoundP Tryz.prog G0 71 a30 r30 := ((orc_ok ext30_ok 60).pure 71 a30).of_same run30
theorem ext31_ok : OrcOK Tryz.prog G0 ext31 := memoO_ok ok30 ext30_ok

def a31 : List AV := [(.agg [(.s (.int .u64 0)), (.s (.int .u64 8589934592)), (.s (.int .u64 0)), (.s (.int .u64 0)), (.s (.bool true)), (.s (.bool false)), (.s (.str []))]), (.s (.str [98, 97])), (.s (.int .i64 2))]
def r31 : PR := .ret (.s (.bool false))
def ext32 : Orc := memoO 70 a31 r31 ext31
noncomputable def O32 (n : Nat) : Orc := orcN T0 (fnsOf Tryz.prog [33, 53, 5, 57, 58, 59, 60, 61, 62, 64, 65, 67, 68, 71, 73, 75, 80, 82, 116, 117]) an0 ks0 kb0 1000 6 ext31 n
theorem run31 : samePR r31 ((O32 60).pure 70 a31) = true := by kernel_rfl
theorem ok31 : SoundP Tryz.prog G0 70 a31 r31 := ((orc_ok ext31_ok 60).pure 70 a31).of_same run31
theorem ext32_ok : OrcOK Tryz.prog G0 ext32 := memoO_ok ok31 ext31_ok

def a32 : List AV := [(.agg [(.s (.vs 12 5 (rowsL [[(.int .i64 8), (.int .i64 0), (.int .i64 0), (.int .i64 0), (.int .i64 0), (.int .i64 0), (.int .i64 0), (.int .u64 0), (.int .u64 0), (.int .u64 0), (.int .u64 0), (.bool false)], [(.int .i64 9), (.int .i64 2), (.int .i64 4), (.int .i64 0), (.int .i64 0), (.int .i64 (-1)), (.int .i64 0), (.int .u64 0), (.int .u64 0), (.int .u64 0), (.int .u64 0), (.bool false)], [(.int .i64 1), (.int .i64 0), (.int .i64 0), (.int .i64 0), (.int .i64 0), (.int .i64 0), (.int .i64 0), (.int .u64 0), (.int .u64 8589934592), (.int .u64 0), (.int .u64 0), (.bool false)], [(.int .i64 4), (.int .i64 1), (.int .i64 0), (.int .i64 0), (.int .i64 0), (.int .i64 0), (.int .i64 0), (.int .u64 0), (.int .u64 0), (.int .u64 0), (.int .u64 0), (.bool false)], [(.int .i64 0), (.int .i64 0), (.int .i64 0), (.int .i64 0), (.int .i64 0), (.int .i64 0), (.int .i64 0), (.int .u64 0), (.int .u64 0), (.int .u64 0), (.int .u64 0), (.bool false)]]))), (.s (.int .i64 1))]), (.s (.str [98, 97])), (.s (.int .i64 2)), (.agg [(.s (.flt .f64 4652007308841189376)), (.s (.flt .f64 4652007308841189376))])]
def r32 : PR := .ret (.tup [(.agg [(.s (.bool true)), (.s (.int .i64 2)), (.s (.bool false)), (.s (.bool false)), (.s (.bool false)), (.s (.bool false)), (.s (.bool false)), (.s (.bool false)), (.s (.bool false)), (.s (.bool false)), (.s (.bool false)), (.s (.int .i64 0)), (.s (.int .i64 0)), (.s (.int .i64 0)), (.s (.int .i64 0)), (.s (.int .i64 0)), (.s (.int .i64 0)), (.s (.int .i64 0)), (.s (.int .i64 0)), (.s (.int .i64 0)), (.s (.int .i64 0)), (.s (.int .i64 0)), (.s (.int .i64 0)), (.s (.int .i64 0)), (.s (.int .i64 0)), (.s (.int .i64 0)), (.s (.int .i64 0)), (.s (.int .i64 0)), (.s (.int .i64 0)), (.s (.int .u64 4)), (.s (.int .u64 1))]), (.s (.int .i64 0))])
def ext33 : Orc := memoO 71 a32 r32 ext32
noncomputable def O33 (n : Nat) : Orc := orcN T0 (fnsOf Tryz.prog [33, 53, 5, 57, 58, 59, 60, 61, 62, 64, 65, 67, 68, 70, 73, 75, 80, 82, 116, 117]) an0 ks0 kb0 1000 6 ext32 n
theorem run32 : samePR r32 ((O33 60).pure 71 a32) = true := by kernel_rfl
theorem ok32 : SoundP Tryz.prog G0 71 a32 r32 := ((orc_ok ext32_ok 60).pure 71 a32).of_same run32
theorem ext33_ok : OrcOK Tryz.prog G0 ext33 := memoO_ok ok32 ext32_ok

def a33 : List AV := [(.s (.str [98, 97])), (.s (.str [45])), (.agg [(.s (.int .i64 0)), (.s (.int .i64 0)), (.s (.bool false)), (.s (.bool false)), (.s (.bool false)), (.s (.bool false)), (.s (.bool false)), (.s (.bool false)), (.s (.bool false)), (.s (.bool false)), (.s (.bool false)), (.s (.int .i64 0)), (.s (.int .i64 0)), (.s (.int .i64 0)), (.s (.int .i64 0)), (.s (.int .i64 0)), (.s (.int .i64 0)), (.s (.int .i64 0)), (.s (.int .i64 0)), (.s (.int .i64 0)), (.s (.int .i64 0)), (.s (.int .i64 0)), (.s (.int .i64 0)), (.s (.int .i64 0)), (.s (.int .i64 0)), (.s (.int .i64 0)), (.s (.int .i64 0)), (.s (.int .i64 0)), (.s (.int .i64 0))])]
def r33 : PR := .ret (.s (.str [45]))
def ext34 : Orc := memoO 73 a33 r33 ext33
noncomputable def O34 (n : Nat) : Orc := orcN T0 (fnsOf Tryz.prog [33, 53, 5, 57, 58, 59, 60, 61, 62, 64, 65, 67, 68, 70, 71, 75, 80, 82, 116, 117]) an0 ks0 kb0 1000 6 ext33 n
theorem run33 : samePR r33 ((O34 60).pure 73 a33) = true := by kernel_rfl
theorem ok33 : SoundP Tryz.prog G0 73 a33 r33 := ((orc_ok ext33_ok 60).pure 73 a33).of_same run33
theorem ext34_ok : OrcOK Tryz.prog G0 ext34 := memoO_ok ok33 ext33_ok

def a34 : List AV := [(.s (.str [98, 97])), (.s (.str [45])), (.agg [(.s (.int .i64 1)), (.s (.int .i64 2)), (.s (.bool false)), (.s (.bool false)), (.s (.bool false)), (.s (.bool false)), (.s (.bool false)), (.s (.bool false)), (.s (.bool false)), (.s (.bool false)), (.s (.bool false)), (.s (.int .i64 0)), (.s (.int .i64 0)), (.s (.int .i64 0)), (.s (.int .i64 0)), (.s (.int .i64 0)), (.s (.int .i64 0)), (.s (.int .i64 0)), (.s (.int .i64 0)), (.s (.int .i64 0)), (.s (.int .i64 0)), (.s (.int .i64 0)), (.s (.int .i64 0)), (.s (.int .i64 0)), (.s (.int .i64 0)), (.s (.int .i64 0)), (.s (.int .i64 0)), (.s (.int .i64 0)), (.s (.int .i64 0))])]
def r34 : PR := .ret (.s (.str [45]))
def ext35 : Orc := memoO 73 a34 r34 ext34
noncomputable def O35 (n : Nat) : Orc := orcN T0 (fnsOf Tryz.prog [33, 53, 5, 57, 58, 59, 60, 61, 62, 64, 65, 67, 68, 70, 71, 75, 80, 82, 116, 117]) an0 ks0 kb0 1000 6 ext34 n
theorem run34 : samePR r34 ((O35 60).pure 73 a34) = true := by kernel_rfl
theorem ok34 : SoundP Tryz.prog G0 73 a34 r34 := ((orc_ok ext34_ok 60).pure 73 a34).of_same run34
theorem ext35_ok : OrcOK Tryz.prog G0 ext35 := memoO_ok ok34 ext34_ok

def a35 : List AV := [(.s (.str [98, 97])), (.s (.str [45])), (.agg [(.s (.int .i64 2)), (.s (.int .i64 2)), (.s (.bool false)), (.s (.bool false)), (.s (.bool false)), (.s (.bool false)), (.s (.bool false)), (.s (.bool false)), (.s (.bool false)), (.s (.bool false)), (.s (.bool false)), (.s (.int .i64 0)), (.s (.int .i64 0)), (.s (.int .i64 0)), (.s (.int .i64 0)), (.s (.int .i64 0)), (.s (.int .i64 0)), (.s (.int .i64 0)), (.s (.int .i64 0)), (.s (.int .i64 0)), (.s (.int .i64 0)), (.s (.int .i64 0)), (.s (.int .i64 0)), (.s (.int .i64 0)), (.s (.int .i64 0)), (.s (.int .i64 0)), (.s (.int .i64 0)), (.s (.int .i64 0)), (.s (.int .i64 0))])]
def r35 : PR := .ret (.s (.str [45]))
def ext36 : Orc := memoO 73 a35 r35 ext35
noncomputable def O36 (n : Nat) : Orc := orcN T0 (fnsOf Tryz.prog [33, 53, 5, 57, 58, 59, 60, 61, 62, 64, 65, 67, 68, 70, 71, 75, 80, 82, 116, 117]) an0 ks0 kb0 1000 6 ext35 n
theorem run35 : samePR r35 ((O36 60).pure 73 a35) = true := by kernel_rfl
theorem ok35 : SoundP Tryz.prog G0 73 a35 r35 := ((orc_ok ext35_ok 60).pure 73 a35).of_same run35
theorem ext36_ok : OrcOK Tryz.prog G0 ext36 := memoO_ok ok35 ext35_ok

def a36 : List AV := [(.agg [(.s (.vs 12 5 (rowsL [[(.int .i64 8), (.int .i64 0), (.int .i64 0), (.int .i64 0), (.int .i64 0), (.int .i64 0), (.int .i64 0), (.int .u64 0), (.int .u64 0), (.int .u64 0), (.int .u64 0), (.bool false)], [(.int .i64 9), (.int .i64 2), (.int .i64 4), (.int .i64 0), (.int .i64 0), (.int .i64 (-1)), (.int .i64 0), (.int .u64 0), (.int .u64 0), (.int .u64 0), (.int .u64 0), (.bool false)], [(.int .i64 1), (.int .i64 0), (.int .i64 0), (.int .i64 0), (.int .i64 0), (.int .i64 0), (.int .i64 0), (.int .u64 0), (.int .u64 8589934592), (.int .u64 0), (.int .u64 0), (.bool false)], [(.int .i64 4), (.int .i64 1), (.int .i64 0), (.int .i64 0), (.int .i64 0), (.int .i64 0), (.int .i64 0), (.int .u64 0), (.int .u64 0), (.int .u64 0), (.int .u64 0), (.bool false)], [(.int .i64 0), (.int .i64 0), (.int .i64 0), (.int .i64 0), (.int .i64 0), (.int .i64 0), (.int .i64 0), (.int .u64 0), (.int .u64 0), (.int .u64 0), (.int .u64 0), (.bool false)]]))), (.s (.int .i64 1))]), (.agg [(.s (.int .u64 0)), (.s (.int .u64 8589934592)), (.s (.int .u64 0)), (.s (.int .u64 0)), (.s (.bool true)), (.s (.bool false)), (.s (.str []))]), (.s (.str [98, 97])), (.agg [(.s (.flt .f64 4652007308841189376)), (.s (.flt .f64 4652007308841189376))])]
def r36 : PR := .ret (.tup [(.agg [(.s (.int .i64 0)), (.s (.int .i64 0)), (.s (.bool false)), (.s (.bool false)), (.s (.bool false)), (.s (.bool false)), (.s (.bool false)), (.s (.bool false)), (.s (.bool false)), (.s (.bool false)), (.s (.bool false)), (.s (.int .i64 0)), (.s (.int .i64 0)), (.s (.int .i64 0)), (.s (.int .i64 0)), (.s (.int .i64 0)), (.s (.int .i64 0)), (.s (.int .i64 0)), (.s (.int .i64 0)), (.s (.int .i64 0)), (.s (.int .i64 0)), (.s (.int .i64 0)), (.s (.int .i64 0)), (.s (.int .i64 0)), (.s (.int .i64 0)), (.s (.int .i64 0)), (.s (.int .i64 0)), (.s (.int .i64 0)), (.s (.int .i64 0))]), (.s (.bool true)), (.s (.int .i64 0))])
def ext37 : Orc := memoO 68 a36 r36 ext36
noncomputable def O37 (n : Nat) : Orc := orcN T0 (fnsOf Tryz.prog [33, 53, 5, 57, 58, 59, 60, 61, 62, 64, 65, 67, 70, 71, 73, 75, 80, 82, 116, 117]) an0 ks0 kb0 1000 6 ext36 n
theorem run36 : samePR r36 ((O37 60).pure 68 a36) = true := by kernel_rfl
theorem ok36 : SoundP Tryz.prog G0 68 a36 r36 := ((orc_ok ext36_ok 60).pure 68 a36).of_same run36
theorem ext37_ok : OrcOK Tryz.prog G0 ext37 := memoO_ok ok36 ext36_ok

def a37 : List AV := [(.s (.str [0, 0, 2, 97, 42, 1, 0, 2, 98, 97, 6, 9, 0, 7, 0, 1, 45, 8, 0, 0, 5, 0, 0, 115, 241, 106, 120]))]
def r37 : PR := .ret (.tup [(.s .nils), (.s (.int .i64 12))])
def ext38 : Orc := memoO 5 a37 r37 ext37
noncomputable def O38 (n : Nat) : Orc := orcN T0 (fnsOf Tryz.prog [33, 53, 57, 58, 59, 60, 61, 62, 64, 65, 67, 68, 70, 71, 73, 75, 80, 82, 116, 117]) an0 ks0 kb0 1000 6 ext37 n
theorem run37 : samePR r37 ((O38 60).pure 5 a37) = true := by kernel_rfl
theorem ok37 : SoundP Tryz.prog G0 5 a37 r37 := ((orc_ok ext37_ok 60).pure 5 a37).of_same run37
theorem ext38_ok : OrcOK Tryz.prog G0 ext38 := memoO_ok ok37 ext37_ok

noncomputable def OF (n : Nat) : Orc := orcN T0 (fnsOf Tryz.prog [33, 53, 5, 57, 58, 59, 60, 61, 62, 64, 65, 67, 68, 70, 71, 73, 75, 80, 82, 116, 117]) an0 ks0 kb0 1000 6 ext38 n
theorem fixed23 : samePR (.ret (.s (.bool true))) ((OF 60).pure 9 []) = true := by kernel_rfl
theorem fixed23_ok : SoundP Tryz.prog G0 9 [] (.ret (.s (.bool true))) := ((orc_ok ext38_ok 60).pure 9 []).of_same fixed23

end Go.Proofs.YtkdbaijabnhniaaGreatDoor.kn
