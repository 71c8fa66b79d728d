/- The law StepJoins of clewlaw13: what is behind any run within is as the document says; it answers true whatever is handed in, and leaves that as it was. No condition. -/
import Derived.Test.YtnkllabpkchblaaGreatDoorCards
import Derived.Test.YtnkllabpkchblaaGreatDoorTie
import Derived.Test.YtnkllabpkchblaaGreatDoorBase
namespace Go.Proofs.YtnkllabpkchblaaGreatDoor.stepJoins
open Go.ChangeShapes Go.WideShapes Go.ChangeAt Go.RowKit Go.Ev

noncomputable def ext1 : Orc := putO 17 (nullP (.s (.bool true))) ext0
noncomputable def O1 (n : Nat) : Orc := orcN T0 (fnsOf Tryz.prog [17]) (fun _ => {}) ks0 kb0 1000 6 ext1 n
set_option maxRecDepth 100000 in
theorem ext1_ok : OrcOK Tryz.prog G0 ext1 := putO_ok (nullP_ok fixed13_ok) ext0_ok
theorem O1_ok (n : Nat) : OrcOK Tryz.prog G0 (O1 n) := orcN_ok rfl T0_ok mixed (fnsOf_ok names_ok) (fun _ => rfl) ks0 kb0 1000 6 ext1_ok n
noncomputable def run3 (args : List AV) : Option PR := runP T0 (O1 5) {} (loopN T0 (O1 5) {} ks0 kb0 1000 6) Tryz.f3 args

def ts28 : List TypeId := [3, 3, 4, 4, 4, 4, 4, 4, 4, 4, 4, 3, 3, 3, 3, 3, 3, 3, 3, 3, 3, 3, 3, 3, 3, 3, 3, 3, 3]
theorem ts29 : Tryz.prog.cellTypes Tryz.prog.depth 29 = some (ts28 ++ ts28) := by kernel_rfl
noncomputable def cs (ints : Nat → Int) (bools : Nat → Bool) : List AV := plainCells T0 ints bools 0 (ts28 ++ ts28)
def ans (e : Bool) : Option PR := cond e (some (.ret (.s (.bool true)))) (some (.ret (.s (.bool false))))
theorem c0t (ints bools) : run3 [.s (.int .i64 0), .agg (cs ints bools), .s (.bool true)] = ans (knownEq T0 34 (.agg ((cs ints bools).take 1 ++ (cs ints bools).drop 30)) (.agg ((cs ints bools).take 1 ++ (cs ints bools).drop 30))) := by kernel_rfl
theorem c0f (ints bools) : run3 [.s (.int .i64 0), .agg (cs ints bools), .s (.bool false)] = ans (knownEq T0 34 (.agg (plainCells T0 (fun _ => 0) (fun _ => false) 0 ts28)) (.agg (plainCells T0 (fun _ => 0) (fun _ => false) 0 ts28))) := by kernel_rfl
theorem c1t (ints bools) : run3 [.s (.int .i64 1), .agg (cs ints bools), .s (.bool true)] = ans (knownEq T0 34 (.agg ((cs ints bools).take 2 ++ (cs ints bools).drop 31)) (.agg ((cs ints bools).take 2 ++ (cs ints bools).drop 31))) := by kernel_rfl
theorem c1f (ints bools) : run3 [.s (.int .i64 1), .agg (cs ints bools), .s (.bool false)] = ans (knownEq T0 34 (.agg (plainCells T0 (fun _ => 0) (fun _ => false) 0 ts28)) (.agg (plainCells T0 (fun _ => 0) (fun _ => false) 0 ts28))) := by kernel_rfl
theorem c2t (ints bools) : run3 [.s (.int .i64 2), .agg (cs ints bools), .s (.bool true)] = ans (knownEq T0 34 (.agg (plainCells T0 (fun _ => 0) (fun _ => false) 0 ts28)) (.agg (plainCells T0 (fun _ => 0) (fun _ => false) 0 ts28))) := by kernel_rfl
theorem c2f (ints bools) : run3 [.s (.int .i64 2), .agg (cs ints bools), .s (.bool false)] = ans (knownEq T0 34 (.agg ((cs ints bools).take 29)) (.agg ((cs ints bools).take 29))) := by kernel_rfl
theorem c3t (n : Nat) (ints bools) : run3 [.s (.int .i64 (Int.ofNat (n + 3))), .agg (cs ints bools), .s (.bool true)] = ans (knownEq T0 34 (.agg (plainCells T0 (fun _ => 0) (fun _ => false) 0 ts28)) (.agg (plainCells T0 (fun _ => 0) (fun _ => false) 0 ts28))) := by kernel_rfl
theorem c3f (n : Nat) (ints bools) : run3 [.s (.int .i64 (Int.ofNat (n + 3))), .agg (cs ints bools), .s (.bool false)] = ans (knownEq T0 34 (.agg (plainCells T0 (fun _ => 0) (fun _ => false) 0 ts28)) (.agg (plainCells T0 (fun _ => 0) (fun _ => false) 0 ts28))) := by kernel_rfl
theorem cnt (n : Nat) (ints bools) : run3 [.s (.int .i64 (Int.negSucc n)), .agg (cs ints bools), .s (.bool true)] = ans (knownEq T0 34 (.agg (plainCells T0 (fun _ => 0) (fun _ => false) 0 ts28)) (.agg (plainCells T0 (fun _ => 0) (fun _ => false) 0 ts28))) := by kernel_rfl
theorem cnf (n : Nat) (ints bools) : run3 [.s (.int .i64 (Int.negSucc n)), .agg (cs ints bools), .s (.bool false)] = ans (knownEq T0 34 (.agg (plainCells T0 (fun _ => 0) (fun _ => false) 0 ts28)) (.agg (plainCells T0 (fun _ => 0) (fun _ => false) 0 ts28))) := by kernel_rfl

theorem all3 (how : Int) (is : Bool) (ints bools) : run3 [.s (.int .i64 how), .agg (cs ints bools), .s (.bool is)] = some (.ret (.s (.bool true))) := by
  match how, is with
  | .ofNat 0, true => exact (c0t ints bools).trans (by rw [knownEq_self]; rfl)
  | .ofNat 0, false => exact (c0f ints bools).trans (by rw [knownEq_self]; rfl)
  | .ofNat 1, true => exact (c1t ints bools).trans (by rw [knownEq_self]; rfl)
  | .ofNat 1, false => exact (c1f ints bools).trans (by rw [knownEq_self]; rfl)
  | .ofNat 2, true => exact (c2t ints bools).trans (by rw [knownEq_self]; rfl)
  | .ofNat 2, false => exact (c2f ints bools).trans (by rw [knownEq_self]; rfl)
  | .ofNat (n + 3), true => exact (c3t n ints bools).trans (by rw [knownEq_self]; rfl)
  | .ofNat (n + 3), false => exact (c3f n ints bools).trans (by rw [knownEq_self]; rfl)
  | .negSucc n, true => exact (cnt n ints bools).trans (by rw [knownEq_self]; rfl)
  | .negSucc n, false => exact (cnf n ints bools).trans (by rw [knownEq_self]; rfl)

theorem O1_oks : Oks Tryz.prog G0 T0 (O1 5) {} := ⟨T0_ok, rfl, callOK (O1_ok 5) rfl, mixed⟩

theorem f3_name : (Tryz.f3.name == "runtime.NumGoroutine") = false := by kernel_rfl
theorem f3_body : Tryz.f3.body.isNone = false := by kernel_rfl
theorem some_of_isNone {α : Type} : ∀ {o : Option α}, o.isNone = false → ∃ c, o = some c
  | some c, _ => ⟨c, rfl⟩

set_option maxRecDepth 100000 in
theorem sound (how : Int) (is : Bool) (ints bools) : SoundP Tryz.prog G0 3 [.s (.int .i64 how), .agg (cs ints bools), .s (.bool is)] (.ret (.s (.bool true))) := by
  obtain ⟨c, hc⟩ := some_of_isNone f3_body
  exact runP_sound rfl O1_oks Tryz.func3 f3_name hc (loopN_ok O1_oks ks0 kb0 1000 6 c) (fun l hl => by
    simp only [PR.val, Option.some.injEq] at hl
    subst hl
    exact all3 how is ints bools)

theorem t29 : T0 29 = some ⟨.array 2 28, 58, 352, ((List.replicate 2 ([.int .i64 0, .int .i64 0] ++ List.replicate 9 (.bool false) ++ List.replicate 18 (.int .i64 0))).flatten), true⟩ := by kernel_rfl
theorem cells29 : Tryz.prog.cellsOf 29 = (ts28 ++ ts28).length := by kernel_rfl
theorem params : Tryz.f3.params.toList = [3, 29, 4] := by kernel_rfl
theorem results : Tryz.f3.resultTypes = #[4] := by kernel_rfl
theorem u3 : Tryz.prog.underlying 3 = some (.int .i64) := by kernel_rfl
theorem u4 : Tryz.prog.underlying 4 = some .bool := by kernel_rfl
theorem b3 : (Nat.blt 3 Tryz.prog.types.size && Tryz.prog.readableRec 3) = true := by kernel_rfl
theorem b29 : (Nat.blt 29 Tryz.prog.types.size && Tryz.prog.readableRec 29) = true := by kernel_rfl
theorem b4 : (Nat.blt 4 Tryz.prog.types.size && Tryz.prog.readableRec 4) = true := by kernel_rfl
theorem book {t : Nat} (h : (Nat.blt t Tryz.prog.types.size && Tryz.prog.readableRec t) = true) : t < Tryz.prog.types.size ∧ Tryz.prog.readableRec t = true := by
  simp only [Bool.and_eq_true, Nat.blt_eq] at h
  exact h
theorem books : ∀ t ∈ Tryz.f3.params.toList, t < Tryz.prog.types.size ∧ Tryz.prog.readableRec t = true := by
  rw [params]
  intro t ht
  simp only [List.mem_cons, List.not_mem_nil, or_false] at ht
  rcases ht with rfl | rfl | rfl
  · exact book b3
  · exact book b29
  · exact book b4

set_option maxRecDepth 100000 in
/-- WHAT THE RUN GIVES, FOR EVERY ARGUMENT AND EVERY WORLD. -/
theorem contract (H : Type) (enc : TypeId × Value → H) (W : World) (base : Nat) (args : Array Value) (ds gs : List (DataW H)) (before : List MemPlace)
    (hval : ∀ (j : Nat) t v, Tryz.f3.params[j]? = some t → args[j]? = some v → Value.okWide Tryz.prog W .any base t v)
    (hW : DataW.Whole enc Tryz.prog Tryz.f3.params.toList Rows.stepJoinsSpec.vars false W args.toList ds gs before) :
    Calls Tryz.prog 3 args W fun e W' => ∃ v, e = .returned v ∧ Rows.stepJoinsSpec.post enc Tryz.prog Tryz.f3 false true false false W args v W' := by
  have hW' := hW
  obtain ⟨p, q, hA, hV, rfl, hfz, hnd⟩ := hW
  have hp : Tryz.f3.params = [3, 29, 4].toArray := by rw [← params]
  rw [params] at hA
  rw [hp] at hval
  obtain ⟨v0, vs0, d0, ds0, p0, q0, e0, rfl, rfl, h0, r0⟩ := trodAll_cons hA
  obtain ⟨v1, vs1, d1, ds1, p1, q1, rfl, rfl, rfl, h1, r1⟩ := trodAll_cons r0
  obtain ⟨v2, vs2, d2, ds2, p2, q2, rfl, rfl, rfl, h2, r2⟩ := trodAll_cons r1
  obtain ⟨rfl, rfl, rfl⟩ := trodAll_nil r2
  obtain rfl : args = [v0, v1, v2].toArray := by rw [← e0]
  obtain ⟨how, rfl, _⟩ := open_int u3 (hval 0 3 v0 rfl rfl) h0
  obtain ⟨is, rfl, _⟩ := open_bool u4 (hval 2 4 v2 rfl rfl) h2
  obtain ⟨ints, bools, hcs⟩ := plain_agg T0_ok (E := envP (fun _ => none) fun _ => none) t29 rfl ts29 cells29 (hval 1 29 v1 rfl rfl)
  have run := (sound how is ints bools _ rfl (fun _ => none) W [.int .i64 how, v1, .bool is] (fun g cs h => by cases h) (fun b m h => by cases h)
    (by simp only [VAs, VA, VS]; exact ⟨_, _, rfl, rfl, _, _, rfl, hcs, _, _, rfl, rfl, rfl⟩)).calls Tryz.func3 f3_name f3_body
  refine run.mono fun e W' he => ?_
  obtain ⟨M', O', y, hk, rfl, hy⟩ := he
  simp only [VA, VS] at hy
  subst hy
  obtain ⟨rfl, _⟩ := trodVars_none hV
  exact ⟨_, rfl, law_post hW' rfl rfl results u4 hk.kept progFacts.laidOut books⟩

theorem own : ownKnob Tryz.prog.godebug = none := by kernel_rfl

/-- A WORLD FOR THE WITNESS: the settled one, the table (block 1) holding what its initialiser lays. -/
noncomputable def laidWorld (os : Os) : World :=
  { World.holding Tryz.prog os ⟨#[], #[], []⟩ with heap := (World.holding Tryz.prog os ⟨#[], #[], []⟩).heap.modify 1 fun
      | .cells _ t frozen => .cells #[.int .u8 0, .int .u8 1, .int .u8 56, .int .u8 2, .int .u8 57, .int .u8 49, .int .u8 28, .int .u8 3, .int .u8 61, .int .u8 58, .int .u8 42, .int .u8 50, .int .u8 38, .int .u8 29, .int .u8 17, .int .u8 4, .int .u8 62, .int .u8 47, .int .u8 59, .int .u8 36, .int .u8 45, .int .u8 43, .int .u8 51, .int .u8 22, .int .u8 53, .int .u8 39, .int .u8 33, .int .u8 30, .int .u8 24, .int .u8 18, .int .u8 12, .int .u8 5, .int .u8 63, .int .u8 55, .int .u8 48, .int .u8 27, .int .u8 60, .int .u8 41, .int .u8 37, .int .u8 16, .int .u8 46, .int .u8 35, .int .u8 44, .int .u8 21, .int .u8 52, .int .u8 32, .int .u8 23, .int .u8 11, .int .u8 54, .int .u8 26, .int .u8 40, .int .u8 15, .int .u8 34, .int .u8 20, .int .u8 31, .int .u8 10, .int .u8 25, .int .u8 14, .int .u8 19, .int .u8 9, .int .u8 13, .int .u8 8, .int .u8 7, .int .u8 6] t frozen
      | o => o }

def zCaps {H : Type} : DataW H := .agg [.agg (List.replicate 9 (.lit (.bool false))), .agg (List.replicate 9 (.agg [.lit (.int .i64 0), .lit (.int .i64 0)]))]
def zConf {H : Type} : DataW H := .agg [.lit (.int .i64 0), .lit (.int .i64 0), zCaps]
def zCells : List Value := [.int .i64 0, .int .i64 0] ++ List.replicate 9 (.bool false) ++ List.replicate 18 (.int .i64 0)
def wArgs : Array Value := #[.int .i64 0, .agg (zCells ++ zCells).toArray, .bool false]

theorem laid_met (os : Os) : laidMet Tryz.prog Rows.stepJoinsRow.laid ((laidWorld os).forCall (fun _ _ => 0) ⟨#[], wArgs, []⟩).memory :=
  laidMet_of_run' 8 (by kernel_rfl) (by kernel_rfl)
theorem reads (os : Os) {H : Type} (enc : TypeId × Value → H) : ∃ places, DataW.whole enc Tryz.prog ((laidWorld os).forCall (fun _ _ => 0) ⟨#[], wArgs, []⟩).memory Tryz.f3.params.toList Rows.stepJoinsSpec.vars false wArgs.toList 8 = some ([.lit (.int .i64 0), .agg [zConf, zConf], .lit (.bool false)], [], places) :=
  ⟨[], by kernel_rfl⟩

set_option maxRecDepth 100000 in
theorem lifted (os : Os) (started : os.Started) (H : Type) (enc : TypeId × Value → H) (F : Stop.Interp) :
    ReturnsInHanded {} Tryz.checked os 3 .any ((OpenSpec.ofChange Rows.stepJoinsSpec).preRow enc Tryz.prog Tryz.f3 Rows.stepJoinsRow.domain false Rows.stepJoinsRow.laid) (((OpenSpec.ofChange Rows.stepJoinsSpec).at F).post enc Tryz.prog Tryz.f3 false true false false) := by
  obtain ⟨places, hx⟩ := reads os enc
  refine returnsInHanded_of_row (C := Tryz.checked) (s := OpenSpec.ofChange Rows.stepJoinsSpec) own started (by kernel_rfl) Tryz.func3
    (witness_row_at (enc := enc) (C := Tryz.checked) false (laidWorld os) wArgs rfl (by kernel_rfl) (by kernel_rfl) (by kernel_rfl)
      (OpenSpec.preRow_of_cond 8 hx (by kernel_rfl) (fun k hk => by cases hk) (by kernel_rfl) (laid_met os))) ?_
  intro W base args ds gs before hval hW _ _ _ _ _ _
  exact contract H enc W base args ds gs before hval hW

abbrev RF := RowFacts Tryz.prog 3 Tryz.f3 (OpenSpec.ofChange Rows.stepJoinsSpec).bare Rows.stepJoinsRow
theorem rf1 : (Rows.stepJoinsRow.inPlace == Tryz.prog.inPlace 3) = true := by kernel_rfl
theorem rf2 : (Rows.stepJoinsRow.unfollowed == Tryz.prog.unfollowed 3) = true := by kernel_rfl
theorem rf3 : (Rows.stepJoinsRow.recurses == Tryz.prog.recurses 3) = true := by kernel_rfl
theorem rf4 : (Rows.stepJoinsRow.named == Tryz.prog.varsNamed 3) = true := by kernel_rfl
theorem rowFacts : RF :=
  { wf := by kernel_rfl, reads := by kernel_rfl, tie := by kernel_rfl, none1 := by kernel_rfl, inPlace := rf1, unfollowed := rf2, recurses := rf3, named := rf4,
    maps := by kernel_rfl, ifaces := by kernel_rfl, mapsOut := by kernel_rfl, loops := by kernel_rfl, wideKeys := by kernel_rfl, vars := by kernel_rfl, res := by kernel_rfl,
    ifacesOut := by kernel_rfl, loopsOut := by kernel_rfl, plainKeys := plainKeysF, lifted := liftedF, make := by kernel_rfl, kinds := by kernel_rfl, veiled := by kernel_rfl, veiledFits := by kernel_rfl }
theorem named3 : Tryz.prog.funcNamed "clew/clewlaw13.StepJoins" = some 3 := by kernel_rfl

theorem said : Rows.StepJoinsSaid :=
  OpenClaim.holds_of_cond 3 Tryz.f3 rfl rfl rfl rfl rfl rfl rfl ⟨rfl, rfl, rfl, rfl, rfl⟩ rfl rfl rfl rfl rfl named3 Tryz.func3 (joined_of progFacts rowFacts)
    (of_decide_eq_true (by kernel_rfl)) (by unfold Func.isWrapper; first | (rw [if_pos (by decide +kernel)]; kernel_rfl) | (rw [if_neg (by decide +kernel)]; exact ⟨rfl, rfl⟩))
    (fun os started H enc _ F => by rw [OpenClaim.pre_eq_preRow]; exact lifted os started H enc F)

theorem noStand : (Tryz.f3.params.toList.all fun t => !Tryz.prog.wantsStandIn t) = true := by kernel_rfl
/-- No parameter wants a stand-in; the program's own looks are off: what the card asks. -/
theorem plain (f : FuncId) (fn : Func) (hf : Tryz.pinned.checked.prog.funcNamed "clew/clewlaw13.StepJoins" = some f) (hfn : Tryz.pinned.checked.prog.funcs[f]? = some fn) :
    true = Tryz.pinned.checked.prog.looks [] ∧ ∀ (j : Nat) t, fn.params[j]? = some t → Tryz.pinned.checked.prog.wantsStandIn t = false := by
  obtain rfl : f = 3 := Option.some.inj (named3.symm.trans hf) |>.symm
  obtain rfl : fn = Tryz.f3 := (Option.some.inj (Tryz.func3.symm.trans hfn)).symm
  refine ⟨by kernel_rfl, fun j t ht => ?_⟩
  have := List.all_eq_true.1 noStand t (by rw [← Array.getElem?_toList] at ht; exact List.mem_of_getElem? ht)
  show Tryz.prog.wantsStandIn t = false
  simpa using this

/-- THE CARD -/
theorem card : Rows.StepJoinsCardSaid :=
  Claim7.holds_tied_plain_at .later [] _ _ _ _ said (fun _ h => by cases h) (by kernel_rfl) (fun _ h => by cases h) stepJoins_row_tie rfl ⟨rfl, rfl⟩ (by kernel_rfl) rfl plain (by kernel_rfl)

end Go.Proofs.YtnkllabpkchblaaGreatDoor.stepJoins
