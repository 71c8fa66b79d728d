/- The law SuiteBytes of clewlaw23: acts as bytes, and the acts of any bytes, are as the document says; it answers true whatever is handed in, and leaves that as it was. No condition. -/
import Derived.Test.YtkdbaijabnhniaaGreatDoorBytesA
namespace Go.Proofs.YtkdbaijabnhniaaGreatDoor.suiteBytes
open Go.ChangeShapes Go.WideShapes Go.ChangeAt Go.RowKit Go.Ev
set_option maxRecDepth 100000

/-! ## The card -/

theorem pf2 : mapsRowed Tryz.prog = true := by kernel_rfl
theorem pf3 : (Tryz.prog.stops == []) = true := by kernel_rfl
theorem pf4 : (Tryz.prog.stopKnobs == []) = true := by kernel_rfl
theorem pf5 : Tryz.prog.stopsHeard = true := by kernel_rfl
theorem pf6 : Tryz.prog.mayEnter = true := by kernel_rfl
theorem progFacts : ProgFacts Tryz.prog := ⟨pf1, pf2, pf3, pf4, pf5, pf6⟩
theorem plainKeysF : (false == Tryz.prog.plainKeys) = true := by kernel_rfl
theorem liftedF : (false == Tryz.prog.liftsFinal) = true := by kernel_rfl
theorem own : ownKnob Tryz.prog.godebug = none := by kernel_rfl

def lay (k : IntKind) (zs : List Int) : Obj → Obj
  | .cells _ t frozen => .cells (zs.map fun z => Value.int k z).toArray t frozen
  | o => o
def br32 : List Int := [0, 1, 28, 2, 29, 14, 24, 3, 30, 22, 20, 15, 25, 17, 4, 8, 31, 27, 13, 23, 21, 19, 16, 7, 26, 12, 18, 6, 11, 5, 10, 9]

/-- A WORLD FOR THE WITNESS: the settled one, the tables holding what their initialisers lay. -/
noncomputable def laidWorld (os : Os) : World :=
  { World.holding Tryz.prog os ⟨#[], #[], []⟩ with heap := ((((World.holding Tryz.prog os ⟨#[], #[], []⟩).heap.modify 0 (lay .u32 (zOf crcTab))).modify 4 (lay .u8 br32)).modify 5 (lay .u8 (zOf brTab))).modify 2 (lay .u64 (zOf powTab)) }
def wArgs : Array Value := #[.slice none 0 0, .string ⟨#[]⟩]

theorem laid_met (os : Os) : laidMet Tryz.prog Rows.suiteBytesRow.laid ((laidWorld os).forCall (fun _ _ => 0) ⟨#[], wArgs, []⟩).memory :=
  laidMet_of_run' 8 (by kernel_rfl) (by kernel_rfl)
theorem reads (os : Os) {H : Type} (enc : TypeId × Value → H) : ∃ places, DataW.whole enc Tryz.prog ((laidWorld os).forCall (fun _ _ => 0) ⟨#[], wArgs, []⟩).memory Tryz.f3.params.toList Rows.suiteBytesSpec.vars false wArgs.toList 8 = some ([.nil, .lit (.string [])], [], places) :=
  ⟨[], by kernel_rfl⟩

theorem lifted (os : Os) (started : os.Started) (H : Type) (enc : TypeId × Value → H) (F : Stop.Interp) :
    ReturnsInHanded {} Tryz.checked os 3 .any ((OpenSpec.ofChange Rows.suiteBytesSpec).preRow enc Tryz.prog Tryz.f3 Rows.suiteBytesRow.domain false Rows.suiteBytesRow.laid) (((OpenSpec.ofChange Rows.suiteBytesSpec).at F).post enc Tryz.prog Tryz.f3 false true false false) := by
  obtain ⟨places, hx⟩ := reads os enc
  refine returnsInHanded_of_row (C := Tryz.checked) (s := OpenSpec.ofChange Rows.suiteBytesSpec) own started (by kernel_rfl) Tryz.func3
    (witness_row_at (enc := enc) (C := Tryz.checked) false (laidWorld os) wArgs rfl (by kernel_rfl) (by kernel_rfl) (by kernel_rfl)
      (OpenSpec.preRow_of_cond 8 hx (by kernel_rfl) (fun k hk => by cases hk) (by kernel_rfl) (laid_met os))) ?_
  intro W base args ds gs before hval hW _ _ _ hL _ _
  exact contract H enc W base args ds gs before hval hW hL

abbrev RF := RowFacts Tryz.prog 3 Tryz.f3 (OpenSpec.ofChange Rows.suiteBytesSpec).bare Rows.suiteBytesRow
theorem rf1 : (Rows.suiteBytesRow.inPlace == Tryz.prog.inPlace 3) = true := by kernel_rfl
theorem rf2 : (Rows.suiteBytesRow.unfollowed == Tryz.prog.unfollowed 3) = true := by kernel_rfl
theorem rf3 : (Rows.suiteBytesRow.recurses == Tryz.prog.recurses 3) = true := by kernel_rfl
theorem rf4 : (Rows.suiteBytesRow.named == Tryz.prog.varsNamed 3) = true := by kernel_rfl
theorem rowFacts : RF :=
  { wf := by kernel_rfl, reads := by kernel_rfl, tie := by kernel_rfl, none1 := by kernel_rfl, inPlace := rf1, unfollowed := rf2, recurses := rf3, named := rf4,
    maps := by kernel_rfl, ifaces := by kernel_rfl, mapsOut := by kernel_rfl, loops := by kernel_rfl, wideKeys := by kernel_rfl, vars := by kernel_rfl, res := by kernel_rfl,
    ifacesOut := by kernel_rfl, loopsOut := by kernel_rfl, plainKeys := plainKeysF, lifted := liftedF, make := by kernel_rfl, kinds := by kernel_rfl, veiled := by kernel_rfl, veiledFits := by kernel_rfl }
theorem named3 : Tryz.prog.funcNamed "clew/clewlaw23.SuiteBytes" = some 3 := by kernel_rfl

theorem said : Rows.SuiteBytesSaid :=
  OpenClaim.holds_of_cond 3 Tryz.f3 rfl rfl rfl rfl rfl rfl rfl ⟨rfl, rfl, rfl, rfl, rfl⟩ rfl rfl rfl rfl rfl named3 Tryz.func3 (joined_of progFacts rowFacts)
    (of_decide_eq_true (by kernel_rfl)) (by unfold Func.isWrapper; first | (rw [if_pos (by decide +kernel)]; kernel_rfl) | (rw [if_neg (by decide +kernel)]; exact ⟨rfl, rfl⟩))
    (fun os started H enc _ F => by rw [OpenClaim.pre_eq_preRow]; exact lifted os started H enc F)

theorem noStand : (Tryz.f3.params.toList.all fun t => !Tryz.prog.wantsStandIn t) = true := by kernel_rfl
/-- No parameter wants a stand-in; the program's own looks are off: what the card asks. -/
theorem plain (f : FuncId) (fn : Func) (hf : Tryz.pinned.checked.prog.funcNamed "clew/clewlaw23.SuiteBytes" = some f) (hfn : Tryz.pinned.checked.prog.funcs[f]? = some fn) :
    true = Tryz.pinned.checked.prog.looks [] ∧ ∀ (j : Nat) t, fn.params[j]? = some t → Tryz.pinned.checked.prog.wantsStandIn t = false := by
  obtain rfl : f = 3 := Option.some.inj (named3.symm.trans hf) |>.symm
  obtain rfl : fn = Tryz.f3 := (Option.some.inj (Tryz.func3.symm.trans hfn)).symm
  refine ⟨by kernel_rfl, fun j t ht => ?_⟩
  have := List.all_eq_true.1 noStand t (by rw [← Array.getElem?_toList] at ht; exact List.mem_of_getElem? ht)
  show Tryz.prog.wantsStandIn t = false
  simpa using this

/-- THE CARD -/
theorem card : Rows.SuiteBytesCardSaid :=
  Claim7.holds_tied_plain_at .later [] _ _ _ _ said (fun _ h => by cases h) (by kernel_rfl) (fun _ h => by cases h) suiteBytes_row_tie rfl ⟨rfl, rfl⟩ (by kernel_rfl) rfl plain (by kernel_rfl)

end Go.Proofs.YtkdbaijabnhniaaGreatDoor.suiteBytes
