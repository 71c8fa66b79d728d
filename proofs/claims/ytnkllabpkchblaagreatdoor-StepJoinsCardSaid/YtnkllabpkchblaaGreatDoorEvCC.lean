/- Functions without a body. -/
import Derived.Test.YtnkllabpkchblaaGreatDoorEvCB
import Derived.Laws.StandIn
import Derived.Laws.Externs
namespace Go.Ev
section
variable {P : Program} {G : Gl}

theorem PEvo.refl {M : Nat → Option (List Value)} {w : World} (h : FOK M w) : PEvo M w M (fun _ => none) w :=
  ⟨fun _ _ q => q, fun _ _ q => .inl q, fun _ _ q => (nomatch q), h, Nat.le_refl _, fun _ _ => rfl, rfl, rfl, rfl⟩

/-- a function that gives a value and leaves all as it is -/
theorem SoundP.of_run {f : FuncId} {args : List AV} {v : AV}
    (h : ∀ M w xs, VAs (envP M fun _ => none) args xs → ∃ y, (callFunc f xs.toArray).run P w = .ok (.value y) w ∧ VA (envP M fun _ => none) v y) : SoundP P G f args (.ret v) := by
  intro l hl M w xs _ hF hv o a K Q hK _
  simp only [PR.val, Option.some.injEq] at hl
  subst hl
  obtain ⟨y, h1, h2⟩ := h M w xs hv
  rw [h1, Oper.upon_value]
  exact hK y w ⟨M, fun _ => none, y, PEvo.refl hF, rfl, h2⟩

/-- the first place of a byte in a text -/
def indexByteP : List AV → PR
  | [.s (.str l), .s (.int .u8 c)] => .ret (.s (.int .i64 (firstIdx ⟨l.toArray⟩ c.toNat.toUInt8)))
  | _ => .fail

theorem indexByte_sound {f : FuncId} {fn : Func} (hf : P.funcs[f]? = some fn) (hname : (fn.name == "runtime.NumGoroutine") = false) (hb : fn.body.isNone = true) (hn : Extern.findNext fn = none)
    (he : Extern.find fn = some Extern.BytealgIndexByte.indexByte) (args : List AV) : SoundP P G f args (indexByteP args) := by
  unfold indexByteP
  split
  · rename_i l c
    refine SoundP.of_run fun M w xs hv => ?_
    simp only [VAs, VA, VS] at hv
    obtain ⟨_, _, rfl, rfl, _, _, rfl, rfl, rfl⟩ := hv
    refine ⟨.int .i64 (firstIdx ⟨l.toArray⟩ c.toNat.toUInt8), ?_, by simp only [VA, VS]⟩
    rw [run_callFunc_indexByte hf hname hb hn he]
    have := run_indexByte_string (P := P) ⟨l.toArray⟩ c w
    simp only [this, Result.andThen_ok]
  · intro l h; cases h

end
end Go.Ev
