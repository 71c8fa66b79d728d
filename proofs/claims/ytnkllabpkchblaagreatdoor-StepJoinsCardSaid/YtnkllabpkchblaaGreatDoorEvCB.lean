/- What is known of types, out of the program. -/
import Derived.Test.YtnkllabpkchblaaGreatDoorEvCA
namespace Go.Ev

def svsS : List Value → Option (List SV)
  | [] => some []
  | v :: vs => match svOf v, svsS vs with
    | some x, some xs => some (x :: xs)
    | _, _ => none

theorem svsS_ok {M : Nat → Option (List Value)} : ∀ {vs : List Value} {xs : List SV}, svsS vs = some xs → VL M xs vs ∧ vs.length = xs.length
  | [], xs, h => by simp only [svsS, Option.some.injEq] at h; subst h; simp [VL]
  | v :: vs, xs, h => by
    simp only [svsS] at h
    split at h
    · rename_i x ys h1 h2
      injection h with h
      subst h
      obtain ⟨a1, a2⟩ := svsS_ok (M := M) h2
      simp only [VL, List.length_cons, a2, and_true]
      exact ⟨v, vs, rfl, (svOf_ok (M := M) h1).2, (svOf_ok (M := M) h1).1, a1⟩
    · cases h

def isAggV : Value → Bool
  | .agg _ => true
  | _ => false

def tabOf (P : Program) : Tab := fun t => match P.info? t, P.underlying t with
  | some j, some d => match j.zero with
    | some z => match svsS z.cells.toList with
      | some ss => cond (Nat.beq ss.length j.size && (isAggV z == (TI.mk d j.size j.bytes ss false).isAgg)) (some ⟨d, j.size, j.bytes, ss, !(P.eqGuardType P.depth t) && !(P.stoodInHeld t)⟩) none
      | none => none
    | none => none
  | _, _ => none

theorem tabOf_ok (P : Program) : TabOK P (tabOf P) := by
  intro t i h
  unfold tabOf at h
  split at h
  · rename_i j d hj hd
    split at h
    · rename_i z hz
      split at h
      · rename_i ss hs
        obtain ⟨hc, rfl⟩ := cond_some h
        simp only [Bool.and_eq_true, beq_iff_eq] at hc
        have h1 := Nat.eq_of_beq_eq_true hc.1
        have hl := (svsS_ok (M := fun _ => none) hs).2
        refine ⟨hd, ⟨j, z, hj, rfl, rfl, hz, h1, by simpa [h1] using hl, fun M => (svsS_ok hs).1, fun q => ?_, fun q => ?_⟩, fun q => ?_⟩
        · have : isAggV z = true := hc.2.trans q
          cases z <;> simp [isAggV] at this
          exact ⟨_, rfl⟩
        · have : isAggV z = false := hc.2.trans q
          cases z <;> first | rfl | simp [isAggV] at this
        · simpa using q
      · cases h
    · cases h
  · cases h

end Go.Ev
