/- Arguments without references: cells of integers and of truths. -/
import Derived.Test.YtkdbaijabnhniaaGreatDoorEvCA
import GoSem.ClaimWide
namespace Go.Ev

/-- a cell of a plain type, told by two functions -/
def plainCell (T : Tab) (ints : Nat → Int) (bools : Nat → Bool) (i : Nat) (t : TypeId) : AV :=
  match T t with
  | some ⟨.int k, _, _, _, _⟩ => .s (.int k (ints i))
  | some ⟨.bool, _, _, _, _⟩ => .s (.bool (bools i))
  | _ => .undef

def plainCells (T : Tab) (ints : Nat → Int) (bools : Nat → Bool) : Nat → List TypeId → List AV
  | _, [] => []
  | i, t :: ts => plainCell T ints bools i t :: plainCells T ints bools (i + 1) ts

theorem eqFields_self {T : Tab} {eq : TypeId → AV → AV → Option Bool} (h : ∀ t x b, eq t x x = some b → b = true) : ∀ (fs : List Field) (xs : List AV) (b : Bool), eqFields T eq fs xs xs = some b → b = true
  | [], _, b, hb => by simp only [eqFields, Option.some.injEq] at hb; exact hb.symm
  | f :: fs, xs, b, hb => by
    simp only [eqFields] at hb
    split at hb
    · cases hb
    · split at hb
      · rename_i a c ha hc
        have hac : a = c := Option.some.inj (ha.symm.trans hc)
        subst hac
        split at hb
        · rename_i p q hp hq
          have h1 := h _ _ _ hp
          have h2 := eqFields_self h fs xs q hq
          subst h1 h2
          cases hn : (f.name == "_")
          · rw [hn] at hb; simpa using hb.symm
          · rw [hn] at hb; cases hb
        · cases hb
      · cases hb

theorem eqElems_self {i : TI} {eq : AV → AV → Option Bool} (h : ∀ x b, eq x x = some b → b = true) {xs : List AV} : ∀ (n k : Nat) (b : Bool), eqElems i eq xs xs n k = some b → b = true
  | 0, _, b, hb => by simp only [eqElems, Option.some.injEq] at hb; exact hb.symm
  | n + 1, k, b, hb => by
    simp only [eqElems] at hb
    split at hb
    · rename_i a c ha hc
      have hac : a = c := Option.some.inj (ha.symm.trans hc)
      subst hac
      split at hb
      · rename_i p q hp hq
        have h1 := h _ _ hp
        have h2 := eqElems_self h n (k + 1) q hq
        subst h1 h2
        simpa using hb.symm
      · cases hb
    · cases hb

theorem eqE_self {T : Tab} : ∀ (d : Nat) (t : TypeId) (x : AV) (b : Bool), eqE T d t x x = some b → b = true
  | 0, _, _, _, h => by simp [eqE] at h
  | d + 1, t, x, b, h => by
    unfold eqE at h
    cases hT : T t with
    | none => rw [hT] at h; cases h
    | some i =>
      rw [hT] at h
      obtain ⟨desc, size, bytes, zero, plain⟩ := i
      simp only at h
      cases desc with
      | bool => cases x with
        | s v => cases v <;> simp_all
        | _ => cases h
      | int k => cases x with
        | s v => cases v <;> simp_all
        | _ => cases h
      | string => cases x with
        | s v => cases v <;> simp_all
        | _ => cases h
      | struct fs => cases x with
        | s v => cases v <;> cases h
        | agg xs =>
          simp only at h
          cases plain
          · cases h
          · exact eqFields_self (eqE_self d) _ _ _ h
        | _ => cases h
      | array n e => cases x with
        | s v => cases v <;> cases h
        | agg xs =>
          simp only at h
          split at h
          · cases plain
            · cases h
            · exact eqElems_self (fun x b q => eqE_self d e x b q) _ _ _ h
          · cases h
        | _ => cases h
      | _ => cases x with
        | s v => cases v <;> cases h
        | _ => cases h

/-- is it so, or not known -/
def knownEq (T : Tab) (t : TypeId) (x y : AV) : Bool := (eqE T 8 t x y).getD true

theorem knownEq_self {T : Tab} (t : TypeId) (x : AV) : knownEq T t x x = true := by
  unfold knownEq
  cases h : eqE T 8 t x x with
  | none => rfl
  | some b => exact eqE_self 8 t x b h

end Go.Ev
