/- Regions: what the evaluator says of them holds. -/
import Derived.Test.YtkdbaijabnhniaaGreatDoorEvQ
namespace Go.Ev
section
variable {R : Type}

theorem goER_some {d : Option Nat} {st : St} {K : Upd → St → Option R} {KP : SV → St → Option R} {r : R} : ∀ {e : ER}, goER d st K KP e = some r →
    (∃ x u, e.val = some (.v x u) ∧ okDst d st.n = true ∧ K u ((st.app u).put d x) = some r) ∨ ∃ x u, e.val = some (.pan x u) ∧ okDst d st.n = true ∧ KP x (st.app u) = some r
  | .v x u, h => by
    simp only [goER] at h
    cases hd : okDst d st.n with
    | false => rw [hd] at h; cases h
    | true => rw [hd] at h; exact .inl ⟨x, u, rfl, rfl, h⟩
  | .pan x u, h => by
    simp only [goER] at h
    cases hd : okDst d st.n with
    | false => rw [hd] at h; cases h
    | true => rw [hd] at h; exact .inr ⟨x, u, rfl, rfl, h⟩
  | .br c a b, h => by
    simp only [goER] at h
    cases c
    · rw [cond_false] at h; simpa only [ER.val, cond_false] using goER_some h
    · rw [cond_true] at h; simpa only [ER.val, cond_true] using goER_some h
  | .fail, h => by cases h

theorem put_same {st : St} {d : Nat} {x : AV} (h : st.s d = x) : st.put (some d) x = st := by
  cases st
  simp only [St.put, St.mk.injEq, and_true] at h ⊢
  funext i
  by_cases hi : i = d
  · subst hi; simp [h]
  · simp [beq_ne hi]


variable {T : Tab} {C : Orc} {an : Ann} {ops : Array Oper}

/-- one operation of a run -/
theorem runOps_cons {draw : Bool} {K : St → Option R} {KP : SV → St → Option R} {o : Oper} {rest : List Oper} {i : Nat} {ds : List Done} {st : St} {r : R} (h : runOps T C an ops draw K KP (o :: rest) i ds st = some r) :
    (∃ d e, okDst o.dst st.n = true ∧ Does T C an ops st o d ∧ e = ⟨i, maskOf ds o, o, cond draw (d.fp C an st o) {}⟩ ∧ okPairs ops draw ds e = true ∧ runOps T C an ops draw K KP rest (i + 1) (e :: ds) (d.to st o) = some r) ∨
    (draw = false ∧ mayPan o = true ∧ wantedE ops st o = some true ∧ okDst o.dst st.n = true ∧ ∃ x u, (st.evalOp T C an o).val = some (.pan x u) ∧ KP x (st.app u) = some r) := by
  have go : ∀ {fp : Fp} {st' : St}, (bif okPairs ops draw ds ⟨i, maskOf ds o, o, fp⟩ then runOps T C an ops draw K KP rest (i + 1) (⟨i, maskOf ds o, o, fp⟩ :: ds) st' else none) = some r →
      okPairs ops draw ds ⟨i, maskOf ds o, o, fp⟩ = true ∧ runOps T C an ops draw K KP rest (i + 1) (⟨i, maskOf ds o, o, fp⟩ :: ds) st' = some r := by
    intro fp st' h
    cases hp : okPairs ops draw ds ⟨i, maskOf ds o, o, fp⟩
    · rw [hp] at h; cases h
    · rw [hp] at h; exact ⟨rfl, h⟩
  have exec : ∀ {KE : St → Option R}, KE = (fun st => goER o.dst st (fun u st' => bif okPairs ops draw ds ⟨i, maskOf ds o, o, cond draw ((fpOp C an (st.ev an) st.h st.base o).join (fpU u)) {}⟩ then
      runOps T C an ops draw K KP rest (i + 1) (⟨i, maskOf ds o, o, cond draw ((fpOp C an (st.ev an) st.h st.base o).join (fpU u)) {}⟩ :: ds) st' else none) (fun v st' => cond (draw || !mayPan o) none (KP v st')) (st.evalOp T C an o)) →
      wantedE ops st o = some true → KE st = some r →
      (∃ d e, okDst o.dst st.n = true ∧ Does T C an ops st o d ∧ e = ⟨i, maskOf ds o, o, cond draw (d.fp C an st o) {}⟩ ∧ okPairs ops draw ds e = true ∧ runOps T C an ops draw K KP rest (i + 1) (e :: ds) (d.to st o) = some r) ∨
      (draw = false ∧ mayPan o = true ∧ wantedE ops st o = some true ∧ okDst o.dst st.n = true ∧ ∃ x u, (st.evalOp T C an o).val = some (.pan x u) ∧ KP x (st.app u) = some r) := by
    rintro KE rfl hw h
    rcases goER_some h with ⟨x, u, h1, h2, h3⟩ | ⟨x, u, h1, h2, h3⟩
    · obtain ⟨h4, h5⟩ := go h3
      exact .inl ⟨.run x u, _, h2, ⟨hw, h1⟩, rfl, h4, h5⟩
    · cases hd : (draw || !mayPan o)
      · rw [hd] at h3
        simp only [Bool.or_eq_false_iff, Bool.not_eq_false'] at hd
        exact .inr ⟨hd.1, hd.2, hw, h2, x, u, h1, h3⟩
      · rw [hd] at h3; cases h3
  have skip : ∀ {KE : St → Option R}, KE = (fun st => bif okDst o.dst st.n then (bif okPairs ops draw ds ⟨i, maskOf ds o, o, {}⟩ then runOps T C an ops draw K KP rest (i + 1) (⟨i, maskOf ds o, o, {}⟩ :: ds) (st.put o.dst (.tup [])) else none) else none) →
      wantedE ops st o = some false → KE st = some r →
      (∃ d e, okDst o.dst st.n = true ∧ Does T C an ops st o d ∧ e = ⟨i, maskOf ds o, o, cond draw (d.fp C an st o) {}⟩ ∧ okPairs ops draw ds e = true ∧ runOps T C an ops draw K KP rest (i + 1) (e :: ds) (d.to st o) = some r) ∨
      (draw = false ∧ mayPan o = true ∧ wantedE ops st o = some true ∧ okDst o.dst st.n = true ∧ ∃ x u, (st.evalOp T C an o).val = some (.pan x u) ∧ KP x (st.app u) = some r) := by
    rintro KE rfl hw h
    cases hd : okDst o.dst st.n
    · simp only [hd] at h; cases h
    · simp only [hd, cond_true] at h
      obtain ⟨h4, h5⟩ := go h
      exact .inl ⟨.pass, _, rfl, hw, by cases draw <;> rfl, h4, h5⟩
  simp only [runOps] at h
  split at h
  · rename_i hg
    exact exec rfl (by unfold wantedE; rw [hg]) h
  · rename_i j want hg
    split at h
    · cases h
    · rename_i d hd
      split at h
      · rename_i t ht
        have hput : st.put (some d) (.s (.bool t)) = st := put_same ht
        have hw : wantedE ops st o = some (t == want) := by unfold wantedE; simp only [hg, hd, ht]
        cases t <;> cases want <;> simp only [cond_true, cond_false] at h <;> rw [hput] at h
        · exact exec rfl hw h
        · exact skip rfl hw h
        · exact skip rfl hw h
        · exact exec rfl hw h
      · rename_i ht
        exact skip rfl (by unfold wantedE; simp only [hg, hd, ht]) h
      · cases h

end
end Go.Ev
