/- Functions that are handed no memory. -/
import Derived.Test.YtkdbaijabnhniaaGreatDoorEvU
namespace Go.Ev
section
variable {P : Program} {G : Gl} {E : Env} {st : St} {a : Act} {w : World} {T : Tab} {C : Orc} {an : Ann} {L : Code → St → LT}

theorem loadVar_of {t : TypeId} {X Z : Value} (h : (Instr.loadAt t X).run P w = .ok Z w) : (asAddr X >>= fun a => loadVar t a).run P w = .ok Z w := by
  unfold Instr.loadAt at h
  unfold Instr.sureAddr at h
  split at h
  · exact h
  · simp only [Sem.run_bind] at h
    cases h

def readVar (tmps : Array Value) : ResultVar → Sem Value
  | .tmp t => pure (tmps.getD t undef)
  | .cell a t => do loadVar t (← asAddr (tmps.getD a undef))

theorem resultsE_ok (hT : TabOK P T) (R : Rel G E st a w) : ∀ {rs : List ResultVar} {vs : List AV}, resultsE T an st rs = some vs → ∃ ys, (rs.mapM (readVar a.tmps)).run P w = .ok ys w ∧ VAs E vs ys
  | [], vs, h => by
    simp only [resultsE, Option.some.injEq] at h
    subst h
    exact ⟨[], by simp, by simp [VAs]⟩
  | .tmp t :: rs, vs, h => by
    simp only [resultsE] at h
    split at h
    · rename_i vs' hv
      injection h with h
      subst h
      obtain ⟨ys, h1, h2⟩ := resultsE_ok hT R hv
      refine ⟨a.tmps.getD t undef :: ys, ?_, by simp only [VAs]; exact ⟨_, _, rfl, R.slots t, h2⟩⟩
      simp only [List.mapM_cons, readVar, Sem.run_bind, Sem.run_pure, Result.andThen_ok, h1]
    · cases h
  | .cell x t :: rs, vs, h => by
    simp only [resultsE] at h
    split at h
    · rename_i i hi
      split at h
      · rename_i v u vs' hl hv
        injection h with h
        subst h
        obtain ⟨ys, h1, h2⟩ := resultsE_ok hT R hv
        obtain ⟨_, Z, h3, h4⟩ := opLoad_ok (P := P) R (hT _ _ hi) (by rw [hl]; rfl) (R.slots x)
        have h5 := loadVar_of h3
        refine ⟨Z :: ys, ?_, by simp only [VAs]; exact ⟨_, _, rfl, h4, h2⟩⟩
        simp only [List.mapM_cons, readVar]
        simp only [Sem.run_bind] at h5 ⊢
        rw [h5]
        simp only [Result.andThen_ok, h1, Sem.run_pure]
      · cases h
    · cases h

theorem results_ok (hT : TabOK P T) (R : Rel G E st a w) {fn : Func} {vs : List AV} (h : resultsE T an st fn.results.toList = some vs) : ∃ y, (results fn a.tmps).run P w = .ok y w ∧ VA E (tupE vs) y := by
  obtain ⟨ys, h1, h2⟩ := resultsE_ok hT R h
  have hlen := h2.len
  unfold results
  have he : (fn.results.mapM (readVar a.tmps)) = List.toArray <$> fn.results.toList.mapM (readVar a.tmps) := by
    rw [Array.mapM_eq_mapM_toList]
  have hr : (fn.results.mapM (readVar a.tmps)).run P w = .ok ys.toArray w := by
    rw [he]
    simp [h1, Sem.run_map]
  have key : ∀ g : ResultVar → Sem Value, (∀ x, g x = readVar a.tmps x) → (fn.results.mapM g).run P w = .ok ys.toArray w := fun g hg => by
    rw [show g = readVar a.tmps from funext hg]; exact hr
  refine ⟨if h : ys.toArray.size = 1 then ys.toArray[0] else .tuple ys.toArray, ?_, ?_⟩
  · rw [Sem.run_bind, key _ (fun x => by cases x <;> rfl)]
    rfl
  · match vs, ys, h2, hlen with
    | [], [], h2, _ => simp [tupE, VA, VAs]
    | [v], [y], h2, _ => simp only [VAs] at h2; obtain ⟨_, _, e, h3, _⟩ := h2; injection e with e1 e2; subst e1; simpa [tupE] using h3
    | v :: v' :: vs, y :: y' :: ys, h2, _ => simp [tupE, VA]; exact h2

end
end Go.Ev
