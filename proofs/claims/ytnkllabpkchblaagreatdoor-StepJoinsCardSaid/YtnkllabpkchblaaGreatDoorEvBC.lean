/- Loops by rounds. -/
import Derived.Test.YtnkllabpkchblaaGreatDoorEvBB
namespace Go.Ev

/-- so many rounds at most; each begins with what is kept -/
def iterC (T : Tab) (C : Orc) (an : Ann) (L : Code → St → LT) (c : Code) (ks kb : List Nat) : Nat → St → Option (Ex × St)
  | 0, _ => none
  | n + 1, st => runC T C an L c (st.cut ks kb) fun e st' => match e with
    | .normal => iterC T C an L c ks kb n st'
    | e => some (e, st'.cut ks kb)

section
variable {P : Program} {G : Gl} {T : Tab} {C : Orc} {an : Ann} {L : Code → St → LT}

theorem ExR.keepB {F : Env} {kb : List Nat} {e : Ex} {e' : Exit} (h : ExR F e e') : ExR (F.keepB kb) e e' := by
  cases e <;> exact h

theorem iter_wp (A : Oks P G T C an) {c : Code} (hL : LoopsOK P G L c) {ks kb : List Nat} {x : Ex × St} : ∀ (n : Nat) (st : St) (E : Env) (a : Act) (w : World), iterC T C an L c ks kb n st = some x → Rel G E st a w →
    ∀ Q, Post G E w (fun e s => x = (e, s)) Q → Code.rounds P c Q n a w
  | 0, st, E, a, w, h, R, Q, hQ => by cases h
  | n + 1, st, E, a, w, h, R, Q, hQ => by
    rw [rounds_succ]
    obtain ⟨R1, E1⟩ := R.cut (kb := kb) ks
    refine runC_wp A c _ _ _ a w _ hL R1 h fun e st' F e' b v hk he hR hE => ?_
    have fin : e ≠ .normal → some (e, st'.cut ks kb) = some x → Q e' b v := fun _ hk => by
      injection hk with hk
      obtain ⟨R2, E2⟩ := hR.cut (kb := kb) ks
      exact hQ e _ _ e' b v hk.symm he.keepB R2 ((E1.trans hE).trans E2)
    cases e with
    | normal =>
      have he : e' = .normal := he
      subst he
      exact iter_wp A hL n st' F b v hk hR Q fun e2 s2 F2 e2' b2 v2 q1 q2 q3 q4 => hQ e2 s2 F2 e2' b2 v2 q1 q2 q3 ((E1.trans hE).trans q4)
    | exit i =>
      have := fin (by simp) hk
      have he : e' = .exit i := he
      subst he
      exact this
    | ret =>
      have := fin (by simp) hk
      have he : e' = .ret := he
      subst he
      exact this
    | goto l =>
      have := fin (by simp) hk
      have he : e' = .goto l := he
      subst he
      exact this
    | pan z =>
      have := fin (by simp) hk
      obtain ⟨X, rfl, _⟩ := he
      exact this

/-- a loop whose oracle tells what its rounds come to -/
theorem loopOK_of (A : Oks P G T C an) {c : Code} (hL : LoopsOK P G L c) (ks kb : List Nat) (h : ∀ st x, (L c st).leaf = some x → ∃ n, iterC T C an L c ks kb n st = some x) : LoopOK P G L c := by
  intro E st a w x R hl Q hQ
  obtain ⟨n, hn⟩ := h st x hl
  exact wp_loop_rounds n (iter_wp A hL n st E a w hn R Q hQ)

end
end Go.Ev
