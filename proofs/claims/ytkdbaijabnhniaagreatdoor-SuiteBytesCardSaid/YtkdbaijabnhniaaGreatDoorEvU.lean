/- Code: what the evaluator says of it holds. -/
import Derived.Test.YtkdbaijabnhniaaGreatDoorEvT
namespace Go.Ev

def ExR (F : Env) : Ex → Exit → Prop
  | .normal, e => e = .normal
  | .exit i, e => e = .exit i
  | .ret, e => e = .ret
  | .goto l, e => e = .goto l
  | .pan x, e => ∃ X, e = .panic [{ v := X, recovered := false }] ∧ VS F.M x X

def LT.leaf : LT → Option (Ex × St)
  | .out e st => some (e, st)
  | .br c a b => cond c a.leaf b.leaf
  | .fail => none

/-- behind it: one of the evaluator's ends -/
def Post (G : Gl) (E : Env) (w : World) (K : Ex → St → Prop) (Q : Exit → Act → World → Prop) : Prop :=
  ∀ e st' F e' b v, K e st' → ExR F e e' → Rel G F st' b v → Evo E w F v → Q e' b v

def LoopOK (P : Program) (G : Gl) (L : Code → St → LT) (c : Code) : Prop :=
  ∀ E st a w x, Rel G E st a w → (L c st).leaf = some x → ∀ Q, Post G E w (fun e s => x = (e, s)) Q → (Code.loop c).wp P Q a w

def LoopsOK (P : Program) (G : Gl) (L : Code → St → LT) : Code → Prop
  | .loop c => LoopOK P G L c
  | .seq a b => LoopsOK P G L a ∧ LoopsOK P G L b
  | .cond _ a b => LoopsOK P G L a ∧ LoopsOK P G L b
  | .block _ c => LoopsOK P G L c
  | .scope c => LoopsOK P G L c
  | _ => True

theorem goLT_some {R : Type} {K : Ex → St → Option R} {r : R} : ∀ {t : LT}, goLT K t = some r → ∃ x, t.leaf = some x ∧ K x.1 x.2 = some r
  | .out e st, h => ⟨(e, st), rfl, h⟩
  | .br c a b, h => by
    cases c
    · exact goLT_some (t := b) h
    · exact goLT_some (t := a) h
  | .fail, h => by cases h

section
variable {P : Program} {G : Gl} {T : Tab} {C : Orc} {an : Ann} {L : Code → St → LT}
variable (A : Oks P G T C an)
include A

theorem runC_wp {R : Type} {r : R} : ∀ (c : Code) (st : St) (K : Ex → St → Option R) (E : Env) (a : Act) (w : World) (Q : Exit → Act → World → Prop), LoopsOK P G L c → Rel G E st a w → runC T C an L c st K = some r →
    Post G E w (fun e s => K e s = some r) Q → c.wp P Q a w
  | .skip, st, K, E, a, w, Q, _, hR, h, hQ => wp_skip (hQ .normal st E .normal a w h rfl hR (.refl E w))
  | .label _, st, K, E, a, w, Q, _, hR, h, hQ => wp_label (hQ .normal st E .normal a w h rfl hR (.refl E w))
  | .exit i, st, K, E, a, w, Q, _, hR, h, hQ => wp_exit (hQ (.exit i) st E (.exit i) a w h rfl hR (.refl E w))
  | .goto l, st, K, E, a, w, Q, _, hR, h, hQ => wp_goto (hQ (.goto l) st E (.goto l) a w h rfl hR (.refl E w))
  | .ret, st, K, E, a, w, Q, _, hR, h, hQ => wp_ret (hQ .ret st E .ret a w h rfl hR (.refl E w))
  | .region id ops draw, st, K, E, a, w, Q, _, hR, h, hQ =>
    region_wp A hR h (fun F b v st' q1 q2 q3 => hQ .normal st' F .normal b v q1 rfl q2 q3) (fun F x X st' b v q1 q2 q3 q4 => hQ (.pan x) st' F _ b v q1 ⟨X, rfl, q2⟩ q3 q4)
  | .seq x y, st, K, E, a, w, Q, hL, hR, h, hQ => by
    refine wp_seq (runC_wp x st _ E a w _ hL.1 hR h fun e st' F e' b v hk he hR' hE => ?_)
    cases e with
    | normal =>
      have he : e' = .normal := he
      subst he
      exact runC_wp y st' K F b v Q hL.2 hR' hk fun e2 st2 F2 e2' b2 v2 q1 q2 q3 q4 => hQ e2 st2 F2 e2' b2 v2 q1 q2 q3 (hE.trans q4)
    | exit i =>
      have := hQ (.exit i) st' F e' b v hk he hR' hE
      have he : e' = .exit i := he
      subst he
      exact this
    | ret =>
      have := hQ .ret st' F e' b v hk he hR' hE
      have he : e' = .ret := he
      subst he
      exact this
    | goto l =>
      have := hQ (.goto l) st' F e' b v hk he hR' hE
      have he : e' = .goto l := he
      subst he
      exact this
    | pan z =>
      have := hQ (.pan z) st' F e' b v hk he hR' hE
      obtain ⟨X, rfl, _⟩ := he
      exact this
  | .cond (.tmp d) x y, st, K, E, a, w, Q, hL, hR, h, hQ => by
    simp only [runC] at h
    split at h
    · rename_i t ht
      have hs := hR.slots d
      rw [ht] at hs
      have hs' : a.tmps.getD d undef = .bool t := by simpa only [VA, VS] using hs
      have hs : a.eval (.tmp d) = .bool t := hs'
      have hput : st.put (some d) (.s (.bool t)) = st := put_same ht
      cases t
      · rw [cond_false, hput] at h
        exact wp_cond_false hs (runC_wp y st K E a w Q hL.2 hR h hQ)
      · rw [cond_true, hput] at h
        exact wp_cond_true hs (runC_wp x st K E a w Q hL.1 hR h hQ)
    · cases h
  | .cond (.const cv) x y, st, K, E, a, w, Q, hL, hR, h, hQ => by
    cases cv with
    | bool t =>
      simp only [runC] at h
      cases t
      · exact wp_cond_false rfl (runC_wp y st K E a w Q hL.2 hR h hQ)
      · exact wp_cond_true rfl (runC_wp x st K E a w Q hL.1 hR h hQ)
    | _ => cases h
  | .cond (.global _) x y, st, K, E, a, w, Q, hL, hR, h, hQ => by cases h
  | .cond (.func _) x y, st, K, E, a, w, Q, hL, hR, h, hQ => by cases h
  | .block id c, st, K, E, a, w, Q, hL, hR, h, hQ => by
    refine wp_block (runC_wp c st _ E a w _ hL hR h fun e st' F e' b v hk he hR' hE => ?_)
    cases e with
    | normal =>
      have := hQ .normal st' F e' b v hk he hR' hE
      have he : e' = .normal := he
      subst he
      exact this
    | exit i =>
      have he : e' = .exit i := he
      subst he
      simp only at hk
      cases hi : Nat.beq i id
      · rw [hi, cond_false] at hk
        have := hQ (.exit i) st' F (.exit i) b v hk rfl hR' hE
        have hne : ¬ i = id := fun q => by subst q; simp at hi
        simp only [Exit.inBlock, if_neg hne]
        exact this
      · rw [hi, cond_true] at hk
        have := hQ .normal st' F .normal b v hk rfl hR' hE
        have heq := Nat.eq_of_beq_eq_true hi
        simp only [Exit.inBlock, if_pos heq]
        exact this
    | ret =>
      have := hQ .ret st' F e' b v hk he hR' hE
      have he : e' = .ret := he
      subst he
      exact this
    | goto l =>
      have := hQ (.goto l) st' F e' b v hk he hR' hE
      have he : e' = .goto l := he
      subst he
      exact this
    | pan z =>
      have := hQ (.pan z) st' F e' b v hk he hR' hE
      obtain ⟨X, rfl, _⟩ := he
      exact this
  | .scope c, st, K, E, a, w, Q, hL, hR, h, hQ => by
    refine wp_scope_straight (runC_wp c st _ E a w _ hL hR h fun e st' F e' b v hk he hR' hE => ?_)
    cases e with
    | normal =>
      have := hQ .normal st' F e' b v hk he hR' hE
      have he : e' = .normal := he
      subst he
      exact this
    | exit i =>
      have := hQ (.exit i) st' F e' b v hk he hR' hE
      have he : e' = .exit i := he
      subst he
      exact this
    | ret =>
      have := hQ .ret st' F e' b v hk he hR' hE
      have he : e' = .ret := he
      subst he
      exact this
    | goto l => cases hk
    | pan z =>
      have := hQ (.pan z) st' F e' b v hk he hR' hE
      obtain ⟨X, rfl, _⟩ := he
      exact this
  | .loop c, st, K, E, a, w, Q, hL, hR, h, hQ => by
    obtain ⟨x, h1, h2⟩ := goLT_some h
    exact hL E st a w x hR h1 Q fun e st' F e' b v hk he hR' hE => hQ e st' F e' b v (by subst hk; exact h2) he hR' hE
  | .rangeFunc _ _ _ _, st, K, E, a, w, Q, hL, hR, h, hQ => by cases h

end
end Go.Ev
