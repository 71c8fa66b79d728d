/- An oracle that runs the program itself. -/
import Derived.Test.YtnkllabpkchblaaGreatDoorEvBD
namespace Go.Ev

/-- loops by rounds: so deep, so many rounds; what is kept: told by the loop's key, or all -/
def loopN (T : Tab) (C : Orc) (an : Ann) (ks kb : Code → List Nat) (rounds : Nat) : Nat → Code → St → LT
  | 0, _, _ => .fail
  | d + 1, c, st => match iterC T C an (loopN T C an ks kb rounds d) c (ks c) (kb c) rounds st with
    | some (e, s) => .out e s
    | none => .fail

section
variable {P : Program} {G : Gl} {T : Tab} {C : Orc} {an : Ann}

theorem loopN_ok (A : Oks P G T C an) (ks kb : Code → List Nat) (rounds : Nat) (d : Nat) : ∀ c : Code, LoopsOK P G (loopN T C an ks kb rounds d) c := by
  induction d with
  | zero =>
    intro c
    induction c with
    | loop c _ => intro E st a w x R h; cases h
    | seq a b ha hb => exact ⟨ha, hb⟩
    | cond x a b ha hb => exact ⟨ha, hb⟩
    | block i c h => exact h
    | scope c h => exact h
    | _ => trivial
  | succ d ih =>
    intro c
    induction c with
    | loop c _ =>
      intro E st a w x R h Q hQ
      simp only [loopN] at h
      split at h
      · rename_i e s hi
        simp only [LT.leaf, Option.some.injEq] at h
        subst h
        exact wp_loop_rounds rounds (iter_wp A (ih c) rounds st E a w hi R Q hQ)
      · cases h
    | seq a b ha hb => exact ⟨ha, hb⟩
    | cond x a b ha hb => exact ⟨ha, hb⟩
    | block i c h => exact h
    | scope c h => exact h
    | _ => trivial

end

def leafP : Option PR → PR
  | some (.ret v) => .ret v
  | some (.pan x) => .pan x
  | _ => .fail

def leafI : Option IR → IR
  | some (.ret v hs) => .ret v hs
  | some (.pan x hs) => .pan x hs
  | _ => .fail

/-- does it put a call off, at once -/
def hasD (fn : Func) : Bool := match fn.body with
  | some (.seq _ (.seq (.region _ ops _) _)) => match ops.toList with
    | [_, o] => match o.op with
      | .defer _ => true
      | _ => false
    | _ => false
  | _ => false

/-- calls answered by runs of the functions themselves, so deep -/
def orcN (T : Tab) (fns : FuncId → Option Func) (an : FuncId → Ann) (ks kb : Code → List Nat) (rounds depth : Nat) (ext : Orc) : Nat → Orc
  | 0 => ext
  | n + 1 => ⟨fun f args => match fns f with
      | some fn => leafP (runP T (orcN T fns an ks kb rounds depth ext n) (an f) (loopN T (orcN T fns an ks kb rounds depth ext n) (an f) ks kb rounds depth) fn args)
      | none => ext.pure f args,
    fun f args hs => match fns f with
      | some fn => leafI (cond (hasD fn) (runD T (orcN T fns an ks kb rounds depth ext n) an (fun f => loopN T (orcN T fns an ks kb rounds depth ext n) (an f) ks kb rounds depth) fns f fn args hs)
          (runI T (orcN T fns an ks kb rounds depth ext n) (an f) (loopN T (orcN T fns an ks kb rounds depth ext n) (an f) ks kb rounds depth) fn args hs))
      | none => ext.imp f args hs⟩

section
variable {P : Program} {G : Gl} {T : Tab}

theorem orcN_ok (hD : G.D = []) (hT : TabOK P T) (hm : P.follows .mixedOrders = true) {fns : FuncId → Option Func} {an : FuncId → Ann} (hf : ∀ f fn, fns f = some fn → P.funcs[f]? = some fn ∧ (fn.name == "runtime.NumGoroutine") = false) (hG : ∀ f, (an f).glob = G.tab)
    (ks kb : Code → List Nat) (rounds depth : Nat) {ext : Orc} (hx : OrcOK P G ext) : ∀ n, OrcOK P G (orcN T fns an ks kb rounds depth ext n)
  | 0 => hx
  | n + 1 => by
    have ih := orcN_ok hD hT hm hf hG ks kb rounds depth hx n
    have A : ∀ f, Oks P G T (orcN T fns an ks kb rounds depth ext n) (an f) := fun f => ⟨hT, hG f, callOK ih (hG f), hm⟩
    refine ⟨fun f args l h => ?_, fun f args hs l h => ?_⟩
    · simp only [orcN] at h ⊢
      split at h
      · rename_i fn hfn
        obtain ⟨h1, h2⟩ := hf f fn hfn
        cases hb : fn.body with
        | none => simp only [runP, hb, leafP] at h; cases h
        | some c =>
          generalize hr : runP T (orcN T fns an ks kb rounds depth ext n) (an f) (loopN T (orcN T fns an ks kb rounds depth ext n) (an f) ks kb rounds depth) fn args = r at h
          unfold leafP at h
          split at h
          · rename_i v
            exact runP_sound hD (r := .ret v) (A f) h1 h2 hb (loopN_ok (A f) ks kb rounds depth c) (fun l' hl' => by simp only [PR.val, Option.some.injEq] at hl'; subst hl'; exact hr) l h
          · rename_i v
            exact runP_sound hD (r := .pan v) (A f) h1 h2 hb (loopN_ok (A f) ks kb rounds depth c) (fun l' hl' => by simp only [PR.val, Option.some.injEq] at hl'; subst hl'; exact hr) l h
          · cases h
      · exact hx.pure f args l h
    · simp only [orcN] at h ⊢
      split at h
      · rename_i fn hfn
        obtain ⟨h1, h2⟩ := hf f fn hfn
        cases hd : hasD fn
        · rw [hd, cond_false] at h
          cases hb : fn.body with
          | none => simp only [runI, hb, leafI] at h; cases h
          | some c =>
            generalize hr : runI T (orcN T fns an ks kb rounds depth ext n) (an f) (loopN T (orcN T fns an ks kb rounds depth ext n) (an f) ks kb rounds depth) fn args hs = r at h
            unfold leafI at h
            split at h
            · rename_i v hs'
              exact runI_sound hD (r := .ret v hs') (A f) h1 h2 hb (loopN_ok (A f) ks kb rounds depth c) (fun l' hl' => by simp only [IR.val, Option.some.injEq] at hl'; subst hl'; exact hr) l h
            · rename_i v hs'
              exact runI_sound hD (r := .pan v hs') (A f) h1 h2 hb (loopN_ok (A f) ks kb rounds depth c) (fun l' hl' => by simp only [IR.val, Option.some.injEq] at hl'; subst hl'; exact hr) l h
            · cases h
        · rw [hd, cond_true] at h
          have A' : ∀ (G' : Gl) f, G'.tab = G.tab → OrcOK P G' (orcN T fns an ks kb rounds depth ext n) → Oks P G' T (orcN T fns an ks kb rounds depth ext n) (an f) :=
            fun G' f e k => ⟨hT, (hG f).trans e.symm, callOK k ((hG f).trans e.symm), hm⟩
          have L' : ∀ (G' : Gl) f c, G'.tab = G.tab → OrcOK P G' (orcN T fns an ks kb rounds depth ext n) → LoopsOK P G' (loopN T (orcN T fns an ks kb rounds depth ext n) (an f) ks kb rounds depth) c :=
            fun G' f c e k => loopN_ok (A' G' f e k) ks kb rounds depth c
          generalize hr : runD T (orcN T fns an ks kb rounds depth ext n) an (fun f => loopN T (orcN T fns an ks kb rounds depth ext n) (an f) ks kb rounds depth) fns f fn args hs = r at h
          unfold leafI at h
          split at h
          · rename_i v hs'
            exact runD_sound hD (r := .ret v hs') hf A' ih L' h1 h2 (fun l' hl' => by simp only [IR.val, Option.some.injEq] at hl'; subst hl'; exact hr) l h
          · rename_i v hs'
            exact runD_sound hD (r := .pan v hs') hf A' ih L' h1 h2 (fun l' hl' => by simp only [IR.val, Option.some.injEq] at hl'; subst hl'; exact hr) l h
          · cases h
      · exact hx.imp f args hs l h

end
end Go.Ev
