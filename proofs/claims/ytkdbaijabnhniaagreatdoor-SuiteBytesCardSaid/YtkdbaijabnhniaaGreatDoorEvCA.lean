/- An oracle that runs the program itself. -/
import Derived.Test.YtkdbaijabnhniaaGreatDoorEvCQ
import Derived.Laws.StandIn
import Derived.Laws.Externs
namespace Go.Ev

/-- loops by rounds: so deep, so many rounds; what is kept: told by the loop's key, or all -/
def loopN (T : Tab) (C : Orc) (an : Ann) (ks kb : Code → List Nat) (rounds : Nat) : Nat → Code → St → LT
  | 0, _, _ => .fail
  | d + 1, c, st => match iterC T C an (loopN T C an ks kb rounds d) c (ks c) (kb c) rounds st with
    | some (e, s) => .out e s
    | none => .fail

section
variable {P : Program} {G : Gl} {T : Tab} {C : Orc} {an : Ann}

theorem loopN_ok (A : Oks P G T C an) (ks kb : Code → List Nat) (rounds : Nat) (d : Nat) : ∀ c : Code, LoopsOK P G (loopN T C an ks kb rounds d) c := by
  induction d with
  | zero =>
    intro c
    induction c with
    | loop c _ => intro E st a w x R h; cases h
    | seq a b ha hb => exact ⟨ha, hb⟩
    | cond x a b ha hb => exact ⟨ha, hb⟩
    | block i c h => exact h
    | scope c h => exact h
    | _ => trivial
  | succ d ih =>
    intro c
    induction c with
    | loop c _ =>
      intro E st a w x R h Q hQ
      simp only [loopN] at h
      split at h
      · rename_i e s hi
        simp only [LT.leaf, Option.some.injEq] at h
        subst h
        exact wp_loop_rounds rounds (iter_wp A (ih c) rounds st E a w hi R Q hQ)
      · cases h
    | seq a b ha hb => exact ⟨ha, hb⟩
    | cond x a b ha hb => exact ⟨ha, hb⟩
    | block i c h => exact h
    | scope c h => exact h
    | _ => trivial

end

def leafP : Option PR → PR
  | some (.ret v) => .ret v
  | some (.pan x) => .pan x
  | _ => .fail

def leafI : Option IR → IR
  | some (.ret v hs) => .ret v hs
  | some (.pan x hs) => .pan x hs
  | _ => .fail

def outQ (o q : Bool) (hs : List HO) (r : IR) : IR := cond o .fail (cond q (quietI hs r) r)

theorem outQ_ok {P : Program} {G : Gl} {f : FuncId} {args : List AV} {hs : List HO} {r : IR} (o q : Bool) (h : SoundI P G f args hs r) : SoundI P G f args hs (outQ o q hs r) := by
  cases o
  · cases q
    · exact h
    · exact h.quiet
  · intro l hl; cases hl

/-- does it put a call off, at once -/
def hasD (fn : Func) : Bool := match fn.body with
  | some (.seq _ (.seq (.region _ ops _) _)) => match ops.toList with
    | [_, o] => match o.op with
      | .defer _ => true
      | _ => false
    | _ => false
  | _ => false

/-- calls answered by runs of the functions themselves, so deep -/
def orcN (T : Tab) (fns : FuncId → Option Func) (an : FuncId → Ann) (ks kb : FuncId → Code → List Nat) (rounds depth : Nat) (ext : Orc) : Nat → Orc
  | 0 => ext
  | n + 1 => Orc.mk
    (fun f args => match fns f with
      | some fn => cond (!(an f).pure) .fail (leafP (runP T (orcN T fns an ks kb rounds depth ext n) (an f) (loopN T (orcN T fns an ks kb rounds depth ext n) (an f) (ks f) (kb f) rounds depth) fn args))
      | none => ext.pure f args)
    (fun f args hs => match fns f with
      | some fn => outQ ((an f).once && hs.isEmpty) (an f).quiet hs (leafI (cond (hasD fn) (runD T (orcN T fns an ks kb rounds depth ext n) an (fun f => loopN T (orcN T fns an ks kb rounds depth ext n) (an f) (ks f) (kb f) rounds depth) fns f fn args hs)
          (runI T (orcN T fns an ks kb rounds depth ext n) (an f) (loopN T (orcN T fns an ks kb rounds depth ext n) (an f) (ks f) (kb f) rounds depth) fn args hs)))
      | none => ext.imp f args hs)
    (fun f => (an f).quiet)

section
variable {P : Program} {G : Gl} {T : Tab}

theorem orcN_ok (hD : G.D = []) (hT : TabOK P T) (hm : P.follows .mixedOrders = true) {fns : FuncId → Option Func} {an : FuncId → Ann} (hf : ∀ f fn, fns f = some fn → P.funcs[f]? = some fn ∧ (fn.name == "runtime.NumGoroutine") = false) (hG : ∀ f, (an f).glob = G.tab)
    (ks kb : FuncId → Code → List Nat) (rounds depth : Nat) {ext : Orc} (hx : OrcOK P G ext) : ∀ n, OrcOK P G (orcN T fns an ks kb rounds depth ext n)
  | 0 => hx
  | n + 1 => by
    have ih := orcN_ok hD hT hm hf hG ks kb rounds depth hx n
    have A : ∀ f, Oks P G T (orcN T fns an ks kb rounds depth ext n) (an f) := fun f => ⟨hT, hG f, callOK ih (hG f), hm⟩
    refine ⟨fun f args l h => ?_, fun f args hs l h => ?_⟩
    · simp only [orcN] at h ⊢
      split at h
      · rename_i fn hfn
        obtain ⟨h1, h2⟩ := hf f fn hfn
        cases hpu : (an f).pure
        · rw [hpu, Bool.not_false, cond_true] at h; cases h
        rw [hpu, Bool.not_true, cond_false] at h
        cases hb : fn.body with
        | none => simp only [runP, hb, leafP] at h; cases h
        | some c =>
          generalize hr : runP T (orcN T fns an ks kb rounds depth ext n) (an f) (loopN T (orcN T fns an ks kb rounds depth ext n) (an f) (ks f) (kb f) rounds depth) fn args = r at h
          unfold leafP at h
          split at h
          · rename_i v
            exact runP_sound hD (r := .ret v) (A f) h1 h2 hb (loopN_ok (A f) (ks f) (kb f) rounds depth c) (fun l' hl' => by simp only [PR.val, Option.some.injEq] at hl'; subst hl'; exact hr) l h
          · rename_i v
            exact runP_sound hD (r := .pan v) (A f) h1 h2 hb (loopN_ok (A f) (ks f) (kb f) rounds depth c) (fun l' hl' => by simp only [PR.val, Option.some.injEq] at hl'; subst hl'; exact hr) l h
          · cases h
      · exact hx.pure f args l h
    · simp only [orcN] at h ⊢
      split at h
      · rename_i fn hfn
        obtain ⟨h1, h2⟩ := hf f fn hfn
        revert l
        refine outQ_ok _ (an f).quiet ?_
        intro l h
        cases hd : hasD fn
        · rw [hd, cond_false] at h
          cases hb : fn.body with
          | none => simp only [runI, hb, leafI] at h; cases h
          | some c =>
            generalize hr : runI T (orcN T fns an ks kb rounds depth ext n) (an f) (loopN T (orcN T fns an ks kb rounds depth ext n) (an f) (ks f) (kb f) rounds depth) fn args hs = r at h
            unfold leafI at h
            split at h
            · rename_i v hs'
              exact runI_sound hD (r := .ret v hs') (A f) h1 h2 hb (loopN_ok (A f) (ks f) (kb f) rounds depth c) (fun l' hl' => by simp only [IR.val, Option.some.injEq] at hl'; subst hl'; exact hr) l h
            · rename_i v hs'
              exact runI_sound hD (r := .pan v hs') (A f) h1 h2 hb (loopN_ok (A f) (ks f) (kb f) rounds depth c) (fun l' hl' => by simp only [IR.val, Option.some.injEq] at hl'; subst hl'; exact hr) l h
            · cases h
        · rw [hd, cond_true] at h
          have A' : ∀ (G' : Gl) f, G'.tab = G.tab → OrcOK P G' (orcN T fns an ks kb rounds depth ext n) → Oks P G' T (orcN T fns an ks kb rounds depth ext n) (an f) :=
            fun G' f e k => ⟨hT, (hG f).trans e.symm, callOK k ((hG f).trans e.symm), hm⟩
          have L' : ∀ (G' : Gl) f c, G'.tab = G.tab → OrcOK P G' (orcN T fns an ks kb rounds depth ext n) → LoopsOK P G' (loopN T (orcN T fns an ks kb rounds depth ext n) (an f) (ks f) (kb f) rounds depth) c :=
            fun G' f c e k => loopN_ok (A' G' f e k) (ks f) (kb f) rounds depth c
          generalize hr : runD T (orcN T fns an ks kb rounds depth ext n) an (fun f => loopN T (orcN T fns an ks kb rounds depth ext n) (an f) (ks f) (kb f) rounds depth) fns f fn args hs = r at h
          unfold leafI at h
          split at h
          · rename_i v hs'
            exact runD_sound hD (r := .ret v hs') hf A' ih L' h1 h2 (fun l' hl' => by simp only [IR.val, Option.some.injEq] at hl'; subst hl'; exact hr) l h
          · rename_i v hs'
            exact runD_sound hD (r := .pan v hs') hf A' ih L' h1 h2 (fun l' hl' => by simp only [IR.val, Option.some.injEq] at hl'; subst hl'; exact hr) l h
          · cases h
      · exact hx.imp f args hs l h

end
end Go.Ev

namespace Go.Ev

def svsS : List Value → Option (List SV)
  | [] => some []
  | v :: vs => match svOf v, svsS vs with
    | some x, some xs => some (x :: xs)
    | _, _ => none

theorem svsS_ok {M : Nat → Option (List Value)} : ∀ {vs : List Value} {xs : List SV}, svsS vs = some xs → VL M xs vs ∧ vs.length = xs.length
  | [], xs, h => by simp only [svsS, Option.some.injEq] at h; subst h; simp [VL]
  | v :: vs, xs, h => by
    simp only [svsS] at h
    split at h
    · rename_i x ys h1 h2
      injection h with h
      subst h
      obtain ⟨a1, a2⟩ := svsS_ok (M := M) h2
      simp only [VL, List.length_cons, a2, and_true]
      exact ⟨v, vs, rfl, (svOf_ok (M := M) h1).2, (svOf_ok (M := M) h1).1, a1⟩
    · cases h

def isAggV : Value → Bool
  | .agg _ => true
  | _ => false

def tabOf (P : Program) : Tab := fun t => match P.info? t, P.underlying t with
  | some j, some d => match j.zero with
    | some z => match svsS z.cells.toList with
      | some ss => cond (Nat.beq ss.length j.size && (isAggV z == (TI.mk d j.size j.bytes ss false).isAgg)) (some ⟨d, j.size, j.bytes, ss, !(P.eqGuardType P.depth t) && !(P.stoodInHeld t)⟩) none
      | none => none
    | none => none
  | _, _ => none

theorem tabOf_ok (P : Program) : TabOK P (tabOf P) := by
  intro t i h
  unfold tabOf at h
  split at h
  · rename_i j d hj hd
    split at h
    · rename_i z hz
      split at h
      · rename_i ss hs
        obtain ⟨hc, rfl⟩ := cond_some h
        simp only [Bool.and_eq_true, beq_iff_eq] at hc
        have h1 := Nat.eq_of_beq_eq_true hc.1
        have hl := (svsS_ok (M := fun _ => none) hs).2
        refine ⟨hd, ⟨j, z, hj, rfl, rfl, hz, h1, by simpa [h1] using hl, fun M => (svsS_ok hs).1, fun q => ?_, fun q => ?_⟩, fun q => ?_⟩
        · have : isAggV z = true := hc.2.trans q
          cases z <;> simp [isAggV] at this
          exact ⟨_, rfl⟩
        · have : isAggV z = false := hc.2.trans q
          cases z <;> first | rfl | simp [isAggV] at this
        · simpa using q
      · cases h
    · cases h
  · cases h

end Go.Ev

namespace Go.Ev
section
variable {P : Program} {G : Gl}

theorem PEvo.refl {M : Nat → Option (List Value)} {w : World} (h : FOK M w) : PEvo M w M (fun _ => none) w :=
  ⟨fun _ _ q => q, fun _ _ q => .inl q, fun _ _ q => (nomatch q), h, Nat.le_refl _, fun _ _ => rfl, rfl, rfl, rfl⟩

/-- a function that gives a value and leaves all as it is -/
theorem SoundP.of_run {f : FuncId} {args : List AV} {v : AV}
    (h : ∀ M w xs, VAs (envP M fun _ => none) args xs → ∃ y, (callFunc f xs.toArray).run P w = .ok (.value y) w ∧ VA (envP M fun _ => none) v y) : SoundP P G f args (.ret v) := by
  intro l hl M w xs _ hF hv o a K Q hK _
  simp only [PR.val, Option.some.injEq] at hl
  subst hl
  obtain ⟨y, h1, h2⟩ := h M w xs hv
  rw [h1, Oper.upon_value]
  exact hK y w ⟨M, fun _ => none, y, PEvo.refl hF, rfl, h2⟩

/-- the first place of a byte in a text -/
def indexByteP : List AV → PR
  | [.s (.str l), .s (.int .u8 c)] => .ret (.s (.int .i64 (firstIdx ⟨l.toArray⟩ c.toNat.toUInt8)))
  | _ => .fail

theorem indexByte_sound {f : FuncId} {fn : Func} (hf : P.funcs[f]? = some fn) (hname : (fn.name == "runtime.NumGoroutine") = false) (hb : fn.body.isNone = true) (hn : Extern.findNext fn = none)
    (he : Extern.find fn = some Extern.BytealgIndexByte.indexByte) (args : List AV) : SoundP P G f args (indexByteP args) := by
  unfold indexByteP
  split
  · rename_i l c
    refine SoundP.of_run fun M w xs hv => ?_
    simp only [VAs, VA, VS] at hv
    obtain ⟨_, _, rfl, rfl, _, _, rfl, rfl, rfl⟩ := hv
    refine ⟨.int .i64 (firstIdx ⟨l.toArray⟩ c.toNat.toUInt8), ?_, by simp only [VA, VS]⟩
    rw [run_callFunc_indexByte hf hname hb hn he]
    have := run_indexByte_string (P := P) ⟨l.toArray⟩ c w
    simp only [this, Result.andThen_ok]
  · intro l h; cases h

def floatBitsP : List AV → PR
  | [.s (.flt .f64 b)] => .ret (.s (.int .u64 b))
  | _ => .fail

def bitsFloatP : List AV → PR
  | [.s (.int .u64 n)] => .ret (.s (.flt .f64 n.toNat))
  | _ => .fail

theorem floatBits_sound {f : FuncId} {fn : Func} (hf : P.funcs[f]? = some fn) (hname : (fn.name == "runtime.NumGoroutine") = false) (hb : fn.body.isNone = true) (hn : Extern.findNext fn = none)
    (he : Extern.find fn = some Extern.MathFloatBits.float64bits) (args : List AV) : SoundP P G f args (floatBitsP args) := by
  unfold floatBitsP
  split
  · rename_i b
    refine SoundP.of_run fun M w xs hv => ?_
    simp only [VAs, VA, VS] at hv
    obtain ⟨_, _, rfl, rfl, rfl⟩ := hv
    refine ⟨.int .u64 b, ?_, by simp only [VA, VS]⟩
    rw [run_callFunc_extern hf hname hb hn he]
    rfl
  · intro l h; cases h

theorem bitsFloat_sound {f : FuncId} {fn : Func} (hf : P.funcs[f]? = some fn) (hname : (fn.name == "runtime.NumGoroutine") = false) (hb : fn.body.isNone = true) (hn : Extern.findNext fn = none)
    (he : Extern.find fn = some Extern.MathFloatBits.float64frombits) (args : List AV) : SoundP P G f args (bitsFloatP args) := by
  unfold bitsFloatP
  split
  · rename_i n
    refine SoundP.of_run fun M w xs hv => ?_
    simp only [VAs, VA, VS] at hv
    obtain ⟨_, _, rfl, rfl, rfl⟩ := hv
    refine ⟨.float .f64 n.toNat, ?_, by simp only [VA, VS]⟩
    rw [run_callFunc_extern hf hname hb hn he]
    rfl
  · intro l h; cases h

/-- the same of a call that is handed heap blocks -/
theorem SoundI.of_run {f : FuncId} {args : List AV} {hs : List HO} {v : AV}
    (h : ∀ E w xs, VAs E args xs → ∃ y, (callFunc f xs.toArray).run P w = .ok (.value y) w ∧ VA E v y) : SoundI P G f args hs (.ret v hs) := by
  intro l hl E w xs hC hv o a K Q hK _
  simp only [IR.val, Option.some.injEq] at hl
  subst hl
  obtain ⟨y, h1, h2⟩ := h E w xs hv
  rw [h1, Oper.upon_value]
  exact hK y w ⟨E, hC, .refl E w, y, rfl, h2⟩

/-- internal/abi.NoEscape: what it is handed -/
def sameI : List AV → List HO → IR
  | [x], hs => .ret x hs
  | _, _ => .fail

theorem same_sound {f : FuncId} {fn : Func} (hf : P.funcs[f]? = some fn) (hname : (fn.name == "runtime.NumGoroutine") = false) (hb : fn.body.isNone = true) (hn : Extern.findNext fn = none)
    (he : Extern.find fn = some Extern.AbiNoEscape.same) (args : List AV) (hs : List HO) : SoundI P G f args hs (sameI args hs) := by
  unfold sameI
  split
  · rename_i x hs
    refine SoundI.of_run fun E w xs hv => ?_
    simp only [VAs] at hv
    obtain ⟨y, _, rfl, hy, rfl⟩ := hv
    refine ⟨y, ?_, hy⟩
    rw [run_callFunc_extern hf hname hb hn he]
    rfl
  · intro l h; cases h

end
end Go.Ev
