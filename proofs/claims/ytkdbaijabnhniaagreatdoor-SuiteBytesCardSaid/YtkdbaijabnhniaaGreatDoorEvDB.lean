/- Laws: what is handed in, what stands behind. -/
import Derived.Test.YtkdbaijabnhniaaGreatDoorEvDA
import Derived.WalkKit
import Derived.ProofKit
import Derived.OpenShut
import Derived.ChangeBook
import Derived.Deep.DeepHandedRow
import Derived.Lib.LaidTab
namespace Go.Ev
open Go.ChangeShapes Go.WideShapes Go.ChangeAt Go.RowKit

section
variable {P : Program}

theorem Invokes.calls {f : FuncId} {fn : Func} {xs : Array Value} {w : World} {R : Ending → World → Prop} (hf : P.funcs[f]? = some fn) (hn : (fn.name == "runtime.NumGoroutine") = false) (hb : fn.body.isNone = false)
    (h : Invokes P f xs w R) : Calls P f xs w R := by
  have h1 := h { (default : Oper) with dst := some 0 } { tmps := #[undef], defers := [] } (fun a w' => R (.returned (a.tmps.getD 0 undef)) w') (fun e _ w' => ∃ ch, e = .panic ch ∧ R (.panicked ch) w')
    (fun y v hr => by simpa [Act.put] using hr) (fun ch v hr => ⟨ch, rfl, hr⟩)
  have : (callFunc f xs).run P w = .ok (.enter f xs) w := by
    simp only [callFunc, Sem.run_bind, run_program, Result.andThen_ok, hf, hn, hb, Bool.false_eq_true, if_false, Sem.run_pure]
  rw [this, Oper.upon_enter] at h1
  refine h1.mono fun e v he => ?_
  cases e with
  | returned y => simpa [Act.put] using he
  | panicked ch => obtain ⟨ch', h2, h3⟩ := he; injection h2 with h2; subst h2; exact h3
  | outgrown => obtain ⟨_, _, _, h2, _⟩ := he; cases h2

/-- what was there is there, as it was -/
structure Kept (w w' : World) : Prop where
  heap : ∀ b, b < w.heap.size → w'.heap[b]? = w.heap[b]?
  os : w'.os = w.os
  output : w'.output = w.output

theorem PEvo.kept {M M' O' : Nat → Option (List Value)} {w w' : World} (h : PEvo M w M' O' w') : Kept w w' := ⟨h.keep, h.os, h.output⟩

theorem Kept.but {w w' : World} (h : Kept w w') (may : MemPlace → Prop) : w.keptBut w' may := by
  refine ⟨h.os, h.output, fun i hi => ?_⟩
  rw [h.heap i hi]
  split
  · rename_i h1 h2
    rw [h1] at h2
    injection h2 with h2
    injection h2 with h3 h4 h5
    subst h3 h4 h5
    exact ⟨rfl, rfl, rfl, fun _ _ => rfl⟩
  · rename_i h1 h2
    rw [h1] at h2
    injection h2 with h2
    injection h2 with h3 h4
    subst h3 h4
    exact .inr ⟨rfl, rfl⟩
  · rfl

theorem Kept.sameAt {w w' : World} (h : Kept w w') {p : MemPlace} (hp : p.block < w.heap.size) : w.sameAt w' p := by
  cases p with
  | cell b off => simp only [World.sameAt, World.cell?, h.heap b hp]
  | map b => exact h.heap b hp

variable {H : Type} {enc : TypeId × Value → H}

theorem trodAll_kept {W W' : World} (hl : laidOutB P = true) (hk : Kept W W') {sp : Nat → Bool} : ∀ {ts : List TypeId} {vs : List Value} {ds : List (DataW H)} {ps : List MemPlace}, (∀ t ∈ ts, t < P.types.size ∧ P.readableRec t = true) →
    DataW.TrodAll enc P W 0 (fun _ => true) true ts vs ds ps → (∀ p ∈ ps, p.block < W.heap.size) → (∀ p ∈ ps, sp p.block = true) → DataW.TrodAll enc P W' 0 sp true ts vs ds ps
  | [], vs, ds, ps, _, h, _, _ => by
    obtain ⟨rfl, rfl, rfl⟩ := trodAll_nil h
    exact trodAll_mk0
  | t :: ts, vs, ds, ps, ht, h, hlt, hs => by
    obtain ⟨v, vs', d, ds', p, q, rfl, rfl, rfl, ⟨n, h1⟩, h2⟩ := trodAll_cons h
    obtain ⟨b1, b2⟩ := ht t (by simp)
    exact trodAll_cons_mk ⟨n, DataW.trod_stays (kids_book hl b2) (book_sized b2) (fun h => by cases h) ⟨b1, book_self t⟩ h1 (fun x hx => hk.sameAt (hlt x (by simp at hx ⊢; exact .inl hx))) (fun x hx => hs x (by simp at hx ⊢; exact .inl hx))⟩
      (trodAll_kept hl hk (fun t h => ht t (by simp [h])) h2 (fun x hx => hlt x (by simp [hx])) (fun x hx => hs x (by simp [hx])))

/-- behind a law that is true and leaves all as it was -/
theorem law_post {f : Func} {s : ChangeSpec} {apart fresh handsOn again : Bool} {W W' : World} {args : Array Value} {ds gs : List (DataW H)} {before : List MemPlace} {tb : TypeId}
    (hW : DataW.Whole enc P f.params.toList s.vars apart W args.toList ds gs before) (hv : s.vars = []) (hfn : s.fn H ds = { results := [.lit (.bool true)], args := ds })
    (hrt : f.resultTypes = #[tb]) (htb : P.underlying tb = some .bool) (hk : Kept W W') (hl : laidOutB P = true) (ht : ∀ t ∈ f.params.toList, t < P.types.size ∧ P.readableRec t = true) :
    s.post enc P f apart fresh handsOn again W args (.bool true) W' := by
  have hlt := hW.lt
  have hW0 := hW
  obtain ⟨p, q, hA, hV, rfl, hfz, hnd⟩ := hW
  have hV0 := hV
  rw [hv] at hV0
  obtain ⟨rfl, rfl⟩ := trodVars_none hV0
  rw [List.append_nil] at hlt hfz hnd
  have hfn' : s.fn H (ds ++ []) = { results := [.lit (.bool true)], args := ds } := by rw [List.append_nil]; exact hfn
  have hres : ∀ (b : Nat) (sp : Nat → Bool) (hd : Bool), DataW.TrodAll enc P W' b sp hd f.resultTypes.toList ((Value.bool true).resultList f.resultTypes.size) (s.fn H (ds ++ [])).results [] := fun b sp hd => by
    rw [hfn', hrt]
    exact trodAll_cons_mk (shut_bool htb true) trodAll_mk0
  have hargs : ∀ sp : Nat → Bool, (∀ x ∈ p, sp x.block = true) → DataW.TrodAll enc P W' 0 sp true f.params.toList args.toList (s.fn H (ds ++ [])).args p := fun sp hs => by
    rw [hfn']
    exact trodAll_kept hl hk ht hA hlt hs
  have hvars : ∀ sp : Nat → Bool, DataW.TrodVars enc P W' sp s.vars (s.fn H (ds ++ [])).vars [] := fun sp => by
    rw [hfn', hv]
    rfl
  refine ⟨ds, [], p ++ [], [], p, [], hW0, hres _ _ _, hargs _ (fun x hx => by simpa using hlt x hx), hvars _, hk.but _, fun _ => ⟨?_, _, _, ([] ++ p) ++ [], ⟨[] ++ p, [], trodAll_append (hargs _ (fun _ _ => rfl)) (hres _ _ _), hvars _, rfl, ?_, ?_⟩, ?_⟩⟩
  · exact ok_one hrt rfl (okWide_bool_mk htb true)
  · intro b off hp
    have hb : b < W.heap.size := hlt (.cell b off) (by simpa using hp)
    simp only [World.frozen?, hk.heap b hb]
    exact hfz b off (by simpa using hp)
  · intro ha
    simpa using hnd ha
  · intro x hx _
    simpa using hx

/-! ## What is handed in -/

def intOf : Value → Int
  | .int _ n => n
  | _ => 0
def boolOf : Value → Bool
  | .bool b => b
  | _ => false

def intsOf (cs : List Value) (i : Nat) : Int := intOf (cs.getD i undef)
def boolsOf (cs : List Value) (i : Nat) : Bool := boolOf (cs.getD i undef)

theorem plainCell_ok {T : Tab} (hT : TabOK P T) {E : Env} {w : World} {r : Reach} {base : Nat} {t : TypeId} {v : Value} {i : Nat} {ints : Nat → Int} {bools : Nat → Bool} (h : Cell.okWide P w r base t v) (hi : ints i = intOf v) (hb : bools i = boolOf v) :
    VA E (plainCell T ints bools i t) v := by
  unfold plainCell
  split
  · rename_i k _ _ _ _ htt
    have hu := (hT _ _ htt).und
    simp only at hu
    simp only [Cell.okWide, hu, Cell.ok] at h
    cases v <;> first | exact h.elim | skip
    obtain ⟨rfl, _⟩ := h
    simp only [VA, VS, hi, intOf]
  · rename_i htt
    have hu := (hT _ _ htt).und
    simp only at hu
    simp only [Cell.okWide, hu, Cell.ok] at h
    cases v <;> first | exact h.elim | skip
    simp only [VA, VS, hb, boolOf]
  · simp only [VA]

theorem plainCells_ok {T : Tab} (hT : TabOK P T) {E : Env} {w : World} {r : Reach} {base : Nat} {ints : Nat → Int} {bools : Nat → Bool} : ∀ (ts : List TypeId) (cs : List Value) (k : Nat), cs.length = ts.length →
    (∀ (i : Nat) (v : Value), cs[i]? = some v → ∃ u, ts[i]? = some u ∧ Cell.okWide P w r base u v) → (∀ (i : Nat) (v : Value), cs[i]? = some v → ints (k + i) = intOf v ∧ bools (k + i) = boolOf v) → VAs E (plainCells T ints bools k ts) cs
  | [], cs, k, hl, _, _ => by
    have : cs = [] := List.length_eq_zero_iff.1 hl
    subst this
    rfl
  | t :: ts, [], k, hl, _, _ => by cases hl
  | t :: ts, c :: cs, k, hl, h1, h2 => by
    obtain ⟨u, hu, hc⟩ := h1 0 c rfl
    simp only [List.getElem?_cons_zero, Option.some.injEq] at hu
    subst hu
    obtain ⟨h3, h4⟩ := h2 0 c rfl
    simp only [plainCells, VAs]
    refine ⟨c, cs, rfl, plainCell_ok hT hc h3 h4, plainCells_ok hT (w := w) (r := r) (base := base) ts cs (k + 1) (by simpa using hl) (fun i v hv => ?_) (fun i v hv => ?_)⟩
    · have := h1 (i + 1) v (by simpa using hv)
      simpa using this
    · have := h2 (i + 1) v (by simpa using hv)
      rw [show k + 1 + i = k + (i + 1) by omega]
      exact this

/-- a struct or an array of plain cells -/
theorem plain_agg {T : Tab} (hT : TabOK P T) {E : Env} {w : World} {r : Reach} {base : Nat} {t : TypeId} {v : Value} {ts : List TypeId} {i : TI} (ht : T t = some i) (ha : i.isAgg = true) (hts : P.cellTypes P.depth t = some ts) (hsz : P.cellsOf t = ts.length)
    (h : Value.okWide P w r base t v) : ∃ ints bools, VA E (.agg (plainCells T ints bools 0 ts)) v := by
  have hu := (hT _ _ ht).und
  have key : ∃ cs, v = .agg cs ∧ cs.size = P.cellsOf t ∧ Row.okWide P w r base t cs := by
    unfold Value.okWide at h
    rw [hu] at h
    unfold TI.isAgg at ha
    split at ha
    · rename_i hd; rw [hd] at h; exact h
    · rename_i hd; rw [hd] at h; exact h
    · cases ha
  obtain ⟨cs, rfl, hs, ts', h1, _, h3⟩ := key
  rw [hts] at h1
  injection h1 with h1
  subst h1
  refine ⟨intsOf cs.toList, boolsOf cs.toList, ?_⟩
  simp only [VA]
  refine ⟨cs.toList, by simp, plainCells_ok hT (w := w) (r := r) (base := base) ts cs.toList 0 (by simp; omega) (fun i v hv => ?_) (fun i v hv => ?_)⟩
  · obtain ⟨u, hu, hc⟩ := h3 i v (by simpa using hv)
    have hi : i < ts.length := by
      have := (List.getElem?_eq_some_iff.1 hv).1
      simp at this
      omega
    rw [Nat.mod_eq_of_lt hi] at hu
    exact ⟨u, hu, hc⟩
  · rw [Nat.zero_add]
    simp only [intsOf, boolsOf, List.getD_eq_getElem?_getD, hv, Option.getD_some, and_self]

theorem plain_one {T : Tab} (hT : TabOK P T) {E : Env} {w : World} {r : Reach} {base : Nat} {t : TypeId} {v : Value} {i : TI} (ht : T t = some i) (ha : i.isAgg = false) (h : Value.okWide P w r base t v) :
    VA E (plainCell T (fun _ => intOf v) (fun _ => boolOf v) 0 t) v := by
  have hu := (hT _ _ ht).und
  refine plainCell_ok hT (w := w) (r := r) (base := base) ?_ rfl rfl
  unfold Value.okWide at h
  rw [hu] at h
  unfold TI.isAgg at ha
  generalize i.desc = d at h ha
  cases d <;> first | (cases ha; done) | exact h

/-! ## Oracles out of contracts -/

def failO : Orc := { pure := fun _ _ => .fail, imp := fun _ _ _ => .fail }

theorem failO_ok {G : Gl} : OrcOK P G failO := ⟨fun _ _ _ h => (nomatch h), fun _ _ _ _ h => (nomatch h)⟩

/-- one function's contract, ahead of others -/
def putO (n : FuncId) (p : List AV → PR) (C : Orc) : Orc := { pure := fun f args => cond (Nat.beq f n) (p args) (C.pure f args), imp := C.imp, quiet := C.quiet }

theorem putO_ok {G : Gl} {n : FuncId} {p : List AV → PR} {C : Orc} (h : ∀ args, SoundP P G n args (p args)) (hC : OrcOK P G C) : OrcOK P G (putO n p C) := by
  refine ⟨fun f args => ?_, hC.imp⟩
  have key : ∀ b, Nat.beq f n = b → SoundP P G f args (cond b (p args) (C.pure f args)) := by
    intro b hb
    cases b
    · exact hC.pure f args
    · have e := Nat.eq_of_beq_eq_true hb
      subst e
      exact h args
  exact key _ rfl

/-- the functions of a program, but for some -/
def fnsOf (P : Program) (but : List Nat) (f : FuncId) : Option Func := cond (memN f but) none (match P.funcs[f]? with
  | some fn => cond fn.body.isSome (some fn) none
  | none => none)

theorem fnsOf_ok {but : List Nat} (hn : (P.funcs.toList.all fun fn => !(fn.name == "runtime.NumGoroutine")) = true) (f : FuncId) (fn : Func) (h : fnsOf P but f = some fn) : P.funcs[f]? = some fn ∧ (fn.name == "runtime.NumGoroutine") = false := by
  unfold fnsOf at h
  cases hm : memN f but
  · rw [hm, cond_false] at h
    split at h
    · rename_i g hg
      cases hb : g.body.isSome
      · rw [hb] at h; cases h
      · rw [hb, cond_true, Option.some.injEq] at h
        subst h
        refine ⟨hg, ?_⟩
        have hm : g ∈ P.funcs.toList := by
          rw [← Array.getElem?_toList] at hg
          exact List.mem_of_getElem? hg
        have := List.all_eq_true.1 hn g hm
        simpa using this
    · cases h
  · rw [hm, cond_true] at h; cases h

/-- a contract without arguments -/
def nullP (v : AV) : List AV → PR
  | [] => .ret v
  | _ => .fail

theorem nullP_ok {G : Gl} {f : FuncId} {v : AV} (h : SoundP P G f [] (.ret v)) (args : List AV) : SoundP P G f args (nullP v args) := by
  cases args with
  | nil => exact h
  | cons a l => exact fun l h => (nomatch h)

/-! ## A row's closed facts, one by one -/

structure RowFacts (P : Program) (f : FuncId) (fn : Func) (s : ChangeSpec) (c : OpenClaim) : Prop where
  wf : c.wf (OpenSpec.ofChange s) = true
  reads : fn.params.all (P.readableRec ·) = true
  tie : namedTie P c.named s.vars = true
  none1 : ((c.stops == []) && (c.knobs == []) && c.shortTexts.isNone && (c.pinned == c.pinnedBy)) = true
  inPlace : (c.inPlace == P.inPlace f) = true
  unfollowed : (c.unfollowed == P.unfollowed f) = true
  recurses : (c.recurses == P.recurses f) = true
  named : (c.named == P.varsNamed f) = true
  maps : (c.maps == (fn.params.toList ++ s.plain.varTypes P).any (P.mapsRec ·)) = true
  ifaces : (c.ifaces == (fn.params.toList ++ s.plain.varTypes P).any (P.ifacesRec ·)) = true
  mapsOut : (c.mapsOut == P.mapsAmong fn.resultTypes.toList) = true
  loops : (c.loops == (fn.params.toList ++ s.plain.varTypes P).any (P.loopsFrom ·)) = true
  wideKeys : (c.wideKeys == (fn.params.toList ++ s.plain.varTypes P ++ fn.resultTypes.toList).any (P.wideKeysFrom ·)) = true
  vars : s.vars.all (P.varReadable ·) = true
  res : fn.resultTypes.all (fun t => P.readableRec t && decide (t < P.types.size)) = true
  ifacesOut : (c.ifacesOut == fn.resultTypes.toList.any (P.ifacesRec ·)) = true
  loopsOut : (c.loopsOut == fn.resultTypes.toList.any (P.loopsFrom ·)) = true
  plainKeys : (c.plainKeys == P.plainKeys) = true
  lifted : (c.lifted == P.liftsFinal) = true
  make : (P.make == some c.make) = true
  kinds : (c.kinds == (if c.domain.isEmpty then [] else fn.params.toList.map fun t => match P.underlying t with | some (.int k) => some k | _ => none)) = true
  veiled : (c.veiled == (fn.params.toList ++ s.plain.varTypes P ++ fn.resultTypes.toList).any (P.veiledRec ·)) = true
  veiledFits : c.veiledFits P fn.params.toList (fn.params.toList ++ s.plain.varTypes P ++ fn.resultTypes.toList) = true

structure ProgFacts (P : Program) : Prop where
  laidOut : laidOutB P = true
  mapsRowed : mapsRowed P = true
  stops : (P.stops == []) = true
  stopKnobs : (P.stopKnobs == []) = true
  heard : P.stopsHeard = true
  enter : P.mayEnter = true

theorem joined_of {f : FuncId} {fn : Func} {s : ChangeSpec} {c : OpenClaim} (p : ProgFacts P) (r : RowFacts P f fn s c) : joinedFacts P f fn s c = true := by
  have h1 := r.none1
  simp only [Bool.and_eq_true] at h1
  obtain ⟨⟨⟨n1, n2⟩, n3⟩, n4⟩ := h1
  unfold joinedFacts
  simp only [r.wf, p.laidOut, p.mapsRowed, r.reads, r.tie, n1, p.stops, n2, p.stopKnobs, r.inPlace, r.unfollowed, r.recurses, r.named, r.maps, r.ifaces, r.mapsOut, r.loops, r.wideKeys, r.vars, r.res, r.ifacesOut, r.loopsOut, r.plainKeys, n3, p.heard, p.enter, r.lifted, r.make, n4,
    r.veiled, r.veiledFits, Bool.and_self, Bool.true_and, Bool.and_true]
  exact r.kinds

end
end Go.Ev
