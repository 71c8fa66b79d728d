/- Frames that put a call off, and a call that recovers. -/
import Derived.Test.YtkdbaijabnhniaaGreatDoorEvBB
import Derived.Recover
namespace Go.Ev

def Gl.withD (G : Gl) (D : List Deferred) : Gl := { G with D := D }

section
variable {P : Program} {G : Gl} {E F : Env} {st : St} {a : Act} {w v : World} {T : Tab} {C : Orc} {an : Ann}

theorem Core.withD {h : Heap} (D : List Deferred) (k : Core G E h w) : Core (G.withD D) E h w := ⟨k.heap, k.fz, k.own, k.box, k.disj, k.glob, k.lt⟩
theorem Core.ofD {h : Heap} {D : List Deferred} (k : Core (G.withD D) E h w) : Core G E h w := ⟨k.heap, k.fz, k.own, k.box, k.disj, k.glob, k.lt⟩

theorem endI.withD {l : ILeaf} {e : Ending} (D : List Deferred) (h : endI G E w l e v) : endI (G.withD D) E w l e v := by
  obtain ⟨F, h1, h2⟩ := h
  exact ⟨F, h1.withD D, h2⟩

theorem OrcOK.withD (D : List Deferred) (h : OrcOK P G C) : OrcOK P (G.withD D) C := by
  refine ⟨fun f args => h.pure f args, fun f args hs l hl E w xs hC hv => ?_⟩
  have := h.imp f args hs l hl E w xs hC.ofD hv
  intro o a K Q hK hQ
  exact this o a K Q (fun y v he => hK y v (he.withD D)) (fun ch v he => hQ ch v (he.withD D))

theorem Rel.withD (D : List Deferred) (R : Rel G E st a w) : Rel (G.withD D) E st { a with defers := D } w :=
  ⟨R.slots, rfl, R.size, R.heap, R.box, R.boxN, R.fz, R.own, R.disj, R.glob, R.lt, R.new, R.nxb⟩

theorem Rel.ofD {D : List Deferred} (hD : G.D = []) (R : Rel (G.withD D) E st a w) : Rel G E st { a with defers := [] } w :=
  ⟨R.slots, hD.symm, R.size, R.heap, R.box, R.boxN, R.fz, R.own, R.disj, R.glob, R.lt, R.new, R.nxb⟩

/-- the frame of a call that was put off -/
def St.enter (st : St) (args : List AV) (n : Nat) : St :=
  { s := fun i => cond (Nat.blt i n) (args.getD i (.tup [])) (.tup []), b := fun _ => none, h := st.h, base := st.nx, nx := st.nx + n + 1, n := n }

theorem Rel.enter (hD : G.D = []) (R : Rel G E st a w) {args : List AV} {xs : List Value} {n : Nat} (hf : args.all AV.flat0 = true) (hv : VAs E args xs) (hn : args.length ≤ n) :
    Rel G (E.keepB []) (st.enter args n) { tmps := xs.toArray ++ Array.replicate (n - xs.toArray.size) undef, defers := [] } w := by
  obtain ⟨R', _⟩ := R.cut (kb := []) []
  obtain ⟨h1, h2⟩ := init_slots (h := []) (base := 0) (VAs.flat0 (kb := []) hf hv) hn
  exact ⟨h1, hD.symm, h2, R'.heap, fun d cs h => (nomatch h), fun d _ => rfl, R'.fz, R'.own, R'.disj, R'.glob, R'.lt,
    fun id h => R.new id (by simp only [St.enter] at h; omega), by simp [St.enter]⟩

/-- back in the frame that put a call off -/
def backS (ks : List Nat) (s t : St) : St := { s := (s.cut ks []).s, b := fun _ => none, h := t.h, base := 0, nx := t.nx + s.n + 1, n := s.n }

theorem Rel.back (hD : G.D = []) {t : St} {b : Act} (R : Rel G E st a w) (S : Rel G F t b v) (hE : Evo (E.keepB []) w F v) (ks : List Nat) :
    Rel G (F.keepB []) (backS ks st t) { a with defers := [] } v ∧ Evo E w (F.keepB []) v := by
  obtain ⟨R', e1⟩ := R.cut (kb := []) ks
  obtain ⟨S', e2⟩ := S.cut (kb := []) []
  have e3 := hE.trans e2
  have le : EnvLe (E.keepB []) (F.keepB []) := ⟨e3.le.M, e3.le.O, e3.le.I, fun d blk q => by simp [Env.keepB, memN] at q⟩
  refine ⟨⟨fun i => VA.mono le _ _ (R'.slots i), hD.symm, R.size, S'.heap, fun d cs h => (nomatch h), fun d _ => rfl, S'.fz, S'.own, S'.disj, S'.glob, S'.lt,
    fun id h => S.new id (by simp only [backS] at h; omega), by simp only [backS]; omega⟩, e1.trans e3⟩

theorem wpS_recover {id : Nat} {ops : Array Oper} {o : Oper} {cs cs' : List Frame} {x : Value} {Q : Exit → Act → List Frame → World → Prop} (h0 : ops[0]? = some o) (hg : o.guard = none) (he : (execOp a.eval o).run P w = .ok .recover w)
    (hv : recoverD cs = some (x, cs') ∨ recoverD cs = none ∧ x = .nilIface ∧ cs' = cs) (h : wpOps P ops (fun e a' w' => Q e a' cs' w') (List.range' 1 (ops.size - 1)) (a.put o.dst x) w) :
    (Code.region id ops false).wpS P Q a cs w := by
  intro b k hb hro
  obtain ⟨e, a', w', hq, harr⟩ := wp_ops _ _ _ h b k cs'
  refine ⟨e, a', cs', w', hq, .of_steps (.head step_region (.one ?_)) harr⟩
  have hsz : 0 < ops.size := (Array.getElem?_eq_some_iff.1 h0).1
  have hr : List.range ops.size = 0 :: List.range' 1 (ops.size - 1) := by
    rw [List.range_eq_range', show ops.size = (ops.size - 1) + 1 by omega, List.range'_succ]; simp
  rw [hr]
  have hw : Region.wanted o (yielded ops a.tmps) = true := by simp [Region.wanted, hg]
  have hgo := stepG_op (P := P) (b := b) (k := k) (cs := cs) (w := w) (rest := List.range' 1 (ops.size - 1)) h0 hw
  have hk : (b.at a (.inRegion ops (0 :: List.range' 1 (ops.size - 1)) :: k)).kind = .deferred := hb
  have htr := tryRecover_deferred hk cs
  have hfin : ∀ v, (b.at a (.inRegion ops (0 :: List.range' 1 (ops.size - 1)) :: k)).finish v = b.at (a.put o.dst v) (.inRegion ops (List.range' 1 (ops.size - 1)) :: k) := by
    intro v; rw [Frame.finish_at, h0]; rfl
  refine step_lone_go ?_
  rw [hgo, ← hfin]
  simp only [Frame.at] at htr ⊢
  rcases hv with hv | ⟨hv, rfl, rfl⟩
  · simp [stepG.apply, he, htr, hv]
  · simp [stepG.apply, he, htr, hv]

def isRecover (o : Oper) : Bool := match o.guard with
  | none => match o.op with
    | .call c => match c.callee with
      | .builtin .recover => true
      | _ => false
    | _ => false
  | _ => false

theorem recover_exec {o : Oper} (h : isRecover o = true) : o.guard = none ∧ (execOp a.eval o).run P w = .ok .recover w := by
  unfold isRecover at h
  split at h
  · rename_i hg
    refine ⟨hg, ?_⟩
    split at h
    · rename_i c hc
      split at h
      · rename_i hcal
        unfold execOp
        rw [hc]
        simp only [resolve, hcal, Sem.run_bind, Sem.run_pure, Result.andThen_ok, invoke]
        rfl
      · cases h
    · cases h
  · cases h

/-- the run of a call that was put off, which begins by recovering -/
def runCl {R : Type} (T : Tab) (C : Orc) (an : Ann) (L : Code → St → LT) (fn : Func) (args : List AV) (rv : AV) (st : St) (K : St → Option R) : Option R :=
  match fn.body with
  | some (.seq (.region _ ops false) c) => match ops.toList with
    | o :: os => cond (isRecover o && Nat.ble args.length fn.ntmps && okDst o.dst fn.ntmps && args.all AV.flat0)
        (runOps T C an ops false (fun s => runC T C an L c s fun e s => match e with
          | .normal | .ret => match resultsE T an s fn.results.toList with
            | some _ => K s
            | none => none
          | _ => none) (fun _ _ => none) os 1 [] ((st.enter args fn.ntmps).put o.dst rv)) none
    | [] => none
  | _ => none

theorem runCl_ok {R : Type} {r : R} {L : Code → St → LT} (hD : G.D = []) (A : Oks P G T C an) (hL : ∀ c, LoopsOK P G L c) {g : FuncId} {fn : Func} {args : List AV} {xs : List Value} {rv : AV} {X : Value} {K : St → Option R} (hf : P.funcs[g]? = some fn)
    (h : runCl T C an L fn args rv st K = some r) (hR : Rel G E st a w) (hv : VAs E args xs) (hx : VA (E.keepB []) rv X) {u u' : FrameMode} (hu : ∀ (c₀ : Frame) cs, c₀.mode = u →
      recoverD (c₀ :: cs) = some (X, { c₀ with mode := u' } :: cs) ∨ recoverD (c₀ :: cs) = none ∧ X = .nilIface ∧ { c₀ with mode := u' } :: cs = c₀ :: cs) {Q : Ending → FrameMode → World → Prop}
    (hQ : ∀ y F s b v, K s = some r → Rel G F s b v → Evo (E.keepB []) w F v → Q (.returned y) u' v) : CallsD P g xs.toArray u w Q := by
  unfold runCl at h
  split at h
  · rename_i id ops c hb
    split at h
    · rename_i o os hops
      cases hc : (isRecover o && Nat.ble args.length fn.ntmps && okDst o.dst fn.ntmps && args.all AV.flat0)
      · rw [hc, cond_false] at h; cases h
      · rw [hc, cond_true] at h
        simp only [Bool.and_eq_true] at hc
        obtain ⟨⟨⟨hc1, hc2⟩, hc3⟩, hc4⟩ := hc
        have hR0 := hR.enter hD hc4 hv (Nat.le_of_ble_eq_true hc2)
        have hR1 := hR0.put (d := o.dst) (x := rv) (y := X) hc3 hx
        refine callsD_of_wpS hf hb fun c₀ cs hcu => ?_
        obtain ⟨hg, hex⟩ := recover_exec (P := P) (w := w) (a := { tmps := xs.toArray ++ Array.replicate (fn.ntmps - xs.toArray.size) undef, defers := [] }) hc1
        have hl : ∀ j, ops[j]? = (o :: os)[j]? := fun j => by rw [← hops, Array.getElem?_toList]
        have hsz : ops.size - 1 = os.length := by
          have : ops.toList.length = (o :: os).length := by rw [hops]
          simp only [Array.length_toList, List.length_cons] at this
          omega
        refine wpS_seq (wpS_recover (o := o) (x := X) (cs' := { c₀ with mode := u' } :: cs) (by rw [hl]; rfl) hg hex (hu c₀ cs hcu) ?_)
        rw [hsz]
        refine ordered_wp A os 1 [] _ _ _ _ (fun j => by rw [hl, Nat.add_comm]; rfl) hR1 h (fun F b v s hk hR' hE => ?_) (fun F x X s b v hk => by cases hk)
        refine wpS_of_wp ?_
        refine runC_wp A c s _ F b v _ (hL c) hR' hk fun e s' F' e' b' v' hk' he hR'' hE' => ?_
        have fin : (match resultsE T an s' fn.results.toList with | some _ => K s' | none => none) = some r → b'.defers = [] ∧ ∃ u2, { c₀ with mode := u' } :: cs = { c₀ with mode := u2 } :: cs ∧ ∃ y, (results fn b'.tmps).run P v' = .ok y v' ∧ Q (.returned y) u2 v' := fun q => by
          split at q
          · rename_i vs hvs
            obtain ⟨y, hy, _⟩ := results_ok A.tab hR'' hvs
            exact ⟨hR''.defers.trans hD, u', rfl, y, hy, hQ y F' s' b' v' q hR'' (hE.trans hE')⟩
          · cases q
        cases e with
        | normal =>
          have he : e' = .normal := he
          subst he
          exact fin hk'
        | ret =>
          have he : e' = .ret := he
          subst he
          exact fin hk'
        | exit i => cases hk'
        | goto i => cases hk'
        | pan z => cases hk'
    · cases h
  · cases h

def resSlots : List ResultVar → List Nat
  | [] => []
  | .tmp t :: rs => t :: resSlots rs
  | .cell a _ :: rs => a :: resSlots rs

/-- the part behind the call that is put off -/
def runD2 (T : Tab) (C : Orc) (an : FuncId → Ann) (L : FuncId → Code → St → LT) (fns : FuncId → Option Func) (f : FuncId) (fn : Func) (n : Nat) (g : FuncId) (args : List AV) (c : Code) (st : St) : Option IR :=
  match cond (args.all AV.flat0) (fns g) none with
  | some fg => runC T C (an f) (L f) c st fun e s => match e with
    | .normal | .ret => runCl T C (an g) (L g) fg args (.s .nili) s fun t => finI T (an f) n fn.results.toList .ret (backS (resSlots fn.results.toList) s t)
    | .pan x => runCl T C (an g) (L g) fg args (.s x) s fun t => finI T (an f) n fn.results.toList .ret (backS (resSlots fn.results.toList) s t)
    | _ => none
  | none => none

def runD (T : Tab) (C : Orc) (an : FuncId → Ann) (L : FuncId → Code → St → LT) (fns : FuncId → Option Func) (f : FuncId) (fn : Func) (args : List AV) (hs : List HO) : Option IR :=
  match fn.body with
  | some (.seq a (.seq (.region _ ops false) c)) => match ops.toList with
    | [o1, o2] => match o2.op with
      | .defer k => match k.callee with
        | .value x => cond (k.args.isEmpty && o2.guard.isNone && Nat.ble args.length fn.ntmps)
          (runC T C (an f) (L f) a (St.init args (heapOf hs) hs.length fn.ntmps) fun e st => match e with
            | .normal => runOps T C (an f) ops false (fun s => cond (okDst o2.dst s.n) (match s.ev (an f) x with
                | .clo g first cap => runD2 T C an L fns f fn hs.length g (first ++ cap) c (s.put o2.dst .undef)
                | _ => none) none) (fun _ _ => none) [o1] 0 [] st
            | _ => none) none
        | _ => none
      | _ => none
    | _ => none
  | _ => none

theorem settle_rec {X : Value} : settle (.panicking [{ v := X, recovered := true }]) = .returning := rfl

theorem runD2_ok {L : FuncId → Code → St → LT} (hD : G.D = []) {an : FuncId → Ann} {fns : FuncId → Option Func} (hfns : ∀ f fn, fns f = some fn → P.funcs[f]? = some fn ∧ (fn.name == "runtime.NumGoroutine") = false)
    (A : ∀ (G' : Gl) f, G'.tab = G.tab → OrcOK P G' C → Oks P G' T C (an f)) (hC : OrcOK P G C) (hL : ∀ (G' : Gl) f c, G'.tab = G.tab → OrcOK P G' C → LoopsOK P G' (L f) c)
    {f g : FuncId} {fn : Func} {hs : List HO} {E0 : Env} {w0 : World} {l : ILeaf} (hCo : Core G E0 (heapOf hs) w0) {args : List AV} {first cap : List Value} {c : Code} {d : Deferred} (hd : d = { target := .fn (.func g) cap.toArray, args := first.toArray })
    (hv : VAs E args (first ++ cap)) (hE0 : Evo E0 w0 E w) (hR : Rel (G.withD [d]) E st a w) (hfl : args.all AV.flat0 = true)
    (h : runD2 T C an L fns f fn hs.length g args c st = some l.ir) : c.wp P (bodyPostD P fn (endI G E0 w0 l)) a w := by
  unfold runD2 at h
  rw [hfl, cond_true] at h
  split at h
  · rename_i fg hfg
    obtain ⟨hg1, hg2⟩ := hfns g fg hfg
    have hC1 := hC.withD [d]
    refine runC_wp (A (G.withD [d]) f rfl hC1) c st _ E a w _ (hL (G.withD [d]) f c rfl hC1) hR h fun e s F e' b v hk he hRs hE => ?_
    have hbd : b.defers = [d] := hRs.defers
    have hRs0 : Rel G F s { b with defers := [] } v := hRs.ofD hD
    -- the call that was put off
    have key : ∀ (u u' : FrameMode) (X : Value) (rv : AV), u ≠ .run → settle u' = .returning → VA (F.keepB []) rv X →
        (∀ (c₀ : Frame) cs, c₀.mode = u → recoverD (c₀ :: cs) = some (X, { c₀ with mode := u' } :: cs) ∨ recoverD (c₀ :: cs) = none ∧ X = .nilIface ∧ { c₀ with mode := u' } :: cs = c₀ :: cs) →
        runCl T C (an g) (L g) fg args rv s (fun t => finI T (an f) hs.length fn.results.toList .ret (backS (resSlots fn.results.toList) s t)) = some l.ir →
        Leaves P fn b.tmps (endI G E0 w0 l) b.defers u v := by
      intro u u' X rv hu hset hX hrec hrun
      have hbody : fg.body.isNone = false := by
        unfold runCl at hrun
        split at hrun
        · rename_i hb; rw [hb]; rfl
        · cases hrun
      have hvF : VAs (F.keepB []) args (first ++ cap) := by
        have le : EnvLe (E.keepB []) (F.keepB []) := ⟨hE.le.M, hE.le.O, hE.le.I, fun d blk q => by simp [Env.keepB, memN] at q⟩
        exact VAs.mono le _ _ (VAs.flat0 hfl hv)
      obtain ⟨hRc, hEc⟩ := hRs0.cut (kb := []) []
      rw [hbd, hd]
      refine leaves_cons hu ?_ ((runCl_ok hD (A G g rfl hC) (fun c => hL G g c rfl hC) hg1 hrun hRs0 (xs := first ++ cap) ?_ hX hrec (Q := fun e u'' w' => match e with
        | .returned _ => Leaves P fn b.tmps (endI G E0 w0 l) [] (settle u'') w'
        | .panicked chain => Leaves P fn b.tmps (endI G E0 w0 l) [] (raised u'' chain) w'
        | .outgrown => endI G E0 w0 l .outgrown w') (fun y F' t b' v' hk' hR' hE' => ?_)).mono fun e u'' w' q => by cases e <;> exact q)
      · simp only [invoke, callFunc, Sem.run_bind, run_program, Result.andThen_ok, hg1, hg2, hbody, Bool.false_eq_true, if_false, Sem.run_pure]
        congr 2
        simp
      · -- values without boxes, in the frame's own memory
        have : ∀ {vs : List AV} {ys : List Value}, vs.all AV.flat0 = true → VAs (F.keepB []) vs ys → VAs F vs ys := by
          intro vs
          induction vs with
          | nil => intro ys _ h; simpa only [VAs] using h
          | cons v vs ih =>
            intro ys hf h
            simp only [List.all_cons, Bool.and_eq_true] at hf
            simp only [VAs] at h ⊢
            obtain ⟨y, r, rfl, h1, h2⟩ := h
            refine ⟨y, r, rfl, ?_, ih hf.2 h2⟩
            have h3 := hf.1
            unfold AV.flat0 at h3
            split at h3 <;> first | (simp only [VA] at h1 ⊢; exact h1) | cases h3
        exact this hfl hvF
      · simp only [hset, Leaves]
        obtain ⟨h1, h2⟩ := hRs0.back hD hR' hE' (resSlots fn.results.toList)
        obtain ⟨y', h3, h4⟩ := finI_ret (fn := fn) (A G f rfl hC).tab hCo h1 ((hE0.trans hE).trans h2) hk'
        exact ⟨y', h3, h4⟩
    cases e with
    | normal =>
      have he : e' = .normal := he
      subst he
      exact key .returning .returning .nilIface (.s .nili) (by simp) rfl (by simp [VA, VS]) (fun c₀ cs hm => .inr ⟨by simp [recoverD, hm], rfl, by cases c₀; simp only at hm; subst hm; rfl⟩) hk
    | ret =>
      have he : e' = .ret := he
      subst he
      exact key .returning .returning .nilIface (.s .nili) (by simp) rfl (by simp [VA, VS]) (fun c₀ cs hm => .inr ⟨by simp [recoverD, hm], rfl, by cases c₀; simp only at hm; subst hm; rfl⟩) hk
    | pan x =>
      obtain ⟨X, rfl, hX⟩ := he
      exact key (.panicking [{ v := X, recovered := false }]) (.panicking [{ v := X, recovered := true }]) X (.s x) (by simp) rfl (by simp only [VA]; exact hX) (fun c₀ cs hm => .inl (by simp [recoverD, hm])) hk
    | exit i => cases hk
    | goto i => cases hk
  · cases h

theorem runCl_args {R : Type} {r : R} {L : Code → St → LT} {fn : Func} {args : List AV} {rv : AV} {K : St → Option R} (h : runCl T C an L fn args rv st K = some r) : args.all AV.flat0 = true := by
  unfold runCl at h
  split at h
  · split at h
    · rename_i o os _
      cases hc : (isRecover o && Nat.ble args.length fn.ntmps && okDst o.dst fn.ntmps && args.all AV.flat0)
      · rw [hc] at h; cases h
      · simp only [Bool.and_eq_true] at hc
        exact hc.2
    · cases h
  · cases h

theorem runD_sound {L : FuncId → Code → St → LT} (hD : G.D = []) {an : FuncId → Ann} {fns : FuncId → Option Func} (hfns : ∀ f fn, fns f = some fn → P.funcs[f]? = some fn ∧ (fn.name == "runtime.NumGoroutine") = false)
    (A : ∀ (G' : Gl) f, G'.tab = G.tab → OrcOK P G' C → Oks P G' T C (an f)) (hC : OrcOK P G C) (hL : ∀ (G' : Gl) f c, G'.tab = G.tab → OrcOK P G' C → LoopsOK P G' (L f) c)
    {f : FuncId} {fn : Func} {args : List AV} {hs : List HO} {r : IR} (hf : P.funcs[f]? = some fn) (hn : (fn.name == "runtime.NumGoroutine") = false)
    (h : ∀ l, r.val hs = some l → runD T C an L fns f fn args hs = some l.ir) : SoundI P G f args hs r := by
  intro l hl E w xs hCo hv
  have h := h l hl
  have A0 := A G f rfl hC
  unfold runD at h
  split at h
  · rename_i a id ops c hb
    refine invokes_of_calls hf hn (by rw [hb]; rfl) ?_ (fun v q => by obtain ⟨_, _, _, q⟩ := q; cases l <;> obtain ⟨_, q, _⟩ := q <;> cases q)
    refine calls_of_wp_defers hf hb ?_
    split at h
    · rename_i o1 o2 hops
      split at h
      · rename_i k hk
        split at h
        · rename_i x hx
          cases hc : (k.args.isEmpty && o2.guard.isNone && Nat.ble args.length fn.ntmps)
          · rw [hc] at h; cases h
          · rw [hc, cond_true] at h
            simp only [Bool.and_eq_true] at hc
            obtain ⟨⟨hc1, hc2⟩, hc3⟩ := hc
            have hlo : ∀ j, ops[j]? = [o1, o2][j]? := fun j => by rw [← hops, Array.getElem?_toList]
            have hsz : ops.size = 2 := by
              have : ops.toList.length = [o1, o2].length := by rw [hops]
              simpa using this
            refine wp_seq (runC_wp A0 a _ _ E _ w _ (hL G f a rfl hC) (init_relI hD hCo hv (Nat.le_of_ble_eq_true hc3)) h fun e st F e' b v hk' he hR hE => ?_)
            cases e with
            | normal =>
              have he : e' = .normal := he
              subst he
              show Code.wp P _ _ b v
              refine wp_seq (wp_region ?_)
              rw [hsz]
              show wpOps P ops _ [0, 1] b v
              rw [wpOps_cons]
              rcases runOps_cons hk' with ⟨dd, e2, h1, h2, rfl, _, h5⟩ | ⟨_, _, _, _, _, _, _, h5⟩
              · refine does_wp A0 hR (by rw [hlo]; rfl) h1 h2 fun F2 b2 v2 hR2 hE2 => ?_
                rw [runOps] at h5
                generalize hst1 : dd.to st o1 = st1 at h5 hR2
                cases hd2 : okDst o2.dst st1.n
                · rw [hd2] at h5; cases h5
                · rw [hd2, cond_true] at h5
                  split at h5
                  · rename_i g first cap hclo
                    have hcv := ev_ok hR2 A0.glob x
                    rw [hclo] at hcv
                    simp only [VA] at hcv
                    obtain ⟨fs, cs, hval, hv1, hv2⟩ := hcv
                    have hfl : (first ++ cap).all AV.flat0 = true := by
                      unfold runD2 at h5
                      cases hf : (first ++ cap).all AV.flat0
                      · rw [hf] at h5; cases h5
                      · rfl
                    rw [wpOps_cons]
                    unfold wpOp
                    rw [hlo]
                    simp only [List.getElem?_cons_succ, List.getElem?_cons_zero]
                    have hg : o2.guard = none := by simpa using hc2
                    have hw : Region.wanted o2 (yielded ops b2.tmps) = true := by simp [Region.wanted, hg]
                    rw [if_pos hw]
                    refine .inl ?_
                    have hargs : k.args = #[] := by simpa using hc1
                    have hex : (execOp b2.eval o2).run P v2 = .ok (.defer { target := .fn (.func g) cs.toArray, args := fs.toArray }) v2 := by
                      unfold execOp
                      rw [hk]
                      simp only [resolve, hx, hval, hargs, Deferred.ofValue, Sem.run_bind, Sem.run_pure, Result.andThen_ok]
                      simp
                    unfold Oper.wp
                    rw [hex, Oper.upon_defer]
                    have hbd : b2.defers = [] := hR2.defers.trans hD
                    have hR3 : Rel (G.withD [{ target := .fn (.func g) cs.toArray, args := fs.toArray }]) F2 (st1.put o2.dst .undef) ({ b2 with defers := { target := .fn (.func g) cs.toArray, args := fs.toArray } :: b2.defers }.put o2.dst undef) v2 := by
                      rw [hbd]
                      exact (hR2.withD _).put hd2 (by simp [VA])
                    exact runD2_ok hD hfns A hC hL hCo rfl (hv1.append hv2) (hE.trans hE2) hR3 hfl h5
                  · cases h5
              · cases h5
            | ret => cases hk'
            | pan z => cases hk'
            | exit i => cases hk'
            | goto i => cases hk'
        · cases h
      · cases h
    · cases h
  · cases h

end
end Go.Ev
