/- Calls that hand over no memory. -/
import Derived.Test.YtkdbaijabnhniaaGreatDoorEvW
namespace Go.Ev

section
variable {P : Program} {G : Gl} {E : Env} {st : St} {a : Act} {w : World} {T : Tab} {C : Orc} {an : Ann}

theorem calleeOf_ok {f : AV} {args args' : List AV} {g : FuncId} {X : Value} {xs : List Value} (h : calleeOf f args = some (g, args')) (hf : VA E f X) (hv : VAs E args xs) :
    ∃ fs cs : List Value, X = .func (.func g) fs.toArray cs.toArray ∧ VAs E args' (fs ++ (xs ++ cs)) := by
  unfold calleeOf at h
  split at h
  · simp only [Option.some.injEq, Prod.mk.injEq] at h
    obtain ⟨rfl, rfl⟩ := h
    simp only [VA, VS] at hf
    exact ⟨[], [], hf, by simpa using hv⟩
  · simp only [Option.some.injEq, Prod.mk.injEq] at h
    obtain ⟨rfl, rfl⟩ := h
    simp only [VA] at hf
    obtain ⟨fs, cs, rfl, h1, h2⟩ := hf
    exact ⟨fs, cs, rfl, h1.append (hv.append h2)⟩
  · cases h

theorem exec_call (R : Rel G E st a w) (hG : an.glob = G.tab) {o : Oper} {c : Call} {f : Operand} (ho : o.op = .call c) (hc : c.callee = .value f) {args' : List AV} {g : FuncId}
    (h : calleeOf (st.ev an f) (c.args.toList.map (st.ev an)) = some (g, args')) : ∃ xs : List Value, (execOp a.eval o).run P w = (callFunc g xs.toArray).run P w ∧ VAs E args' xs := by
  obtain ⟨fs, cs, h1, h2⟩ := calleeOf_ok h (ev_ok R hG f) (evs_map R hG c.args.toList)
  refine ⟨_, ?_, h2⟩
  unfold execOp
  rw [ho]
  have e1 : c.args.map a.eval = (c.args.toList.map a.eval).toArray := Array.ext' (by simp)
  simp only [resolve, hc, h1, Deferred.ofValue, Sem.run_bind, Sem.run_pure, Result.andThen_ok, invoke, e1]
  simp

theorem PR.er_val {h : Heap} {ad : Bool} {id : Nat} : ∀ {p : PR} {l : Leaf}, (p.er h ad id).val = some l →
    (∃ v, p.val = some (.v v .none) ∧ v.okRes = true ∧ ((ad = false ∧ l = .v (fz2 v) .none) ∨ ∃ sz n f, ad = true ∧ v = .own sz n f ∧ l = .v (.sl id (newGen h id) sz 0 n) (.obj id ⟨newGen h id, .rows sz n f, none⟩))) ∨
    ∃ x, p.val = some (.pan x .none) ∧ l = .pan x .none
  | .ret v, l, hl => by
    simp only [PR.er] at hl
    cases hok : v.okRes
    · rw [hok] at hl; simp [ER.val] at hl
    · rw [hok, cond_true] at hl
      refine .inl ⟨v, rfl, hok, ?_⟩
      cases ad
      · rw [cond_false, ER.val_pv] at hl
        exact .inl ⟨rfl, hl⟩
      · rw [cond_true] at hl
        split at hl
        · simp only [mkRows, ER.val, Option.some.injEq] at hl
          exact .inr ⟨_, _, _, rfl, rfl, hl.symm⟩
        · simp [ER.val] at hl
  | .pan x, l, hl => by
    simp only [PR.er, ER.val, Option.some.injEq] at hl
    exact .inr ⟨x, rfl, hl.symm⟩
  | .br c p q, l, hl => by
    cases c
    · exact PR.er_val (p := q) hl
    · exact PR.er_val (p := p) hl
  | .fail, l, hl => by cases hl

/-- more memory that is known and stays -/
theorem Rel.ext (R : Rel G E st a w) {M' O' N : Nat → Option (List Value)} {v : World} (h : PEvo E.M w M' O' v) (h1 : ∀ b m, M' b = some m → N b = some m) (h2 : ∀ b m, N b = some m → M' b = some m ∨ O' b = some m) :
    Rel G { E with M := N } st a v ∧ Evo E w { E with M := N } v := by
  have le : EnvLe E { E with M := N } := ⟨fun b m q => h1 b m (h.le b m q), fun _ _ q => q, fun j g n q => ⟨g, n, q, Nat.le_refl _, fun _ => ⟨rfl, rfl⟩⟩, fun _ _ q => q⟩
  have new : ∀ b m, N b = some m → E.M b = some m ∨ w.heap.size ≤ b := fun b m q => (h2 b m q).elim (h.newM b m) fun q => .inr (h.newO b m q).1
  have hN : ∀ blk, Owned E blk → E.M blk = none → N blk = none := fun blk ho hm => by
    cases hq : N blk with
    | none => rfl
    | some m =>
      rcases new blk m hq with q | q
      · rw [hm] at q; cases q
      · have := R.lt blk ho; omega
  refine ⟨⟨fun i => VA.mono le _ _ (R.slots i), R.defers, R.size, ⟨fun j p hj => ?_, R.heap.non, fun j p hj => ?_⟩, fun d cs hd => ?_, R.boxN, fun b m q => ?_, R.own, ⟨fun d k q => ?_, fun j hj => ?_⟩, R.glob.mono le.M,
    fun k q => Nat.lt_of_lt_of_le (R.lt k q) h.size, R.new, R.nxb⟩, ⟨le.to0, h.size, fun k hb _ => h.keep k hb, fun _ q => .inl q, fun k m q => ?_, h.tape, h.os, h.output⟩⟩
  · have hr := R.heap.obj j p hj
    obtain ⟨n, hn⟩ := hr.I
    exact hr.mono le rfl rfl (h.keep _ (R.lt _ (.inr ⟨j, by simp [hn], rfl⟩)))
  · obtain ⟨n, hn⟩ := (R.heap.obj j p hj).I
    exact (R.heap.ty j p hj).mono rfl (h.keep _ (R.lt _ (.inr ⟨j, by simp [hn], rfl⟩)))
  · obtain ⟨k, q, r⟩ := R.box d cs hd
    exact ⟨k, q, r.mono le (h.keep _ (R.lt _ (.inl ⟨d, q⟩)))⟩
  · rcases h2 b m q with q | q
    · exact h.fz b m q
    · obtain ⟨_, _, c, e, z, hc, _, hm⟩ := h.newO b m q
      exact ⟨c, e, _, hc, hm⟩
  · have q' : E.B d = some k := q
    obtain ⟨a1, a2, a3⟩ := R.disj.box d k q'
    exact ⟨hN k (.inl ⟨d, q'⟩) a1, a2, a3⟩
  · obtain ⟨a1, a2⟩ := R.disj.obj j hj
    exact ⟨hN (E.blk j) (.inr ⟨j, hj, rfl⟩) a1, a2⟩
  · rcases new k m q with q | q
    · exact .inl q
    · exact .inr (.inr q)

/-- a block that is nobody's becomes a known one -/
theorem Rel.take (R : Rel G E st a w) (id : Nat) (o : HO) (n b p tot : Nat) (hg : o.gen = newGen st.h id) (hid : id < st.nx) (hb : ¬ Owned E b) (hbM : E.M b = none) (hbs : b < w.heap.size) (hoty : o.ty = none)
    (ho : ObjR (E.withObj id o.gen n b p tot) w id o) : Rel G (E.withObj id o.gen n b p tot) (st.app (.obj id o)) a w ∧ EnvLe E (E.withObj id o.gen n b p tot) ∧ ∀ blk, Owned (E.withObj id o.gen n b p tot) blk → Owned E blk ∨ blk = b := by
  generalize hF : E.withObj id o.gen n b p tot = F at ho ⊢
  have hI : ∀ j, j ≠ id → F.I j = E.I j := fun j hj => by subst hF; simp [Env.withObj, hj]
  have hP : ∀ j, j ≠ id → F.P j = E.P j := fun j hj => by subst hF; simp [Env.withObj, hj]
  have hFI : F.I id = some (o.gen, n) := by subst hF; exact Env.withObj_I ..
  have hFb : F.blk id = b := by subst hF; simp [Env.blk, Env.withObj_P]
  have hM : F.M = E.M := by subst hF; rfl
  have hO : F.O = E.O := by subst hF; rfl
  have hB : F.B = E.B := by subst hF; rfl
  have hgen : ∀ g m, E.I id = some (g, m) → g < o.gen := fun g m hgm => by
    rw [hg]
    unfold newGen
    cases hh : st.h id with
    | none => rw [R.heap.non id hh] at hgm; cases hgm
    | some q =>
      obtain ⟨k, hk⟩ := R.heap.gen hh
      rw [hk] at hgm
      injection hgm with hgm
      injection hgm with h1 h2
      simp; omega
  have le : EnvLe E F := by
    refine ⟨fun b m q => hM ▸ q, fun b m q => hO ▸ q, fun j g m q => ?_, fun d blk q => hB ▸ q⟩
    by_cases hj : j = id
    · subst hj
      have := hgen g m q
      exact ⟨o.gen, n, hFI, by omega, fun e => by omega⟩
    · exact ⟨g, m, (hI _ hj).trans q, Nat.le_refl _, fun _ => ⟨rfl, hP _ hj⟩⟩
  have hIs : ∀ j, j ≠ id → F.blk j = E.blk j := fun j hj => by simp only [Env.blk, hP j hj]
  have hown : ∀ blk, Owned F blk → Owned E blk ∨ blk = b := by
    rintro blk (⟨d, q⟩ | ⟨j, q, e⟩)
    · exact .inl (.inl ⟨d, hB ▸ q⟩)
    · by_cases hj : j = id
      · subst hj; exact .inr (e.symm.trans hFb)
      · exact .inl (.inr ⟨j, hI j hj ▸ q, (hIs j hj).symm.trans e⟩)
  refine ⟨⟨fun i => VA.mono le _ _ (R.slots i), R.defers, R.size, ⟨fun j q hj => ?_, fun j hj => ?_, fun j q hj => ?_⟩, fun d cs hd => ?_, fun d hd => hB ▸ R.boxN d hd, hM ▸ R.fz, hO ▸ R.own, ⟨fun d blk q => ?_, fun j hj => ?_⟩, hM ▸ R.glob,
    fun blk q => ?_, fun j hj => ?_, R.nxb⟩, le, hown⟩
  · simp only [St.app, Heap.upd_get] at hj
    by_cases e : j = id
    · subst e
      rw [beq_self, cond_true] at hj
      injection hj with hj
      subst hj
      exact ho
    · rw [beq_ne e, cond_false] at hj
      exact (R.heap.obj j q hj).mono le (hI j e) (hP j e) rfl
  · simp only [St.app, Heap.upd_get] at hj
    by_cases e : j = id
    · subst e; rw [beq_self, cond_true] at hj; cases hj
    · rw [beq_ne e, cond_false] at hj
      rw [hI j e]; exact R.heap.non j hj
  · simp only [St.app, Heap.upd_get] at hj
    by_cases e : j = id
    · subst e
      rw [beq_self, cond_true] at hj
      injection hj with hj
      subst hj
      exact .none hoty
    · rw [beq_ne e, cond_false] at hj
      exact (R.heap.ty j q hj).mono (hIs j e) rfl
  · obtain ⟨blk, q, r⟩ := R.box d cs hd
    exact ⟨blk, hB ▸ q, r.mono le rfl⟩
  · rw [hB] at q
    obtain ⟨h1, h2, h3⟩ := R.disj.box d blk q
    refine ⟨hM ▸ h1, fun d' q' => h2 d' (hB ▸ q'), fun j hj => ?_⟩
    by_cases e : j = id
    · subst e; rw [hFb]; intro q2; exact hb (q2 ▸ .inl ⟨d, q⟩)
    · rw [hIs j e]; exact h3 j (hI j e ▸ hj)
  · by_cases e : j = id
    · subst e
      refine ⟨by rw [hM, hFb]; exact hbM, fun j' hj' e' => ?_⟩
      by_cases e2 : j' = j
      · exact e2.symm
      · rw [hFb, hIs j' e2] at e'
        exact absurd (e' ▸ Or.inr ⟨j', hI j' e2 ▸ hj', rfl⟩) hb
    · have hj' := hI j e ▸ hj
      refine ⟨by rw [hM, hIs j e]; exact (R.disj.obj j hj').1, fun k hk' e' => ?_⟩
      by_cases e2 : k = id
      · subst e2
        rw [hIs j e, hFb] at e'
        exact absurd (e' ▸ Or.inr ⟨j, hj', rfl⟩) hb
      · exact (R.disj.obj j hj').2 k (hI k e2 ▸ hk') (by rw [← hIs j e, e', hIs k e2])
  · rcases hown blk q with q | q
    · exact R.lt blk q
    · exact q ▸ hbs
  · simp only [St.app, Heap.upd_get]
    have : j ≠ id := by simp only [St.app] at hj; omega
    rw [beq_ne this, cond_false]
    exact R.new j hj

theorem fz0_ok {M' O' N : Nat → Option (List Value)} {F : Env} (hFM : F.M = N) (h1 : ∀ b m, M' b = some m → N b = some m) (h2 : ∀ b m, O' b = some m → N b = some m) {v : AV} {y : Value} (hok : v.okRes0 = true) (h : VA (envP M' O') v y) : VA F (fz0 v) y := by
  subst hFM
  cases v with
  | own sz n f =>
    simp only [fz0, VA, VS, envP] at h ⊢
    obtain ⟨b, o, cap, m, rfl, h3, _, h4, h5⟩ := h
    exact ⟨b, o, cap, m, rfl, h3, h2 b m h4, fun i hi => ⟨(h5 i hi).1, VL.mono h1 _ _ (h5 i hi).2⟩⟩
  | s v => simp only [fz0, VA, envP] at h ⊢; exact VS.mono h1 _ _ h
  | ptr => simp only [VA, envP] at h; obtain ⟨_, _, _, h, _⟩ := h; cases h
  | sl => simp only [VA, envP] at h; obtain ⟨_, _, _, h, _⟩ := h; cases h
  | hm => simp only [VA, envP] at h; obtain ⟨_, _, _, h, _⟩ := h; cases h
  | _ => simp [AV.okRes0] at hok

theorem VAs.map {E F : Env} {g : AV → AV} {p : AV → Bool} (hg : ∀ v y, p v = true → VA E v y → VA F (g v) y) : ∀ {vs : List AV} {ys : List Value}, vs.all p = true → VAs E vs ys → VAs F (vs.map g) ys
  | [], ys, _, h => by simpa only [VAs, List.map_nil] using h
  | v :: vs, ys, hp, h => by
    simp only [List.all_cons, Bool.and_eq_true] at hp
    simp only [VAs, List.map_cons] at h ⊢
    obtain ⟨y, r, rfl, h1, h2⟩ := h
    exact ⟨y, r, rfl, hg v y hp.1 h1, VAs.map hg hp.2 h2⟩

theorem fz2_ok {M' O' N : Nat → Option (List Value)} {F : Env} (hFM : F.M = N) (h1 : ∀ b m, M' b = some m → N b = some m) (h2 : ∀ b m, O' b = some m → N b = some m) {v : AV} {y : Value} (hok : v.okRes = true) (h : VA (envP M' O') v y) : VA F (fz2 v) y := by
  have k0 := fun v y => fz0_ok (v := v) (y := y) hFM h1 h2
  have k1 : ∀ v y, v.okRes1 = true → VA (envP M' O') v y → VA F (fz1 v) y := by
    intro v y hok h
    cases v with
    | agg cs =>
      simp only [AV.okRes1] at hok
      simp only [fz1, VA] at h ⊢
      obtain ⟨ys, rfl, hv⟩ := h
      exact ⟨ys, rfl, hv.map k0 hok⟩
    | _ => exact k0 _ y (by simpa only [AV.okRes1] using hok) h
  cases v with
  | tup cs =>
    simp only [AV.okRes] at hok
    simp only [fz2, VA] at h ⊢
    obtain ⟨ys, rfl, hv⟩ := h
    exact ⟨ys, rfl, hv.map k1 hok⟩
  | _ => exact k1 _ y (by simpa only [AV.okRes] using hok) h

theorem VAs.still {E F : Env} (hM : F.M = E.M) {vs : List AV} {ys : List Value} (hs : vs.all AV.still = true) (h : VAs E vs ys) : VAs F vs ys := by
  have key : ∀ v y, v.still = true → VA E v y → VA F (id v) y := by
    intro v y hv h
    cases v with
    | s v => simp only [id, VA] at h ⊢; rw [hM]; exact h
    | agg cs =>
      simp only [AV.still, Option.isSome_iff_exists] at hv
      obtain ⟨ss, hss⟩ := hv
      have := allS_eq hss
      subst this
      simp only [id, VA] at h ⊢
      obtain ⟨ys, rfl, hl⟩ := h
      refine ⟨ys, rfl, ?_⟩
      clear hss
      induction ss generalizing ys with
      | nil => simpa only [VAs, List.map_nil] using hl
      | cons c cs ih =>
        simp only [VAs, List.map_cons, VA] at hl ⊢
        obtain ⟨y, r, rfl, h1, h2⟩ := hl
        exact ⟨y, r, rfl, hM ▸ h1, ih r h2⟩
    | _ => simp [AV.still] at hv
  have := VAs.map key hs h
  simpa using this

def SimL (P : Program) (G : Gl) (E : Env) (st : St) (a : Act) (w : World) (o : Oper) : Leaf → Prop
  | .v x u => SimV P G E st a w o x u
  | .pan x u => SimP P G E st a w o x u

/-- a call that hands over no memory -/
theorem pure_call (R : Rel G E st a w) {o : Oper} {g : FuncId} {args : List AV} {xs : List Value} {r : PR} {ad : Bool} {l : Leaf} (hd : okDst o.dst st.n = true) (hs : SoundP P G g args r) (hst : args.all AV.still = true) (hv : VAs E args xs)
    (he : (execOp a.eval o).run P w = (callFunc g xs.toArray).run P w) (hl : (r.er st.h ad (st.base + o.dst.getD 0)).val = some l) :
    SimL P G E st a w o l := by
  have hvs : VAs (envP E.M fun _ => none) args xs := VAs.still (E := E) (F := envP E.M fun _ => none) rfl hst hv
  rcases PR.er_val hl with ⟨v, hv1, hok, hcase⟩ | ⟨x, hx1, rfl⟩
  · have key := hs _ hv1 E.M w xs R.glob R.fz hvs
    rcases hcase with ⟨rfl, rfl⟩ | ⟨sz, n, f, rfl, rfl, rfl⟩
    · intro K Q hK
      unfold Oper.wp
      rw [he]
      refine key o a K Q (fun y v' hy => ?_) (fun ch v' hy => ?_)
      · obtain ⟨M', O', z, hp, e, hz⟩ := hy
        injection e with e
        subst e
        obtain ⟨hR, hE⟩ := R.ext (N := fun b => match M' b with | some m => some m | none => O' b) hp (fun b m q => by simp only [q]) (fun b m q => by
          cases hm : M' b with
          | none => simp only [hm] at q; exact .inr q
          | some m' => simp only [hm] at q; exact .inl q)
        refine hK _ y v' ?_ hR hE
        refine fz2_ok (M' := M') (O' := O') rfl (fun b m q => by simp only [q]) (fun b m q => ?_) hok hz
        simp only [(hp.newO b m q).2.1]
        exact q
      · obtain ⟨M', O', z, hp, e, hz⟩ := hy
        cases e
    · intro K Q hK
      unfold Oper.wp
      rw [he]
      refine key o a K Q (fun y v' hy => ?_) (fun ch v' hy => ?_)
      · obtain ⟨M', O', z, hp, e, hz⟩ := hy
        injection e with e
        subst e
        obtain ⟨hR, hE⟩ := R.ext (N := M') hp (fun b m q => q) (fun b m q => .inl q)
        simp only [VA, envP] at hz
        obtain ⟨b, p, cap, m, rfl, hlc, hcp, hOb, hrows⟩ := hz
        obtain ⟨hb1, hb2, c, e, z, hbc, hzc, hcm⟩ := hp.newO b m hOb
        have hbs : b < v'.heap.size := by
          rcases Nat.lt_or_ge b v'.heap.size with q | q
          · exact q
          · simp [Array.getElem?_eq_none q] at hbc
        have hno : ¬ Owned { E with M := M' } b := fun q => by
          have : Owned E b := q
          have := R.lt b this
          omega
        have hct : c.size = m.length := by rw [← hcm]; simp
        let p0 := if cap = 0 then 0 else p
        have hp0 : 0 < cap → p0 = p := fun h => if_neg (by omega)
        obtain ⟨h1, h2, h3⟩ := hR.take (st.base + o.dst.getD 0) ⟨newGen st.h (st.base + o.dst.getD 0), .rows sz n f, none⟩ n b p0 m.length rfl (dst_lt R hd) hno hb2 hbs rfl (by
          simp only [ObjR]
          refine ⟨Env.withObj_I .., ?_, c, e, z, ?_, hzc, ?_, fun i hi => ?_⟩
          · simp only [Env.bas, Env.tot, Env.withObj_P]
            rcases Nat.eq_zero_or_pos cap with q | q
            · have : n = 0 := by omega
              simp [p0, q, this]
            · rw [hp0 q]
              have := hcp q
              have : n * sz ≤ cap * sz := Nat.mul_le_mul_right _ hlc
              omega
          · simp only [Env.blk, Env.withObj_P]; exact hbc
          · simp only [Env.tot, Env.withObj_P]; exact hct
          · simp only [Env.bas, Env.withObj_P, hp0 (by omega), hcm]
            exact hrows i hi)
        refine hK _ _ v' ?_ h1 ⟨hE.le.trans h2.to0, hE.size, fun blk hblk hn => hE.keep blk hblk hn, fun blk q => ?_, fun blk m q => hE.frzS blk m q, hE.tape, hE.os, hE.output⟩
        · simp only [VA]
          refine ⟨⟨_, _, rfl, hlc⟩, _, _, Env.withObj_I .., Nat.le_refl _, fun _ => ⟨by omega, cap, p, hlc, ?_, fun q => ?_, ?_⟩⟩
          · simp only [Env.bas, Env.tot, Env.withObj_P, Nat.zero_add]
            rcases Nat.eq_zero_or_pos cap with q | q
            · simp [p0, q]
            · rw [hp0 q]; exact hcp q
          · simp only [Env.bas, Env.withObj_P, hp0 q]; omega
          · simp only [Env.blk, Env.withObj_P]
        · rcases h3 blk q with q | q
          · exact hE.ownS blk q
          · exact .inr (q ▸ hb1)
      · obtain ⟨M', O', z, hp, e, hz⟩ := hy
        cases e
  · have key := hs _ hx1 E.M w xs R.glob R.fz hvs
    intro K Q hK
    unfold Oper.wp
    rw [he]
    refine key o a K Q (fun y v' hy => ?_) (fun ch v' hy => ?_)
    · obtain ⟨M', O', z, hp, e, hz⟩ := hy
      cases e
    · obtain ⟨M', O', z, hp, e, hz⟩ := hy
      injection e with e
      subst e
      obtain ⟨hR, hE⟩ := R.ext (N := M') hp (fun b m q => q) (fun b m q => .inl q)
      exact hK _ z v' hz hR hE

end
end Go.Ev
