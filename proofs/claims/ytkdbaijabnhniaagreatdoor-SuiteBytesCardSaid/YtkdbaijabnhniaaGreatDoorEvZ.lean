/- Calls that hand over memory. -/
import Derived.Test.YtkdbaijabnhniaaGreatDoorEvY
namespace Go.Ev

inductive ILeaf where
  | ret (v : AV) (hs : List HO)
  | pan (v : SV) (hs : List HO)

def ILeaf.hs : ILeaf → List HO
  | .ret _ hs => hs
  | .pan _ hs => hs

def IR.val (h0 : List HO) : IR → Option ILeaf
  | .ret v hs => some (.ret v hs)
  | .qret v => some (.ret v h0)
  | .pan v hs => some (.pan v hs)
  | .br c a b => cond c (a.val h0) (b.val h0)
  | .fail => none

/-- what is known of memory that is handed over -/
structure Core (G : Gl) (E : Env) (h : Heap) (w : World) : Prop where
  heap : HR E h w
  fz : FOK E.M w
  own : E.O = fun _ => none
  box : E.B = fun _ => none
  disj : Disj E
  glob : GOK G E.M
  lt : ∀ blk, Owned E blk → blk < w.heap.size

def endI (G : Gl) (E : Env) (w : World) (l : ILeaf) (e : Ending) (w' : World) : Prop :=
  ∃ F, Core G F (heapOf l.hs) w' ∧ Evo E w F w' ∧ match l with
    | .ret v _ => ∃ y, e = .returned y ∧ VA F v y
    | .pan x _ => ∃ X, e = .panicked [{ v := X, recovered := false }] ∧ VS F.M x X

def SoundI (P : Program) (G : Gl) (f : FuncId) (args : List AV) (hs : List HO) (r : IR) : Prop :=
  ∀ l, r.val hs = some l → ∀ E w xs, Core G E (heapOf hs) w → VAs E args xs → Invokes P f xs.toArray w (endI G E w l)

section
variable {P : Program} {G : Gl} {E : Env} {st : St} {a : Act} {w : World} {T : Tab} {C : Orc} {an : Ann}

/-- the part that is handed over, by its own numbers -/
def subEnv (E : Env) (ids : List Nat) : Env :=
  { M := E.M, O := fun _ => none, I := fun k => match ids[k]? with | some i => E.I i | none => none, P := fun k => match ids[k]? with | some i => E.P i | none => (0, 0, 0), B := fun _ => none }

theorem subEnv_at {ids : List Nat} {k i : Nat} (h : ids[k]? = some i) : (subEnv E ids).I k = E.I i ∧ (subEnv E ids).P k = E.P i := by simp [subEnv, h]

theorem subEnv_some {ids : List Nat} {k : Nat} (h : ((subEnv E ids).I k).isSome = true) : ∃ i, ids[k]? = some i ∧ (E.I i).isSome = true ∧ (subEnv E ids).blk k = E.blk i := by
  cases hk : ids[k]? with
  | none => simp [subEnv, hk] at h
  | some i => exact ⟨i, rfl, by simpa [subEnv, hk] using h, by simp [Env.blk, subEnv, hk]⟩

theorem subEnv_own {ids : List Nat} {blk : Nat} (h : Owned (subEnv E ids) blk) : ∃ i ∈ ids, (E.I i).isSome = true ∧ E.blk i = blk := by
  rcases h with ⟨d, h⟩ | ⟨k, h, e⟩
  · cases h
  · obtain ⟨i, h1, h2, h3⟩ := subEnv_some h
    exact ⟨i, List.mem_of_getElem? h1, h2, h3.symm.trans e⟩

theorem sub_core (R : Rel G E st a w) {ids : List Nat} {hs hs' : List HO} (hn : ids.Nodup) (h1 : mapO st.h.get ids = some hs) (h2 : mapO (renO (idxIn ids 0)) hs = some hs') : Core G (subEnv E ids) (heapOf hs') w := by
  have hσ : ∀ i k, idxIn ids 0 i = some k → (subEnv E ids).I k = E.I i ∧ (subEnv E ids).P k = E.P i := fun i k h => by
    obtain ⟨_, h⟩ := idxIn_get h
    exact subEnv_at h
  refine ⟨⟨fun k o hk => ?_, fun k hk => ?_, fun k o hk => ?_⟩, R.fz, rfl, rfl, ⟨fun d blk h => (nomatch h), fun k hk => ?_⟩, R.glob, fun blk h => ?_⟩
  · rw [heapOf_eq] at hk
    have hlt : k < ids.length := by
      rw [← mapO_len h1, ← mapO_len h2]
      exact (List.getElem?_eq_some_iff.1 hk).1
    have hid : ids[k]? = some ids[k] := List.getElem?_eq_getElem hlt
    obtain ⟨p, hp1, hp2⟩ := mapO_get h1 hid
    obtain ⟨q, hq1, hq2⟩ := mapO_get h2 hp2
    rw [hk] at hq2
    injection hq2 with hq2
    subst hq2
    obtain ⟨e1, e2⟩ := subEnv_at (E := E) hid
    exact renO_ok (E := E) (F := subEnv E ids) rfl hσ e1 e2 hq1 (R.heap.obj _ _ hp1)
  · rw [heapOf_eq] at hk
    have hlt : ids.length ≤ k := by
      rw [← mapO_len h1, ← mapO_len h2]
      exact List.getElem?_eq_none_iff.1 hk
    simp [subEnv, List.getElem?_eq_none hlt]
  · rw [heapOf_eq] at hk
    have hlt : k < ids.length := by
      rw [← mapO_len h1, ← mapO_len h2]
      exact (List.getElem?_eq_some_iff.1 hk).1
    have hid : ids[k]? = some ids[k] := List.getElem?_eq_getElem hlt
    obtain ⟨p, hp1, hp2⟩ := mapO_get h1 hid
    obtain ⟨q, hq1, hq2⟩ := mapO_get h2 hp2
    rw [hk] at hq2
    injection hq2 with hq2
    subst hq2
    obtain ⟨e1, e2⟩ := subEnv_at (E := E) hid
    exact (R.heap.ty _ _ hp1).ren (renO_ty hq1) (by simp only [Env.blk, e2])
  · obtain ⟨i, e1, e2, e3⟩ := subEnv_some hk
    obtain ⟨d1, d2⟩ := R.disj.obj i e2
    refine ⟨by rw [e3]; exact d1, fun k' hk' he => ?_⟩
    obtain ⟨i', f1, f2, f3⟩ := subEnv_some hk'
    have := d2 i' f2 (by rw [← e3, he, f3])
    subst this
    have g1 := idxIn_of hn e1
    have g2 := idxIn_of hn f1
    rw [g1] at g2
    injection g2
  · obtain ⟨i, _, h1, h2⟩ := subEnv_own h
    exact R.lt blk (.inr ⟨i, h1, h2⟩)

/-- behind the call: the caller's memory with what came back -/
def backEnv (E F : Env) (back : List Nat) : Env :=
  { M := F.M, O := fun _ => none, B := E.B, I := fun i => match idxIn back 0 i with | some k => F.I k | none => E.I i, P := fun i => match idxIn back 0 i with | some k => F.P k | none => E.P i }

theorem back_rel (R : Rel G E st a w) {F : Env} {v : World} {ids : List Nat} {hs' hs'' : List HO} (hn : ids.Nodup) (hin : ∀ i ∈ ids, ∃ o, st.h i = some o) (hlen : ids.length ≤ hs'.length)
    (hC : Core G F (heapOf hs') v) (hE : Evo (subEnv E ids) w F v) (hr : mapO (renO (nthN (backIds ids st.nx hs'.length))) hs' = some hs'') :
    Rel G (backEnv E F (backIds ids st.nx hs'.length)) (st.app (.objs (zipN (backIds ids st.nx hs'.length) hs'') (st.nx + (hs'.length - ids.length)))) a v ∧ Evo E w (backEnv E F (backIds ids st.nx hs'.length)) v ∧
      (∀ i k, nthN (backIds ids st.nx hs'.length) i = some k → (backEnv E F (backIds ids st.nx hs'.length)).I k = F.I i ∧ (backEnv E F (backIds ids st.nx hs'.length)).P k = F.P i) := by
  generalize hbk : backIds ids st.nx hs'.length = back at hr ⊢
  have hltn : ∀ i ∈ ids, i < st.nx := fun i hi => by
    obtain ⟨o, ho⟩ := hin i hi
    exact hid_of R ho
  have hblen : back.length = hs'.length := by
    subst hbk
    simp only [backIds, List.length_append, rangeN_len]
    omega
  have hbn : back.Nodup := by
    subst hbk
    refine List.nodup_append.2 ⟨hn, rangeN_nodup _ _, fun x hx y hy => ?_⟩
    have := hltn x hx
    have := rangeN_mem.1 hy
    omega
  have hmem : ∀ i, i ∈ back → i ∈ ids ∨ st.nx ≤ i ∧ i < st.nx + (hs'.length - ids.length) := fun i hi => by
    subst hbk
    rcases List.mem_append.1 hi with q | q
    · exact .inl q
    · exact .inr (rangeN_mem.1 q)
  have hsub : ∀ i ∈ ids, i ∈ back := fun i hi => by subst hbk; exact List.mem_append_left _ hi
  have hidx : ∀ k i, back[k]? = some i → k < ids.length → ids[k]? = some i := fun k i h hk => by
    subst hbk
    rwa [backIds, List.getElem?_append_left hk] at h
  have hnew : ∀ k i, back[k]? = some i → i ∈ ids → k < ids.length := fun k i h hi => by
    subst hbk
    rcases Nat.lt_or_ge k ids.length with q | q
    · exact q
    · rw [backIds, List.getElem?_append_right q] at h
      have := rangeN_mem.1 (List.mem_of_getElem? h)
      have := hltn i hi
      omega
  have hI : ∀ k i, back[k]? = some i → (backEnv E F back).I i = F.I k ∧ (backEnv E F back).P i = F.P k := fun k i h => by
    simp [backEnv, idxIn_of hbn h]
  have hIo : ∀ i, i ∉ back → (backEnv E F back).I i = E.I i ∧ (backEnv E F back).P i = E.P i := fun i h => by
    simp [backEnv, idxIn_none.2 h]
  have hIn : ∀ i, i ∈ back → ∃ k, back[k]? = some i ∧ k < hs'.length := fun i hi => by
    obtain ⟨k, hk, e⟩ := List.mem_iff_getElem.1 hi
    exact ⟨k, by rw [List.getElem?_eq_getElem hk, e], hblen ▸ hk⟩
  have hown0 : ∀ blk, Owned (subEnv E ids) blk → Owned E blk := fun blk h => by
    obtain ⟨i, _, h1, h2⟩ := subEnv_own h
    exact .inr ⟨i, h1, h2⟩
  have hEI : ∀ i, (E.I i).isSome = true → i ∈ back → i ∈ ids := fun i h1 h2 => by
    rcases hmem i h2 with q | q
    · exact q
    · obtain ⟨o, ho⟩ := R.heap.isSome h1
      have := hid_of R ho
      omega
  have hnotsub : ∀ i, (E.I i).isSome = true → i ∉ back → ¬ Owned (subEnv E ids) (E.blk i) := fun i h1 h2 h3 => by
    obtain ⟨j, hj, h4, h5⟩ := subEnv_own h3
    have := (R.disj.obj i h1).2 j h4 h5.symm
    subst this
    exact h2 (hsub _ hj)
  have hnotbox : ∀ d blk, E.B d = some blk → ¬ Owned (subEnv E ids) blk := fun d blk h1 h3 => by
    obtain ⟨j, hj, h4, h5⟩ := subEnv_own h3
    exact (R.disj.box d blk h1).2.2 j h4 h5
  have hblkN : ∀ i, i ∉ back → (backEnv E F back).blk i = E.blk i := fun i h => by simp only [Env.blk, (hIo i h).2]
  have hblkI : ∀ k i, back[k]? = some i → (backEnv E F back).blk i = F.blk k := fun k i h => by simp only [Env.blk, (hI k i h).2]
  have hM : (backEnv E F back).M = F.M := rfl
  have le : EnvLe E (backEnv E F back) := by
    refine ⟨fun b m q => hE.le.M b m q, fun b m q => ?_, fun i g n q => ?_, fun d blk q => q⟩
    · rw [R.own] at q; cases q
    · by_cases hi : i ∈ back
      · obtain ⟨k, hk, _⟩ := hIn i hi
        have hids := hEI i (by simp [q]) hi
        have hk2 := hidx k i hk (hnew k i hk hids)
        obtain ⟨e1, e2⟩ := subEnv_at (E := E) hk2
        obtain ⟨g', n', q1, q2, q3⟩ := hE.le.I k g n (e1.trans q)
        obtain ⟨f1, f2⟩ := hI k i hk
        exact ⟨g', n', f1.trans q1, q2, fun e => ⟨(q3 e).1, f2.trans ((q3 e).2.trans e2)⟩⟩
      · obtain ⟨f1, f2⟩ := hIo i hi
        exact ⟨g, n, f1.trans q, Nat.le_refl _, fun _ => ⟨rfl, f2⟩⟩
  have hσ : ∀ i k, nthN back i = some k → (backEnv E F back).I k = F.I i ∧ (backEnv E F back).P k = F.P i := fun i k h => by
    rw [nthN_eq] at h
    exact hI i k h
  have hown : ∀ blk, Owned (backEnv E F back) blk → Owned E blk ∨ w.heap.size ≤ blk := by
    rintro blk (⟨d, q⟩ | ⟨i, q, e⟩)
    · exact .inl (.inl ⟨d, q⟩)
    · by_cases hi : i ∈ back
      · obtain ⟨k, hk, _⟩ := hIn i hi
        rw [(hI k i hk).1] at q
        rw [hblkI k i hk] at e
        exact (hE.ownS blk (.inr ⟨k, q, e⟩)).imp (hown0 blk) (fun x => x)
      · rw [(hIo i hi).1] at q
        rw [hblkN i hi] at e
        exact .inl (.inr ⟨i, q, e⟩)
  have hfrz : ∀ blk m, F.M blk = some m → E.M blk = some m ∨ Owned (subEnv E ids) blk ∨ w.heap.size ≤ blk := fun blk m q => hE.frzS blk m q
  have hMn : ∀ blk, E.M blk = none → ¬ Owned (subEnv E ids) blk → blk < w.heap.size → F.M blk = none := fun blk h1 h2 h3 => by
    cases q : F.M blk with
    | none => rfl
    | some m =>
      rcases hfrz blk m q with q | q | q
      · rw [h1] at q; cases q
      · exact absurd q h2
      · omega
  refine ⟨⟨fun i => VA.mono le _ _ (R.slots i), R.defers, R.size, ⟨fun i o hi => ?_, fun i hi => ?_, fun i o hi => ?_⟩, fun d cs hd => ?_, R.boxN, hC.fz, rfl, ⟨fun d blk q => ?_, fun i hi => ?_⟩, hC.glob, fun blk q => ?_, fun i hi => ?_, ?_⟩,
    ⟨le.to0, hE.size, fun blk hb hno => hE.keep blk hb fun q => hno (hown0 blk q), hown, fun blk m q => (hfrz blk m q).imp (fun x => x) fun q => q.imp (hown0 blk) (fun x => x), hE.tape, hE.os, hE.output⟩, hσ⟩
  · simp only [St.app] at hi
    by_cases hb : i ∈ back
    · obtain ⟨k, hk, hk2⟩ := hIn i hb
      have hq : hs'[k]? = some hs'[k] := List.getElem?_eq_getElem hk2
      obtain ⟨p, hp1, hp2⟩ := mapO_get hr hq
      rw [updL_zip hbn hk hp2] at hi
      injection hi with hi
      subst hi
      obtain ⟨f1, f2⟩ := hI k i hk
      exact renO_ok (E := F) (F := backEnv E F back) rfl hσ f1 f2 hp1 (hC.heap.obj k _ (by rw [heapOf_eq]; exact hq))
    · rw [updL_zip_other hb] at hi
      have ho := R.heap.obj i o hi
      obtain ⟨n, hn'⟩ := ho.I
      obtain ⟨f1, f2⟩ := hIo i hb
      exact ho.mono le f1 f2 (hE.keep _ (R.lt _ (.inr ⟨i, by simp [hn'], rfl⟩)) (hnotsub i (by simp [hn']) hb))
  · simp only [St.app] at hi
    by_cases hb : i ∈ back
    · obtain ⟨k, hk, hk2⟩ := hIn i hb
      have hq : hs'[k]? = some hs'[k] := List.getElem?_eq_getElem hk2
      obtain ⟨p, hp1, hp2⟩ := mapO_get hr hq
      rw [updL_zip hbn hk hp2] at hi
      cases hi
    · rw [updL_zip_other hb] at hi
      rw [(hIo i hb).1]
      exact R.heap.non i hi
  · simp only [St.app] at hi
    by_cases hb : i ∈ back
    · obtain ⟨k, hk, hk2⟩ := hIn i hb
      have hq : hs'[k]? = some hs'[k] := List.getElem?_eq_getElem hk2
      obtain ⟨p, hp1, hp2⟩ := mapO_get hr hq
      rw [updL_zip hbn hk hp2] at hi
      injection hi with hi
      subst hi
      obtain ⟨f1, f2⟩ := hI k i hk
      exact (hC.heap.ty k _ (by rw [heapOf_eq]; exact hq)).ren (renO_ty hp1) (by simp only [Env.blk, f2])
    · rw [updL_zip_other hb] at hi
      obtain ⟨n, hn'⟩ := (R.heap.obj i o hi).I
      obtain ⟨f1, f2⟩ := hIo i hb
      exact (R.heap.ty i o hi).mono (by simp only [Env.blk, f2]) (hE.keep _ (R.lt _ (.inr ⟨i, by simp [hn'], rfl⟩)) (hnotsub i (by simp [hn']) hb))
  · obtain ⟨blk, q, r⟩ := R.box d cs hd
    exact ⟨blk, q, r.mono le (hE.keep _ (R.lt _ (.inl ⟨d, q⟩)) (hnotbox d blk q))⟩
  · have q : E.B d = some blk := q
    obtain ⟨d1, d2, d3⟩ := R.disj.box d blk q
    have hlt := R.lt blk (.inl ⟨d, q⟩)
    refine ⟨hMn blk d1 (hnotbox d blk q) hlt, d2, fun i hi => ?_⟩
    by_cases hb : i ∈ back
    · obtain ⟨k, hk, _⟩ := hIn i hb
      rw [(hI k i hk).1] at hi
      rw [hblkI k i hk]
      intro e
      rcases hE.ownS blk (.inr ⟨k, hi, e⟩) with q2 | q2
      · exact hnotbox d blk q q2
      · omega
    · rw [(hIo i hb).1] at hi
      rw [hblkN i hb]
      exact d3 i hi
  · by_cases hb : i ∈ back
    · obtain ⟨k, hk, _⟩ := hIn i hb
      rw [(hI k i hk).1] at hi
      rw [hblkI k i hk]
      obtain ⟨d1, d2⟩ := hC.disj.obj k hi
      refine ⟨d1, fun j hj e => ?_⟩
      by_cases hb2 : j ∈ back
      · obtain ⟨k2, hk2, _⟩ := hIn j hb2
        rw [(hI k2 j hk2).1] at hj
        rw [hblkI k2 j hk2] at e
        have := d2 k2 hj e
        subst this
        rw [hk] at hk2
        injection hk2
      · rw [(hIo j hb2).1] at hj
        rw [hblkN j hb2] at e
        exfalso
        rcases hE.ownS (F.blk k) (.inr ⟨k, hi, rfl⟩) with q | q
        · rw [e] at q; exact hnotsub j hj hb2 q
        · have := R.lt (E.blk j) (.inr ⟨j, hj, rfl⟩); omega
    · rw [(hIo i hb).1] at hi
      rw [hblkN i hb]
      obtain ⟨d1, d2⟩ := R.disj.obj i hi
      have hlt := R.lt (E.blk i) (.inr ⟨i, hi, rfl⟩)
      refine ⟨hMn _ d1 (hnotsub i hi hb) hlt, fun j hj e => ?_⟩
      by_cases hb2 : j ∈ back
      · obtain ⟨k2, hk2, _⟩ := hIn j hb2
        rw [(hI k2 j hk2).1] at hj
        rw [hblkI k2 j hk2] at e
        exfalso
        rcases hE.ownS (F.blk k2) (.inr ⟨k2, hj, rfl⟩) with q | q
        · rw [← e] at q; exact hnotsub i hi hb q
        · omega
      · rw [(hIo j hb2).1] at hj
        rw [hblkN j hb2] at e
        exact d2 j hj e
  · rcases q with ⟨d, q⟩ | ⟨i, q, e⟩
    · exact Nat.lt_of_lt_of_le (R.lt blk (.inl ⟨d, q⟩)) hE.size
    · by_cases hb : i ∈ back
      · obtain ⟨k, hk, _⟩ := hIn i hb
        rw [(hI k i hk).1] at q
        rw [hblkI k i hk] at e
        exact hC.lt blk (.inr ⟨k, q, e⟩)
      · rw [(hIo i hb).1] at q
        rw [hblkN i hb] at e
        exact Nat.lt_of_lt_of_le (R.lt blk (.inr ⟨i, q, e⟩)) hE.size
  · simp only [St.app] at hi ⊢
    have hb : i ∉ back := fun q => by
      rcases hmem i q with q | q
      · have := hltn i q; omega
      · omega
    rw [updL_zip_other hb]
    exact R.new i (by omega)
  · have := R.nxb
    simp only [St.app]
    omega

theorem Rel.heap_eq {st' : St} (R : Rel G E st' a w) (hs : st.s = st'.s) (hb : st.b = st'.b) (hh : ∀ i, st.h.get i = st'.h.get i) (hbase : st.base = st'.base) (hnx : st.nx = st'.nx) (hn : st.n = st'.n) : Rel G E st a w :=
  ⟨fun i => by rw [hs]; exact R.slots i, R.defers, by rw [hn]; exact R.size, ⟨fun i o h => R.heap.obj i o (hh i ▸ h), fun i h => R.heap.non i (hh i ▸ h), fun i o h => R.heap.ty i o (hh i ▸ h)⟩, by rw [hb]; exact R.box, by rw [hb]; exact R.boxN,
    R.fz, R.own, R.disj, R.glob, R.lt, fun i h => by rw [hh]; exact R.new i (hnx ▸ h), by rw [hbase, hn, hnx]; exact R.nxb⟩

theorem ren0_back {ids : List Nat} {v v' : AV} (h : ren0 (idxIn ids 0) v = some v') : ren0 (nthN ids) v' = some v := by
  have key : ∀ {i j : Nat}, idxIn ids 0 i = some j → nthN ids j = some i := fun h => by
    obtain ⟨_, h⟩ := idxIn_get h
    rw [nthN_eq]
    simpa using h
  unfold ren0 at h
  split at h
  · cases h; rfl
  all_goals first
    | (split at h
       · rename_i j hj
         cases h
         simp only [ren0, key hj]
       · cases h)
    | cases h

theorem mapO_rt {α β : Type} {f : α → Option β} {g : β → Option α} (hfg : ∀ x y, f x = some y → g y = some x) : ∀ {l : List α} {r : List β}, mapO f l = some r → mapO g r = some l
  | [], r, h => by simp only [mapO, Option.some.injEq] at h; subst h; rfl
  | x :: xs, r, h => by
    simp only [mapO] at h
    split at h
    · rename_i y ys h1 h2
      injection h with h
      subst h
      simp only [mapO, hfg _ _ h1, mapO_rt hfg h2]
    · cases h

theorem ren1_back {ids : List Nat} {v v' : AV} (h : ren1 (idxIn ids 0) v = some v') : ren1 (nthN ids) v' = some v := by
  unfold ren1 at h
  split at h
  · split at h
    · rename_i a b h1 h2
      cases h
      simp only [ren1, mapO_rt (fun _ _ => ren0_back) h1, mapO_rt (fun _ _ => ren0_back) h2]
    · cases h
  · rename_i hne
    have h2 := ren0_back h
    unfold ren0 at h
    split at h
    · cases h; exact h2
    all_goals first
      | (split at h
         · cases h; exact h2
         · cases h)
      | cases h

theorem renO_back {ids : List Nat} {o o' : HO} (h : renO (idxIn ids 0) o = some o') : renO (nthN ids) o' = some o := by
  unfold renO at h
  split at h
  · rename_i cs hp
    split at h
    · rename_i cs' h1
      cases h
      simp only [renO, mapO_rt (fun _ _ => ren1_back) h1]
      cases o
      simp only at hp
      subst hp
      rfl
    · cases h
  · rename_i hne
    cases h
    unfold renO
    split
    · rename_i cs hp
      exact absurd hp (hne cs)
    · rfl

theorem mapO_back {ids : List Nat} {hs hs' : List HO} (h : mapO (renO (idxIn ids 0)) hs = some hs') : mapO (renO (nthN ids)) hs' = some hs := mapO_rt (fun _ _ => renO_back) h

theorem IR.er_val {h0 : List HO} {ids : List Nat} {nx : Nat} : ∀ {r : IR} {l : Leaf}, (r.er ids nx).val = some l →
    (∃ v v', r.val h0 = some (.ret v h0) ∧ ren3 (nthN ids) v = some v' ∧ l = .v v' .none) ∨
    (∃ v hs v' hs'', r.val h0 = some (.ret v hs) ∧ ren3 (nthN (backIds ids nx hs.length)) v = some v' ∧ mapO (renO (nthN (backIds ids nx hs.length))) hs = some hs'' ∧ ids.length ≤ hs.length ∧
      l = .v v' (.objs (zipN (backIds ids nx hs.length) hs'') (nx + (hs.length - ids.length)))) ∨
    ∃ v hs hs'', r.val h0 = some (.pan v hs) ∧ mapO (renO (nthN (backIds ids nx hs.length))) hs = some hs'' ∧ ids.length ≤ hs.length ∧ l = .pan v (.objs (zipN (backIds ids nx hs.length) hs'') (nx + (hs.length - ids.length)))
  | .ret v hs, l, h => by
    simp only [IR.er] at h
    split at h
    · rename_i v' hs'' h1 h2
      cases hb : (Nat.ble ids.length hs.length && v'.okRes)
      · rw [hb] at h; simp [ER.val] at h
      · rw [hb, cond_true] at h
        simp only [Bool.and_eq_true] at hb
        simp only [ER.val, Option.some.injEq] at h
        exact .inr (.inl ⟨v, hs, v', hs'', rfl, h1, h2, Nat.le_of_ble_eq_true hb.1, h.symm⟩)
    · simp [ER.val] at h
  | .qret v, l, h => by
    simp only [IR.er] at h
    split at h
    · rename_i v' h1
      cases hb : v'.okRes
      · rw [hb] at h; simp [ER.val] at h
      · rw [hb, cond_true] at h
        simp only [ER.val, Option.some.injEq] at h
        exact .inl ⟨v, v', rfl, h1, h.symm⟩
    · simp [ER.val] at h
  | .pan v hs, l, h => by
    simp only [IR.er] at h
    split at h
    · rename_i hs'' h2
      cases hb : Nat.ble ids.length hs.length
      · rw [hb] at h; simp [ER.val] at h
      · rw [hb, cond_true] at h
        simp only [ER.val, Option.some.injEq] at h
        exact .inr (.inr ⟨v, hs, hs'', rfl, h2, Nat.le_of_ble_eq_true hb, h.symm⟩)
    · simp [ER.val] at h
  | .br c p q, l, h => by
    cases c
    · exact IR.er_val (r := q) h
    · exact IR.er_val (r := p) h
  | .fail, l, h => by cases h

theorem imp_call (R : Rel G E st a w) {o : Oper} {g : FuncId} {args : List AV} {xs : List Value} {ids : List Nat} {l : Leaf} (hs : ∀ args hs, SoundI P G g args hs (C.imp g args hs)) (hv : VAs E args xs)
    (he : (execOp a.eval o).run P w = (callFunc g xs.toArray).run P w) (hl : (impCall C st.h st.nx ids g args).val = some l) :
    SimL P G E st a w o l := by
  unfold impCall at hl
  split at hl
  · rename_i args' hs0 h1 h2
    split at hl
    · rename_i hs' h3
      cases hn : nodupN ids
      · rw [hn] at hl; simp [ER.val] at hl
      rw [hn, cond_true] at hl
      have hn := nodupN_ok hn
      have hσ : ∀ i k, idxIn ids 0 i = some k → (subEnv E ids).I k = E.I i ∧ (subEnv E ids).P k = E.P i := fun i k h => by
        obtain ⟨_, h⟩ := idxIn_get h
        exact subEnv_at h
      have hcore := sub_core R hn h2 h3
      have hxs : VAs (subEnv E ids) args' xs := mapO_VAs (fun _ _ _ => ren2_ok (E := E) (F := subEnv E ids) rfl hσ) h1 hv
      have hin : ∀ i ∈ ids, ∃ o, st.h i = some o := fun i hi => by
        obtain ⟨k, hk, e⟩ := List.mem_iff_getElem.1 hi
        obtain ⟨y, hy, _⟩ := mapO_get h2 (List.getElem?_eq_getElem hk)
        exact ⟨y, e ▸ hy⟩
      rcases IR.er_val (h0 := hs') hl with ⟨v, v', k1, k2, rfl⟩ | ⟨v, hs1, v', hs2, k1, k2, k3, k4, rfl⟩ | ⟨v, hs1, hs2, k1, k3, k4, rfl⟩
      · have key := hs args' hs' _ k1 _ w xs hcore hxs
        have hlen : hs'.length = ids.length := by rw [mapO_len h3, mapO_len h2]
        have hbk : backIds ids st.nx hs'.length = ids := by simp [backIds, hlen, rangeN]
        have k3 := mapO_back h3
        intro K Q hK
        unfold Oper.wp
        rw [he]
        refine key o a K Q (fun y v2 hy => ?_) (fun ch v2 hy => ?_)
        · obtain ⟨F, hC, hE, z, e, hz⟩ := hy
          injection e with e
          subst e
          obtain ⟨q1, q2, q3⟩ := back_rel R hn hin (Nat.le_of_eq hlen.symm) hC hE (by rw [hbk]; exact k3)
          rw [hbk] at q1 q2 q3
          refine hK (backEnv E F ids) y v2 (ren3_ok (E := F) (F := backEnv E F ids) rfl q3 k2 hz) ?_ q2
          refine q1.heap_eq rfl rfl (fun i => ?_) rfl (by simp [St.app, hlen]) rfl
          simp only [St.app]
          by_cases hi : i ∈ ids
          · obtain ⟨k, hk, e⟩ := List.mem_iff_getElem.1 hi
            have hk' : ids[k]? = some i := by rw [List.getElem?_eq_getElem hk, e]
            obtain ⟨p, hp1, hp2⟩ := mapO_get h2 hk'
            rw [updL_zip hn hk' hp2, hp1]
          · rw [updL_zip_other hi]
        · obtain ⟨F, hC, hE, z, e, hz⟩ := hy
          cases e
      · have key := hs args' hs' _ k1 _ w xs hcore hxs
        intro K Q hK
        unfold Oper.wp
        rw [he]
        refine key o a K Q (fun y v2 hy => ?_) (fun ch v2 hy => ?_)
        · obtain ⟨F, hC, hE, z, e, hz⟩ := hy
          injection e with e
          subst e
          obtain ⟨q1, q2, q3⟩ := back_rel R hn hin k4 hC hE k3
          exact hK (backEnv E F (backIds ids st.nx hs1.length)) y v2 (ren3_ok (E := F) (F := backEnv E F (backIds ids st.nx hs1.length)) rfl q3 k2 hz) q1 q2
        · obtain ⟨F, hC, hE, z, e, hz⟩ := hy
          cases e
      · have key := hs args' hs' _ k1 _ w xs hcore hxs
        intro K Q hK
        unfold Oper.wp
        rw [he]
        refine key o a K Q (fun y v2 hy => ?_) (fun ch v2 hy => ?_)
        · obtain ⟨F, hC, hE, z, e, hz⟩ := hy
          cases e
        · obtain ⟨F, hC, hE, z, e, hz⟩ := hy
          injection e with e
          subst e
          obtain ⟨q1, q2, q3⟩ := back_rel R hn hin k4 hC hE k3
          exact hK (backEnv E F (backIds ids st.nx hs1.length)) z v2 hz q1 q2
    · simp [ER.val] at hl
  · simp [ER.val] at hl

/-- the oracles speak the truth -/
structure OrcOK (P : Program) (G : Gl) (C : Orc) : Prop where
  pure : ∀ f args, SoundP P G f args (C.pure f args)
  imp : ∀ f args hs, SoundI P G f args hs (C.imp f args hs)

theorem callOK (hC : OrcOK P G C) (hG : an.glob = G.tab) : CallOK P G T C an := by
  intro E st a w o R hc hd
  have key : ∀ l, (st.evalOp T C an o).val = some l → SimL P G E st a w o l := by
    intro l hl
    unfold isCall at hc
    split at hc
    · rename_i c ho
      split at hc
      · rename_i f hf
        unfold St.evalOp evalOp at hl
        simp only [ho, hf] at hl
        unfold opCall at hl
        split at hl
        · rename_i g args hg
          obtain ⟨xs, he, hv⟩ := exec_call (P := P) R hG ho hf hg
          cases hok : args.all AV.okArg
          · rw [hok] at hl; simp [ER.val] at hl
          rw [hok, cond_true] at hl
          split at hl
          · exact imp_call R (fun args hs => hC.imp g args hs) hv he hl
          · rename_i hne
            cases hst : args.all AV.still
            · rw [hst, cond_false] at hne; exact absurd rfl hne
            · rw [hst, cond_true] at hl
              exact pure_call R hd (hC.pure g args) hst hv he hl
        · simp [ER.val] at hl
      · cases hc
    · cases hc
  exact ⟨fun x u h => key _ h, fun x u h => key _ h⟩

end
end Go.Ev
