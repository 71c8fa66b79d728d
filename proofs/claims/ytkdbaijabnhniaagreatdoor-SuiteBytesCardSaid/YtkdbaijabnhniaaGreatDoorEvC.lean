/- States: how slots, boxes and heap relate to the model's, and how that goes on. -/
import Derived.Test.YtkdbaijabnhniaaGreatDoorEvB
import Derived.Laws.Cells
import Derived.Laws.CopyRow
namespace Go.Ev

/-- the frozen tables; the calls that the frame has put off -/
structure Gl where
  tab : Nat → Option (List SV)
  D : List Deferred := []

instance : CoeFun Gl (fun _ => Nat → Option (List SV)) := ⟨Gl.tab⟩

def GOK (G : Gl) (M : Nat → Option (List Value)) : Prop := ∀ g cs, G g = some cs → VS M (.pv cs) (.pointer (some ⟨g, 0, none⟩)) ∧ ∀ m, M g = some m → m.length = cs.length

theorem GOK.mono {G : Gl} {M M' : Nat → Option (List Value)} (h : GOK G M) (hM : ∀ b m, M b = some m → M' b = some m) : GOK G M' := fun g cs q => by
  obtain ⟨h1, h2⟩ := h g cs q
  refine ⟨VS.mono hM _ _ h1, fun m hm => ?_⟩
  simp only [VS] at h1
  obtain ⟨b, o, m', e, hb, _⟩ := h1
  injection e with e
  injection e with e
  injection e with e1 e2 e3
  subst e1
  have := hM _ _ hb
  rw [hm] at this
  injection this with this
  subst this
  exact h2 _ hb

def FOK (M : Nat → Option (List Value)) (w : World) : Prop := ∀ b m, M b = some m → ∃ c e z, w.heap[b]? = some (.cells c e z) ∧ c.toList = m

def Owned (E : Env) (blk : Nat) : Prop := (∃ d, E.B d = some blk) ∨ ∃ id, (E.I id).isSome = true ∧ E.blk id = blk

structure Disj (E : Env) : Prop where
  box : ∀ d blk, E.B d = some blk → E.M blk = none ∧ (∀ d', E.B d' = some blk → d' = d) ∧ ∀ id, (E.I id).isSome = true → E.blk id ≠ blk
  obj : ∀ id, (E.I id).isSome = true → E.M (E.blk id) = none ∧ ∀ id', (E.I id').isSome = true → E.blk id = E.blk id' → id = id'

def BoxR (E : Env) (w : World) (blk : Nat) (cs : List AV) : Prop :=
  ∃ c e, w.heap[blk]? = some (.cells c e (0, 0)) ∧ VAs E cs c.toList ∧ cs.all AV.flat = true

/-- a map's entries -/
def MR (M : Nat → Option (List Value)) : List (SV × SV) → List MapEntry → Prop
  | [], l => l = []
  | (k, v) :: es, l => ∃ e r, l = e :: r ∧ VS M k e.key ∧ VS M v e.val ∧ MR M es r

theorem MR.mono {M M' : Nat → Option (List Value)} (h : ∀ b m, M b = some m → M' b = some m) : ∀ {es : List (SV × SV)} {l : List MapEntry}, MR M es l → MR M' es l
  | [], _, hr => hr
  | (k, v) :: es, l, hr => by
    obtain ⟨e, r, h1, h2, h3, h4⟩ := hr
    exact ⟨e, r, h1, VS.mono h _ _ h2, VS.mono h _ _ h3, h4.mono h⟩

/-- no cell of so many is frozen -/
def ZOk (z : Nat × Nat) (n : Nat) : Prop := n ≤ z.1 ∨ z.2 = 0

theorem ZOk.zero (n : Nat) : ZOk (0, 0) n := .inr rfl

theorem ZOk.not {z : Nat × Nat} {n i : Nat} (h : ZOk z n) (hi : i < n) : (z.1 ≤ i && i < z.2) = false := by
  rcases h with q | q
  · have : ¬ z.1 ≤ i := by omega
    simp [this]
  · simp [q]

def ObjR (E : Env) (w : World) (id : Nat) (o : HO) : Prop :=
  match o.p with
  | .cells cs => E.I id = some (o.gen, cs.length) ∧ E.bas id = 0 ∧ BoxR E w (E.blk id) cs
  | .rows sz n f => E.I id = some (o.gen, n) ∧ E.bas id + n * sz ≤ E.tot id ∧ ∃ c e z, w.heap[E.blk id]? = some (.cells c e z) ∧ ZOk z c.size ∧ c.size = E.tot id ∧
      ∀ i, i < n → (f i).length = sz ∧ VL E.M (f i) (c.toList.drop (E.bas id + i * sz))
  | .iter l pos => E.I id = some (o.gen, 0) ∧ E.bas id = 0 ∧ w.heap[E.blk id]? = some (.stringIter ⟨l.toArray⟩ pos)
  | .map es => E.I id = some (o.gen, 0) ∧ E.bas id = 0 ∧ ∃ c k, w.heap[E.blk id]? = some (.map c k) ∧ MR E.M es c.toList
  | .ro sz n f => E.I id = some (o.gen, n) ∧ E.bas id + n * sz ≤ E.tot id ∧ ∃ c e z, w.heap[E.blk id]? = some (.cells c e z) ∧ c.size = E.tot id ∧
      ∀ i, i < n → (f i).length = sz ∧ VL E.M (f i) (c.toList.drop (E.bas id + i * sz))

/-- what is known of a block's type -/
def TyR (E : Env) (w : World) (id : Nat) (o : HO) : Prop := ∀ t, o.ty = some t → ∃ c z, w.heap[E.blk id]? = some (.cells c t z)

theorem TyR.none {E : Env} {w : World} {id : Nat} {o : HO} (h : o.ty = none) : TyR E w id o := fun t q => by rw [h] at q; cases q

theorem TyR.mono {E F : Env} {w v : World} {id : Nat} {o : HO} (h : TyR E w id o) (hb : F.blk id = E.blk id) (hw : v.heap[E.blk id]? = w.heap[E.blk id]?) : TyR F v id o := fun t q => by
  obtain ⟨c, z, hc⟩ := h t q
  exact ⟨c, z, by rw [hb, hw]; exact hc⟩

/-- cells that are written: their type stays -/
theorem TyR.write {E F : Env} {w v : World} {id : Nat} {o o' : HO} (h : TyR E w id o) (ho : o'.ty = o.ty) {c c' : Array Value} {e : TypeId} {z z' : Nat × Nat} (hw : w.heap[E.blk id]? = some (.cells c e z)) (hv : v.heap[F.blk id]? = some (.cells c' e z')) : TyR F v id o' := fun t q => by
  obtain ⟨c1, z1, hc⟩ := h t (ho ▸ q)
  rw [hw] at hc
  injection hc with hc
  injection hc with _ h2 _
  subst h2
  exact ⟨c', z', hv⟩

/-- what is no row has no type -/
theorem TyR.odd {E F : Env} {w v : World} {id : Nat} {o o' : HO} (h : TyR E w id o) (ho : o'.ty = o.ty) {x : Obj} (hw : w.heap[E.blk id]? = some x) (hx : ∀ c e z, x ≠ .cells c e z) : TyR F v id o' := fun t q => by
  obtain ⟨c1, z1, hc⟩ := h t (ho ▸ q)
  rw [hw] at hc
  injection hc with hc
  exact absurd hc (hx _ _ _)

theorem sameTy_some {ty : Option TypeId} {e t : TypeId} (h : sameTy ty e = some t) : t = e ∧ ty = some e := by
  unfold sameTy at h
  split at h
  · rename_i u
    cases hb : Nat.beq u e
    · rw [hb] at h; cases h
    · rw [hb, cond_true] at h
      exact ⟨(Option.some.inj h).symm, by rw [Nat.eq_of_beq_eq_true hb]⟩
  · cases h

theorem TyR.same {E : Env} {w : World} {id g g' : Nat} {p p' : Pay} {ty : Option TypeId} {e : TypeId} (h : TyR E w id ⟨g, p, ty⟩) : TyR E w id ⟨g', p', sameTy ty e⟩ := fun t q => by
  obtain ⟨h1, h2⟩ := sameTy_some q
  subst h1
  exact h t h2

theorem TyR.grown {E : Env} {w : World} {id g : Nat} {p : Pay} {ty : Option TypeId} {e : TypeId} {c : Array Value} {z : Nat × Nat} (h : w.heap[E.blk id]? = some (.cells c e z)) : TyR E w id ⟨g, p, sameTy ty e⟩ := fun t q => by
  obtain ⟨h1, _⟩ := sameTy_some q
  subst h1
  exact ⟨_, _, h⟩

structure HR (E : Env) (h : Heap) (w : World) : Prop where
  obj : ∀ id o, h id = some o → ObjR E w id o
  non : ∀ id, h id = none → E.I id = none
  ty : ∀ id o, h id = some o → TyR E w id o

structure Rel (G : Gl) (E : Env) (st : St) (a : Act) (w : World) : Prop where
  slots : ∀ i, VA E (st.s i) (a.tmps.getD i undef)
  defers : a.defers = G.D
  size : a.tmps.size = st.n
  heap : HR E st.h w
  box : ∀ d cs, st.b d = some cs → ∃ blk, E.B d = some blk ∧ BoxR E w blk cs
  boxN : ∀ d, st.b d = none → E.B d = none
  fz : FOK E.M w
  own : E.O = fun _ => none
  disj : Disj E
  glob : GOK G E.M
  lt : ∀ blk, Owned E blk → blk < w.heap.size
  new : ∀ id, st.nx ≤ id → st.h id = none
  nxb : st.base + st.n < st.nx

structure Evo (E : Env) (w : World) (E' : Env) (w' : World) : Prop where
  le : EnvLe0 E E'
  size : w.heap.size ≤ w'.heap.size
  keep : ∀ blk, blk < w.heap.size → ¬ Owned E blk → w'.heap[blk]? = w.heap[blk]?
  ownS : ∀ blk, Owned E' blk → Owned E blk ∨ w.heap.size ≤ blk
  frzS : ∀ blk m, E'.M blk = some m → E.M blk = some m ∨ Owned E blk ∨ w.heap.size ≤ blk
  tape : w'.tape = w.tape
  os : w'.os = w.os
  output : w'.output = w.output

theorem Evo.refl (E : Env) (w : World) : Evo E w E w := ⟨(EnvLe.refl E).to0, Nat.le_refl _, fun _ _ _ => rfl, fun _ h => .inl h, fun _ _ h => .inl h, rfl, rfl, rfl⟩

theorem Evo.trans {E F H : Env} {w v u : World} (h : Evo E w F v) (k : Evo F v H u) : Evo E w H u := by
  refine ⟨h.le.trans k.le, Nat.le_trans h.size k.size, fun blk hb ho => ?_, fun blk ho => ?_, fun blk m hm => ?_, k.tape.trans h.tape, k.os.trans h.os, k.output.trans h.output⟩
  · rw [k.keep blk (Nat.lt_of_lt_of_le hb h.size) (fun q => ?_), h.keep blk hb ho]
    rcases h.ownS blk q with q | q
    · exact ho q
    · omega
  · rcases k.ownS blk ho with q | q
    · exact h.ownS blk q
    · exact .inr (Nat.le_trans h.size q)
  · rcases k.frzS blk m hm with q | q | q
    · exact h.frzS blk m q
    · rcases h.ownS blk q with q | q
      · exact .inr (.inl q)
      · exact .inr (.inr q)
    · exact .inr (.inr (Nat.le_trans h.size q))

theorem FOK.lt {M : Nat → Option (List Value)} {w : World} (h : FOK M w) {b : Nat} {m : List Value} (hm : M b = some m) : b < w.heap.size := by
  obtain ⟨c, e, z, hc, _⟩ := h b m hm
  rcases Nat.lt_or_ge b w.heap.size with q | q
  · exact q
  · simp [Array.getElem?_eq_none q] at hc

theorem BoxR.mono {E F : Env} {w v : World} {blk : Nat} {cs : List AV} (h : BoxR E w blk cs) (le : EnvLe E F) (hw : v.heap[blk]? = w.heap[blk]?) : BoxR F v blk cs := by
  obtain ⟨c, e, hc, hv, hf⟩ := h
  exact ⟨c, e, hw.trans hc, VAs.mono le _ _ hv, hf⟩

theorem ObjR.mono {E F : Env} {w v : World} {id : Nat} {o : HO} (h : ObjR E w id o) (le : EnvLe E F) (hI : F.I id = E.I id) (hP : F.P id = E.P id)
    (hw : v.heap[E.blk id]? = w.heap[E.blk id]?) : ObjR F v id o := by
  unfold ObjR at *
  have hb : F.blk id = E.blk id := by simp only [Env.blk, hP]
  have hba : F.bas id = E.bas id := by simp only [Env.bas, hP]
  have ht : F.tot id = E.tot id := by simp only [Env.tot, hP]
  rw [hb, hba, ht, hI]
  split at h
  · exact ⟨h.1, h.2.1, h.2.2.mono le hw⟩
  · obtain ⟨h1, h2, c, e, z, hc, hz, hs, hr⟩ := h
    exact ⟨h1, h2, c, e, z, hw.trans hc, hz, hs, fun i hi => ⟨(hr i hi).1, VL.mono le.M _ _ (hr i hi).2⟩⟩
  · exact ⟨h.1, h.2.1, hw.trans h.2.2⟩
  · obtain ⟨h1, h2, c, k, hc, hr⟩ := h
    exact ⟨h1, h2, c, k, hw.trans hc, hr.mono le.M⟩
  · obtain ⟨h1, h2, c, e, z, hc, hs, hr⟩ := h
    exact ⟨h1, h2, c, e, z, hw.trans hc, hs, fun i hi => ⟨(hr i hi).1, VL.mono le.M _ _ (hr i hi).2⟩⟩

theorem ObjR.I {E : Env} {w : World} {id : Nat} {o : HO} (h : ObjR E w id o) : ∃ n, E.I id = some (o.gen, n) := by
  unfold ObjR at h
  split at h
  · exact ⟨_, h.1⟩
  · exact ⟨_, h.1⟩
  · exact ⟨_, h.1⟩
  · exact ⟨_, h.1⟩
  · exact ⟨_, h.1⟩

theorem St.app_n (st : St) (u : Upd) : (st.app u).n = st.n := by cases u <;> rfl
theorem St.app_s (st : St) (u : Upd) : (st.app u).s = st.s := by cases u <;> rfl
theorem St.app_base (st : St) (u : Upd) : (st.app u).base = st.base := by cases u <;> rfl


theorem getD_set (t : Array Value) (d i : Nat) (y : Value) (hd : d < t.size) : (t.setIfInBounds d y).getD i undef = if i = d then y else t.getD i undef := by
  simp only [Array.getD_eq_getD_getElem?, Array.getElem?_setIfInBounds]
  by_cases h : i = d
  · subst h; simp [hd]
  · simp [h, Ne.symm h]

theorem Rel.put {G : Gl} {E : Env} {st : St} {a : Act} {w : World} (h : Rel G E st a w) {d : Option Nat} {x : AV} {y : Value} (hd : okDst d st.n = true) (hv : VA E x y) :
    Rel G E (st.put d x) (a.put d y) w := by
  cases d with
  | none => exact h
  | some d =>
    have hlt : d < a.tmps.size := by rw [h.size]; simpa [okDst, Nat.blt_eq] using hd
    refine ⟨fun i => ?_, h.defers, ?_, h.heap, h.box, h.boxN, h.fz, h.own, h.disj, h.glob, h.lt, h.new, h.nxb⟩
    · simp only [St.put, Act.put]
      rw [getD_set _ _ _ _ hlt]
      by_cases hi : i = d
      · subst hi; simpa using hv
      · have : Nat.beq i d = false := by rw [Bool.eq_false_iff]; simpa using hi
        simp only [this, cond_false, if_neg hi]
        exact h.slots i
    · simp only [St.put, Act.put, Array.size_setIfInBounds]; exact h.size

theorem beq_ne {i j : Nat} (h : i ≠ j) : Nat.beq i j = false := by rw [Bool.eq_false_iff]; simpa using h
theorem beq_self (i : Nat) : Nat.beq i i = true := by simp

theorem Heap.upd_get : ∀ (h : Heap) (id : Nat) (o : HO) (i : Nat), (h.upd id o).get i = cond (Nat.beq i id) (some o) (h.get i)
  | [], id, o, i => by
    simp only [Heap.upd, Heap.get]
  | (j, p) :: l, id, o, i => by
    simp only [Heap.upd]
    by_cases h1 : id = j
    · subst h1
      rw [beq_self, cond_true]
      simp only [Heap.get]
      cases Nat.beq i id <;> rfl
    · rw [beq_ne h1, cond_false]
      cases Nat.blt id j
      · rw [cond_false]
        simp only [Heap.get, Heap.upd_get l id o i]
        by_cases h2 : i = j
        · subst h2
          rw [beq_self, beq_ne (Ne.symm h1)]
          rfl
        · rw [beq_ne h2]
          rfl
      · rw [cond_true]
        simp only [Heap.get]

theorem HR.isSome {E : Env} {h : Heap} {w : World} (H : HR E h w) {id : Nat} (hi : (E.I id).isSome = true) : ∃ o, h id = some o := by
  rcases ho : h id with _ | o
  · rw [H.non id ho] at hi; simp at hi
  · exact ⟨o, rfl⟩

/-- one heap block made, or turned, and nothing else -/
theorem Rel.obj {G : Gl} {E F : Env} {st : St} {a : Act} {w v : World} (h : Rel G E st a w) (id : Nat) (o : HO) (n' : Nat)
    (hM : F.M = E.M) (hO : F.O = E.O) (hB : F.B = E.B) (hI : ∀ j, j ≠ id → F.I j = E.I j) (hP : ∀ j, j ≠ id → F.P j = E.P j) (hFI : F.I id = some (o.gen, n'))
    (hg : ∀ g n, E.I id = some (g, n) → g ≤ o.gen ∧ (g = o.gen → n = n' ∧ F.P id = E.P id))
    (hblk : ((E.I id).isSome = true ∧ F.blk id = E.blk id) ∨ (w.heap.size ≤ F.blk id ∧ F.blk id < v.heap.size))
    (hsz : w.heap.size ≤ v.heap.size) (hk : ∀ blk, blk < w.heap.size → ((E.I id).isSome = true → blk ≠ E.blk id) → v.heap[blk]? = w.heap[blk]?)
    (ho : EnvLe E F → ObjR F v id o) (hid : id < st.nx) (ht : v.tape = w.tape) (hos : v.os = w.os) (hou : v.output = w.output) (hty : TyR F v id o) :
    Rel G F (st.app (.obj id o)) a v ∧ Evo E w F v := by
  have le : EnvLe E F := by
    refine ⟨fun b m q => hM ▸ q, fun b m q => hO ▸ q, fun j g n q => ?_, fun d blk q => hB ▸ q⟩
    by_cases hj : j = id
    · subst hj
      obtain ⟨h1, h2⟩ := hg g n q
      exact ⟨o.gen, n', hFI, h1, h2⟩
    · exact ⟨g, n, (hI _ hj).trans q, Nat.le_refl _, fun _ => ⟨rfl, hP _ hj⟩⟩
  have hbo : ∀ d blk, E.B d = some blk → v.heap[blk]? = w.heap[blk]? := fun d blk q =>
    hk blk (h.lt _ (.inl ⟨d, q⟩)) (fun hs e => (h.disj.box d blk q).2.2 id hs e.symm)
  have hoo : ∀ j, j ≠ id → (E.I j).isSome = true → v.heap[E.blk j]? = w.heap[E.blk j]? := fun j hj q =>
    hk _ (h.lt _ (.inr ⟨j, q, rfl⟩)) (fun hs e => hj ((h.disj.obj j q).2 id hs e))
  have hfz : ∀ b m, E.M b = some m → v.heap[b]? = w.heap[b]? := fun b m q =>
    hk b (h.fz.lt q) (fun hs e => by have := (h.disj.obj id hs).1; rw [← e, q] at this; simp at this)
  have hIs : ∀ j, j ≠ id → F.blk j = E.blk j := fun j hj => by simp only [Env.blk, hP j hj]
  have hown : ∀ blk, Owned F blk → Owned E blk ∨ w.heap.size ≤ blk := by
    rintro blk (⟨d, q⟩ | ⟨j, q, e⟩)
    · exact .inl (.inl ⟨d, hB ▸ q⟩)
    · by_cases hj : j = id
      · subst hj
        rcases hblk with ⟨h1, h2⟩ | ⟨h1, _⟩
        · exact .inl (.inr ⟨j, h1, h2.symm.trans e⟩)
        · exact .inr (e ▸ h1)
      · exact .inl (.inr ⟨j, hI j hj ▸ q, (hIs j hj).symm.trans e⟩)
  have hltF : ∀ blk, Owned F blk → blk < v.heap.size := by
    rintro blk (⟨d, q⟩ | ⟨j, q, e⟩)
    · exact Nat.lt_of_lt_of_le (h.lt _ (.inl ⟨d, hB ▸ q⟩)) hsz
    · by_cases hj : j = id
      · subst hj
        rcases hblk with ⟨h1, h2⟩ | ⟨_, h1⟩
        · exact Nat.lt_of_lt_of_le (h.lt _ (.inr ⟨j, h1, h2.symm.trans e⟩)) hsz
        · exact e ▸ h1
      · exact Nat.lt_of_lt_of_le (h.lt _ (.inr ⟨j, hI j hj ▸ q, (hIs j hj).symm.trans e⟩)) hsz
  refine ⟨⟨fun i => VA.mono le _ _ (h.slots i), h.defers, h.size, ⟨fun j p hj => ?_, fun j hj => ?_, fun j p hj => ?_⟩, fun d cs hd => ?_, fun d hd => hB ▸ h.boxN d hd, fun b m q => ?_, hO ▸ h.own, ⟨fun d blk q => ?_, fun j hj => ?_⟩,
    hM ▸ h.glob, hltF, fun j hj => ?_, h.nxb⟩, ⟨le.to0, hsz, fun blk hb hno => hk blk hb (fun hs e => hno (.inr ⟨id, hs, e.symm⟩)), hown, fun blk m q => .inl (hM ▸ q), ht, hos, hou⟩⟩
  · simp only [St.app, Heap.upd_get] at hj
    by_cases e : j = id
    · subst e
      rw [beq_self, cond_true] at hj
      injection hj with hj
      subst hj
      exact ho le
    · rw [beq_ne e, cond_false] at hj
      have hr := h.heap.obj j p hj
      obtain ⟨n, hn⟩ := hr.I
      exact hr.mono le (hI j e) (hP j e) (hoo j e (by simp [hn]))
  · simp only [St.app, Heap.upd_get] at hj
    by_cases e : j = id
    · subst e; rw [beq_self, cond_true] at hj; cases hj
    · rw [beq_ne e, cond_false] at hj
      rw [hI j e]; exact h.heap.non j hj
  · simp only [St.app, Heap.upd_get] at hj
    by_cases e : j = id
    · subst e
      rw [beq_self, cond_true] at hj
      injection hj with hj
      subst hj
      exact hty
    · rw [beq_ne e, cond_false] at hj
      obtain ⟨n, hn⟩ := (h.heap.obj j p hj).I
      exact (h.heap.ty j p hj).mono (hIs j e) (hoo j e (by simp [hn]))
  · obtain ⟨blk, q, r⟩ := h.box d cs hd
    exact ⟨blk, hB ▸ q, r.mono le (hbo d blk q)⟩
  · rw [hM] at q
    obtain ⟨c, e, z, hc, hm⟩ := h.fz b m q
    exact ⟨c, e, z, (hfz b m q).trans hc, hm⟩
  · rw [hB] at q
    obtain ⟨h1, h2, h3⟩ := h.disj.box d blk q
    refine ⟨hM ▸ h1, fun d' q' => h2 d' (hB ▸ q'), fun j hj => ?_⟩
    by_cases e : j = id
    · subst e
      rcases hblk with ⟨h4, h5⟩ | ⟨h4, _⟩
      · rw [h5]; exact h3 j h4
      · have := h.lt blk (.inl ⟨d, q⟩); omega
    · rw [hIs j e]; exact h3 j (hI j e ▸ hj)
  · by_cases e : j = id
    · subst e
      rcases hblk with ⟨h4, h5⟩ | ⟨h4, _⟩
      · refine ⟨by rw [hM, h5]; exact (h.disj.obj j h4).1, fun j' hj' e' => ?_⟩
        by_cases e2 : j' = j
        · exact e2.symm
        · exact (h.disj.obj j h4).2 j' (hI j' e2 ▸ hj') (by rw [← h5, e', hIs j' e2])
      · refine ⟨?_, fun j' hj' e' => ?_⟩
        · rw [hM]
          rcases hq : E.M (F.blk j) with _ | m
          · rfl
          · have := h.fz.lt hq; omega
        · by_cases e2 : j' = j
          · exact e2.symm
          · have := h.lt _ (.inr ⟨j', hI j' e2 ▸ hj', rfl⟩)
            rw [hIs j' e2] at e'
            omega
    · have hj' := hI j e ▸ hj
      refine ⟨by rw [hM, hIs j e]; exact (h.disj.obj j hj').1, fun k hk' e' => ?_⟩
      by_cases e2 : k = id
      · subst e2
        rw [hIs j e] at e'
        rcases hblk with ⟨h4, h5⟩ | ⟨h4, _⟩
        · exact (h.disj.obj j hj').2 k h4 (e'.trans h5)
        · have := h.lt _ (.inr ⟨j, hj', rfl⟩); omega
      · exact (h.disj.obj j hj').2 k (hI k e2 ▸ hk') (by rw [← hIs j e, e', hIs k e2])
  · simp only [St.app, Heap.upd_get]
    have : j ≠ id := by simp only [St.app] at hj; omega
    rw [beq_ne this, cond_false]
    exact h.new j hj

/-- memory that nobody knows: what is there stays -/
theorem Rel.agree {G : Gl} {E : Env} {st : St} {a : Act} {w v : World} (h : Rel G E st a w) (hsz : w.heap.size ≤ v.heap.size)
    (hk : ∀ blk, blk < w.heap.size → v.heap[blk]? = w.heap[blk]?) (ht : v.tape = w.tape) (hos : v.os = w.os) (hou : v.output = w.output) : Rel G E st a v ∧ Evo E w E v := by
  refine ⟨⟨h.slots, h.defers, h.size, ⟨fun j p hj => ?_, h.heap.non, fun j p hj => ?_⟩, fun d cs hd => ?_, h.boxN, fun b m q => ?_, h.own, h.disj, h.glob, fun blk q => Nat.lt_of_lt_of_le (h.lt blk q) hsz, h.new, h.nxb⟩,
    ⟨(EnvLe.refl E).to0, hsz, fun blk hb _ => hk blk hb, fun _ q => .inl q, fun _ _ q => .inl q, ht, hos, hou⟩⟩
  · have hr := h.heap.obj j p hj
    obtain ⟨n, hn⟩ := hr.I
    exact hr.mono (.refl E) rfl rfl (hk _ (h.lt _ (.inr ⟨j, by simp [hn], rfl⟩)))
  · obtain ⟨n, hn⟩ := (h.heap.obj j p hj).I
    exact (h.heap.ty j p hj).mono rfl (hk _ (h.lt _ (.inr ⟨j, by simp [hn], rfl⟩)))
  · obtain ⟨blk, q, r⟩ := h.box d cs hd
    exact ⟨blk, q, r.mono (.refl E) (hk _ (h.lt _ (.inl ⟨d, q⟩)))⟩
  · obtain ⟨c, e, z, hc, hm⟩ := h.fz b m q
    exact ⟨c, e, z, (hk b (h.fz.lt q)).trans hc, hm⟩

/-- a box made, or turned -/
theorem Rel.boxU {G : Gl} {E F : Env} {st : St} {a : Act} {w v : World} (h : Rel G E st a w) (d : Nat) (cs : List AV) (blk : Nat)
    (hM : F.M = E.M) (hO : F.O = E.O) (hI : F.I = E.I) (hP : F.P = E.P) (hB : ∀ j, j ≠ d → F.B j = E.B j) (hBd : F.B d = some blk)
    (hblk : E.B d = some blk ∨ (E.B d = none ∧ w.heap.size ≤ blk ∧ blk < v.heap.size))
    (hsz : w.heap.size ≤ v.heap.size) (hk : ∀ k, k < w.heap.size → k ≠ blk → v.heap[k]? = w.heap[k]?)
    (hr : EnvLe E F → BoxR F v blk cs) (ht : v.tape = w.tape) (hos : v.os = w.os) (hou : v.output = w.output) :
    Rel G F (st.app (.box d cs)) a v ∧ Evo E w F v := by
  have le : EnvLe E F := by
    refine ⟨fun b m q => hM ▸ q, fun b m q => hO ▸ q, fun j g n q => ⟨g, n, hI ▸ q, Nat.le_refl _, fun _ => ⟨rfl, by rw [hP]⟩⟩, fun j k q => ?_⟩
    by_cases hj : j = d
    · subst hj
      rcases hblk with e | ⟨e, _⟩
      · rw [e] at q; injection q with q; rw [hBd, q]
      · rw [e] at q; cases q
    · rw [hB j hj]; exact q
  have hbl : ∀ j, F.blk j = E.blk j := fun j => by simp only [Env.blk, hP]
  have hbo : ∀ j k, j ≠ d → E.B j = some k → v.heap[k]? = w.heap[k]? := fun j k hj q => hk k (h.lt _ (.inl ⟨j, q⟩)) (fun e => by
    rcases hblk with e1 | ⟨_, e1, _⟩
    · exact hj ((h.disj.box d blk e1).2.1 j (e ▸ q))
    · have := h.lt k (.inl ⟨j, q⟩); omega)
  have hob : ∀ j, (E.I j).isSome = true → E.blk j ≠ blk := fun j q e => by
    rcases hblk with e1 | ⟨_, e1, _⟩
    · exact (h.disj.box d blk e1).2.2 j q e
    · have := h.lt _ (.inr ⟨j, q, rfl⟩); omega
  have hfb : ∀ b m, E.M b = some m → b ≠ blk := fun b m q e => by
    rcases hblk with e1 | ⟨_, e1, _⟩
    · have := (h.disj.box d blk e1).1; rw [← e, q] at this; cases this
    · have := h.fz.lt q; omega
  have hown : ∀ k, Owned F k → Owned E k ∨ (k = blk ∧ w.heap.size ≤ k ∧ k < v.heap.size) := by
    rintro k (⟨j, q⟩ | ⟨j, q, e⟩)
    · by_cases hj : j = d
      · subst hj
        rw [hBd] at q; injection q with q
        rcases hblk with e1 | ⟨_, e1, e2⟩
        · exact .inl (.inl ⟨j, q ▸ e1⟩)
        · exact .inr ⟨q.symm, q ▸ e1, q ▸ e2⟩
      · exact .inl (.inl ⟨j, hB j hj ▸ q⟩)
    · exact .inl (.inr ⟨j, hI ▸ q, (hbl j).symm.trans e⟩)
  refine ⟨⟨fun i => VA.mono le _ _ (h.slots i), h.defers, h.size, ⟨fun j p hj => ?_, fun j hj => hI ▸ h.heap.non j hj, fun j p hj => ?_⟩, fun j cs' hj => ?_, fun j hj => ?_, fun b m q => ?_, hO ▸ h.own, ⟨fun j k q => ?_, fun j hj => ?_⟩,
    hM ▸ h.glob, fun k q => ?_, h.new, h.nxb⟩, ⟨le.to0, hsz, fun k hb hno => hk k hb (fun e => ?_), fun k q => ?_, fun k m q => .inl (hM ▸ q), ht, hos, hou⟩⟩
  · have hr := h.heap.obj j p hj
    obtain ⟨n, hn⟩ := hr.I
    exact hr.mono le (by rw [hI]) (by rw [hP]) (hk _ (h.lt _ (.inr ⟨j, by simp [hn], rfl⟩)) (hob j (by simp [hn])))
  · obtain ⟨n, hn⟩ := (h.heap.obj j p hj).I
    exact (h.heap.ty j p hj).mono (hbl j) (hk _ (h.lt _ (.inr ⟨j, by simp [hn], rfl⟩)) (hob j (by simp [hn])))
  · simp only [St.app] at hj
    by_cases e : j = d
    · subst e
      rw [beq_self, cond_true] at hj
      injection hj with hj
      subst hj
      exact ⟨blk, hBd, hr le⟩
    · rw [beq_ne e, cond_false] at hj
      obtain ⟨k, q, r⟩ := h.box j cs' hj
      exact ⟨k, (hB j e).trans q, r.mono le (hbo j k e q)⟩
  · simp only [St.app] at hj
    by_cases e : j = d
    · subst e; rw [beq_self, cond_true] at hj; cases hj
    · rw [beq_ne e, cond_false] at hj
      rw [hB j e]; exact h.boxN j hj
  · rw [hM] at q
    obtain ⟨c, e, z, hc, hm⟩ := h.fz b m q
    exact ⟨c, e, z, (hk b (h.fz.lt q) (hfb b m q)).trans hc, hm⟩
  · by_cases e : j = d
    · subst e
      rw [hBd] at q; injection q with q
      refine ⟨?_, fun j' q' => ?_, fun k hk' => by rw [hbl, ← q]; exact hob k (hI ▸ hk')⟩
      · rw [hM]
        rcases hq : E.M k with _ | m
        · rfl
        · exact absurd q.symm (hfb k m hq)
      · by_cases e2 : j' = j
        · exact e2
        · rw [hB j' e2] at q'
          rcases hblk with e1 | ⟨_, e1, _⟩
          · exact (h.disj.box j blk e1).2.1 j' (q ▸ q')
          · have := h.lt k (.inl ⟨j', q'⟩); omega
    · rw [hB j e] at q
      obtain ⟨h1, h2, h3⟩ := h.disj.box j k q
      refine ⟨hM ▸ h1, fun j' q' => ?_, fun id hid => by rw [hbl]; exact h3 id (hI ▸ hid)⟩
      by_cases e2 : j' = d
      · subst e2
        rw [hBd] at q'; injection q' with q'
        rcases hblk with e1 | ⟨_, e1, _⟩
        · exact h2 j' (q' ▸ e1)
        · have := h.lt k (.inl ⟨j, q⟩); omega
      · exact h2 j' (hB j' e2 ▸ q')
  · rw [hI] at hj
    refine ⟨by rw [hM, hbl]; exact (h.disj.obj j hj).1, fun k hk' e' => (h.disj.obj j hj).2 k (hI ▸ hk') (by rw [← hbl j, e', hbl k])⟩
  · rcases hown k q with q | ⟨_, _, q⟩
    · exact Nat.lt_of_lt_of_le (h.lt k q) hsz
    · exact q
  · rcases hblk with e1 | ⟨_, e1, _⟩
    · exact hno (.inl ⟨d, e ▸ e1⟩)
    · omega
  · rcases hown k q with q | ⟨_, q, _⟩
    · exact .inl q
    · exact .inr q

/-- a block made and frozen -/
theorem Rel.frz {G : Gl} {E : Env} {st : St} {a : Act} {w v : World} (h : Rel G E st a w) (blk : Nat) (c : Array Value) (e : TypeId) (z : Nat × Nat)
    (h1 : w.heap.size ≤ blk) (hc : v.heap[blk]? = some (.cells c e z))
    (hsz : w.heap.size ≤ v.heap.size) (hk : ∀ k, k < w.heap.size → v.heap[k]? = w.heap[k]?) (ht : v.tape = w.tape) (hos : v.os = w.os) (hou : v.output = w.output) :
    Rel G { E with M := fun i => if i = blk then some c.toList else E.M i } st a v ∧ Evo E w { E with M := fun i => if i = blk then some c.toList else E.M i } v := by
  have hne : ∀ b m, E.M b = some m → b ≠ blk := fun b m q e => by have := h.fz.lt q; omega
  have le : EnvLe E { E with M := fun i => if i = blk then some c.toList else E.M i } :=
    ⟨fun b m q => by simp only [if_neg (hne b m q)]; exact q, fun _ _ q => q, fun j g n q => ⟨g, n, q, Nat.le_refl _, fun _ => ⟨rfl, rfl⟩⟩, fun _ _ q => q⟩
  refine ⟨⟨fun i => VA.mono le _ _ (h.slots i), h.defers, h.size, ⟨fun j p hj => ?_, h.heap.non, fun j p hj => ?_⟩, fun d cs hd => ?_, h.boxN, fun b m q => ?_, h.own, ⟨fun d k q => ?_, fun j hj => ?_⟩, h.glob.mono le.M,
    fun k q => Nat.lt_of_lt_of_le (h.lt k q) hsz, h.new, h.nxb⟩, ⟨le.to0, hsz, fun k hb _ => hk k hb, fun _ q => .inl q, fun k m q => ?_, ht, hos, hou⟩⟩
  · have hr := h.heap.obj j p hj
    obtain ⟨n, hn⟩ := hr.I
    exact hr.mono le rfl rfl (hk _ (h.lt _ (.inr ⟨j, by simp [hn], rfl⟩)))
  · obtain ⟨n, hn⟩ := (h.heap.obj j p hj).I
    exact (h.heap.ty j p hj).mono rfl (hk _ (h.lt _ (.inr ⟨j, by simp [hn], rfl⟩)))
  · obtain ⟨k, q, r⟩ := h.box d cs hd
    exact ⟨k, q, r.mono le (hk _ (h.lt _ (.inl ⟨d, q⟩)))⟩
  · by_cases e1 : b = blk
    · subst e1
      simp only [if_true] at q
      injection q with q
      exact ⟨c, e, z, hc, q⟩
    · simp only [if_neg e1] at q
      obtain ⟨c, e, z, hc, hm⟩ := h.fz b m q
      exact ⟨c, e, z, (hk b (h.fz.lt q)).trans hc, hm⟩
  · have q' : E.B d = some k := q
    have hlt := h.lt k (.inl ⟨d, q'⟩)
    obtain ⟨a1, a2, a3⟩ := h.disj.box d k q'
    exact ⟨by simp only [if_neg (show k ≠ blk by omega)]; exact a1, a2, a3⟩
  · have hlt := h.lt _ (.inr ⟨j, hj, rfl⟩)
    obtain ⟨a1, a2⟩ := h.disj.obj j hj
    exact ⟨by show (if E.blk j = blk then some c.toList else E.M (E.blk j)) = none; rw [if_neg (by omega)]; exact a1, a2⟩
  · by_cases e1 : k = blk
    · exact .inr (.inr (e1 ▸ h1))
    · simp only [if_neg e1] at q
      exact .inl q

end Go.Ev
