/- A region's operations: what each does to the state, and that two which do not clash may change places. -/
import Derived.Test.YtkdbaijabnhniaaGreatDoorEvO
namespace Go.Ev

def wantedE (ops : Array Oper) (st : St) (o : Oper) : Option Bool := match o.guard with
  | none => some true
  | some (j, want) => match guardSlot ops j with
    | none => none
    | some d => match st.s d with
      | .s (.bool t) => some (t == want)
      | .tup [] => some false
      | _ => none

inductive Did where
  | run (x : AV) (u : Upd)
  | pass

def Did.to (st : St) (o : Oper) : Did → St
  | .run x u => (st.app u).put o.dst x
  | .pass => st.put o.dst (.tup [])

section
variable (T : Tab) (C : Orc) (an : Ann) (ops : Array Oper)

def Does (st : St) (o : Oper) : Did → Prop
  | .run x u => wantedE ops st o = some true ∧ (st.evalOp T C an o).val = some (.v x u)
  | .pass => wantedE ops st o = some false

def Did.fp (st : St) (o : Oper) : Did → Fp
  | .run _ u => (fpOp C an (st.ev an) st.h st.base o).join (fpU u)
  | .pass => {}

def Runs : St → List (Done × Did) → St → Prop
  | s, [], s' => s = s'
  | s, (e, d) :: l, s' => ops[e.i]? = some e.o ∧ okDst e.o.dst s.n = true ∧ Does T C an ops s e.o d ∧ e.fp = d.fp C an s e.o ∧ Runs (d.to s e.o) l s'
end

theorem St.put_app (s : St) (d : Option Nat) (x : AV) (u : Upd) : (s.put d x).app u = (s.app u).put d x := by
  cases d <;> cases u <;> rfl

theorem St.put_comm (s : St) {d e : Option Nat} (x y : AV) (h : dstEq d e = false) : (s.put d x).put e y = (s.put e y).put d x := by
  cases d with
  | none => rfl
  | some d =>
    cases e with
    | none => rfl
    | some e =>
      have hne : d ≠ e := fun q => by subst q; simp [dstEq] at h
      simp only [St.put]
      congr 1
      funext i
      by_cases h1 : i = d
      · subst h1; simp [beq_ne hne]
      · by_cases h2 : i = e
        · subst h2; simp [beq_ne h1]
        · simp [beq_ne h1, beq_ne h2]

theorem Heap.upd_comm : ∀ (h : Heap) {i j : Nat} (o p : HO), i ≠ j → (h.upd i o).upd j p = (h.upd j p).upd i o
  | [], i, j, o, p, hij => by
    simp only [Heap.upd, beq_ne hij, beq_ne (Ne.symm hij), cond_false]
    rcases Nat.lt_or_gt_of_ne hij with q | q
    · have h1 : Nat.blt i j = true := by rw [Nat.blt_eq]; exact q
      have h2 : Nat.blt j i = false := by rw [Bool.eq_false_iff]; intro h; rw [Nat.blt_eq] at h; omega
      rw [h1, h2]; rfl
    · have h1 : Nat.blt j i = true := by rw [Nat.blt_eq]; exact q
      have h2 : Nat.blt i j = false := by rw [Bool.eq_false_iff]; intro h; rw [Nat.blt_eq] at h; omega
      rw [h1, h2]; rfl
  | (k, q) :: l, i, j, o, p, hij => by
    have blt_t : ∀ {a b : Nat}, a < b → Nat.blt a b = true := fun h => by rw [Nat.blt_eq]; exact h
    have blt_f : ∀ {a b : Nat}, b ≤ a → Nat.blt a b = false := fun h => by rw [Bool.eq_false_iff]; intro h'; rw [Nat.blt_eq] at h'; omega
    have ih := Heap.upd_comm l o p hij
    have hji := Ne.symm hij
    rcases Nat.lt_trichotomy i k with a | a | a <;> rcases Nat.lt_trichotomy j k with b | b | b
    all_goals first
      | omega
      | (subst a; subst b; exact absurd rfl hij)
      | skip
    · rcases Nat.lt_or_gt_of_ne hij with c | c
      · simp [Heap.upd, beq_ne hij, beq_ne hji, beq_ne (show i ≠ k by omega), beq_ne (show j ≠ k by omega), blt_t a, blt_t b, blt_t c, blt_f (show i ≤ j by omega)]
      · simp [Heap.upd, beq_ne hij, beq_ne hji, beq_ne (show i ≠ k by omega), beq_ne (show j ≠ k by omega), blt_t a, blt_t b, blt_t c, blt_f (show j ≤ i by omega)]
    · subst b
      simp [Heap.upd, beq_ne hij, beq_ne hji, blt_t a, blt_f (show i ≤ j by omega)]
    · simp [Heap.upd, beq_ne hij, beq_ne hji, beq_ne (show i ≠ k by omega), beq_ne (show j ≠ k by omega), blt_t a, blt_f (show k ≤ j by omega), blt_f (show i ≤ j by omega)]
    · subst a
      simp [Heap.upd, beq_ne hij, beq_ne hji, blt_t b, blt_f (show j ≤ i by omega)]
    · subst a
      simp [Heap.upd, beq_ne hij, beq_ne hji, blt_f (show i ≤ j by omega)]
    · simp [Heap.upd, beq_ne hij, beq_ne hji, beq_ne (show i ≠ k by omega), beq_ne (show j ≠ k by omega), blt_t b, blt_f (show k ≤ i by omega), blt_f (show j ≤ i by omega)]
    · subst b
      simp [Heap.upd, beq_ne hij, beq_ne hji, blt_f (show j ≤ i by omega)]
    · simp [Heap.upd, beq_ne (show i ≠ k by omega), beq_ne (show j ≠ k by omega), blt_f (show k ≤ i by omega), blt_f (show k ≤ j by omega), ih]

theorem updL_comm {i : Nat} (o : HO) : ∀ (l : List (Nat × HO)) (h : Heap), i ∉ l.map (·.1) → updL (h.upd i o) l = (updL h l).upd i o
  | [], _, _ => rfl
  | (j, p) :: l, h, hi => by
    simp only [List.map_cons, List.mem_cons, not_or] at hi
    simp only [updL]
    rw [Heap.upd_comm h o p hi.1, updL_comm o l _ hi.2]

theorem St.app_comm (s : St) {u v : Upd} (h : (fpU u).clash (fpU v) = false) : (s.app u).app v = (s.app v).app u := by
  simp only [Fp.clash, Bool.or_eq_false_iff] at h
  obtain ⟨⟨⟨⟨⟨⟨h1, h2⟩, a1⟩, a2⟩, h5⟩, a3⟩, a4⟩ := h
  clear a1 a2 a3 a4
  cases u <;> cases v <;> simp only [St.app]
  · congr 1
    funext i
    rename_i d cs e cs'
    have hne : d ≠ e := fun q => by subst q; exact meets_not h2 (n := d) (by simp [fpU]) (by simp [fpU])
    by_cases h3 : i = d
    · subst h3; simp [beq_ne hne]
    · by_cases h4 : i = e
      · subst h4; simp [beq_ne h3]
      · simp [beq_ne h3, beq_ne h4]
  · rename_i i o j p
    rw [Heap.upd_comm _ _ _ fun q => by subst q; exact meets_not h5 (n := i) (by simp [fpU]) (by simp [fpU])]
  · rename_i i o l nx
    rw [updL_comm _ _ _ fun q => meets_not h5 (n := i) (by simp [fpU]) (by simpa [fpU] using q)]
  · rename_i l nx i o
    rw [updL_comm _ _ _ fun q => meets_not h5 (n := i) (by simpa [fpU] using q) (by simp [fpU])]
  · simp [fpU] at h1

theorem updL_other {i : Nat} : ∀ (l : List (Nat × HO)) (h : Heap), i ∉ l.map (·.1) → updL h l i = h i
  | [], _, _ => rfl
  | (j, p) :: l, h, hi => by
    simp only [List.map_cons, List.mem_cons, not_or] at hi
    simp only [updL]
    rw [updL_other l _ hi.2]
    simp [Heap.upd_get, beq_ne hi.1]

section
variable {T : Tab} {C : Orc} {an : Ann} {ops : Array Oper}

theorem wanted_local {s t : St} {o : Oper} (hs : ∀ d ∈ looks ops o, s.s d = t.s d) : wantedE ops s o = wantedE ops t o := by
  unfold wantedE
  cases hg : o.guard with
  | none => rfl
  | some g =>
    obtain ⟨j, want⟩ := g
    simp only
    cases hd : guardSlot ops j with
    | none => rfl
    | some d =>
      simp only
      rw [hs d (by simp [looks, hg, hd])]

theorem ev_local {s t : St} {o : Oper} (hs : ∀ d ∈ looks ops o, s.s d = t.s d) : ∀ x ∈ o.op.operands, s.ev an x = t.ev an x := by
  intro x hx
  cases x with
  | tmp d => exact hs d (by simp only [looks, List.mem_append, List.mem_filterMap]; exact .inl ⟨_, by simpa using hx, rfl⟩)
  | const v => rfl
  | global g => rfl
  | func f => rfl

/-- the same is done where all that is looked at is the same -/
theorem does_local {s t : St} {o : Oper} {d : Did} (hd : Does T C an ops s o d) (hbase : s.base = t.base) (hs : ∀ d ∈ looks ops o, s.s d = t.s d)
    (hb : ∀ i ∈ (d.fp C an s o).rb ++ (d.fp C an s o).wb, s.b i = t.b i) (hh : ∀ i ∈ (d.fp C an s o).rh ++ (d.fp C an s o).wh, s.h i = t.h i) (hnx : (d.fp C an s o).all = true → s.nx = t.nx) :
    Does T C an ops t o d ∧ d.fp C an s o = d.fp C an t o := by
  cases d with
  | pass => exact ⟨(wanted_local hs).symm.trans hd, rfl⟩
  | run x u =>
    obtain ⟨h1, h2⟩ := hd
    simp only [Did.fp, Fp.join, List.mem_append, Bool.or_eq_true] at hb hh hnx
    obtain ⟨e1, e2⟩ := evalOp_local (T := T) (C := C) (an := an) (ρ := s.ev an) (b := s.b) (b' := t.b) (h := s.h) (h' := t.h) (base := s.base) (nx := s.nx) (nx' := t.nx) (o := o)
      (fun i hi => hb i (by simp only [List.mem_append] at hi; rcases hi with q | q <;> simp [q]))
      (fun i hi => hh i (by simp only [List.mem_append] at hi; rcases hi with q | q <;> simp [q]))
      (fun hi => hnx (.inl hi))
    obtain ⟨e3, e4⟩ := evalOp_rho (T := T) (C := C) (an := an) (b := t.b) (h := t.h) (base := s.base) (nx := t.nx) (ev_local (an := an) hs)
    refine ⟨⟨(wanted_local hs).symm.trans h1, ?_⟩, ?_⟩
    · unfold St.evalOp at h2 ⊢
      rw [← hbase, ← e3, ← e1]
      exact h2
    · simp only [Did.fp]
      rw [e2, e4, hbase]

/-- what is touched is told -/
theorem to_other (s : St) (o : Oper) (d : Did) : (d.to s o).n = s.n ∧ (d.to s o).base = s.base ∧ (∀ i, dstIn o.dst [i] = false → (d.to s o).s i = s.s i) ∧ (∀ i, i ∉ (d.fp C an s o).wb → (d.to s o).b i = s.b i) ∧
    (∀ i, i ∉ (d.fp C an s o).wh → (d.to s o).h i = s.h i) ∧ ((d.fp C an s o).all = false → (d.to s o).nx = s.nx) := by
  have hput : ∀ (t : St) (x : AV), (t.put o.dst x).n = t.n ∧ (t.put o.dst x).base = t.base ∧ (∀ i, dstIn o.dst [i] = false → (t.put o.dst x).s i = t.s i) ∧ (t.put o.dst x).b = t.b ∧ (t.put o.dst x).h = t.h ∧ (t.put o.dst x).nx = t.nx := by
    intro t x
    cases hd : o.dst with
    | none => exact ⟨rfl, rfl, fun _ _ => rfl, rfl, rfl, rfl⟩
    | some e =>
      refine ⟨rfl, rfl, fun i hi => ?_, rfl, rfl, rfl⟩
      have hne : i ≠ e := fun q => by subst q; simp [dstIn, memN] at hi
      simp [St.put, beq_ne hne]
  cases d with
  | pass =>
    obtain ⟨h1, h2, h3, h4, h5, h6⟩ := hput s (.tup [])
    exact ⟨h1, h2, h3, fun i _ => congrFun h4 i, fun i _ => congrArg (fun t => Heap.get t i) h5, fun _ => h6⟩
  | run x u =>
    obtain ⟨h1, h2, h3, h4, h5, h6⟩ := hput (s.app u) x
    refine ⟨h1.trans (St.app_n ..), h2.trans (St.app_base ..), fun i hi => (h3 i hi).trans (by rw [St.app_s]), fun i hi => (congrFun h4 i).trans ?_, fun i hi => (congrArg (fun t => Heap.get t i) h5).trans ?_, fun hi => h6.trans ?_⟩
    · simp only [Did.fp, Fp.join, List.mem_append, not_or] at hi
      cases u with
      | box e cs => simp only [fpU, List.mem_cons, List.not_mem_nil, or_false] at hi; simp [St.app, beq_ne hi.2]
      | _ => rfl
    · simp only [Did.fp, Fp.join, List.mem_append, not_or] at hi
      cases u with
      | obj e p => simp only [fpU, List.mem_cons, List.not_mem_nil, or_false] at hi; simp [St.app, Heap.upd_get, beq_ne hi.2]
      | objs l nx => exact updL_other l _ hi.2
      | _ => rfl
    · simp only [Did.fp, Fp.join, Bool.or_eq_false_iff] at hi
      cases u with
      | objs l nx => simp [fpU] at hi
      | _ => rfl

end

end Go.Ev
