/- Calls that leave memory as it was: blocks compared. -/
import Derived.Test.YtkdbaijabnhniaaGreatDoorEvBD
namespace Go.Ev

def sameL (q : SV → SV → Bool) : List SV → List SV → Bool
  | [], [] => true
  | a :: as, b :: bs => q a b && sameL q as bs
  | _, _ => false
def sameF (q : SV → SV → Bool) (f g : Nat → List SV) : Nat → Bool
  | 0 => true
  | n + 1 => sameF q f g n && sameL q (f n) (g n)

/-- the same values, so deep -/
def sameS : Nat → SV → SV → Bool
  | 0, _, _ => false
  | d + 1, x, y => match x, y with
    | .bool a, .bool b => a == b
    | .int j a, .int k b => decide (j = k) && decide (a = b)
    | .str a, .str b => a == b
    | .flt j a, .flt k b => decide (j = k) && Nat.beq a b
    | .nilp, .nilp => true
    | .nils, .nils => true
    | .nilm, .nilm => true
    | .nilf, .nilf => true
    | .nili, .nili => true
    | .pv a, .pv b => sameL (sameS d) a b
    | .vs sz n f, .vs sz' n' g => Nat.beq sz sz' && Nat.beq n n' && sameF (sameS d) f g n
    | .iface t v, .iface u w => Nat.beq t u && sameS d v w
    | .agg a, .agg b => sameL (sameS d) a b
    | .fn f, .fn g => Nat.beq f g
    | _, _ => false

def sameA0 : AV → AV → Bool
  | .s a, .s b => sameS 12 a b
  | .ptr i g o, .ptr i' g' o' => Nat.beq i i' && Nat.beq g g' && Nat.beq o o'
  | .sl i g s o n, .sl i' g' s' o' n' => Nat.beq i i' && Nat.beq g g' && Nat.beq s s' && Nat.beq o o' && Nat.beq n n'
  | .hm i g, .hm i' g' => Nat.beq i i' && Nat.beq g g'
  | _, _ => false
def sameAs (q : AV → AV → Bool) : List AV → List AV → Bool
  | [], [] => true
  | a :: as, b :: bs => q a b && sameAs q as bs
  | _, _ => false
def sameA (x y : AV) : Bool :=
  match x, y with
  | .clo f a b, .clo f' a' b' => Nat.beq f f' && sameAs sameA0 a a' && sameAs sameA0 b b'
  | x, y => sameA0 x y
def sameM : List (SV × SV) → List (SV × SV) → Bool
  | [], [] => true
  | (a, b) :: as, (c, d) :: bs => sameS 12 a c && sameS 12 b d && sameM as bs
  | _, _ => false
def sameP : Pay → Pay → Bool
  | .cells a, .cells b => sameAs sameA a b
  | .rows sz n f, .rows sz' n' g => Nat.beq sz sz' && Nat.beq n n' && sameF (sameS 12) f g n
  | .iter l p, .iter l' p' => l == l' && Nat.beq p p'
  | .map a, .map b => sameM a b
  | .ro sz n f, .ro sz' n' g => Nat.beq sz sz' && Nat.beq n n' && sameF (sameS 12) f g n
  | _, _ => false
def sameT : Option TypeId → Option TypeId → Bool
  | none, none => true
  | some a, some b => Nat.beq a b
  | _, _ => false
def sameO (x y : HO) : Bool := Nat.beq x.gen y.gen && sameT x.ty y.ty && sameP x.p y.p
def sameHs : List HO → List HO → Bool
  | [], [] => true
  | a :: as, b :: bs => sameO a b && sameHs as bs
  | _, _ => false

section
variable {M : Nat → Option (List Value)} {E : Env}

theorem sameL_ok {q : SV → SV → Bool} (hq : ∀ a b x, q a b = true → VS M b x → VS M a x ∧ a.isCell = b.isCell) : ∀ {as bs : List SV} {xs : List Value}, sameL q as bs = true → VL M bs xs → VL M as xs ∧ as.length = bs.length
  | [], [], _, _, h => ⟨h, rfl⟩
  | a :: as, b :: bs, xs, h, hx => by
    simp only [sameL, Bool.and_eq_true] at h
    simp only [VL] at hx ⊢
    obtain ⟨y, r, rfl, h1, h2, h3⟩ := hx
    obtain ⟨k1, k2⟩ := hq _ _ _ h.1 h2
    obtain ⟨k3, k4⟩ := sameL_ok hq h.2 h3
    exact ⟨⟨y, r, rfl, k2.trans h1, k1, k3⟩, by simp [k4]⟩
  | [], _ :: _, _, h, _ => by simp [sameL] at h
  | _ :: _, [], _, h, _ => by simp [sameL] at h

theorem sameF_at {q : SV → SV → Bool} {f g : Nat → List SV} : ∀ {n : Nat}, sameF q f g n = true → ∀ i, i < n → sameL q (f i) (g i) = true
  | 0, _, i, hi => by omega
  | n + 1, h, i, hi => by
    simp only [sameF, Bool.and_eq_true] at h
    rcases Nat.lt_or_ge i n with q | q
    · exact sameF_at h.1 i q
    · have : i = n := by omega
      subst this
      exact h.2

theorem sameS_ok : ∀ (d : Nat) (a b : SV) (x : Value), sameS d a b = true → VS M b x → VS M a x ∧ a.isCell = b.isCell
  | 0, _, _, _, h, _ => by simp [sameS] at h
  | d + 1, a, b, x, h, hx => by
    have ih := sameS_ok d
    unfold sameS at h
    split at h
    · rw [beq_iff_eq] at h; subst h; exact ⟨hx, rfl⟩
    · simp only [Bool.and_eq_true, decide_eq_true_eq] at h
      obtain ⟨rfl, rfl⟩ := h
      exact ⟨hx, rfl⟩
    · rw [beq_iff_eq] at h; subst h; exact ⟨hx, rfl⟩
    · simp only [Bool.and_eq_true, decide_eq_true_eq] at h
      obtain ⟨rfl, h⟩ := h
      have := Nat.eq_of_beq_eq_true h
      subst this
      exact ⟨hx, rfl⟩
    · exact ⟨hx, rfl⟩
    · exact ⟨hx, rfl⟩
    · exact ⟨hx, rfl⟩
    · exact ⟨hx, rfl⟩
    · exact ⟨hx, rfl⟩
    · simp only [VS] at hx ⊢
      obtain ⟨b, o, m, h1, h2, h3⟩ := hx
      exact ⟨⟨b, o, m, h1, h2, (sameL_ok ih h h3).1⟩, rfl⟩
    · simp only [Bool.and_eq_true] at h
      obtain ⟨⟨h1, h2⟩, h3⟩ := h
      have := Nat.eq_of_beq_eq_true h1
      have := Nat.eq_of_beq_eq_true h2
      subst_vars
      simp only [VS] at hx ⊢
      obtain ⟨b, o, cap, m, k1, k2, k3, k4⟩ := hx
      refine ⟨⟨b, o, cap, m, k1, k2, k3, fun i hi => ?_⟩, rfl⟩
      obtain ⟨q1, q2⟩ := sameL_ok ih (sameF_at h3 i hi) (k4 i hi).2
      exact ⟨q2.trans (k4 i hi).1, q1⟩
    · simp only [Bool.and_eq_true] at h
      have := Nat.eq_of_beq_eq_true h.1
      subst this
      simp only [VS] at hx ⊢
      obtain ⟨y, h1, h2⟩ := hx
      exact ⟨⟨y, h1, (ih _ _ _ h.2 h2).1⟩, rfl⟩
    · simp only [VS] at hx ⊢
      obtain ⟨ys, h1, h2, h3⟩ := hx
      obtain ⟨q1, q2⟩ := sameL_ok ih h h3
      exact ⟨⟨ys, h1, h2.trans q2.symm, q1⟩, rfl⟩
    · have := Nat.eq_of_beq_eq_true h
      subst this
      exact ⟨hx, rfl⟩
    · cases h

theorem sameA0_ok {a b : AV} {x : Value} (h : sameA0 a b = true) (hx : VA E b x) : VA E a x ∧ a.flat0 = b.flat0 ∧ a.flat = b.flat := by
  unfold sameA0 at h
  split at h
  · simp only [VA] at hx ⊢
    obtain ⟨k1, k2⟩ := sameS_ok _ _ _ _ h hx
    exact ⟨k1, k2, k2⟩
  · simp only [Bool.and_eq_true] at h
    obtain ⟨⟨h1, h2⟩, h3⟩ := h
    have := Nat.eq_of_beq_eq_true h1
    have := Nat.eq_of_beq_eq_true h2
    have := Nat.eq_of_beq_eq_true h3
    subst_vars
    exact ⟨hx, rfl, rfl⟩
  · simp only [Bool.and_eq_true] at h
    obtain ⟨⟨⟨⟨h1, h2⟩, h3⟩, h4⟩, h5⟩ := h
    have := Nat.eq_of_beq_eq_true h1
    have := Nat.eq_of_beq_eq_true h2
    have := Nat.eq_of_beq_eq_true h3
    have := Nat.eq_of_beq_eq_true h4
    have := Nat.eq_of_beq_eq_true h5
    subst_vars
    exact ⟨hx, rfl, rfl⟩
  · simp only [Bool.and_eq_true] at h
    obtain ⟨h1, h2⟩ := h
    have := Nat.eq_of_beq_eq_true h1
    have := Nat.eq_of_beq_eq_true h2
    subst_vars
    exact ⟨hx, rfl, rfl⟩
  · cases h

theorem sameAs_ok {q : AV → AV → Bool} {p : AV → Bool} (hq : ∀ a b x, q a b = true → VA E b x → VA E a x ∧ p a = p b) : ∀ {as bs : List AV} {xs : List Value}, sameAs q as bs = true → VAs E bs xs → VAs E as xs ∧ as.length = bs.length ∧ as.all p = bs.all p
  | [], [], _, _, h => ⟨h, rfl, rfl⟩
  | a :: as, b :: bs, xs, h, hx => by
    simp only [sameAs, Bool.and_eq_true] at h
    simp only [VAs] at hx ⊢
    obtain ⟨y, r, rfl, h1, h2⟩ := hx
    obtain ⟨k1, k2⟩ := hq _ _ _ h.1 h1
    obtain ⟨k3, k4, k5⟩ := sameAs_ok hq h.2 h2
    exact ⟨⟨y, r, rfl, k1, k3⟩, by simp [k4], by simp only [List.all_cons, k2, k5]⟩
  | [], _ :: _, _, h, _ => by simp [sameAs] at h
  | _ :: _, [], _, h, _ => by simp [sameAs] at h

theorem sameA_ok {a b : AV} {x : Value} (h : sameA a b = true) (hx : VA E b x) : VA E a x ∧ a.flat = b.flat := by
  unfold sameA at h
  split at h
  · simp only [Bool.and_eq_true] at h
    obtain ⟨⟨h1, h2⟩, h3⟩ := h
    have := Nat.eq_of_beq_eq_true h1
    subst this
    simp only [VA] at hx ⊢
    obtain ⟨fs, cs, rfl, k1, k2⟩ := hx
    have q : ∀ a b x, sameA0 a b = true → VA E b x → VA E a x ∧ a.flat0 = b.flat0 := fun a b x h hx => ⟨(sameA0_ok h hx).1, (sameA0_ok h hx).2.1⟩
    obtain ⟨q1, _, q2⟩ := sameAs_ok q h2 k1
    obtain ⟨q3, _, q4⟩ := sameAs_ok q h3 k2
    refine ⟨⟨fs, cs, rfl, q1, q3⟩, ?_⟩
    simp only [AV.flat, q2, q4]
  · obtain ⟨k1, _, k2⟩ := sameA0_ok h hx
    exact ⟨k1, k2⟩

theorem sameM_ok : ∀ {as bs : List (SV × SV)} {l : List MapEntry}, sameM as bs = true → MR M bs l → MR M as l
  | [], [], _, _, h => h
  | (a, b) :: as, (c, d) :: bs, l, h, hx => by
    simp only [sameM, Bool.and_eq_true] at h
    obtain ⟨⟨h1, h2⟩, h3⟩ := h
    obtain ⟨e, r, rfl, k1, k2, k3⟩ := hx
    exact ⟨e, r, rfl, (sameS_ok _ _ _ _ h1 k1).1, (sameS_ok _ _ _ _ h2 k2).1, sameM_ok h3 k3⟩
  | [], _ :: _, _, h, _ => by simp [sameM] at h
  | _ :: _, [], _, h, _ => by simp [sameM] at h

theorem sameT_ok {a b : Option TypeId} (h : sameT a b = true) : a = b := by
  unfold sameT at h
  split at h
  · rfl
  · rw [Nat.eq_of_beq_eq_true h]
  · cases h

theorem sameO_ok {w : World} {id : Nat} {x y : HO} (h : sameO x y = true) (hy : ObjR E w id y) (ht : TyR E w id y) : ObjR E w id x ∧ TyR E w id x := by
  unfold sameO at h
  simp only [Bool.and_eq_true] at h
  obtain ⟨⟨h1, h2⟩, h3⟩ := h
  obtain ⟨g, p, ty⟩ := x
  obtain ⟨g', p', ty'⟩ := y
  have hg : g = g' := Nat.eq_of_beq_eq_true h1
  have hty : ty = ty' := sameT_ok h2
  subst hg hty
  refine ⟨?_, fun t q => ht t q⟩
  clear h1 h2 ht
  simp only at h3
  unfold sameP at h3
  unfold ObjR at hy ⊢
  split at h3
  · simp only at hy ⊢
    obtain ⟨k1, k2, c, e, k3, k4, k5⟩ := hy
    obtain ⟨q1, q2, q3⟩ := sameAs_ok (p := AV.flat) (fun _ _ _ h hx => sameA_ok h hx) h3 k4
    exact ⟨q2 ▸ k1, k2, c, e, k3, q1, q3.trans k5⟩
  · simp only [Bool.and_eq_true] at h3
    obtain ⟨⟨h1, h2⟩, h3⟩ := h3
    have := Nat.eq_of_beq_eq_true h1
    have := Nat.eq_of_beq_eq_true h2
    subst_vars
    simp only at hy ⊢
    obtain ⟨k1, k2, c, e, z, k3, k4, k5, k6⟩ := hy
    refine ⟨k1, k2, c, e, z, k3, k4, k5, fun i hi => ?_⟩
    obtain ⟨q1, q2⟩ := sameL_ok (sameS_ok 12) (sameF_at h3 i hi) (k6 i hi).2
    exact ⟨q2.trans (k6 i hi).1, q1⟩
  · simp only [Bool.and_eq_true, beq_iff_eq] at h3
    obtain ⟨rfl, h3⟩ := h3
    have := Nat.eq_of_beq_eq_true h3
    subst this
    exact hy
  · simp only at hy ⊢
    obtain ⟨k1, k2, c, k, k3, k4⟩ := hy
    exact ⟨k1, k2, c, k, k3, sameM_ok h3 k4⟩
  · simp only [Bool.and_eq_true] at h3
    obtain ⟨⟨h1, h2⟩, h3⟩ := h3
    have := Nat.eq_of_beq_eq_true h1
    have := Nat.eq_of_beq_eq_true h2
    subst_vars
    simp only at hy ⊢
    obtain ⟨k1, k2, c, e, z, k3, k5, k6⟩ := hy
    refine ⟨k1, k2, c, e, z, k3, k5, fun i hi => ?_⟩
    obtain ⟨q1, q2⟩ := sameL_ok (sameS_ok 12) (sameF_at h3 i hi) (k6 i hi).2
    exact ⟨q2.trans (k6 i hi).1, q1⟩
  · cases h3

theorem sameHs_get : ∀ {as bs : List HO}, sameHs as bs = true → as.length = bs.length ∧ ∀ (i : Nat) (a : HO), as[i]? = some a → ∃ b, bs[i]? = some b ∧ sameO a b = true
  | [], [], _ => ⟨rfl, fun i a h => by simp at h⟩
  | a :: as, b :: bs, h => by
    simp only [sameHs, Bool.and_eq_true] at h
    obtain ⟨k1, k2⟩ := sameHs_get h.2
    refine ⟨by simp [k1], fun i c hc => ?_⟩
    cases i with
    | zero => simp only [List.getElem?_cons_zero, Option.some.injEq] at hc; subst hc; exact ⟨b, rfl, h.1⟩
    | succ i => simp only [List.getElem?_cons_succ] at hc ⊢; exact k2 i c hc
  | [], _ :: _, h => by simp [sameHs] at h
  | _ :: _, [], h => by simp [sameHs] at h

theorem Core.same {G : Gl} {w : World} {as bs : List HO} (h : sameHs as bs = true) (hC : Core G E (heapOf bs) w) : Core G E (heapOf as) w := by
  obtain ⟨k1, k2⟩ := sameHs_get h
  refine ⟨⟨fun id o ho => ?_, fun id ho => ?_, fun id o ho => ?_⟩, hC.fz, hC.own, hC.box, hC.disj, hC.glob, hC.lt⟩
  · rw [heapOf_eq] at ho
    obtain ⟨b, hb, hs⟩ := k2 id o ho
    exact (sameO_ok hs (hC.heap.obj id b (by rw [heapOf_eq]; exact hb)) (hC.heap.ty id b (by rw [heapOf_eq]; exact hb))).1
  · rw [heapOf_eq] at ho
    refine hC.heap.non id ?_
    rw [heapOf_eq]
    rw [List.getElem?_eq_none_iff] at ho ⊢
    omega
  · rw [heapOf_eq] at ho
    obtain ⟨b, hb, hs⟩ := k2 id o ho
    exact (sameO_ok hs (hC.heap.obj id b (by rw [heapOf_eq]; exact hb)) (hC.heap.ty id b (by rw [heapOf_eq]; exact hb))).2

end

/-- of a function that leaves all as it was -/
def quietI (hs : List HO) : IR → IR
  | .ret v hs' => cond (sameHs hs hs') (.qret v) .fail
  | .pan v hs' => .pan v hs'
  | _ => .fail

theorem SoundI.quiet {P : Program} {G : Gl} {f : FuncId} {args : List AV} {hs : List HO} {r : IR} (h : SoundI P G f args hs r) : SoundI P G f args hs (quietI hs r) := by
  intro l hl E w xs hC hv
  unfold quietI at hl
  split at hl
  · rename_i v hs'
    cases hs1 : sameHs hs hs'
    · rw [hs1] at hl; cases hl
    · rw [hs1, cond_true] at hl
      simp only [IR.val, Option.some.injEq] at hl
      subst hl
      intro o a K Q hK hN
      refine h (.ret v hs') rfl E w xs hC hv o a K Q (fun y v2 hy => hK y v2 ?_) (fun ch v2 hy => hN ch v2 ?_)
      · obtain ⟨F, k1, k2, k3⟩ := hy
        exact ⟨F, k1.same hs1, k2, k3⟩
      · obtain ⟨F, k1, k2, k3⟩ := hy
        exact ⟨F, k1.same hs1, k2, k3⟩
  · rename_i v hs'
    exact h l (by simpa [IR.val] using hl) E w xs hC hv
  · cases hl

end Go.Ev
