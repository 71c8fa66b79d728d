/- A region in any order. -/
import Derived.Test.YtkdbaijabnhniaaGreatDoorEvP
namespace Go.Ev
section
variable {T : Tab} {C : Orc} {an : Ann} {ops : Array Oper}

theorem dstIn_of {d : Option Nat} {l : List Nat} (h : dstIn d l = false) {i : Nat} (hi : i ∈ l) : dstIn d [i] = false := by
  cases d with
  | none => rfl
  | some d =>
    simp only [dstIn] at h ⊢
    rw [Bool.eq_false_iff] at h ⊢
    intro q
    rw [memN_iff] at q
    simp only [List.mem_cons, List.not_mem_nil, or_false] at q
    exact h (memN_iff.2 (q ▸ hi))

theorem clash_parts {f g : Fp} (h : f.clash g = false) : (f.all && g.all) = false ∧ (∀ i, i ∈ f.wb → i ∈ g.rb ++ g.wb → False) ∧ (∀ i, i ∈ g.wb → i ∈ f.rb ++ f.wb → False) ∧
    (∀ i, i ∈ f.wh → i ∈ g.rh ++ g.wh → False) ∧ (∀ i, i ∈ g.wh → i ∈ f.rh ++ f.wh → False) := by
  simp only [Fp.clash, Bool.or_eq_false_iff] at h
  obtain ⟨⟨⟨⟨⟨⟨h1, h2⟩, h3⟩, h4⟩, h5⟩, h6⟩, h7⟩ := h
  refine ⟨h1, fun i a b => ?_, fun i a b => ?_, fun i a b => ?_, fun i a b => ?_⟩ <;> rcases List.mem_append.1 b with b | b
  · exact meets_not h3 a b
  · exact meets_not h2 a b
  · exact meets_not h4 b a
  · exact meets_not h2 b a
  · exact meets_not h6 a b
  · exact meets_not h5 a b
  · exact meets_not h7 b a
  · exact meets_not h5 b a

theorem to_comm (s : St) (o p : Oper) (d e : Did) (hd : dstEq o.dst p.dst = false) (hu : ∀ x u y v, d = .run x u → e = .run y v → (fpU u).clash (fpU v) = false) : e.to (d.to s o) p = d.to (e.to s p) o := by
  cases d with
  | pass =>
    cases e with
    | pass => exact s.put_comm _ _ hd
    | run y v => simp only [Did.to]; rw [St.put_app, St.put_comm _ _ _ hd]
  | run x u =>
    cases e with
    | pass => simp only [Did.to]; rw [St.put_comm _ _ _ hd, St.put_app]
    | run y v =>
      simp only [Did.to]
      rw [St.put_app, St.put_app, St.put_comm _ _ _ hd, St.app_comm s (hu _ _ _ _ rfl rfl)]

theorem clash_join {f g f' g' : Fp} (h : (f.join g).clash (f'.join g') = false) : g.clash g' = false := by
  obtain ⟨h1, h2, h3, h4, h5⟩ := clash_parts h
  have no : ∀ {xs ys : List Nat}, (∀ i, i ∈ xs → i ∈ ys → False) → meets xs ys = false := by
    intro xs
    induction xs with
    | nil => intros; rfl
    | cons x xs ih =>
      intro ys hx
      simp only [meets, Bool.or_eq_false_iff]
      exact ⟨by rw [Bool.eq_false_iff]; intro q; exact hx x (by simp) (memN_iff.1 q), ih fun i a b => hx i (by simp [a]) b⟩
  simp only [Fp.join, List.mem_append] at h1 h2 h3 h4 h5
  simp only [Fp.clash, Bool.or_eq_false_iff]
  refine ⟨⟨⟨⟨⟨⟨?_, no fun i a b => ?_⟩, no fun i a b => ?_⟩, no fun i a b => ?_⟩, no fun i a b => ?_⟩, no fun i a b => ?_⟩, no fun i a b => ?_⟩
  · revert h1; cases g.all <;> cases g'.all <;> simp
  · exact h2 i (by simp [a]) (by simp [b])
  · exact h2 i (by simp [a]) (by simp [b])
  · exact h3 i (by simp [b]) (by simp [a])
  · exact h4 i (by simp [a]) (by simp [b])
  · exact h4 i (by simp [a]) (by simp [b])
  · exact h5 i (by simp [b]) (by simp [a])

/-- two that do not clash change places -/
theorem Runs.swap {s s' : St} {x y : Done × Did} {l : List (Done × Did)} (h : Runs T C an ops s (x :: y :: l) s') (hi : indep ops x.1 y.1 = true) : Runs T C an ops s (y :: x :: l) s' := by
  obtain ⟨e, d⟩ := x
  obtain ⟨f, g⟩ := y
  simp only [Runs] at h ⊢
  obtain ⟨a1, a2, a3, a4, b1, b2, b3, b4, h⟩ := h
  simp only [indep, Bool.and_eq_true, Bool.not_eq_true', apartE] at hi
  obtain ⟨hc, ⟨h1, h2⟩, h3⟩ := hi
  obtain ⟨c1, c2, c3, c4, c5⟩ := clash_parts hc
  obtain ⟨t1, t2, t3, t4, t5, t6⟩ := to_other (C := C) (an := an) s e.o d
  have key := does_local b3 (t := s) t2 (fun i hi => t3 i (dstIn_of h1 hi)) (fun i hi => t4 i fun q => c2 i (a4 ▸ q) (b4 ▸ hi)) (fun i hi => t5 i fun q => c4 i (a4 ▸ q) (b4 ▸ hi))
    (fun hn => t6 (by rw [← b4] at hn; rw [hn, Bool.and_true] at c1; rw [← a4]; exact c1))
  obtain ⟨k1, k2⟩ := key
  rw [← b4] at k2
  obtain ⟨r1, r2, r3, r4, r5, r6⟩ := to_other (C := C) (an := an) s f.o g
  have key2 := does_local a3 (t := g.to s f.o) r2.symm (fun i hi => (r3 i (dstIn_of h2 hi)).symm) (fun i hi => (r4 i fun q => c3 i (k2 ▸ q) (a4 ▸ hi)).symm) (fun i hi => (r5 i fun q => c5 i (k2 ▸ q) (a4 ▸ hi)).symm)
    (fun hn => (r6 (by rw [← a4] at hn; rw [hn, Bool.true_and] at c1; rw [← k2]; exact c1)).symm)
  refine ⟨b1, t1 ▸ b2, k1, k2, a1, r1.symm ▸ a2, key2.1, a4.trans key2.2, ?_⟩
  rw [to_comm s e.o f.o d g h3 ?_] at h
  · exact h
  · rintro x u y v rfl rfl
    simp only [Did.fp] at a4 b4
    rw [a4, b4] at hc
    exact clash_join hc

theorem Runs.front {s' : St} {x : Done × Did} {post : List (Done × Did)} : ∀ {pre : List (Done × Did)} {s : St}, Runs T C an ops s (pre ++ x :: post) s' → (∀ p ∈ pre, indep ops p.1 x.1 = true) →
    Runs T C an ops s (x :: (pre ++ post)) s'
  | [], _, h, _ => h
  | p :: pre, s, h, hi => by
    refine Runs.swap ?_ (hi p (by simp))
    obtain ⟨e, d⟩ := p
    simp only [List.cons_append, Runs] at h ⊢
    obtain ⟨a1, a2, a3, a4, h⟩ := h
    have := Runs.front h (fun q hq => hi q (by simp [hq]))
    simp only [Runs] at this
    exact ⟨a1, a2, a3, a4, this⟩

end

section
variable {P : Program} {G : Gl} {T : Tab} {C : Orc} {an : Ann} {ops : Array Oper}

/-- what is known of calls -/
def CallOK (P : Program) (G : Gl) (T : Tab) (C : Orc) (an : Ann) : Prop :=
  ∀ (E : Env) (st : St) (a : Act) (w : World) (o : Oper), Rel G E st a w → isCall o = true → okDst o.dst st.n = true →
    (∀ x u, (st.evalOp T C an o).val = some (.v x u) → SimV P G E st a w o x u) ∧ (∀ x u, (st.evalOp T C an o).val = some (.pan x u) → SimP P G E st a w o x u)

structure Oks (P : Program) (G : Gl) (T : Tab) (C : Orc) (an : Ann) : Prop where
  tab : TabOK P T
  glob : an.glob = G.tab
  call : CallOK P G T C an
  mixed : P.follows .mixedOrders = true

variable (A : Oks P G T C an)
include A

theorem op_sim {E : Env} {st : St} {a : Act} {w : World} {o : Oper} {x : AV} {u : Upd} (R : Rel G E st a w) (hd : okDst o.dst st.n = true) (h : (st.evalOp T C an o).val = some (.v x u)) : SimV P G E st a w o x u := by
  cases hc : isCall o
  · exact op_value R A.tab A.glob hd hc h
  · exact (A.call E st a w o R hc hd).1 x u h

omit A in
theorem wanted_ok {E : Env} {st : St} {a : Act} {w : World} {o : Oper} {b : Bool} (R : Rel G E st a w) (h : wantedE ops st o = some b) : Region.wanted o (yielded ops a.tmps) = b := by
  unfold wantedE at h
  unfold Region.wanted
  split at h
  · rename_i hg
    injection h with h
    rw [hg]
    exact h
  · rename_i j want hg
    rw [hg]
    simp only
    split at h
    · cases h
    · rename_i d hd
      have hdst : (ops[j]?).bind (·.dst) = some d := by
        unfold guardSlot at hd
        cases hj : ops[j]? with
        | none => simp [hj] at hd
        | some p => simpa [hj] using hd
      have hs := R.slots d
      rw [Array.getD_eq_getD_getElem?] at hs
      unfold yielded
      rw [hdst]
      simp only [Option.bind_some]
      split at h
      · rename_i t ht
        rw [ht] at hs
        simp only [VA, VS] at hs
        cases hx : a.tmps[d]? with
        | none => rw [hx] at hs; simp [undef] at hs
        | some X =>
          rw [hx] at hs
          simp only [Option.getD_some] at hs
          subst hs
          cases h
          cases t <;> cases want <;> rfl
      · rename_i ht
        rw [ht] at hs
        simp only [VA, VAs] at hs
        obtain ⟨_, hs, rfl⟩ := hs
        injection h with h
        subst h
        cases hx : a.tmps[d]? with
        | none => rfl
        | some X =>
          rw [hx] at hs
          simp only [Option.getD_some] at hs
          subst hs
          rfl
      · cases h

theorem does_wp {E : Env} {s : St} {a : Act} {w : World} {o : Oper} {i : Nat} {d : Did} (R : Rel G E s a w) (ho : ops[i]? = some o) (hd : okDst o.dst s.n = true) (h : Does T C an ops s o d) {K : Act → World → Prop} {Q : Exit → Act → World → Prop}
    (hK : ∀ F b v, Rel G F (d.to s o) b v → Evo E w F v → K b v) : wpOp P ops Q i K a w := by
  unfold wpOp
  rw [ho]
  simp only
  cases d with
  | pass =>
    rw [wanted_ok R h]
    simp only [Bool.false_eq_true, if_false]
    exact hK E _ w (R.put hd (by simp only [VA, VAs]; exact ⟨[], rfl, rfl⟩)) (.refl E w)
  | run x u =>
    rw [wanted_ok R h.1]
    simp only [if_true]
    refine .inl (op_sim A R hd h.2 K Q fun F y v hy hR hE => ?_)
    exact hK F _ v (hR.put (by rw [St.app_n]; exact hd) hy) hE

end

end Go.Ev
