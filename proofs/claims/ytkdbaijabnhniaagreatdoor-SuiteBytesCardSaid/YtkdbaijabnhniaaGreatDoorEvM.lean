/- Operations that call nothing. -/
import Derived.Test.YtkdbaijabnhniaaGreatDoorEvLB
namespace Go.Ev
section
variable {P : Program} {G : Gl} {E : Env} {st : St} {a : Act} {w : World} {T : Tab} {C : Orc} {an : Ann}

theorem svOf_ok {M : Nat → Option (List Value)} {v : Value} {x : SV} (h : svOf v = some x) : VS M x v ∧ x.isCell = true := by
  unfold svOf at h
  split at h <;> first | (injection h with h; subst h; simp [VS, SV.isCell]) | cases h

theorem svsOf_ok : ∀ {vs : List Value} {xs : List AV}, svsOf vs = some xs → VAs E xs vs
  | [], xs, h => by simp only [svsOf, Option.some.injEq] at h; subst h; simp [VAs]
  | v :: vs, xs, h => by
    unfold svsOf at h
    split at h
    · rename_i x xs' h1 h2
      injection h with h
      subst h
      simp only [VAs]
      exact ⟨v, vs, rfl, by simp only [VA]; exact (svOf_ok h1).1, svsOf_ok h2⟩
    · cases h

theorem avOf_ok {v : Value} {x : AV} (h : avOf v = some x) : VA E x v := by
  unfold avOf at h
  split at h
  · rename_i cs
    cases hc : svsOf cs.toList with
    | none => simp [hc] at h
    | some xs =>
      simp only [hc, Option.map_some, Option.some.injEq] at h
      subst h
      simp only [VA]
      exact ⟨cs.toList, by simp, svsOf_ok hc⟩
  · cases hc : svOf v with
    | none => simp [hc] at h
    | some x' =>
      simp only [hc, Option.map_some, Option.some.injEq] at h
      subst h
      simp only [VA]
      exact (svOf_ok hc).1

theorem ev_ok (R : Rel G E st a w) (hG : an.glob = G.tab) (x : Operand) : VA E (st.ev an x) (a.eval x) := by
  unfold St.ev AV.ofOperand Act.eval
  cases x with
  | tmp t => exact R.slots t
  | const v =>
    cases h : avOf v with
    | none => simp [h, VA]
    | some y => simpa [h] using avOf_ok h
  | global g =>
    simp only
    cases h : an.glob g with
    | none => simp [VA]
    | some cs => simp only [VA]; exact (R.glob g cs (hG ▸ h)).1
  | func f => simp [VA, VS]

/-- what an operation's end says of the machine -/
def SimV (P : Program) (G : Gl) (E : Env) (st : St) (a : Act) (w : World) (o : Oper) (r : AV) (u : Upd) : Prop :=
  ∀ (K : Act → World → Prop) (Q : Exit → Act → World → Prop), (∀ F y v, VA F r y → Rel G F (st.app u) a v → Evo E w F v → K (a.put o.dst y) v) → o.wp P a w K Q

def SimP (P : Program) (G : Gl) (E : Env) (st : St) (a : Act) (w : World) (o : Oper) (x : SV) (u : Upd) : Prop :=
  ∀ (K : Act → World → Prop) (Q : Exit → Act → World → Prop), (∀ F X v, VS F.M x X → Rel G F (st.app u) a v → Evo E w F v → Q (.panic [{ v := X, recovered := false }]) a v) → o.wp P a w K Q

theorem MOk.sim {o : Oper} {s : Sem Value} {r : AV} {u : Upd} (h : MOk P G E st a w s r u) (he : execOp a.eval o = (do pure (.value (← s)))) : SimV P G E st a w o r u := by
  intro K Q hK
  obtain ⟨F, y, v, h1, h2, h3, h4⟩ := h
  unfold Oper.wp
  rw [he]
  simp only [Sem.run_bind, h1, Result.andThen_ok, Sem.run_pure]
  rw [Oper.upon_value]
  exact hK F y v h2 h3 h4

theorem SimV.of {o : Oper} {r : AV} {Z : Value} (R : Rel G E st a w) (h : (execOp a.eval o).run P w = .ok (.value Z) w) (hv : VA E r Z) : SimV P G E st a w o r .none := by
  intro K Q hK
  unfold Oper.wp
  rw [h, Oper.upon_value]
  exact hK E Z w hv R (.refl E w)

theorem dst_lt (R : Rel G E st a w) {d : Option Nat} (hd : okDst d st.n = true) : st.base + d.getD 0 < st.nx := by
  have := R.nxb
  cases d with
  | none => simp; omega
  | some d => simp only [okDst, Nat.blt_eq] at hd; simp; omega

theorem parts_map (R : Rel G E st a w) (hG : an.glob = G.tab) : ∀ ps : List (Nat × Operand), Parts E (ps.map fun p => (p.1, st.ev an p.2)) (ps.map fun (i, x) => (i, a.eval x))
  | [] => by simp [Parts]
  | (i, x) :: ps => by simp only [List.map_cons, Parts]; exact ⟨_, _, rfl, ev_ok R hG x, parts_map R hG ps⟩

theorem evs_map (R : Rel G E st a w) (hG : an.glob = G.tab) : ∀ ps : List Operand, VAs E (ps.map (st.ev an)) (ps.map a.eval)
  | [] => by simp [VAs]
  | x :: ps => by simp only [List.map_cons, VAs]; exact ⟨_, _, rfl, ev_ok R hG x, evs_map R hG ps⟩

theorem VO_map (R : Rel G E st a w) (hG : an.glob = G.tab) (x : Option Operand) : VO E (x.map (st.ev an)) (x.map a.eval) := by
  cases x with
  | none => simp [VO]
  | some x => simp only [Option.map_some, VO]; exact ⟨_, rfl, ev_ok R hG x⟩

theorem pickE_ok {t : Bool} {x y : AV} {X Y : Value} (hx : VA E x X) (hy : VA E y Y) : VA E (pickE t x y) (if t = true then X else Y) := by
  unfold pickE
  split
  · simp only [VA, VS] at hx hy ⊢
    subst hx hy
    cases t <;> rfl
  · cases t <;> simpa

theorem some'_ok {x : AV} {X : Value} (h : x.some' = true) (hx : VA E x X) : (∃ c, X = .pointer (some c)) ∨ ∃ f fs cs, X = .func (.func f) fs cs := by
  unfold AV.some' at h
  split at h
  · simp only [VA] at hx; exact .inl hx.1
  · simp only [VA] at hx; obtain ⟨b, _, h⟩ := hx; exact .inl ⟨_, h⟩
  · simp only [VA] at hx; exact .inl hx.1
  · simp only [VA] at hx; exact .inl hx.2.1
  · simp only [VA] at hx; obtain ⟨_, b, _, h⟩ := hx; exact .inl ⟨_, h⟩
  · simp only [VA, VS] at hx; obtain ⟨b, o, m, h, _⟩ := hx; exact .inl ⟨_, h⟩
  · simp only [VA, VS] at hx; exact .inr ⟨_, _, _, hx⟩
  · simp only [VA] at hx; obtain ⟨fs, cs, h, _⟩ := hx; exact .inr ⟨_, _, _, h⟩
  · cases h

theorem uns_ok (R : Rel G E st a w) (hT : TabOK P T) {b : Builtin} {ts : List TypeId} {args : List AV} {Args : List Value} {ty : TypeId} {cs : Array Bool} {r : AV} {u : Upd}
    (h : (opUns T st.h b ts args).val = some (.v r u)) (hv : VAs E args Args) :
    ∃ s, Go.builtin b ts.toArray ty cs Args.toArray = (do pure (.value (← s))) ∧ MOk P G E st a w s r u := by
  unfold opUns at h
  cases hlb : Nat.beq ts.length args.length
  · rw [hlb] at h; simp [ER.val] at h
  rw [hlb, Bool.not_true, cond_false] at h
  have hl := Nat.eq_of_beq_eq_true hlb
  split at h
  · rename_i x
    simp only [VAs] at hv
    obtain ⟨X, _, rfl, hx, rfl⟩ := hv
    exact ⟨_, rfl, (sliceData_ok h hx).mok R⟩
  · rename_i x n
    simp only [VAs] at hv
    obtain ⟨X, _, rfl, hx, N, _, rfl, hn, rfl⟩ := hv
    split at h
    · rename_i pt ts'
      match ts', hl with
      | [it], _ => exact ⟨_, rfl, unsafeString_ok R hT h hx hn⟩
    · simp [ER.val] at h
  · simp [ER.val] at h

theorem builtin_ok (R : Rel G E st a w) (hT : TabOK P T) {id : Nat} {b : Builtin} {ts : List TypeId} {args : List AV} {Args : List Value} {ty : TypeId} {cs : Array Bool} {r : AV} {u : Upd}
    (h : (opBuiltin T st.h id b ts args).val = some (.v r u)) (hv : VAs E args Args) (hid : id < st.nx) :
    ∃ s, Go.builtin b ts.toArray ty cs Args.toArray = (do pure (.value (← s))) ∧ MOk P G E st a w s r u := by
  unfold opBuiltin at h
  split at h
  · rename_i t u' s x
    simp only [VAs] at hv
    obtain ⟨S, _, rfl, hs, X, _, rfl, hx, rfl⟩ := hv
    refine ⟨_, rfl, ?_⟩
    split at h
    · rename_i e _ _ _ _ d _ _ _ _ ht hu
      split at h
      · rename_i te hte
        cases hc : Nat.beq te.zero.length te.size
        · simp [hc, ER.val] at h
        · rw [hc, cond_true] at h
          exact opAppend_ok R hT hte (hT _ _ ht).und (.inl ⟨_, (hT _ _ hu).und⟩) h hs hx hid
      · simp [ER.val] at h
    · rename_i e _ _ _ _ _ _ _ _ ht hu
      split at h
      · rename_i te hte
        cases hc : Nat.beq te.zero.length te.size
        · simp [hc, ER.val] at h
        · rw [hc, cond_true] at h
          exact opAppend_ok R hT hte (hT _ _ ht).und (.inr (hT _ _ hu).und) h hs hx hid
      · simp [ER.val] at h
    · simp [ER.val] at h
  · simp only [VAs] at hv
    obtain ⟨X, _, rfl, hx, rfl⟩ := hv
    exact ⟨_, rfl, (opLen_ok hT h hx).mok R⟩
  · rename_i t u' d x
    simp only [VAs] at hv
    obtain ⟨S, _, rfl, hs, X, _, rfl, hx, rfl⟩ := hv
    refine ⟨_, rfl, ?_⟩
    split at h
    · rename_i e _ _ _ _ ht
      split at h
      · rename_i te hte
        split at h
        · rename_i id' g' sz off len
          cases hc : Nat.beq te.size sz
          · simp [hc, ER.val] at h
          · rw [hc, cond_true] at h
            have := Nat.eq_of_beq_eq_true hc
            subst this
            exact opCopy_ok R hT hte (hT _ _ ht).und ⟨_, _, _, _, rfl⟩ h hs hx
        · simp [ER.val] at h
      · simp [ER.val] at h
    · simp [ER.val] at h
  · rename_i x xs
    cases hc : (x.anyInt && xs.all AV.anyInt)
    · simp [hc, ER.val] at h
    · rw [hc, cond_true, ER.val_pv, Leaf.v.injEq] at h
      obtain ⟨rfl, rfl⟩ := h
      simp only [Bool.and_eq_true] at hc
      simp only [VAs] at hv
      obtain ⟨X, Xs, rfl, hx, hxs⟩ := hv
      exact ⟨_, rfl, (min_ok (ts := ts.toArray) (ty := ty) hx hc.1 hxs hc.2).1.mok R⟩
  · rename_i x xs
    cases hc : (x.anyInt && xs.all AV.anyInt)
    · simp [hc, ER.val] at h
    · rw [hc, cond_true, ER.val_pv, Leaf.v.injEq] at h
      obtain ⟨rfl, rfl⟩ := h
      simp only [Bool.and_eq_true] at hc
      simp only [VAs] at hv
      obtain ⟨X, Xs, rfl, hx, hxs⟩ := hv
      exact ⟨_, rfl, (min_ok (ts := ts.toArray) (ty := ty) hx hc.1 hxs hc.2).2.mok R⟩
  · simp [ER.val] at h

end

end Go.Ev
