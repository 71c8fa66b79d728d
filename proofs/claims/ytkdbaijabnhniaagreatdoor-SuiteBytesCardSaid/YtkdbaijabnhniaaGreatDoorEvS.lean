/- Regions: both kinds. -/
import Derived.Test.YtkdbaijabnhniaaGreatDoorEvR
namespace Go.Ev
section
variable {P : Program} {G : Gl} {T : Tab} {C : Orc} {an : Ann} {ops : Array Oper} {R : Type}
variable (A : Oks P G T C an)
include A

theorem wanted_pan {E : Env} {st : St} {a : Act} {w : World} {o : Oper} {i : Nat} {x : SV} {u : Upd} (Rl : Rel G E st a w) (ho : ops[i]? = some o) (hm : mayPan o = true) (hw : wantedE ops st o = some true) (hd : okDst o.dst st.n = true)
    (h : (st.evalOp T C an o).val = some (.pan x u)) {K : Act → World → Prop} {Q : Exit → Act → World → Prop}
    (hQ : ∀ F X v, VS F.M x X → Rel G F (st.app u) a v → Evo E w F v → Q (.panic [{ v := X, recovered := false }]) a v) : wpOp P ops Q i K a w := by
  unfold wpOp
  rw [ho]
  simp only
  rw [wanted_ok Rl hw]
  simp only [if_true]
  refine .inl ?_
  cases hc : isCall o
  · have hp : ∃ y, o.op = .panic y := by
      unfold mayPan at hm
      unfold isCall at hc
      split at hm
      · rename_i y hy; exact ⟨y, hy⟩
      · rename_i c hcc
        rw [hcc] at hc
        cases hcal : c.callee <;> simp [hcal] at hm hc
      · cases hm
    exact op_panic Rl A.glob hp h K Q hQ
  · exact (A.call E st a w o Rl hc hd).2 x u h K Q hQ

theorem ordered_wp {K : St → Option R} {KP : SV → St → Option R} {r : R} {Q : Exit → Act → World → Prop} : ∀ (rest : List Oper) (i : Nat) (ds : List Done) (st : St) (E : Env) (a : Act) (w : World),
    (∀ j, rest[j]? = ops[i + j]?) → Rel G E st a w → runOps T C an ops false K KP rest i ds st = some r →
    (∀ F b v st', K st' = some r → Rel G F st' b v → Evo E w F v → Q .normal b v) →
    (∀ F x X st' b v, KP x st' = some r → VS F.M x X → Rel G F st' b v → Evo E w F v → Q (.panic [{ v := X, recovered := false }]) b v) →
    wpOps P ops Q (List.range' i rest.length) a w
  | [], i, ds, st, E, a, w, _, Rl, h, hK, _ => hK E a w st h Rl (.refl E w)
  | o :: rest, i, ds, st, E, a, w, hr, Rl, h, hK, hKP => by
    have ho : ops[i]? = some o := by have := hr 0; simpa using this.symm
    rw [List.length_cons, List.range'_succ, wpOps_cons]
    rcases runOps_cons h with ⟨d, e, h1, h2, rfl, _, h5⟩ | ⟨_, hm, hw, hd, x, u, h4, h5⟩
    · refine does_wp A Rl ho h1 h2 fun F b v hR hE => ?_
      exact ordered_wp rest (i + 1) _ _ F b v (fun j => by have := hr (j + 1); simp only [List.getElem?_cons_succ] at this; rw [this]; congr 1; omega) hR h5
        (fun F' b' v' st' q1 q2 q3 => hK F' b' v' st' q1 q2 (hE.trans q3)) (fun F' x X st' b' v' q1 q2 q3 q4 => hKP F' x X st' b' v' q1 q2 q3 (hE.trans q4))
    · exact wanted_pan A Rl ho hm hw hd h4 fun F X v q1 q2 q3 => hKP F x X _ a v h5 q1 q2 q3

omit A

/-- what is recorded along a run -/
def Chain (ops : Array Oper) : List Done → Nat → List Oper → List Done → Prop
  | _, _, [], l => l = []
  | ds, i, o :: rest, l => ∃ e l', l = e :: l' ∧ e.i = i ∧ e.o = o ∧ e.m = maskOf ds o ∧ okPairs ops true ds e = true ∧ Chain ops (e :: ds) (i + 1) rest l'

theorem runOps_chain {K : St → Option R} {KP : SV → St → Option R} {r : R} : ∀ (rest : List Oper) (i : Nat) (ds : List Done) (st : St), (∀ j, rest[j]? = ops[i + j]?) → runOps T C an ops true K KP rest i ds st = some r →
    ∃ l s', Runs T C an ops st l s' ∧ Chain ops ds i rest (l.map (·.1)) ∧ K s' = some r
  | [], i, ds, st, _, h => ⟨[], st, rfl, rfl, h⟩
  | o :: rest, i, ds, st, hr, h => by
    have ho : ops[i]? = some o := by have := hr 0; simpa using this.symm
    rcases runOps_cons h with ⟨d, e, h1, h2, rfl, h4, h5⟩ | ⟨h0, _⟩
    · obtain ⟨l, s', k1, k2, k3⟩ := runOps_chain rest (i + 1) _ _ (fun j => by have := hr (j + 1); simp only [List.getElem?_cons_succ] at this; rw [this]; congr 1; omega) h5
      exact ⟨(_, d) :: l, s', ⟨ho, h1, h2, rfl, k1⟩, ⟨_, _, rfl, rfl, rfl, rfl, h4, k2⟩, k3⟩
    · cases h0

theorem maskLook_mem : ∀ {ds : List Done} {i j : Nat}, (maskLook ds i).testBit j = true → ∃ y ∈ ds, y.i = i ∧ y.m.testBit j = true
  | [], i, j, h => by simp [maskLook] at h
  | d :: ds, i, j, h => by
    unfold maskLook at h
    cases hb : Nat.beq d.i i
    · rw [hb, cond_false] at h
      obtain ⟨y, h1, h2⟩ := maskLook_mem h
      exact ⟨y, by simp [h1], h2⟩
    · rw [hb, cond_true] at h
      exact ⟨d, by simp, Nat.eq_of_beq_eq_true hb, h⟩

theorem maskOf_bit {ds : List Done} {o : Oper} {j : Nat} (h : (maskOf ds o).testBit j = true) : ∃ e ∈ o.after.toList, Region.binds .any e = true ∧ (j = e.on ∨ ∃ y ∈ ds, y.i = e.on ∧ y.m.testBit j = true) := by
  unfold maskOf at h
  have key : ∀ (l : List Edge) (s : Nat), (l.foldl (fun s e => cond (Region.binds .any e) (s ||| 2 ^ e.on ||| maskLook ds e.on) s) s).testBit j = true →
      s.testBit j = true ∨ ∃ e ∈ l, Region.binds .any e = true ∧ (j = e.on ∨ ∃ y ∈ ds, y.i = e.on ∧ y.m.testBit j = true) := by
    intro l
    induction l with
    | nil => intro s h; exact .inl h
    | cons e l ih =>
      intro s h
      rw [List.foldl_cons] at h
      rcases ih _ h with q | ⟨e', h1, h2⟩
      · cases hb : Region.binds .any e
        · rw [hb, cond_false] at q; exact .inl q
        · rw [hb, cond_true, Nat.testBit_or, Nat.testBit_or, Nat.testBit_two_pow] at q
          simp only [Bool.or_eq_true, decide_eq_true_eq] at q
          rcases q with (q | q) | q
          · exact .inl q
          · exact .inr ⟨e, by simp, hb, .inl q.symm⟩
          · exact .inr ⟨e, by simp, hb, .inr (maskLook_mem q)⟩
      · exact .inr ⟨e', by simp [h1], h2⟩
  rcases key _ 0 h with q | q
  · simp at q
  · exact q

/-- two of a run: ordered, or free of each other -/
def Free (ops : Array Oper) (x y : Done) : Prop := x.i < y.i ∧ (y.m.testBit x.i = true ∨ indep ops x y = true)

structure Chained (ops : Array Oper) (all l : List Done) : Prop where
  pair : l.Pairwise (Free ops)
  mask : ∀ x ∈ l, ∀ j, x.m.testBit j = true → ∃ e ∈ x.o.after.toList, Region.binds .any e = true ∧ (j = e.on ∨ ∃ y ∈ all, y.i = e.on ∧ y.m.testBit j = true)
  back : ∀ x ∈ l, ∀ e ∈ x.o.after.toList, Region.binds .any e = true → e.on < x.i

theorem Chain.spec : ∀ (rest : List Oper) (i : Nat) (ds l : List Done), Chain ops ds i rest l → (∀ x ∈ ds, x.i < i) →
    Chained ops (ds ++ l) l ∧ (∀ x ∈ l, i ≤ x.i) ∧ (∀ x ∈ ds, ∀ y ∈ l, Free ops x y) ∧ l.map (·.i) = List.range' i rest.length
  | [], i, ds, l, h, _ => by
    simp only [Chain] at h
    subst h
    exact ⟨⟨.nil, by simp, by simp⟩, by simp, by simp, rfl⟩
  | o :: rest, i, ds, l, h, hds => by
    obtain ⟨e, l', rfl, rfl, rfl, hm, hok, h⟩ := h
    obtain ⟨⟨k1, k2, k3⟩, k4, k5, k6⟩ := Chain.spec rest _ _ l' h (fun x hx => by
      rcases List.mem_cons.1 hx with q | q
      · subst q; omega
      · have := hds x q; omega)
    simp only [okPairs, Bool.not_true, Bool.false_or, Bool.and_eq_true, List.all_eq_true, Nat.blt_eq, Bool.or_eq_true, Bool.not_eq_true'] at hok
    refine ⟨⟨?_, fun x hx j hj => ?_, fun x hx => ?_⟩, fun x hx => ?_, fun x hx y hy => ?_, ?_⟩
    · exact List.pairwise_cons.2 ⟨fun y hy => k5 e (by simp) y hy, k1⟩
    · rcases List.mem_cons.1 hx with q | q
      · subst q
        rw [hm] at hj
        obtain ⟨e', h1, h2, h3⟩ := maskOf_bit hj
        refine ⟨e', h1, h2, h3.imp id fun ⟨y, hy, h4⟩ => ⟨y, by simp [hy], h4⟩⟩
      · obtain ⟨e', h1, h2, h3⟩ := k2 x q j hj
        refine ⟨e', h1, h2, h3.imp id fun ⟨y, hy, h4⟩ => ⟨y, ?_, h4⟩⟩
        simp only [List.mem_append, List.mem_cons] at hy ⊢
        rcases hy with (q | q) | q
        · exact .inr (.inl q)
        · exact .inl q
        · exact .inr (.inr q)
    · rcases List.mem_cons.1 hx with q | q
      · subst q; exact fun e he hbd => (hok.1 e he).resolve_left (by rw [hbd]; simp)
      · exact k3 x q
    · rcases List.mem_cons.1 hx with q | q
      · subst q; exact Nat.le_refl _
      · have := k4 x q; omega
    · rcases List.mem_cons.1 hy with q | q
      · subst q; exact ⟨hds x hx, hok.2 x hx⟩
      · exact k5 x (by simp [hx]) y q
    · rw [List.map_cons, k6, List.length_cons, List.range'_succ]

end
end Go.Ev
