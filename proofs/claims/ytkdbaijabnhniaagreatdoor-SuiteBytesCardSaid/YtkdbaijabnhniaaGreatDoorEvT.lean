/- A region that is run in any order. -/
import Derived.Test.YtkdbaijabnhniaaGreatDoorEvS
namespace Go.Ev
section
variable {P : Program} {G : Gl} {T : Tab} {C : Orc} {an : Ann} {ops : Array Oper}

theorem listed_set (t : Array Bool) (d i : Nat) (hd : d < t.size) (v : Bool) : (t.setIfInBounds d true).getD i v = if i = d then true else t.getD i v := by
  simp only [Array.getD_eq_getD_getElem?, Array.getElem?_setIfInBounds]
  by_cases h : i = d
  · subst h; simp [hd]
  · simp [h, Ne.symm h]

theorem listed_def (t : Array Bool) (i : Nat) (hd : i < t.size) (u v : Bool) : t.getD i u = t.getD i v := by
  simp [Array.getD_eq_getD_getElem?, hd]

theorem Runs.at {s' : St} {l : List (Done × Did)} : ∀ {s : St}, Runs T C an ops s l s' → ∀ x ∈ l, ops[x.1.i]? = some x.1.o := by
  induction l with
  | nil => intro s _ x hx; cases hx
  | cons y l ih =>
    intro s h x hx
    obtain ⟨e, d⟩ := y
    simp only [Runs] at h
    obtain ⟨h1, _, _, _, h⟩ := h
    rcases List.mem_cons.1 hx with q | q
    · subst q; exact h1
    · exact ih h x q

theorem mem_ready {listed : Array Bool} {i : Nat} : i ∈ Region.ready .any ops listed ↔ ∃ o, ops[i]? = some o ∧ listed.getD i true = false ∧ ∀ e ∈ o.after.toList, Region.binds .any e = true → listed.getD e.on false = true := by
  unfold Region.ready
  simp only [List.mem_filter, List.mem_range, Bool.and_eq_true, Bool.not_eq_true']
  constructor
  · rintro ⟨h1, h2, h3⟩
    refine ⟨ops[i], by simp [h1], h2, fun e he hb => ?_⟩
    simp only [Array.getElem?_eq_getElem h1, Option.map_some, Option.getD_some, Array.all_eq_true'] at h3
    have := h3 e (by simpa using he)
    simpa [hb] using this
  · rintro ⟨o, h1, h2, h3⟩
    have hi : i < ops.size := by
      rcases Nat.lt_or_ge i ops.size with q | q
      · exact q
      · simp [Array.getElem?_eq_none q] at h1
    refine ⟨hi, h2, ?_⟩
    simp only [h1, Option.map_some, Option.getD_some, Array.all_eq_true']
    intro e he
    cases hb : Region.binds .any e
    · simp
    · simpa using h3 e (by simpa using he) hb

structure Left (ops : Array Oper) (all : List Done) (l : List (Done × Did)) (listed : Array Bool) : Prop where
  size : listed.size = ops.size
  left : ∀ i, i < ops.size → (listed.getD i false = false ↔ ∃ x ∈ l, x.1.i = i)
  pair : (l.map (·.1)).Pairwise (Free ops)
  sub : ∀ x ∈ l, x.1 ∈ all
  shut : ∀ x ∈ all, listed.getD x.i false = true → ∀ j, x.m.testBit j = true → listed.getD j false = true

variable (A : Oks P G T C an)
include A

theorem any_wp {all : List Done} (hm : ∀ x ∈ all, ∀ j, x.m.testBit j = true → ∃ e ∈ x.o.after.toList, Region.binds .any e = true ∧ (j = e.on ∨ ∃ y ∈ all, y.i = e.on ∧ y.m.testBit j = true))
    (hb : ∀ x ∈ all, ∀ e ∈ x.o.after.toList, Region.binds .any e = true → e.on < x.i) (hat : ∀ x ∈ all, ops[x.i]? = some x.o) {s' : St} {Q : Exit → Act → World → Prop} :
    ∀ (n : Nat) (l : List (Done × Did)) (listed : Array Bool) (st : St) (E : Env) (a : Act) (w : World), l.length = n → Left ops all l listed → Rel G E st a w → Runs T C an ops st l s' →
      (∀ F b v, Rel G F s' b v → Evo E w F v → Q .normal b v) → wpAny P .any ops Q n listed a w
  | 0, l, listed, st, E, a, w, hn, hL, hR, hr, hQ => by
    have hl := List.length_eq_zero_iff.1 hn
    subst hl
    have : st = s' := hr
    subst this
    refine ⟨?_, hQ E a w hR (.refl E w)⟩
    rw [List.eq_nil_iff_forall_not_mem]
    intro i hi
    obtain ⟨o, h1, h2, _⟩ := mem_ready.1 hi
    have hi : i < ops.size := by
      rcases Nat.lt_or_ge i ops.size with q | q
      · exact q
      · simp [Array.getElem?_eq_none q] at h1
    rw [listed_def _ _ (hL.size ▸ hi) true false] at h2
    obtain ⟨x, hx, _⟩ := (hL.left i hi).1 h2
    cases hx
  | n + 1, l, listed, st, E, a, w, hn, hL, hR, hr, hQ => by
    have hlt : ∀ x ∈ l, x.1.i < ops.size := fun x hx => by
      have := hat x.1 (hL.sub x hx)
      rcases Nat.lt_or_ge x.1.i ops.size with q | q
      · exact q
      · simp [Array.getElem?_eq_none q] at this
    have hun : ∀ x ∈ l, listed.getD x.1.i false = false := fun x hx => (hL.left _ (hlt x hx)).2 ⟨x, hx, rfl⟩
    refine ⟨fun hnil => ?_, fun i hi => ?_⟩
    · exfalso
      cases l with
      | nil => simp at hn
      | cons x l =>
        have hp := List.pairwise_cons.1 hL.pair
        have : x.1.i ∈ Region.ready .any ops listed := by
          refine mem_ready.2 ⟨x.1.o, hat _ (hL.sub x (by simp)), ?_, fun e he hbd => ?_⟩
          · rw [listed_def _ _ (hL.size ▸ hlt x (by simp)) true false]; exact hun x (by simp)
          · have hlt2 := hb _ (hL.sub x (by simp)) e he hbd
            cases hq : listed.getD e.on false
            · obtain ⟨y, hy, hyi⟩ := (hL.left e.on (by have := hlt x (by simp); omega)).1 hq
              rcases List.mem_cons.1 hy with q | q
              · subst q; omega
              · have h5 : x.1.i < y.1.i := (hp.1 y.1 (List.mem_map.2 ⟨y, q, rfl⟩)).1
                omega
            · rfl
        rw [hnil] at this
        cases this
    · obtain ⟨o, h1, h2, h3⟩ := mem_ready.1 hi
      have hi : i < ops.size := by
        rcases Nat.lt_or_ge i ops.size with q | q
        · exact q
        · simp [Array.getElem?_eq_none q] at h1
      rw [listed_def _ _ (hL.size ▸ hi) true false] at h2
      obtain ⟨x, hx, hxi⟩ := (hL.left i hi).1 h2
      obtain ⟨pre, post, rfl⟩ := List.append_of_mem hx
      have ho : x.1.o = o := by have := hat _ (hL.sub x hx); rw [hxi, h1] at this; exact (Option.some.inj this).symm
      have hdone : ∀ j, x.1.m.testBit j = true → listed.getD j false = true := fun j hj => by
        obtain ⟨e, he, hbd, hh⟩ := hm _ (hL.sub x hx) j hj
        have hon := h3 e (ho ▸ he) hbd
        rcases hh with q | ⟨y, hy, hyi, hyj⟩
        · exact q ▸ hon
        · exact hL.shut y hy (hyi ▸ hon) j hyj
      have hpw := hL.pair
      rw [List.map_append, List.map_cons, List.pairwise_append] at hpw
      obtain ⟨p1, p2, p3⟩ := hpw
      rw [List.pairwise_cons] at p2
      have hfr := Runs.front hr (fun p hp => by
        rcases (p3 p.1 (List.mem_map.2 ⟨p, hp, rfl⟩) x.1 (by simp)).2 with q | q
        · have := hdone _ q
          rw [hun p (by simp [hp])] at this
          cases this
        · exact q)
      obtain ⟨e, d⟩ := x
      simp only at hxi ho hdone p2 p3
      simp only [Runs] at hfr
      obtain ⟨f1, f2, f3, f4, f5⟩ := hfr
      rw [hxi] at f1
      refine does_wp A hR f1 f2 f3 fun F b v hR' hE => ?_
      refine any_wp hm hb hat n (pre ++ post) _ _ F b v (by simp at hn ⊢; omega) ⟨by simpa using hL.size, fun k hk => ?_, ?_, fun y hy => hL.sub y ?_, fun y hy hly j hj => ?_⟩ hR' f5 (fun F' b' v' q1 q2 => hQ F' b' v' q1 (hE.trans q2))
      · rw [listed_set _ _ _ (hL.size ▸ hi)]
        by_cases hki : k = i
        · subst hki
          simp only [if_true, Bool.true_eq_false, false_iff, not_exists, not_and]
          intro y hy hyi
          rcases List.mem_append.1 hy with q | q
          · have := (p3 y.1 (List.mem_map.2 ⟨y, q, rfl⟩) e (by simp)).1; omega
          · have := (p2.1 y.1 (List.mem_map.2 ⟨y, q, rfl⟩)).1; omega
        · rw [if_neg hki, hL.left k hk]
          constructor
          · rintro ⟨y, hy, hyk⟩
            rcases List.mem_append.1 hy with q | q
            · exact ⟨y, by simp [q], hyk⟩
            · rcases List.mem_cons.1 q with q | q
              · subst q; simp only at hyk; omega
              · exact ⟨y, by simp [q], hyk⟩
          · rintro ⟨y, hy, hyk⟩
            rcases List.mem_append.1 hy with q | q
            · exact ⟨y, by simp [q], hyk⟩
            · exact ⟨y, by simp [q], hyk⟩
      · rw [List.map_append, List.pairwise_append]
        exact ⟨p1, p2.2, fun y hy z hz => p3 y hy z (by simp only [List.mem_cons]; exact .inr hz)⟩
      · rcases List.mem_append.1 hy with q | q
        · simp [q]
        · simp [q]
      · rw [listed_set _ _ _ (hL.size ▸ hi)] at hly ⊢
        by_cases hjk : j = i
        · rw [if_pos hjk]
        · rw [if_neg hjk]
          by_cases hyk : y.i = i
          · have hyo : y.o = o := by have := hat y hy; rw [hyk, h1] at this; exact (Option.some.inj this).symm
            obtain ⟨e', he', hbd, hh⟩ := hm y hy j hj
            have hon := h3 e' (hyo ▸ he') hbd
            rcases hh with q | ⟨z, hz, hzi, hzj⟩
            · exact q ▸ hon
            · exact hL.shut z hz (hzi ▸ hon) j hzj
          · rw [if_neg hyk] at hly
            exact hL.shut y hy hly j hj

theorem region_wp {R : Type} {K : St → Option R} {KP : SV → St → Option R} {r : R} {Q : Exit → Act → World → Prop} {id : Nat} {draw : Bool} {st : St} {E : Env} {a : Act} {w : World}
    (hR : Rel G E st a w) (h : runOps T C an ops draw K KP ops.toList 0 [] st = some r)
    (hK : ∀ F b v st', K st' = some r → Rel G F st' b v → Evo E w F v → Q .normal b v)
    (hKP : ∀ F x X st' b v, KP x st' = some r → VS F.M x X → Rel G F st' b v → Evo E w F v → Q (.panic [{ v := X, recovered := false }]) b v) :
    (Code.region id ops draw).wp P Q a w := by
  have hj : ∀ j, ops.toList[j]? = ops[0 + j]? := fun j => by simp
  cases draw
  · refine wp_region ?_
    have := ordered_wp A ops.toList 0 [] st E a w hj hR h hK hKP
    rwa [← List.range_eq_range', Array.length_toList] at this
  · obtain ⟨l, s', h1, h2, h3⟩ := runOps_chain ops.toList 0 [] st hj h
    obtain ⟨k1, _, _, k4⟩ := Chain.spec _ _ _ _ h2 (by simp)
    simp only [List.nil_append] at k1
    have hlen : l.length = ops.size := by have := congrArg List.length k4; simpa using this
    have hmem : ∀ i, (∃ x ∈ l, x.1.i = i) ↔ i < ops.size := fun i => by
      have : i ∈ (l.map (·.1)).map (·.i) ↔ i < ops.size := by rw [k4]; simp [List.mem_range'_1]
      rw [← this]
      simp
    have hdr : ({ w with drawn := w.drawn + 1 } : World).heap = w.heap := rfl
    obtain ⟨hR', hE'⟩ := hR.agree (v := { w with drawn := w.drawn + 1 }) (Nat.le_refl _) (fun _ _ => rfl) rfl rfl rfl
    refine wp_region_any A.mixed ?_
    refine any_wp A k1.mask k1.back (fun x hx => ?_) ops.size l _ st E a _ hlen ⟨by simp, fun i hi => ?_, k1.pair, fun x hx => List.mem_map.2 ⟨x, hx, rfl⟩, fun x hx hl => ?_⟩ hR' h1 (fun F b v q1 q2 => hK F b v s' h3 q1 (hE'.trans q2))
    · obtain ⟨y, hy, rfl⟩ := List.mem_map.1 hx
      exact Runs.at (s := st) h1 y hy
    · rw [hmem i]
      simp [Array.getD_eq_getD_getElem?, hi]
    · exfalso
      by_cases q : x.i < ops.size
      · simp [Array.getD_eq_getD_getElem?, q] at hl
      · simp [Array.getD_eq_getD_getElem?, q] at hl

end
end Go.Ev
