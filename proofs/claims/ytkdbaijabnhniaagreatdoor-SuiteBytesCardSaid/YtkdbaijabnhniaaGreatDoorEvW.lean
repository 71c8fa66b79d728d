/- Functions that are handed no memory: contracts. -/
import Derived.Test.YtkdbaijabnhniaaGreatDoorEvV
namespace Go.Ev
open Classical

def PR.val : PR → Option Leaf
  | .ret v => some (.v v .none)
  | .pan x => some (.pan x .none)
  | .br c a b => cond c a.val b.val
  | .fail => none

theorem PR.val_none : ∀ {r : PR} {l : Leaf}, r.val = some l → (∃ x, l = .v x .none) ∨ ∃ x, l = .pan x .none
  | .ret v, l, h => by simp only [PR.val, Option.some.injEq] at h; exact .inl ⟨v, h.symm⟩
  | .pan v, l, h => by simp only [PR.val, Option.some.injEq] at h; exact .inr ⟨v, h.symm⟩
  | .br c a b, l, h => by
    cases c
    · exact PR.val_none (r := b) h
    · exact PR.val_none (r := a) h
  | .fail, l, h => by cases h

structure PEvo (M : Nat → Option (List Value)) (w : World) (M' O' : Nat → Option (List Value)) (w' : World) : Prop where
  le : ∀ b m, M b = some m → M' b = some m
  newM : ∀ b m, M' b = some m → M b = some m ∨ w.heap.size ≤ b
  newO : ∀ b m, O' b = some m → w.heap.size ≤ b ∧ M' b = none ∧ ∃ c e z, w'.heap[b]? = some (.cells c e z) ∧ ZOk z c.size ∧ c.toList = m
  fz : FOK M' w'
  size : w.heap.size ≤ w'.heap.size
  keep : ∀ b, b < w.heap.size → w'.heap[b]? = w.heap[b]?
  tape : w'.tape = w.tape
  os : w'.os = w.os
  output : w'.output = w.output

def envP (M O : Nat → Option (List Value)) : Env := ⟨M, O, fun _ => none, fun _ => (0, 0, 0), fun _ => none⟩

/-- what a function does, when called: by code, or by itself -/
def Invokes (P : Program) (f : FuncId) (xs : Array Value) (w : World) (R : Ending → World → Prop) : Prop :=
  ∀ (o : Oper) (a : Act) (K : Act → World → Prop) (Q : Exit → Act → World → Prop), (∀ y v, R (.returned y) v → K (a.put o.dst y) v) → (∀ ch v, R (.panicked ch) v → Q (.panic ch) a v) → o.upon P a K Q ((callFunc f xs).run P w)

def endP (M : Nat → Option (List Value)) (w : World) : Leaf → Ending → World → Prop
  | .v v _, e, w' => ∃ M' O' y, PEvo M w M' O' w' ∧ e = .returned y ∧ VA (envP M' O') v y
  | .pan x _, e, w' => ∃ M' O' X, PEvo M w M' O' w' ∧ e = .panicked [{ v := X, recovered := false }] ∧ VS M' x X

def SoundP (P : Program) (G : Gl) (f : FuncId) (args : List AV) (r : PR) : Prop :=
  ∀ l, r.val = some l → ∀ M w xs, GOK G M → FOK M w → VAs (envP M fun _ => none) args xs → Invokes P f xs.toArray w (endP M w l)

theorem invokes_of_calls {P : Program} {f : FuncId} {fn : Func} {xs : Array Value} {w : World} {R : Ending → World → Prop} (hf : P.funcs[f]? = some fn) (hn : (fn.name == "runtime.NumGoroutine") = false) (hb : fn.body.isNone = false)
    (h : Calls P f xs w R) (hout : ∀ v, ¬ R .outgrown v) : Invokes P f xs w R := by
  intro o a K Q hK hQ
  have : (callFunc f xs).run P w = .ok (.enter f xs) w := by
    simp only [callFunc, Sem.run_bind, run_program, Result.andThen_ok, hf, hn, hb, Bool.false_eq_true, if_false, Sem.run_pure]
  rw [this, Oper.upon_enter]
  refine h.mono fun e v he => ?_
  cases e with
  | returned y => exact hK y v he
  | panicked ch => exact hQ ch v he
  | outgrown => exact absurd he (hout v)

section
variable {P : Program} {G : Gl} {T : Tab} {C : Orc} {an : Ann} {L : Code → St → LT}

theorem init_slots {E : Env} {args : List AV} {xs : List Value} {h : Heap} {base n : Nat} (hv : VAs E args xs) (hn : args.length ≤ n) :
    (∀ i, VA E ((St.init args h base n).s i) ((xs.toArray ++ Array.replicate (n - xs.toArray.size) undef).getD i undef)) ∧ (xs.toArray ++ Array.replicate (n - xs.toArray.size) undef).size = n := by
  have hl := hv.len
  refine ⟨fun i => ?_, by simp; omega⟩
  simp only [St.init, Array.getD_eq_getD_getElem?, Array.getElem?_append, List.size_toArray, List.getElem?_toArray]
  by_cases hi : i < xs.length
  · have hin : Nat.blt i n = true := by rw [Nat.blt_eq]; omega
    rw [if_pos hi, hin, cond_true]
    have ha : i < args.length := by omega
    obtain ⟨y, h1, h2⟩ := hv.get i (List.getElem?_eq_getElem ha)
    simp only [List.getD_eq_getElem?_getD, List.getElem?_eq_getElem ha, h1, Option.getD_some]
    exact h2
  · rw [if_neg hi]
    have hu : VA E (.tup []) undef := by simp only [VA, VAs]; exact ⟨[], rfl, rfl⟩
    have h1 : (cond (Nat.blt i n) (args.getD i (.tup [])) (.tup [])) = .tup [] := by
      cases Nat.blt i n
      · rfl
      · rw [cond_true, List.getD_eq_getElem?_getD, List.getElem?_eq_none (by omega)]; rfl
    rw [h1, Array.getElem?_replicate]
    split <;> exact hu

theorem init_rel {M : Nat → Option (List Value)} {w : World} {args : List AV} {xs : List Value} {n : Nat} (hD : G.D = []) (hG : GOK G M) (hF : FOK M w) (hv : VAs (envP M fun _ => none) args xs) (hn : args.length ≤ n) :
    Rel G (envP M fun _ => none) (St.init args [] 0 n) { tmps := xs.toArray ++ Array.replicate (n - xs.toArray.size) undef, defers := [] } w := by
  obtain ⟨h1, h2⟩ := init_slots (h := []) (base := 0) hv hn
  refine ⟨h1, hD.symm, h2, ⟨fun id o h => (nomatch h), fun id _ => rfl, fun id o h => (nomatch h)⟩, fun d cs h => (nomatch h), fun d _ => rfl, hF, rfl, ⟨fun d blk h => (nomatch h), fun id h => (nomatch h)⟩, hG, fun blk h => ?_, fun id _ => rfl, by simp [St.init]⟩
  rcases h with ⟨d, h⟩ | ⟨id, h, _⟩ <;> cases h

open Classical in
/-- what is handed over: the blocks that the call made -/
noncomputable def given (F : Env) (v : World) (b : Nat) : Option (List Value) :=
  if Owned F b then (match v.heap[b]? with
    | some (.cells c _ z) => if ZOk z c.size then some c.toList else none
    | _ => none) else none

theorem out0_ok {F : Env} {st : St} {a : Act} {v : World} (R : Rel G F st a v) {x r : AV} {X : Value} (h : out0 st.h x = some r) (hx : VA F x X) : VA (envP F.M (given F v)) r X := by
  unfold out0 at h
  split at h
  · injection h with h; subst h
    simpa only [VA, envP] using hx
  · rename_i id g sz off len
    split at h
    · rename_i g' sz' n f ty' ho
      obtain ⟨hc, rfl⟩ := cond_some h
      simp only [Bool.and_eq_true] at hc
      have e1 := Nat.eq_of_beq_eq_true hc.1
      have e2 := Nat.eq_of_beq_eq_true hc.2
      subst e1 e2
      have hr := R.heap.obj id _ ho
      simp only [ObjR] at hr
      obtain ⟨hI, hbt, c, e, z, hcc, hzc, hct, hrows⟩ := hr
      simp only [VA] at hx
      obtain ⟨_, g1, n1, q, _, hx⟩ := hx
      rw [hI] at q; injection q with q; injection q with q1 q2
      obtain ⟨hon, cap, A, hlc, htt, hA, rfl⟩ := hx (by omega)
      subst q2
      have hgv : given F v (F.blk id) = some c.toList := by
        unfold given
        rw [if_pos (.inr ⟨id, by simp [hI], rfl⟩), hcc]
        simp only
        rw [if_pos hzc]
      simp only [VA, envP]
      refine ⟨F.blk id, A, cap, c.toList, rfl, hlc, fun hp => ?_, hgv, fun i hi => ?_⟩
      · rw [hA hp, Array.length_toList, hct]
        rw [Nat.add_mul] at htt
        omega
      · have h2 := hrows (i + off) (by omega)
        rw [hA (by omega), show F.bas id + off * sz + i * sz = F.bas id + (i + off) * sz by rw [Nat.add_mul]; omega]
        exact h2
    · cases h
  · cases h

theorem outs_ok {E F : Env} {f : AV → Option AV} (hf : ∀ x r X, f x = some r → VA E x X → VA F r X) : ∀ {vs rs : List AV} {ys : List Value}, outs f vs = some rs → VAs E vs ys → VAs F rs ys
  | [], rs, ys, h, hv => by
    simp only [outs, Option.some.injEq] at h
    subst h
    simpa only [VAs] using hv
  | x :: vs, rs, ys, h, hv => by
    simp only [outs] at h
    split at h
    · rename_i r rs' h1 h2
      injection h with h
      subst h
      simp only [VAs] at hv ⊢
      obtain ⟨y, q, rfl, h3, h4⟩ := hv
      exact ⟨y, q, rfl, hf _ _ _ h1 h3, outs_ok hf h2 h4⟩
    · cases h

theorem out2_ok {F : Env} {st : St} {a : Act} {v : World} (R : Rel G F st a v) {x r : AV} {X : Value} (h : out2 st.h x = some r) (hx : VA F x X) : VA (envP F.M (given F v)) r X := by
  have h0 := fun x r X h1 h2 => out0_ok R (x := x) (r := r) (X := X) h1 h2
  have h1 : ∀ x r X, out1 st.h x = some r → VA F x X → VA (envP F.M (given F v)) r X := by
    intro x r X h hx
    unfold out1 at h
    split at h
    · rename_i cs
      cases hc : outs (out0 st.h) cs with
      | none => simp [hc] at h
      | some rs =>
        simp only [hc, Option.map_some, Option.some.injEq] at h
        subst h
        simp only [VA] at hx ⊢
        obtain ⟨ys, rfl, hv⟩ := hx
        exact ⟨ys, rfl, outs_ok h0 hc hv⟩
    · exact h0 _ _ _ h hx
  unfold out2 at h
  split at h
  · rename_i cs
    cases hc : outs (out1 st.h) cs with
    | none => simp [hc] at h
    | some rs =>
      simp only [hc, Option.map_some, Option.some.injEq] at h
      subst h
      simp only [VA] at hx ⊢
      obtain ⟨ys, rfl, hv⟩ := hx
      exact ⟨ys, rfl, outs_ok h1 hc hv⟩
  · exact h1 _ _ _ h hx

theorem pevo_of {M : Nat → Option (List Value)} {w v : World} {F : Env} (hE : Evo (envP M fun _ => none) w F v) (fz : FOK F.M v) (disj : Disj F) : PEvo M w F.M (given F v) v := by
  have hno : ∀ b, ¬ Owned (envP M fun _ => none) b := fun b h => by rcases h with ⟨d, h⟩ | ⟨id, h, _⟩ <;> cases h
  refine ⟨hE.le.M, fun b m h => ?_, fun b m h => ?_, fz, hE.size, fun b hb => hE.keep b hb (hno b), hE.tape, hE.os, hE.output⟩
  · rcases hE.frzS b m h with q | q | q
    · exact .inl q
    · exact absurd q (hno b)
    · exact .inr q
  · unfold given at h
    split at h
    · rename_i ho
      refine ⟨(hE.ownS b ho).resolve_left (hno b), ?_, ?_⟩
      · rcases ho with ⟨d, q⟩ | ⟨id, q, rfl⟩
        · exact (disj.box d b q).1
        · exact (disj.obj id q).1
      · split at h
        · rename_i c e z hc
          split at h
          · rename_i hz
            injection h with h
            exact ⟨c, e, z, hc, hz, h⟩
          · cases h
        · cases h
    · cases h

/-- a function's contract out of its run -/
theorem runP_sound (hD : G.D = []) (A : Oks P G T C an) {f : FuncId} {fn : Func} {c : Code} {args : List AV} {r : PR} (hf : P.funcs[f]? = some fn) (hn : (fn.name == "runtime.NumGoroutine") = false) (hb : fn.body = some c) (hL : LoopsOK P G L c)
    (h : ∀ l, r.val = some l → runP T C an L fn args = some (match l with | .v v _ => .ret v | .pan x _ => .pan x)) : SoundP P G f args r := by
  intro l hl M w xs hG hF hv
  have h := h l hl
  refine invokes_of_calls hf hn (by rw [hb]; rfl) ?_ (fun v q => by cases l <;> obtain ⟨_, _, _, _, q, _⟩ := q <;> cases q)
  unfold runP at h
  rw [hb] at h
  simp only at h
  cases hlen : Nat.ble args.length fn.ntmps
  · rw [hlen] at h; cases h
  rw [hlen, cond_true] at h
  refine calls_of_wp hf hb ?_
  refine runC_wp A c _ _ _ _ w _ hL (init_rel hD hG hF hv (Nat.le_of_ble_eq_true hlen)) h fun e st' F e' b v hk he hR hE => ?_
  have ret : ∀ {vs : List AV} {x : AV}, resultsE T an st' fn.results.toList = some vs → out2 st'.h (tupE vs) = some x → l = .v x .none →
      b.defers = [] ∧ ∃ y, (results fn b.tmps).run P v = .ok y v ∧ endP M w l (.returned y) v := by
    intro vs x h1 h2 h3
    obtain ⟨y, h4, h5⟩ := results_ok A.tab hR h1
    refine ⟨hR.defers.trans hD, y, h4, ?_⟩
    subst h3
    exact ⟨F.M, given F v, y, pevo_of hE hR.fz hR.disj, rfl, out2_ok hR h2 h5⟩
  rcases PR.val_none hl with ⟨x, rfl⟩ | ⟨x, rfl⟩
  · have fin : ∀ {e}, (e = Ex.normal ∨ e = Ex.ret) → finP T an fn.results.toList e st' = some (.ret x) → b.defers = [] ∧ ∃ y, (results fn b.tmps).run P v = .ok y v ∧ endP M w (.v x .none) (.returned y) v := by
      intro e he hk
      have hk : (match resultsE T an st' fn.results.toList with
        | some vs => match out2 st'.h (tupE vs) with
          | some v => some (PR.ret v)
          | none => none
        | none => none) = some (.ret x) := by
        rcases he with rfl | rfl <;> exact hk
      split at hk
      · rename_i vs hvs
        split at hk
        · rename_i z hz
          simp only [Option.some.injEq, PR.ret.injEq] at hk
          exact ret hvs hz (by rw [hk])
        · cases hk
      · cases hk
    cases e with
    | normal =>
      have he : e' = .normal := he
      subst he
      exact fin (.inl rfl) hk
    | ret =>
      have he : e' = .ret := he
      subst he
      exact fin (.inr rfl) hk
    | pan z => simp [finP] at hk
    | exit i => simp [finP] at hk
    | goto i => simp [finP] at hk
  · cases e with
    | pan z =>
      obtain ⟨X, rfl, hX⟩ := he
      simp only [finP, Option.some.injEq, PR.pan.injEq] at hk
      subst hk
      exact ⟨hR.defers.trans hD, F.M, given F v, X, pevo_of hE hR.fz hR.disj, rfl, hX⟩
    | normal =>
      simp only [finP] at hk
      split at hk
      · split at hk <;> simp at hk
      · cases hk
    | ret =>
      simp only [finP] at hk
      split at hk
      · split at hk <;> simp at hk
      · cases hk
    | exit i => simp [finP] at hk
    | goto i => simp [finP] at hk

end
end Go.Ev
