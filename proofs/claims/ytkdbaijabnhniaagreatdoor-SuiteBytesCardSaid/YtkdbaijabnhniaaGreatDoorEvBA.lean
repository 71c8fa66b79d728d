/- Functions that are handed memory: their contracts out of their runs. -/
import Derived.Test.YtkdbaijabnhniaaGreatDoorEvZ
namespace Go.Ev

theorem beginsN_get : ∀ {l : List Nat} {s n : Nat}, beginsN s n l = true → ∀ k, k < n → l[k]? = some (s + k)
  | l, s, 0, _, k, hk => by omega
  | [], s, n + 1, h, k, hk => by simp [beginsN] at h
  | x :: xs, s, n + 1, h, k, hk => by
    simp only [beginsN, Bool.and_eq_true] at h
    have hx := Nat.eq_of_beq_eq_true h.1
    cases k with
    | zero => simp [hx]
    | succ k =>
      rw [List.getElem?_cons_succ, beginsN_get h.2 k (by omega)]
      congr 1
      omega

section
variable {P : Program} {G : Gl} {T : Tab} {C : Orc} {an : Ann} {L : Code → St → LT}

theorem init_relI (hD : G.D = []) {E : Env} {w : World} {args : List AV} {xs : List Value} {hs : List HO} {n : Nat} (hC : Core G E (heapOf hs) w) (hv : VAs E args xs) (hn : args.length ≤ n) :
    Rel G E (St.init args (heapOf hs) hs.length n) { tmps := xs.toArray ++ Array.replicate (n - xs.toArray.size) undef, defers := [] } w := by
  obtain ⟨h1, h2⟩ := init_slots (h := heapOf hs) (base := hs.length) hv hn
  refine ⟨h1, hD.symm, h2, hC.heap, fun d cs h => (nomatch h), fun d _ => by rw [hC.box], hC.fz, hC.own, hC.disj, hC.glob, hC.lt, fun id h => ?_, by simp [St.init]⟩
  simp only [St.init] at h ⊢
  rw [heapOf_eq, List.getElem?_eq_none (by omega)]

/-- what comes back, by its own numbers -/
theorem exit_core {E F : Env} {st : St} {a : Act} {w v : World} {hs : List HO} {ids : List Nat} {hs1 hs2 : List HO} (hC : Core G E (heapOf hs) w) (R : Rel G F st a v) (hE : Evo E w F v) (hb : (beginsN 0 hs.length ids && nodupN ids) = true)
    (h1 : mapO st.h.get ids = some hs1) (h2 : mapO (renO (idxIn ids 0)) hs1 = some hs2) : Core G (subEnv F ids) (heapOf hs2) v ∧ Evo E w (subEnv F ids) v := by
  simp only [Bool.and_eq_true] at hb
  refine ⟨sub_core R (nodupN_ok hb.2) h1 h2, ⟨⟨hE.le.M, fun b m q => ?_, fun id g n q => ?_⟩, hE.size, hE.keep, fun blk q => ?_, fun blk m q => hE.frzS blk m q, hE.tape, hE.os, hE.output⟩⟩
  · rw [hC.own] at q; cases q
  · have hlt : id < hs.length := by
      obtain ⟨o, ho⟩ := hC.heap.isSome (id := id) (by simp [q])
      rw [heapOf_eq] at ho
      exact (List.getElem?_eq_some_iff.1 ho).1
    have hk := beginsN_get hb.1 id hlt
    rw [Nat.zero_add] at hk
    obtain ⟨e1, e2⟩ := subEnv_at (E := F) hk
    obtain ⟨g', n', q1, q2, q3⟩ := hE.le.I id g n q
    exact ⟨g', n', e1.trans q1, q2, fun e => ⟨(q3 e).1, e2.trans (q3 e).2⟩⟩
  · obtain ⟨i, _, q1, q2⟩ := subEnv_own q
    exact hE.ownS blk (.inr ⟨i, q1, q2⟩)

def ILeaf.ir : ILeaf → IR
  | .ret v hs => .ret v hs
  | .pan v hs => .pan v hs

theorem sub_hσ {F : Env} (ids : List Nat) : ∀ i k, idxIn ids 0 i = some k → (subEnv F ids).I k = F.I i ∧ (subEnv F ids).P k = F.P i := fun i k h => by
  obtain ⟨_, h⟩ := idxIn_get h
  exact subEnv_at h

theorem finI_ret {E F : Env} {st : St} {b : Act} {w v : World} {hs : List HO} {l : ILeaf} {fn : Func} (hT : TabOK P T) (hC : Core G E (heapOf hs) w) (hR : Rel G F st b v) (hE : Evo E w F v)
    (hk : finI T an hs.length fn.results.toList .ret st = some l.ir) : ∃ y, (results fn b.tmps).run P v = .ok y v ∧ endI G E w l (.returned y) v := by
  simp only [finI] at hk
  split at hk
  · rename_i vs hvs
    generalize hids : expo st.h hs.length (refs3 (tupE vs)) = ids at hk
    split at hk
    · rename_i z hs1 hz h1
      split at hk
      · rename_i hs2 h2
        cases hbg : (beginsN 0 hs.length ids && nodupN ids)
        · rw [hbg] at hk; cases hk
        · rw [hbg, cond_true] at hk
          obtain ⟨y, h4, h5⟩ := results_ok hT hR hvs
          obtain ⟨k1, k2⟩ := exit_core hC hR hE hbg h1 h2
          refine ⟨y, h4, ?_⟩
          cases l with
          | ret x hs3 =>
            simp only [ILeaf.ir, Option.some.injEq, IR.ret.injEq] at hk
            obtain ⟨rfl, rfl⟩ := hk
            exact ⟨subEnv F ids, k1, k2, y, rfl, ren3_ok (E := F) (F := subEnv F ids) rfl (sub_hσ ids) hz h5⟩
          | pan x hs3 => simp [ILeaf.ir] at hk
      · cases hk
    · cases hk
  · cases hk

theorem finI_pan {E F : Env} {st : St} {b : Act} {w v : World} {hs : List HO} {l : ILeaf} {rs : List ResultVar} {z : SV} {X : Value} (hC : Core G E (heapOf hs) w) (hR : Rel G F st b v) (hE : Evo E w F v) (hX : VS F.M z X)
    (hk : finI T an hs.length rs (.pan z) st = some l.ir) : endI G E w l (.panicked [{ v := X, recovered := false }]) v := by
  simp only [finI] at hk
  generalize hids : expo st.h hs.length [] = ids at hk
  split at hk
  · rename_i hs1 h1
    split at hk
    · rename_i hs2 h2
      cases hbg : (beginsN 0 hs.length ids && nodupN ids)
      · rw [hbg] at hk; cases hk
      · rw [hbg, cond_true] at hk
        obtain ⟨k1, k2⟩ := exit_core hC hR hE hbg h1 h2
        cases l with
        | pan x hs3 =>
          simp only [ILeaf.ir, Option.some.injEq, IR.pan.injEq] at hk
          obtain ⟨rfl, rfl⟩ := hk
          exact ⟨subEnv F ids, k1, k2, X, rfl, hX⟩
        | ret x hs3 => simp [ILeaf.ir] at hk
    · cases hk
  · cases hk

theorem runI_sound (hD : G.D = []) (A : Oks P G T C an) {f : FuncId} {fn : Func} {c : Code} {args : List AV} {hs : List HO} {r : IR} (hf : P.funcs[f]? = some fn) (hn : (fn.name == "runtime.NumGoroutine") = false) (hb : fn.body = some c) (hL : LoopsOK P G L c)
    (h : ∀ l, r.val hs = some l → runI T C an L fn args hs = some l.ir) : SoundI P G f args hs r := by
  intro l hl E w xs hC hv
  have h := h l hl
  refine invokes_of_calls hf hn (by rw [hb]; rfl) ?_ (fun v q => by obtain ⟨_, _, _, q⟩ := q; cases l <;> obtain ⟨_, q, _⟩ := q <;> cases q)
  unfold runI at h
  rw [hb] at h
  simp only at h
  cases hlen : Nat.ble args.length fn.ntmps
  · rw [hlen] at h; cases h
  rw [hlen, cond_true] at h
  refine calls_of_wp hf hb ?_
  refine runC_wp A c _ _ E _ w _ hL (init_relI hD hC hv (Nat.le_of_ble_eq_true hlen)) h fun e st' F e' b v hk he hR hE => ?_
  have hd := hR.defers.trans hD
  cases e with
  | normal =>
    have he : e' = .normal := he
    subst he
    exact ⟨hd, finI_ret A.tab hC hR hE hk⟩
  | ret =>
    have he : e' = .ret := he
    subst he
    exact ⟨hd, finI_ret A.tab hC hR hE hk⟩
  | exit i => simp [finI] at hk
  | goto i => simp [finI] at hk
  | pan z =>
    obtain ⟨X, rfl, hX⟩ := he
    exact ⟨hd, finI_pan hC hR hE hX hk⟩

end
end Go.Ev
