/- Handing over memory: ids anew. -/
import Derived.Test.YtkdbaijabnhniaaGreatDoorEvX
namespace Go.Ev

theorem nthN_eq : ∀ (l : List Nat) (k : Nat), nthN l k = l[k]?
  | [], k => by simp [nthN]
  | x :: xs, 0 => rfl
  | x :: xs, k + 1 => by simp [nthN, nthN_eq xs k]

theorem heapFrom_eq : ∀ (l : List HO) (s k : Nat), (heapFrom s l).get k = if k < s then none else l[k - s]?
  | [], s, k => by simp [heapFrom, Heap.get]
  | x :: xs, s, k => by
    simp only [heapFrom, Heap.get, heapFrom_eq xs (s + 1) k]
    by_cases h : k = s
    · subst h; simp
    · rw [beq_ne h, cond_false]
      by_cases h2 : k < s
      · rw [if_pos h2, if_pos (by omega)]
      · rw [if_neg h2, if_neg (by omega), show k - s = (k - (s + 1)) + 1 by omega, List.getElem?_cons_succ]

theorem heapOf_eq (l : List HO) (k : Nat) : (heapOf l).get k = l[k]? := by
  unfold heapOf
  rw [heapFrom_eq]
  simp

theorem idxIn_get : ∀ {l : List Nat} {s id k : Nat}, idxIn l s id = some k → s ≤ k ∧ l[k - s]? = some id
  | [], s, id, k, h => by cases h
  | x :: xs, s, id, k, h => by
    unfold idxIn at h
    cases hb : Nat.beq id x
    · rw [hb, cond_false] at h
      obtain ⟨h1, h2⟩ := idxIn_get h
      refine ⟨by omega, ?_⟩
      rw [show k - s = (k - (s + 1)) + 1 by omega, List.getElem?_cons_succ]
      exact h2
    · rw [hb, cond_true] at h
      injection h with h
      subst h
      have := Nat.eq_of_beq_eq_true hb
      subst this
      simp

theorem idxIn_none : ∀ {l : List Nat} {s id : Nat}, idxIn l s id = none ↔ id ∉ l
  | [], s, id => by simp [idxIn]
  | x :: xs, s, id => by
    unfold idxIn
    by_cases h : id = x
    · subst h; simp
    · rw [beq_ne h, cond_false, idxIn_none]
      simp [h]

theorem nodupN_ok : ∀ {l : List Nat}, nodupN l = true → l.Nodup
  | [], _ => .nil
  | x :: xs, h => by
    simp only [nodupN, Bool.and_eq_true, Bool.not_eq_true'] at h
    refine List.nodup_cons.2 ⟨fun q => ?_, nodupN_ok h.2⟩
    rw [memN_iff.2 q] at h
    simp at h

theorem idxIn_of {l : List Nat} (hn : l.Nodup) {id k : Nat} (h : l[k]? = some id) : idxIn l 0 id = some k := by
  cases hq : idxIn l 0 id with
  | none => exact absurd (List.mem_of_getElem? h) (idxIn_none.1 hq)
  | some j =>
    obtain ⟨_, h2⟩ := idxIn_get hq
    rw [Nat.sub_zero] at h2
    obtain ⟨a1, a2⟩ := List.getElem?_eq_some_iff.1 h
    obtain ⟨b1, b2⟩ := List.getElem?_eq_some_iff.1 h2
    have hp := List.pairwise_iff_getElem.1 hn
    rcases Nat.lt_trichotomy j k with q | q | q
    · exact absurd (b2.trans a2.symm) (hp j k b1 a1 q)
    · rw [q]
    · exact absurd (a2.trans b2.symm) (hp k j a1 b1 q)

theorem mapO_len {α β : Type} {f : α → Option β} : ∀ {l : List α} {r : List β}, mapO f l = some r → r.length = l.length
  | [], r, h => by simp only [mapO, Option.some.injEq] at h; subst h; rfl
  | x :: xs, r, h => by
    simp only [mapO] at h
    split at h
    · rename_i y ys h1 h2
      injection h with h
      subst h
      simp [mapO_len h2]
    · cases h

theorem mapO_get {α β : Type} {f : α → Option β} : ∀ {l : List α} {r : List β}, mapO f l = some r → ∀ {k : Nat} {x : α}, l[k]? = some x → ∃ y, f x = some y ∧ r[k]? = some y
  | [], r, h, k, x, hk => by simp at hk
  | z :: zs, r, h, k, x, hk => by
    simp only [mapO] at h
    split at h
    · rename_i y ys h1 h2
      injection h with h
      subst h
      cases k with
      | zero => simp only [List.getElem?_cons_zero, Option.some.injEq] at hk; subst hk; exact ⟨y, h1, rfl⟩
      | succ k => simp only [List.getElem?_cons_succ] at hk ⊢; exact mapO_get h2 hk
    · cases h

theorem rangeN_get : ∀ (n s k : Nat), (rangeN s n)[k]? = if k < n then some (s + k) else none
  | 0, s, k => by simp [rangeN]
  | n + 1, s, 0 => by simp [rangeN]
  | n + 1, s, k + 1 => by
    simp only [rangeN, List.getElem?_cons_succ, rangeN_get n (s + 1) k]
    by_cases h : k < n
    · rw [if_pos h, if_pos (by omega)]; congr 1; omega
    · rw [if_neg h, if_neg (by omega)]

theorem rangeN_len : ∀ (n s : Nat), (rangeN s n).length = n
  | 0, _ => rfl
  | n + 1, s => by simp [rangeN, rangeN_len n]

theorem rangeN_mem {n s i : Nat} : i ∈ rangeN s n ↔ s ≤ i ∧ i < s + n := by
  induction n generalizing s with
  | zero => simp [rangeN]
  | succ n ih => simp only [rangeN, List.mem_cons, ih]; omega

theorem rangeN_nodup : ∀ (n s : Nat), (rangeN s n).Nodup
  | 0, _ => .nil
  | n + 1, s => List.nodup_cons.2 ⟨fun h => by have := rangeN_mem.1 h; omega, rangeN_nodup n _⟩

theorem updL_zip : ∀ {ids : List Nat} {os : List HO} {h : Heap}, ids.Nodup → ∀ {k id : Nat} {o : HO}, ids[k]? = some id → os[k]? = some o → (updL h (zipN ids os)).get id = some o
  | [], _, _, _, k, id, o, hk, _ => by simp at hk
  | x :: xs, [], _, _, k, id, o, _, ho => by simp at ho
  | x :: xs, p :: ps, h, hn, k, id, o, hk, ho => by
    obtain ⟨h1, h2⟩ := List.nodup_cons.1 hn
    simp only [zipN, updL]
    cases k with
    | zero =>
      simp only [List.getElem?_cons_zero, Option.some.injEq] at hk ho
      subst hk ho
      rw [updL_other _ _ fun q => h1 ?_]
      · simp [Heap.upd_get]
      · clear hn h2
        have : ∀ (a : List Nat) (b : List HO) (i : Nat), i ∈ (zipN a b).map (·.1) → i ∈ a := by
          intro a
          induction a with
          | nil => intro b i hi; cases b <;> simp [zipN] at hi
          | cons z zs ih =>
            intro b i hi
            cases b with
            | nil => simp [zipN] at hi
            | cons y ys =>
              simp only [zipN, List.map_cons, List.mem_cons] at hi ⊢
              exact hi.imp id (ih ys i)
        exact this _ _ _ q
    | succ k =>
      simp only [List.getElem?_cons_succ] at hk ho
      exact updL_zip h2 hk ho

theorem updL_zip_other {ids : List Nat} {os : List HO} {h : Heap} {id : Nat} (hid : id ∉ ids) : (updL h (zipN ids os)).get id = h.get id := by
  refine updL_other _ _ fun q => hid ?_
  clear hid
  induction ids generalizing os with
  | nil => cases os <;> simp [zipN] at q
  | cons z zs ih =>
    cases os with
    | nil => simp [zipN] at q
    | cons y ys =>
      simp only [zipN, List.map_cons, List.mem_cons] at q ⊢
      exact q.imp (fun x => x) ih

/-! ## Renaming -/

section
variable {E F : Env} {σ : Nat → Option Nat}

theorem ren0_ok (hM : F.M = E.M) (hσ : ∀ i k, σ i = some k → F.I k = E.I i ∧ F.P k = E.P i) {v v' : AV} {x : Value} (h : ren0 σ v = some v') (hv : VA E v x) : VA F v' x := by
  unfold ren0 at h
  split at h
  · injection h with h; subst h; simp only [VA] at hv ⊢; rw [hM]; exact hv
  · split at h
    · rename_i j hj
      injection h with h; subst h
      obtain ⟨h1, h2⟩ := hσ _ _ hj
      simp only [VA, Env.blk, Env.bas, h1, h2] at hv ⊢
      exact hv
    · cases h
  · split at h
    · rename_i j hj
      injection h with h; subst h
      obtain ⟨h1, h2⟩ := hσ _ _ hj
      simp only [VA, Env.blk, Env.bas, Env.tot, h1, h2] at hv ⊢
      exact hv
    · cases h
  · split at h
    · rename_i j hj
      injection h with h; subst h
      obtain ⟨h1, h2⟩ := hσ _ _ hj
      simp only [VA, Env.blk, h1, h2] at hv ⊢
      exact hv
    · cases h
  · cases h

theorem mapO_VAs {f : AV → Option AV} (hf : ∀ v v' x, f v = some v' → VA E v x → VA F v' x) : ∀ {vs vs' : List AV} {ys : List Value}, mapO f vs = some vs' → VAs E vs ys → VAs F vs' ys
  | [], vs', ys, h, hv => by simp only [mapO, Option.some.injEq] at h; subst h; simpa only [VAs] using hv
  | v :: vs, vs', ys, h, hv => by
    simp only [mapO] at h
    split at h
    · rename_i r rs h1 h2
      injection h with h
      subst h
      simp only [VAs] at hv ⊢
      obtain ⟨y, q, rfl, h3, h4⟩ := hv
      exact ⟨y, q, rfl, hf _ _ _ h1 h3, mapO_VAs hf h2 h4⟩
    · cases h

theorem ren1_ok (hM : F.M = E.M) (hσ : ∀ i k, σ i = some k → F.I k = E.I i ∧ F.P k = E.P i) {v v' : AV} {x : Value} (h : ren1 σ v = some v') (hv : VA E v x) : VA F v' x := by
  unfold ren1 at h
  split at h
  · split at h
    · rename_i a b h1 h2
      injection h with h; subst h
      simp only [VA] at hv ⊢
      obtain ⟨fs, cs, rfl, h3, h4⟩ := hv
      exact ⟨fs, cs, rfl, mapO_VAs (fun _ _ _ => ren0_ok hM hσ) h1 h3, mapO_VAs (fun _ _ _ => ren0_ok hM hσ) h2 h4⟩
    · cases h
  · exact ren0_ok hM hσ h hv

theorem ren2_ok (hM : F.M = E.M) (hσ : ∀ i k, σ i = some k → F.I k = E.I i ∧ F.P k = E.P i) {v v' : AV} {x : Value} (h : ren2 σ v = some v') (hv : VA E v x) : VA F v' x := by
  unfold ren2 at h
  split at h
  · split at h
    · rename_i cs hc
      injection h with h; subst h
      simp only [VA] at hv ⊢
      obtain ⟨ys, rfl, h3⟩ := hv
      exact ⟨ys, rfl, mapO_VAs (fun _ _ _ => ren1_ok hM hσ) hc h3⟩
    · cases h
  · exact ren1_ok hM hσ h hv

theorem ren3_ok (hM : F.M = E.M) (hσ : ∀ i k, σ i = some k → F.I k = E.I i ∧ F.P k = E.P i) {v v' : AV} {x : Value} (h : ren3 σ v = some v') (hv : VA E v x) : VA F v' x := by
  unfold ren3 at h
  split at h
  · split at h
    · rename_i cs hc
      injection h with h; subst h
      simp only [VA] at hv ⊢
      obtain ⟨ys, rfl, h3⟩ := hv
      exact ⟨ys, rfl, mapO_VAs (fun _ _ _ => ren2_ok hM hσ) hc h3⟩
    · cases h
  · exact ren2_ok hM hσ h hv

theorem ren0_flat0 {v v' : AV} (h : ren0 σ v = some v') (hf : v.flat0 = true) : v'.flat0 = true := by
  unfold ren0 at h
  split at h
  · injection h with h; subst h; exact hf
  · split at h
    · injection h with h; subst h; rfl
    · cases h
  · split at h
    · injection h with h; subst h; rfl
    · cases h
  · split at h
    · injection h with h; subst h; rfl
    · cases h
  · cases h

theorem mapO_all {f : AV → Option AV} {p : AV → Bool} (hf : ∀ v v', f v = some v' → p v = true → p v' = true) : ∀ {vs vs' : List AV}, mapO f vs = some vs' → vs.all p = true → vs'.all p = true
  | [], vs', h, _ => by simp only [mapO, Option.some.injEq] at h; subst h; rfl
  | v :: vs, vs', h, hp => by
    simp only [mapO] at h
    split at h
    · rename_i r rs h1 h2
      injection h with h
      subst h
      simp only [List.all_cons, Bool.and_eq_true] at hp ⊢
      exact ⟨hf _ _ h1 hp.1, mapO_all hf h2 hp.2⟩
    · cases h

theorem ren1_flat {v v' : AV} (h : ren1 σ v = some v') (hf : v.flat = true) : v'.flat = true := by
  unfold ren1 at h
  split at h
  · split at h
    · rename_i h1 h2
      injection h with h; subst h
      simp only [AV.flat, Bool.and_eq_true] at hf ⊢
      exact ⟨mapO_all (fun _ _ => ren0_flat0) h1 hf.1, mapO_all (fun _ _ => ren0_flat0) h2 hf.2⟩
    · cases h
  · unfold ren0 at h
    split at h
    · injection h with h; subst h; exact hf
    · split at h
      · injection h with h; subst h; rfl
      · cases h
    · split at h
      · injection h with h; subst h; rfl
      · cases h
    · split at h
      · injection h with h; subst h; rfl
      · cases h
    · cases h

theorem renO_ty {σ : Nat → Option Nat} {o o' : HO} (h : renO σ o = some o') : o'.ty = o.ty := by
  unfold renO at h
  split at h
  · split at h
    · injection h with h; subst h; rfl
    · cases h
  · injection h with h; subst h; rfl

theorem TyR.ren {E F : Env} {w : World} {i k : Nat} {o o' : HO} (h : TyR E w i o) (ho : o'.ty = o.ty) (hb : F.blk k = E.blk i) : TyR F w k o' := fun t q => by
  obtain ⟨c, z, hc⟩ := h t (ho ▸ q)
  exact ⟨c, z, hb ▸ hc⟩

theorem renO_ok (hM : F.M = E.M) (hσ : ∀ i k, σ i = some k → F.I k = E.I i ∧ F.P k = E.P i) {w : World} {i k : Nat} {o o' : HO} (hI : F.I k = E.I i) (hP : F.P k = E.P i) (h : renO σ o = some o') (ho : ObjR E w i o) : ObjR F w k o' := by
  obtain ⟨g, p, ty⟩ := o
  unfold renO at h
  simp only at h
  have hb : F.blk k = E.blk i := by simp only [Env.blk, hP]
  have hba : F.bas k = E.bas i := by simp only [Env.bas, hP]
  have ht : F.tot k = E.tot i := by simp only [Env.tot, hP]
  cases p with
  | cells cs =>
    simp only at h
    split at h
    · rename_i cs' hc
      injection h with h; subst h
      simp only [ObjR] at ho ⊢
      obtain ⟨h1, h2, c, e, h3, h4, h5⟩ := ho
      rw [hI, hba, hb, mapO_len hc]
      exact ⟨h1, h2, c, e, h3, mapO_VAs (fun _ _ _ => ren1_ok hM hσ) hc h4, mapO_all (fun _ _ => ren1_flat) hc h5⟩
    · cases h
  | rows sz n f =>
    simp only [Option.some.injEq] at h
    subst h
    simp only [ObjR] at ho ⊢
    rw [hI, hba, hb, ht, hM]
    exact ho
  | iter l pos =>
    simp only [Option.some.injEq] at h
    subst h
    simp only [ObjR] at ho ⊢
    rw [hI, hba, hb]
    exact ho
  | map es =>
    simp only [Option.some.injEq] at h
    subst h
    simp only [ObjR] at ho ⊢
    rw [hI, hba, hb, hM]
    exact ho
  | ro sz n f =>
    simp only [Option.some.injEq] at h
    subst h
    simp only [ObjR] at ho ⊢
    rw [hI, hba, hb, ht, hM]
    exact ho

end
end Go.Ev
