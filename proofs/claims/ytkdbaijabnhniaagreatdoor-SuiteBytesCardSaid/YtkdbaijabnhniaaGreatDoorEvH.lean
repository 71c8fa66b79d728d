/- Slices of values, aggregates, conversions, and what makes memory. -/
import Derived.Test.YtkdbaijabnhniaaGreatDoorEvG
namespace Go.Ev

def VO (E : Env) : Option AV → Option Value → Prop
  | none, y => y = none
  | some v, y => ∃ Y, y = some Y ∧ VA E v Y

section
variable {P : Program} {G : Gl} {E : Env} {st : St} {a : Act} {w : World} {T : Tab}

theorem bound_ok {y : Nat} {k : IntKind} {i : Int} {c : BoundsCode} (h0 : 0 ≤ i) (h1 : i ≤ (y : Int)) : (Instr.sliceBound (.int k i) y c).run P w = .ok i.toNat w := by
  unfold Instr.sliceBound
  simp [asIntOf, h0, h1]

theorem bnds_ok {n cap : Nat} {isS : Bool} {lo hi : Option AV} {lo' hi' : Option Value} {K : Nat → Nat → ER} {l : Leaf} (h : (bnds n lo hi K).val = some l) (hl : VO E lo lo') (hh : VO E hi hi') (hc : n ≤ cap) :
    ∃ p q, p ≤ q ∧ q ≤ n ∧ (Instr.sliceBounds isS n cap lo' hi' none).run P w = .ok (p, q, cap) w ∧ (K p q).val = some l := by
  unfold bnds at h
  unfold Instr.sliceBounds
  cases hi with
  | none =>
    simp only [VO] at hh; subst hh
    cases lo with
    | none => simp only [VO] at hl; subst hl; exact ⟨0, n, Nat.zero_le _, Nat.le_refl _, by simp, h⟩
    | some v =>
      obtain ⟨Y, rfl, hY⟩ := hl
      simp only at h
      split at h
      · rename_i i hi'
        obtain ⟨k, rfl⟩ := intOp_eq hi' hY
        rw [ER.val_need, Bool.and_eq_true, decide_eq_true_eq, decide_eq_true_eq] at h
        obtain ⟨⟨h0, h1⟩, h⟩ := h
        exact ⟨i.toNat, n, by omega, Nat.le_refl _, by simp [bound_ok h0 h1], h⟩
      · simp [ER.val] at h
  | some v =>
    obtain ⟨Y, rfl, hY⟩ := hh
    simp only at h
    split at h
    · rename_i j hj
      obtain ⟨k, rfl⟩ := intOp_eq hj hY
      rw [ER.val_need, Bool.and_eq_true, decide_eq_true_eq, decide_eq_true_eq] at h
      obtain ⟨⟨h0, h1⟩, h⟩ := h
      have hb : ∀ c, (Instr.sliceBound (.int k j) cap c).run P w = .ok j.toNat w := fun c => bound_ok h0 (by omega)
      cases lo with
      | none => simp only [VO] at hl; subst hl; exact ⟨0, j.toNat, Nat.zero_le _, by omega, by simp [hb], h⟩
      | some u =>
        obtain ⟨U, rfl, hU⟩ := hl
        simp only at h
        split at h
        · rename_i i hi'
          obtain ⟨k2, rfl⟩ := intOp_eq hi' hU
          rw [ER.val_need, Bool.and_eq_true, decide_eq_true_eq, decide_eq_true_eq] at h
          obtain ⟨⟨h2, h3⟩, h⟩ := h
          exact ⟨i.toNat, j.toNat, by omega, by omega, by simp [hb, bound_ok h2 h3], h⟩
        · simp [ER.val] at h
    · simp [ER.val] at h

theorem extract_mk (l : List UInt8) (p q : Nat) : (ByteArray.mk l.toArray).extract p q = ByteArray.mk ((l.take q).drop p).toArray := by
  apply ByteArray.ext
  simp [ByteArray.data_extract, List.extract_eq_take_drop, List.drop_take]

theorem opSlice_ok (hT : TabOK P T) {t : TypeId} {x r : AV} {lo hi : Option AV} {lo' hi' : Option Value} {u : Upd} {X : Value} (h : (opSlice T t x lo hi).val = some (.v r u)) (hx : VA E x X) (hl : VO E lo lo') (hh : VO E hi hi') :
    VOk P E w (Instr.sliceAt t X lo' hi' none) r u := by
  unfold opSlice at h
  split at h
  · rename_i l ht
    simp only [VA, VS] at hx
    subst hx
    obtain ⟨p, q, h1, h2, h3, h4⟩ := bnds_ok (P := P) (w := w) (isS := false) (cap := l.length) h hl hh (Nat.le_refl _)
    simp only [ER.val_pv, Leaf.v.injEq] at h4
    obtain ⟨rfl, rfl⟩ := h4
    refine ⟨rfl, .string ⟨((l.take q).drop p).toArray⟩, ?_, by simp only [VA, VS]⟩
    unfold Instr.sliceAt Instr.slice
    have hs : (ByteArray.mk l.toArray).size = l.length := by simp [ByteArray.size]
    simp only [Sem.run_bind, (hT t _ ht).run_und, Result.andThen_ok, hs, Option.isSome_none, Bool.false_eq_true, if_false, h3, Sem.run_pure, extract_mk]
  · rename_i e _ _ _ _ ht
    split at h
    · rename_i te hte
      split at h
      · rename_i sz n f
        cases hz : Nat.beq te.size sz
        · simp [hz, ER.val] at h
        · rw [hz, cond_true] at h
          have hz := Nat.eq_of_beq_eq_true hz
          simp only [VA, VS] at hx
          obtain ⟨b, o, cap, m, rfl, hcap, hm, hr⟩ := hx
          obtain ⟨p, q, h1, h2, h3, h4⟩ := bnds_ok (P := P) (w := w) (isS := true) (cap := cap) h hl hh hcap
          simp only [ER.val_pv, Leaf.v.injEq] at h4
          obtain ⟨rfl, rfl⟩ := h4
          have run : (Instr.sliceAt t (.slice (some ⟨b, o, none⟩) n cap) lo' hi' none).run P w = .ok (.slice (if cap = p then some ⟨b, o, none⟩ else some ⟨b, o + p * sz, none⟩) (q - p) (cap - p)) w := by
            unfold Instr.sliceAt Instr.slice
            simp only [Sem.run_bind, (hT t _ ht).run_und, Result.andThen_ok, h3, (hT e _ hte).run_size, Sem.run_pure, Option.map_some, Addr.add_lit, hz]
          by_cases hcp : cap = p
          · refine ⟨rfl, _, run, ?_⟩
            rw [if_pos hcp]
            simp only [VA, VS]
            exact ⟨b, o, cap - p, m, rfl, by omega, hm, fun i hi => by omega⟩
          · refine ⟨rfl, _, run, ?_⟩
            rw [if_neg hcp]
            simp only [VA, VS]
            refine ⟨b, o + p * sz, cap - p, m, rfl, by omega, hm, fun i hi => ?_⟩
            have := hr (i + p) (by omega)
            rw [show o + p * sz + i * sz = o + (i + p) * sz by rw [Nat.add_mul]; omega]
            exact this
      · simp only [VA, VS] at hx
        subst hx
        obtain ⟨p, q, h1, h2, h3, h4⟩ := bnds_ok (P := P) (w := w) (isS := true) (cap := 0) h hl hh (Nat.le_refl _)
        simp only [ER.val_pv, Leaf.v.injEq] at h4
        obtain ⟨rfl, rfl⟩ := h4
        refine ⟨rfl, .slice none 0 0, ?_, by simp only [VA, VS]⟩
        unfold Instr.sliceAt Instr.slice
        have : q = 0 := by omega
        have : p = 0 := by omega
        subst_vars
        simp only [Sem.run_bind, (hT t _ ht).run_und, Result.andThen_ok, h3, (hT e _ hte).run_size, Sem.run_pure, Option.map_none, Nat.sub_self]
        simp
      · rename_i id g sz off len
        cases hz : Nat.beq te.size sz
        · simp [hz, ER.val] at h
        · rw [hz, cond_true] at h
          have hz := Nat.eq_of_beq_eq_true hz
          simp only [VA] at hx
          obtain ⟨⟨c, cap, rfl, hcap⟩, g1, n1, qq, l, hx⟩ := hx
          obtain ⟨p, q, h1, h2, h3, h4⟩ := bnds_ok (P := P) (w := w) (isS := true) (cap := cap) h hl hh hcap
          simp only [ER.val_pv, Leaf.v.injEq] at h4
          obtain ⟨rfl, rfl⟩ := h4
          have run : (Instr.sliceAt t (.slice (some c) len cap) lo' hi' none).run P w = .ok (.slice (if cap = p then some c else some (c.add (p * sz))) (q - p) (cap - p)) w := by
            unfold Instr.sliceAt Instr.slice
            simp only [Sem.run_bind, (hT t _ ht).run_und, Result.andThen_ok, h3, (hT e _ hte).run_size, Sem.run_pure, Option.map_some, hz]
          refine ⟨rfl, _, run, ?_⟩
          simp only [VA]
          refine ⟨?_, g1, n1, qq, l, fun e => ?_⟩
          · by_cases hcp : cap = p
            · rw [if_pos hcp]; exact ⟨_, _, rfl, by omega⟩
            · rw [if_neg hcp]; exact ⟨_, _, rfl, by omega⟩
          · obtain ⟨h5, cap', A, h6, h7, h9, h8⟩ := hx e
            simp only [Value.slice.injEq, Option.some.injEq, true_and] at h8
            obtain ⟨rfl, rfl⟩ := h8
            by_cases hcp : cap = p
            · rw [if_pos hcp]
              refine ⟨by omega, cap - p, A, by omega, ?_, fun h => by omega, rfl⟩
              rw [show p + off + (cap - p) = off + cap by omega]; exact h7
            · rw [if_neg hcp]
              have h9 := h9 (by omega)
              subst h9
              refine ⟨by omega, cap - p, _, by omega, ?_, fun _ => rfl, ?_⟩
              · rw [show p + off + (cap - p) = off + cap by omega]; exact h7
              · rw [Addr.add_lit, show E.bas id + (p + off) * sz = E.bas id + off * sz + p * sz by rw [Nat.add_mul]; omega]
      · simp [ER.val] at h
    · simp [ER.val] at h
  · simp [ER.val] at h

/-! ## Aggregates -/

theorem splice_cons {α : Type} (l : List α) (o : Nat) (v : α) (vs : List α) (h : o + (vs.length + 1) ≤ l.length) : splice (l.set o v) (o + 1) vs = splice l o (v :: vs) := by
  apply List.ext_getElem?
  intro p
  rw [splice_get _ _ _ (by simp; omega), splice_get _ _ _ (by simpa using h)]
  simp only [List.getElem?_set, List.length_cons]
  by_cases h1 : p < o
  · rw [if_pos (by omega), if_neg (by omega), if_pos h1]
  · rw [if_neg h1]
    by_cases h2 : p = o
    · subst h2
      rw [if_pos (by omega), if_pos rfl, if_pos (by omega), if_pos (by omega), Nat.sub_self]; rfl
    · rw [if_neg (by omega)]
      by_cases h3 : p < o + 1 + vs.length
      · rw [if_pos h3, if_pos (by omega), show p - o = (p - (o + 1)) + 1 by omega, List.getElem?_cons_succ]
      · rw [if_neg h3, if_neg (by omega), if_neg (by omega)]

theorem fold_splice (off : Nat) : ∀ (l : List Value) (k : Nat) (cells : Array Value), off + k + l.length ≤ cells.size →
    ((l.zipIdx k).foldl (fun cs (p : Value × Nat) => cs.setIfInBounds (off + p.2) p.1) cells).toList = splice cells.toList (off + k) l
  | [], k, cells, _ => by simp [splice]
  | v :: l, k, cells, h => by
    simp only [List.zipIdx_cons, List.foldl_cons]
    rw [fold_splice off l (k + 1) _ (by simp at h ⊢; omega)]
    rw [Array.toList_setIfInBounds, show off + (k + 1) = off + k + 1 by omega]
    exact splice_cons _ _ _ _ (by simp at h ⊢; omega)

theorem fill_one (off : Nat) (v cells : Array Value) (h : off + v.size ≤ cells.size) :
    (v.zipIdx.foldl (fun cs (p : Value × Nat) => cs.setIfInBounds (off + p.2) p.1) cells).toList = splice cells.toList off v.toList := by
  have := fold_splice off v.toList 0 cells (by simpa using h)
  rw [← Array.foldl_toList, Array.toList_zipIdx]
  exact this

def Parts (E : Env) : List (Nat × AV) → List (Nat × Value) → Prop
  | [], ys => ys = []
  | (i, v) :: ps, ys => ∃ y r, ys = (i, y) :: r ∧ VA E v y ∧ Parts E ps r

theorem fillE_ok {place pc : Nat → Option (Nat × Nat)} (hp : ∀ i q, place i = some q → pc i = some q) : ∀ {ps : List (Nat × AV)} {qs : List (Nat × Value)} {cs cs' : List AV} {ys : Array Value},
    fillE place cs ps = some cs' → Parts E ps qs → VAs E cs ys.toList → cs.all AV.flat = true → ∃ ys', Instr.fill pc ys qs = some ys' ∧ VAs E cs' ys'.toList ∧ cs'.all AV.flat = true
  | [], qs, cs, cs', ys, h, hq, hv, hf => by
    simp only [Parts] at hq; subst hq
    simp only [fillE, Option.some.injEq] at h; subst h
    exact ⟨ys, rfl, hv, hf⟩
  | (i, v) :: ps, qs, cs, cs', ys, h, hq, hv, hf => by
    simp only [Parts] at hq
    obtain ⟨y, r, rfl, hy, hr⟩ := hq
    simp only [fillE] at h
    split at h
    · rename_i off size hpl
      cases hc : (Nat.beq v.cells.length size && Nat.ble (off + size) cs.length && v.cells.all AV.flat)
      · simp [hc] at h
      · rw [hc, cond_true] at h
        simp only [Bool.and_eq_true] at hc
        obtain ⟨⟨h1, h2⟩, h3⟩ := hc
        have h1 := Nat.eq_of_beq_eq_true h1
        have h2 := Nat.le_of_ble_eq_true h2
        obtain ⟨hvc, _⟩ := VA.cells hy h3
        have hl := hvc.len
        have hl0 := hv.len
        simp only [Array.length_toList] at hl hl0
        have hsp : VAs E (splice cs off v.cells) (splice ys.toList off y.cells.toList) := hv.splice hvc off
        rw [← fill_one off y.cells ys (by omega)] at hsp
        obtain ⟨ys', h4, h5⟩ := fillE_ok hp h hr hsp (all_splice _ hf h3)
        refine ⟨ys', ?_, h5⟩
        simp only [Instr.fill, hp _ _ hpl]
        rw [if_neg (by simp; omega)]
        exact h4
    · cases h

theorem places_ok (hT : TabOK P T) : ∀ (fs : List Field), (fs.all fun f => (T f.type).isSome) = true → ∃ pl, fs.mapM (fun f => (P.info? f.type).map fun i => (f.offset, i.size)) = some pl ∧
    ∀ (i : Nat) f ti, fs[i]? = some f → T f.type = some ti → pl[i]? = some (f.offset, ti.size)
  | [], _ => ⟨[], by simp, by simp⟩
  | f :: fs, h => by
    simp only [List.all_cons, Bool.and_eq_true] at h
    obtain ⟨h1, h2⟩ := h
    obtain ⟨ti, hti⟩ := Option.isSome_iff_exists.1 h1
    obtain ⟨pl, h3, h4⟩ := places_ok hT fs h2
    obtain ⟨j, z, hj, hs, _⟩ := (hT _ _ hti).info
    refine ⟨(f.offset, ti.size) :: pl, by simp [List.mapM_cons, hj, h3, hs], ?_⟩
    intro i g tg hi hg
    cases i with
    | zero => simp only [List.getElem?_cons_zero, Option.some.injEq] at hi; subst hi; rw [hti] at hg; injection hg with hg; subst hg; rfl
    | succ i => simpa using h4 i g tg (by simpa using hi) hg

theorem opBuild_ok (hT : TabOK P T) {t : TypeId} {ps : List (Nat × AV)} {qs : Array (Nat × Value)} {r : AV} {u : Upd} (h : (opBuild T t ps).val = some (.v r u)) (hq : Parts E ps qs.toList) : VOk P E w (Instr.build t qs) r u := by
  unfold opBuild at h
  split at h
  · rename_i fs _ _ zero _ ht
    split at h
    · rename_i cs hcs
      cases hall : (fs.toList.all fun f => (T f.type).isSome)
      · simp [hall, ER.val] at h
      · rw [hall, cond_true, ER.val_pv, Leaf.v.injEq] at h
        obtain ⟨rfl, rfl⟩ := h
        obtain ⟨pl, h1, h2⟩ := places_ok hT fs.toList hall
        obtain ⟨j, z, hj, hs, _, hz, hz1, hz2, hz3, hz4, _⟩ := (hT t _ ht).info
        simp only at hz1 hz2 hz3
        have hzv : VAs E (zero.map .s) z.cells.toList := VAs.of_VL (hz3 _) (by simp [hz1, hz2])
        obtain ⟨ys', h3, h4, _⟩ := fillE_ok (E := E) (pc := fun i => pl[i]?) (fun i q hiq => by
          cases hf : fieldOf T t i with
          | none => simp [hf] at hiq
          | some fi =>
            obtain ⟨f, ti⟩ := fi
            simp only [hf, Option.map_some, Option.some.injEq] at hiq
            subst hiq
            unfold fieldOf at hf
            rw [ht] at hf
            simp only at hf
            split at hf
            · rename_i f' hf'
              split at hf
              · rename_i ti' hti'
                simp only [Option.some.injEq, Prod.mk.injEq] at hf
                obtain ⟨rfl, rfl⟩ := hf
                exact h2 _ _ _ hf' hti'
              · cases hf
            · cases hf) hcs hq hzv (VL.flat (hz3 (fun _ => none)))
        refine ⟨rfl, .agg ys', run_build w t qs ys' ?_, by simp only [VA]; exact ⟨ys'.toList, by simp, h4⟩⟩
        unfold Program.built
        simp only [hj, (hT t _ ht).und, hz, h1]
        simpa using h3
    · simp [ER.val] at h
  · rename_i e _ _ zero _ ht
    split at h
    · rename_i te hte
      split at h
      · rename_i cs hcs
        rw [ER.val_pv, Leaf.v.injEq] at h
        obtain ⟨rfl, rfl⟩ := h
        obtain ⟨j, z, hj, hs, _, hz, hz1, hz2, hz3, hz4, _⟩ := (hT t _ ht).info
        obtain ⟨je, ze, hje, hse, _⟩ := (hT e _ hte).info
        simp only at hz1 hz2 hz3
        have hzv : VAs E (zero.map .s) z.cells.toList := VAs.of_VL (hz3 _) (by simp [hz1, hz2])
        obtain ⟨ys', h3, h4, _⟩ := fillE_ok (E := E) (pc := fun i => some (i * je.size, je.size)) (fun i q hiq => by rw [← hse] at hiq; exact hiq) hcs hq hzv (VL.flat (hz3 (fun _ => none)))
        refine ⟨rfl, .agg ys', run_build w t qs ys' ?_, by simp only [VA]; exact ⟨ys'.toList, by simp, h4⟩⟩
        unfold Program.built
        simp only [hj, (hT t _ ht).und, hz, hje]
        exact h3
      · simp [ER.val] at h
    · simp [ER.val] at h
  · simp [ER.val] at h

end

end Go.Ev
