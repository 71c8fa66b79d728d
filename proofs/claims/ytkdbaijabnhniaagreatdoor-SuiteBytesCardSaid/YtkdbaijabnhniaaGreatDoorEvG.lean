/- Operations that make values out of values. -/
import Derived.Test.YtkdbaijabnhniaaGreatDoorEvF
namespace Go.Ev

/-- the operation gives a value that is as told, and leaves the world -/
def VOk (P : Program) (E : Env) (w : World) (s : Sem Value) (r : AV) (u : Upd) : Prop := u = .none ∧ ∃ Z, s.run P w = .ok Z w ∧ VA E r Z

section
variable {P : Program} {G : Gl} {E : Env} {st : St} {a : Act} {w : World} {T : Tab}

theorem ptr_eq {b o p : Nat} (h : o = p) : Value.pointer (some ⟨b, o, none⟩) = Value.pointer (some ⟨b, p, none⟩) := by rw [h]

theorem VOk.mk {s : Sem Value} {r : AV} {u : Upd} {Z : Value} {l : ER} (h : l.val = some (.v r u)) (hl : l = pv r) (hs : s.run P w = .ok Z w) (hv : VA E r Z) : VOk P E w s r u := by
  subst hl
  simp only [ER.val_pv, Leaf.v.injEq, true_and] at h
  exact ⟨h, Z, hs, hv⟩

theorem fieldOf_ok (hT : TabOK P T) {t : TypeId} {k : Nat} {f : Field} {i : TI} (h : fieldOf T t k = some (f, i)) :
    ∃ fs, (∀ w, (underlying t).run P w = .ok (.struct fs) w) ∧ fs[k]? = some f ∧ TIok P f.type i ∧ ∃ j, T t = some j ∧ j.desc = .struct fs := by
  unfold fieldOf at h
  split at h
  · rename_i fs _ _ _ _ ht
    split at h
    · rename_i f' hf
      split at h
      · rename_i i' hi
        simp only [Option.some.injEq, Prod.mk.injEq] at h
        obtain ⟨rfl, rfl⟩ := h
        exact ⟨fs, fun w => (hT t _ ht).run_und, by simpa using hf, hT _ _ hi, _, ht, rfl⟩
      · cases h
    · cases h
  · cases h

theorem opFAddr_ok (hT : TabOK P T) {t : TypeId} {k : Nat} {x r : AV} {u : Upd} {X : Value} (h : (opFAddr T t x k).val = some (.v r u)) (hx : VA E x X) : VOk P E w (Instr.fieldAt t X k) r u := by
  unfold opFAddr at h
  split at h
  · rename_i f i hf
    obtain ⟨fs, hu, hk, hi, _⟩ := fieldOf_ok hT hf
    cases hz : Nat.beq i.size 0
    · rw [hz, cond_false] at h
      have hz : i.size ≠ 0 := by intro e; rw [e] at hz; simp at hz
      have run : ∀ c : Addr, (Instr.fieldAt t (.pointer (some c)) k).run P w = .ok (.pointer (some (c.add f.offset))) w := by
        intro c
        unfold Instr.fieldAt fieldPlace Instr.sureAddr
        simp [hu, hk, hi.run_size, hz]
      split at h
      · -- box
        simp only [ER.val_pv, Leaf.v.injEq] at h
        obtain ⟨rfl, rfl⟩ := h
        simp only [VA] at hx
        obtain ⟨blk, hB, rfl⟩ := hx
        exact ⟨rfl, _, run _, by simp only [VA]; exact ⟨blk, hB, by rw [Addr.add_lit]⟩⟩
      · simp only [ER.val_pv, Leaf.v.injEq] at h
        obtain ⟨rfl, rfl⟩ := h
        simp only [VA] at hx
        obtain ⟨⟨c, rfl⟩, g1, n1, q, l, hx⟩ := hx
        refine ⟨rfl, _, run _, ?_⟩
        simp only [VA]
        refine ⟨⟨_, rfl⟩, g1, n1, q, l, fun e => ?_⟩
        have := hx e
        simp only [Value.pointer.injEq, Option.some.injEq] at this
        rw [this, Addr.add_lit, Nat.add_assoc]
      · simp only [ER.val_pv, Leaf.v.injEq] at h
        obtain ⟨rfl, rfl⟩ := h
        simp only [VA] at hx
        obtain ⟨⟨c, rfl⟩, g1, n1, q, l, hx⟩ := hx
        refine ⟨rfl, _, run _, ?_⟩
        simp only [VA]
        refine ⟨⟨_, rfl⟩, g1, n1, q, l, fun e => ?_⟩
        obtain ⟨h1, this⟩ := hx e
        simp only [Value.pointer.injEq, Option.some.injEq] at this
        refine ⟨h1, ?_⟩
        rw [this, Addr.add_lit]
        exact ptr_eq (by omega)
      · simp only [ER.val_pv, Leaf.v.injEq] at h
        obtain ⟨rfl, rfl⟩ := h
        simp only [VA, VS] at hx
        obtain ⟨b, o, m, rfl, hm, hl⟩ := hx
        refine ⟨rfl, _, run _, ?_⟩
        simp only [VA, VS]
        exact ⟨b, o + f.offset, m, by rw [Addr.add_lit], hm, by rw [← List.drop_drop]; exact hl.drop _⟩
      · rename_i d off cnt sz j
        obtain ⟨_, _, h⟩ := brAt_val _ _ h
        simp only [ER.val_pv, Leaf.v.injEq] at h
        obtain ⟨rfl, rfl⟩ := h
        simp only [VA] at hx
        obtain ⟨_, blk, hB, rfl⟩ := hx
        exact ⟨rfl, _, run _, by simp only [VA]; exact ⟨blk, hB, by rw [Addr.add_lit]⟩⟩
      · rename_i id g off cnt sz j
        obtain ⟨_, _, h⟩ := brAt_val _ _ h
        simp only [ER.val_pv, Leaf.v.injEq] at h
        obtain ⟨rfl, rfl⟩ := h
        simp only [VA] at hx
        obtain ⟨_, ⟨c, rfl⟩, g1, n1, q, l, hx⟩ := hx
        refine ⟨rfl, _, run _, ?_⟩
        simp only [VA]
        refine ⟨⟨_, rfl⟩, g1, n1, q, l, fun e => ?_⟩
        have := hx e
        simp only [Value.pointer.injEq, Option.some.injEq] at this
        rw [this, Addr.add_lit]
        exact ptr_eq (by omega)
      · simp [ER.val] at h
    · simp [hz, ER.val] at h
  · simp [ER.val] at h

theorem opField_ok (hT : TabOK P T) {t : TypeId} {k : Nat} {x r : AV} {u : Upd} {X : Value} (h : (opField T t x k).val = some (.v r u)) (hx : VA E x X) : VOk P E w (Instr.field t X k) r u := by
  unfold opField at h
  split at h
  · rename_i f i cs hf
    obtain ⟨fs, hu, hk, hi, _⟩ := fieldOf_ok hT hf
    simp only [VA] at hx
    obtain ⟨ys, rfl, hx⟩ := hx
    obtain ⟨hu', Z, h1, h2⟩ := part_ok (w := w) hi (ys := ys.toArray) h (by simpa using hx)
    refine ⟨hu', Z, ?_, h2⟩
    unfold Instr.field
    simp [hu, hk, asAgg, h1]
  · simp [ER.val] at h

theorem intOp_eq {x : AV} {n : Int} {X : Value} (h : intOp x = some n) (hx : VA E x X) : ∃ k, X = .int k n := by
  unfold intOp at h
  split at h
  · injection h with h; subst h
    simp only [VA, VS] at hx
    exact ⟨_, hx⟩
  · cases h

theorem loads_part {t : TypeId} {i : TI} (ht : TIok P t i) {x : AV} {off : Nat} {ys : Array Value} (h : Loads E i x (ys.toList.drop off)) : ∃ Z, (part t ys off).run P w = .ok Z w ∧ VA E x Z := by
  unfold part
  simp only [Sem.run_bind, ht.run_agg, Result.andThen_ok]
  cases ha : i.isAgg
  · obtain ⟨y, r, hy, hx⟩ := h.2 ha
    have hg : ys[off]? = some y := by
      have := congrArg List.head? hy
      simpa [List.head?_drop] using this
    exact ⟨y, by simp [hg], hx⟩
  · obtain ⟨hl, hx⟩ := h.1 ha
    refine ⟨.agg (ys.extract off (off + i.size)), by simp [ht.run_size], ?_⟩
    have e : (ys.extract off (off + i.size)) = ((ys.toList.drop off).take i.size).toArray := by
      apply Array.ext'
      simp [List.extract_eq_take_drop]
    rw [e]
    exact hx

theorem opIndex_ok (hT : TabOK P T) {t : TypeId} {x i r : AV} {u : Upd} {X I : Value} (h : (opIndex T t x i).val = some (.v r u)) (hx : VA E x X) (hi : VA E i I) : VOk P E w (Instr.index t X I) r u := by
  unfold opIndex at h
  split at h
  · rename_i n l hn
    obtain ⟨k, rfl⟩ := intOp_eq hn hi
    simp only [VA, VS] at hx
    subst hx
    split at h
    · rename_i ht
      rw [ER.val_need, Bool.and_eq_true, decide_eq_true_eq, decide_eq_true_eq] at h
      obtain ⟨⟨h0, h1⟩, h⟩ := h
      simp only [ER.val_pv, Leaf.v.injEq] at h
      obtain ⟨rfl, rfl⟩ := h
      have hlt : n.toNat < l.length := by omega
      have hg : (ByteArray.mk l.toArray)[n.toNat]? = some (l.getD n.toNat 0) := by
        have hs : (ByteArray.mk l.toArray).size = l.length := by simp [ByteArray.size]
        rw [getElem?_pos _ _ (by rw [hs]; exact hlt)]
        simp [ByteArray.getElem_eq_getElem_data, List.getD_eq_getElem?_getD, List.getElem?_eq_getElem hlt]
      refine ⟨rfl, .int .u8 ((l.getD n.toNat 0).toNat : Int), ?_, by simp only [VA, VS]⟩
      unfold Instr.index
      simp [asIntOf, (hT t _ ht).run_und, h0, hg]
    · simp [ER.val] at h
  · rename_i n cs hn
    obtain ⟨k, rfl⟩ := intOp_eq hn hi
    simp only [VA] at hx
    obtain ⟨ys, rfl, hx⟩ := hx
    split at h
    · rename_i len e _ _ _ _ ht
      split at h
      · rename_i te hte
        rw [ER.val_need, decide_eq_true_eq] at h
        obtain ⟨h0, h⟩ := h
        obtain ⟨hu', hk, hl⟩ := ldArr_ok h hx
        obtain ⟨Z, h1, h2⟩ := loads_part (P := P) (w := w) (hT e _ hte) (ys := ys.toArray) (by simpa using hl)
        refine ⟨hu', Z, ?_, h2⟩
        unfold Instr.index
        have hb : (0 ≤ n ∧ n < (len : Int)) := ⟨h0, by omega⟩
        simp only [asIntOf, Sem.run_bind, Sem.run_pure, Result.andThen_ok, (hT t _ ht).run_und, if_pos hb, (hT e _ hte).run_size, h1]
      · simp [ER.val] at h
    · simp [ER.val] at h
  · simp [ER.val] at h

theorem cond_someG {α : Type} {b : Bool} {x y : α} (h : cond b (some x) none = some y) : b = true ∧ x = y := by
  cases b
  · cases h
  · exact ⟨rfl, Option.some.inj h⟩

theorem pvAt_ok {M : Nat → Option (List Value)} {sz n i : Nat} {cs l : List SV} {ys : List Value} (h : pvAt sz n i cs = some l) (hi : i < n) (hv : VL M cs ys) : VL M l (ys.drop (i * sz)) := by
  unfold pvAt at h
  split at h
  · rename_i k z cs'
    obtain ⟨hc, rfl⟩ := cond_someG h
    simp only [Bool.and_eq_true] at hc
    obtain ⟨⟨h1, h2⟩, h3⟩ := hc
    have h1 := Nat.eq_of_beq_eq_true h1
    have h2 := Nat.le_of_ble_eq_true h2
    subst h1
    generalize hcs : (SV.int k z :: cs') = cs at h2 h3 hv
    have hlt : i < cs.length := by omega
    have hg : cs[i]? = some cs[i] := List.getElem?_eq_getElem hlt
    obtain ⟨y, hy, _, hvs⟩ := VL.iff.1 hv i _ hg
    have hk := List.all_eq_true.1 h3 _ (List.getElem_mem hlt)
    have e : cs[i] = .int k ((cs.map intS).getD i 0) := by
      rw [List.getD_eq_getElem?_getD, List.getElem?_map, hg]
      simp only [Option.map_some, Option.getD_some]
      revert hk
      cases cs[i] <;> simp [isIntS, intS]
    rw [e] at hvs
    simp only [VL]
    have hly : i < ys.length := (List.getElem?_eq_some_iff.1 hy).1
    refine ⟨y, ys.drop (i + 1), ?_, rfl, hvs, trivial⟩
    rw [Nat.mul_one, List.drop_eq_getElem_cons hly]
    congr 1
    exact (List.getElem?_eq_some_iff.1 hy).2
  · cases h

theorem opIAddr_ok (hT : TabOK P T) {t : TypeId} {x i r : AV} {u : Upd} {X I : Value} (h : (opIAddr T t x i).val = some (.v r u)) (hx : VA E x X) (hi : VA E i I) : VOk P E w (Instr.indexAt t X I) r u := by
  unfold opIAddr at h
  split at h
  · rename_i n e _ _ _ _ hn ht
    obtain ⟨k, rfl⟩ := intOp_eq hn hi
    split at h
    · rename_i te hte
      have run : ∀ (c : Addr) (len cap : Nat), 0 ≤ n → n < (len : Int) → (Instr.indexAt t (.slice (some c) len cap) (.int k n)).run P w = .ok (.pointer (some (c.add (n.toNat * te.size)))) w := by
        intro c len cap h0 h1
        unfold Instr.indexAt
        have hb : (0 ≤ n ∧ n < (len : Int)) := ⟨h0, h1⟩
        simp only [asIntOf, Sem.run_bind, Sem.run_pure, Result.andThen_ok, (hT t _ ht).run_und, if_pos hb, (hT e _ hte).run_size]
      split at h
      · rename_i id g sz off len
        cases hz : Nat.beq te.size sz
        · simp [hz, ER.val] at h
        · rw [hz, cond_true, ER.val_need, Bool.and_eq_true, decide_eq_true_eq, decide_eq_true_eq] at h
          have hz := Nat.eq_of_beq_eq_true hz
          obtain ⟨⟨h0, h1⟩, h⟩ := h
          simp only [ER.val_pv, Leaf.v.injEq] at h
          obtain ⟨rfl, rfl⟩ := h
          simp only [VA] at hx
          obtain ⟨⟨c, kk, rfl, _⟩, g1, n1, q, l, hx⟩ := hx
          refine ⟨rfl, _, run _ _ _ h0 h1, ?_⟩
          simp only [VA]
          refine ⟨⟨_, rfl⟩, g1, n1, q, l, fun e => ?_⟩
          obtain ⟨h2, cap, A, h5, _, h6, h3⟩ := hx e
          simp only [Value.slice.injEq, Option.some.injEq] at h3
          have h6 := h6 (by omega)
          subst h6
          refine ⟨by omega, ?_⟩
          rw [h3.1, Addr.add_lit, hz]
          exact ptr_eq (by rw [Nat.add_mul]; omega)
      · rename_i sz len f
        cases hz : Nat.beq te.size sz
        · simp [hz, ER.val] at h
        · rw [hz, cond_true, ER.val_need, Bool.and_eq_true, decide_eq_true_eq, decide_eq_true_eq] at h
          have hz := Nat.eq_of_beq_eq_true hz
          obtain ⟨⟨h0, h1⟩, h⟩ := h
          simp only [ER.val_pv, Leaf.v.injEq] at h
          obtain ⟨rfl, rfl⟩ := h
          simp only [VA, VS] at hx
          obtain ⟨b, o, cap, m, rfl, _, hm, hl⟩ := hx
          refine ⟨rfl, _, run _ _ _ h0 h1, ?_⟩
          simp only [VA, VS]
          exact ⟨b, _, m, by rw [Addr.add_lit], hm, by rw [hz]; exact (hl n.toNat (by omega)).2⟩
      · simp [ER.val] at h
    · simp [ER.val] at h
  · rename_i n len e _ _ _ _ hn ht
    obtain ⟨k, rfl⟩ := intOp_eq hn hi
    split at h
    · rename_i te hte
      rw [ER.val_need, Bool.and_eq_true, decide_eq_true_eq, decide_eq_true_eq] at h
      obtain ⟨⟨h0, h1⟩, h⟩ := h
      have run : ∀ (c : Addr), (Instr.indexAt t (.pointer (some c)) (.int k n)).run P w = .ok (.pointer (some (c.add (n.toNat * te.size)))) w := by
        intro c
        unfold Instr.indexAt
        have hb : (0 ≤ n ∧ n < (len : Int)) := ⟨h0, h1⟩
        simp only [asIntOf, Sem.run_bind, Sem.run_pure, Result.andThen_ok, (hT t _ ht).run_und, Instr.sureAddr, if_pos hb, (hT e _ hte).run_size]
      have hlt : n.toNat < len := by omega
      split at h
      · simp only [ER.val_pv, Leaf.v.injEq] at h
        obtain ⟨rfl, rfl⟩ := h
        simp only [VA] at hx
        obtain ⟨blk, hB, rfl⟩ := hx
        exact ⟨rfl, _, run _, by simp only [VA]; exact ⟨hlt, blk, hB, by rw [Addr.add_lit]⟩⟩
      · simp only [ER.val_pv, Leaf.v.injEq] at h
        obtain ⟨rfl, rfl⟩ := h
        simp only [VA] at hx
        obtain ⟨⟨c, rfl⟩, g1, n1, q, l, hx⟩ := hx
        refine ⟨rfl, _, run _, ?_⟩
        simp only [VA]
        refine ⟨hlt, ⟨_, rfl⟩, g1, n1, q, l, fun e => ?_⟩
        have := hx e
        simp only [Value.pointer.injEq, Option.some.injEq] at this
        rw [this, Addr.add_lit]
        exact ptr_eq (by omega)
      · rename_i d off cnt sz j
        cases hz : Nat.beq (len * te.size) sz
        · simp [hz, ER.val] at h
        · rw [hz, cond_true] at h
          have hz := Nat.eq_of_beq_eq_true hz
          simp only [ER.val_pv, Leaf.v.injEq] at h
          obtain ⟨rfl, rfl⟩ := h
          simp only [VA] at hx
          obtain ⟨hj, blk, hB, rfl⟩ := hx
          refine ⟨rfl, _, run _, ?_⟩
          simp only [VA]
          have hm : (j + 1) * len ≤ cnt * len := Nat.mul_le_mul_right _ hj
          rw [Nat.succ_mul] at hm
          refine ⟨by omega, blk, hB, ?_⟩
          rw [Addr.add_lit, ← hz, Nat.add_mul, Nat.mul_assoc]
          exact ptr_eq (by omega)
      · rename_i id g off cnt sz j
        cases hz : Nat.beq (len * te.size) sz
        · simp [hz, ER.val] at h
        · rw [hz, cond_true] at h
          have hz := Nat.eq_of_beq_eq_true hz
          simp only [ER.val_pv, Leaf.v.injEq] at h
          obtain ⟨rfl, rfl⟩ := h
          simp only [VA] at hx
          obtain ⟨hj, ⟨c, rfl⟩, g1, n1, q, l, hx⟩ := hx
          refine ⟨rfl, _, run _, ?_⟩
          simp only [VA]
          have hm : (j + 1) * len ≤ cnt * len := Nat.mul_le_mul_right _ hj
          rw [Nat.succ_mul] at hm
          refine ⟨by omega, ⟨_, rfl⟩, g1, n1, q, l, fun e => ?_⟩
          have := hx e
          simp only [Value.pointer.injEq, Option.some.injEq] at this
          rw [this, Addr.add_lit, ← hz, Nat.add_mul, Nat.mul_assoc]
          exact ptr_eq (by omega)
      · rename_i id g sz j off
        obtain ⟨_, _, h⟩ := brAt_val _ _ h
        simp only [ER.val_pv, Leaf.v.injEq] at h
        obtain ⟨rfl, rfl⟩ := h
        simp only [VA] at hx
        obtain ⟨⟨c, rfl⟩, g1, n1, q, l, hx⟩ := hx
        refine ⟨rfl, _, run _, ?_⟩
        simp only [VA]
        refine ⟨⟨_, rfl⟩, g1, n1, q, l, fun e => ?_⟩
        obtain ⟨h4, this⟩ := hx e
        simp only [Value.pointer.injEq, Option.some.injEq] at this
        refine ⟨h4, ?_⟩
        rw [this, Addr.add_lit]
        exact ptr_eq (by omega)
      · split at h
        · rename_i l hpv
          simp only [ER.val_pv, Leaf.v.injEq] at h
          obtain ⟨rfl, rfl⟩ := h
          simp only [VA, VS] at hx
          obtain ⟨b, o, m, rfl, hm, hl⟩ := hx
          refine ⟨rfl, _, run _, ?_⟩
          simp only [VA, VS]
          exact ⟨b, _, m, by rw [Addr.add_lit], hm, by rw [← List.drop_drop]; exact pvAt_ok hpv hlt hl⟩
        · obtain ⟨_, _, h⟩ := brAt_val _ _ h
          simp only [ER.val_pv, Leaf.v.injEq] at h
          obtain ⟨rfl, rfl⟩ := h
          simp only [VA, VS] at hx
          obtain ⟨b, o, m, rfl, hm, hl⟩ := hx
          refine ⟨rfl, _, run _, ?_⟩
          simp only [VA, VS]
          exact ⟨b, _, m, by rw [Addr.add_lit], hm, by rw [← List.drop_drop]; exact hl.drop _⟩
      · simp [ER.val] at h
    · simp [ER.val] at h
  · simp [ER.val] at h

end

end Go.Ev
