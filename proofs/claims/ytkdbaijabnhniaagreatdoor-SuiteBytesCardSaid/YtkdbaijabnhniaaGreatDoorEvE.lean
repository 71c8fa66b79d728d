/- Operations that read memory. -/
import Derived.Test.YtkdbaijabnhniaaGreatDoorEvD
namespace Go.Ev

theorem cell_of {w : World} {b o : Nat} {c : Array Value} {e : TypeId} {z : Nat × Nat} (h : w.heap[b]? = some (.cells c e z)) : w.cell? ⟨b, o, none⟩ = c[o]? := by
  simp [World.cell?, h]

section
variable {P : Program} {G : Gl} {E : Env} {st : St} {a : Act} {w : World} {T : Tab}

/-- the values that lie from an address on -/
def At (w : World) (b o : Nat) (ys : List Value) : Prop := ∀ j v, ys[j]? = some v → w.cell? ⟨b, o + j, none⟩ = some v

theorem At.of_drop {b o : Nat} {c : Array Value} {e : TypeId} {z : Nat × Nat} (h : w.heap[b]? = some (.cells c e z)) : At w b o (c.toList.drop o) := by
  intro j v hv
  rw [cell_of h]
  simpa [List.getElem?_drop] using hv

theorem At.take {b o : Nat} {ys : List Value} (h : At w b o ys) (n : Nat) : At w b o (ys.take n) := by
  intro j v hv
  refine h j v ?_
  rw [List.getElem?_take] at hv
  split at hv
  · exact hv
  · cases hv

theorem At.drop {b o : Nat} {ys : List Value} (h : At w b o ys) (n : Nat) : At w b (o + n) (ys.drop n) := by
  intro j v hv
  rw [List.getElem?_drop] at hv
  rw [show o + n + j = o + (n + j) by omega]
  exact h _ v hv

theorem VL.to_VAs {cs : List SV} {ys : List Value} (h : VL E.M cs ys) : VAs E (cs.map .s) (ys.take cs.length) := by
  obtain ⟨_, h1, _, h2⟩ := h.split
  exact VAs.of_VL h2 (by simp [h1])

theorem rd_ok (R : Rel G E st a w) {x : AV} {cs : List AV} {X : Value} (h : rdCells st.b st.h x = some cs) (hx : VA E x X) :
    ∃ b o ys, X = .pointer (some ⟨b, o, none⟩) ∧ VAs E cs ys ∧ At w b o ys := by
  unfold rdCells at h
  split at h
  · injection h with h; subst h
    simp only [VA, VS] at hx
    obtain ⟨b, o, m, rfl, hm, hl⟩ := hx
    obtain ⟨c, e, z, hc, hcm⟩ := R.fz b m hm
    exact ⟨b, o, _, rfl, hl.to_VAs, (hcm ▸ At.of_drop hc).take _⟩
  · rename_i d off
    split at h
    · rename_i cs' hb
      injection h with h; subst h
      simp only [VA] at hx
      obtain ⟨blk, hB, rfl⟩ := hx
      obtain ⟨blk', hB', c, e, hc, hv, _⟩ := R.box d cs' hb
      rw [hB] at hB'; injection hB' with hB'; subst hB'
      exact ⟨blk, off, _, rfl, VAs.drop off hv, At.of_drop hc⟩
    · cases h
  · rename_i id g off
    split at h
    · rename_i g' cs' ty' ho
      obtain ⟨hg, rfl⟩ := cond_some h
      have hg := Nat.eq_of_beq_eq_true hg
      have hr := R.heap.obj id _ ho
      simp only [ObjR] at hr
      obtain ⟨hI, hb0, c, e, hc, hv, _⟩ := hr
      simp only [VA] at hx
      obtain ⟨_, g1, n1, q, _, hx⟩ := hx
      rw [hI] at q; injection q with q; injection q with q1 q2
      have hx := hx (by omega)
      subst hx
      rw [hb0, Nat.zero_add]
      exact ⟨_, off, _, rfl, VAs.drop off hv, At.of_drop hc⟩
    · cases h
  · rename_i id g sz i off
    split at h
    · rename_i g' sz' n f ty' ho
      obtain ⟨hg, rfl⟩ := cond_some h
      simp only [Bool.and_eq_true] at hg
      obtain ⟨⟨hg, hs⟩, hi⟩ := hg
      have hg := Nat.eq_of_beq_eq_true hg
      have hs := Nat.eq_of_beq_eq_true hs
      subst hs
      have hr := R.heap.obj id _ ho
      simp only [ObjR] at hr
      obtain ⟨hI, _, c, e, _, hc, _, ht, hv⟩ := hr
      simp only [VA] at hx
      obtain ⟨_, g1, n1, q, _, hx⟩ := hx
      rw [hI] at q; injection q with q; injection q with q1 q2
      obtain ⟨hi', hx⟩ := hx (by omega)
      subst hx
      obtain ⟨hlen, hl⟩ := hv i (by omega)
      refine ⟨_, _, _, rfl, (VL.drop off hl).to_VAs, ?_⟩
      have := (At.of_drop (o := E.bas id + i * sz) hc).drop off
      rw [show E.bas id + (i * sz + off) = E.bas id + i * sz + off by omega]
      exact this.take _
    · cases h
  · cases h

theorem brAt_val {i : Nat} {leaf : Nat → ER} {l : Leaf} : ∀ (k n : Nat), (brAt i leaf k n).val = some l → k ≤ i ∧ i < k + n ∧ (leaf i).val = some l
  | k, 0, h => by simp [brAt, ER.val] at h
  | k, n + 1, h => by
    simp only [brAt, ER.val] at h
    cases hb : Nat.beq i k
    · rw [hb, cond_false] at h
      obtain ⟨h1, h2, h3⟩ := brAt_val (k + 1) n h
      exact ⟨by omega, by omega, h3⟩
    · rw [hb, cond_true] at h
      have := Nat.eq_of_beq_eq_true hb
      subst this
      exact ⟨Nat.le_refl _, by omega, h⟩

theorem int_get {k : IntKind} {l : List AV} (h : l.all (AV.isInt k) = true) {i : Nat} (hi : i < l.length) : l[i]? = some (.s (.int k ((l.map AV.intOf).getD i 0))) := by
  have h1 : l[i] ∈ l := List.getElem_mem hi
  have h2 := (List.all_eq_true.1 h) _ h1
  rw [List.getElem?_eq_getElem hi]
  simp only [List.getD_eq_getElem?_getD, List.getElem?_map, List.getElem?_eq_getElem hi, Option.map_some, Option.getD_some]
  revert h2
  generalize l[i] = c
  intro h2
  cases c with
  | s v => cases v <;> simp only [AV.isInt, Bool.false_eq_true] at h2; simp only [decide_eq_true_eq] at h2; simp [AV.intOf, h2]
  | _ => simp [AV.isInt] at h2

theorem bool_get {l : List AV} (h : l.all AV.isBool = true) {i : Nat} (hi : i < l.length) : l[i]? = some (.s (.bool ((l.map AV.boolOf).getD i false))) := by
  have h1 : l[i] ∈ l := List.getElem_mem hi
  have h2 := (List.all_eq_true.1 h) _ h1
  rw [List.getElem?_eq_getElem hi]
  simp only [List.getD_eq_getElem?_getD, List.getElem?_map, List.getElem?_eq_getElem hi, Option.map_some, Option.getD_some]
  revert h2
  generalize l[i] = c
  intro h2
  cases c with
  | s v => cases v <;> simp only [AV.isBool, Bool.false_eq_true] at h2; simp [AV.boolOf]
  | _ => simp [AV.isBool] at h2

/-- what 'ldCells' and its kin say of a load from cells -/
def Loads (E : Env) (i : TI) (x : AV) (ys : List Value) : Prop :=
  (i.isAgg = true → i.size ≤ ys.length ∧ VA E x (.agg (ys.take i.size).toArray)) ∧ (i.isAgg = false → ∃ y r, ys = y :: r ∧ VA E x y)

theorem ldArr_ok {i : TI} {cnt sz k : Nat} {cs : List AV} {x : AV} {u : Upd} {ys : List Value} (h : (ldArr i cnt sz k cs).val = some (.v x u)) (hv : VAs E cs ys) :
    u = .none ∧ k < cnt ∧ Loads E i x (ys.drop (k * sz)) := by
  unfold ldArr at h
  split at h
  · simp [ER.val] at h
  · rename_i l hl
    obtain ⟨hlen, rfl⟩ := takeN_eq hl
    rw [ER.val_need] at h
    obtain ⟨hk, h⟩ := h
    have hk : k < cnt := by simpa [Nat.blt_eq] using hk
    have hmul : k * sz + sz ≤ cnt * sz := by have : (k + 1) * sz ≤ cnt * sz := Nat.mul_le_mul_right _ hk; rw [Nat.succ_mul] at this; exact this
    have hvt := VAs.take (cnt * sz) hv
    -- the general way: by ldCells
    have key : ∀ {x u}, (ldCells i ((cs.take (cnt * sz)).drop (k * sz))).val = some (.v x u) → u = .none ∧ Loads E i x (ys.drop (k * sz)) := by
      intro x u hx
      obtain ⟨hu, h1, h2⟩ := ldCells_ok hx (VAs.drop (k * sz) hvt)
      refine ⟨hu, fun ha => ?_, fun ha => ?_⟩
      · obtain ⟨h3, h4⟩ := h1 ha
        rw [List.drop_take] at h3 h4
        simp only [List.length_take, List.length_drop] at h3
        rw [List.take_take, Nat.min_eq_left (by omega)] at h4
        exact ⟨by simp only [List.length_drop]; omega, h4⟩
      · obtain ⟨y, r, h3, h4⟩ := h2 ha
        rw [List.drop_take] at h3
        cases hq : ys.drop (k * sz) with
        | nil => rw [hq] at h3; simp at h3
        | cons y' r' =>
          rw [hq] at h3
          cases hn : cnt * sz - k * sz with
          | zero => rw [hn] at h3; simp at h3
          | succ n => rw [hn, List.take_succ_cons] at h3; injection h3 with h3 _; subst h3; exact ⟨_, _, rfl, h4⟩
    have key2 : (brAt k (fun k => ldCells i ((cs.take (cnt * sz)).drop (k * sz))) 0 cnt).val = some (.v x u) → u = .none ∧ k < cnt ∧ Loads E i x (ys.drop (k * sz)) := by
      intro hx
      obtain ⟨_, _, h3⟩ := brAt_val 0 cnt hx
      obtain ⟨h4, h5⟩ := key h3
      exact ⟨h4, hk, h5⟩
    have hlt : (cs.take (cnt * sz)).length = cnt * sz := by simp [hlen]
    split at h
    · rename_i kk n rest heq

      cases hall : (cs.take (cnt * sz)).all (AV.isInt kk)
      · rw [hall, cond_false] at h; exact key2 h
      · rw [hall, cond_true] at h
        simp only at h
        cases ha : i.isAgg
        · rw [ha, cond_false] at h
          cases h1 : Nat.ble 1 sz
          · simp [h1, ER.val] at h
          · have h1 : 1 ≤ sz := Nat.le_of_ble_eq_true h1
            have hb : Nat.ble 1 sz = true := by simpa using h1
            rw [hb, cond_true, ER.val_pv, Leaf.v.injEq] at h
            obtain ⟨rfl, rfl⟩ := h
            have hg := int_get hall (i := k * sz) (by rw [hlt]; omega)
            have : (ldCells i ((cs.take (cnt * sz)).drop (k * sz))).val = some (.v (.s (.int kk (((cs.take (cnt * sz)).map AV.intOf).getD (k * sz) 0))) .none) := by
              unfold ldCells
              rw [ha, cond_false, List.drop_eq_getElem_cons (by rw [hlt]; omega)]
              rw [List.getElem?_eq_getElem (by rw [hlt]; omega)] at hg
              injection hg with hg
              rw [hg]
              rfl
            obtain ⟨h4, h5⟩ := key this
            exact ⟨rfl, hk, h5⟩
        · rw [ha, cond_true] at h
          cases h1 : Nat.ble i.size sz
          · simp [h1, ER.val] at h
          · have h2 : i.size ≤ sz := Nat.le_of_ble_eq_true h1
            rw [h1, cond_true, ER.val_pv, Leaf.v.injEq] at h
            obtain ⟨rfl, rfl⟩ := h
            have heq2 : (List.range i.size).map (fun j => AV.s (.int kk (((cs.take (cnt * sz)).map AV.intOf).getD (k * sz + j) 0))) = ((cs.take (cnt * sz)).drop (k * sz)).take i.size := by
              apply List.ext_getElem?
              intro j
              rw [List.getElem?_map, List.getElem?_take]
              by_cases hj : j < i.size
              · rw [if_pos hj, List.getElem?_drop, int_get hall (by rw [hlt]; omega), List.getElem?_range hj]; rfl
              · rw [if_neg hj, List.getElem?_eq_none (by simp; omega)]; rfl
            have : (ldCells i ((cs.take (cnt * sz)).drop (k * sz))).val = some (.v (.agg ((List.range i.size).map (fun j => AV.s (.int kk (((cs.take (cnt * sz)).map AV.intOf).getD (k * sz + j) 0))))) .none) := by
              unfold ldCells takeN
              have hbl : Nat.ble i.size ((cs.take (cnt * sz)).drop (k * sz)).length = true := by
                rw [Nat.ble_eq, List.length_drop, hlt]; omega
              rw [ha, cond_true, hbl, cond_true, heq2]
              rfl
            obtain ⟨h4, h5⟩ := key this
            exact ⟨rfl, hk, h5⟩
    · rename_i bb rest heq

      cases hall : ((cs.take (cnt * sz)).all AV.isBool && !i.isAgg && Nat.ble 1 sz)
      · rw [hall, cond_false] at h; exact key2 h
      · rw [hall, cond_true, ER.val_pv, Leaf.v.injEq] at h
        obtain ⟨rfl, rfl⟩ := h
        simp only [Bool.and_eq_true, Bool.not_eq_true'] at hall
        obtain ⟨⟨hall, ha⟩, h1⟩ := hall
        have h1 : 1 ≤ sz := Nat.le_of_ble_eq_true h1
        have hg := bool_get hall (i := k * sz) (by rw [hlt]; omega)
        have : (ldCells i ((cs.take (cnt * sz)).drop (k * sz))).val = some (.v (.s (.bool (((cs.take (cnt * sz)).map AV.boolOf).getD (k * sz) false))) .none) := by
          unfold ldCells
          rw [ha, cond_false, List.drop_eq_getElem_cons (by rw [hlt]; omega)]
          rw [List.getElem?_eq_getElem (by rw [hlt]; omega)] at hg
          injection hg with hg
          rw [hg]
          rfl
        obtain ⟨h4, h5⟩ := key this
        exact ⟨rfl, hk, h5⟩
    · exact key2 h

/-- a load, out of the cells that lie there -/
theorem run_loadAt {t : TypeId} {i : TI} (ht : TIok P t i) {b o : Nat} {x : AV} {ys : List Value} (hat : At w b o ys) (hl : Loads E i x ys) :
    ∃ Z, (Instr.loadAt t (.pointer (some ⟨b, o, none⟩))).run P w = .ok Z w ∧ VA E x Z := by
  unfold Instr.loadAt Instr.sureAddr loadVar
  simp only [Sem.run_bind, Sem.run_pure, Result.andThen_ok, ht.run_agg]
  cases ha : i.isAgg
  · obtain ⟨y, r, rfl, hx⟩ := hl.2 ha
    have := hat 0 y rfl
    exact ⟨y, by simp at this; simp [this], hx⟩
  · obtain ⟨hn, hx⟩ := hl.1 ha
    refine ⟨_, ?_, hx⟩
    have := run_loadCells_list (P := P) w ⟨b, o, none⟩ (ys.take i.size) (fun j v hv => by
      rw [Addr.add_lit]
      exact hat.take _ j v hv)
    rw [List.length_take, Nat.min_eq_left hn] at this
    simp [ht.run_size, this]

theorem prjL_eq : ∀ (zs : List SV) (j : Nat) (cs : List SV), zs.all SV.basic = true → shOk zs j cs = true → prjL zs j cs = ((cs.drop j).take zs.length).map .s ∧ (zs = [] ∨ j + zs.length ≤ cs.length)
  | [], j, cs, _, _ => ⟨by simp [prjL], .inl rfl⟩
  | z :: zs, j, cs, hb, h => by
    simp only [List.all_cons, Bool.and_eq_true] at hb
    simp only [shOk, Bool.and_eq_true] at h
    obtain ⟨k1, k2⟩ := prjL_eq zs (j + 1) cs hb.2 h.2
    have hj : j < cs.length := by
      rcases Nat.lt_or_ge j cs.length with q | q
      · exact q
      · have := h.1
        rw [List.getD_eq_getElem?_getD, List.getElem?_eq_none q] at this
        have hz := hb.1
        cases z <;> simp [SV.like, SV.basic] at this hz
    have hg : cs.getD j .nilp = cs[j] := by simp [List.getD_eq_getElem?_getD, hj]
    have hp : prj z (cs.getD j .nilp) = cs[j] := by
      have h1 := h.1
      rw [hg] at h1 ⊢
      have hz := hb.1
      revert h1
      cases z <;> simp only [SV.basic, Bool.false_eq_true] at hz <;> cases cs[j] <;> simp [SV.like, prj, intS, strS, boolS]
    refine ⟨?_, .inr ?_⟩
    · simp only [prjL]
      rw [hp, k1, List.drop_eq_getElem_cons hj, List.length_cons, List.take_succ_cons, List.map_cons]
    · rw [List.length_cons]
      rcases k2 with rfl | k2
      · simp; omega
      · omega

theorem ldCells_take (t : TI) (cs : List AV) (h : t.size ≤ cs.length) (h0 : 0 < t.size) : ldCells t cs = ldCells t (cs.take t.size) := by
  unfold ldCells
  cases t.isAgg
  · simp only [cond_false]
    cases cs with
    | nil => simp
    | cons c cs =>
      obtain ⟨n, hn⟩ : ∃ n, t.size = n + 1 := ⟨t.size - 1, by omega⟩
      rw [hn, List.take_succ_cons]
  · simp only [cond_true]
    have e1 : takeN t.size cs = some (cs.take t.size) := by
      unfold takeN
      have : Nat.ble t.size cs.length = true := by rw [Nat.ble_eq]; exact h
      rw [this, cond_true]
    have e2 : takeN t.size (cs.take t.size) = some (cs.take t.size) := by
      unfold takeN
      have : Nat.ble t.size (cs.take t.size).length = true := by rw [Nat.ble_eq, List.length_take]; omega
      rw [this, cond_true, List.take_take, Nat.min_self]
    rw [e1, e2]

theorem opLoad_ok (R : Rel G E st a w) {t : TypeId} {i : TI} (ht : TIok P t i) {x r : AV} {u : Upd} {X : Value} (h : (opLoad i st.b st.h x).val = some (.v r u)) (hx : VA E x X) :
    u = .none ∧ ∃ Z, (Instr.loadAt t X).run P w = .ok Z w ∧ VA E r Z := by
  unfold opLoad at h
  split at h
  · rename_i d off cnt sz k
    split at h
    · rename_i cs hb
      simp only [VA] at hx
      obtain ⟨_, blk, hB, rfl⟩ := hx
      obtain ⟨blk', hB', c, e, hc, hv, _⟩ := R.box d cs hb
      rw [hB] at hB'; injection hB' with hB'; subst hB'
      obtain ⟨hu, hk, hl⟩ := ldArr_ok h (VAs.drop off hv)
      exact ⟨hu, run_loadAt ht ((At.of_drop hc).drop _) hl⟩
    · simp [ER.val] at h
  · rename_i id g off cnt sz k
    split at h
    · rename_i g' cs ty' ho
      cases hg : Nat.beq g g'
      · simp [hg, ER.val] at h
      · rw [hg, cond_true] at h
        have hg := Nat.eq_of_beq_eq_true hg
        have hr := R.heap.obj id _ ho
        simp only [ObjR] at hr
        obtain ⟨hI, hb0, c, e, hc, hv, _⟩ := hr
        simp only [VA] at hx
        obtain ⟨_, _, g1, n1, q, _, hx⟩ := hx
        rw [hI] at q; injection q with q; injection q with q1 q2
        have hx := hx (by omega)
        subst hx
        obtain ⟨hu, hk, hl⟩ := ldArr_ok h (VAs.drop off hv)
        rw [hb0, Nat.zero_add]
        exact ⟨hu, run_loadAt ht ((At.of_drop hc).drop _) hl⟩
    · simp [ER.val] at h
  · rename_i id g sz k off
    split at h
    · rename_i g' sz' len f ty' ho
      rw [ER.val_need] at h
      obtain ⟨hc, h⟩ := h
      have hcs : rdCells st.b st.h (.ep id g sz k off) = some (((f k).drop off).map .s) := by
        simp only [rdCells, ho, hc, cond_true]
      obtain ⟨b, o, ys, rfl, hv, hat⟩ := rd_ok R hcs hx
      have h : (ldCells i (((f k).drop off).map .s)).val = some (.v r u) := by
        cases hb : (i.zero.all SV.basic && Nat.beq i.zero.length i.size && Nat.blt 0 i.size)
        · rw [hb, cond_false] at h; exact h
        · rw [hb, cond_true, ER.val_need] at h
          obtain ⟨h1, h2⟩ := h
          simp only [Bool.and_eq_true, Nat.blt_eq] at hb
          have hlen := Nat.eq_of_beq_eq_true hb.1.2
          obtain ⟨q1, q2⟩ := prjL_eq i.zero 0 ((f k).drop off) hb.1.1 h1
          have q3 : i.size ≤ ((f k).drop off).length := by
            rcases q2 with q2 | q2
            · rw [q2] at hlen; simp at hlen; omega
            · rw [hlen, Nat.zero_add] at q2; exact q2
          rw [ldCells_take i (((f k).drop off).map .s) (by simpa using q3) hb.2, ← List.map_take]
          rw [q1, hlen, List.drop_zero] at h2
          exact h2
      obtain ⟨hu, h1, h2⟩ := ldCells_ok h hv
      exact ⟨hu, run_loadAt ht hat ⟨h1, h2⟩⟩
    · simp [ER.val] at h
  · split at h
    · rename_i cs hcs
      obtain ⟨b, o, ys, rfl, hv, hat⟩ := rd_ok R hcs hx
      obtain ⟨hu, h1, h2⟩ := ldCells_ok h hv
      exact ⟨hu, run_loadAt ht hat ⟨h1, h2⟩⟩
    · simp [ER.val] at h

end

end Go.Ev
