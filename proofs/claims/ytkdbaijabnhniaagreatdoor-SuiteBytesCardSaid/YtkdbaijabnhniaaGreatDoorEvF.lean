/- Stores. -/
import Derived.Test.YtkdbaijabnhniaaGreatDoorEvE
namespace Go.Ev

theorem splice_get {α : Type} (l : List α) (o : Nat) (vs : List α) (h : o + vs.length ≤ l.length) (p : Nat) :
    (splice l o vs)[p]? = if p < o then l[p]? else if p < o + vs.length then vs[p - o]? else l[p]? := by
  unfold splice
  have ht : (l.take o).length = o := by simp; omega
  by_cases h1 : p < o
  · rw [if_pos h1, List.getElem?_append_left (by omega), List.getElem?_take, if_pos h1]
  · rw [if_neg h1, List.getElem?_append_right (by omega), ht]
    by_cases h2 : p < o + vs.length
    · rw [if_pos h2, List.getElem?_append_left (by omega)]
    · rw [if_neg h2, List.getElem?_append_right (by omega), List.getElem?_drop]
      congr 1; omega

theorem splice_len {α : Type} (l : List α) (o : Nat) (vs : List α) (h : o + vs.length ≤ l.length) : (splice l o vs).length = l.length := by
  simp [splice]; omega

theorem splice_sub {α : Type} (l : List α) (off k : Nat) (vs : List α) (h : off + k + vs.length ≤ l.length) : l.take off ++ splice (l.drop off) k vs = splice l (off + k) vs := by
  apply List.ext_getElem?
  intro p
  rw [splice_get l _ _ h]
  have ht : (l.take off).length = off := by simp; omega
  by_cases h1 : p < off
  · rw [List.getElem?_append_left (by omega), List.getElem?_take, if_pos h1, if_pos (by omega)]
  · rw [List.getElem?_append_right (by omega), splice_get _ _ _ (by simp; omega), ht]
    simp only [List.getElem?_drop]
    rw [show off + (p - off) = p by omega]
    by_cases h2 : p < off + k
    · rw [if_pos (by omega), if_pos h2]
    · rw [if_neg (by omega), if_neg h2]
      by_cases h3 : p < off + k + vs.length
      · rw [if_pos (by omega), if_pos h3]; congr 1; omega
      · rw [if_neg (by omega), if_neg h3]

theorem splice_take {α : Type} (l : List α) (n k : Nat) (vs : List α) (h : k + vs.length ≤ n) (hn : n ≤ l.length) : splice (l.take n) k vs ++ l.drop n = splice l k vs := by
  have hl : (l.take n).length = n := by simp [hn]
  apply List.ext_getElem?
  intro p
  rw [splice_get l _ _ (by omega)]
  by_cases h1 : p < n
  · rw [List.getElem?_append_left (by rw [splice_len _ _ _ (by omega)]; omega), splice_get _ _ _ (by omega)]
    simp only [List.getElem?_take, if_pos h1]
  · rw [List.getElem?_append_right (by rw [splice_len _ _ _ (by omega)]; omega), splice_len _ _ _ (by omega), hl, List.getElem?_drop]
    rw [if_neg (by omega), if_neg (by omega)]
    congr 1; omega

theorem stArr_get (k : IntKind) (i sz : Nat) (vs : List AV) : ∀ (l : List AV) (p j : Nat), (stArr k i sz vs l p)[j]? = (l[j]?).map fun c => .s (.int k (cond (Nat.beq ((p + j) / sz) i) ((vs.getD ((p + j) % sz) .undef).intOf) c.intOf))
  | [], p, j => by simp [stArr]
  | c :: l, p, 0 => by simp [stArr]
  | c :: l, p, j + 1 => by
    simp only [stArr, List.getElem?_cons_succ]
    rw [stArr_get k i sz vs l (p + 1) j]
    congr 1
    funext c
    rw [show p + 1 + j = p + (j + 1) by omega]

theorem stArrB_get (i : Nat) (x : Bool) : ∀ (l : List AV) (p j : Nat), (stArrB i x l p)[j]? = (l[j]?).map fun c => .s (.bool (cond (Nat.beq (p + j) i) x c.boolOf))
  | [], p, j => by simp [stArrB]
  | c :: l, p, 0 => by simp [stArrB]
  | c :: l, p, j + 1 => by
    simp only [stArrB, List.getElem?_cons_succ]
    rw [stArrB_get i x l (p + 1) j]
    congr 1
    funext c
    rw [show p + 1 + j = p + (j + 1) by omega]

theorem isInt_eq {k : IntKind} {c : AV} (h : c.isInt k = true) : c = .s (.int k c.intOf) := by
  cases c with
  | s v => cases v <;> simp only [AV.isInt, Bool.false_eq_true] at h; simp only [decide_eq_true_eq] at h; simp [AV.intOf, h]
  | _ => simp [AV.isInt] at h
theorem isBool_eq {c : AV} (h : c.isBool = true) : c = .s (.bool c.boolOf) := by
  cases c with
  | s v => cases v <;> simp only [AV.isBool, Bool.false_eq_true] at h; simp [AV.boolOf]
  | _ => simp [AV.isBool] at h

theorem stArr_splice {k : IntKind} {i sz cnt : Nat} {vs l : List AV} (hl : l.all (AV.isInt k) = true) (hv : vs.all (AV.isInt k) = true) (hs : vs.length = sz) (h1 : 1 ≤ sz) (hn : l.length = cnt * sz) (hi : i < cnt) :
    stArr k i sz vs l 0 = splice l (i * sz) vs := by
  have hmul : i * sz + sz ≤ cnt * sz := by have : (i + 1) * sz ≤ cnt * sz := Nat.mul_le_mul_right _ hi; rw [Nat.succ_mul] at this; exact this
  apply List.ext_getElem?
  intro p
  rw [stArr_get, splice_get _ _ _ (by omega), Nat.zero_add]
  have hget : ∀ c, l[p]? = some c → c = .s (.int k c.intOf) := fun c hc => isInt_eq (List.all_eq_true.1 hl c (List.mem_of_getElem? hc))
  by_cases hp : i * sz ≤ p ∧ p < i * sz + sz
  · have hd : p / sz = i := by
      rw [Nat.div_eq_iff (by omega)]
      have := Nat.succ_mul i sz
      constructor
      · exact hp.1
      · omega
    have hm : p % sz = p - i * sz := by
      have := Nat.div_add_mod p sz
      rw [hd, Nat.mul_comm] at this
      omega
    rw [if_neg (by omega), if_pos (by omega), hd, hm, beq_self]
    have hlt : p < l.length := by omega
    have hlt2 : p - i * sz < vs.length := by omega
    rw [List.getElem?_eq_getElem hlt, List.getElem?_eq_getElem hlt2]
    simp only [Option.map_some, cond_true, Option.some.injEq]
    have h3 := isInt_eq (List.all_eq_true.1 hv _ (List.getElem_mem hlt2))
    rw [List.getD_eq_getElem?_getD, List.getElem?_eq_getElem hlt2, Option.getD_some]
    exact h3.symm
  · have hd : p / sz ≠ i := by
      intro hd
      apply hp
      rw [Nat.div_eq_iff (by omega)] at hd
      have := Nat.succ_mul i sz
      constructor <;> omega
    have e : (if p < i * sz then l[p]? else if p < i * sz + vs.length then vs[p - i * sz]? else l[p]?) = l[p]? := by
      by_cases h2 : p < i * sz
      · rw [if_pos h2]
      · rw [if_neg h2, if_neg (by omega)]
    rw [e, beq_ne hd]
    cases hc : l[p]? with
    | none => rfl
    | some c => simp only [Option.map_some, cond_false]; rw [← hget c hc]

theorem stArrB_splice {i cnt : Nat} {x : Bool} {l : List AV} (hl : l.all AV.isBool = true) (hn : l.length = cnt) (hi : i < cnt) : stArrB i x l 0 = splice l i [.s (.bool x)] := by
  apply List.ext_getElem?
  intro p
  rw [stArrB_get, splice_get _ _ _ (by simp; omega), Nat.zero_add]
  have hget : ∀ c, l[p]? = some c → c = .s (.bool c.boolOf) := fun c hc => isBool_eq (List.all_eq_true.1 hl c (List.mem_of_getElem? hc))
  by_cases hp : p = i
  · subst hp
    rw [if_neg (by omega), if_pos (by simp), beq_self, List.getElem?_eq_getElem (by omega)]
    simp
  · have e : (if p < i then l[p]? else if p < i + [AV.s (.bool x)].length then [AV.s (.bool x)][p - i]? else l[p]?) = l[p]? := by
      by_cases h2 : p < i
      · rw [if_pos h2]
      · rw [if_neg h2, if_neg (by simp; omega)]
    rw [e, beq_ne hp]
    cases hc : l[p]? with
    | none => rfl
    | some c => simp only [Option.map_some, cond_false]; rw [← hget c hc]

theorem putArr_splice {cnt sz i : Nat} {vs cs l : List AV} (h : putArr cnt sz i vs cs = some l) (hi : i < cnt) : l = splice cs (i * sz) vs ∧ i * sz + vs.length ≤ cs.length ∧ vs.all AV.flat = true := by
  have fl : ∀ k (vs : List AV), vs.all (AV.isInt k) = true → vs.all AV.flat = true := fun k vs h => by
    rw [List.all_eq_true] at *
    intro c hc
    rw [isInt_eq (h c hc)]; rfl
  have hmul : i * sz + sz ≤ cnt * sz := by have : (i + 1) * sz ≤ cnt * sz := Nat.mul_le_mul_right _ hi; rw [Nat.succ_mul] at this; exact this
  unfold putArr at h
  split at h
  · rename_i l' k n rest hl
    obtain ⟨hc, rfl⟩ := cond_some h
    obtain ⟨hlen, rfl⟩ := takeN_eq hl
    simp only [Bool.and_eq_true] at hc
    obtain ⟨⟨⟨h1, h2⟩, h3⟩, h4⟩ := hc
    have h3 := Nat.eq_of_beq_eq_true h3
    have h4 := Nat.le_of_ble_eq_true h4
    rw [stArr_splice (cnt := cnt) h1 h2 h3 h4 (by simp [hlen]) hi, splice_take _ _ _ _ (by omega) hlen]
    exact ⟨rfl, by omega, fl _ _ h2⟩
  · rename_i l' x hl
    obtain ⟨hc, rfl⟩ := cond_some h
    obtain ⟨hlen, rfl⟩ := takeN_eq hl
    simp only [Bool.and_eq_true] at hc
    obtain ⟨h1, h2⟩ := hc
    have h2 := Nat.eq_of_beq_eq_true h2
    subst h2
    simp only [Nat.mul_one] at *
    rw [stArrB_splice (cnt := cnt) h1 (by simp [hlen]) hi, splice_take _ _ _ _ (by simp; omega) hlen]
    exact ⟨rfl, by simp; omega, rfl⟩
  · cases h

theorem VAs.splice {E : Env} {cs vs : List AV} {ys zs : List Value} (h : VAs E cs ys) (k : VAs E vs zs) (o : Nat) : VAs E (splice cs o vs) (splice ys o zs) := by
  unfold Ev.splice
  rw [k.len]
  exact (h.take o).append (k.append (h.drop _))

theorem all_splice {cs vs : List AV} (o : Nat) {p : AV → Bool} (h : cs.all p = true) (k : vs.all p = true) : (splice cs o vs).all p = true := by
  unfold splice
  rw [List.all_append, List.all_append, k]
  rw [List.all_eq_true] at h
  simp only [Bool.and_eq_true, List.all_eq_true]
  exact ⟨fun c hc => h c (List.mem_of_mem_take hc), trivial, fun c hc => h c (List.mem_of_mem_drop hc)⟩

section
variable {P : Program} {G : Gl} {E : Env} {st : St} {a : Act} {w : World} {T : Tab}

theorem run_storeCells_z (P : Program) (g o : Nat) (t : TypeId) (z : Nat × Nat) : ∀ (vs : List Value) (i : Nat) (cur : Array Value) (w : World), w.heap[g]? = some (.cells cur t z) → ZOk z cur.size → o + i + vs.length ≤ cur.size → (∀ v ∈ vs, v.oneCell' = true) →
    (storeCells ⟨g, o, none⟩ vs i).run P w = .ok () (w.setRow g (cur.toList.take (o + i) ++ vs ++ cur.toList.drop (o + i + vs.length)).toArray)
  | [], i, cur, w, hg, _, _, _ => by
    simp only [storeCells, List.append_nil, List.length_nil, Nat.add_zero, List.take_append_drop, Array.toArray_toList]
    rw [setRow_self w g cur t z hg]
    rfl
  | v :: rest, i, cur, w, hg, hz, hl, h1 => by
    have hi : o + i < cur.size := by simp at hl; omega
    have hadd : (⟨g, o, none⟩ : Addr).add i = ⟨g, o + i, none⟩ := by unfold Addr.add; split <;> simp_all
    have hcell : w.cell? ⟨g, o + i, none⟩ = some cur[o + i] := by simp [World.cell?, hg, hi]
    have hfro : w.frozen? ⟨g, o + i, none⟩ = false := by
      have := hz.not hi
      simp only [World.frozen?, hg]
      simpa using this
    have hst : (store ((⟨g, o, none⟩ : Addr).add i) v).run P w = .ok () (w.setRow g (cur.setIfInBounds (o + i) v)) := by
      rw [hadd, run_store P w _ v _ (h1 v (by simp)), hcell]
      simp [hfro, setCell_eq_setRow w g (o + i) cur t z v hg]
    have ih := run_storeCells_z P g o t z rest (i + 1) (cur.setIfInBounds (o + i) v) (w.setRow g (cur.setIfInBounds (o + i) v)) (setRow_heap w g cur _ t _ hg) (by simpa using hz) (by simp at hl ⊢; omega) (fun x hx => h1 x (by simp [hx]))
    simp only [storeCells, Sem.run_bind, hst, Result.andThen_ok, ih, setRow_setRow]
    congr 3
    have e := list_seg_step cur.toList (o + i) v rest (by simp at hl ⊢; omega)
    simpa [Array.toList_setIfInBounds, Nat.add_assoc] using e

theorem run_storeAt {t : TypeId} {i : TI} (ht : TIok P t i) {b o : Nat} {V : Value} {c : Array Value} {e : TypeId} {z : Nat × Nat} (hc : w.heap[b]? = some (.cells c e z)) (hz : ZOk z c.size) (hs : V.cells.size = i.size)
    (ho : o + V.cells.size ≤ c.size) (h1 : ∀ y ∈ V.cells.toList, y.oneCell' = true) :
    (Instr.storeAt t (.pointer (some ⟨b, o, none⟩)) V).run P w = .ok () (w.setRow b (splice c.toList o V.cells.toList).toArray) := by
  unfold Instr.storeAt Instr.sureAddr storeVar
  have := run_storeCells_z P b o e z V.cells.toList 0 c w hc hz (by simpa using ho) h1
  simp only [Nat.add_zero] at this
  simp only [Sem.run_bind, Sem.run_pure, Result.andThen_ok, ht.run_size, hs, ne_eq, not_true_eq_false, if_false, this]
  simp [splice, List.append_assoc]

theorem setRow_keep (w : World) (g k : Nat) (cs : Array Value) (h : k ≠ g) : (w.setRow g cs).heap[k]? = w.heap[k]? := setRow_other w g k cs h

/-- a box's cells anew -/
theorem Rel.setBox (R : Rel G E st a w) {d blk : Nat} {cs cs' : List AV} {c c' : Array Value} {e : TypeId} (_ : st.b d = some cs) (hB : E.B d = some blk) (hc : w.heap[blk]? = some (.cells c e (0, 0)))
    (hv : VAs E cs' c'.toList) (hf : cs'.all AV.flat = true) : Rel G E (st.app (.box d cs')) a (w.setRow blk c') ∧ Evo E w E (w.setRow blk c') := by
  refine R.boxU (F := E) d cs' blk rfl rfl rfl rfl (fun _ _ => rfl) hB (.inl hB) (by simp) (fun k _ hk => setRow_other w blk k c' hk) (fun _ => ?_) rfl rfl rfl
  exact ⟨c', e, setRow_heap w blk c c' e _ hc, hv, hf⟩

theorem opStore_ok (R : Rel G E st a w) {t : TypeId} {i : TI} (ht : TIok P t i) {x v r : AV} {u : Upd} {X V : Value} (h : (opStore i st.b st.h x v).val = some (.v r u)) (hx : VA E x X) (hv : VA E v V) :
    r = .undef ∧ ∃ w', (Instr.storeAt t X V).run P w = .ok () w' ∧ Rel G E (st.app u) a w' ∧ Evo E w E w' := by
  unfold opStore at h
  cases hsz : (Nat.beq v.cells.length i.size)
  · simp [hsz, ER.val] at h
  · rw [hsz, Bool.not_true, cond_false] at h
    have hsz := Nat.eq_of_beq_eq_true hsz
    split at h
    · -- a box
      rename_i d off
      split at h
      · rename_i cs hb
        cases hc1 : (fitsIn off v.cells.length cs.length && v.cells.all AV.flat)
        · simp [hc1, ER.val] at h
        · rw [hc1, cond_true] at h
          simp only [ER.val, Option.some.injEq, Leaf.v.injEq] at h
          obtain ⟨rfl, rfl⟩ := h
          simp only [Bool.and_eq_true, fitsIn] at hc1
          obtain ⟨h1, h2⟩ := hc1
          have h1 := Nat.le_of_ble_eq_true h1
          obtain ⟨hvc, hone⟩ := VA.cells hv h2
          simp only [VA] at hx
          obtain ⟨blk, hB, rfl⟩ := hx
          obtain ⟨blk', hB', c, e, hc, hvc0, hf0⟩ := R.box d cs hb
          rw [hB] at hB'; injection hB' with hB'; subst hB'
          have hl := hvc.len
          have hl0 := hvc0.len
          simp only [Array.length_toList] at hl hl0
          refine ⟨rfl, _, run_storeAt ht hc (.zero _) (by omega) (by omega) hone, R.setBox hb hB hc ?_ (all_splice _ hf0 h2)⟩
          simpa using hvc0.splice hvc off
      · simp [ER.val] at h
    · -- an array's element in a box
      rename_i d off cnt sz k
      split at h
      · rename_i cs hb
        split at h
        · rename_i l hput
          rw [ER.val_need] at h
          obtain ⟨hk, h⟩ := h
          have hk : k < cnt := by simpa [Nat.blt_eq] using hk
          simp only [ER.val, Option.some.injEq, Leaf.v.injEq] at h
          obtain ⟨rfl, rfl⟩ := h
          obtain ⟨rfl, hle, hfl⟩ := putArr_splice hput hk
          obtain ⟨hvc, hone⟩ := VA.cells hv hfl
          simp only [VA] at hx
          obtain ⟨_, blk, hB, rfl⟩ := hx
          obtain ⟨blk', hB', c, e, hc, hvc0, hf0⟩ := R.box d cs hb
          rw [hB] at hB'; injection hB' with hB'; subst hB'
          have hl := hvc.len
          have hl0 := hvc0.len
          simp only [Array.length_toList, List.length_drop] at hl hl0 hle
          by_cases hoff : off ≤ cs.length
          · rw [splice_sub _ _ _ _ (by omega)]
            refine ⟨rfl, _, run_storeAt ht hc (.zero _) (by omega) (by omega) hone, R.setBox hb hB hc ?_ (all_splice _ hf0 hfl)⟩
            simpa using hvc0.splice hvc (off + k * sz)
          · have hz : v.cells.length = 0 ∧ k * sz = 0 := by omega
            exfalso
            unfold putArr at hput
            have : (cs.drop off) = [] := List.drop_eq_nil_of_le (by omega)
            rw [this] at hput
            cases hcv : v.cells with
            | nil => rw [hcv] at hput; cases htk : takeN (cnt * sz) ([] : List AV) <;> rw [htk] at hput <;> simp at hput
            | cons _ _ => rw [hcv] at hz; simp at hz
        · simp [ER.val] at h
      · simp [ER.val] at h
    · -- a heap cell
      rename_i id g off
      split at h
      · rename_i g' cs ty' ho
        cases hc1 : (Nat.beq g g' && fitsIn off v.cells.length cs.length && v.cells.all AV.flat)
        · simp [hc1, ER.val] at h
        · rw [hc1, cond_true] at h
          simp only [ER.val, Option.some.injEq, Leaf.v.injEq] at h
          obtain ⟨rfl, rfl⟩ := h
          simp only [Bool.and_eq_true, fitsIn] at hc1
          obtain ⟨⟨h0, h1⟩, h2⟩ := hc1
          have h0 := Nat.eq_of_beq_eq_true h0
          have h1 := Nat.le_of_ble_eq_true h1
          subst h0
          obtain ⟨hvc, hone⟩ := VA.cells hv h2
          have hr := R.heap.obj id _ ho
          simp only [ObjR] at hr
          obtain ⟨hI, hb0, c, e, hc, hvc0, hf0⟩ := hr
          simp only [VA] at hx
          obtain ⟨_, g1, n1, q, _, hx⟩ := hx
          rw [hI] at q; injection q with q; injection q with q1 q2
          have hx := hx (by omega)
          subst hx
          rw [hb0, Nat.zero_add]
          have hl := hvc.len
          have hl0 := hvc0.len
          simp only [Array.length_toList] at hl hl0
          refine ⟨rfl, _, run_storeAt ht hc (.zero _) (by omega) (by omega) hone, ?_⟩
          have hid : id < st.nx := by
            rcases Nat.lt_or_ge id st.nx with q | q
            · exact q
            · rw [R.new id q] at ho; cases ho
          refine R.obj (F := E) id _ cs.length rfl rfl rfl (fun _ _ => rfl) (fun _ _ => rfl) hI (fun g2 n2 q2 => ?_) (.inl ⟨by simp [hI], rfl⟩) (by simp) (fun k _ hk => setRow_other w _ k _ (hk (by simp [hI]))) (fun _ => ?_) hid rfl rfl rfl ((R.heap.ty id _ ho).write rfl hc (setRow_heap w _ c _ e _ hc))
          · rw [hI] at q2; injection q2 with q2; injection q2 with q3 q4
            exact ⟨by simp; omega, fun _ => ⟨q4.symm, rfl⟩⟩
          · simp only [ObjR]
            refine ⟨by rw [splice_len _ _ _ h1]; exact hI, hb0, _, e, setRow_heap w _ c _ e _ hc, ?_, all_splice _ hf0 h2⟩
            simpa using hvc0.splice hvc off
      · simp [ER.val] at h
    · -- an array's element in a heap block
      rename_i id g off cnt sz k
      split at h
      · rename_i g' cs ty' ho
        cases h0 : Nat.beq g g'
        · simp [h0, ER.val] at h
        · rw [h0, cond_true] at h
          have h0 := Nat.eq_of_beq_eq_true h0
          subst h0
          split at h
          · rename_i l hput
            rw [ER.val_need] at h
            obtain ⟨hk, h⟩ := h
            have hk : k < cnt := by simpa [Nat.blt_eq] using hk
            simp only [ER.val, Option.some.injEq, Leaf.v.injEq] at h
            obtain ⟨rfl, rfl⟩ := h
            obtain ⟨rfl, hle, hfl⟩ := putArr_splice hput hk
            obtain ⟨hvc, hone⟩ := VA.cells hv hfl
            have hr := R.heap.obj id _ ho
            simp only [ObjR] at hr
            obtain ⟨hI, hb0, c, e, hc, hvc0, hf0⟩ := hr
            simp only [VA] at hx
            obtain ⟨_, _, g1, n1, q, _, hx⟩ := hx
            rw [hI] at q; injection q with q; injection q with q1 q2
            have hx := hx (by omega)
            subst hx
            rw [hb0, Nat.zero_add]
            have hl := hvc.len
            have hl0 := hvc0.len
            simp only [Array.length_toList, List.length_drop] at hl hl0 hle
            have hid : id < st.nx := by
              rcases Nat.lt_or_ge id st.nx with q | q
              · exact q
              · rw [R.new id q] at ho; cases ho
            by_cases hoff : off ≤ cs.length
            · rw [splice_sub _ _ _ _ (by omega)]
              refine ⟨rfl, _, run_storeAt ht hc (.zero _) (by omega) (by omega) hone, ?_⟩
              refine R.obj (F := E) id _ cs.length rfl rfl rfl (fun _ _ => rfl) (fun _ _ => rfl) hI (fun g2 n2 q2 => ?_) (.inl ⟨by simp [hI], rfl⟩) (by simp) (fun k _ hk => setRow_other w _ k _ (hk (by simp [hI]))) (fun _ => ?_) hid rfl rfl rfl ((R.heap.ty id _ ho).write rfl hc (setRow_heap w _ c _ e _ hc))
              · rw [hI] at q2; injection q2 with q2; injection q2 with q3 q4
                exact ⟨by simp; omega, fun _ => ⟨q4.symm, rfl⟩⟩
              · simp only [ObjR]
                refine ⟨by rw [splice_len _ _ _ (by omega)]; exact hI, hb0, _, e, setRow_heap w _ c _ e _ hc, ?_, all_splice _ hf0 hfl⟩
                simpa using hvc0.splice hvc (off + k * sz)
            · have hz : v.cells.length = 0 ∧ k * sz = 0 := by omega
              exfalso
              unfold putArr at hput
              have : (cs.drop off) = [] := List.drop_eq_nil_of_le (by omega)
              rw [this] at hput
              cases hcv : v.cells with
              | nil => rw [hcv] at hput; cases htk : takeN (cnt * sz) ([] : List AV) <;> rw [htk] at hput <;> simp at hput
              | cons _ _ => rw [hcv] at hz; simp at hz
          · simp [ER.val] at h
      · simp [ER.val] at h
    · -- an element of rows
      rename_i id g sz k off
      split at h
      · rename_i g' sz' n f ty' vs ho hvs
        cases hc1 : (Nat.beq g g' && Nat.beq sz sz' && Nat.blt k n && fitsIn off vs.length sz && v.cells.all AV.flat)
        · simp [hc1, ER.val] at h
        · rw [hc1, cond_true] at h
          simp only [ER.val, Option.some.injEq, Leaf.v.injEq] at h
          obtain ⟨rfl, rfl⟩ := h
          simp only [Bool.and_eq_true, fitsIn] at hc1
          obtain ⟨⟨⟨⟨h0, h1⟩, hkn⟩, h2⟩, hfl⟩ := hc1
          have h0 := Nat.eq_of_beq_eq_true h0
          have h1 := Nat.eq_of_beq_eq_true h1
          have h2 := Nat.le_of_ble_eq_true h2
          have hkn : k < n := by simpa [Nat.blt_eq] using hkn
          subst h0 h1
          obtain ⟨hvc, hone⟩ := VA.cells hv hfl
          have hvs := allS_eq hvs
          rw [hvs] at hvc hfl hsz
          have hvl := VAs.map_s hvc hfl
          have hr := R.heap.obj id _ ho
          simp only [ObjR] at hr
          obtain ⟨hI, hbt, c, e, z, hc, hz, hct, hrows⟩ := hr
          simp only [VA] at hx
          obtain ⟨_, g1, n1, q, _, hx⟩ := hx
          rw [hI] at q; injection q with q; injection q with q1 q2
          obtain ⟨_, hx⟩ := hx (by omega)
          subst hx
          have hl := hvc.len
          simp only [Array.length_toList, List.length_map] at hl hsz
          have hmul : k * sz + sz ≤ n * sz := by have : (k + 1) * sz ≤ n * sz := Nat.mul_le_mul_right _ hkn; rw [Nat.succ_mul] at this; exact this
          have hid : id < st.nx := by
            rcases Nat.lt_or_ge id st.nx with q | q
            · exact q
            · rw [R.new id q] at ho; cases ho
          have hfit : E.bas id + (k * sz + off) + V.cells.size ≤ c.size := by omega
          refine ⟨rfl, _, run_storeAt ht hc hz (by omega) hfit hone, ?_⟩
          refine R.obj (F := E) id _ n rfl rfl rfl (fun _ _ => rfl) (fun _ _ => rfl) hI (fun g2 n2 q2 => ?_) (.inl ⟨by simp [hI], rfl⟩) (by simp) (fun k _ hk => setRow_other w _ k _ (hk (by simp [hI]))) (fun _ => ?_) hid rfl rfl rfl ((R.heap.ty id _ ho).write rfl hc (setRow_heap w _ c _ e _ hc))
          · rw [hI] at q2; injection q2 with q2; injection q2 with q3 q4
            exact ⟨by simp; omega, fun _ => ⟨q4.symm, rfl⟩⟩
          · simp only [ObjR]
            refine ⟨hI, hbt, _, e, z, setRow_heap w _ c _ e _ hc, ?_, ?_, fun j hj => ?_⟩
            · simp only [List.size_toArray]
              rw [splice_len _ _ _ (by simpa using hfit)]
              simpa using hz
            · simp only [List.size_toArray]
              rw [splice_len _ _ _ (by simpa using hfit)]
              simpa using hct
            · obtain ⟨hlen, hrow⟩ := hrows j hj
              have hjm : j * sz + sz ≤ n * sz := by have : (j + 1) * sz ≤ n * sz := Nat.mul_le_mul_right _ hj; rw [Nat.succ_mul] at this; exact this
              by_cases hjk : j = k
              · subst hjk
                rw [beq_self, cond_true]
                refine ⟨by rw [splice_len _ _ _ (by omega)]; exact hlen, VL.iff.2 fun p d hd => ?_⟩
                have hp : p < sz := by
                  rcases Nat.lt_or_ge p sz with q | q
                  · exact q
                  · rw [List.getElem?_eq_none (by rw [splice_len _ _ _ (by omega)]; omega)] at hd; cases hd
                rw [splice_get _ _ _ (by omega)] at hd
                simp only [List.getElem?_drop]
                rw [splice_get _ _ _ (by simpa using hfit)]
                simp only [Array.length_toList]
                by_cases h3 : p < off
                · rw [if_pos h3] at hd
                  rw [if_pos (by omega)]
                  simpa [List.getElem?_drop] using VL.iff.1 hrow p d hd
                · rw [if_neg h3] at hd
                  rw [if_neg (by omega)]
                  by_cases h4 : p < off + vs.length
                  · rw [if_pos h4] at hd
                    rw [if_pos (by omega)]
                    have := VL.iff.1 hvl (p - off) d hd
                    rwa [show E.bas id + j * sz + p - (E.bas id + (j * sz + off)) = p - off by omega]
                  · rw [if_neg h4] at hd
                    rw [if_neg (by omega)]
                    simpa [List.getElem?_drop] using VL.iff.1 hrow p d hd
              · rw [beq_ne hjk, cond_false]
                refine ⟨hlen, VL.iff.2 fun p d hd => ?_⟩
                have hp : p < sz := by
                  rcases Nat.lt_or_ge p sz with q | q
                  · exact q
                  · rw [List.getElem?_eq_none (by omega)] at hd; cases hd
                obtain ⟨y, hy, h5⟩ := VL.iff.1 hrow p d hd
                refine ⟨y, ?_, h5⟩
                simp only [List.getElem?_drop] at hy ⊢
                rw [splice_get _ _ _ (by simpa using hfit)]
                simp only [Array.length_toList]
                by_cases h6 : j < k
                · have : (j + 1) * sz ≤ k * sz := Nat.mul_le_mul_right _ h6
                  rw [Nat.succ_mul] at this
                  rw [if_pos (by omega)]; exact hy
                · have : (k + 1) * sz ≤ j * sz := Nat.mul_le_mul_right _ (by omega)
                  rw [Nat.succ_mul] at this
                  rw [if_neg (by omega), if_neg (by omega)]; exact hy
      · simp [ER.val] at h
    · simp [ER.val] at h

end

end Go.Ev
