/- Append, copy, conversions between texts and bytes, a text's runes. -/
import Derived.Test.YtkdbaijabnhniaaGreatDoorEvJ
namespace Go.Ev

def RowsAt (M : Nat → Option (List Value)) (sz n : Nat) (f : Nat → List SV) (ys : List Value) : Prop := ∀ i, i < n → (f i).length = sz ∧ VL M (f i) (ys.drop (i * sz))

theorem RowsAt.len {M : Nat → Option (List Value)} {sz n : Nat} {f : Nat → List SV} {ys : List Value} (h : RowsAt M sz n f ys) : n * sz ≤ ys.length := by
  cases n with
  | zero => simp
  | succ n =>
    obtain ⟨h1, h2⟩ := h n (by omega)
    have := h2.len
    rw [h1, List.length_drop] at this
    by_cases hz : sz = 0
    · subst hz; simp
    · rw [Nat.succ_mul]; omega

theorem RowsAt.one {M : Nat → Option (List Value)} {sz n : Nat} {f : Nat → List SV} {ys : List Value} (h : RowsAt M sz n f ys) : ∀ y ∈ ys.take (n * sz), y.oneCell' = true := by
  intro y hy
  obtain ⟨j, hj, rfl⟩ := List.mem_iff_getElem.1 hy
  simp only [List.length_take] at hj
  have hsz : 0 < sz := by
    rcases Nat.eq_zero_or_pos sz with e | e
    · rw [e] at hj; simp at hj
    · exact e
  have hi : j / sz < n := by rw [Nat.div_lt_iff_lt_mul hsz]; omega
  obtain ⟨h1, h2⟩ := h _ hi
  have hm : j % sz < sz := Nat.mod_lt _ hsz
  have hdm := Nat.div_add_mod j sz
  rw [Nat.mul_comm] at hdm
  obtain ⟨y, hy, hc, hv⟩ := VL.iff.1 h2 (j % sz) _ (List.getElem?_eq_getElem (by rw [h1]; exact hm))
  rw [List.getElem?_drop, hdm] at hy
  rw [List.getElem_take]
  have hl : j < ys.length := by omega
  rw [List.getElem?_eq_getElem hl] at hy
  injection hy with hy
  rw [hy]
  exact VS.one hv hc

theorem RowsAt.take {M : Nat → Option (List Value)} {sz n : Nat} {f : Nat → List SV} {ys : List Value} (h : RowsAt M sz n f ys) : RowsAt M sz n f (ys.take (n * sz)) := by
  intro i hi
  obtain ⟨h1, h2⟩ := h i hi
  have hm : i * sz + sz ≤ n * sz := by have : (i + 1) * sz ≤ n * sz := Nat.mul_le_mul_right _ hi; rw [Nat.succ_mul] at this; exact this
  refine ⟨h1, VL.iff.2 fun p d hd => ?_⟩
  obtain ⟨y, hy, h3⟩ := VL.iff.1 h2 p d hd
  have hp : p < sz := by
    rcases Nat.lt_or_ge p sz with q | q
    · exact q
    · rw [List.getElem?_eq_none (by omega)] at hd; cases hd
  refine ⟨y, ?_, h3⟩
  rw [List.getElem?_drop] at hy ⊢
  rw [List.getElem?_take, if_pos (by omega)]
  exact hy

theorem RowsAt.mono {M : Nat → Option (List Value)} {sz n m : Nat} {f : Nat → List SV} {ys : List Value} (h : RowsAt M sz n f ys) (hm : m ≤ n) : RowsAt M sz m f ys := fun i hi => h i (by omega)

section
variable {P : Program} {G : Gl} {E : Env} {st : St} {a : Act} {w : World} {T : Tab}

theorem load_rows {b o : Nat} {c : Array Value} {e : TypeId} {z : Nat × Nat} {sz n : Nat} {f : Nat → List SV} (hc : w.heap[b]? = some (.cells c e z)) (h : RowsAt E.M sz n f (c.toList.drop o)) :
    ∃ new : Array Value, (loadCells ⟨b, o, none⟩ (n * sz)).run P w = .ok new w ∧ new.size = n * sz ∧ RowsAt E.M sz n f new.toList ∧ ∀ y ∈ new.toList, y.oneCell' = true := by
  have hl := h.len
  have := run_loadCells_list (P := P) w ⟨b, o, none⟩ ((c.toList.drop o).take (n * sz)) (fun j v hv => by
    rw [Addr.add_lit]
    exact (At.of_drop hc).take _ j v hv)
  rw [List.length_take, Nat.min_eq_left hl] at this
  exact ⟨_, this, by simp only [List.size_toArray, List.length_take]; omega, by simpa using h.take, by simpa using h.one⟩

/-- what is read of a slice, or a text, that is told by rows -/
theorem rows_ok (R : Rel G E st a w) {x : AV} {X : Value} {r : Rows} (h : rowsOf st.h x = some r) (hx : VA E x X) :
    (Builtin.lenOf X).run P w = .ok r.len w ∧ ∀ n, n ≤ r.len → ∃ new : Array Value, (Builtin.firstCells r.sz n X).run P w = .ok new w ∧ new.size = n * r.sz ∧ RowsAt E.M r.sz n r.f new.toList ∧ ∀ y ∈ new.toList, y.oneCell' = true := by
  unfold rowsOf at h
  split at h
  · injection h with h; subst h
    simp only [VA, VS] at hx
    obtain ⟨b, o, cap, m, rfl, _, hm, hr⟩ := hx
    obtain ⟨c, e, z, hc, hcm⟩ := R.fz b m hm
    refine ⟨rfl, fun k hk => ?_⟩
    exact load_rows hc (fun i hi => by rw [hcm, List.drop_drop]; exact hr i (by simp at hk; omega))
  · injection h with h; subst h
    rename_i l
    simp only [VA, VS] at hx
    subst hx
    have hs : (ByteArray.mk l.toArray).size = l.length := by simp [ByteArray.size]
    refine ⟨by simp [Builtin.lenOf, hs], fun k hk => ?_⟩
    have hk : k ≤ l.length := hk
    refine ⟨((l.take k).map fun b => Value.int .u8 (b.toNat : Int)).toArray, ?_, by simp; omega, fun i hi => ?_, fun y hy => ?_⟩
    · simp only [Builtin.firstCells, Sem.run_pure, extract_mk, List.drop_zero]
      congr 1
      apply Array.ext'
      simp
    · refine ⟨rfl, ?_⟩
      have hi' : i < l.length := by omega
      simp only [byteRow, VL, Nat.mul_one, SV.isCell]
      refine ⟨Value.int .u8 ((l.getD i 0).toNat : Int), ((l.take k).map fun b => Value.int .u8 (b.toNat : Int)).drop (i + 1), ?_, trivial, by simp only [VS], trivial⟩
      rw [List.drop_eq_getElem_cons (by simp; omega)]
      simp [List.getD_eq_getElem?_getD, List.getElem?_eq_getElem hi']
    · simp only [List.mem_map] at hy
      obtain ⟨b, _, rfl⟩ := hy
      rfl
  · rename_i id g sz off len
    split at h
    · rename_i g' sz' n f ty' ho
      obtain ⟨hg, rfl⟩ := cond_some h
      simp only [Bool.and_eq_true] at hg
      have hg1 := Nat.eq_of_beq_eq_true hg.1
      have hg2 := Nat.eq_of_beq_eq_true hg.2
      subst hg1 hg2
      have hr := R.heap.obj id _ ho
      simp only [ObjR] at hr
      obtain ⟨hI, hbt, c, e, _, hc, _, hct, hrows⟩ := hr
      simp only [VA] at hx
      obtain ⟨_, g1, n1, q, _, hx⟩ := hx
      rw [hI] at q; injection q with q; injection q with q1 q2
      obtain ⟨hon, cap, A, hlc, _, hA, rfl⟩ := hx (by omega)
      refine ⟨rfl, fun k hk => ?_⟩
      have hk : k ≤ len := hk
      by_cases hk0 : k = 0
      · subst hk0
        refine ⟨#[], ?_, by simp, fun i hi => by omega, by simp⟩
        have : (loadCells ⟨E.blk id, A, none⟩ 0).run P w = .ok #[] w := rfl
        simpa [Builtin.firstCells] using this
      · have hA := hA (by omega)
        subst hA
        have := load_rows (P := P) (E := E) (o := E.bas id + off * sz) (sz := sz) (n := k) (f := fun i => f (i + off)) hc (fun i hi => by
          rw [List.drop_drop, show E.bas id + off * sz + i * sz = E.bas id + (i + off) * sz by rw [Nat.add_mul]; omega]
          exact hrows (i + off) (by omega))
        exact this
    · cases h
  · cases h

theorem nextcap_le (need cap : Nat) (h : cap < need) : Builtin.nextslicecap need cap ≤ 2 * need + 1000 := by
  unfold Builtin.nextslicecap
  split
  · omega
  · split
    · omega
    · have key : ∀ (k c : Nat), c ≤ need + (need + 768) / 4 → Builtin.growBy need k c ≤ need + (need + 768) / 4 := by
        intro k
        induction k with
        | zero => intro c hc; exact hc
        | succ k ih =>
          intro c hc
          unfold Builtin.growBy
          split
          · exact hc
          · exact ih _ (by omega)
      have := key 4 cap (by omega)
      omega

theorem zeroCells_size (z : Array Value) (n : Nat) : (Builtin.zeroCells z n).size = n * z.size := by simp [Builtin.zeroCells]

/-- the rows of two, one behind the other -/
theorem RowsAt.cat {M : Nat → Option (List Value)} {sz n m off : Nat} {f xf : Nat → List SV} {xs ys zs : List Value} (h : RowsAt M sz n (fun i => f (i + off)) xs) (k : RowsAt M sz m xf ys) (hx : xs.length = n * sz) :
    RowsAt M sz (n + m) (catRows n off f xf) (xs ++ (ys ++ zs)) := by
  intro i hi
  unfold catRows
  by_cases hn : i < n
  · have hb : Nat.blt i n = true := by simpa [Nat.blt_eq] using hn
    rw [hb, cond_true]
    obtain ⟨h1, h2⟩ := h i hn
    refine ⟨h1, VL.iff.2 fun p d hd => ?_⟩
    obtain ⟨y, hy, h3⟩ := VL.iff.1 h2 p d hd
    refine ⟨y, ?_, h3⟩
    rw [List.getElem?_drop] at hy ⊢
    rw [List.getElem?_append_left (by have := List.getElem?_eq_some_iff.1 hy; exact this.1)]
    exact hy
  · have hb : Nat.blt i n = false := by rw [Bool.eq_false_iff]; simpa [Nat.blt_eq] using hn
    rw [hb, cond_false]
    obtain ⟨h1, h2⟩ := k (i - n) (by omega)
    refine ⟨h1, VL.iff.2 fun p d hd => ?_⟩
    obtain ⟨y, hy, h3⟩ := VL.iff.1 h2 p d hd
    refine ⟨y, ?_, h3⟩
    rw [List.getElem?_drop] at hy ⊢
    have e : i * sz = n * sz + (i - n) * sz := by rw [← Nat.add_mul]; congr 1; omega
    rw [List.getElem?_append_right (by rw [hx, e]; omega), hx, e, show n * sz + (i - n) * sz + p - n * sz = (i - n) * sz + p by omega]
    rw [List.getElem?_append_left (by have := List.getElem?_eq_some_iff.1 hy; exact this.1)]
    exact hy

/-- the world behind a grown slice -/
def grown (w : World) (c : Array Value) (e : TypeId) : World := { w with heap := w.heap.push (.cells c e), drawn := w.drawn + 1 }

/-- append where there is no room -/
theorem append_grow (hT : TabOK P T) {t u e ty : TypeId} {te : TI} (hte : T e = some te) (hu : P.underlying t = some (.slice e)) {S X : Value} {base : Option Addr} {n cap m : Nat} {old new : Array Value}
    (hS : S = .slice base n cap) (hz : (∃ d, P.underlying u = some (.slice d)) ∨ P.underlying u = some .string) (hlen : (Builtin.lenOf X).run P w = .ok m w)
    (hold : (Builtin.firstCells te.size n S).run P { w with drawn := w.drawn + 1 } = .ok old { w with drawn := w.drawn + 1 }) (hnew : (Builtin.firstCells te.size m X).run P { w with drawn := w.drawn + 1 } = .ok new { w with drawn := w.drawn + 1 })
    (hroom : cap < n + m) (hb : (n + m) * (te.bytes + 1) ≤ roomE) :
    ∃ c z, n + m ≤ c ∧ (Builtin.zeroCells z (c - (n + m))).size = (c - (n + m)) * te.size ∧
      (Builtin.append_ #[t, u] ty #[S, X]).run P w = .ok (.slice (some ⟨w.heap.size, 0, none⟩) (n + m) c) (grown w (old ++ new ++ Builtin.zeroCells z (c - (n + m))) e) := by
  obtain ⟨j, z, hj, hs, hby, hz0, hz1, hz2, _⟩ := (hT e te hte).info
  have hmb : (n + m) * te.bytes + (n + m) ≤ 68719476736 := by
    have : (n + m) * (te.bytes + 1) = (n + m) * te.bytes + (n + m) := Nat.mul_succ _ _
    rw [← this]; exact hb
  refine ⟨(n + m) + w.tape w.drawn (.appendCap (n + m) cap e) % (2 ^ 63 - (n + m)), z.cells, Nat.le_add_right _ _, by rw [zeroCells_size, hz2], ?_⟩
  subst hS
  unfold Builtin.append_
  have hti : ∀ w, (typeInfo e).run P w = .ok j w := fun w => by simp [typeInfo, hj]
  have hzr : ∀ w, (zeroValue e).run P w = .ok z w := fun w => by simp [zeroValue, typeInfo, hj, hz0]
  have c1 : ¬ (((n + m : Nat) : Int) > IntKind.i64.max ∧ (False ∨ j.bytes = 0)) := by rw [IntKind.max_i64]; omega
  have c2 : ¬ (Builtin.nextslicecap (n + m) cap * j.bytes > 2 ^ 48) := by
    have h1 := nextcap_le (n + m) cap hroom
    have h2 : Builtin.nextslicecap (n + m) cap * j.bytes ≤ (2 * (n + m) + 1000) * j.bytes := Nat.mul_le_mul_right _ h1
    rw [hby] at *
    have h3 : (2 * (n + m) + 1000) * te.bytes = 2 * ((n + m) * te.bytes) + 1000 * te.bytes := by rw [Nat.add_mul, Nat.mul_assoc]
    have h4 : te.bytes ≤ 68719476736 := by
      have : 1 * te.bytes ≤ (n + m) * te.bytes := Nat.mul_le_mul_right _ (by omega)
      omega
    omega
  have hn1 : ¬ (n + m ≤ cap) := by omega
  have hus := run_underlying hu
  have hsz := fun w => (hT e te hte).run_size (w := w)
  have c1' : ¬ (((n + m : Nat) : Int) > IntKind.i64.max ∧ (false = true ∨ j.bytes = 0)) := by rw [IntKind.max_i64]; omega
  have hch : (choose (.appendCap (n + m) cap e)).run P w = .ok ((n + m) + w.tape w.drawn (.appendCap (n + m) cap e) % (2 ^ 63 - (n + m))) { w with drawn := w.drawn + 1 } := by
    simp [run_choose, Question.forced, Question.cut]
  rcases hz with ⟨d, hd⟩ | hd <;>
  · have hds := run_underlying hd
    simp only [List.getElem?_toArray, List.getElem?_cons_zero, List.getElem?_cons_succ, Sem.run_bind, hus, Result.andThen_ok, hsz, hds, Sem.run_pure, Bool.false_eq_true, if_false, hlen, if_neg hn1, hti]
    rw [if_neg c1]
    simp only [Sem.run_bind, hti, Result.andThen_ok]
    rw [if_neg c2]
    simp only [Sem.run_bind, hch, hti, run_askRoom, hold, hnew, Bool.not_false, if_true, hzr, Result.andThen_ok]
    rfl

theorem append_fit (hT : TabOK P T) {t u e ty : TypeId} {te : TI} (hte : T e = some te) (hu : P.underlying t = some (.slice e)) {X : Value} {base : Option Addr} {n cap m : Nat} {new : Array Value}
    (hz : (∃ d, P.underlying u = some (.slice d)) ∨ P.underlying u = some .string) (hlen : (Builtin.lenOf X).run P w = .ok m w) (hnew : (Builtin.firstCells te.size m X).run P w = .ok new w) (hroom : n + m ≤ cap) {v : World}
    (hst : ∀ a, base = some a → (storeCells (a.add (n * te.size)) new.toList).run P w = .ok () v) (hno : base = none → v = w) :
    (Builtin.append_ #[t, u] ty #[.slice base n cap, X]).run P w = .ok (.slice base (n + m) cap) v := by
  unfold Builtin.append_
  have hus := run_underlying hu
  have hsz := fun w => (hT e te hte).run_size (w := w)
  rcases hz with ⟨d, hd⟩ | hd <;>
  · have hds := run_underlying hd
    simp only [List.getElem?_toArray, List.getElem?_cons_zero, List.getElem?_cons_succ, Sem.run_bind, hus, Result.andThen_ok, hsz, hds, Sem.run_pure, Bool.false_eq_true, if_false, hlen, if_pos hroom, hnew, Bool.not_false, if_true]
    cases base with
    | none => rw [hno rfl]; rfl
    | some a => simp only [Sem.run_bind, hst a rfl, Result.andThen_ok, Sem.run_pure]

theorem hid_of (R : Rel G E st a w) {id : Nat} {o : HO} (ho : st.h id = some o) : id < st.nx := by
  rcases Nat.lt_or_ge id st.nx with q | q
  · exact q
  · rw [R.new id q] at ho; cases ho

/-- cells of a row of a block anew -/
theorem rows_splice {M : Nat → Option (List Value)} {sz n b o m : Nat} {f xf : Nat → List SV} {cs ys : List Value} (h : ∀ i, i < n → (f i).length = sz ∧ VL M (f i) (cs.drop (b + i * sz)))
    (hx : RowsAt M sz m xf ys) (hy : ys.length = m * sz) (hfit : b + (o + m) * sz ≤ cs.length) (i : Nat) :
    (i < o → i < n → (f i).length = sz ∧ VL M (f i) ((splice cs (b + o * sz) ys).drop (b + i * sz))) ∧
    (o ≤ i → i < o + m → (xf (i - o)).length = sz ∧ VL M (xf (i - o)) ((splice cs (b + o * sz) ys).drop (b + i * sz))) ∧
    (o + m ≤ i → i < n → (f i).length = sz ∧ VL M (f i) ((splice cs (b + o * sz) ys).drop (b + i * sz))) := by
  have hfit' : b + o * sz + ys.length ≤ cs.length := by rw [hy]; rw [Nat.add_mul] at hfit; omega
  refine ⟨fun h1 h2 => ?_, fun h1 h2 => ?_, fun h1 h2 => ?_⟩
  · obtain ⟨h3, h4⟩ := h i h2
    refine ⟨h3, VL.iff.2 fun p d hd => ?_⟩
    obtain ⟨y, hy', h5⟩ := VL.iff.1 h4 p d hd
    have hp : p < sz := by
      rcases Nat.lt_or_ge p sz with q | q
      · exact q
      · rw [List.getElem?_eq_none (by omega)] at hd; cases hd
    have hm : (i + 1) * sz ≤ o * sz := Nat.mul_le_mul_right _ h1
    rw [Nat.succ_mul] at hm
    refine ⟨y, ?_, h5⟩
    rw [List.getElem?_drop] at hy' ⊢
    rw [splice_get _ _ _ hfit', if_pos (by omega)]
    exact hy'
  · obtain ⟨h3, h4⟩ := hx (i - o) (by omega)
    refine ⟨h3, VL.iff.2 fun p d hd => ?_⟩
    obtain ⟨y, hy', h5⟩ := VL.iff.1 h4 p d hd
    refine ⟨y, ?_, h5⟩
    rw [List.getElem?_drop] at hy' ⊢
    have e : i * sz = o * sz + (i - o) * sz := by rw [← Nat.add_mul]; congr 1; omega
    have hlt := (List.getElem?_eq_some_iff.1 hy').1
    rw [splice_get _ _ _ hfit', if_neg (by omega), if_pos (by omega), show b + i * sz + p - (b + o * sz) = (i - o) * sz + p by omega]
    exact hy'
  · obtain ⟨h3, h4⟩ := h i h2
    refine ⟨h3, VL.iff.2 fun p d hd => ?_⟩
    obtain ⟨y, hy', h5⟩ := VL.iff.1 h4 p d hd
    have hm : (o + m) * sz ≤ i * sz := Nat.mul_le_mul_right _ h1
    rw [Nat.add_mul] at hm
    refine ⟨y, ?_, h5⟩
    rw [List.getElem?_drop] at hy' ⊢
    rw [splice_get _ _ _ hfit', if_neg (by omega), if_neg (by rw [hy]; omega)]
    exact hy'

theorem opAppend_ok (R : Rel G E st a w) (hT : TabOK P T) {t u e ty : TypeId} {te : TI} (hte : T e = some te) (hu : P.underlying t = some (.slice e)) (hz : (∃ d, P.underlying u = some (.slice d)) ∨ P.underlying u = some .string)
    {id : Nat} {s x r : AV} {up : Upd} {S X : Value} (h : (opAppend e te.size te.bytes st.h id s x).val = some (.v r up)) (hs : VA E s S) (hx : VA E x X) (hid : id < st.nx) :
    MOk P G E st a w (Builtin.append_ #[t, u] ty #[S, X]) r up := by
  have hnilx : x = .s .nils → (Builtin.lenOf X).run P w = .ok 0 w ∧ (Builtin.firstCells te.size 0 X).run P w = .ok #[] w := by
    rintro rfl
    simp only [VA, VS] at hx
    subst hx
    exact ⟨rfl, rfl⟩
  have agree : Rel G E st a { w with drawn := w.drawn + 1 } ∧ Evo E w E { w with drawn := w.drawn + 1 } := R.agree (Nat.le_refl _) (fun _ _ => rfl) rfl rfl rfl
  unfold opAppend at h
  split at h
  · -- nil grows
    simp only [VA, VS] at hs
    subst hs
    split at h
    · rw [ER.val_pv, Leaf.v.injEq] at h
      obtain ⟨rfl, rfl⟩ := h
      obtain ⟨h1, h2⟩ := hnilx rfl
      exact ⟨E, _, w, append_fit (v := w) hT hte hu hz h1 h2 (Nat.le_refl _) (fun a ha => by cases ha) (fun _ => rfl), by simp [VA, VS], R, .refl E w⟩
    · split at h
      · rename_i rr hrr
        cases hc : Nat.beq rr.sz te.size
        · simp [hc, ER.val] at h
        · rw [hc, cond_true] at h
          have hc := Nat.eq_of_beq_eq_true hc
          obtain ⟨h1, h2⟩ := rows_ok (P := P) R hrr hx
          simp only [ER.val] at h
          cases h0 : Nat.beq rr.len 0
          · rw [h0, cond_false] at h
            rw [ER.val_need] at h
            obtain ⟨hb, h⟩ := h
            have hb := Nat.le_of_ble_eq_true hb
            simp only [mkRows, ER.val, Option.some.injEq, Leaf.v.injEq] at h
            obtain ⟨rfl, rfl⟩ := h
            have hpos : 0 < rr.len := by
              rcases Nat.eq_zero_or_pos rr.len with q | q
              · rw [q] at h0; simp at h0
              · exact q
            obtain ⟨R1, V1⟩ := agree
            obtain ⟨_, h2'⟩ := rows_ok (P := P) R1 hrr hx
            obtain ⟨new, hn1, hn2, hn3, _⟩ := h2' rr.len (Nat.le_refl _)
            rw [hc] at hn1 hn2 hn3
            obtain ⟨c, z, hc1, hc2, hrun⟩ := append_grow (ty := ty) (n := 0) (cap := 0) (base := none) hT hte hu rfl hz h1 (old := #[]) rfl hn1 (by omega) (by rw [Nat.zero_add]; exact hb)
            simp only [Nat.zero_add] at hc1 hc2 hrun
            have hsz : (#[] ++ new ++ Builtin.zeroCells z (c - rr.len)).size = c * te.size := by
              rw [Array.size_append, hc2]
              simp only [Array.empty_append, hn2]
              rw [← Nat.add_mul]; congr 1; omega
            obtain ⟨F, h3, h4, h5⟩ := mkRows_ok (ty := some e) (e := e) R1 (fun t q => (Option.some.inj q).symm) (id := id) (sz := te.size) (len := rr.len) (cap := c) (f := rr.f) (c := #[] ++ new ++ Builtin.zeroCells z (c - rr.len)) hid hc1 hsz (fun i hi => by
              obtain ⟨h6, h7⟩ := hn3 i hi
              refine ⟨h6, VL.iff.2 fun p d hd => ?_⟩
              obtain ⟨y, hy, h8⟩ := VL.iff.1 h7 p d hd
              refine ⟨y, ?_, h8⟩
              rw [List.getElem?_drop] at hy ⊢
              have hlt := (List.getElem?_eq_some_iff.1 hy).1
              simp only [Array.empty_append, Array.toList_append]
              rw [List.getElem?_append_left hlt]
              exact hy)
            exact ⟨F, _, _, hrun, h3, h4, V1.trans h5⟩
          · rw [h0, cond_true] at h
            simp only [Option.some.injEq, Leaf.v.injEq] at h
            obtain ⟨rfl, rfl⟩ := h
            have h0 := Nat.eq_of_beq_eq_true h0
            rw [h0] at h1
            obtain ⟨new, hn1, hn2, _⟩ := h2 0 (Nat.zero_le _)
            rw [hc] at hn1
            exact ⟨E, _, w, append_fit (v := w) hT hte hu hz h1 hn1 (Nat.le_refl _) (fun a ha => by cases ha) (fun _ => rfl), by simp [VA, VS], R, .refl E w⟩
      · simp [ER.val] at h
  · -- a slice of the call's own
    rename_i id' g sz off len
    split at h
    · rw [ER.val_pv, Leaf.v.injEq] at h
      obtain ⟨rfl, rfl⟩ := h
      obtain ⟨h1, h2⟩ := hnilx rfl
      have hs' := hs
      simp only [VA] at hs
      obtain ⟨⟨c, k, rfl, hk⟩, _⟩ := hs
      exact ⟨E, _, w, append_fit (v := w) hT hte hu hz h1 h2 hk (fun a ha => rfl) (fun _ => rfl), hs', R, .refl E w⟩
    · split at h
      · rename_i g' sz'' n f ty' rr ho hrr
        rw [ER.val_need] at h
        obtain ⟨hg, h⟩ := h
        cases hc : (Nat.beq te.size sz && Nat.beq te.size sz'' && Nat.beq te.size rr.sz)
        · simp [hc, ER.val] at h
        · rw [hc, cond_true, ER.val_need] at h
          simp only [Bool.and_eq_true] at hc
          have e1 := Nat.eq_of_beq_eq_true hg
          have e2 := Nat.eq_of_beq_eq_true hc.1.1
          have e3 := Nat.eq_of_beq_eq_true hc.1.2
          have e4 := Nat.eq_of_beq_eq_true hc.2
          obtain ⟨hb, h⟩ := h
          have hb := Nat.le_of_ble_eq_true hb
          simp only [ER.val, Option.some.injEq, Leaf.v.injEq] at h
          obtain ⟨rfl, rfl⟩ := h
          subst e1 e2 e3
          obtain ⟨h1, h2⟩ := rows_ok (P := P) R hrr hx
          have hr := R.heap.obj id' _ ho
          simp only [ObjR] at hr
          obtain ⟨hI, hbt, c, e', z', hcc, hzc, hct, hrows⟩ := hr
          have hs' := hs
          simp only [VA] at hs
          obtain ⟨_, g1, n1, q, _, hs⟩ := hs
          rw [hI] at q; injection q with q; injection q with q1 q2
          obtain ⟨hon, cap, A, hlc, htt, hA, rfl⟩ := hs (by omega)
          subst q2
          by_cases hroom : len + rr.len ≤ cap
          · -- room
            obtain ⟨new, hn1, hn2, hn3, hn4⟩ := h2 rr.len (Nat.le_refl _)
            rw [← e4] at hn1 hn2 hn3
            have hfit : E.bas id' + off * te.size + (len + rr.len) * te.size ≤ c.size := by
              have : (off + (len + rr.len)) * te.size ≤ (off + cap) * te.size := Nat.mul_le_mul_right _ (by omega)
              rw [Nat.add_mul] at this
              omega
            let c' : Array Value := (splice c.toList (E.bas id' + off * te.size + len * te.size) new.toList).toArray
            have hfit2 : E.bas id' + off * te.size + len * te.size + new.toList.length ≤ c.toList.length := by
              simp only [Array.length_toList, hn2]
              rw [Nat.add_mul] at hfit; omega
            have hst : (storeCells ((⟨E.blk id', A, none⟩ : Addr).add (len * te.size)) new.toList).run P w = .ok () (w.setRow (E.blk id') c') ∨ (cap = 0 ∧ new = #[]) := by
              rcases Nat.eq_zero_or_pos cap with hc0 | hc0
              · right
                refine ⟨hc0, ?_⟩
                have : rr.len = 0 := by omega
                rw [this, Nat.zero_mul] at hn2
                exact Array.eq_empty_of_size_eq_zero hn2
              · left
                have hA := hA hc0
                subst hA
                rw [Addr.add_lit]
                have := run_storeCells_z P (E.blk id') (E.bas id' + off * te.size + len * te.size) e' z' new.toList 0 c w hcc hzc (by simpa using hfit2) hn4
                simp only [Nat.add_zero] at this
                simp only [this, c']
                simp [splice, List.append_assoc]
            have key : ∀ v : World, (v = w.setRow (E.blk id') c') → Rel G (E.withObj id' (g + 1) (len + rr.len) (E.blk id') (E.bas id' + off * te.size) (E.tot id')) (st.app (.obj id' ⟨g + 1, .rows te.size (len + rr.len) (catRows len off f rr.f), sameTy ty' e⟩)) a v ∧
                Evo E w (E.withObj id' (g + 1) (len + rr.len) (E.blk id') (E.bas id' + off * te.size) (E.tot id')) v := by
              rintro v rfl
              refine R.obj (F := E.withObj id' (g + 1) (len + rr.len) (E.blk id') (E.bas id' + off * te.size) (E.tot id')) id' _ (len + rr.len) rfl rfl rfl (fun j hj => by simp [Env.withObj, hj]) (fun j hj => by simp [Env.withObj, hj]) (Env.withObj_I ..) (fun g2 m2 hgm => ?_)
                (.inl ⟨by simp [hI], by simp [Env.blk, Env.withObj_P]⟩) (by simp) (fun k _ hk => setRow_other w _ k _ (hk (by simp [hI]))) (fun le => ?_) (hid_of R ho) rfl rfl rfl (((R.heap.ty id' _ ho).write (o' := ⟨g, .iter [] 0, ty'⟩) rfl hcc (by simp only [Env.blk, Env.withObj_P]; exact setRow_heap w _ c _ e' _ hcc)).same)
              · rw [hI] at hgm; injection hgm with hgm; injection hgm with h3 h4
                exact ⟨by simp; omega, fun e => by simp at e; omega⟩
              · simp only [ObjR]
                refine ⟨Env.withObj_I .., ?_, c', e', z', ?_, ?_, ?_, fun i hi => ?_⟩
                · simp only [Env.bas, Env.tot, Env.withObj_P]
                  simp only [Env.bas, Env.tot] at hct hfit
                  omega
                · simp only [Env.blk, Env.withObj_P]; exact setRow_heap w _ c _ e' _ hcc
                · have hsz' : c'.size = c.size := by simp only [c', List.size_toArray]; rw [splice_len _ _ _ (by simpa using hfit2)]; simp
                  rw [hsz']; exact hzc
                · simp only [Env.tot, Env.withObj_P, c', List.size_toArray]
                  rw [splice_len _ _ _ hfit2]; simpa using hct
                · simp only [Env.bas, Env.withObj_P, c']
                  have hsp := rows_splice (M := E.M) (sz := te.size) (n := n - off) (b := E.bas id' + off * te.size) (o := len) (m := rr.len) (f := fun i => f (i + off)) (xf := rr.f) (cs := c.toList) (ys := new.toList)
                    (fun i hi => by
                      have := hrows (i + off) (by omega)
                      rwa [show E.bas id' + off * te.size + i * te.size = E.bas id' + (i + off) * te.size by rw [Nat.add_mul]; omega]) hn3 (by simpa using hn2) (by simpa using hfit) i
                  unfold catRows
                  by_cases hil : i < len
                  · have hbl : Nat.blt i len = true := by simpa [Nat.blt_eq] using hil
                    rw [hbl, cond_true]
                    have := hsp.1 hil (by omega)
                    exact ⟨this.1, VL.mono le.M _ _ this.2⟩
                  · have hbl : Nat.blt i len = false := by rw [Bool.eq_false_iff]; simpa [Nat.blt_eq] using hil
                    rw [hbl, cond_false]
                    have := hsp.2.1 (by omega) (by omega)
                    exact ⟨this.1, VL.mono le.M _ _ this.2⟩
            have hval : VA (E.withObj id' (g + 1) (len + rr.len) (E.blk id') (E.bas id' + off * te.size) (E.tot id')) (.sl id' (g + 1) te.size 0 (len + rr.len)) (.slice (some ⟨E.blk id', A, none⟩) (len + rr.len) cap) := by
              simp only [VA]
              refine ⟨⟨_, _, rfl, hroom⟩, _, _, Env.withObj_I .., Nat.le_refl _, fun _ => ⟨by omega, cap, A, hroom, ?_, fun hc0 => ?_, by simp [Env.blk, Env.withObj_P]⟩⟩
              · simp only [Env.bas, Env.tot, Env.withObj_P, Nat.zero_add]
                simp only [Env.bas, Env.tot] at htt
                rw [Nat.add_mul] at htt; omega
              · simp only [Env.bas, Env.withObj_P, Nat.zero_mul, Nat.add_zero]; exact hA hc0
            rcases hst with hst | ⟨hc0, hnew⟩
            · refine ⟨_, _, _, append_fit (v := w.setRow (E.blk id') c') hT hte hu hz h1 hn1 hroom (fun a ha => by injection ha with ha; subst ha; exact hst) (fun h => by cases h), hval, key _ rfl⟩
            · have hl0 : len = 0 ∧ rr.len = 0 := by omega
              have hceq : w.setRow (E.blk id') c' = w := by
                have : c' = c := by
                  simp only [c', hnew, splice, List.nil_append, List.length_nil, Nat.add_zero, List.take_append_drop, Array.toArray_toList]
                rw [this]
                exact setRow_self w _ c e' z' hcc
              refine ⟨_, _, w, append_fit (v := w) hT hte hu hz h1 hn1 hroom (fun a ha => by subst hnew; rfl) (fun h => by cases h), hval, key w hceq.symm⟩
          · -- no room
            obtain ⟨R1, V1⟩ := agree
            obtain ⟨_, h2'⟩ := rows_ok (P := P) R1 hrr hx
            obtain ⟨new, hn1, hn2, hn3, _⟩ := h2' rr.len (Nat.le_refl _)
            rw [← e4] at hn1 hn2 hn3
            have hrs : rowsOf st.h (.sl id' g te.size off len) = some ⟨te.size, len, fun i => f (i + off)⟩ := by
              simp [rowsOf, ho]
            obtain ⟨_, h3⟩ := rows_ok (P := P) R1 hrs hs'
            obtain ⟨old, ho1, ho2, ho3, _⟩ := h3 len (Nat.le_refl _)
            simp only at ho1 ho2 ho3
            obtain ⟨k, z, hc1, hc2, hrun⟩ := append_grow (ty := ty) (n := len) (cap := cap) (base := some ⟨E.blk id', A, none⟩) hT hte hu rfl hz h1 ho1 hn1 (by omega) hb
            have hsz : (old ++ new ++ Builtin.zeroCells z (k - (len + rr.len))).size = k * te.size := by
              rw [Array.size_append, Array.size_append, hc2, ho2, hn2, ← Nat.add_mul, ← Nat.add_mul]; congr 1; omega
            have := R1.obj (F := E.withObj id' (g + 1) (len + rr.len) w.heap.size 0 (k * te.size)) (v := grown w (old ++ new ++ Builtin.zeroCells z (k - (len + rr.len))) e) id' ⟨g + 1, .rows te.size (len + rr.len) (catRows len off f rr.f), sameTy ty' e⟩ (len + rr.len) rfl rfl rfl
              (fun j hj => by simp [Env.withObj, hj]) (fun j hj => by simp [Env.withObj, hj]) (Env.withObj_I ..) (fun g2 m2 hgm => by
                rw [hI] at hgm; injection hgm with hgm; injection hgm with h3 h4
                exact ⟨by simp; omega, fun e => by simp at e; omega⟩)
              (.inr ⟨by simp [Env.blk, Env.withObj_P], by simp [Env.blk, Env.withObj_P, grown]⟩) (by simp [grown]) (fun blk hb _ => by simp only [grown]; exact push_old w _ blk hb) (fun le => by
                simp only [ObjR]
                refine ⟨Env.withObj_I .., ?_, old ++ new ++ Builtin.zeroCells z (k - (len + rr.len)), e, (0, 0), ?_, .zero _, ?_, fun i hi => ?_⟩
                · simp only [Env.bas, Env.tot, Env.withObj_P, Nat.zero_add]; exact Nat.mul_le_mul_right _ hc1
                · simp only [Env.blk, Env.withObj_P, grown]; exact push_new w _
                · simp only [Env.tot, Env.withObj_P]; exact hsz
                · simp only [Env.bas, Env.withObj_P, Nat.zero_add]
                  have hcat := ho3.cat hn3 (zs := (Builtin.zeroCells z (k - (len + rr.len))).toList) (by simpa using ho2) i hi
                  simp only [Array.toList_append, List.append_assoc]
                  exact ⟨hcat.1, VL.mono le.M _ _ hcat.2⟩) (hid_of R ho) rfl rfl rfl (TyR.grown (c := old ++ new ++ Builtin.zeroCells z (k - (len + rr.len))) (by simp only [Env.blk, Env.withObj_P, grown]; exact push_new w _))
            refine ⟨_, _, _, hrun, ?_, this.1, V1.trans this.2⟩
            simp only [VA]
            refine ⟨⟨_, _, rfl, hc1⟩, _, _, Env.withObj_I .., Nat.le_refl _, fun _ => ⟨by omega, k, 0, hc1, ?_, fun _ => ?_, by simp [Env.blk, Env.withObj_P]⟩⟩
            · simp [Env.bas, Env.tot, Env.withObj_P]
            · simp [Env.bas, Env.withObj_P]
      · simp [ER.val] at h
  · simp [ER.val] at h

end

end Go.Ev
