/- Operations that make memory. -/
import Derived.Test.YtkdbaijabnhniaaGreatDoorEvI
import Derived.IntWalk
namespace Go.Ev

def MOk (P : Program) (G : Gl) (E : Env) (st : St) (a : Act) (w : World) (s : Sem Value) (r : AV) (u : Upd) : Prop :=
  ∃ F y v, s.run P w = .ok y v ∧ VA F r y ∧ Rel G F (st.app u) a v ∧ Evo E w F v

section
variable {P : Program} {G : Gl} {E : Env} {st : St} {a : Act} {w : World} {T : Tab}

theorem VOk.mok (R : Rel G E st a w) {s : Sem Value} {r : AV} {u : Upd} (h : VOk P E w s r u) : MOk P G E st a w s r u := by
  obtain ⟨rfl, Z, h1, h2⟩ := h
  exact ⟨E, Z, w, h1, h2, R, .refl E w⟩

theorem push_new (w : World) (o : Obj) : (w.heap.push o)[w.heap.size]? = some o := by simp
theorem push_old (w : World) (o : Obj) (i : Nat) (h : i < w.heap.size) : (w.heap.push o)[i]? = w.heap[i]? := by
  rw [Array.getElem?_push]; simp [Nat.ne_of_lt h]

def Env.withObj (E : Env) (id g n b o tot : Nat) : Env :=
  { E with I := fun i => if i = id then some (g, n) else E.I i, P := fun i => if i = id then (b, o, tot) else E.P i }

theorem Env.withObj_P (E : Env) (id g n b o tot : Nat) : (E.withObj id g n b o tot).P id = (b, o, tot) := by simp [Env.withObj]
theorem Env.withObj_I (E : Env) (id g n b o tot : Nat) : (E.withObj id g n b o tot).I id = some (g, n) := by simp [Env.withObj]

/-- a new block for an id -/
theorem Rel.newObj (R : Rel G E st a w) (id : Nat) (o : HO) (ob : Obj) (n tot : Nat) (hg : o.gen = newGen st.h id) (hid : id < st.nx)
    (ho : EnvLe E (E.withObj id o.gen n w.heap.size 0 tot) → ObjR (E.withObj id o.gen n w.heap.size 0 tot) { w with heap := w.heap.push ob } id o) (hty : ∀ t, o.ty = some t → ∃ c z, ob = .cells c t z) :
    Rel G (E.withObj id o.gen n w.heap.size 0 tot) (st.app (.obj id o)) a { w with heap := w.heap.push ob } ∧ Evo E w (E.withObj id o.gen n w.heap.size 0 tot) { w with heap := w.heap.push ob } := by
  refine R.obj (F := E.withObj id o.gen n w.heap.size 0 tot) id o n rfl rfl rfl (fun j hj => by simp [Env.withObj, hj]) (fun j hj => by simp [Env.withObj, hj]) (Env.withObj_I ..) (fun g m hgm => ?_)
    (.inr ⟨by simp [Env.blk, Env.withObj_P], by simp [Env.blk, Env.withObj_P]⟩) (by simp) (fun blk hb _ => push_old w ob blk hb) ho hid rfl rfl rfl (fun t q => by
      obtain ⟨c, z, e⟩ := hty t q
      exact ⟨c, z, by simp only [Env.blk, Env.withObj_P]; rw [← e]; exact push_new w ob⟩)
  have : g < o.gen := by
    rw [hg]
    unfold newGen
    cases hh : st.h id with
    | none => rw [R.heap.non id hh] at hgm; cases hgm
    | some p =>
      obtain ⟨k, hk⟩ := R.heap.gen hh
      rw [hk] at hgm
      injection hgm with hgm
      injection hgm with h1 h2
      simp; omega
  exact ⟨by omega, fun e => by omega⟩

theorem mkVar_ok (R : Rel G E st a w) {ty : Option TypeId} {heap : Bool} {id d : Nat} {e : TypeId} {cs : List AV} {r : AV} {u : Upd} {v : Value} (hty : ∀ t, ty = some t → t = e) (h : (mkVar ty heap st.b st.h id d cs).val = some (.v r u)) (hv : VAs E cs v.cells.toList) (hid : id < st.nx) :
    MOk P G E st a w (Instr.box e v) r u := by
  have run : (Instr.box e v).run P w = .ok (.pointer (some ⟨w.heap.size, 0, none⟩)) { w with heap := w.heap.push (.cells v.cells e) } := by
    simp [Instr.box, newVar, newRow]
  unfold mkVar at h
  cases hf : cs.all AV.flat
  · simp [hf, ER.val] at h
  · rw [hf, cond_true] at h
    cases heap
    · rw [cond_false] at h
      split at h
      · rename_i hb
        simp only [ER.val, Option.some.injEq, Leaf.v.injEq] at h
        obtain ⟨rfl, rfl⟩ := h
        have hB := R.boxN d hb
        have := R.boxU (F := { E with B := fun i => if i = d then some w.heap.size else E.B i }) (v := { w with heap := w.heap.push (.cells v.cells e) }) d cs w.heap.size rfl rfl rfl rfl
          (fun j hj => by simp [hj]) (by simp) (.inr ⟨hB, Nat.le_refl _, by simp⟩) (by simp) (fun k hk _ => push_old w _ k hk)
          (fun le => ⟨v.cells, e, push_new w _, VAs.mono le _ _ hv, hf⟩) rfl rfl rfl
        exact ⟨_, _, _, run, by simp only [VA]; exact ⟨_, by simp, rfl⟩, this⟩
      · simp [ER.val] at h
    · rw [cond_true] at h
      simp only [mkCells, ER.val, Option.some.injEq, Leaf.v.injEq] at h
      obtain ⟨rfl, rfl⟩ := h
      have := R.newObj id ⟨newGen st.h id, .cells cs, ty⟩ (.cells v.cells e) cs.length 0 rfl hid (fun le => by
        simp only [ObjR]
        refine ⟨Env.withObj_I .., by simp [Env.bas, Env.withObj_P], v.cells, e, ?_, VAs.mono le _ _ hv, hf⟩
        simp only [Env.blk, Env.withObj_P]
        exact push_new w _) (fun t q => by rw [hty t q]; exact ⟨_, _, rfl⟩)
      refine ⟨_, _, _, run, ?_, this⟩
      simp only [VA]
      refine ⟨⟨_, rfl⟩, _, _, Env.withObj_I .., Nat.le_refl _, fun _ => ?_⟩
      simp [Env.blk, Env.bas, Env.withObj_P]

theorem alloc_ok (R : Rel G E st a w) (hT : TabOK P T) {heap : Bool} {id d : Nat} {e : TypeId} {i : TI} {r : AV} {u : Upd} (ht : T e = some i) (h : (mkVar (some e) heap st.b st.h id d (i.zero.map .s)).val = some (.v r u)) (hid : id < st.nx) :
    MOk P G E st a w (Instr.alloc e true (.tuple #[])) r u := by
  obtain ⟨z, h0, h1, h2, h3, _⟩ := (hT e i ht).run_zero (w := w)
  have := mkVar_ok (P := P) (e := e) (v := z) R (fun t q => (Option.some.inj q).symm) h (VAs.of_VL (h3 _) (by simp [h1, h2])) hid
  obtain ⟨F, y, v, h4, h5⟩ := this
  refine ⟨F, y, v, ?_, h5⟩
  simp only [Instr.box, Sem.run_bind, Sem.run_pure] at h4
  unfold Instr.alloc
  simp only [Sem.run_bind, h0, Result.andThen_ok, Sem.run_pure]
  exact h4

/-! ## Rows -/

theorem chunk_VL {M : Nat → Option (List Value)} {ss : List SV} {ys : List Value} (h : VL M ss ys) {sz n i : Nat} (hl : ss.length = n * sz) (hi : i < n) : (chunk sz ss i).length = sz ∧ VL M (chunk sz ss i) (ys.drop (i * sz)) := by
  have hm : i * sz + sz ≤ n * sz := by have : (i + 1) * sz ≤ n * sz := Nat.mul_le_mul_right _ hi; rw [Nat.succ_mul] at this; exact this
  unfold chunk
  exact ⟨by simp; omega, (h.drop _).take _⟩

/-- a slice of rows in a new block -/
theorem mkRows_ok (R : Rel G E st a w) {ty : Option TypeId} {id sz len cap : Nat} {e : TypeId} (hty : ∀ t, ty = some t → t = e) {f : Nat → List SV} {c : Array Value} (hid : id < st.nx) (hlc : len ≤ cap) (hc : c.size = cap * sz)
    (hr : ∀ i, i < len → (f i).length = sz ∧ VL E.M (f i) (c.toList.drop (i * sz))) :
    ∃ F, VA F (.sl id (newGen st.h id) sz 0 len) (.slice (some ⟨w.heap.size, 0, none⟩) len cap) ∧ Rel G F (st.app (.obj id ⟨newGen st.h id, .rows sz len f, ty⟩)) a { w with heap := w.heap.push (.cells c e) } ∧
      Evo E w F { w with heap := w.heap.push (.cells c e) } := by
  have hls : len * sz ≤ cap * sz := Nat.mul_le_mul_right _ hlc
  have := R.newObj id ⟨newGen st.h id, .rows sz len f, ty⟩ (.cells c e) len c.size rfl hid (fun le => by
    simp only [ObjR]
    refine ⟨Env.withObj_I .., ?_, c, e, (0, 0), ?_, .zero _, ?_, fun i hi => ?_⟩
    · simp only [Env.bas, Env.tot, Env.withObj_P]; omega
    · simp only [Env.blk, Env.withObj_P]; exact push_new w _
    · simp only [Env.tot, Env.withObj_P]
    · simp only [Env.bas, Env.withObj_P, Nat.zero_add]
      exact ⟨(hr i hi).1, VL.mono le.M _ _ (hr i hi).2⟩) (fun t q => by rw [hty t q]; exact ⟨_, _, rfl⟩)
  refine ⟨_, ?_, this⟩
  simp only [VA]
  refine ⟨⟨_, _, rfl, hlc⟩, _, _, Env.withObj_I .., Nat.le_refl _, fun _ => ⟨by omega, cap, 0, hlc, ?_, fun _ => ?_, ?_⟩⟩
  · simp only [Env.bas, Env.tot, Env.withObj_P, Nat.zero_add]; omega
  · simp [Env.bas, Env.withObj_P]
  · simp [Env.blk, Env.withObj_P]

theorem repN_len {α : Type} (l : List α) : ∀ n, (repN l n).length = n * l.length
  | 0 => by simp [repN]
  | n + 1 => by simp [repN, repN_len l n, Nat.succ_mul, Nat.add_comm]

/-- so many zeros -/
theorem zeros_eq (zero : Array Value) (n : Nat) (_ : zero.size ≠ 0) : ((Array.range (n * zero.size)).map (fun i => zero[i % zero.size]!)).toList = repN zero.toList n := by
  have key : ∀ k, ((List.range (k * zero.size)).map (fun i => zero[i % zero.size]!)) = repN zero.toList k := by
    intro k
    induction k with
    | zero => simp [repN]
    | succ k ih =>
      rw [Nat.succ_mul, Nat.add_comm, List.range_add, List.map_append]
      simp only [repN]
      congr 1
      · apply List.ext_getElem
        · simp
        · intro i h1 h2
          simp only [List.length_map, List.length_range] at h1
          simp [Nat.mod_eq_of_lt h1, h1]
      · rw [List.map_map, ← ih]
        apply List.map_congr_left
        intro i _
        simp [Nat.add_mod_left]
  simpa using key n

theorem rep_VAs {cs : List AV} {ys : List Value} (h : VAs E cs ys) : ∀ n, VAs E (repN cs n) (repN ys n)
  | 0 => by simp [repN, VAs]
  | n + 1 => by simp only [repN]; exact h.append (rep_VAs h n)

theorem repN_flat {cs : List AV} (h : cs.all AV.flat = true) : ∀ n, (repN cs n).all AV.flat = true
  | 0 => by simp [repN]
  | n + 1 => by simp [repN, h, repN_flat h n]

theorem opBSlice_ok (R : Rel G E st a w) (hT : TabOK P T) {heap : Bool} {id len : Nat} {t : TypeId} {ps : List (Nat × AV)} {qs : Array (Nat × Value)} {r : AV} {u : Upd} (h : (opBSlice T heap st.h id t len ps).val = some (.v r u))
    (hq : Parts E ps qs.toList) (hid : id < st.nx) : MOk P G E st a w (Instr.buildSlice t len qs) r u := by
  unfold opBSlice at h
  split at h
  · rename_i e _ _ _ _ ht
    split at h
    · rename_i te hte
      cases hc0 : (Nat.ble (len * te.size) 16777216 && Nat.beq te.zero.length te.size)
      · simp [hc0, ER.val] at h
      · rw [hc0, cond_true] at h
        simp only [Bool.and_eq_true] at hc0
        have hle := Nat.le_of_ble_eq_true hc0.1
        split at h
        · rename_i cs hcs
          split at h
          · rename_i ss hss
            have hss' := allS_eq hss
            subst hss'
            obtain ⟨j, z, hj, hs, _, hz, hz1, hz2, hz3, hz4, _⟩ := (hT e _ hte).info
            have hzv : VAs E (te.zero.map .s) z.cells.toList := VAs.of_VL (hz3 _) (by simp [hz1, hz2])
            have hzr : (zeroValue e).run P w = .ok z w := by simp [zeroValue, typeInfo, hj, hz]
            obtain ⟨Z, hZa, hZb, hZ1⟩ : ∃ Z : Array Value, (len * te.size = 0 → Z = #[]) ∧ (len * te.size ≠ 0 → Z = z.cells) ∧
                ((Array.range (len * te.size)).map (fun i => Z[i % Z.size]!)).toList = repN z.cells.toList len := by
              by_cases h0 : len * te.size = 0
              · refine ⟨#[], fun _ => rfl, fun h => absurd h0 h, ?_⟩
                rw [h0]
                have : (repN z.cells.toList len).length = 0 := by rw [repN_len]; simp [hz2, h0]
                rw [List.length_eq_zero_iff.1 this]
                simp
              · refine ⟨z.cells, fun h => absurd h h0, fun _ => rfl, ?_⟩
                have hne : z.cells.size ≠ 0 := by rw [hz2]; intro hx; rw [hx] at h0; simp at h0
                have := zeros_eq z.cells len hne
                rw [hz2] at this
                rw [hz2]
                exact this
            have hrv : VAs E (repN (te.zero.map AV.s) len) ((Array.range (len * te.size)).map (fun i => Z[i % Z.size]!)).toList := by rw [hZ1]; exact rep_VAs hzv len
            obtain ⟨ys', h3, h4, h5⟩ := fillE_ok (E := E) (pc := fun i => some (i * te.size, te.size)) (fun i q hiq => hiq) hcs hq hrv (repN_flat (VL.flat (hz3 (fun _ => none))) len)
            have hvl := VAs.map_s h4 h5
            have hlen : ss.length = len * te.size := by
              have h6 := h4.len
              have h7 : ∀ {place : Nat → Option (Nat × Nat)} {ps : List (Nat × AV)} {cs cs' : List AV}, fillE place cs ps = some cs' → cs'.length = cs.length := by
                intro place ps
                induction ps with
                | nil => intro cs cs' h; simp only [fillE, Option.some.injEq] at h; rw [h]
                | cons p ps ih =>
                  intro cs cs' h
                  obtain ⟨i, v⟩ := p
                  simp only [fillE] at h
                  split at h
                  · rename_i off size _
                    cases hc : (Nat.beq v.cells.length size && Nat.ble (off + size) cs.length && v.cells.all AV.flat)
                    · simp [hc] at h
                    · rw [hc, cond_true] at h
                      simp only [Bool.and_eq_true] at hc
                      have h1 := Nat.eq_of_beq_eq_true hc.1.1
                      have h2 := Nat.le_of_ble_eq_true hc.1.2
                      rw [ih h, splice_len _ _ _ (by omega)]
                  · cases h
              have := h7 hcs
              rw [repN_len] at this
              simpa [hz1] using this
            have hysz : ys'.size = len * te.size := by have := h4.len; simpa [hlen] using this
            have run : (Instr.buildSlice t len qs).run P w = .ok (.slice (some ⟨w.heap.size, 0, none⟩) len len) { w with heap := w.heap.push (.cells ys' e) } := by
              unfold Instr.buildSlice
              simp only [Sem.run_bind, (hT t _ ht).run_und, Result.andThen_ok, (hT e _ hte).run_size]
              rw [if_neg (by omega)]
              by_cases h0 : len * te.size = 0
              · have := hZa h0
                subst this
                rw [if_pos h0]
                simp only [Sem.run_bind, Sem.run_pure, Result.andThen_ok, h3]
                rfl
              · have := hZb h0
                subst this
                rw [if_neg h0]
                simp only [Sem.run_bind, hzr, Sem.run_pure, Result.andThen_ok, h3]
                rfl
            cases heap
            · rw [cond_false, ER.val_pv, Leaf.v.injEq] at h
              obtain ⟨rfl, rfl⟩ := h
              have := R.frz (v := { w with heap := w.heap.push (.cells ys' e) }) w.heap.size ys' e (0, 0) (Nat.le_refl _) (push_new w _) (by simp) (fun k hk => push_old w _ k hk) rfl rfl rfl
              refine ⟨_, _, _, run, ?_, this⟩
              simp only [VA, VS]
              refine ⟨_, 0, len, ys'.toList, rfl, Nat.le_refl _, by simp, fun i hi => ?_⟩
              obtain ⟨h6, h7⟩ := chunk_VL hvl hlen hi
              exact ⟨h6, by rw [Nat.zero_add]; exact VL.mono this.2.le.M _ _ h7⟩
            · rw [cond_true] at h
              simp only [mkRows, ER.val, Option.some.injEq, Leaf.v.injEq] at h
              obtain ⟨rfl, rfl⟩ := h
              obtain ⟨F, h6, h7⟩ := mkRows_ok (ty := none) (e := e) R (fun t q => by cases q) (sz := te.size) (len := len) (cap := len) (f := chunk te.size ss) (c := ys') hid (Nat.le_refl _) hysz (fun i hi => chunk_VL hvl hlen hi)
              exact ⟨F, _, _, run, h6, h7⟩
          · simp [ER.val] at h
        · simp [ER.val] at h
    · simp [ER.val] at h
  · simp [ER.val] at h

theorem opMkSlice_ok (R : Rel G E st a w) (hT : TabOK P T) {heap : Bool} {id : Nat} {t : TypeId} {l c r : AV} {u : Upd} {Lv Cv : Value} (h : (opMkSlice T heap st.h id t l c).val = some (.v r u)) (hl : VA E l Lv) (hc : VA E c Cv) (hid : id < st.nx) :
    MOk P G E st a w (Instr.makeSlice t Lv Cv) r u := by
  unfold opMkSlice at h
  split at h
  · rename_i e _ _ _ _ n m ht hn hm
    obtain ⟨k1, rfl⟩ := intOp_eq hn hl
    obtain ⟨k2, rfl⟩ := intOp_eq hm hc
    split at h
    · rename_i te hte
      cases hc0 : (Nat.beq te.zero.length te.size)
      · simp [hc0, ER.val] at h
      · rw [hc0, cond_true, ER.val_need] at h
        obtain ⟨hb, h⟩ := h
        simp only [Bool.and_eq_true, decide_eq_true_eq] at hb
        obtain ⟨⟨h0, h1⟩, h2⟩ := hb
        obtain ⟨j, z, hj, hs, hby, hz, hz1, hz2, hz3, hz4, _⟩ := (hT e _ hte).info
        have hm0 : 0 ≤ m := by omega
        have hmb : m * (te.bytes : Int) + m ≤ 68719476736 := by
          have : m * ((te.bytes : Int) + 1) = m * (te.bytes : Int) + m := by rw [Int.mul_add, Int.mul_one]
          rw [← this]; exact h2
        have hmp : 0 ≤ m * (te.bytes : Int) := Int.mul_nonneg hm0 (by omega)
        have hw : ∀ x : Int, 0 ≤ x → x ≤ 68719476736 → IntKind.i64.wrap x = x := by
          intro x hx hx2
          exact IntWalk.i64_in x (by omega)
        have hwn := hw n h0 (by omega)
        have hwm := hw m hm0 (by omega)
        have hzr : (zeroValue e).run P w = .ok z w := by simp [zeroValue, typeInfo, hj, hz]
        obtain ⟨Z, hZa, hZb, hZ1⟩ : ∃ Z : Array Value, (m.toNat * te.size = 0 → Z = #[]) ∧ (m.toNat * te.size ≠ 0 → Z = z.cells) ∧
            ((Array.range (m.toNat * te.size)).map (fun i => Z[i % Z.size]!)).toList = repN z.cells.toList m.toNat := by
          by_cases h0 : m.toNat * te.size = 0
          · refine ⟨#[], fun _ => rfl, fun h => absurd h0 h, ?_⟩
            rw [h0]
            have : (repN z.cells.toList m.toNat).length = 0 := by rw [repN_len]; simp [hz2, h0]
            rw [List.length_eq_zero_iff.1 this]
            simp
          · refine ⟨z.cells, fun h => absurd h h0, fun _ => rfl, ?_⟩
            have hne : z.cells.size ≠ 0 := by rw [hz2]; intro hx; rw [hx] at h0; simp at h0
            have := zeros_eq z.cells m.toNat hne
            rw [hz2] at this
            rw [hz2]
            exact this
        have run : (Instr.makeSlice t (.int k1 n) (.int k2 m)).run P w = .ok (.slice (some ⟨w.heap.size, 0, none⟩) n.toNat m.toNat) { w with heap := w.heap.push (.cells ((Array.range (m.toNat * te.size)).map (fun i => Z[i % Z.size]!)) e) } := by
          unfold Instr.makeSlice
          have hti : (typeInfo e).run P w = .ok j w := by simp [typeInfo, hj]
          simp only [Sem.run_bind, (hT t _ ht).run_und, Result.andThen_ok, asInt, asIntOf, Sem.run_pure, hti, hby, hwn, hwm]
          have c1 : (decide (m < 0) || decide ((te.bytes : Int) * m > 2 ^ 48)) = false := by
            simp only [Bool.or_eq_false_iff, decide_eq_false_iff_not]
            rw [Int.mul_comm]
            exact ⟨by omega, by omega⟩
          have c2 : (decide (n < 0)) = false := by simpa using h0
          have c3 : (decide (n > m)) = false := by simpa using h1
          simp only [c1, c2, c3, Bool.or_self, Bool.false_eq_true, if_false, Sem.run_bind, run_askRoom, Result.andThen_ok, (hT e _ hte).run_size]
          by_cases h00 : m.toNat * te.size = 0
          · have := hZa h00
            subst this
            rw [if_pos h00]
            simp only [Sem.run_bind, Sem.run_pure, Result.andThen_ok]
            rfl
          · have := hZb h00
            subst this
            rw [if_neg h00]
            simp only [Sem.run_bind, hzr, Sem.run_pure, Result.andThen_ok]
            rfl
        have hzeros : ∀ i, i < n.toNat → (te.zero).length = te.size ∧ VL E.M te.zero (((Array.range (m.toNat * te.size)).map (fun i => Z[i % Z.size]!)).toList.drop (i * te.size)) := by
          intro i hi
          refine ⟨hz1, ?_⟩
          rw [hZ1]
          have : ∀ (k i : Nat), i < k → VL E.M te.zero ((repN z.cells.toList k).drop (i * te.size)) := by
            intro k
            induction k with
            | zero => intro i hi; omega
            | succ k ih =>
              intro i hi
              cases i with
              | zero =>
                simp only [Nat.zero_mul, List.drop_zero, repN]
                refine VL.iff.2 fun p d hd => ?_
                obtain ⟨y, hy, h5⟩ := VL.iff.1 (hz3 E.M) p d hd
                exact ⟨y, by rw [List.getElem?_append_left (by have := List.getElem?_eq_some_iff.1 hy; exact this.1)]; exact hy, h5⟩
              | succ i =>
                simp only [repN]
                rw [List.drop_append]
                have e1 : (i + 1) * te.size - z.cells.toList.length = i * te.size := by simp [hz2, Nat.succ_mul]
                have e2 : z.cells.toList.drop ((i + 1) * te.size) = [] := List.drop_eq_nil_of_le (by simp [hz2, Nat.succ_mul])
                rw [e1, e2, List.nil_append]
                exact ih i (by omega)
          exact this m.toNat i (by omega)
        cases heap
        · rw [cond_false, ER.val_pv, Leaf.v.injEq] at h
          obtain ⟨rfl, rfl⟩ := h
          have := R.frz (v := { w with heap := w.heap.push (.cells ((Array.range (m.toNat * te.size)).map (fun i => Z[i % Z.size]!)) e) }) w.heap.size _ e (0, 0) (Nat.le_refl _) (push_new w _) (by simp) (fun k hk => push_old w _ k hk) rfl rfl rfl
          refine ⟨_, _, _, run, ?_, this⟩
          simp only [VA, VS]
          refine ⟨_, 0, m.toNat, ((Array.range (m.toNat * te.size)).map (fun i => Z[i % Z.size]!)).toList, rfl, by omega, if_pos rfl, fun i hi => ?_⟩
          obtain ⟨h6, h7⟩ := hzeros i hi
          exact ⟨h6, by rw [Nat.zero_add]; exact VL.mono this.2.le.M _ _ h7⟩
        · rw [cond_true] at h
          simp only [mkRows, ER.val, Option.some.injEq, Leaf.v.injEq] at h
          obtain ⟨rfl, rfl⟩ := h
          obtain ⟨F, h6, h7⟩ := mkRows_ok (ty := none) (e := e) R (fun t q => by cases q) (sz := te.size) (len := n.toNat) (cap := m.toNat) (f := fun _ => te.zero) hid (by omega) (by simp) hzeros
          exact ⟨F, _, _, run, h6, h7⟩
    · simp [ER.val] at h
  · simp [ER.val] at h

end

end Go.Ev
