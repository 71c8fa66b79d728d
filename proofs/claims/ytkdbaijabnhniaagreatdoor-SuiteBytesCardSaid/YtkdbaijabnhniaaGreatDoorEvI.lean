/- Assertions, conversions, lengths, least and greatest. -/
import Derived.Test.YtkdbaijabnhniaaGreatDoorEvH
namespace Go.Ev
section
variable {P : Program} {G : Gl} {E : Env} {st : St} {a : Act} {w : World} {T : Tab}

theorem zeroV_ok {t : TypeId} {i : TI} (ht : TIok P t i) : ∃ z, (zeroValue t).run P w = .ok z w ∧ VA E i.zeroV z := by
  obtain ⟨z, h0, h1, h2, h3, h4, h5⟩ := ht.run_zero (w := w)
  refine ⟨z, h0, ?_⟩
  unfold TI.zeroV
  cases ha : i.isAgg
  · have hz := h5 ha
    have hs : i.zero.length = 1 := by rw [h1, ← h2, hz]; rfl
    have h3 := h3 E.M
    rw [hz] at h3
    cases hzz : i.zero with
    | nil => rw [hzz] at hs; simp at hs
    | cons c cs =>
      rw [hzz] at h3
      simp only [VL] at h3
      obtain ⟨y, r, he, _, hv, _⟩ := h3
      simp only [cond_false, VA]
      injection he with he _
      exact he ▸ hv
  · obtain ⟨ys, rfl⟩ := h4 ha
    simp only [cond_true, VA]
    exact ⟨ys.toList, by simp, VAs.of_VL (by simpa [Value.cells] using h3 E.M) (by simp [h1, ← h2, Value.cells])⟩

theorem ofPay_ok {v : SV} {y : Value} (h : VS E.M v y) : VA E (ofPay v) y := by
  cases v with
  | agg cs =>
    simp only [VS] at h
    obtain ⟨ys, rfl, h1, h2⟩ := h
    simp only [ofPay, VA]
    exact ⟨ys, rfl, VAs.of_VL h2 h1⟩
  | _ => simpa [ofPay, VA] using h

theorem toPay_ok {x : AV} {v : SV} {X : Value} (h : toPay x = some v) (hf : x.cells.all AV.flat = true) (hx : VA E x X) : VS E.M v X := by
  cases x with
  | s w' => simp only [toPay, Option.some.injEq] at h; subst h; simpa [VA] using hx
  | agg cs =>
    simp only [toPay] at h
    cases hs : allS cs with
    | none => rw [hs] at h; simp at h
    | some ss =>
      rw [hs] at h
      simp only [Option.map_some, Option.some.injEq] at h
      subst h
      have := allS_eq hs
      subst this
      simp only [VA] at hx
      obtain ⟨ys, rfl, hx⟩ := hx
      simp only [VS]
      exact ⟨ys, rfl, by have := hx.len; simpa using this, VAs.map_s hx hf⟩
  | _ => simp [toPay] at h

theorem assert_nili {xt t : TypeId} {d : TypeDesc} {z : Value} (hd : ∀ ms, d ≠ .interface ms) (hu : (underlying t).run P w = .ok d w) (hz : (zeroValue t).run P w = .ok z w) :
    (Instr.typeAssert .nilIface xt t true).run P w = .ok (.tuple #[z, .bool false]) w := by
  unfold Instr.typeAssert
  cases d <;> first | exact absurd rfl (hd _) | simp [hu, hz]

theorem assert_iface {xt t ty : TypeId} {d : TypeDesc} {z y : Value} (hd : ∀ ms, d ≠ .interface ms) (hu : (underlying t).run P w = .ok d w) (hz : (zeroValue t).run P w = .ok z w) (ok : Bool) (hok : ok = true ∨ ty = t) :
    (Instr.typeAssert (.iface ty y) xt t ok).run P w = .ok (if ty = t then (if ok then .tuple #[y, .bool true] else y) else .tuple #[z, .bool false]) w := by
  unfold Instr.typeAssert
  by_cases h : ty = t
  · cases d <;> first | exact absurd rfl (hd _) | simp [hu, h]
  · have hok := hok.resolve_right h
    subst hok
    cases d <;> first | exact absurd rfl (hd _) | simp [hu, hz, h]

theorem pair_ok {v : AV} {y : Value} {b : Bool} (h : VA E v y) : VA E (.tup [v, .s (.bool b)]) (.tuple #[y, .bool b]) := by
  simp only [VA, VAs]
  exact ⟨[y, .bool b], rfl, y, _, rfl, h, _, _, rfl, by simp [VS], rfl⟩

theorem opAssert_ok (hT : TabOK P T) {xt t : TypeId} {ok : Bool} {x r : AV} {u : Upd} {X : Value} (h : (opAssert T t ok x).val = some (.v r u)) (hx : VA E x X) : VOk P E w (Instr.typeAssert X xt t ok) r u := by
  unfold opAssert at h
  split at h
  · simp [ER.val] at h
  · simp [ER.val] at h
  · rename_i i hni ht
    obtain ⟨z, hz, hzv⟩ := zeroV_ok (w := w) (E := E) (hT t i ht)
    have hu := (hT t i ht).run_und (w := w)
    have hd : ∀ ms, i.desc ≠ .interface ms := fun ms e => hni ms i.size i.bytes i.zero i.plain (by rw [← e])
    split at h
    · cases ok
      · simp [ER.val] at h
      · rw [cond_true, ER.val_pv, Leaf.v.injEq] at h
        obtain ⟨rfl, rfl⟩ := h
        simp only [VA, VS] at hx
        subst hx
        exact ⟨rfl, _, assert_nili hd hu hz, pair_ok hzv⟩
    · rename_i ty v
      simp only [VA, VS] at hx
      obtain ⟨y, rfl, hy⟩ := hx
      cases hb : Nat.beq ty t
      · have hne : ty ≠ t := by intro e; rw [e, beq_self] at hb; cases hb
        cases ok
        · simp [hb, ER.val] at h
        · rw [hb, cond_true, cond_false, ER.val_pv, Leaf.v.injEq] at h
          obtain ⟨rfl, rfl⟩ := h
          refine ⟨rfl, _, assert_iface hd hu hz true (.inl rfl), ?_⟩
          rw [if_neg hne]
          exact pair_ok hzv
      · have he := Nat.eq_of_beq_eq_true hb
        cases ok
        · rw [hb, cond_false, cond_true, ER.val_pv, Leaf.v.injEq] at h
          obtain ⟨rfl, rfl⟩ := h
          refine ⟨rfl, _, assert_iface hd hu hz false (.inr he), ?_⟩
          rw [if_pos he]
          exact ofPay_ok hy
        · rw [hb, cond_true, cond_true, ER.val_pv, Leaf.v.injEq] at h
          obtain ⟨rfl, rfl⟩ := h
          refine ⟨rfl, _, assert_iface hd hu hz true (.inl rfl), ?_⟩
          rw [if_pos he, if_pos rfl]
          exact pair_ok (ofPay_ok hy)
    · simp [ER.val] at h

theorem opLen_ok (hT : TabOK P T) {t ty : TypeId} {x r : AV} {u : Upd} {X : Value} (h : (opLen T t x).val = some (.v r u)) (hx : VA E x X) : VOk P E w (Builtin.len_ #[t] ty #[X]) r u := by
  unfold opLen at h
  split at h
  · rename_i ht
    have hu := (hT t _ ht).run_und (w := w)
    split at h
    · rename_i l
      rw [ER.val_pv, Leaf.v.injEq] at h
      obtain ⟨rfl, rfl⟩ := h
      simp only [VA, VS] at hx
      subst hx
      refine ⟨rfl, .int .i64 (l.length : Nat), ?_, by simp [VA, VS]⟩
      have hs : (ByteArray.mk l.toArray).size = l.length := by simp [ByteArray.size]
      unfold Builtin.len_
      simp only [goInt, hs]
      simp [hu, goInt, hs]
    · simp [ER.val] at h
  · rename_i ht
    have hu := (hT t _ ht).run_und (w := w)
    split at h
    · rw [ER.val_pv, Leaf.v.injEq] at h
      obtain ⟨rfl, rfl⟩ := h
      simp only [VA, VS] at hx
      subst hx
      refine ⟨rfl, .int .i64 0, ?_, by simp [VA, VS]⟩
      unfold Builtin.len_
      simp [hu, goInt]
    · rename_i n _
      rw [ER.val_pv, Leaf.v.injEq] at h
      obtain ⟨rfl, rfl⟩ := h
      simp only [VA, VS] at hx
      obtain ⟨b, o, cap, m, rfl, _⟩ := hx
      refine ⟨rfl, .int .i64 (n : Nat), ?_, by simp [VA, VS]⟩
      unfold Builtin.len_
      simp [hu, goInt]
    · rename_i len
      rw [ER.val_pv, Leaf.v.injEq] at h
      obtain ⟨rfl, rfl⟩ := h
      simp only [VA] at hx
      obtain ⟨⟨c, k, rfl, _⟩, _⟩ := hx
      refine ⟨rfl, .int .i64 (len : Nat), ?_, by simp [VA, VS]⟩
      unfold Builtin.len_
      simp [hu, goInt]
    · simp [ER.val] at h
  · rename_i n _ _ _ _ _ ht
    have hu := (hT t _ ht).run_und (w := w)
    rw [ER.val_pv, Leaf.v.injEq] at h
    obtain ⟨rfl, rfl⟩ := h
    refine ⟨rfl, .int .i64 (n : Nat), ?_, by simp [VA, VS]⟩
    unfold Builtin.len_
    simp [hu, goInt]
  · simp [ER.val] at h

theorem fold2_ok {f : AV → AV → AV} {g : Value → Value → Sem Value} (hf : ∀ k (x y : Int) j, ∃ z, f (.s (.int k x)) (.s (.int j y)) = .s (.int k z) ∧ ∀ w, (g (.int k x) (.int j y)).run P w = .ok (.int k z) w) :
    ∀ {vs : List AV} {ys : List Value} {k : IntKind} {x : Int}, VAs E vs ys → vs.all AV.anyInt = true → ∃ z, fold2 f (.s (.int k x)) vs = .s (.int k z) ∧ (ys.foldlM g (.int k x)).run P w = .ok (.int k z) w
  | [], ys, k, x, h, _ => by simp only [VAs] at h; subst h; exact ⟨x, rfl, by simp⟩
  | v :: vs, ys, k, x, h, hi => by
    simp only [VAs] at h
    obtain ⟨y, r, rfl, h1, h2⟩ := h
    simp only [List.all_cons, Bool.and_eq_true] at hi
    cases v with
    | s sv =>
      cases sv with
      | int j n =>
        simp only [VA, VS] at h1
        subst h1
        obtain ⟨z, hz, hg⟩ := hf k x n j
        obtain ⟨z', h3, h4⟩ := fold2_ok hf (k := k) (x := z) h2 hi.2
        refine ⟨z', by simp only [fold2, hz]; exact h3, by simp only [List.foldlM_cons, Sem.run_bind, hg, Result.andThen_ok]; exact h4⟩
      | _ => simp [AV.anyInt] at hi
    | _ => simp [AV.anyInt] at hi

theorem mn2_ok (k : IntKind) (x y : Int) (j : IntKind) : ∃ z, mn2 (.s (.int k x)) (.s (.int j y)) = .s (.int k z) ∧ ∀ w, (Builtin.min2 (.int k x) (.int j y)).run P w = .ok (.int k z) w := by
  refine ⟨cond (decide (y < x)) y x, rfl, fun w => ?_⟩
  unfold Builtin.min2
  by_cases h : y < x <;> simp [h]
theorem mx2_ok (k : IntKind) (x y : Int) (j : IntKind) : ∃ z, mx2 (.s (.int k x)) (.s (.int j y)) = .s (.int k z) ∧ ∀ w, (Builtin.max2 (.int k x) (.int j y)).run P w = .ok (.int k z) w := by
  refine ⟨cond (decide (y > x)) y x, rfl, fun w => ?_⟩
  unfold Builtin.max2
  by_cases h : y > x <;> simp [h]

theorem min_ok {ts : Array TypeId} {ty : TypeId} {x : AV} {xs : List AV} {X : Value} {Xs : List Value} (hx : VA E x X) (hi : x.anyInt = true) (h : VAs E xs Xs) (his : xs.all AV.anyInt = true) :
    VOk P E w (Builtin.min_ ts ty (X :: Xs).toArray) (fold2 mn2 x xs) .none ∧ VOk P E w (Builtin.max_ ts ty (X :: Xs).toArray) (fold2 mx2 x xs) .none := by
  cases x with
  | s sv =>
    cases sv with
    | int k n =>
      simp only [VA, VS] at hx
      subst hx
      obtain ⟨z, h1, h2⟩ := fold2_ok (P := P) (w := w) (E := E) mn2_ok (k := k) (x := n) h his
      obtain ⟨z', h3, h4⟩ := fold2_ok (P := P) (w := w) (E := E) mx2_ok (k := k) (x := n) h his
      refine ⟨⟨rfl, .int k z, ?_, by rw [h1]; simp [VA, VS]⟩, ⟨rfl, .int k z', ?_, by rw [h3]; simp [VA, VS]⟩⟩
      · unfold Builtin.min_; exact h2
      · unfold Builtin.max_; exact h4
    | _ => simp [AV.anyInt] at hi
  | _ => simp [AV.anyInt] at hi

end

end Go.Ev
