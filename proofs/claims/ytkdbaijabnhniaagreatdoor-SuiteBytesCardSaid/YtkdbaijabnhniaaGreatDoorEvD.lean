/- Operations that touch no memory: what the evaluator says of them is so. -/
import Derived.Test.YtkdbaijabnhniaaGreatDoorEvC
import Derived.Laws.StructEq
namespace Go.Ev

inductive Leaf where
  | v (x : AV) (u : Upd)
  | pan (x : SV) (u : Upd)

def ER.val : ER → Option Leaf
  | .v x u => some (.v x u)
  | .pan x u => some (.pan x u)
  | .br c a b => cond c a.val b.val
  | .fail => none

theorem ER.val_need {c : Bool} {a : ER} {l : Leaf} : (ER.need c a).val = some l ↔ c = true ∧ a.val = some l := by
  cases c <;> simp [ER.need, ER.val]

theorem ER.val_pv {x : AV} {l : Leaf} : (pv x).val = some l ↔ l = .v x .none := by simp [ER.val, eq_comm]

structure TIok (P : Program) (t : TypeId) (i : TI) : Prop where
  und : P.underlying t = some i.desc
  info : ∃ j z, P.info? t = some j ∧ j.size = i.size ∧ j.bytes = i.bytes ∧ j.zero = some z ∧ i.zero.length = i.size ∧ z.cells.size = i.size ∧
    (∀ M, VL M i.zero z.cells.toList) ∧ (i.isAgg = true → ∃ ys, z = .agg ys) ∧ (i.isAgg = false → z.cells = #[z])
  plain : i.plain = true → P.eqGuardType P.depth t = false ∧ P.stoodInHeld t = false

def TabOK (P : Program) (T : Tab) : Prop := ∀ t i, T t = some i → TIok P t i

theorem VL.split {M : Nat → Option (List Value)} : ∀ {cs ys}, VL M cs ys → ∃ r, cs.length ≤ ys.length ∧ ys.drop cs.length = r ∧ VL M cs (ys.take cs.length)
  | [], ys, _ => ⟨ys, by simp, rfl, by simp [VL]⟩
  | c :: cs, ys, h => by
    simp only [VL] at h
    obtain ⟨y, r, rfl, hc, h1, h2⟩ := h
    obtain ⟨r', h3, h4, h5⟩ := VL.split h2
    exact ⟨r', by simpa using h3, by simpa using h4, by simp only [List.length_cons, List.take_succ_cons, VL]; exact ⟨y, _, rfl, hc, h1, h5⟩⟩

theorem VL.len {M : Nat → Option (List Value)} {cs : List SV} {ys : List Value} (h : VL M cs ys) : cs.length ≤ ys.length := by
  obtain ⟨_, h1, _⟩ := h.split; exact h1

theorem VL.drop {M : Nat → Option (List Value)} : ∀ (n : Nat) {cs : List SV} {ys : List Value}, VL M cs ys → VL M (cs.drop n) (ys.drop n)
  | 0, _, _, h => by simpa using h
  | n + 1, [], _, _ => by simp [VL]
  | n + 1, c :: cs, ys, h => by
    simp only [VL] at h
    obtain ⟨y, r, rfl, hc, h1, h2⟩ := h
    simpa using VL.drop n h2

theorem VL.take {M : Nat → Option (List Value)} : ∀ (n : Nat) {cs : List SV} {ys : List Value}, VL M cs ys → VL M (cs.take n) ys
  | 0, _, _, _ => by simp [VL]
  | n + 1, [], _, _ => by simp [VL]
  | n + 1, c :: cs, ys, h => by
    simp only [VL] at h
    obtain ⟨y, r, rfl, hc, h1, h2⟩ := h
    simp only [List.take_succ_cons, VL]
    exact ⟨y, r, rfl, hc, h1, VL.take n h2⟩

theorem VL.iff {M : Nat → Option (List Value)} : ∀ {cs : List SV} {ys : List Value}, VL M cs ys ↔ ∀ (i : Nat) (c : SV), cs[i]? = some c → ∃ y, ys[i]? = some y ∧ c.isCell = true ∧ VS M c y
  | [], ys => by simp [VL]
  | c :: cs, ys => by
    simp only [VL]
    constructor
    · rintro ⟨y, r, rfl, hc, h1, h2⟩ i d hd
      cases i with
      | zero => simp only [List.getElem?_cons_zero, Option.some.injEq] at hd; subst hd; exact ⟨y, rfl, hc, h1⟩
      | succ i => simpa using VL.iff.1 h2 i d (by simpa using hd)
    · intro h
      obtain ⟨y, hy, hc, h1⟩ := h 0 c rfl
      cases ys with
      | nil => simp at hy
      | cons z r =>
        simp only [List.getElem?_cons_zero, Option.some.injEq] at hy
        subst hy
        exact ⟨z, r, rfl, hc, h1, VL.iff.2 fun i d hd => by simpa using h (i + 1) d (by simpa using hd)⟩

/-- cells of a list exactly as long -/
theorem VAs.of_VL {E : Env} : ∀ {cs : List SV} {ys : List Value}, VL E.M cs ys → ys.length = cs.length → VAs E (cs.map .s) ys
  | [], ys, _, hl => by simpa [VAs] using List.length_eq_zero_iff.1 hl
  | c :: cs, ys, h, hl => by
    simp only [VL] at h
    obtain ⟨y, r, rfl, hc, h1, h2⟩ := h
    simp only [List.map_cons, VAs]
    exact ⟨y, r, rfl, by simpa [VA] using h1, VAs.of_VL h2 (by simpa using hl)⟩

theorem VL.flat {M : Nat → Option (List Value)} : ∀ {cs : List SV} {ys : List Value}, VL M cs ys → (cs.map AV.s).all AV.flat = true
  | [], _, _ => by simp
  | c :: cs, ys, h => by
    simp only [VL] at h
    obtain ⟨y, r, rfl, hc, h1, h2⟩ := h
    simp only [List.map_cons, List.all_cons, AV.flat, hc, Bool.true_and]
    exact VL.flat h2

theorem VAs.len {E : Env} : ∀ {vs : List AV} {ys : List Value}, VAs E vs ys → ys.length = vs.length
  | [], ys, h => by simp only [VAs] at h; simp [h]
  | v :: vs, ys, h => by
    simp only [VAs] at h
    obtain ⟨y, r, rfl, _, h2⟩ := h
    simp [VAs.len h2]

theorem VAs.drop {E : Env} : ∀ (n : Nat) {vs : List AV} {ys : List Value}, VAs E vs ys → VAs E (vs.drop n) (ys.drop n)
  | 0, _, _, h => by simpa using h
  | n + 1, [], ys, h => by simp only [VAs] at h; simp [h, VAs]
  | n + 1, v :: vs, ys, h => by
    simp only [VAs] at h
    obtain ⟨y, r, rfl, _, h2⟩ := h
    simpa using VAs.drop n h2

theorem VAs.take {E : Env} : ∀ (n : Nat) {vs : List AV} {ys : List Value}, VAs E vs ys → VAs E (vs.take n) (ys.take n)
  | 0, _, _, _ => by simp [VAs]
  | n + 1, [], ys, h => by simp only [VAs] at h; simp [h, VAs]
  | n + 1, v :: vs, ys, h => by
    simp only [VAs] at h
    obtain ⟨y, r, rfl, h1, h2⟩ := h
    simp only [List.take_succ_cons, VAs]
    exact ⟨y, _, rfl, h1, VAs.take n h2⟩

theorem VAs.append {E : Env} : ∀ {vs ws : List AV} {ys zs : List Value}, VAs E vs ys → VAs E ws zs → VAs E (vs ++ ws) (ys ++ zs)
  | [], _, _, _, h, k => by simp only [VAs] at h; simpa [h] using k
  | v :: vs, ws, ys, zs, h, k => by
    simp only [VAs] at h
    obtain ⟨y, r, rfl, h1, h2⟩ := h
    simp only [List.cons_append, VAs]
    exact ⟨y, _, rfl, h1, VAs.append h2 k⟩

theorem VAs.get {E : Env} : ∀ {vs : List AV} {ys : List Value} (i : Nat) {v : AV}, VAs E vs ys → vs[i]? = some v → ∃ y, ys[i]? = some y ∧ VA E v y
  | [], _, i, v, _, h => by simp at h
  | v :: vs, ys, i, u, h, hi => by
    simp only [VAs] at h
    obtain ⟨y, r, rfl, h1, h2⟩ := h
    cases i with
    | zero => simp only [List.getElem?_cons_zero, Option.some.injEq] at hi; subst hi; exact ⟨y, by simp, h1⟩
    | succ i => simpa using VAs.get i h2 (by simpa using hi)

theorem VAs.map_s {E : Env} : ∀ {cs : List SV} {ys : List Value}, VAs E (cs.map .s) ys → (cs.map AV.s).all AV.flat = true → VL E.M cs ys
  | [], _, _, _ => by simp [VL]
  | c :: cs, ys, h, hf => by
    simp only [List.map_cons, VAs] at h
    obtain ⟨y, r, rfl, h1, h2⟩ := h
    simp only [List.map_cons, List.all_cons, Bool.and_eq_true] at hf
    simp only [VL]
    exact ⟨y, r, rfl, hf.1, by simpa [VA] using h1, VAs.map_s h2 hf.2⟩

theorem allS_eq : ∀ {vs : List AV} {ss : List SV}, allS vs = some ss → vs = ss.map .s
  | [], ss, h => by simp only [allS, Option.some.injEq] at h; simp [← h]
  | v :: vs, ss, h => by
    simp only [allS] at h
    split at h
    · rename_i x xs h1 h2
      injection h with h
      subst h
      have := allS_eq h2
      subst this
      cases v <;> simp only [AV.toS, Option.some.injEq, reduceCtorEq] at h1
      simp [h1]
    · cases h

theorem VS.one {M : Nat → Option (List Value)} {v : SV} {x : Value} (h : VS M v x) (hc : v.isCell = true) : x.oneCell' = true := by
  cases v <;> simp only [VS, SV.isCell, reduceCtorEq] at h hc <;> first
    | (subst h; rfl)
    | (obtain ⟨_, _, _, rfl, _⟩ := h; rfl)
    | (obtain ⟨_, _, _, _, rfl, _⟩ := h; rfl)
    | (obtain ⟨_, rfl, _⟩ := h; rfl)

theorem VA.one {E : Env} {v : AV} {x : Value} (h : VA E v x) (hf : v.flat = true) : x.oneCell' = true := by
  cases v <;> simp only [AV.flat, VA, reduceCtorEq] at h hf
  · exact VS.one h hf
  · obtain ⟨⟨c, rfl⟩, _⟩ := h; rfl
  · obtain ⟨⟨c, k, rfl, _⟩, _⟩ := h; rfl
  · obtain ⟨⟨c, rfl⟩, _⟩ := h; rfl
  · obtain ⟨_, _, rfl, _⟩ := h; rfl

theorem VAs.one {E : Env} : ∀ {vs : List AV} {ys : List Value}, VAs E vs ys → vs.all AV.flat = true → ∀ y ∈ ys, y.oneCell' = true
  | [], ys, h, _, y, hy => by simp only [VAs] at h; subst h; simp at hy
  | v :: vs, ys, h, hf, y, hy => by
    simp only [VAs] at h
    obtain ⟨z, r, rfl, h1, h2⟩ := h
    simp only [List.all_cons, Bool.and_eq_true] at hf
    rcases List.mem_cons.1 hy with rfl | hy
    · exact VA.one h1 hf.1
    · exact VAs.one h2 hf.2 y hy

theorem VA.notAgg {E : Env} {v : AV} {x : Value} (h : VA E v x) (hf : v.flat = true) : x.cells = #[x] := by
  have := VA.one h hf
  cases x <;> first | rfl | (simp [Value.oneCell'] at this)

/-- the cells of a value -/
theorem VA.cells {E : Env} {v : AV} {x : Value} (h : VA E v x) (hf : v.cells.all AV.flat = true) : VAs E v.cells x.cells.toList ∧ (∀ y ∈ x.cells.toList, y.oneCell' = true) := by
  have key : VAs E v.cells x.cells.toList := by
    cases v with
    | agg cs =>
      simp only [VA] at h
      obtain ⟨ys, rfl, h⟩ := h
      simpa [AV.cells, Value.cells] using h
    | _ =>
      simp only [AV.cells, List.all_cons, List.all_nil, Bool.and_true] at hf ⊢
      rw [VA.notAgg h hf]
      simp only [VAs]
      exact ⟨x, [], rfl, h, rfl⟩
  exact ⟨key, VAs.one key hf⟩

/-! ## Numbers, texts -/
def plainV : SV → Value
  | .int k n => .int k n
  | .bool b => .bool b
  | .str l => .string ⟨l.toArray⟩
  | _ => undef
section
variable {P : Program} {w : World} {E : Env}

theorem intBin_ok {op : BinOp} {t : TypeId} {k : IntKind} {a b : Int} {r : AV} {u : Upd} (h : (intBin op k a b).val = some (.v r u)) :
    u = .none ∧ ∃ v, r = .s v ∧ VS E.M v (plainV v) ∧ (binOp op t (.int k a) (.int k b)).run P w = .ok (plainV v) w := by
  cases op <;> simp only [intBin, ER.val, Option.some.injEq, Leaf.v.injEq, reduceCtorEq] at h
  case quo =>
    by_cases hb : b = 0
    · simp [hb] at h
    · have : (b == 0) = false := by simpa using hb
      simp only [this, cond_false, Option.some.injEq, Leaf.v.injEq] at h
      obtain ⟨rfl, rfl⟩ := h
      refine ⟨rfl, _, rfl, ?_, ?_⟩ <;> simp [VS, plainV, binOp, Op.intDiv, hb]
  case rem =>
    by_cases hb : b = 0
    · simp [hb] at h
    · have : (b == 0) = false := by simpa using hb
      simp only [this, cond_false, Option.some.injEq, Leaf.v.injEq] at h
      obtain ⟨rfl, rfl⟩ := h
      refine ⟨rfl, _, rfl, ?_, ?_⟩ <;> simp [VS, plainV, binOp, Op.intDiv, hb]
  all_goals
    obtain ⟨rfl, rfl⟩ := h
    refine ⟨rfl, _, rfl, ?_, ?_⟩ <;> simp [VS, plainV, binOp, Op.intArith, Op.intBits, Op.intCmp]

theorem shiftBin_ok {op : BinOp} {t : TypeId} {k j : IntKind} {a b : Int} {r : AV} {u : Upd} (ho : op = .shl ∨ op = .shr) (h : (shiftBin op k a b).val = some (.v r u)) :
    u = .none ∧ ∃ v, r = .s v ∧ VS E.M v (plainV v) ∧ (binOp op t (.int k a) (.int j b)).run P w = .ok (plainV v) w := by
  unfold shiftBin at h
  by_cases hb : b < 0
  · simp [ER.val, hb] at h
  · have hd : decide (b < 0) = false := by simpa using hb
    simp only [ER.val, hd, cond_false] at h
    rcases ho with rfl | rfl <;> simp only [ER.val, Option.some.injEq, Leaf.v.injEq] at h <;> obtain ⟨rfl, rfl⟩ := h <;>
      refine ⟨rfl, _, rfl, ?_, ?_⟩ <;> simp [VS, plainV, binOp, Op.shift, hb]

theorem toList_mk (l : List UInt8) : (ByteArray.mk l.toArray).toList = l := by
  rw [ByteArray.toList_eq]

theorem strBin_ok {op : BinOp} {t : TypeId} {a b : List UInt8} {r : AV} {u : Upd} (h : (strBin op a b).val = some (.v r u)) :
    u = .none ∧ ∃ v, r = .s v ∧ VS E.M v (plainV v) ∧ (binOp op t (.string ⟨a.toArray⟩) (.string ⟨b.toArray⟩)).run P w = .ok (plainV v) w := by
  cases op <;> simp only [strBin, ER.val_need, ER.val, Option.some.injEq, Leaf.v.injEq, reduceCtorEq] at h
  case add =>
    obtain ⟨hb, rfl, rfl⟩ := h
    refine ⟨rfl, _, rfl, by simp [VS, plainV], ?_⟩
    simp only [plainV]
    have h2 : ¬ ((a.length + b.length : Nat) : Int) > IntKind.i64.max := by
      rw [Nat.ble_eq] at hb
      rw [IntKind.max_i64]
      omega
    have e : (ByteArray.mk a.toArray ++ ByteArray.mk b.toArray) = ByteArray.mk (a ++ b).toArray := by
      apply ByteArray.ext
      simp
    have s1 : (ByteArray.mk a.toArray).size = a.length := by simp [ByteArray.size]
    have s2 : (ByteArray.mk b.toArray).size = b.length := by simp [ByteArray.size]
    simp only [binOp, Op.stringOp, s1, s2]
    rw [if_neg h2, e]
    rfl
  all_goals
    obtain ⟨rfl, rfl⟩ := h
    refine ⟨rfl, _, rfl, ?_, ?_⟩ <;> simp [VS, plainV, binOp, Op.stringOp]

end


/-! ## Types, parts -/
section
variable {P : Program} {w : World} {E : Env} {T : Tab}

theorem TIok.run_und {t : TypeId} {i : TI} (h : TIok P t i) : (underlying t).run P w = .ok i.desc w := run_underlying h.und w
theorem TIok.run_agg {t : TypeId} {i : TI} (h : TIok P t i) : (isAgg t).run P w = .ok i.isAgg w := by
  unfold isAgg TI.isAgg
  simp only [Sem.run_bind, h.run_und, Result.andThen_ok]
  split <;> rename_i hh <;> simp [hh]
theorem TIok.run_size {t : TypeId} {i : TI} (h : TIok P t i) : (sizeOf t).run P w = .ok i.size w := by
  obtain ⟨j, z, hj, hs, _⟩ := h.info
  simp [sizeOf, typeInfo, hj, hs]
theorem TIok.run_bytes {t : TypeId} {i : TI} (h : TIok P t i) : ∃ j, (typeInfo t).run P w = .ok j w ∧ j.bytes = i.bytes ∧ j.size = i.size := by
  obtain ⟨j, z, hj, hs, hb, _⟩ := h.info
  exact ⟨j, by simp [typeInfo, hj], hb, hs⟩
theorem TIok.run_zero {t : TypeId} {i : TI} (h : TIok P t i) : ∃ z, (zeroValue t).run P w = .ok z w ∧ i.zero.length = i.size ∧ z.cells.size = i.size ∧ (∀ M, VL M i.zero z.cells.toList) ∧
    (i.isAgg = true → ∃ ys, z = .agg ys) ∧ (i.isAgg = false → z.cells = #[z]) := by
  obtain ⟨j, z, hj, hs, hb, hz, h1, h2, h3, h4, h5⟩ := h.info
  exact ⟨z, by simp [zeroValue, typeInfo, hj, hz], h1, h2, h3, h4, h5⟩

theorem takeN_eq {n : Nat} {cs l : List AV} (h : takeN n cs = some l) : n ≤ cs.length ∧ l = cs.take n := by
  unfold takeN at h
  cases hb : Nat.ble n cs.length
  · simp [hb] at h
  · rw [hb, cond_true, Option.some.injEq] at h
    exact ⟨by simpa using hb, h.symm⟩

/-- what is loaded from cells: the value, out of the cells that lie there -/
theorem ldCells_ok {i : TI} {cs : List AV} {x : AV} {u : Upd} {ys : List Value} (h : (ldCells i cs).val = some (.v x u)) (hv : VAs E cs ys) :
    u = .none ∧ (i.isAgg = true → i.size ≤ ys.length ∧ VA E x (.agg (ys.take i.size).toArray)) ∧ (i.isAgg = false → ∃ y r, ys = y :: r ∧ VA E x y) := by
  unfold ldCells at h
  cases ha : i.isAgg
  · simp only [ha, cond_false] at h
    cases cs with
    | nil => simp [ER.val] at h
    | cons c cs =>
      simp only [ER.val_pv, Leaf.v.injEq] at h
      obtain ⟨rfl, rfl⟩ := h
      simp only [VAs] at hv
      obtain ⟨y, r, rfl, h1, _⟩ := hv
      exact ⟨rfl, by simp, fun _ => ⟨y, r, rfl, h1⟩⟩
  · simp only [ha, cond_true] at h
    split at h
    · rename_i l hl
      simp only [ER.val_pv, Leaf.v.injEq] at h
      obtain ⟨rfl, rfl⟩ := h
      obtain ⟨h1, rfl⟩ := takeN_eq hl
      refine ⟨rfl, fun _ => ⟨by rw [VAs.len hv]; exact h1, ?_⟩, by simp⟩
      simp only [VA]
      exact ⟨_, rfl, VAs.take _ hv⟩
    · simp [ER.val] at h

theorem partE_val {i : TI} {cs : List AV} {off : Nat} {x : AV} (h : partE i cs off = some x) : ∃ u, (ldCells i (cs.drop off)).val = some (.v x u) := by
  unfold partE at h
  split at h
  · rename_i u hx
    injection h with h
    subst h
    exact ⟨_, by rw [hx]; rfl⟩
  · cases h

theorem part_ok {t : TypeId} {i : TI} (ht : TIok P t i) {cs : List AV} {off : Nat} {x : AV} {u : Upd} {ys : Array Value} (h : (ldCells i (cs.drop off)).val = some (.v x u)) (hv : VAs E cs ys.toList) :
    u = .none ∧ ∃ Z, (part t ys off).run P w = .ok Z w ∧ VA E x Z := by
  obtain ⟨hu, h1, h2⟩ := ldCells_ok h (VAs.drop off hv)
  refine ⟨hu, ?_⟩
  unfold part
  simp only [Sem.run_bind, ht.run_agg, Result.andThen_ok]
  cases ha : i.isAgg
  · obtain ⟨y, r, hy, hx⟩ := h2 ha
    have hg : ys[off]? = some y := by
      have := congrArg List.head? hy
      simpa [List.head?_drop] using this
    exact ⟨y, by simp [hg], hx⟩
  · obtain ⟨hl, hx⟩ := h1 ha
    refine ⟨.agg (ys.extract off (off + i.size)), by simp [ht.run_size], ?_⟩
    have e : (ys.extract off (off + i.size)) = ((ys.toList.drop off).take i.size).toArray := by
      apply Array.ext'
      simp [List.extract_eq_take_drop]
    rw [e]
    exact hx

/-! ## Equality -/

theorem eqE_ok (hT : TabOK P T) : ∀ (d : Nat) (D : Nat) (t : TypeId) (x y : AV) (b : Bool) (X Y : Value), eqE T d t x y = some b → VA E x X → VA E y Y → d ≤ D → (Op.equalIn D t X Y).run P w = .ok b w
  | 0, _, _, _, _, _, _, _, h, _, _, _ => by simp [eqE] at h
  | d + 1, 0, _, _, _, _, _, _, _, _, _, hd => by omega
  | d + 1, D + 1, t, x, y, b, X, Y, h, hx, hy, hd => by
    simp only [eqE] at h
    split at h
    · cases h
    · rename_i i hi
      have ht := hT t i hi
      split at h
      · rename_i hdsc
        injection h with h; subst h
        simp only [VA, VS] at hx hy; subst hx hy
        exact run_equalIn_bool' w D t _ _ (hdsc ▸ ht.und)
      · rename_i k j a k' c hdsc
        by_cases hk : j = k'
        · simp only [hk, decide_true, cond_true, Option.some.injEq] at h
          subst h
          simp only [VA, VS] at hx hy; subst hx hy hk
          exact run_equalIn_int w D t _ _ _ _ (hdsc ▸ ht.und)
        · simp [hk] at h
      · rename_i hdsc
        injection h with h; subst h
        simp only [VA, VS] at hx hy; subst hx hy
        rw [run_equalIn_string w D t _ _ (hdsc ▸ ht.und), toList_mk, toList_mk]
      · rename_i fs xs ys hdsc
        cases hp : i.plain
        · simp [hp] at h
        · simp only [hp, cond_true] at h
          simp only [VA] at hx hy
          obtain ⟨xs', rfl, hx⟩ := hx
          obtain ⟨ys', rfl, hy⟩ := hy
          have hf : P.fieldsOf t = fs := by simp [Program.fieldsOf, ht.und, hdsc]
          rw [run_equalIn_struct w D t _ _ (by rw [hf, ht.und, hdsc]) (ht.plain hp).2, hf]
          revert h
          generalize fs.toList = l
          intro h
          induction l generalizing b with
          | nil => simp only [eqFields, Option.some.injEq] at h; subst h; simp [Op.eqFields]
          | cons f l ih =>
            simp only [eqFields] at h
            split at h
            · cases h
            · rename_i fi hfi
              split at h
              · rename_i a c ha hc
                split at h
                · rename_i p q hp1 hq
                  cases hn : (f.name == "_")
                  · simp only [hn, cond_false, Option.some.injEq] at h
                    subst h
                    have hfn : f.name ≠ "_" := by simpa using hn
                    obtain ⟨u1, h1⟩ := partE_val ha
                    obtain ⟨u2, h2⟩ := partE_val hc
                    obtain ⟨_, A, hA, hvA⟩ := part_ok (w := w) (hT _ _ hfi) (ys := xs'.toArray) h1 (by simpa using hx)
                    obtain ⟨_, B, hB, hvB⟩ := part_ok (w := w) (hT _ _ hfi) (ys := ys'.toArray) h2 (by simpa using hy)
                    have he := eqE_ok hT d D f.type a c p A B hp1 hvA hvB (by omega)
                    have hr := ih q hq
                    simp only [Op.eqFields, hfn, ne_eq, not_false_eq_true, if_true, Sem.run_bind, hA, hB, Result.andThen_ok, he]
                    cases p
                    · simp
                    · simp [hr]
                  · simp [hn] at h
                · cases h
              · cases h
      · rename_i n e xs ys hdsc
        split at h
        · rename_i ei hei
          cases hp : i.plain
          · simp [hp] at h
          · simp only [hp, cond_true] at h
            simp only [VA] at hx hy
            obtain ⟨xs', rfl, hx⟩ := hx
            obtain ⟨ys', rfl, hy⟩ := hy
            have hs := (hT e ei hei).run_size (w := w)
            simp only [Op.equalIn, Sem.run_bind, ht.run_und, hdsc, Result.andThen_ok, hs]
            rw [Std.Legacy.Range.forIn_eq_forIn_range']
            have hr : List.range' [:n].start [:n].size [:n].step = List.range' 0 n := by simp [Std.Legacy.Range.size]
            rw [hr]
            clear hr hdsc
            generalize 0 = k at h
            induction n generalizing b k with
            | zero => simp only [eqElems, Option.some.injEq] at h; subst h; simp
            | succ n ih =>
              simp only [eqElems] at h
              split at h
              · rename_i a c ha hc
                split at h
                · rename_i p q hp1 hq
                  simp only [Option.some.injEq] at h
                  subst h
                  obtain ⟨u1, h1⟩ := partE_val ha
                  obtain ⟨u2, h2⟩ := partE_val hc
                  obtain ⟨_, A, hA, hvA⟩ := part_ok (w := w) (hT _ _ hei) (ys := xs'.toArray) h1 (by simpa using hx)
                  obtain ⟨_, B, hB, hvB⟩ := part_ok (w := w) (hT _ _ hei) (ys := ys'.toArray) h2 (by simpa using hy)
                  have he := eqE_ok hT d D e a c p A B hp1 hvA hvB (by omega)
                  have hr := ih q (k + 1) hq
                  simp only [List.range'_succ, List.forIn_cons, Sem.run_bind, hA, hB, Result.andThen_ok, he]
                  cases p
                  · simp
                  · simpa using hr
                · cases h
              · cases h
        · cases h
      · cases h
end


section
variable {P : Program} {w : World} {E : Env} {T : Tab}

theorem eqE_plain {d : Nat} {t : TypeId} {xs : List AV} {y : AV} {b : Bool} (h : eqE T d t (.agg xs) y = some b) : ∃ i, T t = some i ∧ i.plain = true := by
  cases d with
  | zero => simp [eqE] at h
  | succ d =>
    simp only [eqE] at h
    split at h
    · cases h
    · rename_i i hi
      refine ⟨i, hi, ?_⟩
      cases hp : i.plain
      · exfalso
        revert h
        cases i.desc <;> cases y <;> simp only [hp, cond_false, reduceCtorEq, imp_self]
        split <;> simp
      · rfl

theorem eqGuard_agg (op : BinOp) (t : TypeId) (x y : Operand) (xs ys : Array Value) (hm : P.eqGuardType P.depth t = false) : (eqGuard op t x y (.agg xs) (.agg ys)).run P w = .ok () w :=
  run_eqGuard_agg w op t x y xs ys hm

/-- the values that 'eqE' takes -/
theorem eqE_guard (hT : TabOK P T) {d : Nat} {t : TypeId} {x y : AV} {b : Bool} {X Y : Value} (h : eqE T d t x y = some b) (hx : VA E x X) (hy : VA E y Y) (op : BinOp) (o1 o2 : Operand) :
    (eqGuard op t o1 o2 X Y).run P w = .ok () w := by
  have hpl := fun xs (e : x = .agg xs) => eqE_plain (e ▸ h)
  cases d with
  | zero => simp [eqE] at h
  | succ d =>
    simp only [eqE] at h
    split at h
    · cases h
    · rename_i i hi
      split at h
      · simp only [VA, VS] at hx; subst hx; rw [eqGuard_at_bool]; rfl
      · simp only [VA, VS] at hx; subst hx; rw [eqGuard_at_int]; rfl
      · simp only [VA, VS] at hx; subst hx; rw [eqGuard_at_string]; rfl
      · obtain ⟨i', hi', hp⟩ := hpl _ rfl
        simp only [VA] at hx hy
        obtain ⟨xs', rfl, hx⟩ := hx
        obtain ⟨ys', rfl, hy⟩ := hy
        exact eqGuard_agg op t o1 o2 _ _ ((hT t i' hi').plain hp).1
      · obtain ⟨i', hi', hp⟩ := hpl _ rfl
        simp only [VA] at hx hy
        obtain ⟨xs', rfl, hx⟩ := hx
        obtain ⟨ys', rfl, hy⟩ := hy
        exact eqGuard_agg op t o1 o2 _ _ ((hT t i' hi').plain hp).1
      · cases h

theorem binOp_eql_of (t : TypeId) {x y : AV} {X Y : Value} {b : Bool} (hx : VA E x X) (hy : VA E y Y) {d : Nat} (h : eqE T d t x y = some b) (he : (Op.equalIn 10000 t X Y).run P w = .ok b w) :
    (binOp .eql t X Y).run P w = .ok (.bool b) w ∧ (binOp .neq t X Y).run P w = .ok (.bool !b) w := by
  have key : (∀ k n, X ≠ .int k n) → (∀ s, X ≠ .string s) → (∀ k n, X ≠ .float k n) → (∀ k n m, X ≠ .complex k n m) →
      binOp .eql t X Y = (do pure (.bool (← Op.equal t X Y))) ∧ binOp .neq t X Y = (do pure (.bool (!(← Op.equal t X Y)))) := by
    intro h1 h2 h3 h4
    cases X <;> first
      | (exact absurd rfl (h1 _ _))
      | (exact absurd rfl (h2 _))
      | (exact absurd rfl (h3 _ _))
      | (exact absurd rfl (h4 _ _ _))
      | (constructor <;> simp [binOp])
  cases d with
  | zero => simp [eqE] at h
  | succ d =>
    simp only [eqE] at h
    split at h
    · cases h
    · split at h
      · simp only [VA, VS] at hx hy; subst hx hy
        obtain ⟨k1, k2⟩ := key (by simp) (by simp) (by simp) (by simp)
        rw [k1, k2]; simp [Op.equal, Op.maxDepth, he]
      · rename_i k j a k' c _
        by_cases hk : j = k'
        · simp only [hk, decide_true, cond_true, Option.some.injEq] at h
          simp only [VA, VS] at hx hy; subst hx hy hk h
          rw [binOp_eql, binOp_neq]; simp [bne]
        · simp [hk] at h
      · injection h with h; subst h
        simp only [VA, VS] at hx hy; subst hx hy
        simp [binOp, Op.stringOp]
      · simp only [VA] at hx hy
        obtain ⟨xs', rfl, hx⟩ := hx
        obtain ⟨ys', rfl, hy⟩ := hy
        obtain ⟨k1, k2⟩ := key (by simp) (by simp) (by simp) (by simp)
        rw [k1, k2]; simp [Op.equal, Op.maxDepth, he]
      · simp only [VA] at hx hy
        obtain ⟨xs', rfl, hx⟩ := hx
        obtain ⟨ys', rfl, hy⟩ := hy
        obtain ⟨k1, k2⟩ := key (by simp) (by simp) (by simp) (by simp)
        rw [k1, k2]; simp [Op.equal, Op.maxDepth, he]
      · cases h

theorem equalIn_ptr (D : Nat) {t e : TypeId} (h : P.underlying t = some (.pointer e)) (b : Option Addr) : (Op.equalIn (D + 1) t (.pointer none) (.pointer b)).run P w = .ok b.isNone w := by
  simp only [Op.equalIn, Sem.run_bind, run_underlying h, Result.andThen_ok, Sem.run_pure]
theorem equalIn_ptr' (D : Nat) {t e : TypeId} (h : P.underlying t = some (.pointer e)) (a : Addr) : (Op.equalIn (D + 1) t (.pointer (some a)) (.pointer none)).run P w = .ok false w := by
  simp only [Op.equalIn, Sem.run_bind, run_underlying h, Result.andThen_ok, Sem.run_pure]
theorem equalIn_sl (D : Nat) {t e : TypeId} (h : P.underlying t = some (.slice e)) (b : Option Addr) (n c m k : Nat) : (Op.equalIn (D + 1) t (.slice none n c) (.slice b m k)).run P w = .ok b.isNone w := by
  simp only [Op.equalIn, Sem.run_bind, run_underlying h, Result.andThen_ok, Sem.run_pure]
theorem equalIn_sl' (D : Nat) {t e : TypeId} (h : P.underlying t = some (.slice e)) (a : Addr) (n c m k : Nat) : (Op.equalIn (D + 1) t (.slice (some a) n c) (.slice none m k)).run P w = .ok false w := by
  simp only [Op.equalIn, Sem.run_bind, run_underlying h, Result.andThen_ok, Sem.run_pure]

theorem binOp_of_equal {t : TypeId} {X Y : Value} {b : Bool} (hX : (∃ a, X = .pointer a) ∨ ∃ a n c, X = .slice a n c) (hY : (∃ a, Y = .pointer a) ∨ ∃ a n c, Y = .slice a n c)
    (h : (Op.equalIn (9999 + 1) t X Y).run P w = .ok b w) :
    (∀ op o1 o2, (eqGuard op t o1 o2 X Y).run P w = .ok () w) ∧ (binOp .eql t X Y).run P w = .ok (.bool b) w ∧ (binOp .neq t X Y).run P w = .ok (.bool !b) w := by
  have e : (Op.equal t X Y).run P w = .ok b w := h
  have k1 : binOp .eql t X Y = (do pure (.bool (← Op.equal t X Y))) := by
    rcases hX with ⟨a, rfl⟩ | ⟨a, n, c, rfl⟩ <;> rcases hY with ⟨a', rfl⟩ | ⟨a', n', c', rfl⟩ <;> rfl
  have k2 : binOp .neq t X Y = (do pure (.bool (!(← Op.equal t X Y)))) := by
    rcases hX with ⟨a, rfl⟩ | ⟨a, n, c, rfl⟩ <;> rcases hY with ⟨a', rfl⟩ | ⟨a', n', c', rfl⟩ <;> rfl
  refine ⟨fun op o1 o2 => ?_, by rw [k1]; simp only [Sem.run_bind, e, Result.andThen_ok, Sem.run_pure], by rw [k2]; simp only [Sem.run_bind, e, Result.andThen_ok, Sem.run_pure]⟩
  rcases hX with ⟨a, rfl⟩ | ⟨a, n, c, rfl⟩
  · rw [eqGuard_at_pointer]; rfl
  · rw [eqGuard_at_slice]; rfl

theorem eqNil_ok (hT : TabOK P T) {t : TypeId} {x y : AV} {b : Bool} {X Y : Value} (h : eqNil T t x y = some b) (hx : VA E x X) (hy : VA E y Y) :
    (∀ op o1 o2, (eqGuard op t o1 o2 X Y).run P w = .ok () w) ∧ (binOp .eql t X Y).run P w = .ok (.bool b) w ∧ (binOp .neq t X Y).run P w = .ok (.bool !b) w := by
  unfold eqNil at h
  split at h
  · rename_i e _ _ _ _ ht
    have hu := (hT t _ ht).und
    split at h <;> try (cases h; done)
    all_goals
      injection h with h; subst h
      simp only [VA, VS] at hx hy
      first
        | (subst hx; subst hy)
        | (obtain ⟨_, _, _, hx, _⟩ := hx; subst hx; subst hy)
        | (obtain ⟨_, _, _, hy, _⟩ := hy; subst hx; subst hy)
      exact binOp_of_equal (.inl ⟨_, rfl⟩) (.inl ⟨_, rfl⟩) (by first | exact equalIn_ptr _ hu _ | exact equalIn_ptr' _ hu _)
  · rename_i e _ _ _ _ ht
    have hu := (hT t _ ht).und
    split at h <;> try (cases h; done)
    all_goals
      injection h with h; subst h
      simp only [VA, VS] at hx hy
      first
        | (subst hx; subst hy)
        | (obtain ⟨_, _, _, _, hx, _⟩ := hx; subst hx; subst hy)
        | (obtain ⟨_, _, _, _, hy, _⟩ := hy; subst hx; subst hy)
      exact binOp_of_equal (.inr ⟨_, _, _, rfl⟩) (.inr ⟨_, _, _, rfl⟩) (by first | exact equalIn_sl _ hu _ _ _ _ _ | exact equalIn_sl' _ hu _ _ _ _ _)
  · cases h

theorem cond_some {α : Type} {c : Bool} {x y : α} (h : cond c (some x) none = some y) : c = true ∧ x = y := by cases c <;> simp at h; exact ⟨rfl, h⟩

theorem HR.gen {h : Heap} (H : HR E h w) {id : Nat} {o : HO} (ho : h id = some o) : ∃ n, E.I id = some (o.gen, n) := (H.obj id o ho).I

theorem eqNilH_ok (hT : TabOK P T) {h : Heap} (H : HR E h w) {t : TypeId} {x y : AV} {b : Bool} {X Y : Value} (hh : eqNilH T h t x y = some b) (hx : VA E x X) (hy : VA E y Y) :
    (∀ op o1 o2, (eqGuard op t o1 o2 X Y).run P w = .ok () w) ∧ (binOp .eql t X Y).run P w = .ok (.bool b) w ∧ (binOp .neq t X Y).run P w = .ok (.bool !b) w := by
  unfold eqNilH at hh
  split at hh
  · rename_i e _ _ _ _ ht
    have hu := (hT t _ ht).und
    split at hh <;> try (cases hh; done)
    all_goals
      split at hh
      · rename_i o ho
        obtain ⟨n, hn⟩ := H.gen ho
        obtain ⟨hg, hh⟩ := cond_some hh
        · have hge := Nat.eq_of_beq_eq_true hg
          subst hh
          simp only [VA, VS] at hx hy
          first
            | (subst hx
               obtain ⟨_, g', n', q, l, hy⟩ := hy
               rw [hn] at q; injection q with q; injection q with q1 q2
               have hy := hy (by omega); subst hy)
            | (subst hy
               obtain ⟨_, g', n', q, l, hx⟩ := hx
               rw [hn] at q; injection q with q; injection q with q1 q2
               have hx := hx (by omega); subst hx)
          exact binOp_of_equal (.inl ⟨_, rfl⟩) (.inl ⟨_, rfl⟩) (by first | exact equalIn_ptr _ hu _ | exact equalIn_ptr' _ hu _)
      · cases hh
  · rename_i e _ _ _ _ ht
    have hu := (hT t _ ht).und
    split at hh <;> try (cases hh; done)
    all_goals
      split at hh
      · rename_i o ho
        obtain ⟨n, hn⟩ := H.gen ho
        obtain ⟨hg, hh⟩ := cond_some hh
        · have hge := Nat.eq_of_beq_eq_true hg
          subst hh
          simp only [VA, VS] at hx hy
          first
            | (subst hx
               obtain ⟨_, g', n', q, l, hy⟩ := hy
               rw [hn] at q; injection q with q; injection q with q1 q2
               obtain ⟨_, cap, _, _, _, _, hy⟩ := hy (by omega); subst hy)
            | (subst hy
               obtain ⟨_, g', n', q, l, hx⟩ := hx
               rw [hn] at q; injection q with q; injection q with q1 q2
               obtain ⟨_, cap, _, _, _, _, hx⟩ := hx (by omega); subst hx)
          exact binOp_of_equal (.inr ⟨_, _, _, rfl⟩) (.inr ⟨_, _, _, rfl⟩) (by first | exact equalIn_sl _ hu _ _ _ _ _ | exact equalIn_sl' _ hu _ _ _ _ _)
      · cases hh
  · cases hh

theorem opBin_ok (hT : TabOK P T) {h : Heap} (H : HR E h w) {op : BinOp} {t : TypeId} {x y r : AV} {u : Upd} {X Y : Value} (o1 o2 : Operand) (hh : (opBin T h op t x y).val = some (.v r u)) (hx : VA E x X) (hy : VA E y Y) :
    u = .none ∧ ∃ Z, (eqGuard op t o1 o2 X Y).run P w = .ok () w ∧ (binOp op t X Y).run P w = .ok Z w ∧ VA E r Z := by
  unfold opBin at hh
  split at hh
  · simp only [VA, VS] at hx hy; subst hx hy
    obtain ⟨hu, v, rfl, h1, h2⟩ := shiftBin_ok (P := P) (w := w) (E := E) (t := t) (.inl rfl) hh
    exact ⟨hu, _, by rw [eqGuard_at_int]; rfl, h2, by simpa [VA] using h1⟩
  · simp only [VA, VS] at hx hy; subst hx hy
    obtain ⟨hu, v, rfl, h1, h2⟩ := shiftBin_ok (P := P) (w := w) (E := E) (t := t) (.inr rfl) hh
    exact ⟨hu, _, by rw [eqGuard_at_int]; rfl, h2, by simpa [VA] using h1⟩
  · rename_i op k a j b _ _
    by_cases hk : k = j
    · subst hk
      simp only [decide_true, cond_true] at hh
      simp only [VA, VS] at hx hy; subst hx hy
      obtain ⟨hu, v, rfl, h1, h2⟩ := intBin_ok (P := P) (w := w) (E := E) (t := t) hh
      exact ⟨hu, _, by rw [eqGuard_at_int]; rfl, h2, by simpa [VA] using h1⟩
    · simp [hk, ER.val] at hh
  · simp only [VA, VS] at hx hy; subst hx hy
    obtain ⟨hu, v, rfl, h1, h2⟩ := strBin_ok (P := P) (w := w) (E := E) (t := t) hh
    exact ⟨hu, _, by rw [eqGuard_at_string]; rfl, h2, by simpa [VA] using h1⟩
  · split at hh
    · rename_i b hb
      simp only [ER.val_pv, Leaf.v.injEq] at hh
      obtain ⟨rfl, rfl⟩ := hh
      exact ⟨rfl, _, eqE_guard hT hb hx hy _ _ _, (binOp_eql_of t hx hy hb (eqE_ok hT _ _ _ _ _ _ _ _ hb hx hy (by omega))).1, by simp [VA, VS]⟩
    · split at hh
      · rename_i b hb
        simp only [ER.val_pv, Leaf.v.injEq] at hh
        obtain ⟨rfl, rfl⟩ := hh
        obtain ⟨g, h1, h2⟩ := eqNil_ok (w := w) hT hb hx hy
        exact ⟨rfl, _, g _ _ _, h1, by simp [VA, VS]⟩
      · split at hh
        · rename_i b hb
          simp only [ER.val_pv, Leaf.v.injEq] at hh
          obtain ⟨rfl, rfl⟩ := hh
          obtain ⟨g, h1, h2⟩ := eqNilH_ok hT H hb hx hy
          exact ⟨rfl, _, g _ _ _, h1, by simp [VA, VS]⟩
        · simp [ER.val] at hh
  · split at hh
    · rename_i b hb
      simp only [ER.val_pv, Leaf.v.injEq] at hh
      obtain ⟨rfl, rfl⟩ := hh
      exact ⟨rfl, _, eqE_guard hT hb hx hy _ _ _, (binOp_eql_of t hx hy hb (eqE_ok hT _ _ _ _ _ _ _ _ hb hx hy (by omega))).2, by simp [VA, VS]⟩
    · split at hh
      · rename_i b hb
        simp only [ER.val_pv, Leaf.v.injEq] at hh
        obtain ⟨rfl, rfl⟩ := hh
        obtain ⟨g, h1, h2⟩ := eqNil_ok (w := w) hT hb hx hy
        exact ⟨rfl, _, g _ _ _, h2, by simp [VA, VS]⟩
      · split at hh
        · rename_i b hb
          simp only [ER.val_pv, Leaf.v.injEq] at hh
          obtain ⟨rfl, rfl⟩ := hh
          obtain ⟨g, h1, h2⟩ := eqNilH_ok hT H hb hx hy
          exact ⟨rfl, _, g _ _ _, h2, by simp [VA, VS]⟩
        · simp [ER.val] at hh
  · simp [ER.val] at hh

theorem opUn_ok {op : UnOp} {x r : AV} {u : Upd} {X : Value} (hh : (opUn op x).val = some (.v r u)) (hx : VA E x X) : u = .none ∧ ∃ Z, (Op.unary op X).run P w = .ok Z w ∧ VA E r Z := by
  unfold opUn at hh
  split at hh
  · simp only [VA, VS] at hx; subst hx
    simp only [ER.val_pv, Leaf.v.injEq] at hh
    obtain ⟨rfl, rfl⟩ := hh
    exact ⟨rfl, _, rfl, by simp [VA, VS]⟩
  · simp only [VA, VS] at hx; subst hx
    simp only [intBin, ER.val_pv, Leaf.v.injEq] at hh
    obtain ⟨rfl, rfl⟩ := hh
    exact ⟨rfl, _, rfl, by simp [VA, VS]⟩
  · simp only [VA, VS] at hx; subst hx
    simp only [intBin, ER.val_pv, Leaf.v.injEq] at hh
    obtain ⟨rfl, rfl⟩ := hh
    exact ⟨rfl, _, rfl, by simp [VA, VS]⟩
  · simp only [VA, VS] at hx; subst hx
    simp only [ER.val_pv, Leaf.v.injEq] at hh
    obtain ⟨rfl, rfl⟩ := hh
    exact ⟨rfl, _, rfl, by simp [VA, VS]⟩
  · simp [ER.val] at hh

end

end Go.Ev
