/- suite.Encode's contract; crc.Open's; acts read back: suite.Decode. -/
import Derived.Test.YtkdbaijabnhniaaGreatDoorCoB
namespace Go.Proofs.YtkdbaijabnhniaaGreatDoor
open Go.Ev
set_option maxRecDepth 100000

def goodB (r : List SV) : Bool := match r with
  | [.int .i64 a, .int .u64 n, .str s] => decide (0 ≤ a) && decide (a < 10) && decide (0 ≤ n) && decide (n ≤ 4294967296) && Nat.ble s.length 10000
  | _ => false
def toA (r : List SV) : A3 := match r with
  | [.int _ a, .int _ n, .str s] => ⟨a.toNat, n.toNat, s⟩
  | _ => ⟨0, 0, []⟩
theorem goodB_ok {r : List SV} (h : goodB r = true) : r = rowA (toA r) ∧ okA (toA r) := by
  unfold goodB at h
  split at h
  · rename_i a n s
    simp only [Bool.and_eq_true, decide_eq_true_eq, Nat.ble_eq] at h
    obtain ⟨⟨⟨⟨h1, h2⟩, h3⟩, h4⟩, h5⟩ := h
    refine ⟨?_, ?_, ?_, h5⟩
    · simp only [toA, rowA]
      rw [Int.toNat_of_nonneg h1, Int.toNat_of_nonneg h3]
    · simp only [toA]; omega
    · simp only [toA]; omega
  · cases h
def listF (f : Nat → List SV) (k : Nat) : List A3 := (List.range k).map fun i => toA (f i)
def okF (f : Nat → List SV) (k : Nat) : Bool := Nat.ble k 1000 && (List.range k).all fun i => goodB (f i)
def encF (f : Nat → List SV) (k : Nat) : List UInt8 := sealB (catA (listF f k))

def encodeI (args : List AV) (hs : List HO) : IR := match args, hs with
  | [.sl 0 g 3 0 k], [⟨g', .rows 3 k' f, ty⟩] => .br (Nat.beq g g' && Nat.beq k k' && okF f k) (.ret (.s (.str (encF f k))) [⟨g', .rows 3 k' f, ty⟩]) .fail
  | _, _ => .fail

theorem encodeI_ok (args : List AV) (hs : List HO) : SoundI Tryz.prog G0 7 args hs (encodeI args hs) := by
  unfold encodeI
  split
  · rename_i g k g' k' f ty
    refine brI fun hc => ?_
    simp only [Bool.and_eq_true] at hc
    obtain ⟨⟨h1, h2⟩, h3⟩ := hc
    have e1 := Nat.eq_of_beq_eq_true h1
    have e2 := Nat.eq_of_beq_eq_true h2
    subst e1 e2
    simp only [okF, Bool.and_eq_true, Nat.ble_eq, List.all_eq_true, List.mem_range] at h3
    have h0 : SoundI Tryz.prog G0 7 [.sl 0 0 3 0 k] [in7 k f ty] (.ret (.s (.str (encF f k))) [in7 k f ty]) :=
      si' C9_ok rfl Tryz.func7 (by kernel_rfl) k7 (k + 1) (encode_run k f ty (listF f k) h3.1 (by simp [listF]) (fun j a hj => by
        simp only [listF, List.getElem?_map, Option.map_eq_some_iff] at hj
        obtain ⟨i, hi, rfl⟩ := hj
        obtain ⟨hlt, rfl⟩ := List.getElem?_eq_some_iff.1 hi
        simp only [List.length_range] at hlt
        rw [List.getElem_range]
        exact goodB_ok (h3.2 j hlt)))
    have := h0.sh (fun i => cond (Nat.beq i 0) g 0) rfl rfl
    have a1 : shL (fun i => cond (Nat.beq i 0) g 0) 0 [in7 k f ty] = [⟨g, .rows 3 k f, ty⟩] := by
      show [_] = [_]
      simp [HO.sh, in7]
    have a2 : [AV.sl 0 0 3 0 k].map (AV.sh1 fun i => cond (Nat.beq i 0) g 0) = [AV.sl 0 g 3 0 k] := by
      simp [AV.sh1, AV.sh0]
    rw [a1, a2] at this
    exact this
  · exact failI

/-! ## crc.Open -/

def k10 (s : List UInt8) : Int := IntKind.i64.wrap (((s.length : Nat) : Int) - 3)
def x10 (s : List UInt8) : List UInt8 := List.drop 0 (List.take (k10 s).toNat s)
def tup2 (s : List UInt8) (e : Int) : AV := .tup [.s (.str s), .s (.int .i64 e)]
theorem run10 (s : List UInt8) : runP T0 C6 AN (LD C6 [] 0) Tryz.f10 [.s (.str s)] = cond (decide (k10 s < 0)) (some (.ret (tup2 [] 2)))
    (cond (decide (0 ≤ k10 s) && decide (k10 s ≤ ((s.length : Nat) : Int))) (cond (Nat.blt (x10 s).length 1000000000000) (cond (!(sealB (x10 s) == s)) (some (.ret (tup2 [] 8)))
      (cond (decide (0 ≤ k10 s) && decide (k10 s ≤ ((s.length : Nat) : Int))) (some (.ret (tup2 (x10 s) 0))) none)) none) none) := by kernel_rfl
def okOpen (s : List UInt8) : Bool := Nat.ble 3 s.length && Nat.blt s.length 1000000000000 && (sealB (s.take (s.length - 3)) == s)
def openP : List AV → PR
  | [.s (.str s)] => .br (okOpen s) (.ret (tup2 (s.take (s.length - 3)) 0)) .fail
  | _ => .fail
theorem openP_ok (args : List AV) : SoundP Tryz.prog G0 10 args (openP args) := by
  unfold openP
  split
  · rename_i s
    refine brP fun hc => ?_
    simp only [okOpen, Bool.and_eq_true, Nat.ble_eq, Nat.blt_eq] at hc
    obtain ⟨⟨h1, h2⟩, h3⟩ := hc
    refine sp C6_ok Tryz.func10 (by kernel_rfl) [] 0 ?_
    have ek : k10 s = ((s.length - 3 : Nat) : Int) := by
      unfold k10
      rw [IntWalk.i64_in (((s.length : Nat) : Int) - 3) (by omega)]
      omega
    have ex : x10 s = s.take (s.length - 3) := by unfold x10; rw [ek, List.drop_zero, Int.toNat_natCast]
    rw [run10, ek, ex, h3]
    have d1 : decide (((s.length - 3 : Nat) : Int) < 0) = false := by rw [decide_eq_false_iff_not]; omega
    have d2 : (decide (0 ≤ ((s.length - 3 : Nat) : Int)) && decide (((s.length - 3 : Nat) : Int) ≤ ((s.length : Nat) : Int))) = true := by simp only [Bool.and_eq_true, decide_eq_true_eq]; omega
    have d3 : Nat.blt (s.take (s.length - 3)).length 1000000000000 = true := by rw [Nat.blt_eq, List.length_take]; omega
    rw [d1, d2, d3]
    rfl
  · exact failP

/-! ## suite.Decode -/

noncomputable def C10 : Orc := putO 10 openP (putO 11 actP failO)
theorem C10_ok : OrcOK Tryz.prog G0 C10 := putO_ok openP_ok (putO_ok actP_ok failO_ok)
noncomputable def B5 : Code := (Tryz.f5.body).getD .skip
noncomputable def c5 : Code := subC [1, 1, 1, 1, 0, 1, 0, 0] B5
def AN5 : Ann := { glob := glob0, heap := fun d => !(Nat.beq d 8 || Nat.beq d 38) }
def k5 : List Nat := [2, 3, 4, 6, 7]
def sl5 (x : List UInt8) (p : Int) (l : AV) : List (Nat × AV) := [(2, .s .nils), (3, .s (.int .i64 0)), (4, .s (.str x)), (6, l), (7, .s (.int .i64 p))]
def S5a (x : List UInt8) (p : Int) : St := St.mk (lookA (sl5 x p (.s .nils))) (lookB []) [] 0 43 42
def S5b (x : List UInt8) (p : Int) (g m : Nat) (f : Nat → List SV) : St := St.mk (lookA (sl5 x p (.sl 39 g 3 0 m))) (lookB []) [(39, ⟨g, .rows 3 m f, some 26⟩)] 0 43 42
def row5 (x : List UInt8) (p : Int) : Nat → List SV := chunk 3 [.int .i64 (n0 x p), .int .u64 (n1 x p), .str (actS x p)]

theorem round5a (L) (x : List UInt8) (p : Int) (c : Nat) : iterD T0 C10 AN5 L c5 k5 [] (c + 1) (S5a x p) =
    cond (decide (p < ((x.length : Nat) : Int))) (cond (okAct x p) (cond (!(rightB (n0 x p) (n1 x p) (actS x p))) (some (.ret, St.mk (lookA [(2, .s .nils), (3, .s (.int .i64 12)), (4, .s (.str x)), (6, .s .nils), (7, .s (.int .i64 p))]) (lookB []) [] 0 43 42))
      (iterD T0 C10 AN5 L c5 k5 [] c (S5b x (p3 x p + n2 x p) 0 1 (row5 x p)))) none) (some (.exit 0, S5a x p)) := by kernel_rfl
theorem round5b (L) (x : List UInt8) (p : Int) (g m : Nat) (f : Nat → List SV) (c : Nat) : iterD T0 C10 AN5 L c5 k5 [] (c + 1) (S5b x p g m f) =
    cond (decide (p < ((x.length : Nat) : Int))) (cond (okAct x p) (cond (!(rightB (n0 x p) (n1 x p) (actS x p)))
        (some (.ret, St.mk (lookA [(2, .s .nils), (3, .s (.int .i64 12)), (4, .s (.str x)), (6, .sl 39 g 3 0 m), (7, .s (.int .i64 p))]) (lookB []) [(39, ⟨g, .rows 3 m f, some 26⟩)] 0 43 42))
      (cond (cond false true (decide (((m : Nat) : Int) ≥ 1000)))
        (some (.ret, St.mk (lookA [(2, .s .nils), (3, .s (.int .i64 12)), (4, .s (.str x)), (6, .sl 39 g 3 0 m), (7, .s (.int .i64 p))]) (lookB []) [(39, ⟨g, .rows 3 m f, some 26⟩)] 0 43 42))
        (cond (Nat.beq g g) (cond (Nat.ble ((m + 1) * 33) room) (iterD T0 C10 AN5 L c5 k5 [] c (S5b x (p3 x p + n2 x p) (g + 1) (m + 1) (catRows m 0 f (row5 x p)))) none) none))) none) (some (.exit 0, S5b x p g m f)) := by kernel_rfl

noncomputable def K5 : Ex → St → Option PR := finP T0 AN5 Tryz.f5.results.toList
theorem run5 (s : List UInt8) : runP T0 C10 AN5 (LX AN5 C10 k5 1002) Tryz.f5 [.s (.str s)] = cond (okOpen s)
    (goLT (blockK 0 (thenK T0 C10 AN5 (LX AN5 C10 k5 1002) (subC [1, 1, 1, 1, 1] B5) K5)) (ltOf (iterD T0 C10 AN5 (loopD T0 C10 AN5 (fun _ => k5) (fun _ => []) 1002 0) c5 k5 [] 1002 (S5a (s.take (s.length - 3)) 0)))) none := by kernel_rfl
theorem tail5a (L) (x : List UInt8) (p : Int) : goLT (blockK 0 (thenK T0 C10 AN5 L (subC [1, 1, 1, 1, 1] B5) K5)) (ltOf (some (.exit 0, S5a x p))) = some (.ret (.tup [.s .nils, .s (.int .i64 0)])) := by kernel_rfl
theorem tail5b (L) (x : List UInt8) (p : Int) (g m : Nat) (f : Nat → List SV) : goLT (blockK 0 (thenK T0 C10 AN5 L (subC [1, 1, 1, 1, 1] B5) K5)) (ltOf (some (.exit 0, S5b x p g m f))) =
    (match out2 [(39, ⟨g, .rows 3 m f, some 26⟩)] (.tup [.sl 39 g 3 0 m, .s (.int .i64 0)]) with | some v => some (.ret v) | none => none) := by kernel_rfl
theorem out5 (g m : Nat) (f : Nat → List SV) : out2 [(39, ⟨g, .rows 3 m f, some 26⟩)] (.tup [.sl 39 g 3 0 m, .s (.int .i64 0)]) = some (.tup [.own 3 m (fun i => f (i + 0)), .s (.int .i64 0)]) := by
  simp [out2, outs, out1, out0, Heap.get, Nat.beq_refl]

/-! ## Of good bytes -/

theorem endI_at {x : List UInt8} {p : Nat} {n k : Nat} (h : numAt (x.drop p) = some (n, k)) : endI x (p : Int) = ((p + k : Nat) : Int) ∧ numI x (p : Int) = (n : Int) := by
  unfold endI numI
  rw [Int.toNat_natCast, h]
  exact ⟨rfl, rfl⟩
theorem okGet_at {x : List UInt8} {p : Nat} {y : Nat × Nat} (hp : p ≤ x.length) (hx : x.length < 1000000000000) (h : numAt (x.drop p) = some y) : okGet x (p : Int) = true := by
  unfold okGet
  rw [Int.toNat_natCast, h]
  simp only [Option.isSome_some, Bool.and_true, Bool.and_eq_true, decide_eq_true_eq, Nat.ble_eq, Nat.blt_eq]
  omega

theorem act_at {x : List UInt8} {p : Nat} {a : A3} {tl : List UInt8} (h : x.drop p = encA a ++ tl) (hx : x.length < 1000000000) (ha : okA a) :
    okAct x (p : Int) = true ∧ n0 x (p : Int) = (a.k : Int) ∧ n1 x (p : Int) = (a.n : Int) ∧ actS x (p : Int) = a.s ∧ p3 x (p : Int) + n2 x (p : Int) = ((p + (encA a).length : Nat) : Int) ∧
    rightB (n0 x (p : Int)) (n1 x (p : Int)) (actS x (p : Int)) = true ∧ p < x.length := by
  obtain ⟨h1, h2, h3⟩ := ha
  have hlen := encA_len a ⟨h1, h2, h3⟩
  have hl : x.length - p = (encA a).length + tl.length := by rw [← List.length_drop, h, List.length_append]
  have hp : p < x.length := by omega
  have hxp : x.drop p = putB (a.k : Int) ++ (putB (a.n : Int) ++ (putB ((a.s.length : Nat) : Int) ++ (a.s ++ tl))) := by rw [h]; simp [encA, List.append_assoc]
  have hE : (encA a).length = (putB (a.k : Int)).length + ((putB (a.n : Int)).length + ((putB ((a.s.length : Nat) : Int)).length + a.s.length)) := by simp [encA]
  generalize hA : (putB (a.k : Int)) = A at hxp hE
  generalize hB : (putB (a.n : Int)) = B at hxp hE
  generalize hC : (putB ((a.s.length : Nat) : Int)) = C at hxp hE
  have m0 : numAt (x.drop p) = some (a.k, A.length) := by rw [hxp, ← hA]; exact numAt_putB a.k (by omega) _
  have x1 : x.drop (p + A.length) = B ++ (C ++ (a.s ++ tl)) := by rw [← List.drop_drop, hxp, List.drop_left]
  have m1 : numAt (x.drop (p + A.length)) = some (a.n, B.length) := by rw [x1, ← hB]; exact numAt_putB a.n (by omega) _
  have x2 : x.drop (p + A.length + B.length) = C ++ (a.s ++ tl) := by rw [← List.drop_drop, x1, List.drop_left]
  have m2 : numAt (x.drop (p + A.length + B.length)) = some (a.s.length, C.length) := by rw [x2, ← hC]; exact numAt_putB a.s.length (by omega) _
  have x3 : x.drop (p + A.length + B.length + C.length) = a.s ++ tl := by rw [← List.drop_drop, x2, List.drop_left]
  obtain ⟨e0, f0⟩ := endI_at m0
  obtain ⟨e1, f1⟩ := endI_at m1
  obtain ⟨e2, f2⟩ := endI_at m2
  have ep1 : p1 x (p : Int) = ((p + A.length : Nat) : Int) := e0
  have ep2 : p2 x (p : Int) = ((p + A.length + B.length : Nat) : Int) := by unfold p2; rw [ep1]; exact e1
  have ep3 : p3 x (p : Int) = ((p + A.length + B.length + C.length : Nat) : Int) := by unfold p3; rw [ep2]; exact e2
  have en0 : n0 x (p : Int) = (a.k : Int) := f0
  have en1 : n1 x (p : Int) = (a.n : Int) := by unfold n1; rw [ep1]; exact f1
  have en2 : n2 x (p : Int) = ((a.s.length : Nat) : Int) := by unfold n2; rw [ep2]; exact f2
  have es : actS x (p : Int) = a.s := by
    unfold actS
    rw [ep3, en2]
    have e : (((p + A.length + B.length + C.length : Nat) : Int) + ((a.s.length : Nat) : Int)).toNat = p + A.length + B.length + C.length + a.s.length := by omega
    rw [e, Int.toNat_natCast, List.drop_take, x3]
    have e3 : p + A.length + B.length + C.length + a.s.length - (p + A.length + B.length + C.length) = a.s.length := by omega
    rw [e3, List.take_left]
  refine ⟨?_, en0, en1, es, by rw [ep3, en2]; omega, ?_, hp⟩
  · unfold okAct
    rw [ep1, ep2, ep3, en0, en2, okGet_at (by omega) (by omega) m0, okGet_at (by omega) (by omega) m1, okGet_at (by omega) (by omega) m2]
    simp only [Bool.true_and, Bool.and_eq_true, decide_eq_true_eq]
    omega
  · rw [en0, en1, es]
    unfold rightB
    simp only [Bool.and_eq_true, decide_eq_true_eq]
    omega

theorem iter5 (L) (x : List UInt8) (hx : x.length < 1000000000) : ∀ (rest done : List A3) (p g : Nat) (f : Nat → List SV) (n : Nat), x.drop p = catA rest → p ≤ x.length → (∀ a ∈ rest, okA a) → (∀ (j : Nat) (a : A3), done[j]? = some a → f j = rowA a) → done.length + rest.length ≤ 1000 → rest.length < n →
    ∃ g' f', iterD T0 C10 AN5 L c5 k5 [] n (S5b x p g done.length f) = some (.exit 0, S5b x x.length g' (done.length + rest.length) f') ∧ ∀ (j : Nat) (a : A3), (done ++ rest)[j]? = some a → f' j = rowA a
  | [], done, p, g, f, n + 1, hd, hp, _, hf, _, _ => by
    have e : p = x.length := by
      have := congrArg List.length hd
      simp [catA] at this
      omega
    subst e
    refine ⟨g, f, ?_, by simpa using hf⟩
    rw [round5b]
    have d1 : decide (((x.length : Nat) : Int) < ((x.length : Nat) : Int)) = false := by rw [decide_eq_false_iff_not]; omega
    rw [d1, cond_false]
    rfl
  | a :: rest, done, p, g, f, n + 1, hd, hp, hr, hf, hl, hn => by
    have hd' : x.drop p = encA a ++ catA rest := hd
    obtain ⟨b1, b2, b3, b4, b5, b6, b7⟩ := act_at hd' hx (hr a (by simp))
    simp only [List.length_cons] at hl hn
    rw [round5b]
    have d1 : decide ((p : Int) < ((x.length : Nat) : Int)) = true := by rw [decide_eq_true_iff]; omega
    have d2 : decide (((done.length : Nat) : Int) ≥ 1000) = false := by rw [decide_eq_false_iff_not]; omega
    have d3 : Nat.ble ((done.length + 1) * 33) room = true := by unfold room; rw [Nat.ble_eq]; omega
    rw [d1, b1, b6, d2, d3, Nat.beq_refl, b5]
    simp only [cond_true, cond_false, Bool.not_true]
    have hd2 : x.drop (p + (encA a).length) = catA rest := by rw [← List.drop_drop, hd', List.drop_left]
    have hl3 : p + (encA a).length ≤ x.length := by
      have := congrArg List.length hd'
      rw [List.length_drop, List.length_append] at this
      omega
    have e1 : done.length + 1 = (done ++ [a]).length := by simp
    rw [e1]
    obtain ⟨g', f', k1, k2⟩ := iter5 L x hx rest (done ++ [a]) (p + (encA a).length) (g + 1) (catRows done.length 0 f (row5 x p)) n hd2 hl3 (fun b hb => hr b (by simp [hb])) (fun j b hb => by
      unfold catRows
      by_cases hj : j < done.length
      · have : Nat.blt j done.length = true := by rw [Nat.blt_eq]; exact hj
        rw [this, cond_true, Nat.add_zero]
        exact hf j b (by rw [List.getElem?_append_left hj] at hb; exact hb)
      · have : Nat.blt j done.length = false := by rw [Bool.eq_false_iff]; intro q; rw [Nat.blt_eq] at q; exact hj q
        rw [this, cond_false]
        rw [List.getElem?_append_right (by omega)] at hb
        have hz : j - done.length = 0 := by
          rcases Nat.eq_zero_or_pos (j - done.length) with q | q
          · exact q
          · obtain ⟨z, hz⟩ : ∃ z, j - done.length = z + 1 := ⟨j - done.length - 1, by omega⟩
            rw [hz] at hb
            simp at hb
        rw [hz] at hb ⊢
        simp only [List.getElem?_cons_zero, Option.some.injEq] at hb
        subst hb
        show List.take 3 (List.drop (0 * 3) _) = _
        rw [b2, b3, b4]
        rfl) (by simp; omega) (by omega)
    refine ⟨g', f', ?_, by simpa using k2⟩
    rw [k1]
    simp only [List.length_append, List.length_cons, List.length_nil]
    rw [show done.length + (0 + 1) + rest.length = done.length + (rest.length + 1) by omega]
  | _, _, _, _, _, 0, _, _, _, _, _, hn => by omega

theorem decode_run (s : List UInt8) (l : List A3) (hs : okOpen s = true) (hx : s.take (s.length - 3) = catA l) (hl : l.length ≤ 1000) (ho : ∀ a ∈ l, okA a) (hlen : s.length < 1000000000) :
    (l = [] ∧ runP T0 C10 AN5 (LX AN5 C10 k5 1002) Tryz.f5 [.s (.str s)] = some (.ret (.tup [.s .nils, .s (.int .i64 0)]))) ∨
    (l ≠ [] ∧ ∃ f : Nat → List SV, runP T0 C10 AN5 (LX AN5 C10 k5 1002) Tryz.f5 [.s (.str s)] = some (.ret (.tup [.own 3 l.length (fun i => f (i + 0)), .s (.int .i64 0)])) ∧ ∀ (j : Nat) (a : A3), l[j]? = some a → f j = rowA a) := by
  rw [run5, hs, cond_true, hx]
  have hxl : (catA l).length < 1000000000 := by rw [← hx, List.length_take]; omega
  cases l with
  | nil =>
    refine .inl ⟨rfl, ?_⟩
    rw [round5a]
    have d1 : decide ((0 : Int) < (((catA []).length : Nat) : Int)) = false := rfl
    rw [d1, cond_false, tail5a]
  | cons a rest =>
    refine .inr ⟨by simp, ?_⟩
    generalize hX : catA (a :: rest) = x at hxl
    have hd : x.drop 0 = encA a ++ catA rest := by rw [List.drop_zero, ← hX]; rfl
    obtain ⟨b1, b2, b3, b4, b5, b6, b7⟩ := act_at (p := 0) hd hxl (ho a (by simp))
    have hz : ((0 : Nat) : Int) = 0 := rfl
    rw [hz] at b1 b2 b3 b4 b5 b6
    rw [round5a]
    have d1 : decide ((0 : Int) < ((x.length : Nat) : Int)) = true := by rw [decide_eq_true_iff]; omega
    rw [d1, b1, b6, b5]
    simp only [cond_true, cond_false, Bool.not_true]
    have hd2 : x.drop (0 + (encA a).length) = catA rest := by rw [← List.drop_drop, hd, List.drop_left]
    have hl3 : 0 + (encA a).length ≤ x.length := by
      have := congrArg List.length hd
      rw [List.length_drop, List.length_append] at this
      omega
    simp only [List.length_cons] at hl
    obtain ⟨g', f', k1, k2⟩ := iter5 (loopD T0 C10 AN5 (fun _ => k5) (fun _ => []) 1002 0) x hxl rest [a] (0 + (encA a).length) 0 (row5 x 0) 1001 hd2 hl3 (fun b hb => ho b (by simp [hb])) (fun j b hb => by
      cases j with
      | zero =>
        simp only [List.getElem?_cons_zero, Option.some.injEq] at hb
        subst hb
        show List.take 3 (List.drop (0 * 3) _) = _
        rw [b2, b3, b4]
        rfl
      | succ j => simp at hb) (by simp; omega) (by omega)
    refine ⟨f', ?_, by simpa using k2⟩
    have e1 : ([a] : List A3).length = 1 := rfl
    rw [e1] at k1
    rw [k1, tail5b, out5, Nat.add_comm]
    rfl

end Go.Proofs.YtkdbaijabnhniaaGreatDoor

namespace Go.Proofs.YtkdbaijabnhniaaGreatDoor
open Go.Ev
set_option maxRecDepth 100000

/-- acts out of bytes, so many at most -/
def decN : Nat → List UInt8 → List A3
  | 0, _ => []
  | _ + 1, [] => []
  | f + 1, x => match numAt x with
    | some (k, i) => match numAt (x.drop i) with
      | some (n, j) => match numAt (x.drop (i + j)) with
        | some (l, m) => ⟨k, n, (x.drop (i + j + m)).take l⟩ :: decN f (x.drop (i + j + m + l))
        | none => []
      | none => []
    | none => []

theorem decN_cat : ∀ (l : List A3) (f : Nat), (∀ a ∈ l, okA a) → l.length ≤ f → decN f (catA l) = l
  | [], 0, _, _ => rfl
  | [], f + 1, _, _ => rfl
  | a :: l, 0, _, h => by simp at h
  | a :: l, f + 1, ho, h => by
    obtain ⟨h1, h2, h3⟩ := ho a (by simp)
    have ih := decN_cat l f (fun b hb => ho b (by simp [hb])) (by simpa using h)
    have hx : catA (a :: l) = putB (a.k : Int) ++ (putB (a.n : Int) ++ (putB ((a.s.length : Nat) : Int) ++ (a.s ++ catA l))) := by
      show encA a ++ catA l = _
      simp [encA, List.append_assoc]
    have hne := putB_len (a.k : Int)
    have m0 : numAt (catA (a :: l)) = some (a.k, (putB (a.k : Int)).length) := by rw [hx]; exact numAt_putB a.k (by omega) _
    generalize hA : putB (a.k : Int) = A at hx hne m0
    generalize hB : putB (a.n : Int) = B at hx
    generalize hC : putB ((a.s.length : Nat) : Int) = C at hx
    have x1 : (catA (a :: l)).drop A.length = B ++ (C ++ (a.s ++ catA l)) := by rw [hx, List.drop_left]
    have m1 : numAt ((catA (a :: l)).drop A.length) = some (a.n, B.length) := by rw [x1, ← hB]; exact numAt_putB a.n (by omega) _
    have x2 : (catA (a :: l)).drop (A.length + B.length) = C ++ (a.s ++ catA l) := by rw [← List.drop_drop, x1, List.drop_left]
    have m2 : numAt ((catA (a :: l)).drop (A.length + B.length)) = some (a.s.length, C.length) := by rw [x2, ← hC]; exact numAt_putB a.s.length (by omega) _
    have x3 : (catA (a :: l)).drop (A.length + B.length + C.length) = a.s ++ catA l := by rw [← List.drop_drop, x2, List.drop_left]
    have x4 : (catA (a :: l)).drop (A.length + B.length + C.length + a.s.length) = catA l := by rw [← List.drop_drop, x3, List.drop_left]
    have hpos : ∃ b t, catA (a :: l) = b :: t := by
      cases hq : catA (a :: l) with
      | nil => rw [hq] at hx; have := congrArg List.length hx; simp at this; omega
      | cons b t => exact ⟨b, t, rfl⟩
    have step : decN (f + 1) (catA (a :: l)) = (match numAt (catA (a :: l)) with
      | some (k, i) => match numAt ((catA (a :: l)).drop i) with
        | some (n, j) => match numAt ((catA (a :: l)).drop (i + j)) with
          | some (l', m) => ⟨k, n, ((catA (a :: l)).drop (i + j + m)).take l'⟩ :: decN f ((catA (a :: l)).drop (i + j + m + l'))
          | none => []
        | none => []
      | none => []) := by
      obtain ⟨b, t, e⟩ := hpos
      rw [e]
      rfl
    rw [step, m0]
    simp only
    rw [m1]
    simp only
    rw [m2]
    simp only
    rw [x3, x4, ih, List.take_left]

def okAB (a : A3) : Bool := Nat.blt a.k 10 && Nat.ble a.n 4294967296 && Nat.ble a.s.length 10000
theorem okAB_ok {a : A3} : okAB a = true ↔ okA a := by
  unfold okAB okA
  simp only [Bool.and_eq_true, Nat.blt_eq, Nat.ble_eq, and_assoc]
def decL (s : List UInt8) : List A3 := decN 1001 (s.take (s.length - 3))
def okDec (s : List UInt8) : Bool := okOpen s && Nat.blt s.length 1000000000 && (catA (decL s) == s.take (s.length - 3)) && (decL s).all okAB && Nat.ble (decL s).length 1000
def rowsA (l : List A3) (i : Nat) : List SV := rowA (l.getD i ⟨0, 0, []⟩)
def isNil (l : List A3) : Bool := match l with
  | [] => true
  | _ => false

def decodeP : List AV → PR
  | [.s (.str s)] => .br (okDec s) (.br (isNil (decL s)) (.ret (.tup [.s .nils, .s (.int .i64 0)])) (.ret (.tup [.own 3 (decL s).length (rowsA (decL s)), .s (.int .i64 0)]))) .fail
  | _ => .fail

/-- own rows, told otherwise -/
theorem own_ext {f : FuncId} {args : List AV} {sz n : Nat} {g g' : Nat → List SV} {v : AV} (h : SoundP Tryz.prog G0 f args (.ret (.tup [.own sz n g, v]))) (e : ∀ i, i < n → g i = g' i) : SoundP Tryz.prog G0 f args (.ret (.tup [.own sz n g', v])) := by
  intro l hl M w xs hG hF hv
  simp only [PR.val, Option.some.injEq] at hl
  subst hl
  intro o a K Q hK hQ
  have fix : ∀ M' O' y, VA (envP M' O') (.tup [.own sz n g, v]) y → VA (envP M' O') (.tup [.own sz n g', v]) y := fun M' O' y hy => by
    simp only [VA, VAs] at hy ⊢
    obtain ⟨ys, rfl, y1, r, rfl, ⟨b, o, cap, m, k1, k2, k3, k4, k5⟩, hr⟩ := hy
    exact ⟨_, rfl, y1, r, rfl, ⟨b, o, cap, m, k1, k2, k3, k4, fun i hi => by rw [← e i hi]; exact k5 i hi⟩, hr⟩
  refine h _ rfl M w xs hG hF hv o a K Q (fun y v2 hy => hK y v2 ?_) (fun ch v2 hy => hQ ch v2 ?_)
  · obtain ⟨M', O', z, k1, k2, k3⟩ := hy
    exact ⟨M', O', z, k1, k2, fix _ _ _ k3⟩
  · obtain ⟨M', O', z, k1, k2, k3⟩ := hy
    exact ⟨M', O', z, k1, k2, fix _ _ _ k3⟩

theorem decodeP_ok (args : List AV) : SoundP Tryz.prog G0 5 args (decodeP args) := by
  unfold decodeP
  split
  · rename_i s
    refine brP fun hc => ?_
    simp only [okDec, Bool.and_eq_true, Nat.blt_eq, Nat.ble_eq, beq_iff_eq, List.all_eq_true] at hc
    obtain ⟨⟨⟨⟨h1, h2⟩, h3⟩, h4⟩, h5⟩ := hc
    rcases decode_run s (decL s) h1 h3.symm h5 (fun a ha => okAB_ok.1 (h4 a ha)) h2 with ⟨e, r⟩ | ⟨e, f, r, hf⟩
    · have := sp' C10_ok rfl Tryz.func5 (by kernel_rfl) k5 1002 r
      rw [e]
      exact this
    · have := sp' C10_ok rfl Tryz.func5 (by kernel_rfl) k5 1002 r
      have e2 : isNil (decL s) = false := by
        cases hd : decL s with
        | nil => exact absurd hd e
        | cons a l => rfl
      rw [e2]
      have h6 := own_ext (g' := rowsA (decL s)) this (fun i hi => by
        rw [Nat.add_zero, hf i (decL s)[i] (List.getElem?_eq_getElem hi)]
        unfold rowsA
        simp [List.getD_eq_getElem?_getD, hi])
      intro l hl
      exact h6 l hl
  · exact failP

theorem okDec_seal (l : List A3) (hl : l.length ≤ 1000) (ho : ∀ a ∈ l, okA a) (hlen : (catA l).length < 900000000) : okDec (sealB (catA l)) = true ∧ decL (sealB (catA l)) = l := by
  have e1 : (sealB (catA l)).length = (catA l).length + 3 := by unfold sealB tail3; simp
  have e2 : (sealB (catA l)).take ((sealB (catA l)).length - 3) = catA l := by
    rw [e1]
    unfold sealB
    rw [Nat.add_sub_cancel, List.take_left]
  have e3 : decL (sealB (catA l)) = l := by unfold decL; rw [e2]; exact decN_cat l 1001 ho (by omega)
  refine ⟨?_, e3⟩
  unfold okDec okOpen
  rw [e3, e2]
  simp only [Bool.and_eq_true, Nat.ble_eq, Nat.blt_eq, beq_self_eq_true, List.all_eq_true, and_true]
  refine ⟨⟨⟨⟨by omega, by omega⟩, by omega⟩, fun a ha => okAB_ok.2 (ho a ha)⟩, hl⟩

end Go.Proofs.YtkdbaijabnhniaaGreatDoor
