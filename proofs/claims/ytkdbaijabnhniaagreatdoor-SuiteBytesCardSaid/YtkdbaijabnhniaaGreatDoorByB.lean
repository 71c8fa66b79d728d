/- Any acts as bytes: the program's Encode. -/
import Derived.Test.YtkdbaijabnhniaaGreatDoorByA
namespace Go.Proofs.YtkdbaijabnhniaaGreatDoor
open Go.Ev
set_option maxRecDepth 100000

def tyB (r : List SV) : Bool := match r with
  | [.int .i64 _, .int .u64 n, .str _] => decide (0 ≤ n)
  | _ => false
def okT (f : Nat → List SV) (k : Nat) : Bool := Nat.ble k 1000 && (List.range k).all fun i => tyB (f i)
def allG (f : Nat → List SV) (k : Nat) : Bool := (List.range k).all fun i => goodB (f i)
def encG (f : Nat → List SV) (k : Nat) : List UInt8 := cond (allG f k) (encF f k) []

theorem rw7_at (f : Nat → List SV) (i : Nat) : rw7 f (i : Int) = f i := by
  unfold rw7
  rw [List.drop_zero, Int.toNat_natCast, Nat.add_zero]

/-- a row of these types that is not good -/
theorem bad_right {f : Nat → List SV} {i : Nat} (ht : tyB (f i) = true) (hg : goodB (f i) = false) : shOk z3 0 (rw7 f (i : Int)) = true ∧ rightB (kf f (i : Int)) (nF f (i : Int)) (sf f (i : Int)) = false := by
  unfold kf nF sf
  rw [rw7_at]
  generalize f i = r at ht hg
  unfold tyB at ht
  split at ht
  · rename_i a n s
    rw [decide_eq_true_eq] at ht
    refine ⟨rfl, ?_⟩
    have hg' : (decide (0 ≤ a) && decide (a < 10) && decide (0 ≤ n) && decide (n ≤ 4294967296) && Nat.ble s.length 10000) = false := hg
    show (decide (a ≥ 0) && (decide (a < 10) && (decide (n ≤ 4294967296) && decide (((s.length : Nat) : Int) ≤ 10000)))) = false
    rw [Bool.eq_false_iff] at hg' ⊢
    intro q
    apply hg'
    simp only [Bool.and_eq_true, decide_eq_true_eq, Nat.ble_eq] at q ⊢
    omega
  · cases ht

theorem first_bad (p : Nat → Bool) : ∀ k, (List.range k).all p = false → ∃ i, i < k ∧ p i = false ∧ ∀ j, j < i → p j = true
  | 0, h => by simp at h
  | k + 1, h => by
    cases h' : (List.range k).all p
    · obtain ⟨i, h1, h2, h3⟩ := first_bad p k h'
      exact ⟨i, by omega, h2, h3⟩
    · rw [List.range_succ, List.all_append, h'] at h
      have h2 : p k = false := by simpa using h
      exact ⟨k, by omega, h2, fun j hj => List.all_eq_true.1 h' j (List.mem_range.2 hj)⟩

def tailF (f : Nat → List SV) (d k : Nat) : List A3 := (List.range k).map fun i => toA (f (d + i))
theorem tailF_len (f : Nat → List SV) (d k : Nat) : (tailF f d k).length = k := by simp [tailF]
theorem tailF_ok {f : Nat → List SV} {d k : Nat} (h : ∀ j, j < k → goodB (f (d + j)) = true) : ∀ (j : Nat) (a : A3), (tailF f d k)[j]? = some a → f (d + j) = rowA a ∧ okA a := fun j a hj => by
  simp only [tailF, List.getElem?_map, Option.map_eq_some_iff] at hj
  obtain ⟨i, hi, rfl⟩ := hj
  obtain ⟨hlt, rfl⟩ := List.getElem?_eq_some_iff.1 hi
  simp only [List.length_range] at hlt
  rw [List.getElem_range]
  exact goodB_ok (h j hlt)
theorem listF_tail (f : Nat → List SV) (k : Nat) : listF f k = tailF f 0 k := by
  unfold listF tailF
  simp
theorem listF_ok {f : Nat → List SV} {k : Nat} (h : allG f k = true) : ∀ (j : Nat) (a : A3), (listF f k)[j]? = some a → f j = rowA a ∧ okA a := fun j a hj => by
  rw [listF_tail] at hj
  have := tailF_ok (f := f) (d := 0) (k := k) (fun j hj => by rw [Nat.zero_add]; exact List.all_eq_true.1 h j (List.mem_range.2 hj)) j a hj
  rw [Nat.zero_add] at this
  exact this

theorem cat_len : ∀ l : List A3, (∀ (j : Nat) (a : A3), l[j]? = some a → okA a) → (catA l).length ≤ 10018 * l.length := by
  intro l
  induction l with
  | nil => intro _; simp [catA]
  | cons a l ih =>
    intro hh
    have q1 := encA_len a (hh 0 a rfl)
    have q2 := ih fun j b hb => hh (j + 1) b (by simpa using hb)
    have : catA (a :: l) = encA a ++ catA l := rfl
    rw [this, List.length_append, List.length_cons]
    omega

/-! ## Acts in the heap -/

theorem ret7a (L) (k : Nat) (f : Nat → List SV) (ty : Option TypeId) (i : Int) : goLT (blockK 0 (thenK T0 C9 AN7 L (subC [1, 1, 1, 1, 1] B7) K7)) (ltOf (some (.ret, S7a k f ty i))) = some (.ret (.s (.str [])) [in7 k f ty]) := by kernel_rfl
theorem ret7b (L) (k : Nat) (f : Nat → List SV) (ty : Option TypeId) (h m : Nat) (fb : Nat → List SV) (i : Int) : goLT (blockK 0 (thenK T0 C9 AN7 L (subC [1, 1, 1, 1, 1] B7) K7)) (ltOf (some (.ret, S7b k f ty h m fb i))) = some (.ret (.s (.str [])) [in7 k f ty]) := by kernel_rfl

theorem steps7b (L) (k : Nat) (f : Nat → List SV) (ty : Option TypeId) (hk : k ≤ 1000) : ∀ (rest : List A3) (h : Nat) (c : List UInt8) (i n : Nat), (∀ (j : Nat) (a : A3), rest[j]? = some a → f (i + j) = rowA a ∧ okA a) → i + rest.length ≤ k → c.length + 10018 * rest.length < 900000000 →
    ∃ h', iterD T0 C9 AN7 L c7 k7 [] (n + rest.length) (S7b k f ty h c.length (byteRow c) i) = iterD T0 C9 AN7 L c7 k7 [] n (S7b k f ty h' (c ++ catA rest).length (byteRow (c ++ catA rest)) ((i + rest.length : Nat) : Int))
  | [], h, c, i, n, _, _, _ => ⟨h, by simp [catA]⟩
  | a :: rest, h, c, i, n, hr, hi, hl => by
    obtain ⟨r1, r2⟩ := hr 0 a rfl
    have hl2 := encA_len a r2
    simp only [List.length_cons] at hi hl
    obtain ⟨h', e⟩ := steps7b L k f ty hk rest (1 + (1 + (1 + (1 + h)))) (c ++ encA a) (i + 1) n (fun j b hb => by
      have := hr (j + 1) b (by simpa using hb)
      rw [show i + 1 + j = i + (j + 1) by omega]
      exact this) (by omega) (by rw [List.length_append]; omega)
    refine ⟨h', ?_⟩
    rw [List.length_cons, ← Nat.add_assoc, step7b L k f ty h c i _ a (by omega) hk r1 r2 (by omega), e]
    have e1 : c ++ encA a ++ catA rest = c ++ catA (a :: rest) := by simp [catA, List.append_assoc]
    have e2 : i + 1 + rest.length = i + (rest.length + 1) := by omega
    rw [e1, e2]

theorem bad7a (L) (k : Nat) (f : Nat → List SV) (ty : Option TypeId) (n : Nat) (hi : 0 < k) (hb : shOk z3 0 (rw7 f ((0 : Nat) : Int)) = true ∧ rightB (kf f ((0 : Nat) : Int)) (nF f ((0 : Nat) : Int)) (sf f ((0 : Nat) : Int)) = false) :
    iterD T0 C9 AN7 L c7 k7 [] (n + 1) (S7a k f ty ((0 : Nat) : Int)) = some (.ret, S7a k f ty ((0 : Nat) : Int)) := by
  rw [round7a]
  have d1 : decide (((0 : Nat) : Int) < ((k : Nat) : Int)) = true := by rw [decide_eq_true_iff]; omega
  have d2 : goN k ((0 : Nat) : Int) = true := by unfold goN; simp only [Bool.and_eq_true, decide_eq_true_eq]; omega
  have d3 : (true && Nat.blt (((0 : Nat) : Int).toNat + 0) k) = true := by rw [Bool.true_and, Nat.blt_eq]; omega
  rw [d1, d2, d3, hb.1, hb.2]
  rfl
theorem bad7b (L) (k : Nat) (f : Nat → List SV) (ty : Option TypeId) (h m : Nat) (fb : Nat → List SV) (i n : Nat) (hi : i < k) (hb : shOk z3 0 (rw7 f (i : Int)) = true ∧ rightB (kf f (i : Int)) (nF f (i : Int)) (sf f (i : Int)) = false) :
    iterD T0 C9 AN7 L c7 k7 [] (n + 1) (S7b k f ty h m fb (i : Int)) = some (.ret, S7b k f ty h m fb (i : Int)) := by
  rw [round7b]
  have d1 : decide ((i : Int) < ((k : Nat) : Int)) = true := by rw [decide_eq_true_iff]; omega
  have d2 : goN k (i : Int) = true := by unfold goN; simp only [Bool.and_eq_true, decide_eq_true_eq]; omega
  have d3 : (true && Nat.blt ((i : Int).toNat + 0) k) = true := by rw [Bool.true_and, Nat.blt_eq]; omega
  rw [d1, d2, d3, hb.1, hb.2]
  rfl

theorem okT_at {f : Nat → List SV} {k : Nat} (h : okT f k = true) : k ≤ 1000 ∧ ∀ i, i < k → tyB (f i) = true := by
  unfold okT at h
  simp only [Bool.and_eq_true, Nat.ble_eq, List.all_eq_true, List.mem_range] at h
  exact h

theorem encG_run7 (k : Nat) (f : Nat → List SV) (ty : Option TypeId) (ht : okT f k = true) :
    runI T0 C9 AN7 (LX AN7 C9 k7 (k + 1)) Tryz.f7 [.sl 0 0 3 0 k] [in7 k f ty] = some (.ret (.s (.str (encG f k))) [in7 k f ty]) := by
  obtain ⟨hk, ht⟩ := okT_at ht
  unfold encG
  cases hg : allG f k
  · obtain ⟨i, h1, h2, h3⟩ := first_bad _ k hg
    rw [cond_false, run7]
    have d1 : decide (((k : Nat) : Int) > 1000) = false := by rw [decide_eq_false_iff_not]; omega
    rw [d1, cond_false]
    have hb := bad_right (ht i h1) h2
    cases i with
    | zero =>
      rw [show (0 : Int) = ((0 : Nat) : Int) from rfl, bad7a _ k f ty k h1 hb]
      exact ret7a _ k f ty _
    | succ j =>
      have g0 := goodB_ok (h3 0 (by omega))
      rw [step7a _ k f ty k (toA (f 0)) (by omega) hk g0.1 g0.2]
      have q1 := encA_len _ g0.2
      obtain ⟨h', e⟩ := steps7b (loopD T0 C9 AN7 (fun _ => k7) (fun _ => []) (k + 1) 0) k f ty hk (tailF f 1 j) 3 (encA (toA (f 0))) 1 (k - j) (tailF_ok fun x hx => h3 (1 + x) (by omega)) (by rw [tailF_len]; omega) (by rw [tailF_len]; omega)
      rw [tailF_len, Nat.sub_add_cancel (by omega)] at e
      have e1 : k - j = (k - j - 1) + 1 := by omega
      rw [e, e1, show 1 + j = j + 1 by omega, bad7b _ k f ty _ _ _ (j + 1) _ h1 hb]
      exact ret7b _ k f ty _ _ _ _
  · rw [cond_true]
    exact encode_run k f ty (listF f k) hk (by simp [listF]) (listF_ok hg)

def encGI (args : List AV) (hs : List HO) : IR := match args, hs with
  | [.sl 0 g 3 0 k], [⟨g', .rows 3 k' f, ty⟩] => .br (Nat.beq g g' && Nat.beq k k' && okT f k) (.ret (.s (.str (encG f k))) [⟨g', .rows 3 k' f, ty⟩]) .fail
  | _, _ => .fail

theorem encGI_of {F : FuncId} (h : ∀ (k : Nat) (f : Nat → List SV) (ty : Option TypeId), okT f k = true → SoundI Tryz.prog G0 F [.sl 0 0 3 0 k] [in7 k f ty] (.ret (.s (.str (encG f k))) [in7 k f ty])) (args : List AV) (hs : List HO) : SoundI Tryz.prog G0 F args hs (encGI args hs) := by
  unfold encGI
  split
  · rename_i g k g' k' f ty
    refine brI fun hc => ?_
    simp only [Bool.and_eq_true] at hc
    obtain ⟨⟨h1, h2⟩, h3⟩ := hc
    have e1 := Nat.eq_of_beq_eq_true h1
    have e2 := Nat.eq_of_beq_eq_true h2
    subst e1 e2
    have := (h k f ty h3).sh (fun i => cond (Nat.beq i 0) g 0) rfl rfl
    have a1 : shL (fun i => cond (Nat.beq i 0) g 0) 0 [in7 k f ty] = [⟨g, .rows 3 k f, ty⟩] := by
      show [_] = [_]
      simp [HO.sh, in7]
    have a2 : [AV.sl 0 0 3 0 k].map (AV.sh1 fun i => cond (Nat.beq i 0) g 0) = [AV.sl 0 g 3 0 k] := by
      simp [AV.sh1, AV.sh0]
    rw [a1, a2] at this
    exact this
  · exact failI

theorem encGI_ok : ∀ (args : List AV) (hs : List HO), SoundI Tryz.prog G0 7 args hs (encGI args hs) :=
  encGI_of fun k f ty h => si' C9_ok rfl Tryz.func7 (by kernel_rfl) k7 (k + 1) (encG_run7 k f ty h)

end Go.Proofs.YtkdbaijabnhniaaGreatDoor

namespace Go.Proofs.YtkdbaijabnhniaaGreatDoor
open Go.Ev
set_option maxRecDepth 100000

theorem vs_ext {F : FuncId} {sz n : Nat} {g g' : Nat → List SV} {r : PR} (h : SoundP Tryz.prog G0 F [.s (.vs sz n g')] r) (e : ∀ i, i < n → g i = g' i) : SoundP Tryz.prog G0 F [.s (.vs sz n g)] r := by
  intro l hl M w xs hG hF hv
  refine h l hl M w xs hG hF ?_
  simp only [VAs, VA, VS] at hv ⊢
  obtain ⟨y, rs, rfl, ⟨b, o, cap, m, k1, k2, k3, k4⟩, hr⟩ := hv
  exact ⟨y, rs, rfl, ⟨b, o, cap, m, k1, k2, k3, fun i hi => by rw [← e i hi]; exact k4 i hi⟩, hr⟩

/-- acts of which nothing is known -/
structure R3 where
  ki : Nat → Int
  ni : Nat → Int
  si : Nat → List UInt8
def rowsR (l : R3) (i : Nat) : List SV := [.int .i64 (l.ki i), .int .u64 (l.ni i), .str (l.si i)]
def uK (l : R3) (i : Int) : Int := l.ki i.toNat
def uN (l : R3) (i : Int) : Int := l.ni i.toNat
def uS (l : R3) (i : Int) : List UInt8 := l.si i.toNat
def uL (l : R3) (i : Int) : Int := IntKind.u64.wrap (((uS l i).length : Nat) : Int)
def u0 (l : R3) (i : Int) : List UInt8 := putB (IntKind.u64.wrap (uK l i))
def u1 (l : R3) (i : Int) : List UInt8 := putB (uN l i)
def u2 (l : R3) (i : Int) : List UInt8 := putB (uL l i)

def tl7 (k : Nat) (l : R3) (i : Int) : List (Nat × AV) := [(2, .s (.str [])), (3, .ptr 3 0 0), (4, .clo 14 [] [.ptr 3 0 0]), (11, .s (.vs 3 k (rowsR l))), (12, .s (.int .i64 ((k : Nat) : Int))), (13, .s (.int .i64 i))]
def T7a (k : Nat) (l : R3) (i : Int) : St := St.mk (lookA (tl7 k l i)) (lookB []) [(3, ⟨0, .cells [.s .nilp, .s .nils], some 47⟩)] 0 42 41
def T7b (k : Nat) (l : R3) (h m : Nat) (fb : Nat → List SV) (i : Int) : St := St.mk (lookA (tl7 k l i)) (lookB []) [(3, ⟨0, .cells [.ptr 3 0 0, .sl 42 h 1 0 m], some 47⟩), (42, ⟨h, .rows 1 m fb, some 5⟩)] 0 43 41

theorem roundP7b (L) (k : Nat) (l : R3) (h m : Nat) (fb : Nat → List SV) (i : Int) (c : Nat) : iterD T0 C9 AN7 L c7 k7 [] (c + 1) (T7b k l h m fb i) =
    cond (decide (i < ((k : Nat) : Int))) (cond (goN k i) (cond (!(rightB (uK l i) (uN l i) (uS l i))) (some (.ret, T7b k l h m fb i))
      (cond (W h m (IntKind.u64.wrap (uK l i))) (cond (W (1 + h) (m + (u0 l i).length) (uN l i)) (cond (W (1 + (1 + h)) (m + (u0 l i).length + (u1 l i).length) (uL l i)) (cond (W3 (1 + (1 + (1 + h))) (m + (u0 l i).length + (u1 l i).length + (u2 l i).length) (uS l i))
        (iterD T0 C9 AN7 L c7 k7 [] c (T7b k l (1 + (1 + (1 + (1 + h)))) (m + (u0 l i).length + (u1 l i).length + (u2 l i).length + (uS l i).length)
          (catRows (m + (u0 l i).length + (u1 l i).length + (u2 l i).length) 0 (catRows (m + (u0 l i).length + (u1 l i).length) 0 (catRows (m + (u0 l i).length) 0 (catRows m 0 fb (byteRow (u0 l i))) (byteRow (u1 l i))) (byteRow (u2 l i))) (byteRow (uS l i))) (IntKind.i64.wrap (i + 1))))
        none) none) none) none)) none) (some (.exit 0, T7b k l h m fb i)) := by kernel_rfl

theorem roundP7a (L) (k : Nat) (l : R3) (i : Int) (c : Nat) : iterD T0 C9 AN7 L c7 k7 [] (c + 1) (T7a k l i) =
    cond (decide (i < ((k : Nat) : Int))) (cond (goN k i) (cond (!(rightB (uK l i) (uN l i) (uS l i))) (some (.ret, T7a k l i))
      (cond (okN (IntKind.u64.wrap (uK l i)) && (!(Nat.beq (u0 l i).length 0) && Nat.ble ((u0 l i).length * 2) room)) (cond (W 0 (u0 l i).length (uN l i)) (cond (W 1 ((u0 l i).length + (u1 l i).length) (uL l i)) (cond (W3 2 ((u0 l i).length + (u1 l i).length + (u2 l i).length) (uS l i))
        (iterD T0 C9 AN7 L c7 k7 [] c (T7b k l 3 ((u0 l i).length + (u1 l i).length + (u2 l i).length + (uS l i).length)
          (catRows ((u0 l i).length + (u1 l i).length + (u2 l i).length) 0 (catRows ((u0 l i).length + (u1 l i).length) 0 (catRows (u0 l i).length 0 (byteRow (u0 l i)) (byteRow (u1 l i))) (byteRow (u2 l i))) (byteRow (uS l i))) (IntKind.i64.wrap (i + 1))))
        none) none) none) none)) none) (some (.exit 0, T7a k l i)) := by kernel_rfl

noncomputable def KP7 : Ex → St → Option PR := finP T0 AN7 Tryz.f7.results.toList
theorem runP7 (k : Nat) (l : R3) : runP T0 C9 AN7 (LX AN7 C9 k7 (k + 1)) Tryz.f7 [.s (.vs 3 k (rowsR l))] =
    cond (decide (((k : Nat) : Int) > 1000)) (some (.ret (.s (.str []))))
      (goLT (blockK 0 (thenK T0 C9 AN7 (LX AN7 C9 k7 (k + 1)) (subC [1, 1, 1, 1, 1] B7) KP7)) (ltOf (iterD T0 C9 AN7 (loopD T0 C9 AN7 (fun _ => k7) (fun _ => []) (k + 1) 0) c7 k7 [] (k + 1) (T7a k l 0)))) := by kernel_rfl
theorem runP7n : runP T0 C9 AN7 (LX AN7 C9 k7 1) Tryz.f7 [.s .nils] = some (.ret (.s (.str (sealB [])))) := by kernel_rfl
theorem tailP7b (L) (k : Nat) (l : R3) (h m : Nat) (fb : Nat → List SV) (i : Int) : goLT (blockK 0 (thenK T0 C9 AN7 L (subC [1, 1, 1, 1, 1] B7) KP7)) (ltOf (some (.exit 0, T7b k l h m fb i))) =
    cond (Nat.beq h h && Nat.beq m m && (!(Nat.beq m 0) && okStr fb m)) (cond (Nat.blt (bytesOf fb m).length 1000000000000) (some (.ret (.s (.str (sealB (bytesOf fb m)))))) none) none := by kernel_rfl
theorem tailP7a (L) (k : Nat) (l : R3) (i : Int) : goLT (blockK 0 (thenK T0 C9 AN7 L (subC [1, 1, 1, 1, 1] B7) KP7)) (ltOf (some (.exit 0, T7a k l i))) = some (.ret (.s (.str (sealB [])))) := by kernel_rfl

theorem good_at {l : R3} {i : Nat} {a : A3} (h : rowsR l i = rowA a) (ha : okA a) : IntKind.u64.wrap (uK l (i : Int)) = (a.k : Int) ∧ uN l (i : Int) = (a.n : Int) ∧ uS l (i : Int) = a.s ∧ uL l (i : Int) = ((a.s.length : Nat) : Int) ∧ rightB (uK l (i : Int)) (uN l (i : Int)) (uS l (i : Int)) = true := by
  obtain ⟨h1, h2, h3⟩ := ha
  simp only [rowsR, rowA, List.cons.injEq, SV.int.injEq, SV.str.injEq, true_and, and_true] at h
  obtain ⟨e1, e2, e3⟩ := h
  unfold uL uK uN uS
  rw [Int.toNat_natCast, e1, e2, e3]
  refine ⟨IntWalk.u64_in _ (by omega), rfl, rfl, IntWalk.u64_in _ (by omega), ?_⟩
  unfold rightB
  simp only [Bool.and_eq_true, decide_eq_true_eq]
  omega

theorem stepP7b (L) (k : Nat) (l : R3) (h : Nat) (c : List UInt8) (i n : Nat) (a : A3) (hi : i < k) (hk : k ≤ 1000) (hf : rowsR l i = rowA a) (ha : okA a) (hc : c.length < 900000000) :
    iterD T0 C9 AN7 L c7 k7 [] (n + 1) (T7b k l h c.length (byteRow c) i) = iterD T0 C9 AN7 L c7 k7 [] n (T7b k l (1 + (1 + (1 + (1 + h)))) (c ++ encA a).length (byteRow (c ++ encA a)) ((i + 1 : Nat) : Int)) := by
  obtain ⟨g2, g3, g4, g5, g6⟩ := good_at hf ha
  obtain ⟨h1, h2, h3⟩ := ha
  have a1 := putB_len (a.k : Int)
  have a2 := putB_len (a.n : Int)
  have a3 := putB_len ((a.s.length : Nat) : Int)
  rw [roundP7b]
  have d1 : decide ((i : Int) < ((k : Nat) : Int)) = true := by rw [decide_eq_true_iff]; omega
  have d2 : goN k (i : Int) = true := by unfold goN; simp only [Bool.and_eq_true, decide_eq_true_eq]; omega
  rw [d1, d2, g6]
  simp only [cond_true, cond_false, Bool.not_true]
  have eq0 : u0 l (i : Int) = putB (a.k : Int) := by unfold u0; rw [g2]
  have eq1 : u1 l (i : Int) = putB (a.n : Int) := by unfold u1; rw [g3]
  have eq2 : u2 l (i : Int) = putB ((a.s.length : Nat) : Int) := by unfold u2; rw [g5]
  rw [eq0, eq1, eq2, g2, g3, g4, g5, W_ok _ _ _ (by omega) (by omega), W_ok _ _ _ (by omega) (by omega), W_ok _ _ _ (by omega) (by omega), W3_ok _ _ _ h3 (by omega)]
  simp only [cond_true]
  rw [cat_byte]
  rw [← List.length_append, cat_byte, ← List.length_append, cat_byte, ← List.length_append, cat_byte, ← List.length_append]
  have e1 : (i : Int) + 1 = ((i + 1 : Nat) : Int) := by omega
  rw [e1, wrap64 _ (by omega)]
  unfold encA
  simp only [List.append_assoc]

theorem stepP7a (L) (k : Nat) (l : R3) (n : Nat) (a : A3) (hi : 0 < k) (hk : k ≤ 1000) (hf : rowsR l 0 = rowA a) (ha : okA a) :
    iterD T0 C9 AN7 L c7 k7 [] (n + 1) (T7a k l 0) = iterD T0 C9 AN7 L c7 k7 [] n (T7b k l 3 (encA a).length (byteRow (encA a)) ((1 : Nat) : Int)) := by
  obtain ⟨g2, g3, g4, g5, g6⟩ := good_at hf ha
  obtain ⟨h1, h2, h3⟩ := ha
  have a1 := putB_len (a.k : Int)
  have a2 := putB_len (a.n : Int)
  have a3 := putB_len ((a.s.length : Nat) : Int)
  have hz : (0 : Int) = ((0 : Nat) : Int) := rfl
  rw [hz, roundP7a]
  have d1 : decide (((0 : Nat) : Int) < ((k : Nat) : Int)) = true := by rw [decide_eq_true_iff]; omega
  have d2 : goN k ((0 : Nat) : Int) = true := by unfold goN; simp only [Bool.and_eq_true, decide_eq_true_eq]; omega
  rw [d1, d2, g6]
  simp only [cond_true, cond_false, Bool.not_true]
  have eq0 : u0 l ((0 : Nat) : Int) = putB (a.k : Int) := by unfold u0; rw [g2]
  have eq1 : u1 l ((0 : Nat) : Int) = putB (a.n : Int) := by unfold u1; rw [g3]
  have eq2 : u2 l ((0 : Nat) : Int) = putB ((a.s.length : Nat) : Int) := by unfold u2; rw [g5]
  have w0 : (okN (a.k : Int) && (!(Nat.beq (putB (a.k : Int)).length 0) && Nat.ble ((putB (a.k : Int)).length * 2) room)) = true := by
    unfold okN room
    simp only [Bool.and_eq_true, decide_eq_true_eq, Bool.not_eq_true', Nat.ble_eq]
    refine ⟨by omega, ?_, by omega⟩
    rw [Bool.eq_false_iff]
    intro q
    have := Nat.eq_of_beq_eq_true q
    omega
  rw [eq0, eq1, eq2, g2, g3, g4, g5, w0, W_ok _ _ _ (by omega) (by omega), W_ok _ _ _ (by omega) (by omega), W3_ok _ _ _ h3 (by omega)]
  simp only [cond_true]
  rw [cat_byte, ← List.length_append, cat_byte, ← List.length_append, cat_byte, ← List.length_append]
  have e1 : ((0 : Nat) : Int) + 1 = ((1 : Nat) : Int) := rfl
  rw [e1, wrap64 _ (by omega)]
  unfold encA
  simp only [List.append_assoc]

theorem iterP7 (L) (k : Nat) (l : R3) (hk : k ≤ 1000) : ∀ (rest : List A3) (h : Nat) (c : List UInt8) (i n : Nat), (∀ (j : Nat) (a : A3), rest[j]? = some a → rowsR l (i + j) = rowA a ∧ okA a) → i + rest.length = k → rest.length < n →
    c.length + 10018 * rest.length < 900000000 →
    ∃ h', iterD T0 C9 AN7 L c7 k7 [] n (T7b k l h c.length (byteRow c) i) = some (.exit 0, T7b k l h' (c ++ catA rest).length (byteRow (c ++ catA rest)) k)
  | [], h, c, i, n + 1, _, hi, _, _ => by
    refine ⟨h, ?_⟩
    rw [roundP7b]
    simp only [List.length_nil, Nat.add_zero] at hi
    subst hi
    have d1 : decide ((i : Int) < ((i : Nat) : Int)) = false := by rw [decide_eq_false_iff_not]; omega
    rw [d1, cond_false]
    simp [catA]
  | a :: rest, h, c, i, n + 1, hr, hi, hn, hl => by
    obtain ⟨r1, r2⟩ := hr 0 a rfl
    have hl2 := encA_len a r2
    simp only [List.length_cons] at hi hn hl
    rw [stepP7b L k l h c i n a (by omega) hk r1 r2 (by omega)]
    obtain ⟨h', e⟩ := iterP7 L k l hk rest (1 + (1 + (1 + (1 + h)))) (c ++ encA a) (i + 1) n (fun j b hb => by
      have := hr (j + 1) b (by simpa using hb)
      rw [show i + 1 + j = i + (j + 1) by omega]
      exact this) (by omega) (by omega) (by rw [List.length_append]; omega)
    refine ⟨h', e.trans ?_⟩
    simp [catA, List.append_assoc]
  | _, _, _, _, 0, _, _, hn, _ => by omega

theorem encode_runP (l : R3) (la : List A3) (hk : la.length ≤ 1000) (hf : ∀ (j : Nat) (a : A3), la[j]? = some a → rowsR l j = rowA a ∧ okA a) :
    runP T0 C9 AN7 (LX AN7 C9 k7 (la.length + 1)) Tryz.f7 [.s (.vs 3 la.length (rowsR l))] = some (.ret (.s (.str (sealB (catA la))))) := by
  rw [runP7]
  have d1 : decide (((la.length : Nat) : Int) > 1000) = false := by rw [decide_eq_false_iff_not]; omega
  rw [d1, cond_false]
  cases la with
  | nil =>
    rw [roundP7a]
    have d2 : decide ((0 : Int) < ((([] : List A3).length : Nat) : Int)) = false := rfl
    rw [d2, cond_false, tailP7a]
    rfl
  | cons a rest =>
    obtain ⟨r1, r2⟩ := hf 0 a rfl
    simp only [List.length_cons] at hk
    rw [stepP7a _ (a :: rest).length l (a :: rest).length a (by simp) (by simp; omega) r1 r2]
    have hl2 := encA_len a r2
    obtain ⟨h', e⟩ := iterP7 (loopD T0 C9 AN7 (fun _ => k7) (fun _ => []) ((a :: rest).length + 1) 0) (a :: rest).length l (by simp; omega) rest 3 (encA a) 1 (a :: rest).length (fun j b hb => by
      have q : (a :: rest)[j + 1]? = some b := by simpa using hb
      rw [show 1 + j = j + 1 by omega]
      exact hf _ _ q) (by simp; omega) (by simp) (by omega)
    rw [e, tailP7b]
    have e2 : encA a ++ catA rest = catA (a :: rest) := rfl
    rw [e2]
    have hpos : 0 < (catA (a :: rest)).length := by rw [← e2, List.length_append]; omega
    have hm := cat_len (a :: rest) fun j b hb => (hf j b hb).2
    simp only [List.length_cons] at hm
    generalize catA (a :: rest) = c at hpos hm
    have d3 : (Nat.beq h' h' && Nat.beq c.length c.length && (!(Nat.beq c.length 0) && okStr (byteRow c) c.length)) = true := by
      unfold okStr
      rw [all_byte]
      simp only [Bool.and_eq_true, Nat.beq_refl, Bool.not_eq_true', decide_eq_true_eq, Nat.ble_eq, true_and, and_true, Int.toNat_natCast]
      refine ⟨?_, by omega⟩
      rw [Bool.eq_false_iff]
      intro q
      have := Nat.eq_of_beq_eq_true q
      omega
    have d4 : Nat.blt c.length 1000000000000 = true := by rw [Nat.blt_eq]; omega
    rw [bytes_byte, d3, d4]
    rfl

def encP7 : List AV → PR
  | [.s .nils] => .ret (.s (.str (sealB [])))
  | [.s (.vs 3 k f)] => .br (okF f k) (.ret (.s (.str (encF f k)))) .fail
  | _ => .fail
theorem encP7_ok (args : List AV) : SoundP Tryz.prog G0 7 args (encP7 args) := by
  unfold encP7
  split
  · exact sp' C9_ok rfl Tryz.func7 (by kernel_rfl) k7 1 runP7n
  · rename_i k f
    refine brP fun hc => ?_
    simp only [okF, Bool.and_eq_true, Nat.ble_eq] at hc
    have hl : (listF f k).length = k := by simp [listF]
    have hf := listF_ok (f := f) (k := k) hc.2
    have := sp' (an := AN7) C9_ok rfl Tryz.func7 (by kernel_rfl) k7 ((listF f k).length + 1) (encode_runP ⟨fun i => intS ((f i).getD 0 .nilp), fun i => intS ((f i).getD 1 .nilp), fun i => strS ((f i).getD 2 .nilp)⟩ (listF f k) (by omega) fun j a hj => by
      obtain ⟨h1, h2⟩ := hf j a hj
      refine ⟨?_, h2⟩
      unfold rowsR
      simp only
      rw [h1]
      rfl)
    rw [hl] at this
    refine vs_ext this fun i hi => ?_
    have q : (listF f k)[i]? = some ((listF f k)[i]'(by omega)) := List.getElem?_eq_getElem _
    unfold rowsR
    simp only
    rw [(hf i _ q).1]
    rfl
  · exact failP

end Go.Proofs.YtkdbaijabnhniaaGreatDoor

namespace Go.Proofs.YtkdbaijabnhniaaGreatDoor
open Go.Ev
set_option maxRecDepth 100000

def rightQ (rB : Int → Int → List UInt8 → Bool) : List AV → PR
  | [.agg [.s (.int .i64 k), .s (.int .u64 n), .s (.str s)]] => .ret (.s (.bool (rB k n s)))
  | _ => .fail
def putQ (oD : Int → Bool) (pD : Int → List UInt8) : List AV → PR
  | [.s (.int .u64 n)] => .br (oD n) (.ret (.s (.str (pD n)))) .fail
  | _ => .fail
noncomputable def E5q (rB : Int → Int → List UInt8 → Bool) (oD : Int → Bool) (pD : Int → List UInt8) : Orc := putO 20 (rightQ rB) (putO 21 (putQ oD pD) (putO 22 sealP failO))

noncomputable def B8 : Code := (Tryz.f8.body).getD .skip
noncomputable def c8 : Code := subC [1, 1, 1, 0, 1, 0, 0] B8
def k8 : List Nat := [0, 2, 3, 4]
def S8 (k : Nat) (f : Nat → List SV) (ty : Option TypeId) (s : List UInt8) (i : Int) : St := St.mk (lookA [(0, .sl 0 0 3 0 k), (2, .s (.str [])), (3, .s (.str s)), (4, .s (.int .i64 i))]) (lookB []) [(0, in7 k f ty)] 1 55 53
def rx (f : Nat → List SV) (i : Int) (d : Nat) : List SV := List.drop d (f (i.toNat + 0))
def kx8 (f : Nat → List SV) (i : Int) : Int := IntKind.u64.wrap (kf f i)
def nx8 (f : Nat → List SV) (i : Int) : Int := intS ((rx f i 1).getD 0 .nilp)
def sx8 (f : Nat → List SV) (i : Int) : List UInt8 := strS ((rx f i 2).getD 0 .nilp)
def lx8 (f : Nat → List SV) (i : Int) : Int := IntKind.u64.wrap (((sx8 f i).length : Nat) : Int)
def lim (a b : Nat) : Bool := Nat.ble (a + b) 4611686018427387904
def inB (k : Nat) (i : Int) : Bool := true && Nat.blt (i.toNat + 0) k

theorem round8q (rB : Int → Int → List UInt8 → Bool) (oD : Int → Bool) (pD : Int → List UInt8) (L) (k : Nat) (f : Nat → List SV) (ty : Option TypeId) (s : List UInt8) (i : Int) (c : Nat) : iterD T0 (E5q rB oD pD) AN L c8 k8 [] (c + 1) (S8 k f ty s i) =
    cond (decide (i < ((k : Nat) : Int))) (cond (goN k i) (cond (inB k i) (cond (shOk z3 0 (rw7 f i)) (cond (!(rB (kf f i) (nF f i) (sf f i))) (some (.ret, S8 k f ty s i))
      (cond (goN k i) (cond (inB k i) (cond (shOk [.int .i64 0] 0 (rx f i 0)) (cond (oD (kx8 f i))
      (cond (goN k i) (cond (inB k i) (cond (shOk [.int .u64 0] 0 (rx f i 1)) (cond (oD (nx8 f i)) (cond (lim (pD (kx8 f i)).length (pD (nx8 f i)).length)
      (cond (goN k i) (cond (inB k i) (cond (shOk [.str []] 0 (rx f i 2)) (cond (oD (lx8 f i)) (cond (lim (pD (kx8 f i) ++ pD (nx8 f i)).length (pD (lx8 f i)).length)
      (cond (goN k i) (cond (inB k i) (cond (shOk [.str []] 0 (rx f i 2)) (cond (lim (pD (kx8 f i) ++ pD (nx8 f i) ++ pD (lx8 f i)).length (sx8 f i).length) (cond (lim s.length (pD (kx8 f i) ++ pD (nx8 f i) ++ pD (lx8 f i) ++ sx8 f i).length)
        (iterD T0 (E5q rB oD pD) AN L c8 k8 [] c (S8 k f ty (s ++ (pD (kx8 f i) ++ pD (nx8 f i) ++ pD (lx8 f i) ++ sx8 f i)) (IntKind.i64.wrap (i + 1))))
        none) none) none) none) none) none) none) none) none) none) none) none) none) none) none) none) none) none) none)) none) none) none) (some (.exit 0, S8 k f ty s i)) := by kernel_rfl

noncomputable def K8 : Ex → St → Option IR := finI T0 AN 1 Tryz.f8.results.toList
theorem run8q (rB : Int → Int → List UInt8 → Bool) (oD : Int → Bool) (pD : Int → List UInt8) (k : Nat) (f : Nat → List SV) (ty : Option TypeId) : runI T0 (E5q rB oD pD) AN (LX AN (E5q rB oD pD) k8 (k + 1)) Tryz.f8 [.sl 0 0 3 0 k] [in7 k f ty] =
    cond (decide (((k : Nat) : Int) > 1000)) (some (.ret (.s (.str [])) [in7 k f ty]))
      (goLT (blockK 0 (thenK T0 (E5q rB oD pD) AN (LX AN (E5q rB oD pD) k8 (k + 1)) (subC [1, 1, 1, 1] B8) K8)) (ltOf (iterD T0 (E5q rB oD pD) AN (loopD T0 (E5q rB oD pD) AN (fun _ => k8) (fun _ => []) (k + 1) 0) c8 k8 [] (k + 1) (S8 k f ty [] 0)))) := by kernel_rfl
theorem tail8q (rB : Int → Int → List UInt8 → Bool) (oD : Int → Bool) (pD : Int → List UInt8) (L) (k : Nat) (f : Nat → List SV) (ty : Option TypeId) (s : List UInt8) (i : Int) : goLT (blockK 0 (thenK T0 (E5q rB oD pD) AN L (subC [1, 1, 1, 1] B8) K8)) (ltOf (some (.exit 0, S8 k f ty s i))) =
    cond (Nat.blt s.length 1000000000000) (some (.ret (.s (.str (sealB s))) [in7 k f ty])) none := by kernel_rfl
theorem ret8q (rB : Int → Int → List UInt8 → Bool) (oD : Int → Bool) (pD : Int → List UInt8) (L) (k : Nat) (f : Nat → List SV) (ty : Option TypeId) (s : List UInt8) (i : Int) : goLT (blockK 0 (thenK T0 (E5q rB oD pD) AN L (subC [1, 1, 1, 1] B8) K8)) (ltOf (some (.ret, S8 k f ty s i))) = some (.ret (.s (.str [])) [in7 k f ty]) := by kernel_rfl

def okDI (n : Int) : Bool := decide (0 ≤ n) && decide (n < 18446744073709551616)
noncomputable def E5 : Orc := E5q rightB okDI putDI
theorem rightQ_eq (args : List AV) : rightQ rightB args = rightP args := by first | rfl | (unfold rightQ rightP; rfl)
theorem putQ_eq (args : List AV) : putQ okDI putDI args = putR args := by first | rfl | (unfold putQ putR okDI; rfl)
theorem E5_ok : OrcOK Tryz.prog G0 E5 :=
  putO_ok (fun args => by rw [rightQ_eq]; exact mayP_ok args) (putO_ok (fun args => by rw [putQ_eq]; exact putR_ok args) (putO_ok sealR_ok failO_ok))

theorem lim_ok {a b : Nat} (h : a + b < 4000000000) : lim a b = true := by
  unfold lim
  rw [Nat.ble_eq]
  omega
theorem inB_ok {k i : Nat} (h : i < k) : inB k (i : Int) = true := by
  unfold inB
  rw [Bool.true_and, Nat.blt_eq]
  omega
theorem goN_ok {k i : Nat} (h : i < k) : goN k (i : Int) = true := by
  unfold goN
  simp only [Bool.and_eq_true, decide_eq_true_eq]
  omega
theorem putDI_B (x : Nat) (h : x < 1099511627776) : putDI (x : Int) = putB (x : Int) := by
  unfold putDI
  rw [putB_putD x h, Int.toNat_natCast]

theorem step8 (L) (k : Nat) (f : Nat → List SV) (ty : Option TypeId) (s : List UInt8) (i n : Nat) (a : A3) (hi : i < k) (hk : k ≤ 1000) (hf : f i = rowA a) (ha : okA a) (hc : s.length < 900000000) :
    iterD T0 E5 AN L c8 k8 [] (n + 1) (S8 k f ty s i) = iterD T0 E5 AN L c8 k8 [] n (S8 k f ty (s ++ encA a) ((i + 1 : Nat) : Int)) := by
  obtain ⟨g1, g2, g3, g4, g5, g6⟩ := good_row hf ha
  obtain ⟨h1, h2, h3⟩ := ha
  have a1 := putB_len (a.k : Int)
  have a2 := putB_len (a.n : Int)
  have a3 := putB_len ((a.s.length : Nat) : Int)
  have ex : ∀ d, rx f (i : Int) d = List.drop d (rowA a) := fun d => by
    unfold rx
    rw [Int.toNat_natCast, Nat.add_zero, hf]
  have e1 : kx8 f (i : Int) = (a.k : Int) := g2
  have e2 : nx8 f (i : Int) = (a.n : Int) := by unfold nx8; rw [ex]; rfl
  have e3 : sx8 f (i : Int) = a.s := by unfold sx8; rw [ex]; rfl
  have e4 : lx8 f (i : Int) = ((a.s.length : Nat) : Int) := by unfold lx8; rw [e3]; exact IntWalk.u64_in _ (by omega)
  have o1 : ∀ x : Nat, x < 1099511627776 → okDI (x : Int) = true := fun x hx => by
    unfold okDI
    simp only [Bool.and_eq_true, decide_eq_true_eq]
    omega
  unfold E5
  rw [round8q]
  have d1 : decide ((i : Int) < ((k : Nat) : Int)) = true := by rw [decide_eq_true_iff]; omega
  rw [d1, goN_ok hi, inB_ok hi, g1, g6, e1, e2, e3, e4, o1 _ (by omega), o1 _ (by omega), o1 _ (by omega), ex, ex, ex, putDI_B _ (by omega), putDI_B _ (by omega), putDI_B _ (by omega)]
  rw [lim_ok (by omega), lim_ok (by simp only [List.length_append]; omega), lim_ok (by simp only [List.length_append]; omega), lim_ok (by simp only [List.length_append]; omega)]
  have e5 : (i : Int) + 1 = ((i + 1 : Nat) : Int) := by omega
  rw [e5, wrap64 _ (by omega)]
  unfold encA
  simp only [List.append_assoc]
  rfl

theorem bad8 (L) (k : Nat) (f : Nat → List SV) (ty : Option TypeId) (s : List UInt8) (i n : Nat) (hi : i < k) (hb : shOk z3 0 (rw7 f (i : Int)) = true ∧ rightB (kf f (i : Int)) (nF f (i : Int)) (sf f (i : Int)) = false) :
    iterD T0 E5 AN L c8 k8 [] (n + 1) (S8 k f ty s (i : Int)) = some (.ret, S8 k f ty s (i : Int)) := by
  unfold E5
  rw [round8q]
  have d1 : decide ((i : Int) < ((k : Nat) : Int)) = true := by rw [decide_eq_true_iff]; omega
  rw [d1, goN_ok hi, inB_ok hi, hb.1, hb.2]
  rfl
theorem done8 (L) (k : Nat) (f : Nat → List SV) (ty : Option TypeId) (s : List UInt8) (n : Nat) : iterD T0 E5 AN L c8 k8 [] (n + 1) (S8 k f ty s (k : Int)) = some (.exit 0, S8 k f ty s (k : Int)) := by
  unfold E5
  rw [round8q]
  have d1 : decide ((k : Int) < ((k : Nat) : Int)) = false := by rw [decide_eq_false_iff_not]; omega
  rw [d1, cond_false]

theorem steps8 (L) (k : Nat) (f : Nat → List SV) (ty : Option TypeId) (hk : k ≤ 1000) : ∀ (rest : List A3) (c : List UInt8) (i n : Nat), (∀ (j : Nat) (a : A3), rest[j]? = some a → f (i + j) = rowA a ∧ okA a) → i + rest.length ≤ k → c.length + 10018 * rest.length < 900000000 →
    iterD T0 E5 AN L c8 k8 [] (n + rest.length) (S8 k f ty c i) = iterD T0 E5 AN L c8 k8 [] n (S8 k f ty (c ++ catA rest) ((i + rest.length : Nat) : Int))
  | [], c, i, n, _, _, _ => by simp [catA]
  | a :: rest, c, i, n, hr, hi, hl => by
    obtain ⟨r1, r2⟩ := hr 0 a rfl
    have hl2 := encA_len a r2
    simp only [List.length_cons] at hi hl
    have e := steps8 L k f ty hk rest (c ++ encA a) (i + 1) n (fun j b hb => by
      have := hr (j + 1) b (by simpa using hb)
      rw [show i + 1 + j = i + (j + 1) by omega]
      exact this) (by omega) (by rw [List.length_append]; omega)
    rw [List.length_cons, ← Nat.add_assoc, step8 L k f ty c i _ a (by omega) hk r1 r2 (by omega), e]
    have e1 : c ++ encA a ++ catA rest = c ++ catA (a :: rest) := by simp [catA, List.append_assoc]
    have e2 : i + 1 + rest.length = i + (rest.length + 1) := by omega
    rw [e1, e2]

theorem encG_run8 (k : Nat) (f : Nat → List SV) (ty : Option TypeId) (ht : okT f k = true) :
    runI T0 E5 AN (LX AN E5 k8 (k + 1)) Tryz.f8 [.sl 0 0 3 0 k] [in7 k f ty] = some (.ret (.s (.str (encG f k))) [in7 k f ty]) := by
  obtain ⟨hk, ht⟩ := okT_at ht
  have d1 : decide (((k : Nat) : Int) > 1000) = false := by rw [decide_eq_false_iff_not]; omega
  have hr := run8q rightB okDI putDI k f ty
  rw [d1, cond_false] at hr
  refine hr.trans ?_
  unfold encG
  show goLT _ (ltOf (iterD T0 E5 AN _ c8 k8 [] (k + 1) (S8 k f ty [] ((0 : Nat) : Int)))) = _
  cases hg : allG f k
  · obtain ⟨i, h1, h2, h3⟩ := first_bad _ k hg
    rw [cond_false]
    have hb := bad_right (ht i h1) h2
    have e := steps8 (loopD T0 (E5q rightB okDI putDI) AN (fun _ => k8) (fun _ => []) (k + 1) 0) k f ty hk (tailF f 0 i) [] 0 (k + 1 - i) (tailF_ok fun x hx => h3 (0 + x) (by omega)) (by rw [tailF_len]; omega) (by rw [tailF_len]; simp; omega)
    rw [tailF_len, Nat.sub_add_cancel (by omega), Nat.zero_add] at e
    have e1 : k + 1 - i = (k - i) + 1 := by omega
    rw [e, e1, bad8 _ k f ty _ i _ h1 hb]
    exact ret8q rightB okDI putDI _ k f ty _ _
  · rw [cond_true]
    have hf := listF_ok (f := f) (k := k) hg
    have hl : (listF f k).length = k := by simp [listF]
    have e := steps8 (loopD T0 (E5q rightB okDI putDI) AN (fun _ => k8) (fun _ => []) (k + 1) 0) k f ty hk (listF f k) [] 0 1 (fun j a hj => by rw [Nat.zero_add]; exact hf j a hj) (by omega) (by rw [hl]; simp; omega)
    rw [hl, Nat.zero_add, Nat.add_comm 1 k] at e
    rw [e, done8 _ k f ty _ 0]
    refine (tail8q rightB okDI putDI _ k f ty _ _).trans ?_
    have hm := cat_len (listF f k) fun j a hj => (hf j a hj).2
    have d2 : Nat.blt ([] ++ catA (listF f k)).length 1000000000000 = true := by rw [Nat.blt_eq, List.nil_append]; omega
    rw [d2, cond_true, List.nil_append]
    rfl

theorem encRI_ok : ∀ (args : List AV) (hs : List HO), SoundI Tryz.prog G0 8 args hs (encGI args hs) :=
  encGI_of fun k f ty h => si' E5_ok rfl Tryz.func8 (by kernel_rfl) k8 (k + 1) (encG_run8 k f ty h)

end Go.Proofs.YtkdbaijabnhniaaGreatDoor

namespace Go.Proofs.YtkdbaijabnhniaaGreatDoor
open Go.Ev
set_option maxRecDepth 100000

/-- what the called functions answer, by name alone -/
structure Q3 where
  ok : List UInt8 → Bool
  nil : List UInt8 → Bool
  n : List UInt8 → Nat
  r : List UInt8 → R3
  oT : (Nat → List SV) → Nat → Bool
  eT : (Nat → List SV) → Nat → List UInt8
  oF : (Nat → List SV) → Nat → Bool
  eF : (Nat → List SV) → Nat → List UInt8
  z : List UInt8

def decGq (q : Q3) : List AV → PR
  | [.s (.str s)] => .br (Nat.ble s.length 600) (.br (q.ok s) (.br (q.nil s) (.ret (.tup [.s .nils, .s (.int .i64 0)])) (.ret (.tup [.own 3 (q.n s) (rowsR (q.r s)), .s (.int .i64 0)]))) (.ret bad5)) .fail
  | _ => .fail
def decRq (q : Q3) : List AV → PR
  | [.s (.str s)] => .br (Nat.ble s.length 600) (.br (q.ok s) (.ret (.tup [.own 3 (q.n s) (rowsR (q.r s)), .s (.int .i64 0)])) (.ret bad5)) .fail
  | _ => .fail
def encGIq (q : Q3) (args : List AV) (hs : List HO) : IR := match args, hs with
  | [.sl 0 g 3 0 k], [⟨g', .rows 3 k' f, ty⟩] => .br (Nat.beq g g' && Nat.beq k k' && q.oT f k) (.ret (.s (.str (q.eT f k))) [⟨g', .rows 3 k' f, ty⟩]) .fail
  | _, _ => .fail
def encP7q (q : Q3) : List AV → PR
  | [.s .nils] => .ret (.s (.str q.z))
  | [.s (.vs 3 k f)] => .br (q.oF f k) (.ret (.s (.str (q.eF f k)))) .fail
  | _ => .fail

def r3 (l : List A3) : R3 := ⟨fun i => (((l.getD i ⟨0, 0, []⟩).k : Nat) : Int), fun i => (((l.getD i ⟨0, 0, []⟩).n : Nat) : Int), fun i => (l.getD i ⟨0, 0, []⟩).s⟩
theorem rowsR_r3 (l : List A3) : rowsR (r3 l) = rowsA l := rfl
def q3 : Q3 := ⟨dOk, fun s => isNil (dL s), fun s => (dL s).length, fun s => r3 (dL s), okT, encG, okF, encF, sealB []⟩
theorem decGq_eq (args : List AV) : decGq q3 args = decG args := by first | rfl | (unfold decGq decG; rfl)
theorem decRq_eq (args : List AV) : decRq q3 args = decR args := by first | rfl | (unfold decRq decR; rfl)
theorem encGIq_eq (args : List AV) (hs : List HO) : encGIq q3 args hs = encGI args hs := by first | rfl | (unfold encGIq encGI; rfl)
theorem encP7q_eq (args : List AV) : encP7q q3 args = encP7 args := by first | rfl | (unfold encP7q encP7; rfl)

def AN3 : Ann := { glob := glob0, heap := fun d => !(Nat.beq d 30 || Nat.beq d 49) }
noncomputable def C12 (q : Q3) : Orc := putO 9 (nullP (.s (.bool true))) (putO 5 (decGq q) (putO 6 (decRq q) (putO 7 (encP7q q) (putI 7 (encGIq q) (putI 8 (encGIq q) failO)))))
noncomputable def B3 : Code := (Tryz.f3.body).getD .skip
def k3 : List Nat := [0, 1, 4, 5, 6, 7, 8, 9, 10, 12]
def rowL (ki ni : Nat → Int) (si : Nat → List UInt8) (i : Nat) : List SV := [.int .i64 (ki i), .int .u64 (ni i), .str (si i)]
def inpV (n : Nat) (ki ni : Nat → Int) (si : Nat → List UInt8) : AV := .s (.vs 3 n (rowL ki ni si))

noncomputable def c3 : Code := subC [1, 1, 0, 1, 0, 0] B3
noncomputable def d3 : Code := subC [1, 1, 1, 1, 1, 1, 1, 0, 1, 0, 0] B3
def S3 (inp : AV) (s : List UInt8) (i : Int) (g m : Nat) (f : Nat → List SV) : St := St.mk (lookA [(0, inp), (1, .s (.str s)), (4, .s (.bool false)), (5, .sl 13 g 3 0 m), (6, .sl 14 g 3 0 m), (7, .s (.int .i64 i)), (8, .undef), (9, .undef), (10, .undef), (12, .undef)]) (lookB []) [(13, ⟨g, .rows 3 m f, none⟩), (14, ⟨g, .rows 3 m f, none⟩)] 0 138 137
def T3 (inp : AV) (s : List UInt8) (i : Int) (g m : Nat) (f : Nat → List SV) (a : AV) (e : Int) (b : AV) (j : Int) : St := St.mk (lookA [(0, inp), (1, .s (.str s)), (4, .s (.bool false)), (5, .sl 13 g 3 0 m), (6, .sl 14 g 3 0 m), (7, .s (.int .i64 i)), (8, a), (9, .s (.int .i64 e)), (10, b), (12, .s (.int .i64 j))]) (lookB []) [(13, ⟨g, .rows 3 m f, none⟩), (14, ⟨g, .rows 3 m f, none⟩)] 0 138 137
def vR (n : Nat) (r : R3) : AV := .s (.vs 3 n (rowsR r))
def mS (s : List UInt8) : Int := cond (decide ((600 : Int) < ((s.length : Nat) : Int))) 600 ((s.length : Nat) : Int)
def sC (s : List UInt8) : List UInt8 := List.drop 0 (List.take (mS s).toNat s)
def row3 (k n : Int) (s : List UInt8) : Nat → List SV := chunk 3 [.int .i64 k, .int .u64 n, .str s]
def okE (q : Q3) (g m : Nat) (f : Nat → List SV) : Bool := Nat.beq g g && Nat.beq m m && q.oT f m
def neE (q : Q3) (m : Nat) (f : Nat → List SV) : Bool := !(q.eT f m == q.eT f m)
noncomputable def K3 : Ex → St → Option PR := finP T0 AN3 Tryz.f3.results.toList
noncomputable def L3 (q : Q3) : Code → St → LT := LX AN3 (C12 q) k3 700
noncomputable def M3 (q : Q3) : Code → St → LT := loopD T0 (C12 q) AN3 (fun _ => k3) (fun _ => []) 700 0
noncomputable def KA3 (q : Q3) : Ex → St → Option PR := blockK 0 (thenK T0 (C12 q) AN3 (L3 q) (subC [1, 1, 1] B3) K3)
noncomputable def KK3 (q : Q3) : Ex → St → Option PR := blockK 2 (thenK T0 (C12 q) AN3 (L3 q) (subC [1, 1, 1, 1, 1, 1, 1, 1] B3) K3)
noncomputable def go3 (q : Q3) (inp : AV) (s : List UInt8) (i : Int) (g m : Nat) (f : Nat → List SV) (a : AV) (e : Int) (b : AV) : Option PR := goLT (KK3 q) (ltOf (iterD T0 (C12 q) AN3 (M3 q) d3 k3 [] 700 (T3 inp s i g m f a e b 0)))
def no3 : Option PR := some (.ret (.s (.bool false)))
def yes3 : Option PR := some (.ret (.s (.bool true)))

theorem run3V (q : Q3) (n : Nat) (ki ni : Nat → Int) (si : Nat → List UInt8) (s : List UInt8) : runP T0 (C12 q) AN3 (L3 q) Tryz.f3 [inpV n ki ni si, .s (.str s)] = goLT (KA3 q) (ltOf (iterD T0 (C12 q) AN3 (M3 q) c3 k3 [] 700 (S3 (inpV n ki ni si) s 0 0 0 (chunk 3 [])))) := by kernel_rfl
theorem round3V (q : Q3) (L) (n : Nat) (ki ni : Nat → Int) (si : Nat → List UInt8) (s : List UInt8) (i : Int) (g m : Nat) (f : Nat → List SV) (c : Nat) : iterD T0 (C12 q) AN3 L c3 k3 [] (c + 1) (S3 (inpV n ki ni si) s i g m f) =
    cond (decide (i < ((n : Nat) : Int))) (cond (cond true (decide (i < 30)) false) (cond (goN n i) (cond (Nat.beq g g) (cond (Nat.ble ((m + 1) * 33) room) (cond (goN n i) (cond (goN n i) (cond (goN n i) (cond (Nat.beq g g) (cond (Nat.ble ((m + 1) * 33) room)
      (iterD T0 (C12 q) AN3 L c3 k3 [] c (S3 (inpV n ki ni si) s (IntKind.i64.wrap (i + 1)) (g + 1) (m + 1) (catRows m 0 f (row3 (ki i.toNat) (ni i.toNat) (si i.toNat)))))
      none) none) none) none) none) none) none) none) (some (.exit 0, S3 (inpV n ki ni si) s i g m f))) (some (.exit 0, S3 (inpV n ki ni si) s i g m f)) := by kernel_rfl
theorem mid3V (q : Q3) (n : Nat) (ki ni : Nat → Int) (si : Nat → List UInt8) (s : List UInt8) (i : Int) (g m : Nat) (f : Nat → List SV) : goLT (KA3 q) (ltOf (some (.exit 0, S3 (inpV n ki ni si) s i g m f))) =
    cond (decide (0 ≤ mS s) && decide (mS s ≤ ((s.length : Nat) : Int))) (cond (Nat.ble (sC s).length 600) (cond (q.ok (sC s)) (cond (q.nil (sC s))
      (cond (Nat.ble (sC s).length 600) (cond (q.ok (sC s)) (cond (okE q g m f) (cond (okE q g m f) (cond (neE q m f) no3 (cond (cond false true ((0 : Int) != (((q.n (sC s)) : Nat) : Int))) no3 (go3 q (inpV n ki ni si) (sC s) i g m f (.s .nils) 0 (vR (q.n (sC s)) (q.r (sC s)))))) none) none) (cond (okE q g m f) (cond (okE q g m f) (cond (neE q m f) no3 no3) none) none)) none)
      (cond (Nat.ble (sC s).length 600) (cond (q.ok (sC s)) (cond (okE q g m f) (cond (okE q g m f) (cond (neE q m f) no3 (cond (cond false true ((((q.n (sC s)) : Nat) : Int) != (((q.n (sC s)) : Nat) : Int))) no3 (go3 q (inpV n ki ni si) (sC s) i g m f (vR (q.n (sC s)) (q.r (sC s))) 0 (vR (q.n (sC s)) (q.r (sC s)))))) none) none) (cond (okE q g m f) (cond (okE q g m f) (cond (neE q m f) no3 no3) none) none)) none))
      (cond (Nat.ble (sC s).length 600) (cond (q.ok (sC s)) (cond (okE q g m f) (cond (okE q g m f) (cond (neE q m f) no3 no3) none) none) (cond (okE q g m f) (cond (okE q g m f) (cond (neE q m f) no3 (go3 q (inpV n ki ni si) (sC s) i g m f (.s .nils) 12 (.s .nils))) none) none)) none)) none) none := by kernel_rfl
theorem rd3V (q : Q3) (L) (n : Nat) (ki ni : Nat → Int) (si : Nat → List UInt8) (s : List UInt8) (i : Int) (g m : Nat) (f : Nat → List SV) (k : Nat) (r : R3) (j : Int) (c : Nat) : iterD T0 (C12 q) AN3 L d3 k3 [] (c + 1) (T3 (inpV n ki ni si) s i g m f (vR k r) 0 (vR k r) j) =
    cond (decide (j < ((k : Nat) : Int))) (cond (goN k j) (cond (goN k j) (cond (r.ki j.toNat != r.ki j.toNat) (some (.ret, T3 (inpV n ki ni si) s i g m f (vR k r) 0 (vR k r) j))
      (cond (goN k j) (cond (goN k j) (cond (cond false true (r.ni j.toNat != r.ni j.toNat)) (some (.ret, T3 (inpV n ki ni si) s i g m f (vR k r) 0 (vR k r) j))
      (cond (goN k j) (cond (goN k j) (cond (cond false true (!(r.si j.toNat == r.si j.toNat))) (some (.ret, T3 (inpV n ki ni si) s i g m f (vR k r) 0 (vR k r) j))
        (iterD T0 (C12 q) AN3 L d3 k3 [] c (T3 (inpV n ki ni si) s i g m f (vR k r) 0 (vR k r) (IntKind.i64.wrap (j + 1))))) none) none)) none) none)) none) none) (some (.exit 2, T3 (inpV n ki ni si) s i g m f (vR k r) 0 (vR k r) j)) := by kernel_rfl
theorem rz3V (q : Q3) (L) (n : Nat) (ki ni : Nat → Int) (si : Nat → List UInt8) (s : List UInt8) (i : Int) (g m : Nat) (f : Nat → List SV) (k : Nat) (r : R3) (c : Nat) : iterD T0 (C12 q) AN3 L d3 k3 [] (c + 1) (T3 (inpV n ki ni si) s i g m f (.s .nils) 0 (vR k r) 0) = some (.exit 2, T3 (inpV n ki ni si) s i g m f (.s .nils) 0 (vR k r) 0) := by kernel_rfl
theorem rn3V (q : Q3) (L) (n : Nat) (ki ni : Nat → Int) (si : Nat → List UInt8) (s : List UInt8) (i : Int) (g m : Nat) (f : Nat → List SV) (c : Nat) : iterD T0 (C12 q) AN3 L d3 k3 [] (c + 1) (T3 (inpV n ki ni si) s i g m f (.s .nils) 12 (.s .nils) 0) = some (.exit 2, T3 (inpV n ki ni si) s i g m f (.s .nils) 12 (.s .nils) 0) := by kernel_rfl
theorem fin3V (q : Q3) (n : Nat) (ki ni : Nat → Int) (si : Nat → List UInt8) (s : List UInt8) (i : Int) (g m : Nat) (f : Nat → List SV) (k : Nat) (r : R3) (j : Int) : goLT (KK3 q) (ltOf (some (.exit 2, T3 (inpV n ki ni si) s i g m f (vR k r) 0 (vR k r) j))) = cond (q.oF (rowsR r) k) (cond (cond false true (q.eF (rowsR r) k == s)) yes3 no3) none := by kernel_rfl
theorem finz3V (q : Q3) (n : Nat) (ki ni : Nat → Int) (si : Nat → List UInt8) (s : List UInt8) (i : Int) (g m : Nat) (f : Nat → List SV) (k : Nat) (r : R3) (j : Int) : goLT (KK3 q) (ltOf (some (.exit 2, T3 (inpV n ki ni si) s i g m f (.s .nils) 0 (vR k r) j))) = cond (cond false true (q.z == s)) yes3 no3 := by kernel_rfl
theorem finn3V (q : Q3) (n : Nat) (ki ni : Nat → Int) (si : Nat → List UInt8) (s : List UInt8) (i : Int) (g m : Nat) (f : Nat → List SV) (j : Int) : goLT (KK3 q) (ltOf (some (.exit 2, T3 (inpV n ki ni si) s i g m f (.s .nils) 12 (.s .nils) j))) = yes3 := by kernel_rfl

theorem run3N (q : Q3) (s : List UInt8) : runP T0 (C12 q) AN3 (L3 q) Tryz.f3 [.s .nils, .s (.str s)] = goLT (KA3 q) (ltOf (iterD T0 (C12 q) AN3 (M3 q) c3 k3 [] 700 (S3 (.s .nils) s 0 0 0 (chunk 3 [])))) := by kernel_rfl
theorem round3N (q : Q3) (L) (s : List UInt8) (g m : Nat) (f : Nat → List SV) (c : Nat) : iterD T0 (C12 q) AN3 L c3 k3 [] (c + 1) (S3 (.s .nils) s 0 g m f) = some (.exit 0, S3 (.s .nils) s 0 g m f) := by kernel_rfl
theorem mid3N (q : Q3) (s : List UInt8) (i : Int) (g m : Nat) (f : Nat → List SV) : goLT (KA3 q) (ltOf (some (.exit 0, S3 (.s .nils) s i g m f))) =
    cond (decide (0 ≤ mS s) && decide (mS s ≤ ((s.length : Nat) : Int))) (cond (Nat.ble (sC s).length 600) (cond (q.ok (sC s)) (cond (q.nil (sC s))
      (cond (Nat.ble (sC s).length 600) (cond (q.ok (sC s)) (cond (okE q g m f) (cond (okE q g m f) (cond (neE q m f) no3 (cond (cond false true ((0 : Int) != (((q.n (sC s)) : Nat) : Int))) no3 (go3 q (.s .nils) (sC s) i g m f (.s .nils) 0 (vR (q.n (sC s)) (q.r (sC s)))))) none) none) (cond (okE q g m f) (cond (okE q g m f) (cond (neE q m f) no3 no3) none) none)) none)
      (cond (Nat.ble (sC s).length 600) (cond (q.ok (sC s)) (cond (okE q g m f) (cond (okE q g m f) (cond (neE q m f) no3 (cond (cond false true ((((q.n (sC s)) : Nat) : Int) != (((q.n (sC s)) : Nat) : Int))) no3 (go3 q (.s .nils) (sC s) i g m f (vR (q.n (sC s)) (q.r (sC s))) 0 (vR (q.n (sC s)) (q.r (sC s)))))) none) none) (cond (okE q g m f) (cond (okE q g m f) (cond (neE q m f) no3 no3) none) none)) none))
      (cond (Nat.ble (sC s).length 600) (cond (q.ok (sC s)) (cond (okE q g m f) (cond (okE q g m f) (cond (neE q m f) no3 no3) none) none) (cond (okE q g m f) (cond (okE q g m f) (cond (neE q m f) no3 (go3 q (.s .nils) (sC s) i g m f (.s .nils) 12 (.s .nils))) none) none)) none)) none) none := by kernel_rfl
theorem rd3N (q : Q3) (L) (s : List UInt8) (i : Int) (g m : Nat) (f : Nat → List SV) (k : Nat) (r : R3) (j : Int) (c : Nat) : iterD T0 (C12 q) AN3 L d3 k3 [] (c + 1) (T3 (.s .nils) s i g m f (vR k r) 0 (vR k r) j) =
    cond (decide (j < ((k : Nat) : Int))) (cond (goN k j) (cond (goN k j) (cond (r.ki j.toNat != r.ki j.toNat) (some (.ret, T3 (.s .nils) s i g m f (vR k r) 0 (vR k r) j))
      (cond (goN k j) (cond (goN k j) (cond (cond false true (r.ni j.toNat != r.ni j.toNat)) (some (.ret, T3 (.s .nils) s i g m f (vR k r) 0 (vR k r) j))
      (cond (goN k j) (cond (goN k j) (cond (cond false true (!(r.si j.toNat == r.si j.toNat))) (some (.ret, T3 (.s .nils) s i g m f (vR k r) 0 (vR k r) j))
        (iterD T0 (C12 q) AN3 L d3 k3 [] c (T3 (.s .nils) s i g m f (vR k r) 0 (vR k r) (IntKind.i64.wrap (j + 1))))) none) none)) none) none)) none) none) (some (.exit 2, T3 (.s .nils) s i g m f (vR k r) 0 (vR k r) j)) := by kernel_rfl
theorem rz3N (q : Q3) (L) (s : List UInt8) (i : Int) (g m : Nat) (f : Nat → List SV) (k : Nat) (r : R3) (c : Nat) : iterD T0 (C12 q) AN3 L d3 k3 [] (c + 1) (T3 (.s .nils) s i g m f (.s .nils) 0 (vR k r) 0) = some (.exit 2, T3 (.s .nils) s i g m f (.s .nils) 0 (vR k r) 0) := by kernel_rfl
theorem rn3N (q : Q3) (L) (s : List UInt8) (i : Int) (g m : Nat) (f : Nat → List SV) (c : Nat) : iterD T0 (C12 q) AN3 L d3 k3 [] (c + 1) (T3 (.s .nils) s i g m f (.s .nils) 12 (.s .nils) 0) = some (.exit 2, T3 (.s .nils) s i g m f (.s .nils) 12 (.s .nils) 0) := by kernel_rfl
theorem fin3N (q : Q3) (s : List UInt8) (i : Int) (g m : Nat) (f : Nat → List SV) (k : Nat) (r : R3) (j : Int) : goLT (KK3 q) (ltOf (some (.exit 2, T3 (.s .nils) s i g m f (vR k r) 0 (vR k r) j))) = cond (q.oF (rowsR r) k) (cond (cond false true (q.eF (rowsR r) k == s)) yes3 no3) none := by kernel_rfl
theorem finz3N (q : Q3) (s : List UInt8) (i : Int) (g m : Nat) (f : Nat → List SV) (k : Nat) (r : R3) (j : Int) : goLT (KK3 q) (ltOf (some (.exit 2, T3 (.s .nils) s i g m f (.s .nils) 0 (vR k r) j))) = cond (cond false true (q.z == s)) yes3 no3 := by kernel_rfl
theorem finn3N (q : Q3) (s : List UInt8) (i : Int) (g m : Nat) (f : Nat → List SV) (j : Int) : goLT (KK3 q) (ltOf (some (.exit 2, T3 (.s .nils) s i g m f (.s .nils) 12 (.s .nils) j))) = yes3 := by kernel_rfl

/-! ## Plain -/

theorem mS_ok (s : List UInt8) : (decide (0 ≤ mS s) && decide (mS s ≤ ((s.length : Nat) : Int))) = true ∧ mS s ≤ 600 := by
  unfold mS
  by_cases h : (600 : Int) < ((s.length : Nat) : Int)
  · rw [decide_eq_true h, cond_true]
    refine ⟨?_, by omega⟩
    simp only [Bool.and_eq_true, decide_eq_true_eq]
    omega
  · rw [decide_eq_false h, cond_false]
    refine ⟨?_, by omega⟩
    simp only [Bool.and_eq_true, decide_eq_true_eq]
    omega
theorem sC_ok (s : List UInt8) : (sC s).length ≤ 600 := by
  have := (mS_ok s).2
  unfold sC
  rw [List.drop_zero, List.length_take]
  omega
theorem neE_ok (q : Q3) (m : Nat) (f : Nat → List SV) : neE q m f = false := by unfold neE; rw [beq_self_eq_true]; rfl
theorem goodB_row {a : A3} (h : okA a) : goodB (rowA a) = true ∧ toA (rowA a) = a := by
  obtain ⟨h1, h2, h3⟩ := h
  refine ⟨?_, ?_⟩
  · show (decide (0 ≤ (a.k : Int)) && decide ((a.k : Int) < 10) && decide (0 ≤ (a.n : Int)) && decide ((a.n : Int) ≤ 4294967296) && Nat.ble a.s.length 10000) = true
    simp only [Bool.and_eq_true, decide_eq_true_eq, Nat.ble_eq]
    omega
  · show (⟨((a.k : Nat) : Int).toNat, ((a.n : Nat) : Int).toNat, a.s⟩ : A3) = a
    rw [Int.toNat_natCast, Int.toNat_natCast]
theorem rowsA_at (l : List A3) {j : Nat} (h : j < l.length) : rowsA l j = rowA l[j] := by
  unfold rowsA
  rw [List.getD_eq_getElem?_getD, List.getElem?_eq_getElem h]
  rfl
theorem enc_at (l : List A3) (hl : l.length ≤ 1000) (ho : ∀ a ∈ l, okA a) : okF (rowsA l) l.length = true ∧ encF (rowsA l) l.length = sealB (catA l) := by
  refine ⟨?_, ?_⟩
  · unfold okF
    simp only [Bool.and_eq_true, Nat.ble_eq, List.all_eq_true, List.mem_range]
    refine ⟨by omega, fun j hj => ?_⟩
    rw [rowsA_at l hj]
    exact (goodB_row (ho _ (List.getElem_mem hj))).1
  · unfold encF
    have : listF (rowsA l) l.length = l := by
      unfold listF
      apply List.ext_getElem
      · simp
      · intro j h1 h2
        simp only [List.length_map, List.length_range] at h1
        rw [List.getElem_map, List.getElem_range, rowsA_at l h2]
        exact (goodB_row (ho _ (List.getElem_mem h2))).2
    rw [this]

theorem iter3 (q : Q3) (L) (n : Nat) (ki ni : Nat → Int) (si : Nat → List UInt8) (s : List UInt8) (N : Nat) (hN : N = min n 30) : ∀ (d i g : Nat) (f : Nat → List SV) (c : Nat), i + d = N → d < c → (∀ j, j < i → f j = rowL ki ni si j) →
    ∃ g' f', iterD T0 (C12 q) AN3 L c3 k3 [] c (S3 (inpV n ki ni si) s i g i f) = some (.exit 0, S3 (inpV n ki ni si) s N g' N f') ∧ ∀ j, j < N → f' j = rowL ki ni si j
  | 0, i, g, f, c + 1, hi, _, hf => by
    simp only [Nat.add_zero] at hi
    subst hi
    refine ⟨g, f, ?_, hf⟩
    rw [round3V]
    by_cases h : (i : Int) < ((n : Nat) : Int)
    · have h2 : ¬ ((i : Int) < 30) := by omega
      rw [decide_eq_true h, decide_eq_false h2]
      rfl
    · rw [decide_eq_false h]
      rfl
  | d + 1, i, g, f, c + 1, hi, hc, hf => by
    rw [round3V]
    have h1 : decide ((i : Int) < ((n : Nat) : Int)) = true := by rw [decide_eq_true_iff]; omega
    have h2 : decide ((i : Int) < 30) = true := by rw [decide_eq_true_iff]; omega
    have h3 : goN n (i : Int) = true := goN_ok (by omega)
    have h5 : Nat.ble ((i + 1) * 33) room = true := by unfold room; rw [Nat.ble_eq]; omega
    rw [h1, h2, h3, Nat.beq_refl, h5]
    simp only [cond_true]
    have e1 : (i : Int) + 1 = ((i + 1 : Nat) : Int) := by omega
    rw [e1, wrap64 _ (by omega), Int.toNat_natCast]
    refine iter3 q L n ki ni si s N hN d (i + 1) (g + 1) _ c (by omega) (by omega) fun j hj => ?_
    unfold catRows
    by_cases hji : j < i
    · have : Nat.blt j i = true := by rw [Nat.blt_eq]; exact hji
      rw [this, cond_true, Nat.add_zero]
      exact hf j hji
    · have : Nat.blt j i = false := by rw [Bool.eq_false_iff]; intro q; rw [Nat.blt_eq] at q; exact hji q
      have hj2 : j = i := by omega
      subst hj2
      rw [this, cond_false, Nat.sub_self]
      rfl
  | _, _, _, _, 0, _, hc, _ => by omega

theorem iterd3V (q : Q3) (L) (n : Nat) (ki ni : Nat → Int) (si : Nat → List UInt8) (s : List UInt8) (i : Int) (g m : Nat) (f : Nat → List SV) (k : Nat) (r : R3) (hk : k ≤ 600) : ∀ (d j c : Nat), j + d = k → d < c →
    iterD T0 (C12 q) AN3 L d3 k3 [] c (T3 (inpV n ki ni si) s i g m f (vR k r) 0 (vR k r) j) = some (.exit 2, T3 (inpV n ki ni si) s i g m f (vR k r) 0 (vR k r) k)
  | 0, j, c + 1, hj, _ => by
    simp only [Nat.add_zero] at hj
    subst hj
    rw [rd3V]
    have : decide ((j : Int) < ((j : Nat) : Int)) = false := by rw [decide_eq_false_iff_not]; omega
    rw [this, cond_false]
  | d + 1, j, c + 1, hj, hc => by
    rw [rd3V]
    have h1 : decide ((j : Int) < ((k : Nat) : Int)) = true := by rw [decide_eq_true_iff]; omega
    rw [h1, goN_ok (show j < k by omega), bne_self_eq_false, bne_self_eq_false, beq_self_eq_true]
    have e1 : (j : Int) + 1 = ((j + 1 : Nat) : Int) := by omega
    rw [e1, wrap64 _ (by omega)]
    simp only [cond_true, cond_false, Bool.not_true]
    exact iterd3V q L n ki ni si s i g m f k r hk d (j + 1) c (by omega) (by omega)
  | _, _, 0, _, hc => by omega

theorem rest3V (n : Nat) (ki ni : Nat → Int) (si : Nat → List UInt8) (s : List UInt8) (i : Int) (g m : Nat) (f : Nat → List SV) (ht : okT f m = true) : goLT (KA3 q3) (ltOf (some (.exit 0, S3 (inpV n ki ni si) s i g m f))) = yes3 := by
  rw [mid3V]
  have hs := sC_ok s
  generalize sC s = t at hs
  have he : okE q3 g m f = true := by
    unfold okE
    rw [Nat.beq_refl, Nat.beq_refl]
    exact ht
  have hb : Nat.ble t.length 600 = true := by rw [Nat.ble_eq]; exact hs
  rw [(mS_ok s).1, he, hb, neE_ok]
  simp only [cond_true, cond_false]
  cases h : dAll t with
  | none =>
    have h1 : q3.ok t = false := by show dOk t = false; unfold dOk; rw [h]; rfl
    rw [h1]
    simp only [cond_false]
    unfold go3
    rw [rn3V, finn3V]
  | some l =>
    have h1 : q3.ok t = true := by show dOk t = true; unfold dOk; rw [h]; rfl
    have h2 : dL t = l := by unfold dL; rw [h]; rfl
    obtain ⟨k1, k2, k3'⟩ := dAll_ok hs h
    have h3 : q3.n t = l.length := by show (dL t).length = _; rw [h2]
    have h4 : q3.nil t = isNil l := by show isNil (dL t) = _; rw [h2]
    have h5 : q3.r t = r3 l := by show r3 (dL t) = _; rw [h2]
    rw [h1, h3, h4, h5]
    simp only [cond_true]
    cases l with
    | nil =>
      have h6 : isNil ([] : List A3) = true := rfl
      have h7 : ((0 : Int) != ((([] : List A3).length : Nat) : Int)) = false := rfl
      rw [h6, h7]
      simp only [cond_true, cond_false]
      unfold go3
      rw [rz3V, finz3V]
      have h8 : (q3.z == t) = true := by rw [beq_iff_eq, ← k1]; rfl
      rw [h8]
      rfl
    | cons a l' =>
      have h6 : isNil (a :: l') = false := rfl
      rw [h6, bne_self_eq_false]
      simp only [cond_false]
      unfold go3
      have := iterd3V q3 (M3 q3) n ki ni si t i g m f (a :: l').length (r3 (a :: l')) k3' (a :: l').length 0 700 (by omega) (by omega)
      rw [show ((0 : Nat) : Int) = 0 from rfl] at this
      rw [this, fin3V]
      obtain ⟨o1, o2⟩ := enc_at (a :: l') (by omega) k2
      have h7 : q3.oF (rowsR (r3 (a :: l'))) (a :: l').length = true := o1
      have h8 : (q3.eF (rowsR (r3 (a :: l'))) (a :: l').length == t) = true := by rw [beq_iff_eq, ← k1]; exact o2
      rw [h7, h8]
      rfl

theorem iterd3N (q : Q3) (L) (s : List UInt8) (i : Int) (g m : Nat) (f : Nat → List SV) (k : Nat) (r : R3) (hk : k ≤ 600) : ∀ (d j c : Nat), j + d = k → d < c →
    iterD T0 (C12 q) AN3 L d3 k3 [] c (T3 (.s .nils) s i g m f (vR k r) 0 (vR k r) j) = some (.exit 2, T3 (.s .nils) s i g m f (vR k r) 0 (vR k r) k)
  | 0, j, c + 1, hj, _ => by
    simp only [Nat.add_zero] at hj
    subst hj
    rw [rd3N]
    have : decide ((j : Int) < ((j : Nat) : Int)) = false := by rw [decide_eq_false_iff_not]; omega
    rw [this, cond_false]
  | d + 1, j, c + 1, hj, hc => by
    rw [rd3N]
    have h1 : decide ((j : Int) < ((k : Nat) : Int)) = true := by rw [decide_eq_true_iff]; omega
    rw [h1, goN_ok (show j < k by omega), bne_self_eq_false, bne_self_eq_false, beq_self_eq_true]
    have e1 : (j : Int) + 1 = ((j + 1 : Nat) : Int) := by omega
    rw [e1, wrap64 _ (by omega)]
    simp only [cond_true, cond_false, Bool.not_true]
    exact iterd3N q L s i g m f k r hk d (j + 1) c (by omega) (by omega)
  | _, _, 0, _, hc => by omega

theorem rest3N (s : List UInt8) (i : Int) (g m : Nat) (f : Nat → List SV) (ht : okT f m = true) : goLT (KA3 q3) (ltOf (some (.exit 0, S3 (.s .nils) s i g m f))) = yes3 := by
  rw [mid3N]
  have hs := sC_ok s
  generalize sC s = t at hs
  have he : okE q3 g m f = true := by
    unfold okE
    rw [Nat.beq_refl, Nat.beq_refl]
    exact ht
  have hb : Nat.ble t.length 600 = true := by rw [Nat.ble_eq]; exact hs
  rw [(mS_ok s).1, he, hb, neE_ok]
  simp only [cond_true, cond_false]
  cases h : dAll t with
  | none =>
    have h1 : q3.ok t = false := by show dOk t = false; unfold dOk; rw [h]; rfl
    rw [h1]
    simp only [cond_false]
    unfold go3
    rw [rn3N, finn3N]
  | some l =>
    have h1 : q3.ok t = true := by show dOk t = true; unfold dOk; rw [h]; rfl
    have h2 : dL t = l := by unfold dL; rw [h]; rfl
    obtain ⟨k1, k2, k3'⟩ := dAll_ok hs h
    have h3 : q3.n t = l.length := by show (dL t).length = _; rw [h2]
    have h4 : q3.nil t = isNil l := by show isNil (dL t) = _; rw [h2]
    have h5 : q3.r t = r3 l := by show r3 (dL t) = _; rw [h2]
    rw [h1, h3, h4, h5]
    simp only [cond_true]
    cases l with
    | nil =>
      have h6 : isNil ([] : List A3) = true := rfl
      have h7 : ((0 : Int) != ((([] : List A3).length : Nat) : Int)) = false := rfl
      rw [h6, h7]
      simp only [cond_true, cond_false]
      unfold go3
      rw [rz3N, finz3N]
      have h8 : (q3.z == t) = true := by rw [beq_iff_eq, ← k1]; rfl
      rw [h8]
      rfl
    | cons a l' =>
      have h6 : isNil (a :: l') = false := rfl
      rw [h6, bne_self_eq_false]
      simp only [cond_false]
      unfold go3
      have := iterd3N q3 (M3 q3) t i g m f (a :: l').length (r3 (a :: l')) k3' (a :: l').length 0 700 (by omega) (by omega)
      rw [show ((0 : Nat) : Int) = 0 from rfl] at this
      rw [this, fin3N]
      obtain ⟨o1, o2⟩ := enc_at (a :: l') (by omega) k2
      have h7 : q3.oF (rowsR (r3 (a :: l'))) (a :: l').length = true := o1
      have h8 : (q3.eF (rowsR (r3 (a :: l'))) (a :: l').length == t) = true := by rw [beq_iff_eq, ← k1]; exact o2
      rw [h7, h8]
      rfl

theorem all3V (n : Nat) (ki ni : Nat → Int) (si : Nat → List UInt8) (s : List UInt8) (hn : ∀ j, j < n → 0 ≤ ni j) : runP T0 (C12 q3) AN3 (L3 q3) Tryz.f3 [inpV n ki ni si, .s (.str s)] = yes3 := by
  rw [run3V]
  generalize hN : min n 30 = N
  obtain ⟨g', f', e, hf⟩ := iter3 q3 (M3 q3) n ki ni si s N hN.symm N 0 0 (chunk 3 []) 700 (by omega) (by omega) (fun j hj => by omega)
  rw [show ((0 : Nat) : Int) = 0 from rfl] at e
  rw [e]
  refine rest3V n ki ni si s N g' N f' ?_
  unfold okT
  simp only [Bool.and_eq_true, Nat.ble_eq, List.all_eq_true, List.mem_range]
  refine ⟨by omega, fun j hj => ?_⟩
  rw [hf j hj]
  show decide (0 ≤ ni j) = true
  rw [decide_eq_true_iff]
  exact hn j (by omega)
theorem all3N (s : List UInt8) : runP T0 (C12 q3) AN3 (L3 q3) Tryz.f3 [.s .nils, .s (.str s)] = yes3 := by
  rw [run3N, round3N]
  exact rest3N s 0 0 0 (chunk 3 []) rfl

theorem C12_eq (h9 : ∀ args, SoundP Tryz.prog G0 9 args (nullP (.s (.bool true)) args)) : OrcOK Tryz.prog G0 (C12 q3) :=
  putO_ok h9 (putO_ok (fun args => by rw [decGq_eq]; exact decG_ok args) (putO_ok (fun args => by rw [decRq_eq]; exact decR_ok args)
    (putO_ok (fun args => by rw [encP7q_eq]; exact encP7_ok args) (putI_ok (fun args hs => by rw [encGIq_eq]; exact encGI_ok args hs) (putI_ok (fun args hs => by rw [encGIq_eq]; exact encRI_ok args hs) failO_ok)))))
theorem soundV (h9 : ∀ args, SoundP Tryz.prog G0 9 args (nullP (.s (.bool true)) args)) (n : Nat) (ki ni : Nat → Int) (si : Nat → List UInt8) (s : List UInt8) (hn : ∀ j, j < n → 0 ≤ ni j) : SoundP Tryz.prog G0 3 [inpV n ki ni si, .s (.str s)] (.ret (.s (.bool true))) :=
  sp' (C12_eq h9) rfl Tryz.func3 (by kernel_rfl) k3 700 (all3V n ki ni si s hn)
theorem soundN (h9 : ∀ args, SoundP Tryz.prog G0 9 args (nullP (.s (.bool true)) args)) (s : List UInt8) : SoundP Tryz.prog G0 3 [.s .nils, .s (.str s)] (.ret (.s (.bool true))) :=
  sp' (C12_eq h9) rfl Tryz.func3 (by kernel_rfl) k3 700 (all3N s)

end Go.Proofs.YtkdbaijabnhniaaGreatDoor
