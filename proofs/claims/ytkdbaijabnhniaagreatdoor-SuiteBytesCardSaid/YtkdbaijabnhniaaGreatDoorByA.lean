/- Four steps of a sum, bit by bit, are one look into the table. Plain: no program. -/
import Derived.Test.YtkdbaijabnhniaaGreatDoorCoB
import Derived.Test.YtkdbaijabnhniaaGreatDoorCoC
namespace Go.CrcBits

/-- one bit -/
def bsN (x : Nat) : Nat := if 16777216 ≤ x * 2 then (x * 2) ^^^ 25578747 else x * 2
def tabN : List Nat := [0, 8801531, 9098509, 825846, 9692897, 1419802, 1651692, 10452759, 10584377, 2608578, 2839604, 11344079, 3303384, 11807523, 12104405, 4128302]
def halfN (y : Nat) : Nat := ((y * 16) % 16777216) ^^^ tabN.getD (y / 1048576) 0

/-- the same on 24 bits -/
def bsB (x : BitVec 24) : BitVec 24 := (x <<< 1) ^^^ (if x.msb then 8801531#24 else 0#24)

theorem bsB_xor (x y : BitVec 24) : bsB (x ^^^ y) = bsB x ^^^ bsB y := by
  unfold bsB
  rw [BitVec.shiftLeft_xor_distrib, BitVec.msb_xor]
  have k : ∀ a b c d : BitVec 24, (a ^^^ b) ^^^ (c ^^^ d) = (a ^^^ c) ^^^ (b ^^^ d) := fun a b c d => by ac_rfl
  cases x.msb <;> cases y.msb
  · simp
  · simp [BitVec.xor_assoc]
  · simp only [Bool.xor_false, if_true, Bool.false_eq_true, if_false]
    rw [k]
    simp
  · simp only [Bool.xor_true, Bool.not_true, if_true, Bool.false_eq_true, if_false]
    rw [k, BitVec.xor_self]

theorem bsN_lt (x : Nat) (h : x < 16777216) : bsN x < 16777216 ∧ BitVec.ofNat 24 (bsN x) = bsB (BitVec.ofNat 24 x) := by
  have hm : (BitVec.ofNat 24 x).msb = decide (8388608 ≤ x) := by
    rw [BitVec.msb_eq_decide]
    simp only [BitVec.toNat_ofNat]
    have : x % 2 ^ 24 = x := Nat.mod_eq_of_lt h
    rw [this]
  unfold bsN bsB
  rw [hm]
  have hs : BitVec.ofNat 24 x <<< 1 = BitVec.ofNat 24 (x * 2) := by
    apply BitVec.eq_of_toNat_eq
    simp only [BitVec.toNat_shiftLeft, BitVec.toNat_ofNat, Nat.shiftLeft_eq]
    omega
  rw [hs]
  by_cases hx : 8388608 ≤ x
  · rw [if_pos (by omega), decide_eq_true hx, if_pos rfl]
    have e : BitVec.ofNat 24 ((x * 2) ^^^ 25578747) = BitVec.ofNat 24 (x * 2) ^^^ 8801531#24 := by
      rw [BitVec.ofNat_xor]
      rfl
    refine ⟨?_, e⟩
    have h1 : (x * 2) ^^^ 25578747 = ((x * 2 - 16777216) ^^^ 8801531) := by
      have a1 : x * 2 = (1 <<< 24) ||| (x * 2 - 16777216) := by
        rw [← Nat.shiftLeft_add_eq_or_of_lt (by omega : x * 2 - 16777216 < 2 ^ 24)]
        rw [Nat.shiftLeft_eq]
        omega
      have a2 : x * 2 = 16777216 ^^^ (x * 2 - 16777216) := by
        apply Nat.eq_of_testBit_eq
        intro i
        conv => lhs; rw [a1]
        rw [Nat.testBit_or, Nat.testBit_xor]
        have hb : (1 <<< 24 : Nat) = 2 ^ 24 := rfl
        have hb2 : (16777216 : Nat) = 2 ^ 24 := rfl
        rw [hb, hb2, Nat.testBit_two_pow]
        by_cases hi : 24 = i
        · subst hi
          rw [Nat.testBit_lt_two_pow (by omega : x * 2 - 2 ^ 24 < 2 ^ 24)]
          simp
        · simp [hi]
      have a3 : (25578747 : Nat) = 16777216 ^^^ 8801531 := by decide
      generalize x * 2 - 16777216 = z at a2 ⊢
      rw [a2, a3]
      have c : (16777216 ^^^ z) ^^^ (16777216 ^^^ 8801531) = (16777216 ^^^ 16777216) ^^^ (z ^^^ 8801531) := by
        ac_rfl
      rw [c, Nat.xor_self, Nat.zero_xor]
    rw [h1]
    exact Nat.xor_lt_two_pow (n := 24) (by omega) (by decide)
  · rw [if_neg (by omega), decide_eq_false hx]
    refine ⟨by omega, by simp⟩

theorem bs4 (y : Nat) (h : y < 16777216) : halfN y = bsN (bsN (bsN (bsN y))) := by
  obtain ⟨l1, e1⟩ := bsN_lt y h
  obtain ⟨l2, e2⟩ := bsN_lt _ l1
  obtain ⟨l3, e3⟩ := bsN_lt _ l2
  obtain ⟨l4, e4⟩ := bsN_lt _ l3
  have hE : BitVec.ofNat 24 (bsN (bsN (bsN (bsN y)))) = bsB (bsB (bsB (bsB (BitVec.ofNat 24 y)))) := by rw [e4, e3, e2, e1]
  have hy : y / 1048576 < 16 := by omega
  have hlo : y % 1048576 < 1048576 := Nat.mod_lt _ (by omega)
  have split : BitVec.ofNat 24 y = BitVec.ofNat 24 (y / 1048576 * 1048576) ^^^ BitVec.ofNat 24 (y % 1048576) := by
    rw [← BitVec.ofNat_xor]
    congr 1
    have : y = y / 1048576 * 1048576 + y % 1048576 := by omega
    conv => lhs; rw [this]
    generalize y / 1048576 = a
    generalize hb : y % 1048576 = b at hlo
    have e := Nat.shiftLeft_add_eq_or_of_lt (i := 20) (by omega : b < 2 ^ 20) a
    rw [Nat.shiftLeft_eq] at e
    rw [show (1048576 : Nat) = 2 ^ 20 from rfl, e]
    apply Nat.eq_of_testBit_eq
    intro i
    rw [Nat.testBit_or, Nat.testBit_xor, Nat.testBit_mul_two_pow]
    by_cases hi : 20 ≤ i
    · have : b.testBit i = false := Nat.testBit_lt_two_pow (Nat.lt_of_lt_of_le (by omega : b < 2 ^ 20) (Nat.pow_le_pow_right (by omega) hi))
      simp [hi, this]
    · simp [hi]
  have lo4 : bsB (bsB (bsB (bsB (BitVec.ofNat 24 (y % 1048576))))) = BitVec.ofNat 24 (y % 1048576 * 16) := by
    generalize y % 1048576 = z at hlo
    have st : ∀ w, w < 8388608 → bsB (BitVec.ofNat 24 w) = BitVec.ofNat 24 (w * 2) := fun w hw => by
      rw [← (bsN_lt w (by omega)).2]
      unfold bsN
      rw [if_neg (by omega)]
    rw [st z (by omega), st (z * 2) (by omega), st (z * 2 * 2) (by omega), st (z * 2 * 2 * 2) (by omega)]
    congr 1
    omega
  have hi4 : ∀ a : Fin 16, bsB (bsB (bsB (bsB (BitVec.ofNat 24 (a.val * 1048576))))) = BitVec.ofNat 24 (tabN.getD a.val 0) := by decide
  have hH := hi4 ⟨y / 1048576, hy⟩
  simp only at hH
  have total : BitVec.ofNat 24 (bsN (bsN (bsN (bsN y)))) = BitVec.ofNat 24 (halfN y) := by
    rw [hE, split, bsB_xor, bsB_xor, bsB_xor, bsB_xor, hH, lo4]
    unfold halfN
    rw [BitVec.ofNat_xor, BitVec.xor_comm]
    congr 1
    apply BitVec.eq_of_toNat_eq
    simp only [BitVec.toNat_ofNat]
    omega
  have hlt : halfN y < 16777216 := by
    unfold halfN
    have ht : ∀ a : Fin 16, tabN.getD a.val 0 < 16777216 := by decide
    exact Nat.xor_lt_two_pow (n := 24) (by omega) (ht ⟨y / 1048576, hy⟩)
  have := congrArg BitVec.toNat total
  simp only [BitVec.toNat_ofNat] at this
  rw [Nat.mod_eq_of_lt l4, Nat.mod_eq_of_lt hlt] at this
  exact this.symm

end Go.CrcBits

namespace Go.Proofs.YtkdbaijabnhniaaGreatDoor
open Go.Ev
set_option maxRecDepth 100000

noncomputable def LX2 (an : Ann) (C : Orc) (ks : List Nat) (rounds : Nat) : Code → St → LT := loopD T0 C an (fun _ => ks) (fun _ => []) rounds 2
theorem sp2 {C : Orc} (hC : OrcOK Tryz.prog G0 C) {an : Ann} (hg : an.glob = G0.tab) {f : FuncId} {fn : Func} (hf : Tryz.prog.funcs[f]? = some fn) (hb : fn.body.isNone = false) {args : List AV} {v : AV} (ks : List Nat) (rounds : Nat)
    (h : runP T0 C an (LX2 an C ks rounds) fn args = some (.ret v)) : SoundP Tryz.prog G0 f args (.ret v) := by
  obtain ⟨c, hc⟩ := some_of_isNone hb
  have A : Oks Tryz.prog G0 T0 C an := ⟨T0_ok, hg, callOK hC hg, mixed⟩
  exact runP_sound rfl A hf (name_ok hf) hc (loopD_ok A _ _ rounds 2 c) (fun l hl => by
    simp only [PR.val, Option.some.injEq] at hl
    subst hl
    exact h)

/-! ## Plain -/

def bsI (x : Int) : Int := cond (decide (IntKind.u32.wrap (x * 2) ≥ 16777216)) (IntKind.u32.wrap (((BitVec.ofInt 32 (IntKind.u32.wrap (x * 2)) ^^^ BitVec.ofInt 32 25578747).toNat : Nat) : Int)) (IntKind.u32.wrap (x * 2))

theorem bsI_eq (n : Nat) (h : n < 16777216) : bsI (n : Int) = ((CrcBits.bsN n : Nat) : Int) := by
  have e : (n : Int) * 2 = ((n * 2 : Nat) : Int) := by omega
  have o : ∀ x : Nat, x < 4294967296 → (BitVec.ofInt 32 (x : Int)).toNat = x := fun x hx => ofInt32 x hx
  unfold bsI CrcBits.bsN
  rw [e, wrap32 _ (by omega)]
  by_cases hc : 16777216 ≤ n * 2
  · rw [decide_eq_true (by omega), cond_true, if_pos hc, BitVec.toNat_xor, o _ (by omega)]
    have : (BitVec.ofInt 32 25578747).toNat = 25578747 := by decide
    rw [this]
    have hx : (n * 2) ^^^ 25578747 < 2 ^ 25 := Nat.xor_lt_two_pow (by omega) (by decide)
    rw [wrap32 _ (by omega)]
  · rw [decide_eq_false (by omega), cond_false, if_neg hc]

theorem tab_eq : ∀ i : Fin 16, tabAt i.val = ((CrcBits.tabN.getD i.val 0 : Nat) : Int) := by decide

theorem half_eq (n : Nat) (h : n < 16777216) : half (n : Int) = ((CrcBits.halfN n : Nat) : Int) := by
  have e : (n : Int) * 16 = ((n * 16 : Nat) : Int) := by omega
  have hd : ((n : Int).fdiv 1048576).toNat = n / 1048576 := by
    rw [Int.fdiv_eq_ediv_of_nonneg _ (by omega)]
    omega
  unfold half
  rw [e, wrap32 (n * 16) (by omega), hd, BitVec.toNat_and, ofInt32 (n * 16) (by omega)]
  have m : (BitVec.ofInt 32 16777215).toNat = 2 ^ 24 - 1 := by decide
  rw [m, Nat.and_two_pow_sub_one_eq_mod]
  have ht := tab_eq ⟨n / 1048576, by omega⟩
  simp only at ht
  rw [ht, wrap32 (n * 16 % 2 ^ 24) (by omega), BitVec.toNat_xor, ofInt32 (n * 16 % 2 ^ 24) (by omega)]
  have ht2 : ∀ a : Fin 16, CrcBits.tabN.getD a.val 0 < 16777216 := by decide
  have ht3 := ht2 ⟨n / 1048576, by omega⟩
  simp only at ht3
  rw [ofInt32 _ (by omega)]
  have hx : (n * 16 % 2 ^ 24) ^^^ CrcBits.tabN.getD (n / 1048576) 0 < 2 ^ 24 := Nat.xor_lt_two_pow (by omega) (by omega)
  rw [wrap32 _ (by omega)]
  rfl

theorem bs4I (y : Int) (h0 : 0 ≤ y) (h1 : y < 16777216) : bsI (bsI (bsI (bsI y))) = half y := by
  obtain ⟨n, rfl⟩ := Int.eq_ofNat_of_zero_le h0
  have hn : n < 16777216 := by omega
  obtain ⟨a1, _⟩ := CrcBits.bsN_lt n hn
  obtain ⟨a2, _⟩ := CrcBits.bsN_lt _ a1
  obtain ⟨a3, _⟩ := CrcBits.bsN_lt _ a2
  rw [bsI_eq n hn, bsI_eq _ a1, bsI_eq _ a2, bsI_eq _ a3, half_eq n hn, CrcBits.bs4 n hn]

theorem bs8I (x : Int) (b : UInt8) (h0 : 0 ≤ x) (h1 : x < 16777216) : bsI (bsI (bsI (bsI (bsI (bsI (bsI (bsI (xa x b)))))))) = crcStep x b := by
  obtain ⟨a1, a2⟩ := xa24 (b := b) h0 h1
  obtain ⟨b1, b2⟩ := half24 (xa x b)
  rw [bs4I _ a1 a2, bs4I _ b1 b2]
  rfl

/-! ## The document's On -/

noncomputable def B36 : Code := (Tryz.f36.body).getD .skip
noncomputable def c36 : Code := subC [1, 1, 0, 1, 0, 0] B36
noncomputable def d36 : Code := subC [1, 0, 0, 1, 1, 0, 0] c36
def k36 : List Nat := [1, 4, 5, 6, 7]
def S36 (s : List UInt8) (x i : Int) (v : AV) : St := St.mk (lookA [(1, .s (.str s)), (4, .s (.int .u32 0)), (5, .s (.int .u32 x)), (6, .s (.int .i64 i)), (7, v)]) (lookB []) [] 0 35 34
def vk (k : Int) : AV := .s (.int .i64 k)
noncomputable def M36 (m : Nat) : Code → St → LT := loopD T0 failO AN (fun _ => k36) (fun _ => []) m 1
noncomputable def N36 (m : Nat) : Code → St → LT := loopD T0 failO AN (fun _ => k36) (fun _ => []) m 0
noncomputable def X36 (m n : Nat) : Ex → St → Option (Ex × St) := fun e st' => match e with
  | .normal => iterD T0 failO AN (M36 m) c36 k36 [] n (st'.cut k36 [])
  | e => some (e, st'.cut k36 [])

theorem inner36 (L) (s : List UInt8) (x i k : Int) (n : Nat) : iterD T0 failO AN L d36 k36 [] (n + 1) (S36 s x i (vk k)) =
    cond (decide (k < 8)) (cond (decide (IntKind.u32.wrap (x * 2) ≥ 16777216))
      (iterD T0 failO AN L d36 k36 [] n (S36 s (IntKind.u32.wrap (((BitVec.ofInt 32 (IntKind.u32.wrap (x * 2)) ^^^ BitVec.ofInt 32 25578747).toNat : Nat) : Int)) i (vk (IntKind.i64.wrap (k + 1)))))
      (iterD T0 failO AN L d36 k36 [] n (S36 s (IntKind.u32.wrap (x * 2)) i (vk (IntKind.i64.wrap (k + 1)))))) (some (.exit 2, S36 s x i (vk k))) := by kernel_rfl
theorem inner36' (L) (s : List UInt8) (x i : Int) (k n : Nat) (h : k < 8) : iterD T0 failO AN L d36 k36 [] (n + 1) (S36 s x i (vk (k : Int))) = iterD T0 failO AN L d36 k36 [] n (S36 s (bsI x) i (vk ((k + 1 : Nat) : Int))) := by
  rw [inner36, decide_eq_true (by omega : (k : Int) < 8), cond_true, show (k : Int) + 1 = ((k + 1 : Nat) : Int) by omega, wrap64 _ (by omega)]
  unfold bsI
  cases decide (IntKind.u32.wrap (x * 2) ≥ 16777216) <;> rfl
theorem all36 (L) (s : List UInt8) (x i : Int) (n : Nat) : iterD T0 failO AN L d36 k36 [] (n + 9) (S36 s x i (vk 0)) = some (.exit 2, S36 s (bsI (bsI (bsI (bsI (bsI (bsI (bsI (bsI x)))))))) i (vk 8)) := by
  have h := inner36' L s x i 0 (n + 8) (by omega)
  rw [show ((0 : Nat) : Int) = 0 from rfl] at h
  rw [h, inner36' _ _ _ _ (0 + 1) (n + 7) (by omega), inner36' _ _ _ _ (0 + 1 + 1) (n + 6) (by omega), inner36' _ _ _ _ (0 + 1 + 1 + 1) (n + 5) (by omega), inner36' _ _ _ _ (0 + 1 + 1 + 1 + 1) (n + 4) (by omega),
    inner36' _ _ _ _ (0 + 1 + 1 + 1 + 1 + 1) (n + 3) (by omega), inner36' _ _ _ _ (0 + 1 + 1 + 1 + 1 + 1 + 1) (n + 2) (by omega), inner36' _ _ _ _ (0 + 1 + 1 + 1 + 1 + 1 + 1 + 1) (n + 1) (by omega), inner36]
  rfl

theorem round36u (s : List UInt8) (x i : Int) (m n : Nat) : iterD T0 failO AN (M36 m) c36 k36 [] (n + 1) (S36 s x i .undef) =
    cond (decide (i < ((s.length : Nat) : Int))) (cond (decide (0 ≤ i) && decide (i < ((s.length : Nat) : Int)))
      (goLT (blockK 2 (blockK 1 (thenK T0 failO AN (M36 m) (subC [1, 1] c36) (X36 m n)))) (ltOf (iterD T0 failO AN (N36 m) d36 k36 [] m (S36 s (xa x (s.getD i.toNat 0)) i (vk 0))))) none) (some (.exit 0, S36 s x i .undef)) := by kernel_rfl
theorem round36 (s : List UInt8) (x i k : Int) (m n : Nat) : iterD T0 failO AN (M36 m) c36 k36 [] (n + 1) (S36 s x i (vk k)) =
    cond (decide (i < ((s.length : Nat) : Int))) (cond (decide (0 ≤ i) && decide (i < ((s.length : Nat) : Int)))
      (goLT (blockK 2 (blockK 1 (thenK T0 failO AN (M36 m) (subC [1, 1] c36) (X36 m n)))) (ltOf (iterD T0 failO AN (N36 m) d36 k36 [] m (S36 s (xa x (s.getD i.toNat 0)) i (vk 0))))) none) (some (.exit 0, S36 s x i (vk k))) := by kernel_rfl
theorem end36i (s : List UInt8) (x i k : Int) (m n : Nat) : goLT (blockK 2 (blockK 1 (thenK T0 failO AN (M36 m) (subC [1, 1] c36) (X36 m n)))) (ltOf (some (.exit 2, S36 s x i (vk k)))) = iterD T0 failO AN (M36 m) c36 k36 [] n (S36 s x (IntKind.i64.wrap (i + 1)) (vk k)) := by kernel_rfl

noncomputable def K36 : Ex → St → Option PR := finP T0 AN Tryz.f36.results.toList
theorem run36 (s : List UInt8) (m : Nat) : runP T0 failO AN (LX2 AN failO k36 m) Tryz.f36 [.s (.int .u32 11994318), .s (.str s)] =
    goLT (blockK 0 (thenK T0 failO AN (LX2 AN failO k36 m) (subC [1, 1, 1] B36) K36)) (ltOf (iterD T0 failO AN (M36 m) c36 k36 [] m (S36 s 11994318 0 .undef))) := by kernel_rfl
theorem end36 (L) (s : List UInt8) (x i k : Int) : goLT (blockK 0 (thenK T0 failO AN L (subC [1, 1, 1] B36) K36)) (ltOf (some (.exit 0, S36 s x i (vk k)))) = some (.ret (.s (.int .u32 x))) := by kernel_rfl
theorem end36u (L) (s : List UInt8) (x i : Int) : goLT (blockK 0 (thenK T0 failO AN L (subC [1, 1, 1] B36) K36)) (ltOf (some (.exit 0, S36 s x i .undef))) = some (.ret (.s (.int .u32 x))) := by kernel_rfl

theorem step36 (s : List UInt8) (hs : s.length < 9223372036854775807) (x : Int) (i m n : Nat) (hi : i < s.length) (h0 : 0 ≤ x) (h1 : x < 16777216) :
    (cond (decide ((i : Int) < ((s.length : Nat) : Int))) (cond (decide (0 ≤ (i : Int)) && decide ((i : Int) < ((s.length : Nat) : Int)))
      (goLT (blockK 2 (blockK 1 (thenK T0 failO AN (M36 (m + 9)) (subC [1, 1] c36) (X36 (m + 9) n)))) (ltOf (iterD T0 failO AN (N36 (m + 9)) d36 k36 [] (m + 9) (S36 s (xa x (s.getD (i : Int).toNat 0)) i (vk 0))))) none) (some (.exit 0, S36 s x i .undef)))
    = iterD T0 failO AN (M36 (m + 9)) c36 k36 [] n (S36 s (crcStep x s[i]) ((i + 1 : Nat) : Int) (vk 8)) := by
  have c1 : (decide ((i : Int) < ((s.length : Nat) : Int))) = true := by simp; omega
  have c2 : (decide (0 ≤ (i : Int))) = true := by simp
  rw [c1, c2, Bool.and_true, cond_true, cond_true, all36, bs8I x _ h0 h1, end36i, show (i : Int) + 1 = ((i + 1 : Nat) : Int) by omega, wrap64 _ (by omega)]
  have e2 : s.getD (i : Int).toNat 0 = s[i] := by simp [List.getD_eq_getElem?_getD, hi]
  rw [e2]

theorem iter36 (s : List UInt8) (hs : s.length < 9223372036854775807) (m : Nat) : ∀ (j i : Nat) (x : Int) (n : Nat), j + i = s.length → j < n → 0 ≤ x → x < 16777216 →
    iterD T0 failO AN (M36 (m + 9)) c36 k36 [] n (S36 s x i (vk 8)) = some (.exit 0, S36 s ((s.drop i).foldl crcStep x) s.length (vk 8))
  | 0, i, x, n + 1, hk, hn, h0, h1 => by
    rw [round36]
    have : (decide ((i : Int) < ((s.length : Nat) : Int))) = false := by simp; omega
    rw [this, cond_false]
    have e : i = s.length := by omega
    subst e
    rw [List.drop_length]
    rfl
  | j + 1, i, x, n + 1, hk, hn, h0, h1 => by
    have hi : i < s.length := by omega
    have st := step36 s hs x i m n hi h0 h1
    rw [round36]
    have c1 : (decide ((i : Int) < ((s.length : Nat) : Int))) = true := by simp; omega
    rw [c1, cond_true] at st ⊢
    rw [st]
    obtain ⟨d1, d2⟩ := half24 (half (xa x s[i]))
    rw [iter36 s hs m j (i + 1) (crcStep x s[i]) n (by omega) (by omega) d1 d2, List.drop_eq_getElem_cons hi, List.foldl_cons]
  | _, _, _, 0, _, hn, _, _ => by omega

theorem on_run (s : List UInt8) (hs : s.length < 1000000000000) : runP T0 failO AN (LX2 AN failO k36 (s.length + 9)) Tryz.f36 [.s (.int .u32 11994318), .s (.str s)] = some (.ret (.s (.int .u32 (crcF s)))) := by
  rw [run36]
  have hz : ((0 : Nat) : Int) = 0 := rfl
  rcases Nat.eq_zero_or_pos s.length with h | h
  · have e : s = [] := List.eq_nil_of_length_eq_zero h
    subst e
    rw [show ([] : List UInt8).length + 9 = 8 + 1 from rfl, round36u]
    have : (decide ((0 : Int) < (((([] : List UInt8).length) : Nat) : Int))) = false := rfl
    rw [this, cond_false, end36u]
    rfl
  · have st := step36 s (by omega) 11994318 0 s.length (s.length + 8) h (by omega) (by omega)
    rw [hz] at st
    rw [show iterD T0 failO AN (M36 (s.length + 9)) c36 k36 [] (s.length + 9) (S36 s 11994318 0 .undef) = iterD T0 failO AN (M36 (s.length + 9)) c36 k36 [] (s.length + 8 + 1) (S36 s 11994318 0 .undef) from rfl, round36u, st]
    obtain ⟨d1, d2⟩ := half24 (half (xa 11994318 s[0]))
    rw [iter36 s (by omega) s.length (s.length - 1) (0 + 1) (crcStep 11994318 s[0]) (s.length + 8) (by omega) (by omega) d1 d2, end36]
    have e3 : crcF s = List.foldl crcStep (crcStep 11994318 s[0]) (List.drop (0 + 1) s) := by
      unfold crcF
      have := List.drop_eq_getElem_cons h
      rw [List.drop_zero] at this
      conv => lhs; rw [this, List.foldl_cons]
    rw [e3]

theorem onR_ok (args : List AV) : SoundP Tryz.prog G0 36 args (onP args) := by
  unfold onP
  split
  · rename_i n s
    refine brP fun hc => ?_
    simp only [Bool.and_eq_true, decide_eq_true_eq, Nat.blt_eq] at hc
    obtain ⟨rfl, hl⟩ := hc
    exact sp2 failO_ok rfl Tryz.func36 (by kernel_rfl) k36 (s.length + 9) (on_run s hl)
  · exact failP

/-! ## Of, Seal, Open -/

noncomputable def D1 : Orc := putO 36 onP failO
theorem D1_ok : OrcOK Tryz.prog G0 D1 := putO_ok onR_ok failO_ok
theorem run31 (s : List UInt8) : runP T0 D1 AN (LD D1 [] 0) Tryz.f31 [.s (.str s)] = cond (Nat.blt s.length 1000000000000) (some (.ret (.s (.int .u32 (crcF s))))) none := by kernel_rfl
theorem ofR_ok (args : List AV) : SoundP Tryz.prog G0 31 args (ofP args) := by
  unfold ofP
  split
  · rename_i s
    refine brP fun hc => ?_
    exact sp D1_ok Tryz.func31 (by kernel_rfl) [] 0 (by rw [run31, hc, cond_true])
  · exact failP

noncomputable def D2 : Orc := putO 31 ofP failO
theorem D2_ok : OrcOK Tryz.prog G0 D2 := putO_ok ofR_ok failO_ok
def tailR (n : Int) : List UInt8 := [b8 (IntKind.u32.wrap (n.tdiv 65536)), b8 ((IntKind.u32.wrap (n.tdiv 256)).tmod 256), b8 (n.tmod 256)]
theorem run22 (s : List UInt8) : runP T0 D2 AN (LD D2 [] 0) Tryz.f22 [.s (.str s)] = cond (Nat.blt s.length 1000000000000) (cond (Nat.ble (s.length + 3) 4611686018427387904) (some (.ret (.s (.str (s ++ tailR (crcF s)))))) none) none := by kernel_rfl

theorem crc24 (s : List UInt8) : 0 ≤ crcF s ∧ crcF s < 16777216 := by
  unfold crcF
  have key : ∀ (l : List UInt8) (x : Int), 0 ≤ x → x < 16777216 → 0 ≤ l.foldl crcStep x ∧ l.foldl crcStep x < 16777216 := by
    intro l
    induction l with
    | nil => intro x h0 h1; exact ⟨h0, h1⟩
    | cons b l ih =>
      intro x _ _
      obtain ⟨d1, d2⟩ := half24 (half (xa x b))
      exact ih _ d1 d2
  exact key s _ (by omega) (by omega)

theorem b8_eq (a b : Int) (h : a % 256 = b % 256) : b8 a = b8 b := by
  unfold b8
  rw [IntKind.wrap_u8, IntKind.wrap_u8, h]

theorem tailR_eq (n : Int) (h0 : 0 ≤ n) (h1 : n < 16777216) : tailR n = tail3 n := by
  have w : ∀ z : Int, 0 ≤ z → z < 16777216 → IntKind.u32.wrap z = z := fun z a b => IntWalk.u32_in z (by omega)
  unfold tailR tail3
  rw [Int.tdiv_eq_ediv_of_nonneg h0, Int.tdiv_eq_ediv_of_nonneg h0, Int.fdiv_eq_ediv_of_nonneg _ (by omega), Int.fdiv_eq_ediv_of_nonneg _ (by omega), w _ (by omega) (by omega), w _ (by omega) (by omega),
    Int.tmod_eq_emod_of_nonneg (by omega), Int.tmod_eq_emod_of_nonneg h0]
  congr 2
  · exact b8_eq _ _ (by omega)
  · congr 1
    exact b8_eq _ _ (by omega)

theorem sealR_ok (args : List AV) : SoundP Tryz.prog G0 22 args (sealP args) := by
  unfold sealP
  split
  · rename_i s
    refine brP fun hc => ?_
    have h := hc
    rw [Nat.blt_eq] at h
    have h2 : Nat.ble (s.length + 3) 4611686018427387904 = true := by rw [Nat.ble_eq]; omega
    have h3 := crc24 s
    exact sp D2_ok Tryz.func22 (by kernel_rfl) [] 0 (by rw [run22, hc, cond_true, h2, cond_true, tailR_eq _ h3.1 h3.2]; rfl)
  · exact failP

end Go.Proofs.YtkdbaijabnhniaaGreatDoor

namespace Go.Proofs.YtkdbaijabnhniaaGreatDoor
open Go.Ev
set_option maxRecDepth 100000

/-! ## Plain -/

def digs : Nat → Nat → List UInt8
  | 0, _ => []
  | j + 1, n => if n = 0 then [] else digs j (n / 256) ++ [b8 (n : Int)]
def putD (n : Nat) : List UInt8 := if n < 192 then [b8 (n : Int)] else b8 ((191 + (digs 8 n).length : Nat) : Int) :: digs 8 n

theorem valN_app (a : Nat) (l : List UInt8) (b : UInt8) : valN a (l ++ [b]) = valN a l * 256 + b.toNat := by
  unfold valN
  rw [List.foldl_append]
  rfl

theorem valN_ge (l : List UInt8) : ∀ a, a ≤ valN a l := by
  induction l with
  | nil => intro a; exact Nat.le_refl _
  | cons b l ih =>
    intro a
    have := ih (a * 256 + b.toNat)
    show a ≤ valN (a * 256 + b.toNat) l
    omega

theorem valN_lt (l : List UInt8) : valN 0 l < 256 ^ l.length := by
  have key : ∀ (l : List UInt8) (a i : Nat), a < 256 ^ i → valN a l < 256 ^ (i + l.length) := by
    intro l
    induction l with
    | nil => intro a i h; exact h
    | cons b l ih =>
      intro a i h
      have hb := b.toNat_lt
      have := ih (a * 256 + b.toNat) (i + 1) (by rw [Nat.pow_succ]; omega)
      rw [show i + 1 + l.length = i + (b :: l).length by simp; omega] at this
      exact this
  have := key l 0 0 (by simp)
  simpa using this

theorem u8_eq {a b : UInt8} (h : a.toNat = b.toNat) : a = b := UInt8.toNat_inj.1 h
theorem b8_of (b : UInt8) : b8 ((b.toNat : Nat) : Int) = b := by
  apply u8_eq
  have := b.toNat_lt
  rw [b8_nat]
  omega

/-- digits of a number that digits are, the first one not being nought -/
theorem digs_val (j : Nat) (l : List UInt8) (hl : l.length ≤ j) (hz : ∀ b t, l = b :: t → b.toNat ≠ 0) : digs j (valN 0 l) = l := by
  induction j generalizing l with
  | zero =>
    have : l = [] := List.eq_nil_of_length_eq_zero (by omega)
    rw [this]
    rfl
  | succ j ih =>
    rcases List.eq_nil_or_concat l with e | ⟨l', b, e⟩
    · rw [e]; rfl
    · rw [List.concat_eq_append] at e
      subst e
      rw [valN_app]
      have hb := b.toNat_lt
      have hpos : valN 0 l' * 256 + b.toNat ≠ 0 := by
        cases l' with
        | nil =>
          have := hz b [] rfl
          omega
        | cons c t =>
          have h1 := hz c (t ++ [b]) rfl
          have h2 := valN_ge t (0 * 256 + c.toNat)
          have h3 : valN 0 (c :: t) = valN (0 * 256 + c.toNat) t := rfl
          omega
      have e1 : (valN 0 l' * 256 + b.toNat) / 256 = valN 0 l' := by omega
      have e2 : b8 ((valN 0 l' * 256 + b.toNat : Nat) : Int) = b := by
        apply u8_eq
        rw [b8_nat]
        omega
      unfold digs
      rw [if_neg hpos, e1, e2, ih l' (by simp at hl; omega) (fun c t h => hz c (t ++ [b]) (by rw [h]; rfl))]

theorem digs_head (j n : Nat) (h0 : 0 < n) (h : n < 256 ^ j) : ∃ b t, digs j n = b :: t ∧ b.toNat ≠ 0 := by
  induction j generalizing n with
  | zero => simp at h; omega
  | succ j ih =>
    unfold digs
    rw [if_neg (by omega)]
    by_cases h1 : n < 256
    · have e : n / 256 = 0 := by omega
      rw [e]
      have e2 : digs j 0 = [] := by cases j <;> rfl
      rw [e2]
      refine ⟨b8 (n : Int), [], rfl, ?_⟩
      rw [b8_nat]
      omega
    · obtain ⟨b, t, e, hb⟩ := ih (n / 256) (by omega) (by rw [Nat.pow_succ] at h; omega)
      rw [e]
      exact ⟨b, t ++ [b8 (n : Int)], rfl, hb⟩

theorem putD_of (m x : Nat) (c : UInt8) (l : List UInt8) (hc : c.toNat = 191 + m) (h8 : m ≤ 8) (hl : l.length = m) (hv : valN 0 l = x) (hx : 192 ≤ x) (hz : ∀ b t, l = b :: t → b.toNat ≠ 0) : putD x = c :: l := by
  have e := digs_val 8 l (by omega) hz
  rw [hv] at e
  unfold putD
  rw [if_neg (by omega), e, hl, ← hc, b8_of]

theorem putB_putD (x : Nat) (hx : x < 1099511627776) : putB (x : Int) = putD x := by
  unfold putB
  by_cases a0 : (x : Int) < 192
  · rw [decide_eq_true a0, cond_true]
    unfold putD
    rw [if_pos (by omega)]
  rw [decide_eq_false a0, cond_false]
  have f1 := fd x 1
  have f2 := fd x 256
  have f3 := fd x 65536
  have f4 := fd x 16777216
  have f5 := fd x 4294967296
  simp only [Int.cast_ofNat_Int] at f1 f2 f3 f4 f5
  have hd : ∀ (a : Nat) (t : List UInt8), a % 256 ≠ 0 → ∀ b t', b8 (a : Int) :: t = b :: t' → b.toNat ≠ 0 := fun a t ha b t' e => by
    injection e with e1 _
    rw [← e1, b8_nat]
    exact ha
  by_cases a1 : (x : Int) < 256
  · rw [decide_eq_true a1, cond_true, f1]
    refine (putD_of 1 x _ _ (by decide) (by omega) rfl ?_ (by omega) (hd _ _ (by omega))).symm
    simp only [valN, List.foldl_cons, List.foldl_nil, b8_nat]; omega
  rw [decide_eq_false a1, cond_false]
  by_cases a2 : (x : Int) < 65536
  · rw [decide_eq_true a2, cond_true, f1, f2]
    refine (putD_of 2 x _ _ (by decide) (by omega) rfl ?_ (by omega) (hd _ _ (by omega))).symm
    simp only [valN, List.foldl_cons, List.foldl_nil, b8_nat]; omega
  rw [decide_eq_false a2, cond_false]
  by_cases a3 : (x : Int) < 16777216
  · rw [decide_eq_true a3, cond_true, f1, f2, f3]
    refine (putD_of 3 x _ _ (by decide) (by omega) rfl ?_ (by omega) (hd _ _ (by omega))).symm
    simp only [valN, List.foldl_cons, List.foldl_nil, b8_nat]; omega
  rw [decide_eq_false a3, cond_false]
  by_cases a4 : (x : Int) < 4294967296
  · rw [decide_eq_true a4, cond_true, f1, f2, f3, f4]
    refine (putD_of 4 x _ _ (by decide) (by omega) rfl ?_ (by omega) (hd _ _ (by omega))).symm
    simp only [valN, List.foldl_cons, List.foldl_nil, b8_nat]; omega
  rw [decide_eq_false a4, cond_false, f1, f2, f3, f4, f5]
  refine (putD_of 5 x _ _ (by decide) (by omega) rfl ?_ (by omega) (hd _ _ (by omega))).symm
  simp only [valN, List.foldl_cons, List.foldl_nil, b8_nat]; omega

/-- the number at a beginning, how many bytes it has, or what is wrong -/
def getV (r : List UInt8) : Nat × Nat × Nat := match r with
  | [] => (0, 0, 2)
  | b :: t => cond (Nat.blt 199 b.toNat) (0, 0, 3) (cond (Nat.blt b.toNat 192) (b.toNat, 1, 0) (cond (Nat.blt t.length (b.toNat - 191)) (0, 0, 2)
      (cond (Nat.ble 192 (valN 0 (t.take (b.toNat - 191))) && !(Nat.beq (t.getD 0 0).toNat 0)) (valN 0 (t.take (b.toNat - 191)), 1 + (b.toNat - 191), 0) (0, 0, 3))))

theorem take_head {t : List UInt8} {m : Nat} (h : 1 ≤ m) (hz : (t.getD 0 0).toNat ≠ 0) : ∀ b t', t.take m = b :: t' → b.toNat ≠ 0 := by
  intro b t' e
  obtain ⟨k, rfl⟩ : ∃ k, m = k + 1 := ⟨m - 1, by omega⟩
  cases t with
  | nil => simp at e
  | cons c t =>
    rw [List.take_succ_cons] at e
    injection e with e1 _
    rw [← e1]
    exact hz

/-- the document's way to tell a number's bytes -/
theorem canon {b : UInt8} {t : List UInt8} (h0 : 192 ≤ b.toNat) (h1 : b.toNat ≤ 199) (hl : b.toNat - 191 ≤ t.length) :
    (putD (valN 0 (t.take (b.toNat - 191))) == b :: t.take (b.toNat - 191)) = (Nat.ble 192 (valN 0 (t.take (b.toNat - 191))) && !(Nat.beq (t.getD 0 0).toNat 0)) := by
  generalize hm : b.toNat - 191 = m at hl ⊢
  have hlen : (t.take m).length = m := by rw [List.length_take]; omega
  by_cases c1 : 192 ≤ valN 0 (t.take m)
  · have k1 : Nat.ble 192 (valN 0 (t.take m)) = true := by rw [Nat.ble_eq]; exact c1
    rw [k1, Bool.true_and]
    by_cases c2 : (t.getD 0 0).toNat = 0
    · rw [c2]
      show _ = false
      rw [beq_eq_false_iff_ne]
      intro e
      have lt := valN_lt (t.take m)
      rw [hlen] at lt
      have lt2 : (256 : Nat) ^ m ≤ 256 ^ 8 := Nat.pow_le_pow_right (by omega) (by omega)
      obtain ⟨c, t', e1, e2⟩ := digs_head 8 (valN 0 (t.take m)) (by omega) (by omega)
      unfold putD at e
      rw [if_neg (by omega)] at e
      injection e with _ e3
      rw [e1] at e3
      obtain ⟨k, rfl⟩ : ∃ k, m = k + 1 := ⟨m - 1, by omega⟩
      cases t with
      | nil => simp at e3
      | cons d t =>
        rw [List.take_succ_cons] at e3
        injection e3 with e4 _
        rw [e4] at e2
        exact e2 c2
    · have k2 : Nat.beq (t.getD 0 0).toNat 0 = false := by
        rw [Bool.eq_false_iff]
        intro q
        exact c2 (Nat.eq_of_beq_eq_true q)
      rw [k2, putD_of m _ b (t.take m) (by omega) (by omega) hlen rfl c1 (take_head (by omega) c2)]
      simp
  · have k1 : Nat.ble 192 (valN 0 (t.take m)) = false := by rw [Bool.eq_false_iff]; intro q; rw [Nat.ble_eq] at q; exact c1 q
    rw [k1, Bool.false_and]
    simp only [beq_eq_false_iff_ne]
    intro e
    unfold putD at e
    rw [if_pos (by omega)] at e
    injection e with _ e2
    have := congrArg List.length e2
    rw [hlen] at this
    simp at this
    omega

/-- what is read is written so -/
theorem getV_put {r : List UInt8} {n k : Nat} (h : getV r = (n, k, 0)) : r.take k = putD n ∧ 1 ≤ k ∧ k ≤ r.length := by
  unfold getV at h
  split at h
  · simp at h
  · rename_i b t
    have hb := b.toNat_lt
    cases c1 : Nat.blt 199 b.toNat
    · rw [c1, cond_false] at h
      have c1' : ¬ 199 < b.toNat := by rw [← Nat.blt_eq, c1]; simp
      cases c2 : Nat.blt b.toNat 192
      · rw [c2, cond_false] at h
        have c2' : ¬ b.toNat < 192 := by rw [← Nat.blt_eq, c2]; simp
        cases c3 : Nat.blt t.length (b.toNat - 191)
        · rw [c3, cond_false] at h
          have c3' : ¬ t.length < b.toNat - 191 := by rw [← Nat.blt_eq, c3]; simp
          rw [← canon (by omega) (by omega) (by omega)] at h
          cases c4 : (putD (valN 0 (t.take (b.toNat - 191))) == b :: t.take (b.toNat - 191))
          · rw [c4] at h; simp at h
          · rw [c4, cond_true] at h
            injection h with h1 h2
            injection h2 with h2 _
            rw [beq_iff_eq] at c4
            rw [h1] at c4
            rw [← h2, Nat.add_comm, List.take_succ_cons, c4]
            refine ⟨rfl, by omega, by simp; omega⟩
        · rw [c3] at h; simp at h
      · rw [c2, cond_true] at h
        have c2' : b.toNat < 192 := by rw [← Nat.blt_eq, c2]
        injection h with h1 h2
        injection h2 with h2 _
        rw [← h1, ← h2]
        unfold putD
        rw [if_pos c2', b8_of]
        refine ⟨rfl, by omega, by simp⟩
    · rw [c1] at h; simp at h

/-- what is written is read so -/
theorem getV_of (x : Nat) (hx : x < 18446744073709551616) (rest : List UInt8) : getV (putD x ++ rest) = (x, (putD x).length, 0) := by
  unfold putD
  by_cases c1 : x < 192
  · rw [if_pos c1]
    simp only [List.cons_append, List.nil_append, getV, b8_nat]
    have e : x % 256 = x := by omega
    have k1 : Nat.blt 199 x = false := by rw [Bool.eq_false_iff]; intro q; rw [Nat.blt_eq] at q; omega
    have k2 : Nat.blt x 192 = true := by rw [Nat.blt_eq]; omega
    rw [e, k1, k2]
    rfl
  · rw [if_neg c1]
    have dl : ∀ j n, n < 256 ^ j → (digs j n).length ≤ j ∧ valN 0 (digs j n) = n := by
      intro j
      induction j with
      | zero => intro n h; simp at h; subst h; exact ⟨Nat.le_refl _, rfl⟩
      | succ j ih =>
        intro n h
        unfold digs
        by_cases hn : n = 0
        · rw [if_pos hn]; subst hn; exact ⟨Nat.zero_le _, rfl⟩
        · rw [if_neg hn]
          obtain ⟨i1, i2⟩ := ih (n / 256) (by rw [Nat.pow_succ] at h; omega)
          refine ⟨by simp; omega, ?_⟩
          rw [valN_app, i2, b8_nat]
          omega
    obtain ⟨d1, d2⟩ := dl 8 x hx
    obtain ⟨c, t, d3, d4⟩ := digs_head 8 x (by omega) hx
    have dpos : 1 ≤ (digs 8 x).length := by rw [d3]; simp
    have hc : (b8 ((191 + (digs 8 x).length : Nat) : Int)).toNat = 191 + (digs 8 x).length := by rw [b8_nat]; omega
    simp only [List.cons_append, getV, hc]
    have k1 : Nat.blt 199 (191 + (digs 8 x).length) = false := by rw [Bool.eq_false_iff]; intro q; rw [Nat.blt_eq] at q; omega
    have k2 : Nat.blt (191 + (digs 8 x).length) 192 = false := by rw [Bool.eq_false_iff]; intro q; rw [Nat.blt_eq] at q; omega
    have e1 : 191 + (digs 8 x).length - 191 = (digs 8 x).length := by omega
    have k3 : Nat.blt (digs 8 x ++ rest).length (digs 8 x).length = false := by rw [Bool.eq_false_iff]; intro q; rw [Nat.blt_eq, List.length_append] at q; omega
    rw [k1, k2, e1, k3, List.take_left, d2]
    have k4 : Nat.ble 192 x = true := by rw [Nat.ble_eq]; omega
    have k5 : Nat.beq ((digs 8 x ++ rest).getD 0 0).toNat 0 = false := by
      rw [d3]
      rw [Bool.eq_false_iff]
      intro q
      exact d4 (Nat.eq_of_beq_eq_true q)
    rw [k4, k5]
    simp only [cond_false, Bool.not_false, Bool.and_true, cond_true, List.length_cons]
    rw [Nat.add_comm]

def gN (s : List UInt8) (p : Int) : Int := (((getV (s.drop p.toNat)).1 : Nat) : Int)
def gK (s : List UInt8) (p : Int) : Nat := (getV (s.drop p.toNat)).2.1
def gX (s : List UInt8) (p : Int) : Int := (((getV (s.drop p.toNat)).2.2 : Nat) : Int)
def gE (s : List UInt8) (p : Int) : Int := cond (Nat.beq (gK s p) 0) 0 ((p.toNat + gK s p : Nat) : Int)
def okAt (s : List UInt8) (p : Int) : Bool := decide (0 ≤ p) && Nat.ble p.toNat s.length && Nat.blt s.length 1000000000000
def getG : List AV → PR
  | [.s (.str s), .s (.int .i64 p)] => .br (okAt s p) (.ret (ret3 (gN s p) (gE s p) (gX s p))) .fail
  | _ => .fail

/-- what a run gives, by what stands there -/
def gRet (r : List UInt8) (p : Nat) : AV := ret3 (((getV r).1 : Nat) : Int) (cond (Nat.beq (getV r).2.1 0) 0 ((p + (getV r).2.1 : Nat) : Int)) (((getV r).2.2 : Nat) : Int)
theorem gRet_eq (s : List UInt8) (p : Nat) : ret3 (gN s (p : Int)) (gE s (p : Int)) (gX s (p : Int)) = gRet (s.drop p) p := by
  unfold gRet gN gE gX gK
  rw [Int.toNat_natCast]

/-! ## The program's Get -/

theorem getStep_eq' (a : Nat) (b : UInt8) (h : a < 72057594037927936) : getStep a b = ((a * 256 + b.toNat : Nat) : Int) := by
  have hb := b.toNat_lt
  unfold getStep
  have e : (a : Int) * 256 = ((a * 256 : Nat) : Int) := by omega
  rw [e, IntWalk.u64_in ((a * 256 : Nat) : Int) (by omega), IntWalk.u64_in ((b.toNat : Nat) : Int) (by omega), BitVec.toNat_or]
  have o : ∀ x : Nat, x < 18446744073709551616 → (BitVec.ofInt 64 (x : Int)).toNat = x := fun x hx => by
    simp only [BitVec.toNat_ofInt]
    omega
  rw [o _ (by omega), o _ (by omega)]
  have k : a * 256 ||| b.toNat = a * 256 + b.toNat := by
    have := Nat.shiftLeft_add_eq_or_of_lt (b := b.toNat) (i := 8) hb a
    rw [Nat.shiftLeft_eq] at this
    exact this.symm
  rw [k]
  exact IntWalk.u64_in _ (by omega)

theorem iter26' (C : Orc) (L) (r : List UInt8) (p : Int) (m : Nat) (hm : m ≤ 8) (hr : m < r.length) (hr2 : r.length < 9223372036854775807) : ∀ (j i a n : Nat), j + i = m → j < n → a < 256 ^ i →
    iterD T0 C AN L c26 k26 [] n (S26 r p m a i) = some (.exit 1, S26 r p m ((valN a ((r.drop (1 + i)).take j) : Nat) : Int) m)
  | 0, i, a, n + 1, hj, hn, ha => by
    rw [round26]
    have e : i = m := by omega
    subst e
    have : (decide ((i : Int) < ((i : Nat) : Int))) = false := by simp
    rw [this, cond_false, List.take_zero]
    rfl
  | j + 1, i, a, n + 1, hj, hn, ha => by
    rw [round26]
    have c1 : (decide ((i : Int) < ((m : Nat) : Int))) = true := by simp; omega
    have e0 : (1 : Int) + (i : Int) = ((1 + i : Nat) : Int) := by omega
    have c2 : (decide ((0 : Int) ≤ ((1 + i : Nat) : Int)) && decide (((1 + i : Nat) : Int) < lenI r)) = true := by
      unfold lenI
      simp only [Bool.and_eq_true, decide_eq_true_eq]
      omega
    rw [c1, cond_true, e0, wrap64 _ (by omega), c2, cond_true]
    have hp : 256 ^ i ≤ 256 ^ 7 := Nat.pow_le_pow_right (by omega) (by omega)
    have hb := (r.getD (1 + i) 0).toNat_lt
    have ha2 : a * 256 + (r.getD (1 + i) 0).toNat < 256 ^ (i + 1) := by rw [Nat.pow_succ]; omega
    have e1 : (i : Int) + 1 = ((i + 1 : Nat) : Int) := by omega
    rw [Int.toNat_natCast, getStep_eq' a _ (by omega), e1, wrap64 _ (by omega), iter26' C L r p m hm hr hr2 j (i + 1) _ n (by omega) (by omega) ha2]
    have hi : 1 + i < r.length := by omega
    rw [List.drop_eq_getElem_cons hi, List.take_succ_cons]
    have e2 : r.getD (1 + i) 0 = r[1 + i] := by simp [List.getD_eq_getElem?_getD, hi]
    rw [e2]
    rfl
  | _, _, _, 0, _, hn, _ => by omega

theorem getG_run (s : List UInt8) (p : Nat) (hp : p ≤ s.length) (hs : s.length < 1000000000000) :
    runP T0 failO AN (LD failO k26 10) Tryz.f26 [.s (.str s), .s (.int .i64 (p : Int))] = some (.ret (gRet (s.drop p) p)) := by
  rw [run26]
  have hr : rst s (p : Int) = s.drop p := by unfold rst; rw [List.take_length, Int.toNat_natCast]
  have hl : (s.drop p).length = s.length - p := List.length_drop
  rw [hr]
  generalize s.drop p = r at hl
  have d1 : decide ((p : Int) < 0) = false := by simp
  have d2 : decide ((p : Int) > lenI s) = false := by unfold lenI; simp; omega
  have d3 : (decide (0 ≤ (p : Int)) && decide ((p : Int) ≤ lenI s)) = true := by unfold lenI; simp; omega
  rw [d1, d2, d3]
  simp only [cond_false, cond_true]
  cases r with
  | nil => rfl
  | cons b t =>
    have hb := b.toNat_lt
    have d4 : (b :: t == []) = false := rfl
    have d5 : decide (0 < lenI (b :: t)) = true := by unfold lenI; simp
    rw [d4, d5]
    simp only [cond_false, cond_true, Bool.and_true]
    have hz : at0 (b :: t) 0 = ((b.toNat : Nat) : Int) := rfl
    simp only [List.length_cons] at hl
    unfold gRet
    simp only [getV]
    cases c1 : Nat.blt 199 b.toNat
    · have c1' : ¬ 199 < b.toNat := by rw [← Nat.blt_eq, c1]; simp
      have d6 : decide (at0 (b :: t) 0 > 199) = false := by rw [decide_eq_false_iff_not, hz]; omega
      rw [d6]
      simp only [cond_false]
      cases c2 : Nat.blt b.toNat 192
      · have c2' : ¬ b.toNat < 192 := by rw [← Nat.blt_eq, c2]; simp
        have d7 : decide (at0 (b :: t) 0 < 192) = false := by rw [decide_eq_false_iff_not, hz]; omega
        have em : manyG (at0 (b :: t) 0) = ((b.toNat - 191 : Nat) : Int) := by
          rw [hz]
          unfold manyG
          rw [IntWalk.i64_in ((b.toNat : Nat) : Int) (by omega), IntWalk.i64_in (((b.toNat : Nat) : Int) - 192) (by omega), IntWalk.i64_in (((b.toNat : Nat) : Int) - 192 + 1) (by omega)]
          omega
        rw [d7, em]
        simp only [cond_false]
        cases c3 : Nat.blt t.length (b.toNat - 191)
        · have c3' : ¬ t.length < b.toNat - 191 := by rw [← Nat.blt_eq, c3]; simp
          have d8 : decide (lenI (b :: t) ≤ ((b.toNat - 191 : Nat) : Int)) = false := by unfold lenI; simp; omega
          rw [d8]
          simp only [cond_false]
          have hit := iter26' failO (loopD T0 failO AN (fun _ => k26) (fun _ => []) 10 0) (b :: t) (p : Int) (b.toNat - 191) (by omega) (by simp; omega) (by simp; omega) (b.toNat - 191) 0 0 10 (by omega) (by omega) (by simp)
          rw [show ((0 : Nat) : Int) = 0 from rfl] at hit
          rw [hit, end26]
          simp only [Nat.add_zero, List.drop_succ_cons, List.drop_zero]
          generalize valN 0 (t.take (b.toNat - 191)) = v
          have d10 : decide (1 < lenI (b :: t)) = true := by unfold lenI; simp; omega
          have d11 : (at0 (b :: t) 1 == 0) = Nat.beq (t.getD 0 0).toNat 0 := by
            have : at0 (b :: t) 1 = (((t.getD 0 0).toNat : Nat) : Int) := rfl
            rw [this]
            cases hq : Nat.beq (t.getD 0 0).toNat 0
            · have : (t.getD 0 0).toNat ≠ 0 := fun e => by rw [e] at hq; cases hq
              simp only [beq_eq_false_iff_ne]
              omega
            · rw [Nat.eq_of_beq_eq_true hq]; rfl
          rw [d10, d11]
          simp only [Bool.and_true, cond_true]
          by_cases hv : v < 192
          · have k1 : Nat.ble 192 v = false := by rw [Bool.eq_false_iff]; intro q; rw [Nat.ble_eq] at q; omega
            rw [decide_eq_true (by omega : (v : Int) < 192), k1]
            rfl
          · have k1 : Nat.ble 192 v = true := by rw [Nat.ble_eq]; omega
            rw [decide_eq_false (by omega : ¬ (v : Int) < 192), k1]
            cases Nat.beq (t.getD 0 0).toNat 0
            · have hk : Nat.beq (1 + (b.toNat - 191)) 0 = false := by
                rw [Bool.eq_false_iff]
                intro q
                have := Nat.eq_of_beq_eq_true q
                omega
              simp only [cond_false, cond_true, Bool.not_false, Bool.and_true, hk]
              rw [show (p : Int) + 1 = ((p + 1 : Nat) : Int) by omega, wrap64 _ (by omega), show ((p + 1 : Nat) : Int) + ((b.toNat - 191 : Nat) : Int) = ((p + (1 + (b.toNat - 191)) : Nat) : Int) by omega, wrap64 _ (by omega)]
              rfl
            · rfl
        · have c3' : t.length < b.toNat - 191 := by rw [← Nat.blt_eq, c3]
          have d8 : decide (lenI (b :: t) ≤ ((b.toNat - 191 : Nat) : Int)) = true := by unfold lenI; simp; omega
          rw [d8]
          rfl
      · have c2' : b.toNat < 192 := by rw [← Nat.blt_eq, c2]
        have d7 : decide (at0 (b :: t) 0 < 192) = true := by rw [decide_eq_true_iff, hz]; omega
        rw [d7, hz, IntWalk.u64_in ((b.toNat : Nat) : Int) (by omega), show (p : Int) + 1 = ((p + 1 : Nat) : Int) by omega, wrap64 _ (by omega)]
        rfl
    · have c1' : 199 < b.toNat := by rw [← Nat.blt_eq, c1]
      have d6 : decide (at0 (b :: t) 0 > 199) = true := by rw [decide_eq_true_iff, hz]; omega
      rw [d6]
      rfl

theorem getG_ok (args : List AV) : SoundP Tryz.prog G0 26 args (getG args) := by
  unfold getG
  split
  · rename_i s p
    refine brP fun hc => ?_
    simp only [okAt, Bool.and_eq_true, decide_eq_true_eq, Nat.ble_eq, Nat.blt_eq] at hc
    obtain ⟨⟨h0, h1⟩, h2⟩ := hc
    obtain ⟨q, rfl⟩ := Int.eq_ofNat_of_zero_le h0
    rw [Int.toNat_natCast] at h1
    have e : ((Int.ofNat q : Int)) = (q : Int) := rfl
    refine sp failO_ok Tryz.func26 (by kernel_rfl) k26 10 ?_
    rw [getG_run s q h1 h2, ← gRet_eq]
  · exact failP

/-! ## The document's Put -/

def AN21 : Ann := { glob := glob0, heap := fun d => !(Nat.beq d 15) }
noncomputable def B21 : Code := (Tryz.f21.body).getD .skip
noncomputable def c21 : Code := subC [1, 1, 1, 0, 0, 0] B21
def k21 : List Nat := [0, 2, 3]
def S21 (n : Int) (s : List UInt8) : St := St.mk (lookA [(0, .s (.int .u64 n)), (2, .s (.str [])), (3, .s (.str s))]) (lookB []) [] 0 30 29
noncomputable def K21 : Ex → St → Option PR := finP T0 AN21 Tryz.f21.results.toList
theorem round21 (L) (n : Int) (s : List UInt8) (j : Nat) : iterD T0 failO AN21 L c21 k21 [] (j + 1) (S21 n s) =
    cond (decide (n > 0)) (cond (Nat.ble (1 + s.length) 4611686018427387904) (iterD T0 failO AN21 L c21 k21 [] j (S21 (IntKind.u64.wrap (n.tdiv 256)) ([b8 (n.tmod 256)] ++ s))) none) (some (.exit 0, S21 n s)) := by kernel_rfl
theorem run21 (n : Int) : runP T0 failO AN21 (LX AN21 failO k21 10) Tryz.f21 [.s (.int .u64 n)] = cond (decide (n < 192)) (some (.ret (.s (.str [b8 n]))))
    (goLT (blockK 0 (thenK T0 failO AN21 (LX AN21 failO k21 10) (subC [1, 1, 1, 1] B21) K21)) (ltOf (iterD T0 failO AN21 (loopD T0 failO AN21 (fun _ => k21) (fun _ => []) 10 0) c21 k21 [] 10 (S21 n [])))) := by kernel_rfl
theorem end21 (L) (n : Int) (s : List UInt8) : goLT (blockK 0 (thenK T0 failO AN21 L (subC [1, 1, 1, 1] B21) K21)) (ltOf (some (.exit 0, S21 n s))) =
    cond (Nat.ble (1 + s.length) 4611686018427387904) (some (.ret (.s (.str ([b8 (IntKind.i64.wrap (191 + ((s.length : Nat) : Int)))] ++ s))))) none := by kernel_rfl

theorem iter21 (L) : ∀ (j n : Nat) (acc : List UInt8) (c : Nat), n < 256 ^ j → j ≤ 8 → acc.length + j ≤ 8 → j < c →
    iterD T0 failO AN21 L c21 k21 [] c (S21 n acc) = some (.exit 0, S21 0 (digs j n ++ acc))
  | 0, n, acc, c + 1, hn, _, _, _ => by
    rw [round21]
    simp at hn
    subst hn
    have : decide (((0 : Nat) : Int) > 0) = false := rfl
    rw [this]
    rfl
  | j + 1, n, acc, c + 1, hn, hj, ha, hc => by
    rw [round21]
    unfold digs
    by_cases h : n = 0
    · subst h
      have : decide (((0 : Nat) : Int) > 0) = false := rfl
      rw [this, if_pos rfl]
      rfl
    · have hp : (256 : Nat) ^ (j + 1) ≤ 256 ^ 8 := Nat.pow_le_pow_right (by omega) (by omega)
      have d1 : decide ((n : Int) > 0) = true := by rw [decide_eq_true_iff]; omega
      have d2 : Nat.ble (1 + acc.length) 4611686018427387904 = true := by rw [Nat.ble_eq]; omega
      have e1 : (n : Int).tdiv 256 = ((n / 256 : Nat) : Int) := by rw [Int.tdiv_eq_ediv_of_nonneg (by omega)]; omega
      have e2 : b8 ((n : Int).tmod 256) = b8 (n : Int) := by
        rw [Int.tmod_eq_emod_of_nonneg (by omega)]
        exact b8_eq _ _ (by omega)
      rw [d1, cond_true, d2, cond_true, e1, IntWalk.u64_in _ (by omega), e2, if_neg h]
      rw [iter21 L j (n / 256) ([b8 (n : Int)] ++ acc) c (by rw [Nat.pow_succ] at hn; omega) (by omega) (by simp; omega) (by omega)]
      simp
  | _, _, _, 0, _, _, _, hc => by omega

theorem digs_len : ∀ j n, (digs j n).length ≤ j
  | 0, _ => Nat.le_refl _
  | j + 1, n => by
    unfold digs
    by_cases h : n = 0
    · rw [if_pos h]; simp
    · rw [if_neg h]
      have := digs_len j (n / 256)
      simp
      omega

def putDI (n : Int) : List UInt8 := putD n.toNat
def putR : List AV → PR
  | [.s (.int .u64 n)] => .br (decide (0 ≤ n) && decide (n < 18446744073709551616)) (.ret (.s (.str (putDI n)))) .fail
  | _ => .fail
theorem putR_ok (args : List AV) : SoundP Tryz.prog G0 21 args (putR args) := by
  unfold putR
  split
  · rename_i n
    refine brP fun hc => ?_
    simp only [Bool.and_eq_true, decide_eq_true_eq] at hc
    obtain ⟨h0, h1⟩ := hc
    obtain ⟨x, rfl⟩ := Int.eq_ofNat_of_zero_le h0
    refine sp' (an := AN21) failO_ok rfl Tryz.func21 (by kernel_rfl) k21 10 ?_
    rw [run21]
    unfold putDI putD
    rw [Int.toNat_natCast]
    by_cases hx : x < 192
    · rw [decide_eq_true (by omega : (x : Int) < 192), if_pos hx]
      rfl
    · have := digs_len 8 x
      rw [decide_eq_false (by omega : ¬ (x : Int) < 192), cond_false, if_neg hx, iter21 _ 8 x [] 10 (by omega) (by omega) (by simp) (by omega), end21]
      have d2 : Nat.ble (1 + (digs 8 x ++ []).length) 4611686018427387904 = true := by rw [Nat.ble_eq, List.append_nil]; omega
      rw [d2, cond_true, List.append_nil, show (191 : Int) + (((digs 8 x).length : Nat) : Int) = ((191 + (digs 8 x).length : Nat) : Int) by omega, wrap64 _ (by omega)]
      rfl
  · exact failP

/-! ## The document's Get -/

noncomputable def D3 : Orc := putO 21 putR failO
theorem D3_ok : OrcOK Tryz.prog G0 D3 := putO_ok putR_ok failO_ok
noncomputable def B27 : Code := (Tryz.f27.body).getD .skip
noncomputable def c27 : Code := subC [1, 1, 1, 1, 1, 1, 1, 1, 0, 1, 0, 0] B27
def k27 : List Nat := [0, 1, 4, 5, 6, 7, 8, 9, 10]
def S27 (s : List UInt8) (p c n i : Int) : St := St.mk (lookA [(0, .s (.str s)), (1, .s (.int .i64 p)), (4, .s (.int .u64 0)), (5, .s (.int .i64 0)), (6, .s (.int .i64 0)), (7, .s (.int .i64 c)), (8, .s (.int .u64 n)), (9, .s (.int .i64 i)), (10, .undef)]) (lookB []) [] 0 73 72
noncomputable def K27 : Ex → St → Option PR := finP T0 AN Tryz.f27.results.toList
def a27 (s : List UInt8) (p : Int) : Int := IntKind.i64.wrap (((s.getD p.toNat 0).toNat : Nat) : Int)
def m27 (c : Int) : Int := IntKind.i64.wrap (c - 191)
def st27 (n : Int) (b : UInt8) : Int := IntKind.u64.wrap (IntKind.u64.wrap (n * 256) + IntKind.u64.wrap ((b.toNat : Nat) : Int))
def e27 (p c : Int) : Int := IntKind.i64.wrap (IntKind.i64.wrap (IntKind.i64.wrap (p + 1) + c) - 191)

theorem run27 (s : List UInt8) (p : Int) : runP T0 D3 AN (LD D3 k27 10) Tryz.f27 [.s (.str s), .s (.int .i64 p)] =
    cond (decide (p < 0)) (some (.ret (ret3 0 0 1))) (cond (cond false true (decide (p > lenI s))) (some (.ret (ret3 0 0 1))) (cond (p == lenI s) (some (.ret (ret3 0 0 2)))
      (cond (decide (0 ≤ p) && decide (p < lenI s)) (cond (decide (a27 s p > 199)) (some (.ret (ret3 0 0 3))) (cond (decide (a27 s p < 192)) (some (.ret (ret3 (IntKind.u64.wrap (a27 s p)) (IntKind.i64.wrap (p + 1)) 0)))
        (cond (decide (IntKind.i64.wrap (IntKind.i64.wrap (lenI s - p) - 1) < m27 (a27 s p))) (some (.ret (ret3 0 0 2)))
          (goLT (blockK 0 (thenK T0 D3 AN (LD D3 k27 10) (subC [1, 1, 1, 1, 1, 1, 1, 1, 1] B27) K27)) (ltOf (iterD T0 D3 AN (loopD T0 D3 AN (fun _ => k27) (fun _ => []) 10 0) c27 k27 [] 10 (S27 s p (a27 s p) 0 1))))))) none))) := by kernel_rfl
theorem round27 (C : Orc) (L) (s : List UInt8) (p c m i : Int) (n : Nat) : iterD T0 C AN L c27 k27 [] (n + 1) (S27 s p c m i) =
    cond (decide (i ≤ m27 c)) (cond (decide (0 ≤ IntKind.i64.wrap (p + i)) && decide (IntKind.i64.wrap (p + i) < lenI s)) (iterD T0 C AN L c27 k27 [] n (S27 s p c (st27 m (s.getD (IntKind.i64.wrap (p + i)).toNat 0)) (IntKind.i64.wrap (i + 1)))) none)
      (some (.exit 0, S27 s p c m i)) := by kernel_rfl
theorem end27 (L) (s : List UInt8) (p c m i : Int) : goLT (blockK 0 (thenK T0 D3 AN L (subC [1, 1, 1, 1, 1, 1, 1, 1, 1] B27) K27)) (ltOf (some (.exit 0, S27 s p c m i))) =
    cond (decide (0 ≤ m) && decide (m < 18446744073709551616)) (cond (decide (0 ≤ e27 p c) && decide (e27 p c ≤ lenI s)) (cond (decide (0 ≤ p) && decide (p ≤ (((e27 p c).toNat : Nat) : Int)))
      (cond (!(putDI m == List.drop p.toNat (List.take (e27 p c).toNat s))) (some (.ret (ret3 0 0 3))) (some (.ret (ret3 m (e27 p c) 0)))) none) none) none := by kernel_rfl

theorem st27_eq (a : Nat) (b : UInt8) (h : a < 72057594037927936) : st27 a b = ((a * 256 + b.toNat : Nat) : Int) := by
  have hb := b.toNat_lt
  unfold st27
  have e : (a : Int) * 256 = ((a * 256 : Nat) : Int) := by omega
  rw [e, IntWalk.u64_in ((a * 256 : Nat) : Int) (by omega), IntWalk.u64_in ((b.toNat : Nat) : Int) (by omega), IntWalk.u64_in _ (by omega)]
  omega

theorem iter27 (C : Orc) (L) (s : List UInt8) (p : Nat) (c : Int) (m : Nat) (hc : m27 c = (m : Int)) (hm : m ≤ 8) (hr : p + m < s.length) (hr2 : s.length < 1000000000000) : ∀ (j i a n : Nat), j + i = m → j < n → a < 256 ^ i →
    iterD T0 C AN L c27 k27 [] n (S27 s p c a ((i + 1 : Nat) : Int)) = some (.exit 0, S27 s p c ((valN a ((s.drop (p + (i + 1))).take j) : Nat) : Int) ((m + 1 : Nat) : Int))
  | 0, i, a, n + 1, hj, hn, ha => by
    rw [round27, hc]
    have e : i = m := by omega
    subst e
    have : (decide (((i + 1 : Nat) : Int) ≤ ((i : Nat) : Int))) = false := by rw [decide_eq_false_iff_not]; omega
    rw [this, cond_false, List.take_zero]
    rfl
  | j + 1, i, a, n + 1, hj, hn, ha => by
    rw [round27, hc]
    have c1 : (decide (((i + 1 : Nat) : Int) ≤ ((m : Nat) : Int))) = true := by rw [decide_eq_true_iff]; omega
    have e0 : (p : Int) + ((i + 1 : Nat) : Int) = ((p + (i + 1) : Nat) : Int) := by omega
    have c2 : (decide ((0 : Int) ≤ ((p + (i + 1) : Nat) : Int)) && decide (((p + (i + 1) : Nat) : Int) < lenI s)) = true := by
      unfold lenI
      simp only [Bool.and_eq_true, decide_eq_true_eq]
      omega
    rw [c1, cond_true, e0, wrap64 _ (by omega), c2, cond_true]
    have hp : 256 ^ i ≤ 256 ^ 7 := Nat.pow_le_pow_right (by omega) (by omega)
    have hb := (s.getD (p + (i + 1)) 0).toNat_lt
    have ha2 : a * 256 + (s.getD (p + (i + 1)) 0).toNat < 256 ^ (i + 1) := by rw [Nat.pow_succ]; omega
    have e1 : ((i + 1 : Nat) : Int) + 1 = ((i + 1 + 1 : Nat) : Int) := by omega
    rw [Int.toNat_natCast, st27_eq a _ (by omega), e1, wrap64 _ (by omega), iter27 C L s p c m hc hm hr hr2 j (i + 1) _ n (by omega) (by omega) ha2]
    have hi : p + (i + 1) < s.length := by omega
    rw [List.drop_eq_getElem_cons hi, List.take_succ_cons]
    have e2 : s.getD (p + (i + 1)) 0 = s[p + (i + 1)] := by simp [List.getD_eq_getElem?_getD, hi]
    rw [e2]
    rfl
  | _, _, _, 0, _, hn, _ => by omega

theorem getR_run (s : List UInt8) (p : Nat) (hp : p ≤ s.length) (hs : s.length < 1000000000000) :
    runP T0 D3 AN (LD D3 k27 10) Tryz.f27 [.s (.str s), .s (.int .i64 (p : Int))] = some (.ret (gRet (s.drop p) p)) := by
  rw [run27]
  have d1 : decide ((p : Int) < 0) = false := by simp
  have d2 : decide ((p : Int) > lenI s) = false := by unfold lenI; simp; omega
  rw [d1, d2]
  simp only [cond_false]
  by_cases hpl : p = s.length
  · subst hpl
    have d3 : (((s.length : Nat) : Int) == lenI s) = true := by unfold lenI; simp
    rw [d3, List.drop_length]
    rfl
  · have d3 : ((p : Int) == lenI s) = false := by unfold lenI; rw [beq_eq_false_iff_ne]; omega
    have d4 : (decide (0 ≤ (p : Int)) && decide ((p : Int) < lenI s)) = true := by unfold lenI; simp only [Bool.and_eq_true, decide_eq_true_eq]; omega
    have hlt : p < s.length := by omega
    rw [d3, d4]
    simp only [cond_false, cond_true]
    have ha : a27 s (p : Int) = ((s[p].toNat : Nat) : Int) := by
      have hb := s[p].toNat_lt
      unfold a27
      rw [Int.toNat_natCast]
      have : s.getD p 0 = s[p] := by simp [List.getD_eq_getElem?_getD, hlt]
      rw [this, wrap64 _ (by omega)]
    have hdr : s.drop p = s[p] :: s.drop (p + 1) := List.drop_eq_getElem_cons hlt
    have hll : (s.drop (p + 1)).length = s.length - (p + 1) := List.length_drop
    rw [ha, hdr]
    generalize hbb : s[p] = b at hdr
    generalize htt : s.drop (p + 1) = t at hdr hll
    have hb := b.toNat_lt
    unfold gRet
    simp only [getV]
    cases c1 : Nat.blt 199 b.toNat
    · have c1' : ¬ 199 < b.toNat := by rw [← Nat.blt_eq, c1]; simp
      have d6 : decide (((b.toNat : Nat) : Int) > 199) = false := by rw [decide_eq_false_iff_not]; omega
      rw [d6]
      simp only [cond_false]
      cases c2 : Nat.blt b.toNat 192
      · have c2' : ¬ b.toNat < 192 := by rw [← Nat.blt_eq, c2]; simp
        have d7 : decide (((b.toNat : Nat) : Int) < 192) = false := by rw [decide_eq_false_iff_not]; omega
        have em : m27 ((b.toNat : Nat) : Int) = ((b.toNat - 191 : Nat) : Int) := by
          unfold m27
          rw [show ((b.toNat : Nat) : Int) - 191 = ((b.toNat - 191 : Nat) : Int) by omega, wrap64 _ (by omega)]
        have el : IntKind.i64.wrap (IntKind.i64.wrap (lenI s - (p : Int)) - 1) = ((t.length : Nat) : Int) := by
          unfold lenI
          rw [show ((s.length : Nat) : Int) - (p : Int) = ((s.length - p : Nat) : Int) by omega, wrap64 _ (by omega), show ((s.length - p : Nat) : Int) - 1 = ((t.length : Nat) : Int) by omega, wrap64 _ (by omega)]
        rw [d7, em, el]
        simp only [cond_false]
        cases c3 : Nat.blt t.length (b.toNat - 191)
        · have c3' : ¬ t.length < b.toNat - 191 := by rw [← Nat.blt_eq, c3]; simp
          have d8 : decide (((t.length : Nat) : Int) < ((b.toNat - 191 : Nat) : Int)) = false := by rw [decide_eq_false_iff_not]; omega
          rw [d8]
          simp only [cond_false]
          have hit := iter27 D3 (loopD T0 D3 AN (fun _ => k27) (fun _ => []) 10 0) s p ((b.toNat : Nat) : Int) (b.toNat - 191) em (by omega) (by omega) hs (b.toNat - 191) 0 0 10 (by omega) (by omega) (by simp)
          rw [show ((0 : Nat) : Int) = 0 from rfl, show ((0 + 1 : Nat) : Int) = 1 from rfl] at hit
          rw [hit, end27]
          simp only [Nat.zero_add]
          rw [htt]
          have hv := valN_lt (t.take (b.toNat - 191))
          have hlen : (t.take (b.toNat - 191)).length = b.toNat - 191 := by rw [List.length_take]; omega
          rw [hlen] at hv
          have hv2 : (256 : Nat) ^ (b.toNat - 191) ≤ 256 ^ 8 := Nat.pow_le_pow_right (by omega) (by omega)
          have ee : e27 (p : Int) ((b.toNat : Nat) : Int) = ((p + (1 + (b.toNat - 191)) : Nat) : Int) := by
            unfold e27
            rw [show (p : Int) + 1 = ((p + 1 : Nat) : Int) by omega, wrap64 _ (by omega), show ((p + 1 : Nat) : Int) + ((b.toNat : Nat) : Int) = ((p + 1 + b.toNat : Nat) : Int) by omega, wrap64 _ (by omega),
              show ((p + 1 + b.toNat : Nat) : Int) - 191 = ((p + (1 + (b.toNat - 191)) : Nat) : Int) by omega, wrap64 _ (by omega)]
          have es : List.drop ((p : Int)).toNat (List.take (e27 (p : Int) ((b.toNat : Nat) : Int)).toNat s) = b :: t.take (b.toNat - 191) := by
            rw [ee, Int.toNat_natCast, Int.toNat_natCast, List.drop_take, hdr, show p + (1 + (b.toNat - 191)) - p = (b.toNat - 191) + 1 by omega, List.take_succ_cons]
          have epd : putDI ((valN 0 (t.take (b.toNat - 191)) : Nat) : Int) = putD (valN 0 (t.take (b.toNat - 191))) := by unfold putDI; rw [Int.toNat_natCast]
          rw [es, epd, canon (by omega) (by omega) (by omega), ee]
          have d9 : (decide ((0 : Int) ≤ ((valN 0 (t.take (b.toNat - 191)) : Nat) : Int)) && decide (((valN 0 (t.take (b.toNat - 191)) : Nat) : Int) < 18446744073709551616)) = true := by
            simp only [Bool.and_eq_true, decide_eq_true_eq]
            omega
          have d10 : (decide ((0 : Int) ≤ ((p + (1 + (b.toNat - 191)) : Nat) : Int)) && decide (((p + (1 + (b.toNat - 191)) : Nat) : Int) ≤ lenI s)) = true := by
            unfold lenI
            simp only [Bool.and_eq_true, decide_eq_true_eq]
            omega
          have d11 : (decide ((0 : Int) ≤ (p : Int)) && decide ((p : Int) ≤ (((((p + (1 + (b.toNat - 191)) : Nat) : Int)).toNat : Nat) : Int))) = true := by
            simp only [Bool.and_eq_true, decide_eq_true_eq]
            omega
          rw [d9, d10, d11]
          simp only [cond_true]
          cases (Nat.ble 192 (valN 0 (t.take (b.toNat - 191))) && !(Nat.beq (t.getD 0 0).toNat 0))
          · rfl
          · have hk : Nat.beq (1 + (b.toNat - 191)) 0 = false := by
              rw [Bool.eq_false_iff]
              intro q
              have := Nat.eq_of_beq_eq_true q
              omega
            simp only [cond_true, Bool.not_true, cond_false, hk]
            rfl
        · have c3' : t.length < b.toNat - 191 := by rw [← Nat.blt_eq, c3]
          have d8 : decide (((t.length : Nat) : Int) < ((b.toNat - 191 : Nat) : Int)) = true := by rw [decide_eq_true_iff]; omega
          rw [d8]
          rfl
      · have c2' : b.toNat < 192 := by rw [← Nat.blt_eq, c2]
        have d7 : decide (((b.toNat : Nat) : Int) < 192) = true := by rw [decide_eq_true_iff]; omega
        rw [d7, IntWalk.u64_in ((b.toNat : Nat) : Int) (by omega), show (p : Int) + 1 = ((p + 1 : Nat) : Int) by omega, wrap64 _ (by omega)]
        rfl
    · have c1' : 199 < b.toNat := by rw [← Nat.blt_eq, c1]
      have d6 : decide (((b.toNat : Nat) : Int) > 199) = true := by rw [decide_eq_true_iff]; omega
      rw [d6]
      rfl

theorem getR_ok (args : List AV) : SoundP Tryz.prog G0 27 args (getG args) := by
  unfold getG
  split
  · rename_i s p
    refine brP fun hc => ?_
    simp only [okAt, Bool.and_eq_true, decide_eq_true_eq, Nat.ble_eq, Nat.blt_eq] at hc
    obtain ⟨⟨h0, h1⟩, h2⟩ := hc
    obtain ⟨q, rfl⟩ := Int.eq_ofNat_of_zero_le h0
    rw [Int.toNat_natCast] at h1
    refine sp D3_ok Tryz.func27 (by kernel_rfl) k27 10 ?_
    rw [getR_run s q h1 h2, ← gRet_eq]
  · exact failP

end Go.Proofs.YtkdbaijabnhniaaGreatDoor

namespace Go.Proofs.YtkdbaijabnhniaaGreatDoor
open Go.Ev
set_option maxRecDepth 100000

theorem br2P {f : FuncId} {args : List AV} {c : Bool} {r r' : PR} (h : c = true → SoundP Tryz.prog G0 f args r) (h' : c = false → SoundP Tryz.prog G0 f args r') : SoundP Tryz.prog G0 f args (.br c r r') := by
  intro l hl
  cases c
  · exact h' rfl l hl
  · exact h rfl l hl

def w1 (s : List UInt8) (p : Int) : Int := gE s p
def w2 (s : List UInt8) (p : Int) : Int := gE s (w1 s p)
def w3 (s : List UInt8) (p : Int) : Int := gE s (w2 s p)
def aK (s : List UInt8) (p : Int) : Int := gN s p
def aN (s : List UInt8) (p : Int) : Int := gN s (w1 s p)
def aL (s : List UInt8) (p : Int) : Int := gN s (w2 s p)
def aE (s : List UInt8) (p : Int) : Int := w3 s p + aL s p
def aS (s : List UInt8) (p : Int) : List UInt8 := List.drop (w3 s p).toNat (List.take (aE s p).toNat s)
def aOK (s : List UInt8) (p : Int) : Bool := (gX s p == 0) && ((gX s (w1 s p) == 0) && ((gX s (w2 s p) == 0) && (decide (aK s p < 10) && decide (aL s p ≤ ((s.length : Nat) : Int) - w3 s p))))
def aR (s : List UInt8) (p : Int) : Bool := rightB (aK s p) (aN s p) (aS s p)
def aG (s : List UInt8) (p : Int) : Bool := aOK s p && aR s p

theorem getV_k (r : List UInt8) : ((getV r).2.2 = 0 ∧ 1 ≤ (getV r).2.1 ∧ (getV r).2.1 ≤ r.length) ∨ ((getV r).2.2 ≠ 0 ∧ (getV r).2.1 = 0) := by
  cases h : getV r with
  | mk n y =>
    obtain ⟨k, e⟩ := y
    cases e with
    | zero => exact .inl ⟨rfl, (getV_put h).2.1, (getV_put h).2.2⟩
    | succ e =>
      refine .inr ⟨by simp, ?_⟩
      show k = 0
      unfold getV at h
      split at h
      · injection h with _ h; injection h with h _; exact h.symm
      · rename_i b t
        revert h
        cases Nat.blt 199 b.toNat <;> cases Nat.blt b.toNat 192 <;> cases Nat.blt t.length (b.toNat - 191) <;> cases (Nat.ble 192 (valN 0 (t.take (b.toNat - 191))) && !(Nat.beq (t.getD 0 0).toNat 0)) <;>
          (intro h; simp only [cond_true, cond_false, Prod.mk.injEq] at h; omega)

theorem okAt_iff {s : List UInt8} {p : Int} : okAt s p = true ↔ ∃ q : Nat, p = (q : Int) ∧ q ≤ s.length ∧ s.length < 1000000000000 := by
  unfold okAt
  simp only [Bool.and_eq_true, decide_eq_true_eq, Nat.ble_eq, Nat.blt_eq]
  constructor
  · rintro ⟨⟨h0, h1⟩, h2⟩
    exact ⟨p.toNat, by omega, h1, h2⟩
  · rintro ⟨q, rfl, h1, h2⟩
    refine ⟨⟨by omega, by rw [Int.toNat_natCast]; exact h1⟩, h2⟩

theorem at_next {s : List UInt8} {p : Int} (h : okAt s p = true) : okAt s (gE s p) = true ∧ (gX s p = 0 → p < gE s p) := by
  obtain ⟨q, rfl, h1, h2⟩ := okAt_iff.1 h
  have e : gE s (q : Int) = cond (Nat.beq (getV (s.drop q)).2.1 0) 0 ((q + (getV (s.drop q)).2.1 : Nat) : Int) := by unfold gE gK; rw [Int.toNat_natCast]
  have ex : gX s (q : Int) = (((getV (s.drop q)).2.2 : Nat) : Int) := by unfold gX; rw [Int.toNat_natCast]
  have hl : (s.drop q).length = s.length - q := List.length_drop
  rw [e, ex]
  rcases getV_k (s.drop q) with ⟨k1, k2, k3⟩ | ⟨k1, k2⟩
  · have : Nat.beq (getV (s.drop q)).2.1 0 = false := by
      rw [Bool.eq_false_iff]
      intro z
      have := Nat.eq_of_beq_eq_true z
      omega
    rw [this, cond_false]
    exact ⟨okAt_iff.2 ⟨_, rfl, by omega, h2⟩, fun _ => by omega⟩
  · rw [k2]
    refine ⟨okAt_iff.2 ⟨0, rfl, by omega, h2⟩, fun z => ?_⟩
    exact absurd (Int.ofNat.inj z) k1

/-! ## The program's act -/

noncomputable def E1 : Orc := putO 26 getG (putO 17 rightP failO)
theorem E1_ok : OrcOK Tryz.prog G0 E1 := putO_ok getG_ok (putO_ok rightP_ok failO_ok)
theorem run11g (s : List UInt8) (p : Int) : runP T0 E1 AN (LD E1 k11 10) Tryz.f11 [.s (.str s), .s (.int .i64 p)] =
    goLT (blockK 0 (thenK T0 E1 AN (LD E1 k11 10) (subC [1, 1, 1] B11) K11)) (ltOf (iterD T0 E1 AN (loopD T0 E1 AN (fun _ => k11) (fun _ => []) 10 0) c11 k11 [] 10 (S11 s p 0 0 0 0))) := by kernel_rfl
theorem rd11_0 (L) (s : List UInt8) (p a b c : Int) (k : Nat) : iterD T0 E1 AN L c11 k11 [] (k + 1) (S11 s p a b c 0) = cond (okAt s p) (cond (gX s p != 0) (some (.ret, S11 s p a b c 0)) (iterD T0 E1 AN L c11 k11 [] k (S11 s (gE s p) (gN s p) b c 1))) none := by kernel_rfl
theorem rd11_1 (L) (s : List UInt8) (p a b c : Int) (k : Nat) : iterD T0 E1 AN L c11 k11 [] (k + 1) (S11 s p a b c 1) = cond (okAt s p) (cond (gX s p != 0) (some (.ret, S11 s p a b c 1)) (iterD T0 E1 AN L c11 k11 [] k (S11 s (gE s p) a (gN s p) c 2))) none := by kernel_rfl
theorem rd11_2 (L) (s : List UInt8) (p a b c : Int) (k : Nat) : iterD T0 E1 AN L c11 k11 [] (k + 1) (S11 s p a b c 2) = cond (okAt s p) (cond (gX s p != 0) (some (.ret, S11 s p a b c 2)) (iterD T0 E1 AN L c11 k11 [] k (S11 s (gE s p) a b (gN s p) 3))) none := by kernel_rfl
theorem rd11_3 (L) (s : List UInt8) (p a b c : Int) (k : Nat) : iterD T0 E1 AN L c11 k11 [] (k + 1) (S11 s p a b c 3) = some (.exit 0, S11 s p a b c 3) := by kernel_rfl
theorem ret11 (L) (s : List UInt8) (p a b c i : Int) : goLT (blockK 0 (thenK T0 E1 AN L (subC [1, 1, 1] B11) K11)) (ltOf (some (.ret, S11 s p a b c i))) = some (.ret (act3 0 0 [] 0 false)) := by kernel_rfl
theorem tail11g (L) (s : List UInt8) (p a b c : Int) : goLT (blockK 0 (thenK T0 E1 AN L (subC [1, 1, 1] B11) K11)) (ltOf (some (.exit 0, S11 s p a b c 3))) =
    cond (decide (a ≥ 10)) (some (.ret (act3 0 0 [] 0 false))) (cond (cond false true (decide (c > IntKind.u64.wrap (IntKind.i64.wrap (((s.length : Nat) : Int) - p))))) (some (.ret (act3 0 0 [] 0 false)))
      (cond (decide (0 ≤ endE p c) && decide (endE p c ≤ ((s.length : Nat) : Int))) (cond (decide (0 ≤ p) && decide (p ≤ (((endE p c).toNat : Nat) : Int)))
        (some (.ret (act3 (IntKind.i64.wrap a) b (List.drop p.toNat (List.take (endE p c).toNat s)) (endE p c) (rightB (IntKind.i64.wrap a) b (List.drop p.toNat (List.take (endE p c).toNat s)))))) none) none)) := by kernel_rfl

def actV (s : List UInt8) (p : Int) : AV := cond (aOK s p) (act3 (aK s p) (aN s p) (aS s p) (aE s p) (aR s p)) (act3 0 0 [] 0 false)

theorem gN_nn (s : List UInt8) (p : Int) : 0 ≤ gN s p := by unfold gN; omega

theorem endE_eq {s : List UInt8} {a c : Int} (hs : s.length < 1000000000000) (h0 : 0 ≤ a) (h1 : 0 ≤ c) (h2 : c ≤ ((s.length : Nat) : Int) - a) : endE a c = a + c := by
  unfold endE
  rw [IntWalk.i64_in c (by omega)]
  exact IntWalk.i64_in _ (by omega)

theorem actG_run (s : List UInt8) (p : Int) (h : okAt s p = true) : runP T0 E1 AN (LD E1 k11 10) Tryz.f11 [.s (.str s), .s (.int .i64 p)] = some (.ret (actV s p)) := by
  obtain ⟨h1, _⟩ := at_next h
  obtain ⟨h2, _⟩ := at_next h1
  obtain ⟨h3, _⟩ := at_next h2
  obtain ⟨q, hq, hq1, hq2⟩ := okAt_iff.1 h3
  unfold actV
  rw [run11g, rd11_0, h, cond_true]
  cases e0 : (gX s p == 0)
  · have n0 : (gX s p != 0) = true := by rw [bne, e0]; rfl
    have n1 : aOK s p = false := by unfold aOK; rw [e0]; rfl
    rw [n0, cond_true, ret11, n1, cond_false]
  have n0 : (gX s p != 0) = false := by rw [bne, e0]; rfl
  rw [n0, cond_false, rd11_1, h1, cond_true]
  cases e1 : (gX s (gE s p) == 0)
  · have n0 : (gX s (gE s p) != 0) = true := by rw [bne, e1]; rfl
    have n1 : aOK s p = false := by unfold aOK w1; rw [e0, e1]; rfl
    rw [n0, cond_true, ret11, n1, cond_false]
  have n0 : (gX s (gE s p) != 0) = false := by rw [bne, e1]; rfl
  rw [n0, cond_false, rd11_2, h2, cond_true]
  cases e2 : (gX s (gE s (gE s p)) == 0)
  · have n0 : (gX s (gE s (gE s p)) != 0) = true := by rw [bne, e2]; rfl
    have n1 : aOK s p = false := by unfold aOK w2 w1; rw [e0, e1, e2]; rfl
    rw [n0, cond_true, ret11, n1, cond_false]
  have n0 : (gX s (gE s (gE s p)) != 0) = false := by rw [bne, e2]; rfl
  rw [n0, cond_false, rd11_3]
  show goLT _ (ltOf (some (.exit 0, S11 s (w3 s p) (aK s p) (aN s p) (aL s p) 3))) = _
  rw [tail11g]
  have hw : w3 s p = (q : Int) := hq
  have k0 : 0 ≤ aK s p := gN_nn _ _
  have l0 : 0 ≤ aL s p := gN_nn _ _
  have eo : aOK s p = (decide (aK s p < 10) && decide (aL s p ≤ ((s.length : Nat) : Int) - w3 s p)) := by
    unfold aOK w2 w1
    rw [e0, e1, e2]
    rfl
  rw [eo]
  by_cases c1 : aK s p < 10
  · have d1 : decide (aK s p ≥ 10) = false := by rw [decide_eq_false_iff_not]; omega
    rw [d1, decide_eq_true c1, cond_false, Bool.true_and]
    have e3 : IntKind.u64.wrap (IntKind.i64.wrap (((s.length : Nat) : Int) - w3 s p)) = ((s.length : Nat) : Int) - w3 s p := by
      rw [IntWalk.i64_in (((s.length : Nat) : Int) - w3 s p) (by omega)]
      exact IntWalk.u64_in _ (by omega)
    rw [e3]
    by_cases c2 : aL s p ≤ ((s.length : Nat) : Int) - w3 s p
    · have d2 : decide (aL s p > ((s.length : Nat) : Int) - w3 s p) = false := by rw [decide_eq_false_iff_not]; omega
      have e4 : IntKind.i64.wrap (aK s p) = aK s p := IntWalk.i64_in _ (by omega)
      have e5 : endE (w3 s p) (aL s p) = aE s p := endE_eq hq2 (by omega) l0 c2
      have hE : aE s p = w3 s p + aL s p := rfl
      rw [d2, decide_eq_true c2, e4, e5]
      have d3 : (decide (0 ≤ aE s p) && decide (aE s p ≤ ((s.length : Nat) : Int))) = true := by simp only [Bool.and_eq_true, decide_eq_true_eq]; omega
      have d4 : (decide (0 ≤ w3 s p) && decide (w3 s p ≤ (((aE s p).toNat : Nat) : Int))) = true := by simp only [Bool.and_eq_true, decide_eq_true_eq]; omega
      rw [d3, d4]
      rfl
    · have d2 : decide (aL s p > ((s.length : Nat) : Int) - w3 s p) = true := by rw [decide_eq_true_iff]; omega
      rw [d2, decide_eq_false c2]
      rfl
  · have d1 : decide (aK s p ≥ 10) = true := by rw [decide_eq_true_iff]; omega
    rw [d1, decide_eq_false c1]
    rfl

def actG : List AV → PR
  | [.s (.str s), .s (.int .i64 p)] => .br (okAt s p) (.br (aOK s p) (.ret (act3 (aK s p) (aN s p) (aS s p) (aE s p) (aR s p))) (.ret (act3 0 0 [] 0 false))) .fail
  | _ => .fail
theorem actG_ok (args : List AV) : SoundP Tryz.prog G0 11 args (actG args) := by
  unfold actG
  split
  · rename_i s p
    refine brP fun hc => ?_
    have := sp E1_ok Tryz.func11 (by kernel_rfl) k11 10 (actG_run s p hc)
    unfold actV at this
    exact br2P (fun h => by rw [h] at this; exact this) (fun h => by rw [h] at this; exact this)
  · exact failP

/-! ## The document's May and get -/

theorem run20 (k n : Int) (s : List UInt8) : runP T0 failO AN (LD failO [] 0) Tryz.f20 [.agg [.s (.int .i64 k), .s (.int .u64 n), .s (.str s)]] =
    cond (decide (k ≥ 0)) (cond (cond true (decide (k ≤ 9)) false) (cond (cond true (decide (n ≤ 4294967296)) false) (some (.ret (.s (.bool (cond true (decide (((s.length : Nat) : Int) ≤ 10000)) false)))))
      (some (.ret (.s (.bool false))))) (some (.ret (.s (.bool false))))) (some (.ret (.s (.bool false)))) := by kernel_rfl
theorem mayP_ok (args : List AV) : SoundP Tryz.prog G0 20 args (rightP args) := by
  unfold rightP
  split
  · rename_i k n s
    refine sp failO_ok Tryz.func20 (by kernel_rfl) [] 0 ?_
    rw [run20]
    unfold rightB
    have e : decide (k ≤ 9) = decide (k < 10) := by
      by_cases h : k < 10
      · rw [decide_eq_true h, decide_eq_true (by omega)]
      · rw [decide_eq_false h, decide_eq_false (by omega)]
    rw [e]
    cases decide (k ≥ 0) <;> cases decide (k < 10) <;> cases decide (n ≤ 4294967296) <;> rfl
  · exact failP

noncomputable def E2 : Orc := putO 27 getG (putO 20 rightP failO)
theorem E2_ok : OrcOK Tryz.prog G0 E2 := putO_ok getR_ok (putO_ok mayP_ok failO_ok)
def AN13 : Ann := { glob := glob0, heap := fun d => !(Nat.beq d 15) }
def get2 (k n : Int) (x : List UInt8) (e : Int) : AV := .tup [.agg [.s (.int .i64 k), .s (.int .u64 n), .s (.str x)], .s (.int .i64 e)]
def bad2 : AV := get2 0 0 [] 0
def sE (s : List UInt8) (a c : Int) : List UInt8 := List.drop a.toNat (List.take (endE a c).toNat s)
theorem run13 (s : List UInt8) (p : Int) : runP T0 E2 AN13 (LX AN13 E2 [] 0) Tryz.f13 [.s (.str s), .s (.int .i64 p)] =
    cond (okAt s p) (cond (okAt s (w1 s p)) (cond (okAt s (w2 s p)) (cond (gX s p != 0) (some (.ret bad2)) (cond (cond false true (gX s (w1 s p) != 0)) (some (.ret bad2)) (cond (cond false true (gX s (w2 s p) != 0)) (some (.ret bad2))
      (cond (cond false true (decide (aK s p > 9))) (some (.ret bad2)) (cond (cond false true (decide (aL s p > IntKind.u64.wrap (IntKind.i64.wrap (((s.length : Nat) : Int) - w3 s p))))) (some (.ret bad2))
        (cond (decide (0 ≤ endE (w3 s p) (aL s p)) && decide (endE (w3 s p) (aL s p) ≤ ((s.length : Nat) : Int))) (cond (decide (0 ≤ w3 s p) && decide (w3 s p ≤ (((endE (w3 s p) (aL s p)).toNat : Nat) : Int)))
          (cond (!(rightB (IntKind.i64.wrap (aK s p)) (aN s p) (sE s (w3 s p) (aL s p)))) (some (.ret bad2)) (some (.ret (get2 (IntKind.i64.wrap (aK s p)) (aN s p) (sE s (w3 s p) (aL s p)) (endE (w3 s p) (aL s p)))))) none) none))))))
      none) none) none := by kernel_rfl

def getW (s : List UInt8) (p : Int) : AV := cond (aG s p) (get2 (aK s p) (aN s p) (aS s p) (aE s p)) bad2
theorem getW_run (s : List UInt8) (p : Int) (h : okAt s p = true) : runP T0 E2 AN13 (LX AN13 E2 [] 0) Tryz.f13 [.s (.str s), .s (.int .i64 p)] = some (.ret (getW s p)) := by
  obtain ⟨h1, _⟩ := at_next h
  obtain ⟨h2, _⟩ := at_next h1
  obtain ⟨h3, _⟩ := at_next h2
  obtain ⟨q, hq, hq1, hq2⟩ := okAt_iff.1 h3
  have h1' : okAt s (w1 s p) = true := h1
  have h2' : okAt s (w2 s p) = true := h2
  unfold getW aG
  rw [run13, h, h1', h2']
  simp only [cond_true, cond_false]
  cases e0 : (gX s p == 0)
  · have n1 : aOK s p = false := by unfold aOK; rw [e0]; rfl
    rw [bne, e0, n1]; rfl
  cases e1 : (gX s (w1 s p) == 0)
  · have n1 : aOK s p = false := by unfold aOK; rw [e0, e1]; rfl
    rw [bne, bne, e0, e1, n1]; rfl
  cases e2 : (gX s (w2 s p) == 0)
  · have n1 : aOK s p = false := by unfold aOK; rw [e0, e1, e2]; rfl
    rw [bne, bne, bne, e0, e1, e2, n1]; rfl
  rw [bne, bne, bne, e0, e1, e2]
  simp only [Bool.not_true, cond_false]
  have hw : w3 s p = (q : Int) := hq
  have k0 : 0 ≤ aK s p := gN_nn _ _
  have l0 : 0 ≤ aL s p := gN_nn _ _
  have eo : aOK s p = (decide (aK s p < 10) && decide (aL s p ≤ ((s.length : Nat) : Int) - w3 s p)) := by
    unfold aOK
    rw [e0, e1, e2]
    rfl
  rw [eo]
  by_cases c1 : aK s p < 10
  · have d1 : decide (aK s p > 9) = false := by rw [decide_eq_false_iff_not]; omega
    rw [d1, decide_eq_true c1, cond_false, Bool.true_and]
    have e3 : IntKind.u64.wrap (IntKind.i64.wrap (((s.length : Nat) : Int) - w3 s p)) = ((s.length : Nat) : Int) - w3 s p := by
      rw [IntWalk.i64_in (((s.length : Nat) : Int) - w3 s p) (by omega)]
      exact IntWalk.u64_in _ (by omega)
    rw [e3]
    by_cases c2 : aL s p ≤ ((s.length : Nat) : Int) - w3 s p
    · have d2 : decide (aL s p > ((s.length : Nat) : Int) - w3 s p) = false := by rw [decide_eq_false_iff_not]; omega
      have e4 : IntKind.i64.wrap (aK s p) = aK s p := IntWalk.i64_in _ (by omega)
      have e5 : endE (w3 s p) (aL s p) = aE s p := endE_eq hq2 (by omega) l0 c2
      have e6 : sE s (w3 s p) (aL s p) = aS s p := by unfold sE aS; rw [e5]
      have hE : aE s p = w3 s p + aL s p := rfl
      rw [d2, decide_eq_true c2, e4, e6, e5]
      have d3 : (decide (0 ≤ aE s p) && decide (aE s p ≤ ((s.length : Nat) : Int))) = true := by simp only [Bool.and_eq_true, decide_eq_true_eq]; omega
      have d4 : (decide (0 ≤ w3 s p) && decide (w3 s p ≤ (((aE s p).toNat : Nat) : Int))) = true := by simp only [Bool.and_eq_true, decide_eq_true_eq]; omega
      rw [d3, d4]
      have er : rightB (aK s p) (aN s p) (aS s p) = aR s p := rfl
      rw [er]
      cases aR s p <;> rfl
    · have d2 : decide (aL s p > ((s.length : Nat) : Int) - w3 s p) = true := by rw [decide_eq_true_iff]; omega
      rw [d2, decide_eq_false c2]
      rfl
  · have d1 : decide (aK s p > 9) = true := by rw [decide_eq_true_iff]; omega
    rw [d1, decide_eq_false c1]
    rfl

def getT : List AV → PR
  | [.s (.str s), .s (.int .i64 p)] => .br (okAt s p) (.br (aG s p) (.ret (get2 (aK s p) (aN s p) (aS s p) (aE s p))) (.ret bad2)) .fail
  | _ => .fail
theorem getT_ok (args : List AV) : SoundP Tryz.prog G0 13 args (getT args) := by
  unfold getT
  split
  · rename_i s p
    refine brP fun hc => ?_
    have := sp' (an := AN13) E2_ok rfl Tryz.func13 (by kernel_rfl) [] 0 (getW_run s p hc)
    unfold getW at this
    exact br2P (fun h => by rw [h] at this; exact this) (fun h => by rw [h] at this; exact this)
  · exact failP

/-! ## Open -/

def opn (s : List UInt8) : Bool := sealB (s.take (s.length - 3)) == s
def openV (s : List UInt8) : AV := cond (Nat.blt s.length 3) (tup2 [] 2) (cond (opn s) (tup2 (s.take (s.length - 3)) 0) (tup2 [] 8))
def openG : List AV → PR
  | [.s (.str s)] => .br (Nat.blt s.length 1000000000000) (.br (Nat.blt s.length 3) (.ret (tup2 [] 2)) (.br (opn s) (.ret (tup2 (s.take (s.length - 3)) 0)) (.ret (tup2 [] 8)))) .fail
  | _ => .fail

theorem openG_of {f : FuncId} (h : ∀ s : List UInt8, s.length < 1000000000000 → SoundP Tryz.prog G0 f [.s (.str s)] (.ret (openV s))) (args : List AV) : SoundP Tryz.prog G0 f args (openG args) := by
  unfold openG
  split
  · rename_i s
    refine brP fun hc => ?_
    rw [Nat.blt_eq] at hc
    have := h s hc
    unfold openV at this
    exact br2P (fun h => by rw [h] at this; exact this) (fun h => br2P (fun h' => by rw [h, h'] at this; exact this) (fun h' => by rw [h, h'] at this; exact this))
  · exact failP

theorem openG_ok : ∀ args : List AV, SoundP Tryz.prog G0 10 args (openG args) := openG_of fun s hs => by
  refine sp C6_ok Tryz.func10 (by kernel_rfl) [] 0 ?_
  rw [run10]
  unfold openV
  by_cases h : s.length < 3
  · have h1 : Nat.blt s.length 3 = true := by rw [Nat.blt_eq]; exact h
    have ek : k10 s = ((s.length : Nat) : Int) - 3 := by
      unfold k10
      exact IntWalk.i64_in (((s.length : Nat) : Int) - 3) (by omega)
    rw [h1, ek, decide_eq_true (by omega)]
    rfl
  · have h1 : Nat.blt s.length 3 = false := by rw [Bool.eq_false_iff]; intro q; rw [Nat.blt_eq] at q; exact h q
    have ek : k10 s = ((s.length - 3 : Nat) : Int) := by
      unfold k10
      rw [IntWalk.i64_in (((s.length : Nat) : Int) - 3) (by omega)]
      omega
    have ex : x10 s = s.take (s.length - 3) := by unfold x10; rw [ek, List.drop_zero, Int.toNat_natCast]
    rw [ek, ex, h1]
    have d1 : decide (((s.length - 3 : Nat) : Int) < 0) = false := by rw [decide_eq_false_iff_not]; omega
    have d2 : (decide (0 ≤ ((s.length - 3 : Nat) : Int)) && decide (((s.length - 3 : Nat) : Int) ≤ ((s.length : Nat) : Int))) = true := by simp only [Bool.and_eq_true, decide_eq_true_eq]; omega
    have d3 : Nat.blt (s.take (s.length - 3)).length 1000000000000 = true := by rw [Nat.blt_eq, List.length_take]; omega
    rw [d1, d2, d3]
    unfold opn
    cases (sealB (s.take (s.length - 3)) == s) <;> rfl

noncomputable def D4 : Orc := putO 22 sealP failO
theorem D4_ok : OrcOK Tryz.prog G0 D4 := putO_ok sealR_ok failO_ok
theorem run12 (s : List UInt8) : runP T0 D4 AN (LD D4 [] 0) Tryz.f12 [.s (.str s)] = cond (decide (((s.length : Nat) : Int) < 3)) (some (.ret (tup2 [] 2)))
    (cond (decide (0 ≤ k10 s) && decide (k10 s ≤ ((s.length : Nat) : Int))) (cond (Nat.blt (x10 s).length 1000000000000) (cond (!(sealB (x10 s) == s)) (some (.ret (tup2 [] 8)))
      (cond (decide (0 ≤ k10 s) && decide (k10 s ≤ ((s.length : Nat) : Int))) (some (.ret (tup2 (x10 s) 0))) none)) none) none) := by kernel_rfl
theorem openR_ok : ∀ args : List AV, SoundP Tryz.prog G0 12 args (openG args) := openG_of fun s hs => by
  refine sp D4_ok Tryz.func12 (by kernel_rfl) [] 0 ?_
  rw [run12]
  unfold openV
  by_cases h : s.length < 3
  · have h1 : Nat.blt s.length 3 = true := by rw [Nat.blt_eq]; exact h
    rw [h1, decide_eq_true (by omega)]
    rfl
  · have h1 : Nat.blt s.length 3 = false := by rw [Bool.eq_false_iff]; intro q; rw [Nat.blt_eq] at q; exact h q
    have ek : k10 s = ((s.length - 3 : Nat) : Int) := by
      unfold k10
      rw [IntWalk.i64_in (((s.length : Nat) : Int) - 3) (by omega)]
      omega
    have ex : x10 s = s.take (s.length - 3) := by unfold x10; rw [ek, List.drop_zero, Int.toNat_natCast]
    rw [ek, ex, h1]
    have d1 : decide (((s.length : Nat) : Int) < 3) = false := by rw [decide_eq_false_iff_not]; omega
    have d2 : (decide (0 ≤ ((s.length - 3 : Nat) : Int)) && decide (((s.length - 3 : Nat) : Int) ≤ ((s.length : Nat) : Int))) = true := by simp only [Bool.and_eq_true, decide_eq_true_eq]; omega
    have d3 : Nat.blt (s.take (s.length - 3)).length 1000000000000 = true := by rw [Nat.blt_eq, List.length_take]; omega
    rw [d1, d2, d3]
    unfold opn
    cases (sealB (s.take (s.length - 3)) == s) <;> rfl

end Go.Proofs.YtkdbaijabnhniaaGreatDoor

namespace Go.Proofs.YtkdbaijabnhniaaGreatDoor
open Go.Ev
set_option maxRecDepth 100000

/-! ## Plain -/

def mkA (x : List UInt8) (p : Int) : A3 := ⟨(aK x p).toNat, (aN x p).toNat, aS x p⟩
def decF : Nat → List UInt8 → Int → Option (List A3)
  | 0, _, _ => none
  | f + 1, x, p => cond (decide (p < ((x.length : Nat) : Int))) (cond (aG x p) ((decF f x (aE x p)).map fun l => mkA x p :: l) none) (some [])
def decX (x : List UInt8) : Option (List A3) := decF (x.length + 1) x 0
def dAll (s : List UInt8) : Option (List A3) := cond (Nat.blt s.length 3) none (cond (opn s) (decX (s.take (s.length - 3))) none)
def dOk (s : List UInt8) : Bool := (dAll s).isSome
def dL (s : List UInt8) : List A3 := (dAll s).getD []

theorem aG_ok {x : List UInt8} {p : Int} (h : okAt x p = true) (hg : aG x p = true) : okAt x (aE x p) = true ∧ p < aE x p ∧ okA (mkA x p) ∧ rowA (mkA x p) = [.int .i64 (aK x p), .int .u64 (aN x p), .str (aS x p)] := by
  unfold aG at hg
  rw [Bool.and_eq_true] at hg
  obtain ⟨g1, g2⟩ := hg
  obtain ⟨h1, m1⟩ := at_next h
  obtain ⟨h2, m2⟩ := at_next h1
  obtain ⟨h3, m3⟩ := at_next h2
  unfold aOK at g1
  simp only [Bool.and_eq_true, beq_iff_eq, decide_eq_true_eq] at g1
  obtain ⟨x0, x1, x2, x3, x4⟩ := g1
  have l1 := m1 x0
  have l2 := m2 x1
  have l3 := m3 x2
  obtain ⟨q, hq, hq1, hq2⟩ := okAt_iff.1 h3
  have hw : w3 x p = (q : Int) := hq
  have hE : aE x p = w3 x p + aL x p := rfl
  have k0 : 0 ≤ aK x p := gN_nn _ _
  have n0 : 0 ≤ aN x p := gN_nn _ _
  have l0 : 0 ≤ aL x p := gN_nn _ _
  unfold aR rightB at g2
  simp only [Bool.and_eq_true, decide_eq_true_eq] at g2
  obtain ⟨_, r1, r2, r3⟩ := g2
  refine ⟨okAt_iff.2 ⟨(aE x p).toNat, by omega, by omega, hq2⟩, ?_, ⟨by simp only [mkA]; omega, by simp only [mkA]; omega, by simp only [mkA]; omega⟩, ?_⟩
  · show p < w3 x p + aL x p
    have : p < w3 x p := by
      show p < gE x (gE x (gE x p))
      omega
    omega
  · unfold rowA mkA
    simp only
    rw [Int.toNat_of_nonneg k0, Int.toNat_of_nonneg n0]

/-- what is read is so written -/
theorem aG_enc {x : List UInt8} {p : Nat} (h : okAt x (p : Int) = true) (hg : aG x (p : Int) = true) : x.drop p = encA (mkA x p) ++ x.drop (aE x (p : Int)).toNat := by
  unfold aG at hg
  rw [Bool.and_eq_true] at hg
  obtain ⟨g1, g2⟩ := hg
  have go : ∀ q : Nat, okAt x (q : Int) = true → gX x (q : Int) = 0 → ∃ q' : Nat, gE x (q : Int) = (q' : Int) ∧ okAt x (q' : Int) = true ∧ x.drop q = putD (gN x (q : Int)).toNat ++ x.drop q' := by
    intro q hq hx
    obtain ⟨q', e1, e2, e3⟩ := okAt_iff.1 (at_next hq).1
    refine ⟨q', e1, by rw [← e1]; exact (at_next hq).1, ?_⟩
    unfold gX at hx
    rw [Int.toNat_natCast] at hx
    have hz : (getV (x.drop q)).2.2 = 0 := by omega
    unfold gE gK at e1
    unfold gN
    rw [Int.toNat_natCast] at e1 ⊢
    cases hv : getV (x.drop q) with
    | mk n y =>
      obtain ⟨k, e⟩ := y
      rw [hv] at hz e1
      simp only at hz e1
      subst hz
      obtain ⟨v1, v2, v3⟩ := getV_put hv
      have kb : Nat.beq k 0 = false := by
        rw [Bool.eq_false_iff]
        intro z
        have := Nat.eq_of_beq_eq_true z
        omega
      rw [kb, cond_false] at e1
      have e4 : q' = q + k := by omega
      simp only [Int.toNat_natCast]
      have hn : (getV (x.drop q)).1 = n := by rw [hv]
      rw [hn, ← v1, e4, ← List.drop_drop, List.take_append_drop]
  unfold aOK at g1
  simp only [Bool.and_eq_true, beq_iff_eq, decide_eq_true_eq] at g1
  obtain ⟨x0, x1, x2, x3, x4⟩ := g1
  obtain ⟨q1, a1, a2, a3⟩ := go p h x0
  have b1 : w1 x (p : Int) = (q1 : Int) := a1
  rw [b1] at x1
  obtain ⟨q2, c1, c2, c3⟩ := go q1 a2 x1
  have d1 : w2 x (p : Int) = (q2 : Int) := by unfold w2; rw [b1]; exact c1
  rw [d1] at x2
  obtain ⟨q3, f1, f2, f3⟩ := go q2 c2 x2
  have u1 : w3 x (p : Int) = (q3 : Int) := by unfold w3; rw [d1]; exact f1
  have k0 : 0 ≤ aK x p := gN_nn _ _
  have n0 : 0 ≤ aN x p := gN_nn _ _
  have l0 : 0 ≤ aL x p := gN_nn _ _
  obtain ⟨_, _, hq1, hq2⟩ := okAt_iff.1 f2
  have hq3 : q3 ≤ x.length := by omega
  unfold aR rightB at g2
  simp only [Bool.and_eq_true, decide_eq_true_eq] at g2
  obtain ⟨_, r1, r2, r3⟩ := g2
  have eN : aN x (p : Int) = gN x (q1 : Int) := by unfold aN; rw [b1]
  have eL : aL x (p : Int) = gN x (q2 : Int) := by unfold aL; rw [d1]
  rw [eL, u1] at x4
  have hE : (aE x (p : Int)).toNat = q3 + (gN x (q2 : Int)).toNat := by unfold aE; rw [u1, eL]; rw [eL] at l0; omega
  have hS : aS x (p : Int) = (x.drop q3).take (gN x (q2 : Int)).toNat := by
    unfold aS
    rw [hE, u1, Int.toNat_natCast, List.drop_take, Nat.add_sub_cancel_left]
  have hSl : (aS x (p : Int)).length = (gN x (q2 : Int)).toNat := by
    rw [eL] at l0
    rw [hS, List.length_take, List.length_drop]
    omega
  have hSd : x.drop q3 = aS x (p : Int) ++ x.drop (aE x (p : Int)).toNat := by rw [hS, hE, ← List.drop_drop, List.take_append_drop]
  rw [a3, c3, f3, hSd]
  unfold encA mkA
  simp only
  rw [putB_putD _ (by omega), putB_putD _ (by omega), hSl, putB_putD _ (by omega), eN]
  simp only [List.append_assoc]
  rfl

theorem decF_cat : ∀ (f : Nat) (x : List UInt8) (p : Nat) (l : List A3), okAt x (p : Int) = true → decF f x (p : Int) = some l → x.drop p = catA l ∧ ∀ a ∈ l, okA a
  | 0, _, _, _, _, h => by cases h
  | f + 1, x, p, l, hp, h => by
    obtain ⟨q, e, h1, h2⟩ := okAt_iff.1 hp
    have e : q = p := by omega
    subst e
    unfold decF at h
    by_cases c : (q : Int) < ((x.length : Nat) : Int)
    · rw [decide_eq_true c, cond_true] at h
      cases hg : aG x (q : Int)
      · rw [hg] at h; cases h
      · rw [hg, cond_true] at h
        obtain ⟨l', hl', rfl⟩ := Option.map_eq_some_iff.1 h
        obtain ⟨k1, k2, k3, _⟩ := aG_ok hp hg
        obtain ⟨q', e1, e2, e3⟩ := okAt_iff.1 k1
        rw [e1] at hl' k1
        obtain ⟨i1, i2⟩ := decF_cat f x q' l' k1 hl'
        refine ⟨?_, fun a ha => ?_⟩
        · rw [aG_enc hp hg, e1, Int.toNat_natCast, i1]
          rfl
        · rcases List.mem_cons.1 ha with rfl | ha
          · exact k3
          · exact i2 a ha
    · rw [decide_eq_false c, cond_false] at h
      injection h with h
      subst h
      refine ⟨?_, fun a ha => (nomatch ha)⟩
      rw [List.drop_eq_nil_of_le (by omega)]
      rfl

theorem rows_snoc {f : Nat → List SV} {done : List A3} {a : A3} {r : Nat → List SV} (hf : ∀ (j : Nat) (a : A3), done[j]? = some a → f j = rowA a) (hr : r 0 = rowA a) : ∀ (j : Nat) (b : A3), (done ++ [a])[j]? = some b → catRows done.length 0 f r j = rowA b := by
  intro j b hb
  unfold catRows
  by_cases hj : j < done.length
  · have : Nat.blt j done.length = true := by rw [Nat.blt_eq]; exact hj
    rw [this, cond_true, Nat.add_zero]
    exact hf j b (by rw [List.getElem?_append_left hj] at hb; exact hb)
  · have : Nat.blt j done.length = false := by rw [Bool.eq_false_iff]; intro q; rw [Nat.blt_eq] at q; exact hj q
    rw [this, cond_false]
    rw [List.getElem?_append_right (by omega)] at hb
    have hz : j - done.length = 0 := by
      rcases Nat.eq_zero_or_pos (j - done.length) with q | q
      · exact q
      · obtain ⟨z, hz⟩ : ∃ z, j - done.length = z + 1 := ⟨j - done.length - 1, by omega⟩
        rw [hz] at hb
        simp at hb
    rw [hz] at hb ⊢
    simp only [List.getElem?_cons_zero, Option.some.injEq] at hb
    subst hb
    exact hr

def row5g (x : List UInt8) (p : Int) : Nat → List SV := chunk 3 [.int .i64 (aK x p), .int .u64 (aN x p), .str (aS x p)]
def bad5 : AV := .tup [.s .nils, .s (.int .i64 12)]

/-! ## The program's Decode -/

noncomputable def E3 : Orc := putO 10 openG (putO 11 actG failO)
theorem E3_ok : OrcOK Tryz.prog G0 E3 := putO_ok openG_ok (putO_ok actG_ok failO_ok)
def R5 (x : List UInt8) (p : Int) (l : AV) (h : Heap) : St := St.mk (lookA [(2, .s .nils), (3, .s (.int .i64 12)), (4, .s (.str x)), (6, l), (7, .s (.int .i64 p))]) (lookB []) h 0 43 42
def H5 (g m : Nat) (f : Nat → List SV) : Heap := [(39, ⟨g, .rows 3 m f, some 26⟩)]
theorem rd5a (L) (x : List UInt8) (p : Int) (c : Nat) : iterD T0 E3 AN5 L c5 k5 [] (c + 1) (S5a x p) =
    cond (decide (p < ((x.length : Nat) : Int))) (cond (okAt x p) (cond (aOK x p) (cond (!(aR x p)) (some (.ret, R5 x p (.s .nils) []))
      (iterD T0 E3 AN5 L c5 k5 [] c (S5b x (aE x p) 0 1 (row5g x p)))) (some (.ret, R5 x p (.s .nils) []))) none) (some (.exit 0, S5a x p)) := by kernel_rfl
theorem rd5b (L) (x : List UInt8) (p : Int) (g m : Nat) (f : Nat → List SV) (c : Nat) : iterD T0 E3 AN5 L c5 k5 [] (c + 1) (S5b x p g m f) =
    cond (decide (p < ((x.length : Nat) : Int))) (cond (okAt x p) (cond (aOK x p) (cond (!(aR x p)) (some (.ret, R5 x p (.sl 39 g 3 0 m) (H5 g m f)))
      (cond (cond false true (decide (((m : Nat) : Int) ≥ 1000))) (some (.ret, R5 x p (.sl 39 g 3 0 m) (H5 g m f)))
        (cond (Nat.beq g g) (cond (Nat.ble ((m + 1) * 33) room) (iterD T0 E3 AN5 L c5 k5 [] c (S5b x (aE x p) (g + 1) (m + 1) (catRows m 0 f (row5g x p)))) none) none))) (some (.ret, R5 x p (.sl 39 g 3 0 m) (H5 g m f)))) none)
      (some (.exit 0, S5b x p g m f)) := by kernel_rfl
theorem run5g (s : List UInt8) : runP T0 E3 AN5 (LX AN5 E3 k5 1002) Tryz.f5 [.s (.str s)] = cond (Nat.blt s.length 1000000000000) (cond (Nat.blt s.length 3) (some (.ret bad5)) (cond (opn s)
    (goLT (blockK 0 (thenK T0 E3 AN5 (LX AN5 E3 k5 1002) (subC [1, 1, 1, 1, 1] B5) K5)) (ltOf (iterD T0 E3 AN5 (loopD T0 E3 AN5 (fun _ => k5) (fun _ => []) 1002 0) c5 k5 [] 1002 (S5a (s.take (s.length - 3)) 0)))) (some (.ret bad5)))) none := by kernel_rfl
theorem tl5a (L) (x : List UInt8) (p : Int) : goLT (blockK 0 (thenK T0 E3 AN5 L (subC [1, 1, 1, 1, 1] B5) K5)) (ltOf (some (.exit 0, S5a x p))) = some (.ret (.tup [.s .nils, .s (.int .i64 0)])) := by kernel_rfl
theorem tl5b (L) (x : List UInt8) (p : Int) (g m : Nat) (f : Nat → List SV) : goLT (blockK 0 (thenK T0 E3 AN5 L (subC [1, 1, 1, 1, 1] B5) K5)) (ltOf (some (.exit 0, S5b x p g m f))) =
    (match out2 [(39, ⟨g, .rows 3 m f, some 26⟩)] (.tup [.sl 39 g 3 0 m, .s (.int .i64 0)]) with | some v => some (.ret v) | none => none) := by kernel_rfl
theorem rt5a (L) (x : List UInt8) (p : Int) : goLT (blockK 0 (thenK T0 E3 AN5 L (subC [1, 1, 1, 1, 1] B5) K5)) (ltOf (some (.ret, R5 x p (.s .nils) []))) = some (.ret bad5) := by kernel_rfl
theorem rt5b (L) (x : List UInt8) (p : Int) (g m : Nat) (f : Nat → List SV) : goLT (blockK 0 (thenK T0 E3 AN5 L (subC [1, 1, 1, 1, 1] B5) K5)) (ltOf (some (.ret, R5 x p (.sl 39 g 3 0 m) (H5 g m f)))) = some (.ret bad5) := by kernel_rfl

/-- how a run over the rest ends -/
def Ends5 (K : Ex → St → Option PR) (r : Option (Ex × St)) (done : List A3) : Option (List A3) → Prop
  | none => goLT K (ltOf r) = some (.ret bad5)
  | some l => ∃ f' : Nat → List SV, goLT K (ltOf r) = some (.ret (.tup [.own 3 (done.length + l.length) (fun i => f' (i + 0)), .s (.int .i64 0)])) ∧ ∀ (j : Nat) (a : A3), (done ++ l)[j]? = some a → f' j = rowA a

theorem Ends5.cons {K : Ex → St → Option PR} {r : Option (Ex × St)} {done : List A3} {a : A3} : ∀ {o : Option (List A3)}, Ends5 K r (done ++ [a]) o → Ends5 K r done (o.map fun l => a :: l)
  | none, h => h
  | some l, ⟨f', h1, h2⟩ => by
    refine ⟨f', ?_, by simpa using h2⟩
    rw [h1]
    simp only [List.length_append, List.length_cons, List.length_nil]
    rw [show done.length + (0 + 1) + l.length = done.length + (l.length + 1) by omega]

theorem it5 (L M : Code → St → LT) (x : List UInt8) (hx : x.length ≤ 600) : ∀ (f : Nat) (done : List A3) (p g : Nat) (fn : Nat → List SV) (n : Nat), okAt x (p : Int) = true → x.length - p < f → f ≤ n → done.length ≤ p → (∀ (j : Nat) (a : A3), done[j]? = some a → fn j = rowA a) →
    Ends5 (blockK 0 (thenK T0 E3 AN5 L (subC [1, 1, 1, 1, 1] B5) K5)) (iterD T0 E3 AN5 M c5 k5 [] n (S5b x p g done.length fn)) done (decF f x (p : Int))
  | f + 1, done, p, g, fn, n + 1, hp, hf, hn, hd, hr => by
    obtain ⟨q, e, h1, h2⟩ := okAt_iff.1 hp
    have e : q = p := by omega
    subst e
    rw [rd5b]
    unfold decF
    by_cases c : (q : Int) < ((x.length : Nat) : Int)
    · rw [decide_eq_true c, cond_true, cond_true, hp, cond_true]
      cases hg1 : aOK x (q : Int)
      · have : aG x (q : Int) = false := by unfold aG; rw [hg1]; rfl
        rw [this, cond_false, cond_false]
        exact rt5b L x q g _ fn
      cases hg2 : aR x (q : Int)
      · have : aG x (q : Int) = false := by unfold aG; rw [hg1, hg2]; rfl
        rw [this, cond_false, cond_true]
        exact rt5b L x q g _ fn
      have hg : aG x (q : Int) = true := by unfold aG; rw [hg1, hg2]; rfl
      obtain ⟨k1, k2, k3, k4⟩ := aG_ok hp hg
      obtain ⟨q', e1, e2, e3⟩ := okAt_iff.1 k1
      have d2 : decide (((done.length : Nat) : Int) ≥ 1000) = false := by rw [decide_eq_false_iff_not]; omega
      have d3 : Nat.ble ((done.length + 1) * 33) room = true := by unfold room; rw [Nat.ble_eq]; omega
      rw [hg, d2, d3, Nat.beq_refl]
      simp only [cond_true, cond_false, Bool.not_true]
      rw [e1] at k1 k2 ⊢
      have e4 : done.length + 1 = (done ++ [mkA x q]).length := by simp
      rw [e4]
      have e5 : row5g x (q : Int) 0 = rowA (mkA x q) := by
        rw [k4]
        rfl
      exact (it5 L M x hx f (done ++ [mkA x q]) q' (g + 1) (catRows done.length 0 fn (row5g x q)) n k1 (by omega) (by omega) (by simp; omega) (rows_snoc hr e5)).cons
    · rw [decide_eq_false c, cond_false, cond_false]
      refine ⟨fn, ?_, by simpa using hr⟩
      rw [tl5b, out5]
      rfl
  | 0, _, _, _, _, _, _, hf, _, _, _ => by omega
  | _ + 1, _, _, _, _, 0, _, _, hn, _, _ => by omega

def decV (l : List A3) : AV := cond (isNil l) (.tup [.s .nils, .s (.int .i64 0)]) (.tup [.own 3 l.length (rowsA l), .s (.int .i64 0)])

theorem take3 (s : List UInt8) (h : s.length ≤ 600) : (s.take (s.length - 3)).length ≤ 600 ∧ okAt (s.take (s.length - 3)) ((0 : Nat) : Int) = true := by
  have hl : (s.take (s.length - 3)).length ≤ 600 := by rw [List.length_take]; omega
  exact ⟨hl, okAt_iff.2 ⟨0, rfl, by omega, by omega⟩⟩

theorem rows_own {f : FuncId} {args : List AV} {l : List A3} {fn : Nat → List SV} {v : AV} (h : SoundP Tryz.prog G0 f args (.ret (.tup [.own 3 l.length (fun i => fn (i + 0)), v]))) (hf : ∀ (j : Nat) (a : A3), l[j]? = some a → fn j = rowA a) : SoundP Tryz.prog G0 f args (.ret (.tup [.own 3 l.length (rowsA l), v])) :=
  own_ext h fun i hi => by
    rw [Nat.add_zero, hf i l[i] (List.getElem?_eq_getElem hi)]
    unfold rowsA
    simp [List.getD_eq_getElem?_getD, hi]

theorem dec5 (s : List UInt8) (hs : s.length ≤ 600) : match dAll s with
    | none => SoundP Tryz.prog G0 5 [.s (.str s)] (.ret bad5)
    | some l => SoundP Tryz.prog G0 5 [.s (.str s)] (.ret (decV l)) := by
  have hlt : Nat.blt s.length 1000000000000 = true := by rw [Nat.blt_eq]; omega
  have run : ∀ v, runP T0 E3 AN5 (LX AN5 E3 k5 1002) Tryz.f5 [.s (.str s)] = some (.ret v) → SoundP Tryz.prog G0 5 [.s (.str s)] (.ret v) := fun v h => sp' (an := AN5) E3_ok rfl Tryz.func5 (by kernel_rfl) k5 1002 h
  have hr := run5g s
  rw [hlt, cond_true] at hr
  unfold dAll
  cases c1 : Nat.blt s.length 3
  · rw [c1, cond_false] at hr
    rw [cond_false]
    cases c2 : opn s
    · rw [c2, cond_false] at hr
      exact run _ hr
    · rw [c2, cond_true] at hr
      rw [cond_true]
      obtain ⟨t1, t2⟩ := take3 s hs
      generalize s.take (s.length - 3) = x at hr t1 t2
      have hz : ((0 : Nat) : Int) = 0 := rfl
      unfold decX decF
      rw [rd5a] at hr
      rw [hz] at t2
      by_cases c : (0 : Int) < ((x.length : Nat) : Int)
      · rw [decide_eq_true c, cond_true, t2, cond_true] at hr
        rw [decide_eq_true c, cond_true]
        cases hg1 : aOK x 0
        · have : aG x 0 = false := by unfold aG; rw [hg1]; rfl
          rw [hg1, cond_false, rt5a] at hr
          rw [this, cond_false]
          exact run _ hr
        cases hg2 : aR x 0
        · have : aG x 0 = false := by unfold aG; rw [hg1, hg2]; rfl
          rw [hg1, hg2, cond_true] at hr
          rw [this, cond_false]
          exact run _ (hr.trans (rt5a _ x 0))
        have hg : aG x 0 = true := by unfold aG; rw [hg1, hg2]; rfl
        obtain ⟨k1, k2, k3, k4⟩ := aG_ok t2 hg
        obtain ⟨q', e1, e2, e3⟩ := okAt_iff.1 k1
        rw [hg1, hg2] at hr
        simp only [cond_true, cond_false, Bool.not_true] at hr
        rw [hg, cond_true]
        rw [e1] at k1 k2 hr ⊢
        have e5 : row5g x 0 0 = rowA (mkA x 0) := by
          rw [k4]
          rfl
        have key := it5 (LX AN5 E3 k5 1002) (loopD T0 E3 AN5 (fun _ => k5) (fun _ => []) 1002 0) x t1 x.length [mkA x 0] q' 0 (row5g x 0) 1001 k1 (by omega) (by omega) (by simp; omega) (fun j b hb => by
          cases j with
          | zero =>
            simp only [List.getElem?_cons_zero, Option.some.injEq] at hb
            subst hb
            exact e5
          | succ j => simp at hb)
        generalize decF x.length x (q' : Int) = o at key
        cases o with
        | none => exact run _ (hr.trans key)
        | some l =>
          obtain ⟨f', key1, key2⟩ := key
          have := run _ (hr.trans key1)
          show SoundP _ _ _ _ (.ret (decV (mkA x 0 :: l)))
          have e6 : [mkA x 0].length + l.length = (mkA x 0 :: l).length := by simp; omega
          rw [e6] at this
          exact rows_own this (by simpa using key2)
      · rw [decide_eq_false c, cond_false, tl5a] at hr
        rw [decide_eq_false c, cond_false]
        exact run _ hr
  · rw [c1, cond_true] at hr
    exact run _ hr

def decG : List AV → PR
  | [.s (.str s)] => .br (Nat.ble s.length 600) (.br (dOk s) (.br (isNil (dL s)) (.ret (.tup [.s .nils, .s (.int .i64 0)])) (.ret (.tup [.own 3 (dL s).length (rowsA (dL s)), .s (.int .i64 0)]))) (.ret bad5)) .fail
  | _ => .fail
theorem decG_ok (args : List AV) : SoundP Tryz.prog G0 5 args (decG args) := by
  unfold decG
  split
  · rename_i s
    refine brP fun hc => ?_
    rw [Nat.ble_eq] at hc
    have := dec5 s hc
    unfold dOk dL
    cases h : dAll s with
    | none =>
      rw [h] at this
      exact br2P (fun h => by cases h) fun _ => this
    | some l =>
      rw [h] at this
      simp only [decV] at this
      refine br2P (fun _ => ?_) (fun h => by cases h)
      exact br2P (fun h => by simp only [Option.getD_some] at h; rw [h] at this; exact this) (fun h => by simp only [Option.getD_some] at h; rw [h] at this; exact this)
  · exact failP

/-! ## The document's Decode -/

noncomputable def E4 : Orc := putO 12 openG (putO 13 getT failO)
theorem E4_ok : OrcOK Tryz.prog G0 E4 := putO_ok openR_ok (putO_ok getT_ok failO_ok)
def AN6 : Ann := { glob := glob0, heap := fun d => !(Nat.beq d 8 || Nat.beq d 37) }
noncomputable def B6 : Code := (Tryz.f6.body).getD .skip
noncomputable def c6 : Code := subC [1, 1, 1, 1, 0, 0, 0] B6
noncomputable def K6 : Ex → St → Option PR := finP T0 AN6 Tryz.f6.results.toList
def H6 (g m : Nat) (f : Nat → List SV) : Heap := [(17, ⟨g, .rows 3 m f, none⟩)]
def S6 (x : List UInt8) (p : Int) (g m : Nat) (f : Nat → List SV) : St := St.mk (lookA [(2, .s .nils), (3, .s (.int .i64 0)), (4, .s (.str x)), (6, .sl 17 g 3 0 m), (7, .s (.int .i64 p))]) (lookB []) (H6 g m f) 0 42 41
def R6 (x : List UInt8) (p : Int) (g m : Nat) (f : Nat → List SV) : St := St.mk (lookA [(2, .s .nils), (3, .s (.int .i64 12)), (4, .s (.str x)), (6, .sl 17 g 3 0 m), (7, .s (.int .i64 p))]) (lookB []) (H6 g m f) 0 42 41
theorem rd6 (L) (x : List UInt8) (p : Int) (g m : Nat) (f : Nat → List SV) (c : Nat) : iterD T0 E4 AN6 L c6 k5 [] (c + 1) (S6 x p g m f) =
    cond (decide (p < ((x.length : Nat) : Int))) (cond (okAt x p) (cond (aG x p) (cond (aE x p == 0) (some (.ret, R6 x p g m f))
      (cond (cond false true (decide (((m : Nat) : Int) ≥ 1000))) (some (.ret, R6 x p g m f))
        (cond (Nat.beq g g) (cond (Nat.ble ((m + 1) * 33) room) (iterD T0 E4 AN6 L c6 k5 [] c (S6 x (aE x p) (g + 1) (m + 1) (catRows m 0 f (row5g x p)))) none) none))) (some (.ret, R6 x p g m f))) none)
      (some (.exit 0, S6 x p g m f)) := by kernel_rfl
theorem run6 (s : List UInt8) : runP T0 E4 AN6 (LX AN6 E4 k5 1002) Tryz.f6 [.s (.str s)] = cond (Nat.blt s.length 1000000000000) (cond (Nat.blt s.length 3) (some (.ret bad5)) (cond (opn s)
    (goLT (blockK 0 (thenK T0 E4 AN6 (LX AN6 E4 k5 1002) (subC [1, 1, 1, 1, 1] B6) K6)) (ltOf (iterD T0 E4 AN6 (loopD T0 E4 AN6 (fun _ => k5) (fun _ => []) 1002 0) c6 k5 [] 1002 (S6 (s.take (s.length - 3)) 0 0 0 (chunk 3 []))))) (some (.ret bad5)))) none := by kernel_rfl
theorem tl6 (L) (x : List UInt8) (p : Int) (g m : Nat) (f : Nat → List SV) : goLT (blockK 0 (thenK T0 E4 AN6 L (subC [1, 1, 1, 1, 1] B6) K6)) (ltOf (some (.exit 0, S6 x p g m f))) =
    (match out2 [(17, ⟨g, .rows 3 m f, none⟩)] (.tup [.sl 17 g 3 0 m, .s (.int .i64 0)]) with | some v => some (.ret v) | none => none) := by kernel_rfl
theorem out6 (g m : Nat) (f : Nat → List SV) : out2 [(17, ⟨g, .rows 3 m f, none⟩)] (.tup [.sl 17 g 3 0 m, .s (.int .i64 0)]) = some (.tup [.own 3 m (fun i => f (i + 0)), .s (.int .i64 0)]) := by
  simp [out2, outs, out1, out0, Heap.get, Nat.beq_refl]
theorem rt6 (L) (x : List UInt8) (p : Int) (g m : Nat) (f : Nat → List SV) : goLT (blockK 0 (thenK T0 E4 AN6 L (subC [1, 1, 1, 1, 1] B6) K6)) (ltOf (some (.ret, R6 x p g m f))) = some (.ret bad5) := by kernel_rfl

theorem it6 (L M : Code → St → LT) (x : List UInt8) (hx : x.length ≤ 600) : ∀ (f : Nat) (done : List A3) (p g : Nat) (fn : Nat → List SV) (n : Nat), okAt x (p : Int) = true → x.length - p < f → f ≤ n → done.length ≤ p → (∀ (j : Nat) (a : A3), done[j]? = some a → fn j = rowA a) →
    Ends5 (blockK 0 (thenK T0 E4 AN6 L (subC [1, 1, 1, 1, 1] B6) K6)) (iterD T0 E4 AN6 M c6 k5 [] n (S6 x p g done.length fn)) done (decF f x (p : Int))
  | f + 1, done, p, g, fn, n + 1, hp, hf, hn, hd, hr => by
    obtain ⟨q, e, h1, h2⟩ := okAt_iff.1 hp
    have e : q = p := by omega
    subst e
    rw [rd6]
    unfold decF
    by_cases c : (q : Int) < ((x.length : Nat) : Int)
    · rw [decide_eq_true c, cond_true, cond_true, hp, cond_true]
      cases hg : aG x (q : Int)
      · rw [cond_false, cond_false]
        exact rt6 L x q g _ fn
      obtain ⟨k1, k2, k3, k4⟩ := aG_ok hp hg
      obtain ⟨q', e1, e2, e3⟩ := okAt_iff.1 k1
      have d1 : (aE x (q : Int) == 0) = false := by rw [beq_eq_false_iff_ne]; omega
      have d2 : decide (((done.length : Nat) : Int) ≥ 1000) = false := by rw [decide_eq_false_iff_not]; omega
      have d3 : Nat.ble ((done.length + 1) * 33) room = true := by unfold room; rw [Nat.ble_eq]; omega
      rw [d1, d2, d3, Nat.beq_refl]
      simp only [cond_true, cond_false]
      rw [e1] at k1 k2 ⊢
      have e4 : done.length + 1 = (done ++ [mkA x q]).length := by simp
      rw [e4]
      have e5 : row5g x (q : Int) 0 = rowA (mkA x q) := by
        rw [k4]
        rfl
      exact (it6 L M x hx f (done ++ [mkA x q]) q' (g + 1) (catRows done.length 0 fn (row5g x q)) n k1 (by omega) (by omega) (by simp; omega) (rows_snoc hr e5)).cons
    · rw [decide_eq_false c, cond_false, cond_false]
      refine ⟨fn, ?_, by simpa using hr⟩
      rw [tl6, out6]
      rfl
  | 0, _, _, _, _, _, _, hf, _, _, _ => by omega
  | _ + 1, _, _, _, _, 0, _, _, hn, _, _ => by omega

theorem dec6 (s : List UInt8) (hs : s.length ≤ 600) : match dAll s with
    | none => SoundP Tryz.prog G0 6 [.s (.str s)] (.ret bad5)
    | some l => SoundP Tryz.prog G0 6 [.s (.str s)] (.ret (.tup [.own 3 l.length (rowsA l), .s (.int .i64 0)])) := by
  have hlt : Nat.blt s.length 1000000000000 = true := by rw [Nat.blt_eq]; omega
  have run : ∀ v, runP T0 E4 AN6 (LX AN6 E4 k5 1002) Tryz.f6 [.s (.str s)] = some (.ret v) → SoundP Tryz.prog G0 6 [.s (.str s)] (.ret v) := fun v h => sp' (an := AN6) E4_ok rfl Tryz.func6 (by kernel_rfl) k5 1002 h
  have hr := run6 s
  rw [hlt, cond_true] at hr
  unfold dAll
  cases c1 : Nat.blt s.length 3
  · rw [c1, cond_false] at hr
    rw [cond_false]
    cases c2 : opn s
    · rw [c2, cond_false] at hr
      exact run _ hr
    · rw [c2, cond_true] at hr
      rw [cond_true]
      obtain ⟨t1, t2⟩ := take3 s hs
      generalize s.take (s.length - 3) = x at hr t1 t2
      have key := it6 (LX AN6 E4 k5 1002) (loopD T0 E4 AN6 (fun _ => k5) (fun _ => []) 1002 0) x t1 (x.length + 1) [] 0 0 (chunk 3 []) 1002 t2 (by omega) (by omega) (by simp) (fun j b hb => by simp at hb)
      unfold decX
      rw [show ((0 : Nat) : Int) = 0 from rfl] at key
      generalize decF (x.length + 1) x 0 = o at key
      cases o with
      | none => exact run _ (hr.trans key)
      | some l =>
        obtain ⟨f', key1, key2⟩ := key
        have := run _ (hr.trans key1)
        rw [List.length_nil, Nat.zero_add] at this
        exact rows_own this (by simpa using key2)
  · rw [c1, cond_true] at hr
    exact run _ hr

def decR : List AV → PR
  | [.s (.str s)] => .br (Nat.ble s.length 600) (.br (dOk s) (.ret (.tup [.own 3 (dL s).length (rowsA (dL s)), .s (.int .i64 0)])) (.ret bad5)) .fail
  | _ => .fail
theorem decR_ok (args : List AV) : SoundP Tryz.prog G0 6 args (decR args) := by
  unfold decR
  split
  · rename_i s
    refine brP fun hc => ?_
    rw [Nat.ble_eq] at hc
    have := dec6 s hc
    unfold dOk dL
    cases h : dAll s with
    | none =>
      rw [h] at this
      exact br2P (fun h => by cases h) fun _ => this
    | some l =>
      rw [h] at this
      exact br2P (fun _ => this) (fun h => by cases h)
  · exact failP

/-- what was decoded, encoded -/
theorem dAll_ok {s : List UInt8} {l : List A3} (hs : s.length ≤ 600) (h : dAll s = some l) : sealB (catA l) = s ∧ (∀ a ∈ l, okA a) ∧ l.length ≤ 600 := by
  unfold dAll at h
  cases c1 : Nat.blt s.length 3
  · rw [c1, cond_false] at h
    cases c2 : opn s
    · rw [c2] at h; cases h
    · rw [c2, cond_true] at h
      obtain ⟨t1, t2⟩ := take3 s hs
      have h' : decF ((s.take (s.length - 3)).length + 1) (s.take (s.length - 3)) ((0 : Nat) : Int) = some l := h
      obtain ⟨i1, i2⟩ := decF_cat _ _ 0 l t2 h'
      rw [List.drop_zero] at i1
      unfold opn at c2
      rw [beq_iff_eq] at c2
      refine ⟨by rw [← i1]; exact c2, i2, ?_⟩
      have key : ∀ l : List A3, (∀ a ∈ l, okA a) → l.length ≤ (catA l).length := by
        intro l
        induction l with
        | nil => intro _; exact Nat.zero_le _
        | cons a l ih =>
          intro ha
          have := ih fun b hb => ha b (by simp [hb])
          have e := encA_len a (ha a (by simp))
          have : catA (a :: l) = encA a ++ catA l := rfl
          rw [this, List.length_append, List.length_cons]
          omega
      have := key l i2
      rw [← i1] at this
      omega
  · rw [c1] at h; cases h

end Go.Proofs.YtkdbaijabnhniaaGreatDoor
