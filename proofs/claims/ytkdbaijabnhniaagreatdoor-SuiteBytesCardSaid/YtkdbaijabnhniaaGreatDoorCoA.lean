/- The sums of bytes: crc.On, Of, Seal, Open; when an act may be. -/
import Derived.Test.YtkdbaijabnhniaaGreatDoorBase3
import Derived.Test.YtkdbaijabnhniaaGreatDoorEvDE
import Derived.Test.YtkdbaijabnhniaaGreatDoorShl
import Derived.Lib.BitFns
namespace Go.Proofs.YtkdbaijabnhniaaGreatDoor
open Go.Ev
set_option maxRecDepth 100000

def AN : Ann := { glob := glob0 }
noncomputable def LD (C : Orc) (ks : List Nat) (rounds : Nat) : Code → St → LT := loopD T0 C AN (fun _ => ks) (fun _ => []) rounds 1
theorem T0_ok : TabOK Tryz.prog T0 := tabOf_ok _
theorem names_ok : (Tryz.prog.funcs.toList.all fun fn => !(fn.name == "runtime.NumGoroutine")) = true := by kernel_rfl
theorem mixed : Tryz.prog.follows .mixedOrders = true := by kernel_rfl

theorem name_ok {f : FuncId} {fn : Func} (hf : Tryz.prog.funcs[f]? = some fn) : (fn.name == "runtime.NumGoroutine") = false := by
  have h := List.all_eq_true.1 names_ok fn (by
    rw [Array.mem_toList_iff]
    exact Array.mem_of_getElem? hf)
  simpa using h

theorem some_of_isNone {α : Type} : ∀ {o : Option α}, o.isNone = false → ∃ c, o = some c
  | some c, _ => ⟨c, rfl⟩

/-- a contract out of a run -/
theorem sp {C : Orc} (hC : OrcOK Tryz.prog G0 C) {f : FuncId} {fn : Func} (hf : Tryz.prog.funcs[f]? = some fn) (hb : fn.body.isNone = false) {args : List AV} {v : AV} (ks : List Nat) (rounds : Nat)
    (h : runP T0 C AN (LD C ks rounds) fn args = some (.ret v)) : SoundP Tryz.prog G0 f args (.ret v) := by
  obtain ⟨c, hc⟩ := some_of_isNone hb
  have A : Oks Tryz.prog G0 T0 C AN := ⟨T0_ok, rfl, callOK hC rfl, mixed⟩
  exact runP_sound rfl A hf (name_ok hf) hc (loopD_ok A _ _ rounds 1 c) (fun l hl => by
    simp only [PR.val, Option.some.injEq] at hl
    subst hl
    exact h)

theorem failP {f : FuncId} {args : List AV} : SoundP Tryz.prog G0 f args .fail := fun l hl => by cases hl

theorem brP {f : FuncId} {args : List AV} {c : Bool} {r : PR} (h : c = true → SoundP Tryz.prog G0 f args r) : SoundP Tryz.prog G0 f args (.br c r .fail) := by
  intro l hl
  cases c
  · cases hl
  · exact h rfl l hl

/-! ## crc.On -/

def xa (x : Int) (b : UInt8) : Int := IntKind.u32.wrap (((BitVec.ofInt 32 x ^^^ BitVec.ofInt 32 (IntKind.u32.wrap (IntKind.u32.wrap ((b.toNat : Nat) : Int) * 65536))).toNat : Nat) : Int)
def tabAt (i : Nat) : Int := (crcTab.map intS).getD i 0
def half (y : Int) : Int := IntKind.u32.wrap (((BitVec.ofInt 32 (IntKind.u32.wrap (((BitVec.ofInt 32 (IntKind.u32.wrap (y * 16)) &&& BitVec.ofInt 32 16777215).toNat : Nat) : Int)) ^^^ BitVec.ofInt 32 (tabAt (y.fdiv 1048576).toNat)).toNat : Nat) : Int)
def idxOk (y : Int) : Bool := decide (0 ≤ y.fdiv 1048576) && decide (y.fdiv 1048576 < 16)
def crcStep (x : Int) (b : UInt8) : Int := half (half (xa x b))
def crcF (s : List UInt8) : Int := s.foldl crcStep 11994318

theorem wrap32 (n : Nat) (h : n < 4294967296) : IntKind.u32.wrap (n : Int) = n := by
  exact IntWalk.u32_in _ (by omega)

theorem ofInt32 (n : Nat) (h : n < 4294967296) : (BitVec.ofInt 32 (n : Int)).toNat = n := by
  simp only [BitVec.toNat_ofInt]
  omega

theorem xor24 {A B : BitVec 32} (ha : A.toNat < 16777216) (hb : B.toNat < 16777216) : 0 ≤ IntKind.u32.wrap (((A ^^^ B).toNat : Nat) : Int) ∧ IntKind.u32.wrap (((A ^^^ B).toNat : Nat) : Int) < 16777216 := by
  have h : (A ^^^ B).toNat < 2 ^ 24 := by
    rw [BitVec.toNat_xor]
    exact Nat.xor_lt_two_pow ha hb
  rw [wrap32 _ (by omega)]
  omega

theorem tab24 (i : Nat) : ∃ n : Nat, tabAt i = n ∧ n < 16777216 := by
  unfold tabAt
  have key : ∀ l : List SV, (l.all fun c => decide (0 ≤ intS c) && decide (intS c < 16777216)) = true → ∀ i : Nat, ∃ n : Nat, (l.map intS).getD i 0 = n ∧ n < 16777216 := by
    intro l hl i
    rw [List.getD_eq_getElem?_getD, List.getElem?_map]
    cases h : l[i]? with
    | none => exact ⟨0, rfl, by omega⟩
    | some c =>
      have := List.all_eq_true.1 hl c (List.mem_of_getElem? h)
      simp only [Bool.and_eq_true, decide_eq_true_eq] at this
      exact ⟨(intS c).toNat, by simp only [Option.map_some, Option.getD_some]; omega, by omega⟩
  exact key crcTab (by decide) i

theorem xa24 {x : Int} {b : UInt8} (h0 : 0 ≤ x) (h1 : x < 16777216) : 0 ≤ xa x b ∧ xa x b < 16777216 := by
  obtain ⟨n, rfl⟩ := Int.eq_ofNat_of_zero_le h0
  have hb := b.toNat_lt
  unfold xa
  refine xor24 ?_ ?_
  · rw [ofInt32 n (by omega)]; omega
  · rw [wrap32 _ (by omega)]
    have : ((b.toNat : Nat) : Int) * 65536 = ((b.toNat * 65536 : Nat) : Int) := by omega
    rw [this, wrap32 _ (by omega), ofInt32 _ (by omega)]
    omega

theorem half24 (y : Int) : 0 ≤ half y ∧ half y < 16777216 := by
  unfold half
  refine xor24 ?_ ?_
  · have h : (BitVec.ofInt 32 (IntKind.u32.wrap (y * 16)) &&& BitVec.ofInt 32 16777215).toNat < 2 ^ 24 := by
      rw [BitVec.toNat_and]
      exact Nat.and_lt_two_pow _ (by decide)
    rw [wrap32 _ (by omega), ofInt32 _ (by omega)]
    omega
  · obtain ⟨n, h1, h2⟩ := tab24 (y.fdiv 1048576).toNat
    rw [h1, ofInt32 _ (by omega)]
    exact h2

theorem idx24 {y : Int} (h0 : 0 ≤ y) (h1 : y < 16777216) : idxOk y = true := by
  unfold idxOk
  simp only [Bool.and_eq_true, decide_eq_true_eq]
  rw [Int.fdiv_eq_ediv_of_nonneg _ (by omega)]
  omega

noncomputable def B35 : Code := (Tryz.f35.body).getD .skip
def k35 : List Nat := [4, 5, 11, 12, 13]
def S35 (s : List UInt8) (x i : Int) : St := St.mk (lookA [(4, .s (.int .u32 0)), (5, .s (.int .u32 x)), (11, .s (.vs 1 s.length (byteRow s))), (12, .s (.int .i64 ((s.length : Nat) : Int))), (13, .s (.int .i64 i))]) (lookB []) [] 0 41 40
noncomputable def c35 : Code := subC [1, 1, 0, 1, 0, 0] B35

theorem round35 (C : Orc) (L) (s : List UInt8) (x i : Int) (n : Nat) : iterD T0 C AN L c35 k35 [] (n + 1) (S35 s x i) =
    cond (decide (i < ((s.length : Nat) : Int))) (cond (decide (0 ≤ i) && decide (i < ((s.length : Nat) : Int))) (cond (idxOk (xa x (s.getD i.toNat 0))) (cond (idxOk (half (xa x (s.getD i.toNat 0))))
      (iterD T0 C AN L c35 k35 [] n (S35 s (crcStep x (s.getD i.toNat 0)) (IntKind.i64.wrap (i + 1)))) none) none) none) (some (.exit 0, S35 s x i)) := by kernel_rfl

theorem wrap64 (n : Nat) (h : n < 9223372036854775808) : IntKind.i64.wrap (n : Int) = n := by
  exact IntWalk.i64_in _ (by omega)

theorem iter35 (C : Orc) (L) (s : List UInt8) (hs : s.length < 9223372036854775807) : ∀ (k i : Nat) (x : Int) (n : Nat), k + i = s.length → k < n → 0 ≤ x → x < 16777216 →
    iterD T0 C AN L c35 k35 [] n (S35 s x i) = some (.exit 0, S35 s ((s.drop i).foldl crcStep x) s.length)
  | 0, i, x, n + 1, hk, hn, h0, h1 => by
    rw [round35]
    have : (decide ((i : Int) < ((s.length : Nat) : Int))) = false := by simp; omega
    rw [this, cond_false]
    have e : i = s.length := by omega
    subst e
    rw [List.drop_length]
    rfl
  | k + 1, i, x, n + 1, hk, hn, h0, h1 => by
    rw [round35]
    have hi : i < s.length := by omega
    have c1 : (decide ((i : Int) < ((s.length : Nat) : Int))) = true := by simp; omega
    have c2 : (decide (0 ≤ (i : Int))) = true := by simp
    obtain ⟨a1, a2⟩ := xa24 (x := x) (b := s.getD (i : Int).toNat 0) h0 h1
    obtain ⟨b1, b2⟩ := half24 (xa x (s.getD (i : Int).toNat 0))
    rw [c1, c2, Bool.and_true, cond_true, cond_true, idx24 a1 a2, cond_true, idx24 b1 b2, cond_true]
    have e1 : (i : Int) + 1 = ((i + 1 : Nat) : Int) := by omega
    rw [e1, wrap64 _ (by omega)]
    obtain ⟨d1, d2⟩ := half24 (half (xa x (s.getD (i : Int).toNat 0)))
    rw [iter35 C L s hs k (i + 1) (crcStep x (s.getD (i : Int).toNat 0)) n (by omega) (by omega) d1 d2, List.drop_eq_getElem_cons hi, List.foldl_cons]
    have e2 : s.getD (i : Int).toNat 0 = s[i] := by simp [List.getD_eq_getElem?_getD, hi]
    rw [e2]
  | _, _, _, 0, _, hn, _, _ => by omega

noncomputable def K35 : Ex → St → Option PR := finP T0 AN Tryz.f35.results.toList
theorem run35 (C : Orc) (s : List UInt8) : runP T0 C AN (LD C k35 (s.length + 1)) Tryz.f35 [.s (.int .u32 11994318), .s (.str s)] =
    goLT (blockK 0 (thenK T0 C AN (LD C k35 (s.length + 1)) (subC [1, 1, 1] B35) K35)) (ltOf (iterD T0 C AN (loopD T0 C AN (fun _ => k35) (fun _ => []) (s.length + 1) 0) c35 k35 [] (s.length + 1) (S35 s 11994318 0))) := by kernel_rfl
theorem end35 (C : Orc) (s : List UInt8) (x : Int) : goLT (blockK 0 (thenK T0 C AN (LD C k35 (s.length + 1)) (subC [1, 1, 1] B35) K35)) (ltOf (some (.exit 0, S35 s x s.length))) = some (.ret (.s (.int .u32 x))) := by kernel_rfl

def onP : List AV → PR
  | [.s (.int .u32 n), .s (.str s)] => PR.br (decide (n = 11994318) && Nat.blt s.length 1000000000000) (.ret (.s (.int .u32 (crcF s)))) .fail
  | _ => .fail

theorem onP_ok (args : List AV) : SoundP Tryz.prog G0 35 args (onP args) := by
  unfold onP
  split
  · rename_i n s
    refine brP fun hc => ?_
    simp only [Bool.and_eq_true, decide_eq_true_eq, Nat.blt_eq] at hc
    obtain ⟨rfl, hl⟩ := hc
    refine sp failO_ok Tryz.func35 (by kernel_rfl) k35 (s.length + 1) ?_
    rw [run35]
    have := iter35 failO (loopD T0 failO AN (fun _ => k35) (fun _ => []) (s.length + 1) 0) s (by omega) s.length 0 11994318 (s.length + 1) (by omega) (by omega) (by omega) (by omega)
    rw [show ((0 : Nat) : Int) = 0 from rfl] at this
    rw [this, List.drop_zero, end35]
    rfl
  · exact failP

/-! ## crc.Of, Seal, Open -/

noncomputable def C1 : Orc := putO 35 onP failO
theorem C1_ok : OrcOK Tryz.prog G0 C1 := putO_ok onP_ok failO_ok
theorem run30 (s : List UInt8) : runP T0 C1 AN (LD C1 [] 0) Tryz.f30 [.s (.str s)] = cond (Nat.blt s.length 1000000000000) (some (.ret (.s (.int .u32 (crcF s))))) none := by kernel_rfl

def ofP : List AV → PR
  | [.s (.str s)] => PR.br (Nat.blt s.length 1000000000000) (.ret (.s (.int .u32 (crcF s)))) .fail
  | _ => .fail
theorem ofP_ok (args : List AV) : SoundP Tryz.prog G0 30 args (ofP args) := by
  unfold ofP
  split
  · rename_i s
    refine brP fun hc => ?_
    exact sp C1_ok Tryz.func30 (by kernel_rfl) [] 0 (by rw [run30, hc, cond_true])
  · exact failP

noncomputable def C2 : Orc := putO 30 ofP failO
theorem C2_ok : OrcOK Tryz.prog G0 C2 := putO_ok ofP_ok failO_ok
def b8 (n : Int) : UInt8 := UInt8.ofNat (IntKind.u8.wrap n).toNat
def tail3 (n : Int) : List UInt8 := [b8 (n.fdiv 65536), b8 (n.fdiv 256), b8 n]
def sealB (s : List UInt8) : List UInt8 := s ++ tail3 (crcF s)
theorem run18 (s : List UInt8) : runP T0 C2 AN (LD C2 [] 0) Tryz.f18 [.s (.str s)] = cond (Nat.blt s.length 1000000000000) (cond (Nat.ble (s.length + 3) 4611686018427387904) (some (.ret (.s (.str (sealB s))))) none) none := by kernel_rfl
def sealP : List AV → PR
  | [.s (.str s)] => PR.br (Nat.blt s.length 1000000000000) (.ret (.s (.str (sealB s)))) .fail
  | _ => .fail
theorem sealP_ok (args : List AV) : SoundP Tryz.prog G0 18 args (sealP args) := by
  unfold sealP
  split
  · rename_i s
    refine brP fun hc => ?_
    have h := hc
    rw [Nat.blt_eq] at h
    have h2 : Nat.ble (s.length + 3) 4611686018427387904 = true := by rw [Nat.ble_eq]; omega
    exact sp C2_ok Tryz.func18 (by kernel_rfl) [] 0 (by rw [run18, hc, cond_true, h2, cond_true])
  · exact failP

noncomputable def C3 : Orc := putO 18 sealP failO
theorem C3_ok : OrcOK Tryz.prog G0 C3 := putO_ok sealP_ok failO_ok

end Go.Proofs.YtkdbaijabnhniaaGreatDoor

namespace Go.Proofs.YtkdbaijabnhniaaGreatDoor
open Go.Ev Go.RowKit
set_option maxRecDepth 100000

/-- a function that hands back a number and leaves the world as it was -/
theorem same_int {f : FuncId} {fn : Func} {args : List AV} {k : IntKind} {z : Int} (hf : Tryz.prog.funcs[f]? = some fn) (hb : fn.body.isNone = false)
    (h : ∀ M w xs, VAs (envP M fun _ => none) args xs → Calls Tryz.prog f xs.toArray w fun e w' => e = .returned (.int k z) ∧ w' = w) : SoundP Tryz.prog G0 f args (.ret (.s (.int k z))) := by
  intro lf hl M w xs hG hF hv
  simp only [PR.val, Option.some.injEq] at hl
  subst hl
  refine invokes_of_calls hf (name_ok hf) hb ((h M w xs hv).mono fun e w' hh => ?_) (fun v q => by obtain ⟨_, _, _, _, q, _⟩ := q; cases q)
  obtain ⟨rfl, rfl⟩ := hh
  refine ⟨M, fun _ => none, _, ⟨fun b m q => q, fun b m q => .inl q, fun b m q => (nomatch q), hF, Nat.le_refl _, fun b q => rfl, rfl, rfl, rfl⟩, rfl, ?_⟩
  simp only [VA, VS]

def lenP : List AV → PR
  | [.s (.int .u64 n)] => .br (decide (0 ≤ n) && decide (n ≤ 18446744073709551615)) (.ret (.s (.int .i64 ((Lib.bitLen n.toNat : Nat) : Int)))) .fail
  | _ => .fail
theorem lenP_ok (args : List AV) : SoundP Tryz.prog G0 29 args (lenP args) := by
  unfold lenP
  split
  · rename_i n
    refine brP fun hc => ?_
    simp only [Bool.and_eq_true, decide_eq_true_eq] at hc
    refine same_int Tryz.func29 (by kernel_rfl) fun M w xs hv => ?_
    simp only [VAs, VA, VS] at hv
    obtain ⟨_, _, rfl, rfl, rfl⟩ := hv
    exact Tryz.bits_Len64 n w hc.1 hc.2
  · exact failP

noncomputable def C4 : Orc := putO 29 lenP failO
theorem C4_ok : OrcOK Tryz.prog G0 C4 := putO_ok lenP_ok failO_ok

/-! ## wire.Put -/

noncomputable def B16 : Code := (Tryz.f16.body).getD .skip
noncomputable def c16 : Code := subC [1, 1, 1, 1, 0, 1, 0, 0] B16
def k16 : List Nat := [0, 2, 3, 4, 22, 23]
def many (n : Int) : Int := IntKind.i64.wrap ((IntKind.i64.wrap (IntKind.i64.wrap (((Lib.bitLen n.toNat : Nat) : Int) + 8) - 1)).tdiv 8)
def S16 (n m i : Int) (g j : Nat) (f : Nat → List SV) : St :=
  St.mk (lookA [(0, .s (.int .u64 n)), (2, .s (.str [])), (3, .s (.int .i64 m)), (4, .sl 21 g 1 0 j), (22, .s (.int .i64 m)), (23, .s (.int .i64 i))]) (lookB []) [(21, ⟨g, .rows 1 j f, none⟩)] 0 41 40
def first (m : Int) : Nat → List SV := chunk 1 [.int .u8 (IntKind.u8.wrap (IntKind.i64.wrap (IntKind.i64.wrap (192 + m) - 1)))]
noncomputable def K16 : Ex → St → Option PR := finP T0 AN Tryz.f16.results.toList

theorem run16 (n : Int) : runP T0 C4 AN (LD C4 k16 10) Tryz.f16 [.s (.int .u64 n)] =
    cond (decide (n < 192)) (some (.ret (.s (.str [b8 n])))) (cond (decide (0 ≤ n) && decide (n ≤ 18446744073709551615))
      (goLT (blockK 0 (thenK T0 C4 AN (LD C4 k16 10) (subC [1, 1, 1, 1, 1] B16) K16)) (ltOf (iterD T0 C4 AN (loopD T0 C4 AN (fun _ => k16) (fun _ => []) 10 0) c16 k16 [] 10 (S16 n (many n) 0 0 1 (first (many n)))))) none) := by kernel_rfl
theorem end16_1 (n : Int) : goLT (blockK 0 (thenK T0 C4 AN (LD C4 k16 10) (subC [1, 1, 1, 1, 1] B16) K16)) (ltOf (iterD T0 C4 AN (loopD T0 C4 AN (fun _ => k16) (fun _ => []) 10 0) c16 k16 [] 10 (S16 n 1 0 0 1 (first 1)))) = some (.ret (.s (.str (b8 192 :: [b8 (n.fdiv 1)])))) := by kernel_rfl
theorem end16_2 (n : Int) : goLT (blockK 0 (thenK T0 C4 AN (LD C4 k16 10) (subC [1, 1, 1, 1, 1] B16) K16)) (ltOf (iterD T0 C4 AN (loopD T0 C4 AN (fun _ => k16) (fun _ => []) 10 0) c16 k16 [] 10 (S16 n 2 0 0 1 (first 2)))) = some (.ret (.s (.str (b8 193 :: [b8 (n.fdiv 256), b8 (n.fdiv 1)])))) := by kernel_rfl
theorem end16_3 (n : Int) : goLT (blockK 0 (thenK T0 C4 AN (LD C4 k16 10) (subC [1, 1, 1, 1, 1] B16) K16)) (ltOf (iterD T0 C4 AN (loopD T0 C4 AN (fun _ => k16) (fun _ => []) 10 0) c16 k16 [] 10 (S16 n 3 0 0 1 (first 3)))) = some (.ret (.s (.str (b8 194 :: [b8 (n.fdiv 65536), b8 (n.fdiv 256), b8 (n.fdiv 1)])))) := by kernel_rfl
theorem end16_4 (n : Int) : goLT (blockK 0 (thenK T0 C4 AN (LD C4 k16 10) (subC [1, 1, 1, 1, 1] B16) K16)) (ltOf (iterD T0 C4 AN (loopD T0 C4 AN (fun _ => k16) (fun _ => []) 10 0) c16 k16 [] 10 (S16 n 4 0 0 1 (first 4)))) = some (.ret (.s (.str (b8 195 :: [b8 (n.fdiv 16777216), b8 (n.fdiv 65536), b8 (n.fdiv 256), b8 (n.fdiv 1)])))) := by kernel_rfl
theorem end16_5 (n : Int) : goLT (blockK 0 (thenK T0 C4 AN (LD C4 k16 10) (subC [1, 1, 1, 1, 1] B16) K16)) (ltOf (iterD T0 C4 AN (loopD T0 C4 AN (fun _ => k16) (fun _ => []) 10 0) c16 k16 [] 10 (S16 n 5 0 0 1 (first 5)))) = some (.ret (.s (.str (b8 196 :: [b8 (n.fdiv 4294967296), b8 (n.fdiv 16777216), b8 (n.fdiv 65536), b8 (n.fdiv 256), b8 (n.fdiv 1)])))) := by kernel_rfl

def putB (n : Int) : List UInt8 := cond (decide (n < 192)) [b8 n] (cond (decide (n < 256)) (b8 192 :: [b8 (n.fdiv 1)]) (cond (decide (n < 65536)) (b8 193 :: [b8 (n.fdiv 256), b8 (n.fdiv 1)]) (cond (decide (n < 16777216)) (b8 194 :: [b8 (n.fdiv 65536), b8 (n.fdiv 256), b8 (n.fdiv 1)]) (cond (decide (n < 4294967296)) (b8 195 :: [b8 (n.fdiv 16777216), b8 (n.fdiv 65536), b8 (n.fdiv 256), b8 (n.fdiv 1)]) (b8 196 :: [b8 (n.fdiv 4294967296), b8 (n.fdiv 16777216), b8 (n.fdiv 65536), b8 (n.fdiv 256), b8 (n.fdiv 1)])))))

theorem bit8 (y : Nat) (h0 : 0 < y) (h1 : y < 256) : 1 ≤ Lib.bitLen y ∧ Lib.bitLen y ≤ 8 := by
  have key : ∀ n : Fin 256, 0 < n.val → 1 ≤ Lib.bitLen n.val := by decide +kernel
  exact ⟨key ⟨y, h1⟩ h0, Lib.bitLen_le8 ⟨y, h1⟩⟩

theorem many_eq (n : Int) (k : Nat) (hk : k ≤ 4) (h0 : (2 : Int) ^ (8 * k) ≤ n) (h1 : n < 2 ^ (8 * (k + 1))) : many n = ((k + 1 : Nat) : Int) := by
  obtain ⟨x, rfl⟩ := Int.eq_ofNat_of_zero_le (a := n) (Int.le_trans (Int.pow_nonneg (by omega)) h0)
  have g0 : 2 ^ (8 * k) ≤ x := by exact_mod_cast h0
  have g1 : x < 2 ^ (8 * (k + 1)) := by exact_mod_cast h1
  have g2 : x < 2 ^ 64 := Nat.lt_of_lt_of_le g1 (Nat.pow_le_pow_right (by omega) (by omega))
  have e := Lib.bitLen_shift (8 * k) x g0 g2
  have hp : 0 < 2 ^ (8 * k) := Nat.pow_pos (by omega)
  have hy : x / 2 ^ (8 * k) < 256 := by
    rw [Nat.div_lt_iff_lt_mul hp]
    have : 2 ^ (8 * (k + 1)) = 256 * 2 ^ (8 * k) := by rw [show 8 * (k + 1) = 8 + 8 * k by omega, Nat.pow_add]
    omega
  have hy0 : 0 < x / 2 ^ (8 * k) := Nat.div_pos g0 hp
  obtain ⟨b1, b2⟩ := bit8 _ hy0 hy
  unfold many
  rw [Int.toNat_natCast, e]
  generalize Lib.bitLen (x / 2 ^ (8 * k)) = t at b1 b2 ⊢
  rw [IntWalk.i64_in (((8 * k + t : Nat) : Int) + 8) (by omega), IntWalk.i64_in (((8 * k + t : Nat) : Int) + 8 - 1) (by omega), Int.tdiv_eq_ediv_of_nonneg (by omega), IntWalk.i64_in ((((8 * k + t : Nat) : Int) + 8 - 1) / 8) (by omega)]
  omega

theorem put_run (n : Int) (h0 : 0 ≤ n) (h1 : n < 1099511627776) : runP T0 C4 AN (LD C4 k16 10) Tryz.f16 [.s (.int .u64 n)] = some (.ret (.s (.str (putB n)))) := by
  rw [run16]
  have c : (decide (0 ≤ n) && decide (n ≤ 18446744073709551615)) = true := by simp; omega
  rw [c, cond_true]
  unfold putB
  by_cases a0 : n < 192
  · rw [decide_eq_true a0, cond_true, cond_true]
  rw [decide_eq_false a0, cond_false, cond_false]
  by_cases a1 : n < 256
  · rw [decide_eq_true a1, cond_true, many_eq n 0 (by omega) (by simp; omega) (by simp; omega)]
    exact end16_1 n
  rw [decide_eq_false a1, cond_false]
  by_cases a2 : n < 65536
  · rw [decide_eq_true a2, cond_true, many_eq n 1 (by omega) (by simp; omega) (by simp; omega)]
    exact end16_2 n
  rw [decide_eq_false a2, cond_false]
  by_cases a3 : n < 16777216
  · rw [decide_eq_true a3, cond_true, many_eq n 2 (by omega) (by simp; omega) (by simp; omega)]
    exact end16_3 n
  rw [decide_eq_false a3, cond_false]
  by_cases a4 : n < 4294967296
  · rw [decide_eq_true a4, cond_true, many_eq n 3 (by omega) (by simp; omega) (by simp; omega)]
    exact end16_4 n
  rw [decide_eq_false a4, cond_false, many_eq n 4 (by omega) (by simp; omega) (by simp; omega)]
  exact end16_5 n

def putP : List AV → PR
  | [.s (.int .u64 n)] => .br (decide (0 ≤ n) && decide (n < 1099511627776)) (.ret (.s (.str (putB n)))) .fail
  | _ => .fail
theorem putP_ok (args : List AV) : SoundP Tryz.prog G0 16 args (putP args) := by
  unfold putP
  split
  · rename_i n
    refine brP fun hc => ?_
    simp only [Bool.and_eq_true, decide_eq_true_eq] at hc
    exact sp C4_ok Tryz.func16 (by kernel_rfl) k16 10 (put_run n hc.1 hc.2)
  · exact failP

/-! ## wire.Get, where a number stands -/

noncomputable def B26 : Code := (Tryz.f26.body).getD .skip
noncomputable def c26 : Code := subC [1, 1, 1, 1, 1, 1, 1, 0, 1, 0, 0] B26
def k26 : List Nat := [1, 4, 5, 6, 7, 8, 9, 47, 48]
def S26 (r : List UInt8) (p m n i : Int) : St := St.mk (lookA [(1, .s (.int .i64 p)), (4, .s (.int .u64 0)), (5, .s (.int .i64 0)), (6, .s (.int .i64 0)), (7, .s (.str r)), (8, .s (.int .i64 m)), (9, .s (.int .u64 n)), (47, .s (.int .i64 m)), (48, .s (.int .i64 i))]) (lookB []) [] 0 73 72
noncomputable def K26 : Ex → St → Option PR := finP T0 AN Tryz.f26.results.toList
def rst (s : List UInt8) (p : Int) : List UInt8 := List.drop p.toNat (List.take s.length s)
def at0 (r : List UInt8) (i : Nat) : Int := (((r.getD i 0).toNat : Nat) : Int)
def manyG (b : Int) : Int := IntKind.i64.wrap (IntKind.i64.wrap (IntKind.i64.wrap b - 192) + 1)
def ret3 (a b c : Int) : AV := .tup [.s (.int .u64 a), .s (.int .i64 b), .s (.int .i64 c)]
def lenI (r : List UInt8) : Int := ((r.length : Nat) : Int)
def getStep (n : Int) (b : UInt8) : Int := IntKind.u64.wrap (((BitVec.ofInt 64 (IntKind.u64.wrap (n * 256)) ||| BitVec.ofInt 64 (IntKind.u64.wrap ((b.toNat : Nat) : Int))).toNat : Nat) : Int)

theorem run26 (s : List UInt8) (p : Int) : runP T0 failO AN (LD failO k26 10) Tryz.f26 [.s (.str s), .s (.int .i64 p)] =
    cond (decide (p < 0)) (some (.ret (ret3 0 0 1))) (cond (cond false true (decide (p > lenI s))) (some (.ret (ret3 0 0 1))) (cond (decide (0 ≤ p) && decide (p ≤ lenI s))
      (cond (rst s p == []) (some (.ret (ret3 0 0 2))) (cond (true && decide (0 < lenI (rst s p))) (cond (decide (at0 (rst s p) 0 > 199)) (some (.ret (ret3 0 0 3))) (cond (true && decide (0 < lenI (rst s p)))
        (cond (decide (at0 (rst s p) 0 < 192)) (cond (true && decide (0 < lenI (rst s p))) (some (.ret (ret3 (IntKind.u64.wrap (at0 (rst s p) 0)) (IntKind.i64.wrap (p + 1)) 0))) none)
          (cond (true && decide (0 < lenI (rst s p))) (cond (decide (lenI (rst s p) ≤ manyG (at0 (rst s p) 0))) (some (.ret (ret3 0 0 2)))
            (goLT (blockK 1 (thenK T0 failO AN (LD failO k26 10) (subC [1, 1, 1, 1, 1, 1, 1, 1] B26) K26)) (ltOf (iterD T0 failO AN (loopD T0 failO AN (fun _ => k26) (fun _ => []) 10 0) c26 k26 [] 10 (S26 (rst s p) p (manyG (at0 (rst s p) 0)) 0 0))))) none)) none)) none)) none)) := by kernel_rfl

theorem round26 (C : Orc) (L) (r : List UInt8) (p m n i : Int) (k : Nat) : iterD T0 C AN L c26 k26 [] (k + 1) (S26 r p m n i) =
    cond (decide (i < m)) (cond (decide (0 ≤ IntKind.i64.wrap (1 + i)) && decide (IntKind.i64.wrap (1 + i) < lenI r)) (iterD T0 C AN L c26 k26 [] k (S26 r p m (getStep n (r.getD (IntKind.i64.wrap (1 + i)).toNat 0)) (IntKind.i64.wrap (i + 1)))) none)
      (some (.exit 1, S26 r p m n i)) := by kernel_rfl

theorem end26 (C : Orc) (L) (r : List UInt8) (p m n i : Int) : goLT (blockK 1 (thenK T0 C AN L (subC [1, 1, 1, 1, 1, 1, 1, 1] B26) K26)) (ltOf (some (.exit 1, S26 r p m n i))) =
    cond (decide (n < 192)) (some (.ret (ret3 0 0 3))) (cond (true && decide (1 < lenI r)) (cond (at0 r 1 == 0) (some (.ret (ret3 0 0 3))) (some (.ret (ret3 n (IntKind.i64.wrap (IntKind.i64.wrap (p + 1) + m)) 0)))) none) := by kernel_rfl

end Go.Proofs.YtkdbaijabnhniaaGreatDoor

namespace Go.Proofs.YtkdbaijabnhniaaGreatDoor
open Go.Ev
set_option maxRecDepth 100000

def valN (a : Nat) (l : List UInt8) : Nat := l.foldl (fun a b => a * 256 + b.toNat) a

theorem getStep_eq (a : Nat) (b : UInt8) (h : a < 281474976710656) : getStep a b = ((a * 256 + b.toNat : Nat) : Int) := by
  have hb := b.toNat_lt
  unfold getStep
  have e : (a : Int) * 256 = ((a * 256 : Nat) : Int) := by omega
  rw [e, IntWalk.u64_in ((a * 256 : Nat) : Int) (by omega), IntWalk.u64_in ((b.toNat : Nat) : Int) (by omega), BitVec.toNat_or]
  have o : ∀ x : Nat, x < 18446744073709551616 → (BitVec.ofInt 64 (x : Int)).toNat = x := fun x hx => by
    simp only [BitVec.toNat_ofInt]
    omega
  rw [o _ (by omega), o _ (by omega)]
  have k : a * 256 ||| b.toNat = a * 256 + b.toNat := by
    have := Nat.shiftLeft_add_eq_or_of_lt (b := b.toNat) (i := 8) hb a
    rw [Nat.shiftLeft_eq] at this
    exact this.symm
  rw [k]
  exact IntWalk.u64_in _ (by omega)

theorem iter26 (C : Orc) (L) (r : List UInt8) (p : Int) (m : Nat) (hm : m ≤ 6) (hr : m < r.length) (hr2 : r.length < 9223372036854775807) : ∀ (j i a n : Nat), j + i = m → j < n → a < 256 ^ i →
    iterD T0 C AN L c26 k26 [] n (S26 r p m a i) = some (.exit 1, S26 r p m ((valN a ((r.drop (1 + i)).take j) : Nat) : Int) m)
  | 0, i, a, n + 1, hj, hn, ha => by
    rw [round26]
    have e : i = m := by omega
    subst e
    have : (decide ((i : Int) < ((i : Nat) : Int))) = false := by simp
    rw [this, cond_false, List.take_zero]
    rfl
  | j + 1, i, a, n + 1, hj, hn, ha => by
    rw [round26]
    have c1 : (decide ((i : Int) < ((m : Nat) : Int))) = true := by simp; omega
    have e0 : (1 : Int) + (i : Int) = ((1 + i : Nat) : Int) := by omega
    have c2 : (decide ((0 : Int) ≤ ((1 + i : Nat) : Int)) && decide (((1 + i : Nat) : Int) < lenI r)) = true := by
      unfold lenI
      simp only [Bool.and_eq_true, decide_eq_true_eq]
      omega
    rw [c1, cond_true, e0, wrap64 _ (by omega), c2, cond_true]
    have hp : 256 ^ i ≤ 256 ^ 5 := Nat.pow_le_pow_right (by omega) (by omega)
    have hb := (r.getD (1 + i) 0).toNat_lt
    have ha2 : a * 256 + (r.getD (1 + i) 0).toNat < 256 ^ (i + 1) := by rw [Nat.pow_succ]; omega
    have e1 : (i : Int) + 1 = ((i + 1 : Nat) : Int) := by omega
    rw [Int.toNat_natCast, getStep_eq a _ (by omega), e1, wrap64 _ (by omega), iter26 C L r p m hm hr hr2 j (i + 1) _ n (by omega) (by omega) ha2]
    have hi : 1 + i < r.length := by omega
    rw [List.drop_eq_getElem_cons hi, List.take_succ_cons]
    have e2 : r.getD (1 + i) 0 = r[1 + i] := by simp [List.getD_eq_getElem?_getD, hi]
    rw [e2]
    rfl
  | _, _, _, 0, _, hn, _ => by omega

/-- the number at a beginning, and how many bytes it has -/
def numAt (r : List UInt8) : Option (Nat × Nat) := match r with
  | [] => none
  | b :: t => cond (Nat.blt b.toNat 192) (some (b.toNat, 1))
      (cond (Nat.ble b.toNat 196 && Nat.ble (b.toNat - 191) t.length && Nat.ble 192 (valN 0 (t.take (b.toNat - 191))) && !(((t.getD 0 0).toNat : Int) == 0)) (some (valN 0 (t.take (b.toNat - 191)), 1 + (b.toNat - 191))) none)

theorem at0_cons (b : UInt8) (t : List UInt8) : at0 (b :: t) 0 = ((b.toNat : Nat) : Int) := rfl

theorem get_run (s : List UInt8) (p : Nat) (x k : Nat) (hp : p ≤ s.length) (hs : s.length < 1000000000000) (h : numAt (s.drop p) = some (x, k)) :
    runP T0 failO AN (LD failO k26 10) Tryz.f26 [.s (.str s), .s (.int .i64 (p : Int))] = some (.ret (ret3 (x : Int) ((p + k : Nat) : Int) 0)) := by
  rw [run26]
  have hr : rst s (p : Int) = s.drop p := by unfold rst; rw [List.take_length, Int.toNat_natCast]
  have hl : (s.drop p).length = s.length - p := List.length_drop
  rw [hr]
  generalize s.drop p = r at h hl
  have d1 : decide ((p : Int) < 0) = false := by simp
  have d2 : decide ((p : Int) > lenI s) = false := by unfold lenI; simp; omega
  have d3 : (decide (0 ≤ (p : Int)) && decide ((p : Int) ≤ lenI s)) = true := by unfold lenI; simp; omega
  rw [d1, d2, d3]
  simp only [cond_false, cond_true]
  cases r with
  | nil => cases h
  | cons b t =>
    have hb := b.toNat_lt
    have d4 : (b :: t == []) = false := rfl
    have d5 : decide (0 < lenI (b :: t)) = true := by unfold lenI; simp
    rw [d4, d5]
    simp only [cond_false, cond_true, Bool.and_true]
    have hz : at0 (b :: t) 0 = ((b.toNat : Nat) : Int) := rfl
    simp only [numAt] at h
    simp only [List.length_cons] at hl
    cases hc : Nat.blt b.toNat 192
    · rw [hc, cond_false] at h
      have hc' : ¬ b.toNat < 192 := by rw [← Nat.blt_eq, hc]; simp
      cases hq : (Nat.ble b.toNat 196 && Nat.ble (b.toNat - 191) t.length && Nat.ble 192 (valN 0 (t.take (b.toNat - 191))) && !(((t.getD 0 0).toNat : Int) == 0))
      · rw [hq] at h; cases h
      · rw [hq, cond_true] at h
        injection h with h
        injection h with h1 h2
        simp only [Bool.and_eq_true, Nat.ble_eq, Bool.not_eq_true'] at hq
        obtain ⟨⟨⟨q1, q2⟩, q3⟩, q4⟩ := hq
        have d6 : decide (at0 (b :: t) 0 > 199) = false := by rw [decide_eq_false_iff_not, hz]; omega
        have d7 : decide (at0 (b :: t) 0 < 192) = false := by rw [decide_eq_false_iff_not, hz]; omega
        have em : manyG (at0 (b :: t) 0) = ((b.toNat - 191 : Nat) : Int) := by
          rw [hz]
          unfold manyG
          rw [IntWalk.i64_in ((b.toNat : Nat) : Int) (by omega), IntWalk.i64_in (((b.toNat : Nat) : Int) - 192) (by omega), IntWalk.i64_in (((b.toNat : Nat) : Int) - 192 + 1) (by omega)]
          omega
        have d8 : decide (lenI (b :: t) ≤ ((b.toNat - 191 : Nat) : Int)) = false := by unfold lenI; simp; omega
        rw [d6, d7, em, d8]
        simp only [cond_false]
        have hit := iter26 failO (loopD T0 failO AN (fun _ => k26) (fun _ => []) 10 0) (b :: t) (p : Int) (b.toNat - 191) (by omega) (by simp; omega) (by simp; omega) (b.toNat - 191) 0 0 10 (by omega) (by omega) (by simp)
        rw [show ((0 : Nat) : Int) = 0 from rfl] at hit
        rw [hit, end26]
        simp only [Nat.add_zero, List.drop_succ_cons, List.drop_zero]
        rw [← h1, ← h2]
        generalize hv : valN 0 (t.take (b.toNat - 191)) = v at q3
        have d9 : decide ((v : Int) < 192) = false := by simp; omega
        have d10 : decide (1 < lenI (b :: t)) = true := by unfold lenI; simp; omega
        have d11 : (at0 (b :: t) 1 == 0) = false := q4
        rw [d9, d10, d11]
        simp only [cond_false, cond_true, Bool.and_true]
        rw [show (p : Int) + 1 = ((p + 1 : Nat) : Int) by omega, wrap64 _ (by omega), show ((p + 1 : Nat) : Int) + ((b.toNat - 191 : Nat) : Int) = ((p + (1 + (b.toNat - 191)) : Nat) : Int) by omega, wrap64 _ (by omega)]
    · rw [hc, cond_true] at h
      have hc' : b.toNat < 192 := by rw [← Nat.blt_eq, hc]
      injection h with h
      injection h with h1 h2
      have d6 : decide (at0 (b :: t) 0 > 199) = false := by rw [decide_eq_false_iff_not, hz]; omega
      have d7 : decide (at0 (b :: t) 0 < 192) = true := by rw [decide_eq_true_iff, hz]; omega
      rw [d6, d7]
      simp only [cond_false, cond_true]
      rw [hz, IntWalk.u64_in ((b.toNat : Nat) : Int) (by omega), show (p : Int) + 1 = ((p + 1 : Nat) : Int) by omega, wrap64 _ (by omega), h1, ← h2]

def numI (s : List UInt8) (p : Int) : Int := ((((numAt (s.drop p.toNat)).getD (0, 0)).1 : Nat) : Int)
def endI (s : List UInt8) (p : Int) : Int := ((p.toNat + ((numAt (s.drop p.toNat)).getD (0, 0)).2 : Nat) : Int)
def okGet (s : List UInt8) (p : Int) : Bool := decide (0 ≤ p) && Nat.ble p.toNat s.length && Nat.blt s.length 1000000000000 && (numAt (s.drop p.toNat)).isSome
def getP : List AV → PR
  | [.s (.str s), .s (.int .i64 p)] => .br (okGet s p) (.ret (ret3 (numI s p) (endI s p) 0)) .fail
  | _ => .fail
theorem getP_ok (args : List AV) : SoundP Tryz.prog G0 26 args (getP args) := by
  unfold getP
  split
  · rename_i s p
    refine brP fun hc => ?_
    simp only [okGet, Bool.and_eq_true, decide_eq_true_eq, Nat.ble_eq, Nat.blt_eq] at hc
    obtain ⟨⟨⟨h0, h1⟩, h2⟩, h3⟩ := hc
    obtain ⟨q, rfl⟩ := Int.eq_ofNat_of_zero_le h0
    rw [Int.toNat_natCast] at h1 h3
    cases hn : numAt (s.drop q) with
    | none => rw [hn] at h3; cases h3
    | some y =>
      obtain ⟨x, k⟩ := y
      refine sp failO_ok Tryz.func26 (by kernel_rfl) k26 10 ?_
      rw [get_run s q x k h1 h2 hn]
      unfold numI endI
      rw [Int.toNat_natCast, hn]
      rfl
  · exact failP

theorem b8_nat (k : Nat) : (b8 (k : Int)).toNat = k % 256 := by
  unfold b8
  have : IntKind.u8.wrap (k : Int) = ((k % 256 : Nat) : Int) := by
    rw [IntKind.wrap_u8]
    omega
  rw [this, Int.toNat_natCast, UInt8.toNat_ofNat']
  omega

theorem fd (x k : Nat) : ((x : Int)).fdiv (k : Int) = ((x / k : Nat) : Int) := by
  rw [Int.fdiv_eq_ediv_of_nonneg _ (by omega)]
  exact (Int.natCast_ediv x k).symm

theorem numAt_putB (x : Nat) (hx : x < 1099511627776) (rest : List UInt8) : numAt (putB (x : Int) ++ rest) = some (x, (putB (x : Int)).length) := by
  have big : ∀ (m : Nat) (c : UInt8) (l : List UInt8), c.toNat = 191 + m → 1 ≤ m → m ≤ 5 → l.length = m → valN 0 l = x → 192 ≤ x → (l.getD 0 0).toNat ≠ 0 → numAt (c :: l ++ rest) = some (x, (c :: l).length) := by
    intro m c l hc h1 h5 hl hv hx hz
    simp only [List.cons_append, numAt, hc]
    have e0 : Nat.blt (191 + m) 192 = false := by rw [Bool.eq_false_iff]; intro q; rw [Nat.blt_eq] at q; omega
    have e1 : 191 + m - 191 = m := by omega
    have e2 : (l ++ rest).take m = l := by rw [← hl, List.take_left]
    have e3 : (l ++ rest).getD 0 0 = l.getD 0 0 := by
      cases l with
      | nil => simp at hl; omega
      | cons a l => rfl
    rw [e0, cond_false, e1, e2, hv, e3]
    have e4 : (Nat.ble (191 + m) 196 && Nat.ble m (l ++ rest).length && Nat.ble 192 x && !(((l.getD 0 0).toNat : Int) == 0)) = true := by
      simp only [Bool.and_eq_true, Nat.ble_eq, Bool.not_eq_true', List.length_append, beq_eq_false_iff_ne]
      refine ⟨⟨⟨by omega, by omega⟩, hx⟩, by omega⟩
    rw [e4, cond_true, List.length_cons, hl]
    congr 2
    omega
  unfold putB
  by_cases a0 : (x : Int) < 192
  · rw [decide_eq_true a0, cond_true]
    simp only [List.cons_append, List.nil_append, numAt, b8_nat]
    have : x % 256 = x := by omega
    rw [this]
    have e0 : Nat.blt x 192 = true := by rw [Nat.blt_eq]; omega
    rw [e0]
    rfl
  rw [decide_eq_false a0, cond_false]
  have f1 := fd x 1
  have f2 := fd x 256
  have f3 := fd x 65536
  have f4 := fd x 16777216
  have f5 := fd x 4294967296
  simp only [Int.natCast_one, Int.cast_ofNat_Int] at f1 f2 f3 f4 f5
  by_cases a1 : (x : Int) < 256
  · rw [decide_eq_true a1, cond_true, f1]
    refine big 1 _ _ (by decide) (by omega) (by omega) rfl ?_ (by omega) ?_
    · simp only [valN, List.foldl_cons, List.foldl_nil, b8_nat]; omega
    · simp only [List.getD_cons_zero, b8_nat]; omega
  rw [decide_eq_false a1, cond_false]
  by_cases a2 : (x : Int) < 65536
  · rw [decide_eq_true a2, cond_true, f1, f2]
    refine big 2 _ _ (by decide) (by omega) (by omega) rfl ?_ (by omega) ?_
    · simp only [valN, List.foldl_cons, List.foldl_nil, b8_nat]; omega
    · simp only [List.getD_cons_zero, b8_nat]; omega
  rw [decide_eq_false a2, cond_false]
  by_cases a3 : (x : Int) < 16777216
  · rw [decide_eq_true a3, cond_true, f1, f2, f3]
    refine big 3 _ _ (by decide) (by omega) (by omega) rfl ?_ (by omega) ?_
    · simp only [valN, List.foldl_cons, List.foldl_nil, b8_nat]; omega
    · simp only [List.getD_cons_zero, b8_nat]; omega
  rw [decide_eq_false a3, cond_false]
  by_cases a4 : (x : Int) < 4294967296
  · rw [decide_eq_true a4, cond_true, f1, f2, f3, f4]
    refine big 4 _ _ (by decide) (by omega) (by omega) rfl ?_ (by omega) ?_
    · simp only [valN, List.foldl_cons, List.foldl_nil, b8_nat]; omega
    · simp only [List.getD_cons_zero, b8_nat]; omega
  rw [decide_eq_false a4, cond_false, f1, f2, f3, f4, f5]
  refine big 5 _ _ (by decide) (by omega) (by omega) rfl ?_ (by omega) ?_
  · simp only [valN, List.foldl_cons, List.foldl_nil, b8_nat]; omega
  · simp only [List.getD_cons_zero, b8_nat]; omega

end Go.Proofs.YtkdbaijabnhniaaGreatDoor
