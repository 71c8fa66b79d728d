/- When an act may be; the act that stands at a place. -/
import Derived.Test.YtkdbaijabnhniaaGreatDoorCoA
import Derived.Test.YtkdbaijabnhniaaGreatDoorEvDE
namespace Go.Proofs.YtkdbaijabnhniaaGreatDoor
open Go.Ev
set_option maxRecDepth 100000

def rightB (k n : Int) (s : List UInt8) : Bool := decide (k ≥ 0) && (decide (k < 10) && (decide (n ≤ 4294967296) && decide (((s.length : Nat) : Int) ≤ 10000)))
theorem run17 (k n : Int) (s : List UInt8) : runP T0 failO AN (LD failO [] 0) Tryz.f17 [.agg [.s (.int .i64 k), .s (.int .u64 n), .s (.str s)]] =
    cond (decide (k ≥ 0)) (cond (cond true (decide (k < 10)) false) (cond (cond true (decide (n ≤ 4294967296)) false) (some (.ret (.s (.bool (cond true (decide (((s.length : Nat) : Int) ≤ 10000)) false)))))
      (some (.ret (.s (.bool false))))) (some (.ret (.s (.bool false))))) (some (.ret (.s (.bool false)))) := by kernel_rfl
def rightP : List AV → PR
  | [.agg [.s (.int .i64 k), .s (.int .u64 n), .s (.str s)]] => .ret (.s (.bool (rightB k n s)))
  | _ => .fail
theorem rightP_ok (args : List AV) : SoundP Tryz.prog G0 17 args (rightP args) := by
  unfold rightP
  split
  · rename_i k n s
    refine sp failO_ok Tryz.func17 (by kernel_rfl) [] 0 ?_
    rw [run17]
    unfold rightB
    cases decide (k ≥ 0) <;> cases decide (k < 10) <;> cases decide (n ≤ 4294967296) <;> rfl
  · exact failP

noncomputable def C5 : Orc := putO 26 getP (putO 17 rightP failO)
theorem C5_ok : OrcOK Tryz.prog G0 C5 := putO_ok getP_ok (putO_ok rightP_ok failO_ok)
noncomputable def B11 : Code := (Tryz.f11.body).getD .skip
noncomputable def c11 : Code := subC [1, 1, 0, 1, 0, 0] B11
def k11 : List Nat := [0, 1, 4, 5, 6, 7, 14]
def S11 (s : List UInt8) (p a b c i : Int) : St := St.mk (lookA [(0, .s (.str s)), (1, .s (.int .i64 p)), (4, .ptr 4 0 0), (5, .s (.int .i64 0)), (6, .s (.bool false)), (7, .ptr 7 0 0), (14, .s (.int .i64 i))]) (lookB [])
  [(4, ⟨0, .cells [.s (.int .i64 0), .s (.int .u64 0), .s (.str [])], some 26⟩), (7, ⟨0, .cells [.s (.int .u64 a), .s (.int .u64 b), .s (.int .u64 c)], some 60⟩)] 0 66 65
noncomputable def K11 : Ex → St → Option PR := finP T0 AN Tryz.f11.results.toList
theorem run11 (s : List UInt8) (p : Int) : runP T0 C5 AN (LD C5 k11 10) Tryz.f11 [.s (.str s), .s (.int .i64 p)] =
    goLT (blockK 0 (thenK T0 C5 AN (LD C5 k11 10) (subC [1, 1, 1] B11) K11)) (ltOf (iterD T0 C5 AN (loopD T0 C5 AN (fun _ => k11) (fun _ => []) 10 0) c11 k11 [] 10 (S11 s p 0 0 0 0))) := by kernel_rfl
theorem round11_0 (L) (s : List UInt8) (p a b c : Int) (k : Nat) : iterD T0 C5 AN L c11 k11 [] (k + 1) (S11 s p a b c 0) = cond (okGet s p) (iterD T0 C5 AN L c11 k11 [] k (S11 s (endI s p) (numI s p) b c 1)) none := by kernel_rfl
theorem round11_1 (L) (s : List UInt8) (p a b c : Int) (k : Nat) : iterD T0 C5 AN L c11 k11 [] (k + 1) (S11 s p a b c 1) = cond (okGet s p) (iterD T0 C5 AN L c11 k11 [] k (S11 s (endI s p) a (numI s p) c 2)) none := by kernel_rfl
theorem round11_2 (L) (s : List UInt8) (p a b c : Int) (k : Nat) : iterD T0 C5 AN L c11 k11 [] (k + 1) (S11 s p a b c 2) = cond (okGet s p) (iterD T0 C5 AN L c11 k11 [] k (S11 s (endI s p) a b (numI s p) 3)) none := by kernel_rfl
theorem round11_3 (L) (s : List UInt8) (p a b c : Int) (k : Nat) : iterD T0 C5 AN L c11 k11 [] (k + 1) (S11 s p a b c 3) = some (.exit 0, S11 s p a b c 3) := by kernel_rfl

def act3 (k n : Int) (x : List UInt8) (e : Int) (r : Bool) : AV := .tup [.agg [.s (.int .i64 k), .s (.int .u64 n), .s (.str x)], .s (.int .i64 e), .s (.bool r)]
def endE (p c : Int) : Int := IntKind.i64.wrap (p + IntKind.i64.wrap c)
theorem tail11 (s : List UInt8) (p a b c : Int) : goLT (blockK 0 (thenK T0 C5 AN (LD C5 k11 10) (subC [1, 1, 1] B11) K11)) (ltOf (some (.exit 0, S11 s p a b c 3))) =
    cond (decide (a ≥ 10)) (some (.ret (act3 0 0 [] 0 false))) (cond (cond false true (decide (c > IntKind.u64.wrap (IntKind.i64.wrap (((s.length : Nat) : Int) - p))))) (some (.ret (act3 0 0 [] 0 false)))
      (cond (decide (0 ≤ endE p c) && decide (endE p c ≤ ((s.length : Nat) : Int))) (cond (decide (0 ≤ p) && decide (p ≤ (((endE p c).toNat : Nat) : Int)))
        (some (.ret (act3 (IntKind.i64.wrap a) b (List.drop p.toNat (List.take (endE p c).toNat s)) (endE p c) (rightB (IntKind.i64.wrap a) b (List.drop p.toNat (List.take (endE p c).toNat s)))))) none) none)) := by kernel_rfl

def p1 (s : List UInt8) (p : Int) : Int := endI s p
def p2 (s : List UInt8) (p : Int) : Int := endI s (p1 s p)
def p3 (s : List UInt8) (p : Int) : Int := endI s (p2 s p)
def n0 (s : List UInt8) (p : Int) : Int := numI s p
def n1 (s : List UInt8) (p : Int) : Int := numI s (p1 s p)
def n2 (s : List UInt8) (p : Int) : Int := numI s (p2 s p)
def actS (s : List UInt8) (p : Int) : List UInt8 := List.drop (p3 s p).toNat (List.take (p3 s p + n2 s p).toNat s)
def okAct (s : List UInt8) (p : Int) : Bool := okGet s p && (okGet s (p1 s p) && (okGet s (p2 s p) && (decide (n0 s p < 10) && decide (p3 s p + n2 s p ≤ ((s.length : Nat) : Int)))))
def actR (s : List UInt8) (p : Int) : AV := act3 (n0 s p) (n1 s p) (actS s p) (p3 s p + n2 s p) (rightB (n0 s p) (n1 s p) (actS s p))

theorem act_run (s : List UInt8) (p : Int) (h : okAct s p = true) : runP T0 C5 AN (LD C5 k11 10) Tryz.f11 [.s (.str s), .s (.int .i64 p)] = some (.ret (actR s p)) := by
  simp only [okAct, Bool.and_eq_true, decide_eq_true_eq] at h
  obtain ⟨h1, h2, h3, h4, h5⟩ := h
  have hs : s.length < 1000000000000 := by
    simp only [okGet, Bool.and_eq_true, Nat.blt_eq] at h1
    exact h1.1.2
  have z0 : 0 ≤ n0 s p := by unfold n0 numI; omega
  have z2 : 0 ≤ n2 s p := by unfold n2 numI; omega
  have z3 : 0 ≤ p3 s p := by unfold p3 endI; omega
  rw [run11, round11_0, h1, cond_true, round11_1]
  have h2' : okGet s (endI s p) = true := h2
  have h3' : okGet s (endI s (endI s p)) = true := h3
  rw [h2', cond_true, round11_2, h3', cond_true, round11_3]
  show goLT _ (ltOf (some (.exit 0, S11 s (p3 s p) (n0 s p) (n1 s p) (n2 s p) 3))) = _
  rw [tail11]
  have e1 : IntKind.i64.wrap (n2 s p) = n2 s p := IntWalk.i64_in _ (by omega)
  have e2 : endE (p3 s p) (n2 s p) = p3 s p + n2 s p := by
    unfold endE
    rw [e1]
    exact IntWalk.i64_in _ (by omega)
  have e3 : IntKind.u64.wrap (IntKind.i64.wrap (((s.length : Nat) : Int) - p3 s p)) = ((s.length : Nat) : Int) - p3 s p := by
    rw [IntWalk.i64_in (((s.length : Nat) : Int) - p3 s p) (by omega)]
    exact IntWalk.u64_in _ (by omega)
  have e4 : IntKind.i64.wrap (n0 s p) = n0 s p := IntWalk.i64_in _ (by omega)
  rw [e2, e3, e4]
  have d1 : decide (n0 s p ≥ 10) = false := by rw [decide_eq_false_iff_not]; omega
  have d2 : decide (n2 s p > ((s.length : Nat) : Int) - p3 s p) = false := by rw [decide_eq_false_iff_not]; omega
  have d3 : (decide (0 ≤ p3 s p + n2 s p) && decide (p3 s p + n2 s p ≤ ((s.length : Nat) : Int))) = true := by simp only [Bool.and_eq_true, decide_eq_true_eq]; omega
  have d4 : (decide (0 ≤ p3 s p) && decide (p3 s p ≤ (((p3 s p + n2 s p).toNat : Nat) : Int))) = true := by simp only [Bool.and_eq_true, decide_eq_true_eq]; omega
  rw [d1, d2, d3, d4]
  rfl

def actP : List AV → PR
  | [.s (.str s), .s (.int .i64 p)] => .br (okAct s p) (.ret (actR s p)) .fail
  | _ => .fail
theorem actP_ok (args : List AV) : SoundP Tryz.prog G0 11 args (actP args) := by
  unfold actP
  split
  · rename_i s p
    exact brP fun hc => sp C5_ok Tryz.func11 (by kernel_rfl) k11 10 (act_run s p hc)
  · exact failP

/-! ## crc.Open -/

noncomputable def C6 : Orc := putO 18 sealP failO
theorem C6_ok : OrcOK Tryz.prog G0 C6 := putO_ok sealP_ok failO_ok
def kI (s : List UInt8) : Int := IntKind.i64.wrap (((s.length : Nat) : Int) - 3)
end Go.Proofs.YtkdbaijabnhniaaGreatDoor

namespace Go.Proofs.YtkdbaijabnhniaaGreatDoor
open Go.Ev
set_option maxRecDepth 100000

noncomputable def fnOnly (l : List Nat) (f : FuncId) : Option Func := cond (memN f l) (fnsOf Tryz.prog [] f) none
theorem fnOnly_ok (l : List Nat) (f : FuncId) (fn : Func) (h : fnOnly l f = some fn) : Tryz.prog.funcs[f]? = some fn ∧ (fn.name == "runtime.NumGoroutine") = false := by
  unfold fnOnly at h
  cases hm : memN f l
  · rw [hm] at h; cases h
  · rw [hm, cond_true] at h
    exact fnsOf_ok names_ok f fn h

theorem f34_ext : Extern.findNext Tryz.f34 = none := by kernel_rfl
theorem f34_find : Extern.find Tryz.f34 = some Extern.AbiNoEscape.same := by kernel_rfl
theorem f34_body : Tryz.f34.body.isNone = true := by kernel_rfl
theorem sameI_ok (args : List AV) (hs : List HO) : SoundI Tryz.prog G0 34 args hs (sameI args hs) := same_sound Tryz.func34 (name_ok Tryz.func34) f34_body f34_ext f34_find args hs
noncomputable def ext7 : Orc := putI 34 sameI failO
theorem ext7_ok : OrcOK Tryz.prog G0 ext7 := putI_ok sameI_ok failO_ok
def impAn (_ : FuncId) : Ann := { glob := glob0, pure := false }
noncomputable def C7 : Orc := orcN T0 (fnOnly [28]) impAn (fun _ _ => []) (fun _ _ => []) 1 1 ext7 1
theorem C7_ok : OrcOK Tryz.prog G0 C7 := orcN_ok rfl T0_ok mixed (fnOnly_ok [28]) (fun _ => rfl) _ _ 1 1 ext7_ok 1

/-- a contract out of a run, of a function that is handed blocks -/
theorem si {C : Orc} (hC : OrcOK Tryz.prog G0 C) {f : FuncId} {fn : Func} (hf : Tryz.prog.funcs[f]? = some fn) (hb : fn.body.isNone = false) {args : List AV} {hs hs' : List HO} {v : AV} (ks : List Nat) (rounds : Nat)
    (h : runI T0 C AN (LD C ks rounds) fn args hs = some (.ret v hs')) : SoundI Tryz.prog G0 f args hs (.ret v hs') := by
  obtain ⟨c, hc⟩ := some_of_isNone hb
  have A : Oks Tryz.prog G0 T0 C AN := ⟨T0_ok, rfl, callOK hC rfl, mixed⟩
  exact runI_sound rfl A hf (name_ok hf) hc (loopD_ok A _ _ rounds 1 c) (fun l hl => by
    simp only [IR.val, Option.some.injEq] at hl
    subst hl
    exact h)
theorem failI {f : FuncId} {args : List AV} {hs : List HO} : SoundI Tryz.prog G0 f args hs .fail := fun l hl => by cases hl
theorem brI {f : FuncId} {args : List AV} {hs : List HO} {c : Bool} {r : IR} (h : c = true → SoundI Tryz.prog G0 f args hs r) : SoundI Tryz.prog G0 f args hs (.br c r .fail) := by
  intro l hl
  cases c
  · cases hl
  · exact h rfl l hl

/-- a builder's blocks: fresh; with so many bytes in a row -/
def bld0 (g : Nat) : List HO := [⟨g, .cells [.s .nilp, .s .nils], some 47⟩]
def bldR (g h n : Nat) (f : Nat → List SV) : List HO := [⟨g, .cells [.ptr 0 g 0, .sl 1 h 1 0 n], some 47⟩, ⟨h, .rows 1 n f, some 5⟩]
def bldO (g h n : Nat) (f : Nat → List SV) : List HO := [⟨g, .cells [.ptr 0 g 0, .sl 1 h 1 0 n], some 47⟩, ⟨h, .ro 1 n f, some 5⟩]
def wrT (x : List UInt8) : AV := .tup [.s (.int .i64 ((x.length : Nat) : Int)), .s .nili]
def room : Nat := 68719476736

theorem run15a (x : List UInt8) : runI T0 C7 AN (LD C7 [] 0) Tryz.f15 [.ptr 0 0 0, .s (.str x)] (bld0 0) =
    cond (Nat.beq x.length 0) (some (.ret (wrT x) [⟨0, .cells [.ptr 0 0 0, .s .nils], some 47⟩])) (cond (Nat.ble (x.length * 2) room) (some (.ret (wrT x) (bldR 0 0 x.length (byteRow x)))) none) := by kernel_rfl
theorem run15b (x : List UInt8) (n : Nat) (f : Nat → List SV) : runI T0 C7 AN (LD C7 [] 0) Tryz.f15 [.ptr 0 0 0, .s (.str x)] (bldR 0 0 n f) =
    cond (Nat.ble ((n + x.length) * 2) room) (some (.ret (wrT x) (bldR 0 1 (n + x.length) (catRows n 0 f (byteRow x))))) none := by kernel_rfl

def writeI (args : List AV) (hs : List HO) : IR := match args, hs with
  | [.ptr 0 0 0, .s (.str x)], [⟨0, .cells [.s .nilp, .s .nils], some 47⟩] => .br (!(Nat.beq x.length 0) && Nat.ble (x.length * 2) room) (.ret (wrT x) (bldR 0 0 x.length (byteRow x))) .fail
  | [.ptr 0 0 0, .s (.str x)], [⟨0, .cells [.ptr 0 0 0, .sl 1 h 1 0 n], some 47⟩, ⟨h', .rows 1 n' f, some 5⟩] => .br (Nat.beq h h' && Nat.beq n n' && Nat.ble ((n + x.length) * 2) room) (.ret (wrT x) (bldR 0 (1 + h) (n + x.length) (catRows n 0 f (byteRow x)))) .fail
  | _, _ => .fail

def sg (h : Nat) (i : Nat) : Nat := cond (Nat.beq i 1) h 0

theorem writeI_ok (args : List AV) (hs : List HO) : SoundI Tryz.prog G0 15 args hs (writeI args hs) := by
  unfold writeI
  split
  · rename_i x
    refine brI fun hc => ?_
    simp only [Bool.and_eq_true, Bool.not_eq_true'] at hc
    exact si C7_ok Tryz.func15 (by kernel_rfl) [] 0 (by show runI T0 C7 AN (LD C7 [] 0) Tryz.f15 [.ptr 0 0 0, .s (.str x)] (bld0 0) = _; rw [run15a, hc.1, hc.2]; rfl)
  · rename_i x h n h' n' f
    refine brI fun hc => ?_
    simp only [Bool.and_eq_true] at hc
    have e1 := Nat.eq_of_beq_eq_true hc.1.1
    have e2 := Nat.eq_of_beq_eq_true hc.1.2
    subst e1 e2
    have h0 : SoundI Tryz.prog G0 15 [.ptr 0 0 0, .s (.str x)] (bldR 0 0 n f) (.ret (wrT x) (bldR 0 1 (n + x.length) (catRows n 0 f (byteRow x)))) :=
      si C7_ok Tryz.func15 (by kernel_rfl) [] 0 (by rw [run15b, hc.2, cond_true])
    have := h0.sh (sg h) rfl rfl
    have a1 : shL (sg h) 0 (bldR 0 0 n f) = bldR 0 h n f := by
      show [_, _] = [_, _]
      simp [HO.sh, AV.sh1, AV.sh0, sg]
      rfl
    have a2 : shL (sg h) 0 (bldR 0 1 (n + x.length) (catRows n 0 f (byteRow x))) = bldR 0 (1 + h) (n + x.length) (catRows n 0 f (byteRow x)) := rfl
    rw [a1, a2] at this
    exact this
  · exact failI

/-! ## Encode's put -/

noncomputable def C8 : Orc := putO 16 putP (putI 15 writeI failO)
theorem C8_ok : OrcOK Tryz.prog G0 C8 := putO_ok putP_ok (putI_ok writeI_ok failO_ok)
def okN (n : Int) : Bool := decide (0 ≤ n) && decide (n < 1099511627776)
theorem run14a (n : Int) : runI T0 C8 AN (LD C8 [] 0) Tryz.f14 [.s (.int .u64 n), .ptr 0 0 0] (bld0 0) =
    cond (okN n) (cond (!(Nat.beq (putB n).length 0) && Nat.ble ((putB n).length * 2) room) (some (.ret (.tup []) (bldR 0 0 (putB n).length (byteRow (putB n))))) none) none := by kernel_rfl
theorem run14b (n : Int) (h m : Nat) (f : Nat → List SV) : runI T0 C8 AN (LD C8 [] 0) Tryz.f14 [.s (.int .u64 n), .ptr 0 0 0] (bldR 0 h m f) =
    cond (okN n) (cond (Nat.beq h h && Nat.beq m m && Nat.ble ((m + (putB n).length) * 2) room) (some (.ret (.tup []) (bldR 0 (1 + h) (m + (putB n).length) (catRows m 0 f (byteRow (putB n)))))) none) none := by kernel_rfl

def enc1I (args : List AV) (hs : List HO) : IR := match args, hs with
  | [.s (.int .u64 n), .ptr 0 0 0], [⟨0, .cells [.s .nilp, .s .nils], some 47⟩] => .br (okN n && (!(Nat.beq (putB n).length 0) && Nat.ble ((putB n).length * 2) room)) (.ret (.tup []) (bldR 0 0 (putB n).length (byteRow (putB n)))) .fail
  | [.s (.int .u64 n), .ptr 0 0 0], [⟨0, .cells [.ptr 0 0 0, .sl 1 h 1 0 m], some 47⟩, ⟨h', .rows 1 m' f, some 5⟩] => .br (Nat.beq h h' && Nat.beq m m' && (okN n && Nat.ble ((m + (putB n).length) * 2) room)) (.ret (.tup []) (bldR 0 (1 + h) (m + (putB n).length) (catRows m 0 f (byteRow (putB n))))) .fail
  | _, _ => .fail

theorem enc1I_ok (args : List AV) (hs : List HO) : SoundI Tryz.prog G0 14 args hs (enc1I args hs) := by
  unfold enc1I
  split
  · rename_i n
    refine brI fun hc => ?_
    simp only [Bool.and_eq_true] at hc
    exact si C8_ok Tryz.func14 (by kernel_rfl) [] 0 (by
      show runI T0 C8 AN (LD C8 [] 0) Tryz.f14 [.s (.int .u64 n), .ptr 0 0 0] (bld0 0) = _
      rw [run14a, hc.1, cond_true, hc.2.1, hc.2.2]
      rfl)
  · rename_i n h m h' m' f
    refine brI fun hc => ?_
    simp only [Bool.and_eq_true] at hc
    obtain ⟨⟨h1, h2⟩, h3, h4⟩ := hc
    have e1 := Nat.eq_of_beq_eq_true h1
    have e2 := Nat.eq_of_beq_eq_true h2
    subst e1 e2
    exact si C8_ok Tryz.func14 (by kernel_rfl) [] 0 (by
      show runI T0 C8 AN (LD C8 [] 0) Tryz.f14 [.s (.int .u64 n), .ptr 0 0 0] (bldR 0 h m f) = _
      rw [run14b, h1, h2, h3, h4]
      rfl)
  · exact failI

/-! ## strings.Builder.String -/

def bytesOf (f : Nat → List SV) (n : Nat) : List UInt8 := (List.range ((n : Nat) : Int).toNat).map (fun j => Ev.byteOf (f (0 + j)))
def okStr (f : Nat → List SV) (n : Nat) : Bool := decide ((0 : Int) < ((n : Nat) : Int)) && Nat.ble (0 + ((n : Nat) : Int).toNat) n && decide (((n : Nat) : Int) ≤ 9223372036854775807) && allBytes (fun j => f (0 + j)) ((n : Nat) : Int).toNat
theorem run19a : runI T0 C7 AN (LD C7 [] 0) Tryz.f19 [.ptr 0 0 0] (bld0 0) = some (.ret (.s (.str [])) (bld0 0)) := by kernel_rfl
theorem run19b (n : Nat) (f : Nat → List SV) : runI T0 C7 AN (LD C7 [] 0) Tryz.f19 [.ptr 0 0 0] (bldR 0 0 n f) =
    cond (Nat.beq n 0) none (cond (okStr f n) (some (.ret (.s (.str (bytesOf f n))) (bldO 0 0 n f))) none) := by kernel_rfl
def stringI (args : List AV) (hs : List HO) : IR := match args, hs with
  | [.ptr 0 0 0], [⟨0, .cells [.s .nilp, .s .nils], some 47⟩] => .ret (.s (.str [])) (bld0 0)
  | [.ptr 0 0 0], [⟨0, .cells [.ptr 0 0 0, .sl 1 h 1 0 n], some 47⟩, ⟨h', .rows 1 n' f, some 5⟩] => .br (Nat.beq h h' && Nat.beq n n' && (!(Nat.beq n 0) && okStr f n)) (.ret (.s (.str (bytesOf f n))) (bldO 0 h n f)) .fail
  | _, _ => .fail
theorem stringI_ok (args : List AV) (hs : List HO) : SoundI Tryz.prog G0 19 args hs (stringI args hs) := by
  unfold stringI
  split
  · exact si C7_ok Tryz.func19 (by kernel_rfl) [] 0 run19a
  · rename_i h n h' n' f
    refine brI fun hc => ?_
    simp only [Bool.and_eq_true, Bool.not_eq_true'] at hc
    obtain ⟨⟨h1, h2⟩, h3, h4⟩ := hc
    have e1 := Nat.eq_of_beq_eq_true h1
    have e2 := Nat.eq_of_beq_eq_true h2
    subst e1 e2
    have h0 : SoundI Tryz.prog G0 19 [.ptr 0 0 0] (bldR 0 0 n f) (.ret (.s (.str (bytesOf f n))) (bldO 0 0 n f)) :=
      si C7_ok Tryz.func19 (by kernel_rfl) [] 0 (by rw [run19b, h3, h4]; rfl)
    have := h0.sh (sg h) rfl rfl
    have a1 : shL (sg h) 0 (bldR 0 0 n f) = bldR 0 h n f := by
      show [_, _] = [_, _]
      simp [HO.sh, AV.sh1, AV.sh0, sg]
      rfl
    have a2 : shL (sg h) 0 (bldO 0 0 n f) = bldO 0 h n f := by
      show [_, _] = [_, _]
      simp [HO.sh, AV.sh1, AV.sh0, sg]
      rfl
    rw [a1, a2] at this
    exact this
  · exact failI

noncomputable def C9 : Orc := putO 17 rightP (putO 18 sealP (putI 14 enc1I (putI 15 writeI (putI 19 stringI failO))))
theorem C9_ok : OrcOK Tryz.prog G0 C9 := putO_ok rightP_ok (putO_ok sealP_ok (putI_ok enc1I_ok (putI_ok writeI_ok (putI_ok stringI_ok failO_ok))))

end Go.Proofs.YtkdbaijabnhniaaGreatDoor

namespace Go.Proofs.YtkdbaijabnhniaaGreatDoor
open Go.Ev
set_option maxRecDepth 100000

def AN7 : Ann := { glob := glob0, heap := fun d => !(Nat.beq d 6) }
noncomputable def LX (an : Ann) (C : Orc) (ks : List Nat) (rounds : Nat) : Code → St → LT := loopD T0 C an (fun _ => ks) (fun _ => []) rounds 1
theorem si' {C : Orc} (hC : OrcOK Tryz.prog G0 C) {an : Ann} (hg : an.glob = G0.tab) {f : FuncId} {fn : Func} (hf : Tryz.prog.funcs[f]? = some fn) (hb : fn.body.isNone = false) {args : List AV} {hs hs' : List HO} {v : AV} (ks : List Nat) (rounds : Nat)
    (h : runI T0 C an (LX an C ks rounds) fn args hs = some (.ret v hs')) : SoundI Tryz.prog G0 f args hs (.ret v hs') := by
  obtain ⟨c, hc⟩ := some_of_isNone hb
  have A : Oks Tryz.prog G0 T0 C an := ⟨T0_ok, hg, callOK hC hg, mixed⟩
  exact runI_sound rfl A hf (name_ok hf) hc (loopD_ok A _ _ rounds 1 c) (fun l hl => by
    simp only [IR.val, Option.some.injEq] at hl
    subst hl
    exact h)
theorem sp' {C : Orc} (hC : OrcOK Tryz.prog G0 C) {an : Ann} (hg : an.glob = G0.tab) {f : FuncId} {fn : Func} (hf : Tryz.prog.funcs[f]? = some fn) (hb : fn.body.isNone = false) {args : List AV} {v : AV} (ks : List Nat) (rounds : Nat)
    (h : runP T0 C an (LX an C ks rounds) fn args = some (.ret v)) : SoundP Tryz.prog G0 f args (.ret v) := by
  obtain ⟨c, hc⟩ := some_of_isNone hb
  have A : Oks Tryz.prog G0 T0 C an := ⟨T0_ok, hg, callOK hC hg, mixed⟩
  exact runP_sound rfl A hf (name_ok hf) hc (loopD_ok A _ _ rounds 1 c) (fun l hl => by
    simp only [PR.val, Option.some.injEq] at hl
    subst hl
    exact h)

noncomputable def B7 : Code := (Tryz.f7.body).getD .skip
noncomputable def c7 : Code := subC [1, 1, 1, 1, 0, 1, 0, 0] B7
def k7 : List Nat := [2, 3, 4, 11, 12, 13]
def in7 (k : Nat) (f : Nat → List SV) (ty : Option TypeId) : HO := ⟨0, .rows 3 k f, ty⟩
def sl7 (k : Nat) (i : Int) : List (Nat × AV) := [(2, .s (.str [])), (3, .ptr 4 0 0), (4, .clo 14 [] [.ptr 4 0 0]), (11, .sl 0 0 3 0 k), (12, .s (.int .i64 ((k : Nat) : Int))), (13, .s (.int .i64 i))]
def S7a (k : Nat) (f : Nat → List SV) (ty : Option TypeId) (i : Int) : St := St.mk (lookA (sl7 k i)) (lookB []) [(0, in7 k f ty), (4, ⟨0, .cells [.s .nilp, .s .nils], some 47⟩)] 1 43 41
def S7b (k : Nat) (f : Nat → List SV) (ty : Option TypeId) (h m : Nat) (fb : Nat → List SV) (i : Int) : St := St.mk (lookA (sl7 k i)) (lookB []) [(0, in7 k f ty), (4, ⟨0, .cells [.ptr 4 0 0, .sl 43 h 1 0 m], some 47⟩), (43, ⟨h, .rows 1 m fb, some 5⟩)] 1 44 41

def z3 : List SV := [.int .i64 0, .int .u64 0, .str []]
def rw7 (f : Nat → List SV) (i : Int) : List SV := List.drop 0 (f (i.toNat + 0))
def kf (f : Nat → List SV) (i : Int) : Int := intS ((rw7 f i).getD 0 .nilp)
def nF (f : Nat → List SV) (i : Int) : Int := intS ((rw7 f i).getD 1 .nilp)
def sf (f : Nat → List SV) (i : Int) : List UInt8 := strS ((rw7 f i).getD 2 .nilp)
def q0 (f : Nat → List SV) (i : Int) : List UInt8 := putB (IntKind.u64.wrap (kf f i))
def q1 (f : Nat → List SV) (i : Int) : List UInt8 := putB (nF f i)
def lf (f : Nat → List SV) (i : Int) : Int := IntKind.u64.wrap ((((sf f i).length : Nat) : Int))
def q2 (f : Nat → List SV) (i : Int) : List UInt8 := putB (lf f i)
def W (h m : Nat) (n : Int) : Bool := Nat.beq h h && Nat.beq m m && (okN n && Nat.ble ((m + (putB n).length) * 2) room)
def W3 (h m : Nat) (x : List UInt8) : Bool := Nat.beq h h && Nat.beq m m && Nat.ble ((m + x.length) * 2) room
def goN (k : Nat) (i : Int) : Bool := decide (0 ≤ i) && decide (i < ((k : Nat) : Int))

theorem round7b (L) (k : Nat) (f : Nat → List SV) (ty : Option TypeId) (h m : Nat) (fb : Nat → List SV) (i : Int) (c : Nat) : iterD T0 C9 AN7 L c7 k7 [] (c + 1) (S7b k f ty h m fb i) =
    cond (decide (i < ((k : Nat) : Int))) (cond (goN k i) (cond (true && Nat.blt (i.toNat + 0) k) (cond (shOk z3 0 (rw7 f i)) (cond (!(rightB (kf f i) (nF f i) (sf f i))) (some (.ret, S7b k f ty h m fb i))
      (cond (W h m (IntKind.u64.wrap (kf f i))) (cond (W (1 + h) (m + (q0 f i).length) (nF f i)) (cond (W (1 + (1 + h)) (m + (q0 f i).length + (q1 f i).length) (lf f i)) (cond (W3 (1 + (1 + (1 + h))) (m + (q0 f i).length + (q1 f i).length + (q2 f i).length) (sf f i))
        (iterD T0 C9 AN7 L c7 k7 [] c (S7b k f ty (1 + (1 + (1 + (1 + h)))) (m + (q0 f i).length + (q1 f i).length + (q2 f i).length + (sf f i).length)
          (catRows (m + (q0 f i).length + (q1 f i).length + (q2 f i).length) 0 (catRows (m + (q0 f i).length + (q1 f i).length) 0 (catRows (m + (q0 f i).length) 0 (catRows m 0 fb (byteRow (q0 f i))) (byteRow (q1 f i))) (byteRow (q2 f i))) (byteRow (sf f i))) (IntKind.i64.wrap (i + 1))))
        none) none) none) none)) none) none) none) (some (.exit 0, S7b k f ty h m fb i)) := by kernel_rfl

theorem round7a (L) (k : Nat) (f : Nat → List SV) (ty : Option TypeId) (i : Int) (c : Nat) : iterD T0 C9 AN7 L c7 k7 [] (c + 1) (S7a k f ty i) =
    cond (decide (i < ((k : Nat) : Int))) (cond (goN k i) (cond (true && Nat.blt (i.toNat + 0) k) (cond (shOk z3 0 (rw7 f i)) (cond (!(rightB (kf f i) (nF f i) (sf f i))) (some (.ret, S7a k f ty i))
      (cond (okN (IntKind.u64.wrap (kf f i)) && (!(Nat.beq (q0 f i).length 0) && Nat.ble ((q0 f i).length * 2) room)) (cond (W 0 (q0 f i).length (nF f i)) (cond (W 1 ((q0 f i).length + (q1 f i).length) (lf f i)) (cond (W3 2 ((q0 f i).length + (q1 f i).length + (q2 f i).length) (sf f i))
        (iterD T0 C9 AN7 L c7 k7 [] c (S7b k f ty 3 ((q0 f i).length + (q1 f i).length + (q2 f i).length + (sf f i).length)
          (catRows ((q0 f i).length + (q1 f i).length + (q2 f i).length) 0 (catRows ((q0 f i).length + (q1 f i).length) 0 (catRows (q0 f i).length 0 (byteRow (q0 f i)) (byteRow (q1 f i))) (byteRow (q2 f i))) (byteRow (sf f i))) (IntKind.i64.wrap (i + 1))))
        none) none) none) none)) none) none) none) (some (.exit 0, S7a k f ty i)) := by kernel_rfl

noncomputable def K7 : Ex → St → Option IR := finI T0 AN7 1 Tryz.f7.results.toList
theorem run7 (k : Nat) (f : Nat → List SV) (ty : Option TypeId) : runI T0 C9 AN7 (LX AN7 C9 k7 (k + 1)) Tryz.f7 [.sl 0 0 3 0 k] [in7 k f ty] =
    cond (decide (((k : Nat) : Int) > 1000)) (some (.ret (.s (.str [])) [in7 k f ty]))
      (goLT (blockK 0 (thenK T0 C9 AN7 (LX AN7 C9 k7 (k + 1)) (subC [1, 1, 1, 1, 1] B7) K7)) (ltOf (iterD T0 C9 AN7 (loopD T0 C9 AN7 (fun _ => k7) (fun _ => []) (k + 1) 0) c7 k7 [] (k + 1) (S7a k f ty 0)))) := by kernel_rfl
theorem tail7b (L) (k : Nat) (f : Nat → List SV) (ty : Option TypeId) (h m : Nat) (fb : Nat → List SV) (i : Int) : goLT (blockK 0 (thenK T0 C9 AN7 L (subC [1, 1, 1, 1, 1] B7) K7)) (ltOf (some (.exit 0, S7b k f ty h m fb i))) =
    cond (Nat.beq h h && Nat.beq m m && (!(Nat.beq m 0) && okStr fb m)) (cond (Nat.blt (bytesOf fb m).length 1000000000000) (some (.ret (.s (.str (sealB (bytesOf fb m)))) [in7 k f ty])) none) none := by kernel_rfl
theorem tail7a (L) (k : Nat) (f : Nat → List SV) (ty : Option TypeId) (i : Int) : goLT (blockK 0 (thenK T0 C9 AN7 L (subC [1, 1, 1, 1, 1] B7) K7)) (ltOf (some (.exit 0, S7a k f ty i))) = some (.ret (.s (.str (sealB []))) [in7 k f ty]) := by kernel_rfl

/-! ## Of good acts -/

structure A3 where
  k : Nat
  n : Nat
  s : List UInt8

def rowA (a : A3) : List SV := [.int .i64 (a.k : Int), .int .u64 (a.n : Int), .str a.s]
def okA (a : A3) : Prop := a.k < 10 ∧ a.n ≤ 4294967296 ∧ a.s.length ≤ 10000
def encA (a : A3) : List UInt8 := putB (a.k : Int) ++ (putB (a.n : Int) ++ (putB ((a.s.length : Nat) : Int) ++ a.s))
def catA (l : List A3) : List UInt8 := (l.map encA).flatten

theorem putB_len (n : Int) : 1 ≤ (putB n).length ∧ (putB n).length ≤ 6 := by
  unfold putB
  cases decide (n < 192) <;> cases decide (n < 256) <;> cases decide (n < 65536) <;> cases decide (n < 16777216) <;> cases decide (n < 4294967296) <;> simp

theorem cat_byte (c x : List UInt8) : catRows c.length 0 (byteRow c) (byteRow x) = byteRow (c ++ x) := by
  funext i
  unfold catRows byteRow
  by_cases h : i < c.length
  · have : Nat.blt i c.length = true := by rw [Nat.blt_eq]; exact h
    rw [this, cond_true, Nat.add_zero, List.getD_eq_getElem?_getD, List.getD_eq_getElem?_getD, List.getElem?_append_left h]
  · have : Nat.blt i c.length = false := by rw [Bool.eq_false_iff]; intro q; rw [Nat.blt_eq] at q; exact h q
    rw [this, cond_false, List.getD_eq_getElem?_getD, List.getD_eq_getElem?_getD, List.getElem?_append_right (by omega)]

theorem encA_len (a : A3) (h : okA a) : 3 ≤ (encA a).length ∧ (encA a).length ≤ 10018 := by
  obtain ⟨_, _, h3⟩ := h
  have a1 := putB_len (a.k : Int)
  have a2 := putB_len (a.n : Int)
  have a3 := putB_len ((a.s.length : Nat) : Int)
  unfold encA
  simp only [List.length_append]
  omega

/-- what is read of a good row -/
theorem good_row {f : Nat → List SV} {i : Nat} {a : A3} (h : f i = rowA a) (ha : okA a) : shOk z3 0 (rw7 f (i : Int)) = true ∧ IntKind.u64.wrap (kf f (i : Int)) = (a.k : Int) ∧ nF f (i : Int) = (a.n : Int) ∧ sf f (i : Int) = a.s ∧
    lf f (i : Int) = ((a.s.length : Nat) : Int) ∧ rightB (kf f (i : Int)) (nF f (i : Int)) (sf f (i : Int)) = true := by
  obtain ⟨h1, h2, h3⟩ := ha
  have e : rw7 f (i : Int) = rowA a := by
    unfold rw7
    rw [List.drop_zero, Int.toNat_natCast, Nat.add_zero, h]
  have ek : kf f (i : Int) = (a.k : Int) := by unfold kf; rw [e]; rfl
  have en : nF f (i : Int) = (a.n : Int) := by unfold nF; rw [e]; rfl
  have es : sf f (i : Int) = a.s := by unfold sf; rw [e]; rfl
  refine ⟨by rw [e]; rfl, by rw [ek]; exact IntWalk.u64_in _ (by omega), en, es, by unfold lf; rw [es]; exact IntWalk.u64_in _ (by omega), ?_⟩
  rw [ek, en, es]
  unfold rightB
  simp only [Bool.and_eq_true, decide_eq_true_eq]
  omega

theorem W_ok (h m : Nat) (n : Nat) (hn : n < 1099511627776) (hm : m < 1000000000) : W h m (n : Int) = true := by
  have := putB_len (n : Int)
  unfold W okN room
  simp only [Bool.and_eq_true, Nat.beq_refl, decide_eq_true_eq, Nat.ble_eq, true_and]
  omega
theorem W3_ok (h m : Nat) (x : List UInt8) (hx : x.length ≤ 10000) (hm : m < 1000000000) : W3 h m x = true := by
  unfold W3 room
  simp only [Bool.and_eq_true, Nat.beq_refl, Nat.ble_eq, true_and]
  omega

theorem step7b (L) (k : Nat) (f : Nat → List SV) (ty : Option TypeId) (h : Nat) (c : List UInt8) (i n : Nat) (a : A3) (hi : i < k) (hk : k ≤ 1000) (hf : f i = rowA a) (ha : okA a) (hc : c.length < 900000000) :
    iterD T0 C9 AN7 L c7 k7 [] (n + 1) (S7b k f ty h c.length (byteRow c) i) = iterD T0 C9 AN7 L c7 k7 [] n (S7b k f ty (1 + (1 + (1 + (1 + h)))) (c ++ encA a).length (byteRow (c ++ encA a)) ((i + 1 : Nat) : Int)) := by
  obtain ⟨g1, g2, g3, g4, g5, g6⟩ := good_row hf ha
  obtain ⟨h1, h2, h3⟩ := ha
  have a1 := putB_len (a.k : Int)
  have a2 := putB_len (a.n : Int)
  have a3 := putB_len ((a.s.length : Nat) : Int)
  rw [round7b]
  have d1 : decide ((i : Int) < ((k : Nat) : Int)) = true := by rw [decide_eq_true_iff]; omega
  have d2 : goN k (i : Int) = true := by unfold goN; simp only [Bool.and_eq_true, decide_eq_true_eq]; omega
  have d3 : (true && Nat.blt ((i : Int).toNat + 0) k) = true := by rw [Bool.true_and, Nat.blt_eq]; omega
  rw [d1, d2, d3, g1, g6]
  simp only [cond_true, cond_false, Bool.not_true]
  have eq0 : q0 f (i : Int) = putB (a.k : Int) := by unfold q0; rw [g2]
  have eq1 : q1 f (i : Int) = putB (a.n : Int) := by unfold q1; rw [g3]
  have eq2 : q2 f (i : Int) = putB ((a.s.length : Nat) : Int) := by unfold q2; rw [g5]
  rw [eq0, eq1, eq2, g2, g3, g4, g5, W_ok _ _ _ (by omega) (by omega), W_ok _ _ _ (by omega) (by omega), W_ok _ _ _ (by omega) (by omega), W3_ok _ _ _ h3 (by omega)]
  simp only [cond_true]
  rw [cat_byte]
  rw [← List.length_append, cat_byte, ← List.length_append, cat_byte, ← List.length_append, cat_byte, ← List.length_append]
  have e1 : (i : Int) + 1 = ((i + 1 : Nat) : Int) := by omega
  rw [e1, wrap64 _ (by omega)]
  unfold encA
  simp only [List.append_assoc]

theorem step7a (L) (k : Nat) (f : Nat → List SV) (ty : Option TypeId) (n : Nat) (a : A3) (hi : 0 < k) (hk : k ≤ 1000) (hf : f 0 = rowA a) (ha : okA a) :
    iterD T0 C9 AN7 L c7 k7 [] (n + 1) (S7a k f ty 0) = iterD T0 C9 AN7 L c7 k7 [] n (S7b k f ty 3 (encA a).length (byteRow (encA a)) ((1 : Nat) : Int)) := by
  obtain ⟨g1, g2, g3, g4, g5, g6⟩ := good_row hf ha
  obtain ⟨h1, h2, h3⟩ := ha
  have a1 := putB_len (a.k : Int)
  have a2 := putB_len (a.n : Int)
  have a3 := putB_len ((a.s.length : Nat) : Int)
  have hz : (0 : Int) = ((0 : Nat) : Int) := rfl
  rw [hz, round7a]
  have d1 : decide (((0 : Nat) : Int) < ((k : Nat) : Int)) = true := by rw [decide_eq_true_iff]; omega
  have d2 : goN k ((0 : Nat) : Int) = true := by unfold goN; simp only [Bool.and_eq_true, decide_eq_true_eq]; omega
  have d3 : (true && Nat.blt (((0 : Nat) : Int).toNat + 0) k) = true := by rw [Bool.true_and, Nat.blt_eq]; omega
  rw [d1, d2, d3, g1, g6]
  simp only [cond_true, cond_false, Bool.not_true]
  have eq0 : q0 f ((0 : Nat) : Int) = putB (a.k : Int) := by unfold q0; rw [g2]
  have eq1 : q1 f ((0 : Nat) : Int) = putB (a.n : Int) := by unfold q1; rw [g3]
  have eq2 : q2 f ((0 : Nat) : Int) = putB ((a.s.length : Nat) : Int) := by unfold q2; rw [g5]
  have w0 : (okN (a.k : Int) && (!(Nat.beq (putB (a.k : Int)).length 0) && Nat.ble ((putB (a.k : Int)).length * 2) room)) = true := by
    unfold okN room
    simp only [Bool.and_eq_true, decide_eq_true_eq, Bool.not_eq_true', Nat.ble_eq]
    refine ⟨by omega, ?_, by omega⟩
    rw [Bool.eq_false_iff]
    intro q
    have := Nat.eq_of_beq_eq_true q
    omega
  rw [eq0, eq1, eq2, g2, g3, g4, g5, w0, W_ok _ _ _ (by omega) (by omega), W_ok _ _ _ (by omega) (by omega), W3_ok _ _ _ h3 (by omega)]
  simp only [cond_true]
  rw [cat_byte, ← List.length_append, cat_byte, ← List.length_append, cat_byte, ← List.length_append]
  have e1 : ((0 : Nat) : Int) + 1 = ((1 : Nat) : Int) := rfl
  rw [e1, wrap64 _ (by omega)]
  unfold encA
  simp only [List.append_assoc]

theorem iter7 (L) (k : Nat) (f : Nat → List SV) (ty : Option TypeId) (hk : k ≤ 1000) : ∀ (rest : List A3) (h : Nat) (c : List UInt8) (i n : Nat), (∀ (j : Nat) (a : A3), rest[j]? = some a → f (i + j) = rowA a ∧ okA a) → i + rest.length = k → rest.length < n →
    c.length + 10018 * rest.length < 900000000 →
    ∃ h', iterD T0 C9 AN7 L c7 k7 [] n (S7b k f ty h c.length (byteRow c) i) = some (.exit 0, S7b k f ty h' (c ++ catA rest).length (byteRow (c ++ catA rest)) k)
  | [], h, c, i, n + 1, _, hi, _, _ => by
    refine ⟨h, ?_⟩
    rw [round7b]
    simp only [List.length_nil, Nat.add_zero] at hi
    subst hi
    have d1 : decide ((i : Int) < ((i : Nat) : Int)) = false := by rw [decide_eq_false_iff_not]; omega
    rw [d1, cond_false]
    simp [catA]
  | a :: rest, h, c, i, n + 1, hr, hi, hn, hl => by
    obtain ⟨r1, r2⟩ := hr 0 a rfl
    have hl2 := encA_len a r2
    simp only [List.length_cons] at hi hn hl
    rw [step7b L k f ty h c i n a (by omega) hk r1 r2 (by omega)]
    obtain ⟨h', e⟩ := iter7 L k f ty hk rest (1 + (1 + (1 + (1 + h)))) (c ++ encA a) (i + 1) n (fun j b hb => by
      have := hr (j + 1) b (by simpa using hb)
      rw [show i + 1 + j = i + (j + 1) by omega]
      exact this) (by omega) (by omega) (by rw [List.length_append]; omega)
    refine ⟨h', e.trans ?_⟩
    simp [catA, List.append_assoc]
  | _, _, _, _, 0, _, _, hn, _ => by omega

theorem allBytes_of {g : Nat → List SV} (h : ∀ j, isByte (g j) = true) : ∀ m, allBytes g m = true
  | 0 => rfl
  | m + 1 => by
    unfold allBytes
    rw [allBytes_of h m, h m]
    rfl
theorem all_byte (c : List UInt8) (m : Nat) : allBytes (fun j => byteRow c (0 + j)) m = true := allBytes_of (fun _ => rfl) m
theorem bytes_byte (c : List UInt8) : bytesOf (byteRow c) c.length = c := by
  unfold bytesOf
  rw [Int.toNat_natCast]
  apply List.ext_getElem
  · simp
  · intro i h1 h2
    simp only [List.length_map, List.length_range] at h1
    simp [byteRow, Ev.byteOf, List.getD_eq_getElem?_getD, h2]

theorem encode_run (k : Nat) (f : Nat → List SV) (ty : Option TypeId) (l : List A3) (hk : k ≤ 1000) (hl : l.length = k) (hf : ∀ (j : Nat) (a : A3), l[j]? = some a → f j = rowA a ∧ okA a) :
    runI T0 C9 AN7 (LX AN7 C9 k7 (k + 1)) Tryz.f7 [.sl 0 0 3 0 k] [in7 k f ty] = some (.ret (.s (.str (sealB (catA l)))) [in7 k f ty]) := by
  rw [run7]
  have d1 : decide (((k : Nat) : Int) > 1000) = false := by rw [decide_eq_false_iff_not]; omega
  rw [d1, cond_false]
  cases l with
  | nil =>
    simp only [List.length_nil] at hl
    subst hl
    rw [round7a]
    have d2 : decide ((0 : Int) < ((0 : Nat) : Int)) = false := rfl
    rw [d2, cond_false, tail7a]
    rfl
  | cons a rest =>
    obtain ⟨r1, r2⟩ := hf 0 a rfl
    simp only [List.length_cons] at hl
    rw [step7a _ k f ty k a (by omega) hk r1 r2]
    have hl2 := encA_len a r2
    obtain ⟨h', e⟩ := iter7 (loopD T0 C9 AN7 (fun _ => k7) (fun _ => []) (k + 1) 0) k f ty hk rest 3 (encA a) 1 k (fun j b hb => by
      have := hf (j + 1) b (by simpa using hb)
      rw [show 1 + j = j + 1 by omega]
      exact this) (by omega) (by omega) (by omega)
    rw [e, tail7b]
    have e2 : encA a ++ catA rest = catA (a :: rest) := rfl
    rw [e2]
    have hpos : 0 < (catA (a :: rest)).length := by rw [← e2, List.length_append]; omega
    have hmax : ∀ (l : List A3), (∀ (j : Nat) (a : A3), l[j]? = some a → okA a) → (catA l).length ≤ 10018 * l.length := by
      intro l
      induction l with
      | nil => intro _; simp [catA]
      | cons a l ih =>
        intro hh
        have q1 := encA_len a (hh 0 a rfl)
        have q2 := ih fun j b hb => hh (j + 1) b (by simpa using hb)
        have : catA (a :: l) = encA a ++ catA l := rfl
        rw [this, List.length_append, List.length_cons]
        omega
    have hm := hmax (a :: rest) fun j b hb => (hf j b hb).2
    simp only [List.length_cons] at hm
    generalize catA (a :: rest) = c at hpos hm
    have d3 : (Nat.beq h' h' && Nat.beq c.length c.length && (!(Nat.beq c.length 0) && okStr (byteRow c) c.length)) = true := by
      unfold okStr
      rw [all_byte]
      simp only [Bool.and_eq_true, Nat.beq_refl, Bool.not_eq_true', decide_eq_true_eq, Nat.ble_eq, true_and, and_true, Int.toNat_natCast]
      refine ⟨?_, by omega⟩
      rw [Bool.eq_false_iff]
      intro q
      have := Nat.eq_of_beq_eq_true q
      omega
    have d4 : Nat.blt c.length 1000000000000 = true := by rw [Nat.blt_eq]; omega
    rw [bytes_byte, d3, d4]
    rfl

end Go.Proofs.YtkdbaijabnhniaaGreatDoor
