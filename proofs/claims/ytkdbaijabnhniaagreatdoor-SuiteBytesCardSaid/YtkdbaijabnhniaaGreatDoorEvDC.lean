/- The library's strings.Join and strconv.Itoa: what they hand back. -/
import Derived.Test.YtkdbaijabnhniaaGreatDoorEvDB
import Derived.Below
import Derived.Lib.Join
import Derived.Lib.ItoaNum
import Derived.Sort.Grow
import Derived.Deep.Draws
namespace Go.Ev

def joinB (sep : List UInt8) : List (List UInt8) → List UInt8
  | [] => []
  | [x] => x
  | x :: y :: r => x ++ (sep ++ joinB sep (y :: r))

def strOf : List SV → Option (List UInt8)
  | [.str l] => some l
  | _ => none

/-- a row's texts -/
def textsOf (f : Nat → List SV) : Nat → Nat → Option (List (List UInt8))
  | _, 0 => some []
  | i, n + 1 => match strOf (f i), textsOf f (i + 1) n with
    | some x, some r => some (x :: r)
    | _, _ => none

/-- of at most 1000 texts of at most 1000000 bytes each -/
def okTexts (l : List (List UInt8)) (sep : List UInt8) : Bool := Nat.ble l.length 1000000 && Nat.ble (joinB sep l).length 1000000

def joinP : List AV → PR
  | [.s (.vs sz n f), .s (.str sep)] => cond (Nat.beq sz 1) (match textsOf f 0 n with
    | some l => cond (okTexts l sep) (.ret (.s (.str (joinB sep l)))) .fail
    | none => .fail) .fail
  | [.s .nils, .s (.str _)] => .ret (.s (.str []))
  | _ => .fail

def joinI : List AV → List HO → IR
  | [.sl id g sz off n, .s (.str sep)], [⟨g', .rows sz' m f, _⟩] => cond (Nat.beq id 0 && Nat.beq g g' && Nat.beq sz 1 && Nat.beq sz' 1 && Nat.ble (off + n) m) (match textsOf (fun i => f (i + off)) 0 n with
    | some l => cond (okTexts l sep) (.qret (.s (.str (joinB sep l)))) .fail
    | none => .fail) .fail
  | _, _ => .fail

def decF : Nat → Nat → List UInt8
  | 0, _ => []
  | k + 1, u => cond (Nat.blt u 10) [UInt8.ofNat (48 + u)] (decF k (u / 10) ++ [UInt8.ofNat (48 + u % 10)])

def itoaF : Int → List UInt8
  | .ofNat n => decF 20 n
  | .negSucc n => 45 :: decF 20 (n + 1)

def itoaP : List AV → PR
  | [.s (.int .i64 n)] => cond (decide (-1000000000 ≤ n) && decide (n ≤ 1000000000)) (.ret (.s (.str (itoaF n)))) .fail
  | _ => .fail

/-- an oracle that answers calls that are handed blocks -/
def putI (n : FuncId) (p : List AV → List HO → IR) (C : Orc) : Orc := { pure := C.pure, imp := fun f args hs => cond (Nat.beq f n) (p args hs) (C.imp f args hs), quiet := C.quiet }

/-- what is kept at loops, by function and loop -/
def lookK (k : Nat) : List (Nat × List Nat) → List Nat
  | [] => []
  | (j, l) :: r => cond (Nat.beq k j) l (lookK k r)
def lookF (f : Nat) : List (Nat × List (Nat × List Nat)) → List (Nat × List Nat)
  | [] => []
  | (j, l) :: r => cond (Nat.beq f j) l (lookF f r)

/-! ## Calls whose answers are known -/

def rowsL (l : List (List SV)) (i : Nat) : List SV := l.getD i []

def sameG (x y : AV) : Bool :=
  match x, y with
  | .agg a, .agg b => sameAs sameA a b
  | x, y => sameA x y
def sameArgs (a b : List AV) : Bool := sameAs sameG a b

def sameR0 (x y : AV) : Bool :=
  match x, y with
  | .own sz n f, .own sz' n' g => Nat.beq sz sz' && Nat.beq n n' && sameF (sameS 12) f g n
  | x, y => sameA0 x y
def sameR1 (x y : AV) : Bool :=
  match x, y with
  | .agg a, .agg b => sameAs sameR0 a b
  | x, y => sameR0 x y
def sameR2 (x y : AV) : Bool :=
  match x, y with
  | .tup a, .tup b => sameAs sameR1 a b
  | x, y => sameR1 x y
def samePR (x y : PR) : Bool :=
  match x, y with
  | .ret a, .ret b => sameR2 a b
  | .pan a, .pan b => sameS 12 a b
  | _, _ => false

section
variable {E : Env}

theorem sameG_ok {a b : AV} {x : Value} (h : sameG a b = true) (hx : VA E b x) : VA E a x ∧ true = true := by
  unfold sameG at h
  split at h
  · simp only [VA] at hx ⊢
    obtain ⟨ys, rfl, hy⟩ := hx
    exact ⟨⟨ys, rfl, (sameAs_ok (p := AV.flat) (fun _ _ _ h hx => sameA_ok h hx) h hy).1⟩, trivial⟩
  · exact ⟨(sameA_ok h hx).1, rfl⟩

theorem sameArgs_ok {as bs : List AV} {xs : List Value} (h : sameArgs as bs = true) (hx : VAs E bs xs) : VAs E as xs :=
  (sameAs_ok (p := fun _ => true) (fun _ _ _ h hx => sameG_ok h hx) h hx).1

theorem sameR0_ok {a b : AV} {x : Value} (h : sameR0 a b = true) (hx : VA E b x) : VA E a x ∧ true = true := by
  unfold sameR0 at h
  split at h
  · simp only [Bool.and_eq_true] at h
    obtain ⟨⟨h1, h2⟩, h3⟩ := h
    have := Nat.eq_of_beq_eq_true h1
    have := Nat.eq_of_beq_eq_true h2
    subst_vars
    simp only [VA] at hx ⊢
    obtain ⟨b, o, cap, m, k1, k2, k3, k4, k5⟩ := hx
    refine ⟨⟨b, o, cap, m, k1, k2, k3, k4, fun i hi => ?_⟩, trivial⟩
    obtain ⟨q1, q2⟩ := sameL_ok (sameS_ok 12) (sameF_at h3 i hi) (k5 i hi).2
    exact ⟨q2.trans (k5 i hi).1, q1⟩
  · exact ⟨(sameA0_ok h hx).1, rfl⟩

theorem sameR1_ok {a b : AV} {x : Value} (h : sameR1 a b = true) (hx : VA E b x) : VA E a x ∧ true = true := by
  unfold sameR1 at h
  split at h
  · simp only [VA] at hx ⊢
    obtain ⟨ys, rfl, hy⟩ := hx
    exact ⟨⟨ys, rfl, (sameAs_ok (p := fun _ => true) (fun _ _ _ h hx => sameR0_ok h hx) h hy).1⟩, trivial⟩
  · exact sameR0_ok h hx

theorem sameR2_ok {a b : AV} {x : Value} (h : sameR2 a b = true) (hx : VA E b x) : VA E a x := by
  unfold sameR2 at h
  split at h
  · simp only [VA] at hx ⊢
    obtain ⟨ys, rfl, hy⟩ := hx
    exact ⟨ys, rfl, (sameAs_ok (p := fun _ => true) (fun _ _ _ h hx => sameR1_ok h hx) h hy).1⟩
  · exact (sameR1_ok h hx).1

end

section
variable {P : Program} {G : Gl}

theorem SoundP.of_same {f : FuncId} {args : List AV} {k r : PR} (h : SoundP P G f args r) (hs : samePR k r = true) : SoundP P G f args k := by
  intro l hl M w xs hG hF hv
  unfold samePR at hs
  split at hs
  · rename_i a b
    simp only [PR.val, Option.some.injEq] at hl
    subst hl
    intro o a' K Q hK hQ
    refine h (.v b .none) rfl M w xs hG hF hv o a' K Q (fun y v hy => hK y v ?_) (fun ch v hy => hQ ch v ?_)
    · obtain ⟨M', O', z, k1, k2, k3⟩ := hy
      exact ⟨M', O', z, k1, k2, sameR2_ok hs k3⟩
    · obtain ⟨M', O', z, k1, k2, k3⟩ := hy
      exact ⟨M', O', z, k1, k2, sameR2_ok hs k3⟩
  · rename_i a b
    simp only [PR.val, Option.some.injEq] at hl
    subst hl
    intro o a' K Q hK hQ
    refine h (.pan b .none) rfl M w xs hG hF hv o a' K Q (fun y v hy => hK y v ?_) (fun ch v hy => hQ ch v ?_)
    · obtain ⟨M', O', z, k1, k2, k3⟩ := hy
      exact ⟨M', O', z, k1, k2, (sameS_ok _ _ _ _ hs k3).1⟩
    · obtain ⟨M', O', z, k1, k2, k3⟩ := hy
      exact ⟨M', O', z, k1, k2, (sameS_ok _ _ _ _ hs k3).1⟩
  · cases hs

theorem SoundP.of_args {f : FuncId} {known args : List AV} {r : PR} (h : SoundP P G f known r) (hs : sameArgs known args = true) : SoundP P G f args r :=
  fun l hl M w xs hG hF hv => h l hl M w xs hG hF (sameArgs_ok hs hv)

/-- a known call, ahead of the others -/
def memoO (n : FuncId) (known : List AV) (r : PR) (C : Orc) : Orc :=
  { pure := fun f args => cond (cond (Nat.beq f n) (sameArgs known args) false) r (C.pure f args), imp := C.imp, quiet := C.quiet }

theorem memoO_ok {n : FuncId} {known : List AV} {r : PR} {C : Orc} (h : SoundP P G n known r) (hC : OrcOK P G C) : OrcOK P G (memoO n known r C) := by
  refine ⟨fun f args => ?_, hC.imp⟩
  show SoundP P G f args (cond (cond (Nat.beq f n) (sameArgs known args) false) r (C.pure f args))
  cases hb : Nat.beq f n
  · exact hC.pure f args
  · have := Nat.eq_of_beq_eq_true hb
    subst this
    rw [cond_true]
    cases hs : sameArgs known args
    · exact hC.pure f args
    · exact h.of_args hs

theorem putI_ok {n : FuncId} {p : List AV → List HO → IR} {C : Orc} (h : ∀ args hs, SoundI P G n args hs (p args hs)) (hC : OrcOK P G C) : OrcOK P G (putI n p C) := by
  refine ⟨hC.pure, fun f args hs => ?_⟩
  show SoundI P G f args hs (cond (Nat.beq f n) (p args hs) (C.imp f args hs))
  cases hb : Nat.beq f n
  · exact hC.imp f args hs
  · have := Nat.eq_of_beq_eq_true hb
    subst this
    exact h args hs

end

end Go.Ev

namespace Go.Ev
open Go.RowKit

section
variable {P : Program} {G : Gl}

theorem FOK.below {M : Nat → Option (List Value)} {w w' : World} (h : FOK M w) (hb : Below w.heap.size w w') : FOK M w' := fun b m hm => by
  obtain ⟨c, e, z, h1, h2⟩ := h b m hm
  have hlt : b < w.heap.size := by
    rcases Nat.lt_or_ge b w.heap.size with q | q
    · exact q
    · simp [Array.getElem?_eq_none q] at h1
  exact ⟨c, e, z, by rw [hb.block b hlt]; exact h1, h2⟩

/-- a function that hands back a text and leaves what lay there -/
theorem SoundP.of_below {f : FuncId} {fn : Func} {args : List AV} {l : List UInt8} (hf : P.funcs[f]? = some fn) (hn : (fn.name == "runtime.NumGoroutine") = false) (hb : fn.body.isNone = false)
    (h : ∀ M w xs, GOK G M → FOK M w → VAs (envP M fun _ => none) args xs → Calls P f xs.toArray w fun e w' => e = .returned (.string ⟨l.toArray⟩) ∧ Below w.heap.size w w') : SoundP P G f args (.ret (.s (.str l))) := by
  intro lf hl M w xs hG hF hv
  simp only [PR.val, Option.some.injEq] at hl
  subst hl
  refine invokes_of_calls hf hn hb ((h M w xs hG hF hv).mono fun e w' hh => ?_) (fun v q => by obtain ⟨_, _, _, _, q, _⟩ := q; cases q)
  obtain ⟨rfl, hB⟩ := hh
  refine ⟨M, fun _ => none, _, ⟨fun b m q => q, fun b m q => .inl q, fun b m q => (nomatch q), hF.below hB, hB.size, fun b q => hB.block b q, hB.tape, hB.os, hB.output⟩, rfl, ?_⟩
  simp only [VA, VS]

theorem Core.below {E : Env} {h : Heap} {w w' : World} (hC : Core G E h w) (hB : Below w.heap.size w w') : Core G E h w' := by
  have key : ∀ id o, h id = some o → w'.heap[E.blk id]? = w.heap[E.blk id]? := fun id o ho => by
    obtain ⟨n, hn⟩ := (hC.heap.obj id o ho).I
    exact hB.block _ (hC.lt _ (.inr ⟨id, by simp [hn], rfl⟩))
  exact ⟨⟨fun id o ho => (hC.heap.obj id o ho).mono (EnvLe.refl E) rfl rfl (key id o ho), hC.heap.non, fun id o ho => (hC.heap.ty id o ho).mono rfl (key id o ho)⟩, hC.fz.below hB, hC.own, hC.box, hC.disj, hC.glob, fun b q => Nat.lt_of_lt_of_le (hC.lt b q) hB.size⟩

theorem SoundI.of_below {f : FuncId} {fn : Func} {args : List AV} {hs : List HO} {l : List UInt8} (hf : P.funcs[f]? = some fn) (hn : (fn.name == "runtime.NumGoroutine") = false) (hb : fn.body.isNone = false)
    (h : ∀ E w xs, Core G E (heapOf hs) w → VAs E args xs → Calls P f xs.toArray w fun e w' => e = .returned (.string ⟨l.toArray⟩) ∧ Below w.heap.size w w') : SoundI P G f args hs (.qret (.s (.str l))) := by
  intro lf hl E w xs hC hv
  simp only [IR.val, Option.some.injEq] at hl
  subst hl
  refine invokes_of_calls hf hn hb ((h E w xs hC hv).mono fun e w' hh => ?_) (fun v q => by obtain ⟨_, _, _, _, q, _⟩ := q; cases q)
  obtain ⟨rfl, hB⟩ := hh
  refine ⟨E, hC.below hB, ⟨(EnvLe.refl E).to0, hB.size, fun b q _ => hB.block b q, fun _ q => .inl q, fun _ _ q => .inl q, hB.tape, hB.os, hB.output⟩, _, rfl, ?_⟩
  simp only [VA, VS]

theorem joinB_eq (sep : List UInt8) : ∀ l : List (List UInt8), joinB sep l = Lib.join l sep
  | [] => rfl
  | [x] => by simp [joinB, Lib.join, List.intercalate]
  | x :: y :: r => by
    have := joinB_eq sep (y :: r)
    simp only [joinB, this]
    simp [Lib.join, List.intercalate]

theorem textsOf_at {f : Nat → List SV} : ∀ {n i : Nat} {l : List (List UInt8)}, textsOf f i n = some l → l.length = n ∧ ∀ j x, l[j]? = some x → f (i + j) = [.str x]
  | 0, i, l, h => by
    simp only [textsOf, Option.some.injEq] at h
    subst h
    exact ⟨rfl, fun j x q => by simp at q⟩
  | n + 1, i, l, h => by
    simp only [textsOf] at h
    split at h
    · rename_i x r hx hr
      injection h with h
      subst h
      obtain ⟨k1, k2⟩ := textsOf_at hr
      refine ⟨by simp [k1], fun j y hy => ?_⟩
      cases j with
      | zero =>
        simp only [List.getElem?_cons_zero, Option.some.injEq] at hy
        subst hy
        unfold strOf at hx
        split at hx
        · rename_i l0 hl0
          injection hx with hx
          subst hx
          exact hl0
        · cases hx
      | succ j =>
        simp only [List.getElem?_cons_succ] at hy
        have := k2 j y hy
        rw [show i + (j + 1) = i + 1 + j by omega]
        exact this
    · cases h

def JoinC (P : Program) (f : FuncId) : Prop := ∀ (bk o c : Nat) (xs : List ByteArray) (sep : ByteArray) (w : World), (∀ (j : Nat) x, xs[j]? = some x → w.cell? ⟨bk, o + j, none⟩ = some (.string x)) → bk < w.heap.size →
  xs.length ≤ 140737488355328 → xs.length ≤ c → (Lib.join (xs.map (·.data.toList)) sep.data.toList).length ≤ 140737488355328 →
  Calls P f #[.slice (some ⟨bk, o, none⟩) xs.length c, .string sep] w fun e w' => e = .returned (.string ⟨(Lib.join (xs.map (·.data.toList)) sep.data.toList).toArray⟩) ∧ Below w.heap.size w w'

theorem join_call {f : FuncId} (hJ : JoinC P f) {bk o c n : Nat} {l : List (List UInt8)} {sep : List UInt8} {w : World} (hl : l.length = n) (hc : ∀ (j : Nat) x, l[j]? = some x → w.cell? ⟨bk, o + j, none⟩ = some (.string ⟨x.toArray⟩)) (hbk : bk < w.heap.size) (hcap : n ≤ c)
    (hok : okTexts l sep = true) : Calls P f #[.slice (some ⟨bk, o, none⟩) n c, .string ⟨sep.toArray⟩] w fun e w' => e = .returned (.string ⟨(joinB sep l).toArray⟩) ∧ Below w.heap.size w w' := by
  unfold okTexts at hok
  simp only [Bool.and_eq_true] at hok
  have h1 := Nat.le_of_ble_eq_true hok.1
  have h2 := Nat.le_of_ble_eq_true hok.2
  have hm : ((l.map fun x => ByteArray.mk x.toArray).map (·.data.toList)) = l := by
    rw [List.map_map]
    exact (List.map_congr_left (fun x _ => by simp)).trans (List.map_id l)
  have := hJ bk o c (l.map fun x => ByteArray.mk x.toArray) ⟨sep.toArray⟩ w (fun j x hx => by
    simp only [List.getElem?_map, Option.map_eq_some_iff] at hx
    obtain ⟨y, hy, rfl⟩ := hx
    exact hc j y hy) hbk (by simp; omega) (by simp; omega) (by rw [hm, ← joinB_eq]; simp; omega)
  rw [hm, ← joinB_eq] at this
  simpa [hl] using this

theorem joinP_ok {f : FuncId} {fn : Func} (hf : P.funcs[f]? = some fn) (hn : (fn.name == "runtime.NumGoroutine") = false) (hb : fn.body.isNone = false) (hJ : JoinC P f)
    (hJ0 : ∀ (a : Option Addr) (c : Nat) (sep : ByteArray) (w : World), Calls P f #[.slice a 0 c, .string sep] w fun e w' => e = .returned (.string ⟨#[]⟩) ∧ w' = w) (args : List AV) : SoundP P G f args (joinP args) := by
  unfold joinP
  split
  · rename_i sz n g sep
    cases hs : Nat.beq sz 1
    · intro l hl; cases hl
    rw [cond_true]
    have := Nat.eq_of_beq_eq_true hs
    subst this
    split
    · rename_i l hl
      cases hok : okTexts l sep
      · intro l hl; cases hl
      rw [cond_true]
      obtain ⟨k1, k2⟩ := textsOf_at hl
      refine .of_below hf hn hb fun M w xs hG hF hv => ?_
      simp only [VAs, VA, VS] at hv
      obtain ⟨_, _, rfl, ⟨b, o, cap, m, rfl, hcap, hM, hi⟩, _, _, rfl, rfl, rfl⟩ := hv
      obtain ⟨c, e, z, h1, h2⟩ := hF b m hM
      have hlt : b < w.heap.size := by
        rcases Nat.lt_or_ge b w.heap.size with q | q
        · exact q
        · simp [Array.getElem?_eq_none q] at h1
      refine join_call hJ k1 (fun j x hx => ?_) hlt hcap hok
      have hj : j < n := by rw [← k1]; exact (List.getElem?_eq_some_iff.1 hx).1
      have h3 := (hi j hj).2
      have h4 := k2 j x hx
      rw [Nat.zero_add] at h4
      rw [h4] at h3
      simp only [VL, VS] at h3
      obtain ⟨y, r, h5, _, rfl, _⟩ := h3
      rw [Nat.mul_one] at h5
      have h6 : m[o + j]? = some (.string ⟨x.toArray⟩) := by
        have := congrArg (·[0]?) h5
        simpa using this
      rw [← h2] at h6
      simp only [World.cell?, h1]
      simpa using h6
    · intro l hl; cases hl
  · rename_i sep
    refine .of_below hf hn hb fun M w xs hG hF hv => ?_
    simp only [VAs, VA, VS] at hv
    obtain ⟨_, _, rfl, rfl, _, _, rfl, rfl, rfl⟩ := hv
    exact (hJ0 none 0 _ w).mono fun e w' ⟨h1, h2⟩ => ⟨h1, h2 ▸ Below.refl _ _⟩
  · intro l hl; cases hl

theorem joinI_ok {f : FuncId} {fn : Func} (hf : P.funcs[f]? = some fn) (hn : (fn.name == "runtime.NumGoroutine") = false) (hb : fn.body.isNone = false) (hJ : JoinC P f) (args : List AV) (hs : List HO) : SoundI P G f args hs (joinI args hs) := by
  unfold joinI
  split
  · rename_i id g sz off n sep g' sz' m fr ty
    cases hc : (Nat.beq id 0 && Nat.beq g g' && Nat.beq sz 1 && Nat.beq sz' 1 && Nat.ble (off + n) m)
    · intro l hl; cases hl
    rw [cond_true]
    simp only [Bool.and_eq_true] at hc
    obtain ⟨⟨⟨⟨h1, h2⟩, h3⟩, h4⟩, h5⟩ := hc
    have := Nat.eq_of_beq_eq_true h1
    have := Nat.eq_of_beq_eq_true h2
    have := Nat.eq_of_beq_eq_true h3
    have := Nat.eq_of_beq_eq_true h4
    have hle := Nat.le_of_ble_eq_true h5
    subst_vars
    split
    · rename_i l hl
      cases hok : okTexts l sep
      · intro l hl; cases hl
      rw [cond_true]
      obtain ⟨k1, k2⟩ := textsOf_at hl
      refine .of_below hf hn hb fun E w xs hC hv => ?_
      simp only [VAs, VA, VS] at hv
      obtain ⟨_, _, rfl, ⟨_, g1, n1, hI, _, hx⟩, _, _, rfl, rfl, rfl⟩ := hv
      have ho := hC.heap.obj 0 _ (by rw [heapOf_eq]; rfl)
      simp only [ObjR] at ho
      obtain ⟨hI', _, c, e, z, hw, _, _, hi⟩ := ho
      rw [hI] at hI'
      injection hI' with hI'
      injection hI' with e1 e2
      obtain ⟨_, cap, A, hcap, _, hA, rfl⟩ := hx e1.symm
      have hlt : E.blk 0 < w.heap.size := hC.lt _ (.inr ⟨0, by simp [hI], rfl⟩)
      refine join_call hJ k1 (fun j x hxj => ?_) hlt hcap hok
      have hj : j < n := by rw [← k1]; exact (List.getElem?_eq_some_iff.1 hxj).1
      have h3 := (hi (j + off) (by omega)).2
      have h4 := k2 j x hxj
      rw [Nat.zero_add] at h4
      rw [h4] at h3
      simp only [VL, VS] at h3
      obtain ⟨y, r, h5, _, rfl, _⟩ := h3
      have hA := hA (by omega)
      have h6 : c.toList[A + j]? = some (.string ⟨x.toArray⟩) := by
        have := congrArg (·[0]?) h5
        have e3 : A + j = E.bas 0 + (j + off) * 1 := by omega
        rw [e3]
        simpa using this
      simp only [World.cell?, hw]
      simpa using h6
    · intro l hl; cases hl
  · intro l hl; cases hl

/-! ## Numerals -/

theorem decF_eq : ∀ (k u : Nat), u < 10 ^ k → 0 < k → decF k u = Lib.decDigits u
  | 0, u, _, h => by omega
  | k + 1, u, h, _ => by
    rw [Lib.decDigits]
    simp only [decF]
    by_cases hu : u < 10
    · have : Nat.blt u 10 = true := by rw [Nat.blt_eq]; exact hu
      rw [this, cond_true, dif_pos hu]
    · have : Nat.blt u 10 = false := by rw [Bool.eq_false_iff]; intro q; rw [Nat.blt_eq] at q; exact hu q
      rw [this, cond_false, dif_neg hu]
      cases k with
      | zero => simp at h; omega
      | succ k => rw [decF_eq (k + 1) (u / 10) (by rw [Nat.pow_succ] at h; omega) (by omega)]

theorem itoaF_eq (n : Int) (h0 : -1000000000 ≤ n) (h1 : n ≤ 1000000000) : itoaF n = Lib.itoa n := by
  unfold itoaF Lib.itoa
  cases n with
  | ofNat n =>
    have : ¬ (Int.ofNat n < 0) := by simp
    rw [if_neg this]
    simp only [Int.ofNat_eq_natCast, Int.toNat_natCast] at *
    exact decF_eq 20 n (by omega) (by omega)
  | negSucc n =>
    have : Int.negSucc n < 0 := by omega
    rw [if_pos this]
    have e : (Int.negSucc n).natAbs = n + 1 := rfl
    rw [e]
    exact congrArg _ (decF_eq 20 (n + 1) (by omega) (by omega))

theorem below_grow (w : World) (k : Nat) (os : Array Obj) : Below w.heap.size w (Sort.grow (w.drewN k) os) := by
  refine ⟨rfl, rfl, rfl, ?_, fun i hi => ?_⟩
  · simp [Sort.grow, World.drewN]
  · simp only [Sort.grow, World.drewN]
    rw [Array.getElem?_append_left hi]

theorem itoaP_ok {f : FuncId} {fn : Func} (hf : P.funcs[f]? = some fn) (hn : (fn.name == "runtime.NumGoroutine") = false) (hb : fn.body.isNone = false) {g : Nat} (hg : P.globalNamed "internal/strconv.uint64pow10" = some g) {cs : List SV} (hGt : G g = some cs)
    (hcs : cs = Lib.pow10Tab.map (fun n => SV.int .u64 n))
    (hI : ∀ (n : Int) (_ : -9223372036854775808 ≤ n) (_ : n ≤ 9223372036854775807) (w : World) (_ : Lib.TabIs P w "internal/strconv.uint64pow10" .u64 Lib.pow10Tab),
      Calls P f #[.int .i64 n] w fun e w' => e = .returned (.string ⟨(Lib.itoa n).toArray⟩) ∧ ∃ k os, w' = Sort.grow (w.drewN k) os) (args : List AV) : SoundP P G f args (itoaP args) := by
  unfold itoaP
  split
  · rename_i n
    cases hc : (decide (-1000000000 ≤ n) && decide (n ≤ 1000000000))
    · intro l hl; cases hl
    rw [cond_true]
    simp only [Bool.and_eq_true, decide_eq_true_eq] at hc
    refine .of_below hf hn hb fun M w xs hG hF hv => ?_
    simp only [VAs, VA, VS] at hv
    obtain ⟨_, _, rfl, rfl, rfl⟩ := hv
    rw [itoaF_eq n hc.1 hc.2]
    refine (hI n (by omega) (by omega) w ?_).mono fun e w' ⟨h1, k, os, h2⟩ => ⟨h1, h2 ▸ below_grow w k os⟩
    obtain ⟨q1, q2⟩ := hG g cs hGt
    simp only [VS] at q1
    obtain ⟨b, o, m, e, hb, hvl⟩ := q1
    injection e with e
    injection e with e
    injection e with e1 e2 e3
    subst e1 e2
    obtain ⟨c, ty, z, h1, h2⟩ := hF _ _ hb
    unfold Lib.TabIs World.var?
    rw [hg]
    simp only [Option.bind_some, h1, Option.some.injEq]
    apply Array.ext'
    rw [h2]
    have hlen := q2 m hb
    rw [List.drop_zero] at hvl
    subst hcs
    clear hb h2 hGt q2 hG
    revert hlen hvl
    generalize Lib.pow10Tab = t
    induction t generalizing m with
    | nil => intro _ hlen; simpa using hlen
    | cons x t ih =>
      intro hvl hlen
      simp only [List.map_cons, VL, VS] at hvl
      obtain ⟨y, r, rfl, _, rfl, hr⟩ := hvl
      simp only [List.map_cons, List.length_cons, Nat.add_right_cancel_iff] at hlen
      have := ih r hr hlen
      simpa using this
  · intro l hl; cases hl

end
end Go.Ev
