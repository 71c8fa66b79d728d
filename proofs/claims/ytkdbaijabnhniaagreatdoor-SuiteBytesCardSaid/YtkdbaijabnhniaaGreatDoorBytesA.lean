/- What a call of SuiteBytes gives, for every argument and every world that holds the tables. -/
import Derived.Test.YtkdbaijabnhniaaGreatDoorCards
import Derived.Test.YtkdbaijabnhniaaGreatDoorTie
import Derived.Test.YtkdbaijabnhniaaGreatDoorChecked
import Derived.Lib.LaidTab
import Derived.ChangeMaps5
import Derived.Test.YtkdbaijabnhniaaGreatDoorKn5
import Derived.Test.YtkdbaijabnhniaaGreatDoorByB
namespace Go.Proofs.YtkdbaijabnhniaaGreatDoor.suiteBytes
open Go.ChangeShapes Go.WideShapes Go.ChangeAt Go.RowKit Go.Ev
set_option maxRecDepth 100000

theorem fixed9 : ∀ args, SoundP Tryz.prog G0 9 args (nullP (.s (.bool true)) args) := nullP_ok kn.fixed23_ok
theorem f3_body : Tryz.f3.body.isNone = false := by kernel_rfl
theorem params : Tryz.f3.params.toList = [22, 9] := by kernel_rfl
theorem results : Tryz.f3.resultTypes = #[4] := by kernel_rfl
theorem u22 : Tryz.prog.underlying 22 = some (.slice 26) := by kernel_rfl
theorem u4 : Tryz.prog.underlying 4 = some .bool := by kernel_rfl
theorem u3 : Tryz.prog.underlying 3 = some (.int .i64) := by kernel_rfl
theorem u24 : Tryz.prog.underlying 24 = some (.int .u64) := by kernel_rfl
theorem u9 : Tryz.prog.underlying 9 = some .string := by kernel_rfl
def fieldsOf (d : Option TypeDesc) : List (Nat × Nat) := match d with
  | some (.struct fs) => fs.toList.map fun f => (f.type, f.offset)
  | _ => []
theorem u26 : fieldsOf (Tryz.prog.underlying 26) = [(3, 0), (24, 1), (9, 2)] := by kernel_rfl
theorem u26s : ∃ fs, Tryz.prog.underlying 26 = some (.struct fs) := by
  cases h : Tryz.prog.underlying 26 with
  | none => have := u26; rw [h] at this; cases this
  | some d =>
    have := u26
    rw [h] at this
    cases d <;> first | exact ⟨_, rfl⟩ | cases this
theorem cells26 : Tryz.prog.cellsOf 26 = 3 := by kernel_rfl
theorem cells3 : Tryz.prog.cellsOf 3 = 1 := by kernel_rfl
theorem cells24 : Tryz.prog.cellsOf 24 = 1 := by kernel_rfl
theorem cells9 : Tryz.prog.cellsOf 9 = 1 := by kernel_rfl
theorem b22 : (Nat.blt 22 Tryz.prog.types.size && Tryz.prog.readableRec 22) = true := by kernel_rfl
theorem b9 : (Nat.blt 9 Tryz.prog.types.size && Tryz.prog.readableRec 9) = true := by kernel_rfl
theorem books : ∀ t ∈ Tryz.f3.params.toList, t < Tryz.prog.types.size ∧ Tryz.prog.readableRec t = true := by
  rw [params]
  intro t ht
  simp only [List.mem_cons, List.not_mem_nil, or_false] at ht
  have h := b22
  have h' := b9
  simp only [Bool.and_eq_true, Nat.blt_eq] at h h'
  rcases ht with rfl | rfl
  · exact h
  · exact h'

/-! ## The tables -/

theorem laid_at {P : Program} {W : World} : ∀ {l : List (String × DataW Unit)} {ps : List MemPlace}, DataW.LaidVars P W l ps → ∀ n d, (n, d) ∈ l →
    ∃ g t cs fuel p, P.globalNamed n = some g ∧ (P.globals[g]?).map (·.type) = some t ∧ W.var? P n = some cs ∧ DataW.trod (fun _ => ()) P W 0 (fun _ => true) false fuel t cs.toList = some (d, p)
  | [], _, _, n, d, h => by cases h
  | (m, x) :: l, ps, h, n, d, hm => by
    obtain ⟨g, t, cs, fuel, p, q, h1, h2, h3, h4, h5, _⟩ := h
    rcases List.mem_cons.1 hm with e | e
    · injection e with e1 e2
      subst e1 e2
      exact ⟨g, t, cs, fuel, p, h1, h2, h3, h4⟩
    · exact laid_at h5 n d e

def memOf (W : World) (b : Nat) : Option (List Value) := match W.heap[b]? with
  | some (.cells c _ _) => some c.toList
  | _ => none

theorem tab_in {W : World} {name : String} {k : IntKind} {zs : List Int} {g t e n : Nat} {l : List (String × DataW Unit)} {ps : List MemPlace} (h : DataW.LaidVars Tryz.prog W l ps) (hm : (name, Lib.tabData k zs) ∈ l)
    (hg : Tryz.prog.globalNamed name = some g) (hty : (Tryz.prog.globals[g]?).map (·.type) = some t) (ht : Tryz.prog.underlying t = some (.array n e)) (he : Tryz.prog.underlying e = some (.int k)) (hce : Tryz.prog.cellsOf e = 1) (hct : Tryz.prog.cellsOf t = n) :
    VS (memOf W) (.pv (zs.map fun z => .int k z)) (.pointer (some ⟨g, 0, none⟩)) ∧ ∀ m, memOf W g = some m → m.length = (zs.map fun z => SV.int k z).length := by
  obtain ⟨g', t', cs, fuel, p, h1, h2, h3, h4⟩ := laid_at h _ _ hm
  obtain rfl := Option.some.inj (hg.symm.trans h1)
  obtain rfl := Option.some.inj (hty.symm.trans h2)
  have hc := Lib.cells_of_tab ht he hce hct h4
  have hM : memOf W g = some (zs.map fun z => Value.int k z) := by
    unfold World.var? at h3
    rw [hg] at h3
    simp only [Option.bind_some] at h3
    unfold memOf
    split at h3
    · rename_i c e' z hh
      injection h3 with h3
      subst h3
      rw [hh, ← hc]
    · cases h3
  refine ⟨?_, fun m hm2 => ?_⟩
  · simp only [VS]
    refine ⟨g, 0, _, rfl, hM, ?_⟩
    rw [List.drop_zero]
    clear hM hc hm h4
    induction zs with
    | nil => simp [VL]
    | cons z zs ih =>
      simp only [List.map_cons, VL, VS]
      exact ⟨_, _, rfl, rfl, rfl, ih⟩
  · rw [hM] at hm2
    injection hm2 with hm2
    rw [← hm2]
    simp

def zOf (l : List SV) : List Int := l.map intS
theorem crc_z : crcTab = (zOf crcTab).map (fun z => SV.int .u32 z) := rfl
theorem br_z : brTab = (zOf brTab).map (fun z => SV.int .u8 z) := rfl
theorem pow_z : powTab = (zOf powTab).map (fun z => SV.int .u64 z) := rfl
theorem crc_laid : (Rows.laid_clew_crc_table : DataW Unit) = Lib.tabData .u32 (zOf crcTab) := by kernel_rfl
theorem br_laid : (Rows.laid_math_bits_deBruijn64tab : DataW Unit) = Lib.tabData .u8 (zOf brTab) := by kernel_rfl
theorem pow_laid : (Rows.laid_internal_strconv_uint64pow10 : DataW Unit) = Lib.tabData .u64 (zOf powTab) := by kernel_rfl
theorem g0n : Tryz.prog.globalNamed "clew/crc.table" = some 0 := by kernel_rfl
theorem g2n : Tryz.prog.globalNamed "internal/strconv.uint64pow10" = some 2 := by kernel_rfl
theorem g5n : Tryz.prog.globalNamed "math/bits.deBruijn64tab" = some 5 := by kernel_rfl
theorem g0t : (Tryz.prog.globals[0]?).map (·.type) = some 81 := by kernel_rfl
theorem g2t : (Tryz.prog.globals[2]?).map (·.type) = some 236 := by kernel_rfl
theorem g5t : (Tryz.prog.globals[5]?).map (·.type) = some 345 := by kernel_rfl
theorem u81 : Tryz.prog.underlying 81 = some (.array 16 64) := by kernel_rfl
theorem u236 : Tryz.prog.underlying 236 = some (.array 20 24) := by kernel_rfl
theorem u345 : Tryz.prog.underlying 345 = some (.array 64 5) := by kernel_rfl
theorem u64 : Tryz.prog.underlying 64 = some (.int .u32) := by kernel_rfl
theorem u5 : Tryz.prog.underlying 5 = some (.int .u8) := by kernel_rfl
theorem cc64 : Tryz.prog.cellsOf 64 = 1 := by kernel_rfl
theorem cc5 : Tryz.prog.cellsOf 5 = 1 := by kernel_rfl
theorem cc81 : Tryz.prog.cellsOf 81 = 16 := by kernel_rfl
theorem cc236 : Tryz.prog.cellsOf 236 = 20 := by kernel_rfl
theorem cc345 : Tryz.prog.cellsOf 345 = 64 := by kernel_rfl

theorem laid_gok {W : World} (h : laidMet Tryz.prog Rows.suiteBytesRow.laid W) : GOK G0 (memOf W) := by
  obtain ⟨ps, hl, _⟩ := h
  intro g cs hg
  have hg : glob0 g = some cs := hg
  unfold glob0 at hg
  split at hg
  · injection hg with hg
    subst hg
    have := tab_in hl (k := .u32) (zs := zOf crcTab) (by rw [← crc_laid]; exact List.mem_cons_self) g0n g0t u81 u64 cc64 cc81
    rw [crc_z]
    exact this
  · injection hg with hg
    subst hg
    have := tab_in hl (k := .u64) (zs := zOf powTab) (by rw [← pow_laid]; exact List.mem_cons_of_mem _ (List.mem_cons_of_mem _ (List.mem_cons_of_mem _ List.mem_cons_self))) g2n g2t u236 u24 cells24 cc236
    rw [pow_z]
    exact this
  · injection hg with hg
    subst hg
    have := tab_in hl (k := .u8) (zs := zOf brTab) (by rw [← br_laid]; exact List.mem_cons_of_mem _ (List.mem_cons_of_mem _ List.mem_cons_self)) g5n g5t u345 u5 cc5 cc345
    rw [br_z]
    exact this
  · cases hg

theorem mem_fok (W : World) : FOK (memOf W) W := fun b m h => by
  unfold memOf at h
  split at h
  · rename_i c e z hc
    injection h with h
    exact ⟨c, e, z, hc, h⟩
  · cases h

/-! ## The argument -/

def strV : Value → List UInt8
  | .string s => s.data.toList
  | _ => []

theorem act_cells {H : Type} {enc : TypeId × Value → H} {W : World} {base : Nat} {sp : Nat → Bool} {held : Bool} {fuel : Nat} {c : List Value} {y : DataW H × List MemPlace} (h : DataW.trod enc Tryz.prog W base sp held fuel 26 c = some y) :
    ∃ (k n : Int) (s : ByteArray), c = [.int .i64 k, .int .u64 n, .string s] ∧ 0 ≤ n := by
  obtain ⟨fs, hfs⟩ := u26s
  obtain ⟨xs, n, _, _, hl, hlen, hf⟩ := DataW.trod_struct hfs h
  have hfl := u26
  rw [hfs] at hfl
  simp only [fieldsOf] at hfl
  rw [cells26] at hl
  have get : ∀ (i t o : Nat), ([(3, 0), (24, 1), (9, 2)] : List (Nat × Nat))[i]? = some (t, o) → ∃ f : Field, fs[i]? = some f ∧ f.type = t ∧ f.offset = o := fun i t o hi => by
    rw [← hfl, List.getElem?_map, Option.map_eq_some_iff] at hi
    obtain ⟨f, hf1, hf2⟩ := hi
    injection hf2 with e1 e2
    exact ⟨f, by simpa using hf1, e1, e2⟩
  have hsz : xs.length = 3 := by
    have := congrArg List.length hfl
    simp at this
    omega
  obtain ⟨f0, a0, b0, c0⟩ := get 0 3 0 rfl
  obtain ⟨f1, a1, b1, c1⟩ := get 1 24 1 rfl
  obtain ⟨f2, a2, b2, c2⟩ := get 2 9 2 rfl
  have h0 := hf 0 f0 a0
  have h1 := hf 1 f1 a1
  have h2 := hf 2 f2 a2
  rw [b0, c0, cells3] at h0
  rw [b1, c1, cells24] at h1
  rw [b2, c2, cells9] at h2
  match c, hl with
  | [x0, x1, x2], _ =>
    obtain ⟨y0, hy0⟩ : ∃ y, xs[0]? = some y := ⟨xs[0], List.getElem?_eq_getElem (by omega)⟩
    obtain ⟨y1, hy1⟩ : ∃ y, xs[1]? = some y := ⟨xs[1], List.getElem?_eq_getElem (by omega)⟩
    obtain ⟨y2, hy2⟩ : ∃ y, xs[2]? = some y := ⟨xs[2], List.getElem?_eq_getElem (by omega)⟩
    rw [hy0] at h0
    rw [hy1] at h1
    rw [hy2] at h2
    obtain ⟨k, e0, _, _⟩ := DataW.trod_int u3 h0
    obtain ⟨n', e1, _, w1⟩ := DataW.trod_int u24 h1
    obtain ⟨s, e2, _, _⟩ := DataW.trod_string u9 h2
    simp only [List.drop_zero, List.take_succ_cons, List.take_zero, List.drop_succ_cons, List.cons.injEq, and_true] at e0 e1 e2
    subst e0 e1 e2
    refine ⟨k, n', s, rfl, ?_⟩
    simp only [Lit.wf, decide_eq_true_eq, Bool.and_eq_true] at w1
    exact w1.1

theorem open_acts {H : Type} {enc : TypeId × Value → H} {W : World} {base b0 : Nat} {sp : Nat → Bool} {held : Bool} {v : Value} {d : DataW H} {ps : List MemPlace} (hv : Value.okWide Tryz.prog W .any b0 22 v) (h : DataW.Trod enc Tryz.prog W base sp held 22 v d ps) :
    v = .slice none 0 0 ∨ ∃ (n : Nat) (ki ni : Nat → Int) (si : Nat → List UInt8), (∀ j, j < n → 0 ≤ ni j) ∧ VA (envP (memOf W) fun _ => none) (inpV n ki ni si) v := by
  obtain ⟨a, len, cap, rfl⟩ := okWide_slice u22 hv
  obtain ⟨fuel, hf⟩ := h
  rcases DataW.trod_slice u22 hf with ⟨h0, _⟩ | ⟨a', len', cap', elems, rest, n, _, hcs, _, _, hle, _, hlen, hel, _, _⟩
  · simp only [Value.cells] at h0
    simp only [List.cons.injEq, and_true] at h0
    exact .inl h0
  · right
    simp only [Value.cells] at hcs
    simp only [List.cons.injEq, and_true, Value.slice.injEq] at hcs
    obtain ⟨rfl, rfl, rfl⟩ := hcs
    have hh : W.has Tryz.prog .any b0 a' 26 cap := by
      simp only [Value.okWide, u22, Cell.okWide, Cell.ok] at hv
      exact hv.2.2
    obtain ⟨_, hspot, row, cells, hshape, _⟩ := hh
    obtain ⟨blk, off, spot⟩ := a'
    simp only at hspot hshape
    subst hspot
    have hblk : ∃ c e z, W.heap[blk]? = some (.cells c e z) := by
      unfold World.shape? at hshape
      split at hshape
      · exact ⟨_, _, _, by assumption⟩
      · cases hshape
    obtain ⟨c, e, z, hc⟩ := hblk
    have each : ∀ i, i < len → ∃ (k m : Int) (s : ByteArray), c[off + i * 3]? = some (.int .i64 k) ∧ c[off + i * 3 + 1]? = some (.int .u64 m) ∧ c[off + i * 3 + 2]? = some (.string s) ∧ 0 ≤ m := fun i hi => by
      have h1 := hel i hi
      rw [cells26] at h1
      rw [List.getElem?_eq_getElem (by omega)] at h1
      obtain ⟨cs, hcs, hy⟩ := Option.bind_eq_some_iff.1 h1
      obtain ⟨k, m, s, rfl, hm⟩ := act_cells hy
      obtain ⟨_, _, hg⟩ := World.cells?_some hcs
      have at_ : ∀ j, j < 3 → c[off + i * 3 + j]? = ([Value.int .i64 k, .int .u64 m, .string s] : List Value)[j]? := fun j hj => by
        have := hg j hj
        rw [Addr.add_lit, Addr.add_lit] at this
        simp only [World.cell?] at this
        rw [hc] at this
        simpa [Nat.add_assoc] using this
      exact ⟨k, m, s, at_ 0 (by omega), at_ 1 (by omega), at_ 2 (by omega), hm⟩
    refine ⟨len, fun i => Ev.intOf (c.toList.getD (off + i * 3) undef), fun i => Ev.intOf (c.toList.getD (off + i * 3 + 1) undef), fun i => strV (c.toList.getD (off + i * 3 + 2) undef), fun j hj => ?_, ?_⟩
    · obtain ⟨k, m, s, _, h2, _, hm⟩ := each j hj
      have : c.toList.getD (off + j * 3 + 1) undef = .int .u64 m := by rw [List.getD_eq_getElem?_getD, Array.getElem?_toList, h2]; rfl
      show 0 ≤ Ev.intOf (c.toList.getD (off + j * 3 + 1) undef)
      rw [this]
      exact hm
    · unfold inpV
      simp only [VA, VS]
      refine ⟨blk, off, cap, c.toList, rfl, hle, ?_, fun i hi => ⟨rfl, ?_⟩⟩
      · show memOf W blk = some c.toList
        unfold memOf
        rw [hc]
      · obtain ⟨k, m, s, h1, h2, h3, _⟩ := each i hi
        have e1 : c.toList.getD (off + i * 3) undef = .int .i64 k := by rw [List.getD_eq_getElem?_getD, Array.getElem?_toList, h1]; rfl
        have e2 : c.toList.getD (off + i * 3 + 1) undef = .int .u64 m := by rw [List.getD_eq_getElem?_getD, Array.getElem?_toList, h2]; rfl
        have e3 : c.toList.getD (off + i * 3 + 2) undef = .string s := by rw [List.getD_eq_getElem?_getD, Array.getElem?_toList, h3]; rfl
        have dr : ∀ (j : Nat) (x : Value), c[j]? = some x → c.toList.drop j = x :: c.toList.drop (j + 1) := fun j x hx => by
          rw [← Array.getElem?_toList] at hx
          obtain ⟨hlt, hx⟩ := List.getElem?_eq_some_iff.1 hx
          rw [List.drop_eq_getElem_cons hlt, hx]
        show VL _ [.int .i64 (Ev.intOf (c.toList.getD (off + i * 3) undef)), .int .u64 (Ev.intOf (c.toList.getD (off + i * 3 + 1) undef)), .str (strV (c.toList.getD (off + i * 3 + 2) undef))] _
        rw [e1, e2, e3]
        simp only [VL, VS, SV.isCell]
        refine ⟨_, _, dr _ _ h1, trivial, rfl, _, _, dr _ _ h2, trivial, rfl, _, _, dr _ _ h3, trivial, ?_, trivial⟩
        simp [strV]

theorem noHandles : (Rows.suiteBytesRow.laid.filter fun x => x.2.handleName?.isSome) = [] := by kernel_rfl

theorem pf1 : laidOutB Tryz.prog = true := by kernel_rfl

/-- WHAT THE RUN GIVES, FOR EVERY ARGUMENT AND EVERY WORLD. -/
theorem contract (H : Type) (enc : TypeId × Value → H) (W : World) (base : Nat) (args : Array Value) (ds gs : List (DataW H)) (before : List MemPlace)
    (hval : ∀ (j : Nat) t v, Tryz.f3.params[j]? = some t → args[j]? = some v → Value.okWide Tryz.prog W .any base t v)
    (hW : DataW.Whole enc Tryz.prog Tryz.f3.params.toList Rows.suiteBytesSpec.vars false W args.toList ds gs before) (hL : laidMetH Tryz.prog Rows.suiteBytesRow.laid W) :
    Calls Tryz.prog 3 args W fun e W' => ∃ v, e = .returned v ∧ Rows.suiteBytesSpec.post enc Tryz.prog Tryz.f3 false true false false W args v W' := by
  have hL : laidMet Tryz.prog Rows.suiteBytesRow.laid W := by
    unfold laidMetH at hL
    rw [noHandles] at hL
    exact hL
  have hW' := hW
  obtain ⟨p, q, hA, hV, rfl, hfz, hnd⟩ := hW
  have hp : Tryz.f3.params = [22, 9].toArray := by rw [← params]
  rw [params] at hA
  rw [hp] at hval
  obtain ⟨v0, vs0, d0, ds0, p0, q0, e0, rfl, rfl, h0, r0⟩ := trodAll_cons hA
  obtain ⟨v1, vs1, d1, ds1, p1, q1, rfl, rfl, rfl, h1, r1⟩ := trodAll_cons r0
  obtain ⟨rfl, rfl, rfl⟩ := trodAll_nil r1
  obtain rfl : args = [v0, v1].toArray := by rw [← e0]
  obtain ⟨s, rfl, _⟩ := Go.ChangeMaps.open_string u9 (hval 1 9 v1 rfl rfl) h1
  have hs : VA (envP (memOf W) fun _ => none) (.s (.str s.data.toList)) (.string s) := by simp [VA, VS]
  have run : Calls Tryz.prog 3 [v0, .string s].toArray W (endP (memOf W) W (.v (.s (.bool true)) .none)) := by
    rcases open_acts (hval 0 22 v0 rfl rfl) h0 with rfl | ⟨n, ki, ni, si, hn, hva⟩
    · exact (soundN fixed9 s.data.toList _ rfl (memOf W) W [.slice none 0 0, .string s] (laid_gok hL) (mem_fok W) (by simp only [VAs]; exact ⟨_, _, rfl, by simp only [VA, VS], _, _, rfl, hs, rfl⟩)).calls Tryz.func3 (name_ok Tryz.func3) f3_body
    · exact (soundV fixed9 n ki ni si s.data.toList hn _ rfl (memOf W) W [v0, .string s] (laid_gok hL) (mem_fok W) (by simp only [VAs]; exact ⟨_, _, rfl, hva, _, _, rfl, hs, rfl⟩)).calls Tryz.func3 (name_ok Tryz.func3) f3_body
  refine run.mono fun e W' he => ?_
  obtain ⟨M', O', y, hk, rfl, hy⟩ := he
  simp only [VA, VS] at hy
  subst hy
  obtain ⟨rfl, _⟩ := trodVars_none hV
  exact ⟨_, rfl, law_post hW' rfl rfl results u4 hk.kept pf1 books⟩

end Go.Proofs.YtkdbaijabnhniaaGreatDoor.suiteBytes
