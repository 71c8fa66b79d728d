/- Maps: a new one, a look into one, a new entry. -/
import Derived.Test.YtkdbaijabnhniaaGreatDoorEvL
namespace Go.Ev
section
variable {P : Program} {G : Gl} {E : Env} {st : St} {a : Act} {w : World} {T : Tab}

theorem getObj_map {b : Nat} {c : Array MapEntry} {k : Nat} (h : w.heap[b]? = some (.map c k)) : (getObj b).run P w = .ok (.map c k) w := by
  simp [getObj, Sem.run, h]

theorem setObj_map {b : Nat} {c : Array MapEntry} {k : Nat} {o : Obj} (h : w.heap[b]? = some (.map c k)) : (setObj b o).run P w = .ok () { w with heap := w.heap.setIfInBounds b o } := by
  simp [setObj, Sem.run, h]

theorem makeMap_ok (R : Rel G E st a w) {t : TypeId} {id : Nat} (hid : id < st.nx) :
    MOk P G E st a w (Instr.makeMap t none) (.hm id (newGen st.h id)) (.obj id ⟨newGen st.h id, .map [], none⟩) := by
  have := R.newObj id ⟨newGen st.h id, .map [], none⟩ (.map #[] 0) 0 0 rfl hid (fun le => by
    simp only [ObjR]
    refine ⟨Env.withObj_I .., by simp [Env.bas, Env.withObj_P], #[], 0, ?_, rfl⟩
    simp only [Env.blk, Env.withObj_P]
    exact push_new w _) (fun t q => by cases q)
  refine ⟨_, .map (some w.heap.size), _, ?_, ?_, this⟩
  · unfold Instr.makeMap
    simp only [Sem.run_bind, Result.andThen_ok, Sem.run_pure, run_newObj]
  · simp only [VA]
    refine ⟨⟨_, rfl⟩, _, _, Env.withObj_I .., Nat.le_refl _, fun _ => ?_⟩
    simp [Env.blk, Env.withObj_P]

theorem checkKey_ok (hT : TabOK P T) (emp : Bool) : ∀ (d D : Nat) (t : TypeId) (x : AV) (X : Value), keyOk T d t x = true → VA E x X → d ≤ D → (Instr.checkKey emp D t X).run P w = .ok () w
  | 0, _, _, _, _, h, _, _ => by simp [keyOk] at h
  | d + 1, 0, _, _, _, _, _, hd => by omega
  | d + 1, D + 1, t, x, X, h, hx, hd => by
    simp only [keyOk] at h
    split at h
    · cases h
    · rename_i i hi
      have ht := hT t i hi
      have hu := ht.run_und (w := w)
      split at h
      · rename_i hdsc
        rw [hdsc] at hu
        simp [Instr.checkKey, hu]
      · rename_i hdsc
        rw [hdsc] at hu
        simp [Instr.checkKey, hu]
      · rename_i hdsc
        rw [hdsc] at hu
        simp [Instr.checkKey, hu]
      · rename_i fs xs hdsc
        simp only [VA] at hx
        obtain ⟨xs', rfl, hx⟩ := hx
        rw [hdsc] at hu
        simp only [Instr.checkKey, Sem.run_bind, hu, Result.andThen_ok]
        rw [← Array.forIn_toList]
        revert h
        generalize fs.toList = l
        intro h
        induction l with
        | nil => simp
        | cons f l ih =>
          simp only [keyFields] at h
          split at h
          · rename_i fi hfi
            split at h
            · rename_i c hc
              cases hn : (f.name == "_")
              · rw [hn, cond_false, Bool.and_eq_true] at h
                have hfn : f.name ≠ "_" := by simpa using hn
                obtain ⟨u1, h1⟩ := partE_val hc
                obtain ⟨_, A, hA, hvA⟩ := part_ok (P := P) (w := w) (hT _ _ hfi) (ys := xs'.toArray) h1 (by simpa using hx)
                have he := checkKey_ok hT emp d D f.type c A h.1 hvA (by omega)
                have hr := ih h.2
                simp only [List.forIn_cons, Sem.run_bind, ne_eq, hfn, not_false_eq_true, if_true, hA, Result.andThen_ok, he, Sem.run_pure]
                exact hr
              · simp [hn] at h
            · cases h
          · cases h
      · rename_i n e xs hdsc
        split at h
        · rename_i ei hei
          simp only [VA] at hx
          obtain ⟨xs', rfl, hx⟩ := hx
          rw [hdsc] at hu
          have hs := (hT e ei hei).run_size (w := w)
          simp only [Instr.checkKey, Sem.run_bind, hu, Result.andThen_ok]
          rw [Std.Legacy.Range.forIn_eq_forIn_range']
          have hr : List.range' [:n].start [:n].size [:n].step = List.range' 0 n := by simp [Std.Legacy.Range.size]
          rw [hr]
          clear hr hdsc hu
          generalize 0 = k at h
          induction n generalizing k with
          | zero => simp
          | succ n ih =>
            simp only [keyElems] at h
            split at h
            · rename_i c hc
              rw [Bool.and_eq_true] at h
              obtain ⟨u1, h1⟩ := partE_val hc
              obtain ⟨_, A, hA, hvA⟩ := part_ok (P := P) (w := w) (hT _ _ hei) (ys := xs'.toArray) h1 (by simpa using hx)
              have he := checkKey_ok hT emp d D e c A h.1 hvA (by omega)
              have hr := ih (k + 1) h.2
              simp only [List.range'_succ, List.forIn_cons, Sem.run_bind, hs, Result.andThen_ok, hA, he, Sem.run_pure]
              exact hr
            · cases h
        · cases h
      · cases h

theorem run_und' {t : TypeId} {d : TypeDesc} (h : P.underlying t = some d) : (underlying t).run P w = .ok d w := run_underlying h w

theorem sameNow_eq {kind : TypeDesc} {t : TypeId} {K Y : Value} {b : Bool} (hu : P.underlying t = some kind) (h : Instr.sameNow kind K Y = some b) :
    (Op.equalIn 10000 t K Y).run P w = .ok b w := by
  unfold Instr.sameNow at h
  split at h
  · split at h
    · rename_i hk
      subst hk
      injection h with h; subst h
      exact run_equalIn_int w 9999 t _ _ _ _ hu
    · cases h
  · injection h with h; subst h
    have hu' := run_und' (w := w) hu
    have hD : ∀ D (x y : ByteArray), (Op.equalIn (D + 1) t (.string x) (.string y)).run P w = .ok (x == y) w := fun D x y => by
      simp only [Op.equalIn, Sem.run_bind, hu', Result.andThen_ok, Sem.run_pure]
    exact hD 9999 _ _
  · injection h with h; subst h
    exact run_equalIn_bool' w 9999 t _ _ hu
  · cases h

/-- what a look for a key comes to -/
def Found (E : Env) (hit : Nat → SV → SV → ER) (miss : ER) (n : Nat) (c : List MapEntry) (l : Leaf) (r : Option (Nat × Value)) : Prop :=
  (∃ a v e j, r = some (n + j, e.val) ∧ c[j]? = some e ∧ VS E.M a e.key ∧ VS E.M v e.val ∧ (hit (n + j) a v).val = some l) ∨ (r = none ∧ miss.val = some l)

theorem Found.tail {E : Env} {hit : Nat → SV → SV → ER} {miss : ER} {n : Nat} {e : MapEntry} {c : List MapEntry} {l : Leaf} {r : Option (Nat × Value)} (h : Found E hit miss (n + 1) c l r) : Found E hit miss n (e :: c) l r := by
  rcases h with ⟨a, v, e', j, h1, h2, h3, h4, h5⟩ | h
  · have q : n + 1 + j = n + (j + 1) := by omega
    rw [q] at h1 h5
    exact .inl ⟨a, v, e', j + 1, h1, by simpa using h2, h3, h4, h5⟩
  · exact .inr h

theorem findNow_ok (w : World) (hT : TabOK P T) {t : TypeId} {kind : TypeDesc} (hu : P.underlying t = some kind) {k : AV} {K : Value} (hk : VA E k K) {hit : Nat → SV → SV → ER} {miss : ER} {l : Leaf} :
    ∀ (es : List (SV × SV)) (c : List MapEntry) (n : Nat), MR E.M es c → (findR T t k hit miss n es).val = some l →
      Instr.findNow kind K c n = none ∨ ∃ r, Instr.findNow kind K c n = some r ∧ Found E hit miss n c l r
  | [], c, n, hr, h => by
    simp only [MR] at hr
    subst hr
    exact .inr ⟨none, rfl, .inr ⟨rfl, h⟩⟩
  | (ak, v) :: es, c, n, hr, h => by
    obtain ⟨e, r, rfl, h1, h2, h3⟩ := hr
    simp only [findR] at h
    split at h
    · rename_i b hb
      simp only [Instr.findNow]
      cases hs : Instr.sameNow kind K e.key with
      | none => exact .inl rfl
      | some b' =>
        have e1 := sameNow_eq (w := w) hu hs
        have e2 := eqE_ok (w := w) hT 8 10000 t _ _ _ _ _ hb hk (ofPay_ok h1) (by omega)
        rw [e1] at e2
        injection e2 with e2 _
        subst e2
        simp only [ER.val] at h
        cases b'
        · simp only [cond_false] at h
          exact (findNow_ok w hT hu hk es r (n + 1) h3 h).imp id fun ⟨q, q1, q2⟩ => ⟨q, q1, q2.tail⟩
        · simp only [cond_true] at h
          exact .inr ⟨some (n, e.val), rfl, .inl ⟨ak, v, e, 0, rfl, rfl, h1, h2, h⟩⟩
    · simp [ER.val] at h

theorem findAsking_ok (hT : TabOK P T) {t : TypeId} {k : AV} {K : Value} (hk : VA E k K) {hit : Nat → SV → SV → ER} {miss : ER} {l : Leaf} :
    ∀ (es : List (SV × SV)) (c : List MapEntry) (n : Nat), MR E.M es c → (findR T t k hit miss n es).val = some l →
      ∃ r, (Instr.findAsking t K c n).run P w = .ok r w ∧ Found E hit miss n c l r
  | [], c, n, hr, h => by
    simp only [MR] at hr
    subst hr
    exact ⟨none, rfl, .inr ⟨rfl, h⟩⟩
  | (ak, v) :: es, c, n, hr, h => by
    obtain ⟨e, r, rfl, h1, h2, h3⟩ := hr
    simp only [findR] at h
    split at h
    · rename_i b hb
      have e2 := eqE_ok (w := w) hT 8 10000 t _ _ _ _ _ hb hk (ofPay_ok h1) (by omega)
      have e3 : (Op.equal t K e.key).run P w = .ok b w := e2
      simp only [ER.val] at h
      cases b
      · simp only [cond_false] at h
        obtain ⟨q, h4, h5⟩ := findAsking_ok hT hk es r (n + 1) h3 h
        exact ⟨q, by simp only [Instr.findAsking, Sem.run_bind, e3, Result.andThen_ok, Bool.false_eq_true, if_false, h4], h5.tail⟩
      · simp only [cond_true] at h
        exact ⟨some (n, e.val), by simp only [Instr.findAsking, Sem.run_bind, e3, Result.andThen_ok, if_true, Sem.run_pure], .inl ⟨ak, v, e, 0, rfl, rfl, h1, h2, h⟩⟩
    · simp [ER.val] at h

theorem findKey_ok (hT : TabOK P T) {t : TypeId} {i : TI} (ht : T t = some i) {k : AV} {K : Value} (hk : VA E k K) {hit : Nat → SV → SV → ER} {miss : ER} {l : Leaf}
    {es : List (SV × SV)} {c : List MapEntry} (hr : MR E.M es c) (h : (findR T t k hit miss 0 es).val = some l) :
    ∃ r, (Instr.findKey t K c).run P w = .ok r w ∧ Found E hit miss 0 c l r := by
  have hu := (hT t i ht)
  rcases findNow_ok w hT hu.und hk es c 0 hr h with q | ⟨r, q, f⟩
  · obtain ⟨r, h1, h2⟩ := findAsking_ok (w := w) hT hk es c 0 hr h
    exact ⟨r, by simp only [Instr.findKey, Sem.run_bind, hu.run_und, Result.andThen_ok, q, h1], h2⟩
  · exact ⟨r, by simp only [Instr.findKey, Sem.run_bind, hu.run_und, Result.andThen_ok, q, Sem.run_pure], f⟩

theorem keyOk_tab {d : Nat} {t : TypeId} {x : AV} (h : keyOk T d t x = true) : ∃ i, T t = some i := by
  cases d with
  | zero => simp [keyOk] at h
  | succ d =>
    simp only [keyOk] at h
    split at h
    · cases h
    · exact ⟨_, by assumption⟩

theorem lkRes_ok {ok b : Bool} {v : AV} {V : Value} (h : VA E v V) : VA E (lkRes ok v b) (if ok then .tuple #[V, .bool b] else V) := by
  cases ok
  · exact h
  · simp only [lkRes, cond_true, if_true, VA, VAs]
    exact ⟨_, rfl, _, _, rfl, h, _, _, rfl, by simp [VS], rfl⟩

theorem opLookup_ok (R : Rel G E st a w) (hT : TabOK P T) {t : TypeId} {x k r : AV} {u : Upd} {ok : Bool} {X K : Value} (h : (opLookup T st.h t x k ok).val = some (.v r u)) (hx : VA E x X) (hk : VA E k K) :
    VOk P E w (Instr.lookup t X K ok) r u := by
  unfold opLookup at h
  split at h
  · rename_i kt e _ _ _ _ htt
    have hu := (hT _ _ htt).run_und (w := w)
    split at h
    · rename_i te hte
      obtain ⟨z, hz, hzv⟩ := zeroV_ok (w := w) (E := E) (hT _ _ hte)
      cases hko : keyOk T 8 kt k
      · simp [hko, ER.val] at h
      · rw [hko, cond_true] at h
        obtain ⟨ki, hki⟩ := keyOk_tab hko
        split at h
        · rw [ER.val_pv, Leaf.v.injEq] at h
          obtain ⟨rfl, rfl⟩ := h
          simp only [VA, VS] at hx
          subst hx
          refine ⟨rfl, _, ?_, lkRes_ok hzv⟩
          have hck := checkKey_ok (w := w) hT true 8 10000 kt k K hko hk (by omega)
          obtain ⟨q, h1, h2⟩ := findKey_ok (w := w) (E := E) (es := []) (c := []) (hit := fun _ _ _ => .fail) (miss := pv .undef) hT hki hk rfl rfl
          rcases h2 with ⟨_, _, _, _, _, _, _, _, h3⟩ | ⟨rfl, _⟩
          · simp [ER.val] at h3
          · unfold Instr.lookup
            simp only [Sem.run_bind, hu, Result.andThen_ok, Sem.run_pure]
            have : (#[] : Array MapEntry).isEmpty = true := rfl
            simp only [this, hck, Result.andThen_ok, h1]
            cases ok <;> simp [Sem.run_bind, hz, Result.andThen_ok, Sem.run_pure]
        · rename_i id g
          split at h
          · rename_i g' es ty' ho
            cases hg : Nat.beq g g'
            · simp [hg, ER.val] at h
            · rw [hg, cond_true] at h
              have hg := Nat.eq_of_beq_eq_true hg
              subst hg
              have hr := R.heap.obj id _ ho
              simp only [ObjR] at hr
              obtain ⟨hI, _, c, cl, hh, hm⟩ := hr
              simp only [VA] at hx
              obtain ⟨_, g1, n1, q, _, hx⟩ := hx
              rw [hI] at q; injection q with q; injection q with q1 q2
              have hx := hx q1
              subst hx
              have hck := checkKey_ok (w := w) hT c.isEmpty 8 10000 kt k K hko hk (by omega)
              obtain ⟨q, h1, h2⟩ := findKey_ok (w := w) hT hki hk hm h
              rcases h2 with ⟨_, v, V, j, rfl, _, _, h3, h4⟩ | ⟨rfl, h4⟩
              · rw [ER.val_pv, Leaf.v.injEq] at h4
                obtain ⟨rfl, rfl⟩ := h4
                refine ⟨rfl, _, ?_, lkRes_ok (ofPay_ok h3)⟩
                unfold Instr.lookup
                simp only [Sem.run_bind, hu, Result.andThen_ok, Sem.run_pure, getObj_map hh, hck, h1]
              · rw [ER.val_pv, Leaf.v.injEq] at h4
                obtain ⟨rfl, rfl⟩ := h4
                refine ⟨rfl, _, ?_, lkRes_ok hzv⟩
                unfold Instr.lookup
                simp only [Sem.run_bind, hu, Result.andThen_ok, Sem.run_pure, getObj_map hh, hck, h1]
                cases ok <;> simp [Sem.run_bind, hz, Result.andThen_ok, Sem.run_pure]
          · simp [ER.val] at h
        · simp [ER.val] at h
    · simp [ER.val] at h
  · simp [ER.val] at h

theorem MR.push {M : Nat → Option (List Value)} {k v : SV} {e : MapEntry} (hk : VS M k e.key) (hv : VS M v e.val) : ∀ {es : List (SV × SV)} {l : List MapEntry}, MR M es l → MR M (es ++ [(k, v)]) (l ++ [e])
  | [], l, h => by
    simp only [MR] at h
    subst h
    exact ⟨e, [], rfl, hk, hv, rfl⟩
  | (k', v') :: es, l, h => by
    obtain ⟨e', r, rfl, h1, h2, h3⟩ := h
    exact ⟨e', r ++ [e], rfl, h1, h2, h3.push hk hv⟩

theorem MR.set {M : Nat → Option (List Value)} {k v : SV} {K V : Value} (hk : VS M k K) (hv : VS M v V) : ∀ {es : List (SV × SV)} {l : List MapEntry} (_ : MR M es l) (j : Nat), MR M (setEs k v j es) (l.modify j fun e => { e with key := K, val := V })
  | [], l, h, j => by
    simp only [MR] at h
    subst h
    cases j <;> rfl
  | (k', v') :: es, l, h, 0 => by
    obtain ⟨e', r, rfl, h1, h2, h3⟩ := h
    exact ⟨_, r, rfl, hk, hv, h3⟩
  | (k', v') :: es, l, h, j + 1 => by
    obtain ⟨e', r, rfl, h1, h2, h3⟩ := h
    exact ⟨e', _, by rw [List.modify_succ_cons], h1, h2, h3.set hk hv j⟩

theorem bytes_self (x : ByteArray) : (x == x) = true := by
  obtain ⟨x⟩ := x
  show (x == x) = true
  simp

theorem bits1_ok {M : Nat → Option (List Value)} {a b : SV} {x y : Value} (h : bits1 a b = true) (hx : VS M a x) (hy : VS M b y) (n : Nat) : Instr.sameBits n x y = true := by
  unfold bits1 at h
  split at h
  · simp only [VS] at hx hy
    subst hx hy
    simpa [Instr.sameBits] using h
  · simp only [VS] at hx hy
    subst hx hy
    simp only [Bool.and_eq_true, decide_eq_true_eq] at h
    simp [Instr.sameBits, h.1, h.2]
  · simp only [VS] at hx hy
    subst hx hy
    rw [beq_iff_eq] at h
    subst h
    simp only [Instr.sameBits]
    exact bytes_self _
  · cases h

theorem bitsL_ok {M : Nat → Option (List Value)} (n : Nat) : ∀ {as bs : List SV} {xs ys : List Value}, bitsL as bs = true → VL M as xs → VL M bs ys → xs.length = as.length → ys.length = bs.length → xs.length = ys.length ∧ (xs.zip ys).all (fun (x, y) => Instr.sameBits n x y) = true
  | [], [], xs, ys, _, _, _, h1, h2 => by
    have := List.length_eq_zero_iff.1 h1
    have := List.length_eq_zero_iff.1 h2
    subst_vars
    exact ⟨rfl, rfl⟩
  | a :: as, b :: bs, xs, ys, h, hx, hy, h1, h2 => by
    simp only [VL] at hx hy
    obtain ⟨x, r, rfl, _, hx1, hx2⟩ := hx
    obtain ⟨y, r', rfl, _, hy1, hy2⟩ := hy
    simp only [bitsL, Bool.and_eq_true] at h
    simp only [List.length_cons, Nat.add_right_cancel_iff] at h1 h2
    obtain ⟨k1, k2⟩ := bitsL_ok n h.2 hx2 hy2 h1 h2
    refine ⟨by simp [k1], ?_⟩
    simp only [List.zip_cons_cons, List.all_cons, Bool.and_eq_true]
    exact ⟨bits1_ok h.1 hx1 hy1 n, k2⟩
  | [], _ :: _, _, _, h, _, _, _, _ => by simp [bitsL] at h
  | _ :: _, [], _, _, h, _, _, _, _ => by simp [bitsL] at h

theorem bitsE_ok {M : Nat → Option (List Value)} {a b : SV} {x y : Value} (h : bitsE a b = true) (hx : VS M a x) (hy : VS M b y) : Instr.sameBits 10000 x y = true := by
  unfold bitsE at h
  split at h
  · simp only [VS] at hx hy
    obtain ⟨xs, rfl, h1, h2⟩ := hx
    obtain ⟨ys, rfl, h3, h4⟩ := hy
    obtain ⟨k1, k2⟩ := bitsL_ok 9999 h h2 h4 h1 h3
    show Instr.sameBits (9999 + 1) _ _ = true
    simp only [Instr.sameBits, Bool.and_eq_true]
    exact ⟨by simpa using k1, by simpa using k2⟩
  · exact bits1_ok h hx hy 10000

/-- an operation that gives nothing but a new state -/
def UOk (P : Program) (G : Gl) (E : Env) (st : St) (a : Act) (w : World) (s : Sem Unit) (r : AV) (u : Upd) : Prop :=
  r = .undef ∧ ∃ F v, s.run P w = .ok () v ∧ Rel G F (st.app u) a v ∧ Evo E w F v

theorem opMapUpd_ok (R : Rel G E st a w) (hT : TabOK P T) {t : TypeId} {x k v r : AV} {u : Upd} {X K V : Value} (h : (opMapUpd T st.h t x k v).val = some (.v r u)) (hx : VA E x X) (hk : VA E k K) (hv : VA E v V) :
    UOk P G E st a w (Instr.mapUpdate t X K V) r u := by
  unfold opMapUpd at h
  split at h
  · rename_i kt _ _ _ _ _ id g htt
    have hu := (hT _ _ htt).run_und (w := w)
    split at h
    · rename_i g' es ty' ho
      cases hc : (Nat.beq g g' && keyOk T 8 kt k && k.cells.all AV.flat && v.cells.all AV.flat)
      · rw [hc, cond_false] at h; simp [ER.val] at h
      · rw [hc, cond_true] at h
        simp only [Bool.and_eq_true] at hc
        obtain ⟨⟨⟨hg, hko⟩, hkf⟩, hvf⟩ := hc
        obtain ⟨ki, hki⟩ := keyOk_tab hko
        have hg := Nat.eq_of_beq_eq_true hg
        subst hg
        have hr := R.heap.obj id _ ho
        simp only [ObjR] at hr
        obtain ⟨hI, hb, c, cl, hh, hm⟩ := hr
        have hlt : E.blk id < w.heap.size := R.lt _ (.inr ⟨id, by simp [hI], rfl⟩)
        simp only [VA] at hx
        obtain ⟨_, g1, n1, q, _, hx⟩ := hx
        rw [hI] at q; injection q with q; injection q with q1 q2
        have hx := hx q1
        subst hx
        split at h
        · rename_i k' v' hk' hv'
          have hck := checkKey_ok (w := w) hT false 8 10000 kt k K hko hk (by omega)
          obtain ⟨q, h1, h2⟩ := findKey_ok (w := w) hT hki hk hm h
          rcases h2 with ⟨a0, v0, e0, j, rfl, hj, ha, _, h4⟩ | ⟨rfl, h4⟩
          · dsimp only at h4
            cases hbt : bitsE a0 k'
            · rw [hbt] at h4; simp [ER.val] at h4
            · rw [hbt, cond_true] at h4
              simp only [ER.val, Option.some.injEq, Leaf.v.injEq, Nat.zero_add] at h4
              obtain ⟨rfl, rfl⟩ := h4
              have hstay : (Instr.keyThatStays e0.key K).run P w = .ok K w := by
                unfold Instr.keyThatStays
                rw [bitsE_ok hbt ha (toPay_ok hk' hkf hk)]
                simp
              refine ⟨rfl, E, { w with heap := w.heap.setIfInBounds (E.blk id) (.map (c.modify j fun e => { e with key := K, val := V }) cl) }, ?_, ?_⟩
              · unfold Instr.mapUpdate
                have hc0 : c[j]? = some e0 := by rw [← hj]; simp
                simp only [Sem.run_bind, hu, Result.andThen_ok, getObj_map hh, hck, h1, Nat.zero_add, hc0, Option.map_some, Option.getD_some, hstay, setObj_map hh]
              · refine R.obj (F := E) id _ 0 rfl rfl rfl (fun _ _ => rfl) (fun _ _ => rfl) hI (fun g2 m2 hgm => ?_) (.inl ⟨by simp [hI], rfl⟩) (by simp) (fun k _ hk => ?_) (fun le => ?_) (hid_of R ho) rfl rfl rfl ((R.heap.ty id _ ho).odd rfl hh (fun _ _ _ q => by cases q))
                · rw [hI] at hgm; injection hgm with hgm; injection hgm with h3 h4
                  exact ⟨by simp; omega, fun _ => ⟨h4.symm, rfl⟩⟩
                · simp only [Array.getElem?_setIfInBounds]
                  rw [if_neg (fun e => hk (by simp [hI]) e.symm)]
                · simp only [ObjR]
                  refine ⟨hI, hb, _, _, by simp [Array.getElem?_setIfInBounds, hlt]; exact ⟨rfl, rfl⟩, ?_⟩
                  rw [Array.toList_modify]
                  exact hm.set (toPay_ok hk' hkf hk) (toPay_ok hv' hvf hv) j
          · simp only [ER.val, Option.some.injEq, Leaf.v.injEq] at h4
            obtain ⟨rfl, rfl⟩ := h4
            refine ⟨rfl, E, { w with heap := w.heap.setIfInBounds (E.blk id) (.map (c.push { key := K, val := V, born := cl }) (cl + 1)) }, ?_, ?_⟩
            · unfold Instr.mapUpdate
              simp only [Sem.run_bind, hu, Result.andThen_ok, getObj_map hh, hck, h1, setObj_map hh]
            · refine R.obj (F := E) id _ 0 rfl rfl rfl (fun _ _ => rfl) (fun _ _ => rfl) hI (fun g2 m2 hgm => ?_) (.inl ⟨by simp [hI], rfl⟩) (by simp) (fun k _ hk => ?_) (fun le => ?_) (hid_of R ho) rfl rfl rfl ((R.heap.ty id _ ho).odd rfl hh (fun _ _ _ q => by cases q))
              · rw [hI] at hgm; injection hgm with hgm; injection hgm with h3 h4
                exact ⟨by simp; omega, fun _ => ⟨h4.symm, rfl⟩⟩
              · simp only [Array.getElem?_setIfInBounds]
                rw [if_neg (fun e => hk (by simp [hI]) e.symm)]
              · simp only [ObjR]
                refine ⟨hI, hb, _, _, by simp [Array.getElem?_setIfInBounds, hlt]; exact ⟨rfl, rfl⟩, ?_⟩
                rw [Array.toList_push]
                exact hm.push (toPay_ok hk' hkf hk) (toPay_ok hv' hvf hv)
        · simp [ER.val] at h
    · simp [ER.val] at h
  · simp [ER.val] at h

end
end Go.Ev
