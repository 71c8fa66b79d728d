/- Maps: a new one, a look into one, a new entry. -/
import Derived.Test.YtnkllabpkchblaaGreatDoorEvL
namespace Go.Ev
section
variable {P : Program} {G : Gl} {E : Env} {st : St} {a : Act} {w : World} {T : Tab}

theorem getObj_map {b : Nat} {c : Array MapEntry} {k : Nat} (h : w.heap[b]? = some (.map c k)) : (getObj b).run P w = .ok (.map c k) w := by
  simp [getObj, Sem.run, h]

theorem setObj_map {b : Nat} {c : Array MapEntry} {k : Nat} {o : Obj} (h : w.heap[b]? = some (.map c k)) : (setObj b o).run P w = .ok () { w with heap := w.heap.setIfInBounds b o } := by
  simp [setObj, Sem.run, h]

theorem makeMap_ok (R : Rel G E st a w) {t : TypeId} {id : Nat} (hid : id < st.nx) :
    MOk P G E st a w (Instr.makeMap t none) (.hm id (newGen st.h id)) (.obj id ⟨newGen st.h id, .map []⟩) := by
  have := R.newObj id ⟨newGen st.h id, .map []⟩ (.map #[] 0) 0 0 rfl hid (fun le => by
    simp only [ObjR]
    refine ⟨Env.withObj_I .., by simp [Env.bas, Env.withObj_P], #[], 0, ?_, rfl⟩
    simp only [Env.blk, Env.withObj_P]
    exact push_new w _)
  refine ⟨_, .map (some w.heap.size), _, ?_, ?_, this⟩
  · unfold Instr.makeMap
    simp only [Sem.run_bind, Result.andThen_ok, Sem.run_pure, run_newObj]
  · simp only [VA]
    refine ⟨⟨_, rfl⟩, _, _, Env.withObj_I .., Nat.le_refl _, fun _ => ?_⟩
    simp [Env.blk, Env.withObj_P]

theorem checkKey_ok (hT : TabOK P T) (emp : Bool) : ∀ (d D : Nat) (t : TypeId) (x : AV) (X : Value), keyOk T d t x = true → VA E x X → d ≤ D → (Instr.checkKey emp D t X).run P w = .ok () w
  | 0, _, _, _, _, h, _, _ => by simp [keyOk] at h
  | d + 1, 0, _, _, _, _, _, hd => by omega
  | d + 1, D + 1, t, x, X, h, hx, hd => by
    simp only [keyOk] at h
    split at h
    · cases h
    · rename_i i hi
      have ht := hT t i hi
      have hu := ht.run_und (w := w)
      split at h
      · rename_i hdsc
        rw [hdsc] at hu
        simp [Instr.checkKey, hu]
      · rename_i hdsc
        rw [hdsc] at hu
        simp [Instr.checkKey, hu]
      · rename_i hdsc
        rw [hdsc] at hu
        simp [Instr.checkKey, hu]
      · rename_i fs xs hdsc
        simp only [VA] at hx
        obtain ⟨xs', rfl, hx⟩ := hx
        rw [hdsc] at hu
        simp only [Instr.checkKey, Sem.run_bind, hu, Result.andThen_ok]
        rw [← Array.forIn_toList]
        revert h
        generalize fs.toList = l
        intro h
        induction l with
        | nil => simp
        | cons f l ih =>
          simp only [keyFields] at h
          split at h
          · rename_i fi hfi
            split at h
            · rename_i c hc
              cases hn : (f.name == "_")
              · rw [hn, cond_false, Bool.and_eq_true] at h
                have hfn : f.name ≠ "_" := by simpa using hn
                obtain ⟨u1, h1⟩ := partE_val hc
                obtain ⟨_, A, hA, hvA⟩ := part_ok (P := P) (w := w) (hT _ _ hfi) (ys := xs'.toArray) h1 (by simpa using hx)
                have he := checkKey_ok hT emp d D f.type c A h.1 hvA (by omega)
                have hr := ih h.2
                simp only [List.forIn_cons, Sem.run_bind, ne_eq, hfn, not_false_eq_true, if_true, hA, Result.andThen_ok, he, Sem.run_pure]
                exact hr
              · simp [hn] at h
            · cases h
          · cases h
      · cases h

theorem run_und' {t : TypeId} {d : TypeDesc} (h : P.underlying t = some d) : (underlying t).run P w = .ok d w := run_underlying h w

theorem sameNow_eq {kind : TypeDesc} {t : TypeId} {K Y : Value} {b : Bool} (hu : P.underlying t = some kind) (h : Instr.sameNow kind K Y = some b) :
    (Op.equalIn 10000 t K Y).run P w = .ok b w := by
  unfold Instr.sameNow at h
  split at h
  · split at h
    · rename_i hk
      subst hk
      injection h with h; subst h
      exact run_equalIn_int w 9999 t _ _ _ _ hu
    · cases h
  · injection h with h; subst h
    have hu' := run_und' (w := w) hu
    have hD : ∀ D (x y : ByteArray), (Op.equalIn (D + 1) t (.string x) (.string y)).run P w = .ok (x == y) w := fun D x y => by
      simp only [Op.equalIn, Sem.run_bind, hu', Result.andThen_ok, Sem.run_pure]
    exact hD 9999 _ _
  · injection h with h; subst h
    exact run_equalIn_bool' w 9999 t _ _ hu
  · cases h

/-- what a look for a key comes to -/
def Found (E : Env) (hit : SV → ER) (miss : ER) (l : Leaf) (r : Option (Nat × Value)) : Prop :=
  (∃ v V j, r = some (j, V) ∧ VS E.M v V ∧ (hit v).val = some l) ∨ (r = none ∧ miss.val = some l)

theorem findNow_ok (w : World) (hT : TabOK P T) {t : TypeId} {kind : TypeDesc} (hu : P.underlying t = some kind) {k : AV} {K : Value} (hk : VA E k K) {hit : SV → ER} {miss : ER} {l : Leaf} :
    ∀ (es : List (SV × SV)) (c : List MapEntry) (n : Nat), MR E.M es c → (findR T t k hit miss es).val = some l →
      Instr.findNow kind K c n = none ∨ ∃ r, Instr.findNow kind K c n = some r ∧ Found E hit miss l r
  | [], c, n, hr, h => by
    simp only [MR] at hr
    subst hr
    exact .inr ⟨none, rfl, .inr ⟨rfl, h⟩⟩
  | (ak, v) :: es, c, n, hr, h => by
    obtain ⟨e, r, rfl, h1, h2, h3⟩ := hr
    simp only [findR] at h
    split at h
    · rename_i b hb
      simp only [Instr.findNow]
      cases hs : Instr.sameNow kind K e.key with
      | none => exact .inl rfl
      | some b' =>
        have e1 := sameNow_eq (w := w) hu hs
        have e2 := eqE_ok (w := w) hT 8 10000 t _ _ _ _ _ hb hk (ofPay_ok h1) (by omega)
        rw [e1] at e2
        injection e2 with e2 _
        subst e2
        simp only [ER.val] at h
        cases b'
        · simp only [cond_false] at h
          exact findNow_ok w hT hu hk es r (n + 1) h3 h
        · simp only [cond_true] at h
          exact .inr ⟨some (n, e.val), rfl, .inl ⟨v, e.val, n, rfl, h2, h⟩⟩
    · simp [ER.val] at h

theorem findAsking_ok (hT : TabOK P T) {t : TypeId} {k : AV} {K : Value} (hk : VA E k K) {hit : SV → ER} {miss : ER} {l : Leaf} :
    ∀ (es : List (SV × SV)) (c : List MapEntry) (n : Nat), MR E.M es c → (findR T t k hit miss es).val = some l →
      ∃ r, (Instr.findAsking t K c n).run P w = .ok r w ∧ Found E hit miss l r
  | [], c, n, hr, h => by
    simp only [MR] at hr
    subst hr
    exact ⟨none, rfl, .inr ⟨rfl, h⟩⟩
  | (ak, v) :: es, c, n, hr, h => by
    obtain ⟨e, r, rfl, h1, h2, h3⟩ := hr
    simp only [findR] at h
    split at h
    · rename_i b hb
      have e2 := eqE_ok (w := w) hT 8 10000 t _ _ _ _ _ hb hk (ofPay_ok h1) (by omega)
      have e3 : (Op.equal t K e.key).run P w = .ok b w := e2
      simp only [ER.val] at h
      cases b
      · simp only [cond_false] at h
        obtain ⟨q, h4, h5⟩ := findAsking_ok hT hk es r (n + 1) h3 h
        exact ⟨q, by simp only [Instr.findAsking, Sem.run_bind, e3, Result.andThen_ok, Bool.false_eq_true, if_false, h4], h5⟩
      · simp only [cond_true] at h
        exact ⟨some (n, e.val), by simp only [Instr.findAsking, Sem.run_bind, e3, Result.andThen_ok, if_true, Sem.run_pure], .inl ⟨v, e.val, n, rfl, h2, h⟩⟩
    · simp [ER.val] at h

theorem findKey_ok (hT : TabOK P T) {t : TypeId} {i : TI} (ht : T t = some i) {k : AV} {K : Value} (hk : VA E k K) {hit : SV → ER} {miss : ER} {l : Leaf}
    {es : List (SV × SV)} {c : List MapEntry} (hr : MR E.M es c) (h : (findR T t k hit miss es).val = some l) :
    ∃ r, (Instr.findKey t K c).run P w = .ok r w ∧ Found E hit miss l r := by
  have hu := (hT t i ht)
  rcases findNow_ok w hT hu.und hk es c 0 hr h with q | ⟨r, q, f⟩
  · obtain ⟨r, h1, h2⟩ := findAsking_ok (w := w) hT hk es c 0 hr h
    exact ⟨r, by simp only [Instr.findKey, Sem.run_bind, hu.run_und, Result.andThen_ok, q, h1], h2⟩
  · exact ⟨r, by simp only [Instr.findKey, Sem.run_bind, hu.run_und, Result.andThen_ok, q, Sem.run_pure], f⟩

theorem keyOk_tab {d : Nat} {t : TypeId} {x : AV} (h : keyOk T d t x = true) : ∃ i, T t = some i := by
  cases d with
  | zero => simp [keyOk] at h
  | succ d =>
    simp only [keyOk] at h
    split at h
    · cases h
    · exact ⟨_, by assumption⟩

theorem lkRes_ok {ok b : Bool} {v : AV} {V : Value} (h : VA E v V) : VA E (lkRes ok v b) (if ok then .tuple #[V, .bool b] else V) := by
  cases ok
  · exact h
  · simp only [lkRes, cond_true, if_true, VA, VAs]
    exact ⟨_, rfl, _, _, rfl, h, _, _, rfl, by simp [VS], rfl⟩

theorem opLookup_ok (R : Rel G E st a w) (hT : TabOK P T) {t : TypeId} {x k r : AV} {u : Upd} {ok : Bool} {X K : Value} (h : (opLookup T st.h t x k ok).val = some (.v r u)) (hx : VA E x X) (hk : VA E k K) :
    VOk P E w (Instr.lookup t X K ok) r u := by
  unfold opLookup at h
  split at h
  · rename_i kt e _ _ _ _ htt
    have hu := (hT _ _ htt).run_und (w := w)
    split at h
    · rename_i te hte
      obtain ⟨z, hz, hzv⟩ := zeroV_ok (w := w) (E := E) (hT _ _ hte)
      cases hko : keyOk T 8 kt k
      · simp [hko, ER.val] at h
      · rw [hko, cond_true] at h
        obtain ⟨ki, hki⟩ := keyOk_tab hko
        split at h
        · rw [ER.val_pv, Leaf.v.injEq] at h
          obtain ⟨rfl, rfl⟩ := h
          simp only [VA, VS] at hx
          subst hx
          refine ⟨rfl, _, ?_, lkRes_ok hzv⟩
          have hck := checkKey_ok (w := w) hT true 8 10000 kt k K hko hk (by omega)
          obtain ⟨q, h1, h2⟩ := findKey_ok (w := w) (E := E) (es := []) (c := []) (hit := fun _ => .fail) (miss := pv .undef) hT hki hk rfl rfl
          rcases h2 with ⟨_, _, _, _, _, h3⟩ | ⟨rfl, _⟩
          · simp [ER.val] at h3
          · unfold Instr.lookup
            simp only [Sem.run_bind, hu, Result.andThen_ok, Sem.run_pure]
            have : (#[] : Array MapEntry).isEmpty = true := rfl
            simp only [this, hck, Result.andThen_ok, h1]
            cases ok <;> simp [Sem.run_bind, hz, Result.andThen_ok, Sem.run_pure]
        · rename_i id g
          split at h
          · rename_i g' es ho
            cases hg : Nat.beq g g'
            · simp [hg, ER.val] at h
            · rw [hg, cond_true] at h
              have hg := Nat.eq_of_beq_eq_true hg
              subst hg
              have hr := R.heap.obj id _ ho
              simp only [ObjR] at hr
              obtain ⟨hI, _, c, cl, hh, hm⟩ := hr
              simp only [VA] at hx
              obtain ⟨_, g1, n1, q, _, hx⟩ := hx
              rw [hI] at q; injection q with q; injection q with q1 q2
              have hx := hx q1
              subst hx
              have hck := checkKey_ok (w := w) hT c.isEmpty 8 10000 kt k K hko hk (by omega)
              obtain ⟨q, h1, h2⟩ := findKey_ok (w := w) hT hki hk hm h
              rcases h2 with ⟨v, V, j, rfl, h3, h4⟩ | ⟨rfl, h4⟩
              · rw [ER.val_pv, Leaf.v.injEq] at h4
                obtain ⟨rfl, rfl⟩ := h4
                refine ⟨rfl, _, ?_, lkRes_ok (ofPay_ok h3)⟩
                unfold Instr.lookup
                simp only [Sem.run_bind, hu, Result.andThen_ok, Sem.run_pure, getObj_map hh, hck, h1]
              · rw [ER.val_pv, Leaf.v.injEq] at h4
                obtain ⟨rfl, rfl⟩ := h4
                refine ⟨rfl, _, ?_, lkRes_ok hzv⟩
                unfold Instr.lookup
                simp only [Sem.run_bind, hu, Result.andThen_ok, Sem.run_pure, getObj_map hh, hck, h1]
                cases ok <;> simp [Sem.run_bind, hz, Result.andThen_ok, Sem.run_pure]
          · simp [ER.val] at h
        · simp [ER.val] at h
    · simp [ER.val] at h
  · simp [ER.val] at h

theorem MR.push {M : Nat → Option (List Value)} {k v : SV} {e : MapEntry} (hk : VS M k e.key) (hv : VS M v e.val) : ∀ {es : List (SV × SV)} {l : List MapEntry}, MR M es l → MR M (es ++ [(k, v)]) (l ++ [e])
  | [], l, h => by
    simp only [MR] at h
    subst h
    exact ⟨e, [], rfl, hk, hv, rfl⟩
  | (k', v') :: es, l, h => by
    obtain ⟨e', r, rfl, h1, h2, h3⟩ := h
    exact ⟨e', r ++ [e], rfl, h1, h2, h3.push hk hv⟩

/-- an operation that gives nothing but a new state -/
def UOk (P : Program) (G : Gl) (E : Env) (st : St) (a : Act) (w : World) (s : Sem Unit) (r : AV) (u : Upd) : Prop :=
  r = .undef ∧ ∃ F v, s.run P w = .ok () v ∧ Rel G F (st.app u) a v ∧ Evo E w F v

theorem opMapUpd_ok (R : Rel G E st a w) (hT : TabOK P T) {t : TypeId} {x k v r : AV} {u : Upd} {X K V : Value} (h : (opMapUpd T st.h t x k v).val = some (.v r u)) (hx : VA E x X) (hk : VA E k K) (hv : VA E v V) :
    UOk P G E st a w (Instr.mapUpdate t X K V) r u := by
  unfold opMapUpd at h
  split at h
  · rename_i kt _ _ _ _ _ id g htt
    have hu := (hT _ _ htt).run_und (w := w)
    split at h
    · rename_i g' es ho
      cases hc : (Nat.beq g g' && keyOk T 8 kt k && k.cells.all AV.flat && v.cells.all AV.flat)
      · rw [hc, cond_false] at h; simp [ER.val] at h
      · rw [hc, cond_true] at h
        simp only [Bool.and_eq_true] at hc
        obtain ⟨⟨⟨hg, hko⟩, hkf⟩, hvf⟩ := hc
        obtain ⟨ki, hki⟩ := keyOk_tab hko
        have hg := Nat.eq_of_beq_eq_true hg
        subst hg
        have hr := R.heap.obj id _ ho
        simp only [ObjR] at hr
        obtain ⟨hI, hb, c, cl, hh, hm⟩ := hr
        have hlt : E.blk id < w.heap.size := R.lt _ (.inr ⟨id, by simp [hI], rfl⟩)
        simp only [VA] at hx
        obtain ⟨_, g1, n1, q, _, hx⟩ := hx
        rw [hI] at q; injection q with q; injection q with q1 q2
        have hx := hx q1
        subst hx
        split at h
        · rename_i k' v' hk' hv'
          have hck := checkKey_ok (w := w) hT false 8 10000 kt k K hko hk (by omega)
          obtain ⟨q, h1, h2⟩ := findKey_ok (w := w) hT hki hk hm h
          rcases h2 with ⟨_, _, _, _, _, h4⟩ | ⟨rfl, h4⟩
          · simp [ER.val] at h4
          · simp only [ER.val, Option.some.injEq, Leaf.v.injEq] at h4
            obtain ⟨rfl, rfl⟩ := h4
            refine ⟨rfl, E, { w with heap := w.heap.setIfInBounds (E.blk id) (.map (c.push { key := K, val := V, born := cl }) (cl + 1)) }, ?_, ?_⟩
            · unfold Instr.mapUpdate
              simp only [Sem.run_bind, hu, Result.andThen_ok, getObj_map hh, hck, h1, setObj_map hh]
            · refine R.obj (F := E) id _ 0 rfl rfl rfl (fun _ _ => rfl) (fun _ _ => rfl) hI (fun g2 m2 hgm => ?_) (.inl ⟨by simp [hI], rfl⟩) (by simp) (fun k _ hk => ?_) (fun le => ?_) (hid_of R ho) rfl rfl rfl
              · rw [hI] at hgm; injection hgm with hgm; injection hgm with h3 h4
                exact ⟨by simp; omega, fun _ => ⟨h4.symm, rfl⟩⟩
              · simp only [Array.getElem?_setIfInBounds]
                rw [if_neg (fun e => hk (by simp [hI]) e.symm)]
              · simp only [ObjR]
                refine ⟨hI, hb, _, _, by simp [Array.getElem?_setIfInBounds, hlt]; exact ⟨rfl, rfl⟩, ?_⟩
                rw [Array.toList_push]
                exact hm.push (toPay_ok hk' hkf hk) (toPay_ok hv' hvf hv)
        · simp [ER.val] at h
    · simp [ER.val] at h
  · simp [ER.val] at h

end
end Go.Ev
