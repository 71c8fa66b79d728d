/- Operations: each as the machine runs it (calls of functions apart). -/
import Derived.Test.YtkdbaijabnhniaaGreatDoorEvM
namespace Go.Ev
section
variable {P : Program} {G : Gl} {E : Env} {st : St} {a : Act} {w : World} {T : Tab} {C : Orc} {an : Ann}

def isCall (o : Oper) : Bool := match o.op with
  | .call c => match c.callee with
    | .value _ => true
    | _ => false
  | _ => false

theorem op_value (R : Rel G E st a w) (hT : TabOK P T) (hG : an.glob = G.tab) {o : Oper} {r : AV} {u : Upd} (hd : okDst o.dst st.n = true) (hc : isCall o = false) (h : (st.evalOp T C an o).val = some (.v r u)) : SimV P G E st a w o r u := by
  have hid := dst_lt R hd
  unfold St.evalOp Ev.evalOp at h
  simp only at h
  split at h
  · rename_i x ho
    rw [ER.val_pv, Leaf.v.injEq] at h
    obtain ⟨rfl, rfl⟩ := h
    exact .of R (by unfold execOp; rw [ho]; rfl) (ev_ok R hG x)
  · rename_i x ho
    rw [ER.val_pv, Leaf.v.injEq] at h
    obtain ⟨rfl, rfl⟩ := h
    exact .of R (by unfold execOp; rw [ho]; rfl) (ev_ok R hG x)
  · rename_i c x y ho
    split at h
    · rename_i t hct
      rw [ER.val_pv, Leaf.v.injEq] at h
      obtain ⟨rfl, rfl⟩ := h
      have hcv := ev_ok R hG c
      rw [hct] at hcv
      simp only [VA, VS] at hcv
      refine .of R ?_ (pickE_ok (t := t) (ev_ok R hG x) (ev_ok R hG y))
      unfold execOp
      rw [ho]
      simp only [hcv]
      cases t <;> rfl
    · simp [ER.val] at h
  · rename_i e ho
    split at h
    · rename_i i hi
      exact (alloc_ok R hT hi h hid).sim (by unfold execOp; rw [ho])
    · simp [ER.val] at h
  · rename_i e x ho
    have hx := ev_ok R hG x
    by_cases hf : ((st.ev an x).cells).all AV.flat = true
    · exact (mkVar_ok R (fun t q => (Option.some.inj q).symm) h (VA.cells hx hf).1 hid).sim (by unfold execOp; rw [ho])
    · unfold mkVar at h
      simp [hf, ER.val] at h
  · rename_i t ps ho
    exact ((opBuild_ok hT h (qs := ps.map fun (i, x) => (i, a.eval x)) (by simpa using parts_map R hG ps.toList)).mok R).sim (by unfold execOp; rw [ho])
  · rename_i t n ps ho
    exact (opBSlice_ok R hT h (qs := ps.map fun (i, x) => (i, a.eval x)) (by simpa using parts_map R hG ps.toList) hid).sim (by unfold execOp; rw [ho])
  · rename_i t x ho
    split at h
    · rename_i i hi
      obtain ⟨rfl, Z, h1, h2⟩ := opLoad_ok R (hT _ _ hi) h (ev_ok R hG x)
      exact .of R (by unfold execOp; rw [ho]; simp only [Sem.run_bind, h1, Result.andThen_ok, Sem.run_pure]) h2
    · simp [ER.val] at h
  · rename_i t x y ho
    split at h
    · rename_i i hi
      obtain ⟨rfl, v, h1, h2, h3⟩ := opStore_ok R (hT _ _ hi) h (ev_ok R hG x) (ev_ok R hG y)
      intro K Q hK
      unfold Oper.wp execOp
      rw [ho]
      simp only [Sem.run_bind, h1, Result.andThen_ok, Sem.run_pure]
      rw [Oper.upon_skip]
      exact hK E undef v (by simp [VA]) h2 h3
    · simp [ER.val] at h
  · rename_i x ho
    cases hs : (st.ev an x).some'
    · simp [hs, ER.val] at h
    · rw [hs, cond_true, ER.val_pv, Leaf.v.injEq] at h
      obtain ⟨rfl, rfl⟩ := h
      have hx := ev_ok R hG x
      refine .of R (Z := a.eval x) ?_ hx
      unfold execOp
      rw [ho]
      simp only
      rcases some'_ok hs hx with ⟨c, e⟩ | ⟨f, fs, cs, e⟩
      · rw [e]; rfl
      · rw [e]; rfl
  · rename_i op t x y _ ho
    split at h
    · rename_i b hb
      rw [ER.val_pv, Leaf.v.injEq] at h
      obtain ⟨rfl, rfl⟩ := h
      obtain ⟨h1, h2⟩ := opEqP_ok R hT x y hb (ev_ok R hG x) (ev_ok R hG y)
      exact .of R (Z := .bool b) (by unfold execOp; rw [ho]; simp only [Sem.run_bind, h1, h2, Result.andThen_ok, Sem.run_pure]) (by simp only [VA, VS])
    · obtain ⟨rfl, Z, h1, h2, h3⟩ := opBin_ok hT R.heap x y h (ev_ok R hG x) (ev_ok R hG y)
      exact .of R (by unfold execOp; rw [ho]; simp only [Sem.run_bind, h1, h2, Result.andThen_ok, Sem.run_pure]) h3
  · rename_i op _ x ho
    obtain ⟨rfl, Z, h1, h2⟩ := opUn_ok (P := P) (w := w) h (ev_ok R hG x)
    exact .of R (by unfold execOp; rw [ho]; simp only [Sem.run_bind, h1, Result.andThen_ok, Sem.run_pure]) h2
  · rename_i s t x ho
    have key : (opConvP T st.h s t (st.ev an x)).val = some (.v r u) ∨ (opConvH T st.h (st.base + o.dst.getD 0) s t (st.ev an x)).val = some (.v r u) ∨ (opConv T st.h s t (st.ev an x)).val = some (.v r u) := by
      cases hq : opConvP T st.h s t (st.ev an x) <;> simp only [hq] at h
      case fail =>
        cases hm : memN (o.dst.getD 0) an.adopt
        · rw [hm, cond_false] at h; exact .inr (.inr h)
        · rw [hm, cond_true] at h; exact .inr (.inl h)
      all_goals exact .inl h
    rcases key with h | h | h
    · exact ((opConvP_ok R hT h (ev_ok R hG x)).mok R).sim (by unfold execOp; rw [ho])
    · exact (opConvH_ok R hT h (ev_ok R hG x) hid).sim (by unfold execOp; rw [ho])
    · exact (opConv_ok R hT h (ev_ok R hG x)).sim (by unfold execOp; rw [ho])
  · rename_i t x ho
    split at h
    · simp [ER.val] at h
    · simp [ER.val] at h
    · rename_i i hi hni
      split at h
      · rename_i v hv
        have hf : (st.ev an x).cells.all AV.flat = true := by
          cases hf : (st.ev an x).cells.all AV.flat
          · rw [hf, cond_false] at hv; cases hv
          · rfl
        have hp := hv
        rw [hf, cond_true] at hp
        rw [ER.val_pv, Leaf.v.injEq] at h
        obtain ⟨rfl, rfl⟩ := h
        have := toPay_ok hp hf (ev_ok R hG x)
        refine .of R (Z := .iface t (a.eval x)) ?_ (by simp only [VA, VS]; exact ⟨_, rfl, this⟩)
        unfold execOp
        rw [ho]
        simp only [Instr.makeInterface, Sem.run_bind, (hT _ _ hni).run_und, Result.andThen_ok]
        split
        · rename_i ms he
          exact absurd hni (by
            intro hni
            cases i with | mk d s b z p => simp only at he; subst he; exact hi _ _ _ _ _ rfl)
        · rfl
      · simp [ER.val] at h
  · rename_i f first cap ho
    cases hc : ((first.toList.map (st.ev an)).all AV.flat0 && (cap.toList.map (st.ev an)).all AV.flat0)
    · rw [hc, cond_false] at h; simp [ER.val] at h
    · rw [hc, cond_true, ER.val_pv, Leaf.v.injEq] at h
      obtain ⟨rfl, rfl⟩ := h
      refine .of R (Z := .func (.func f) (first.map a.eval) (cap.map a.eval)) (by unfold execOp; rw [ho]; rfl) ?_
      simp only [VA]
      exact ⟨first.toList.map a.eval, cap.toList.map a.eval, by congr 1 <;> exact Array.ext' (by simp), evs_map R hG _, evs_map R hG _⟩
  · rename_i t l c ho
    exact (opMkSlice_ok R hT h (ev_ok R hG l) (ev_ok R hG c) hid).sim (by unfold execOp; rw [ho])
  · rename_i t x lo hi ho
    exact ((opSlice_ok hT h (ev_ok R hG x) (VO_map R hG lo) (VO_map R hG hi)).mok R).sim (by unfold execOp; rw [ho]; rfl)
  · rename_i t x f ho
    exact ((opFAddr_ok hT h (ev_ok R hG x)).mok R).sim (by unfold execOp; rw [ho])
  · rename_i t x f ho
    exact ((opField_ok hT h (ev_ok R hG x)).mok R).sim (by unfold execOp; rw [ho])
  · rename_i t x i ho
    exact ((opIAddr_ok hT h (ev_ok R hG x) (ev_ok R hG i)).mok R).sim (by unfold execOp; rw [ho])
  · rename_i t x i ho
    exact ((opIndex_ok hT h (ev_ok R hG x) (ev_ok R hG i)).mok R).sim (by unfold execOp; rw [ho])
  · rename_i t x ho
    split at h
    · rename_i l ht hl
      simp only [ER.val, Option.some.injEq, Leaf.v.injEq] at h
      obtain ⟨rfl, rfl⟩ := h
      have hx := ev_ok R hG x
      rw [hl] at hx
      exact (opRange_ok R hT ht rfl hx hid).sim (by unfold execOp; rw [ho])
    · simp [ER.val] at h
  · rename_i x ho
    exact (opNext_ok R h (ev_ok R hG x) (ty := o.type)).sim (by unfold execOp; rw [ho])
  · rename_i t ho
    simp only [ER.val, Option.some.injEq, Leaf.v.injEq] at h
    obtain ⟨rfl, rfl⟩ := h
    exact (makeMap_ok R (t := t) hid).sim (by unfold execOp; rw [ho]; rfl)
  · rename_i t x k ok ho
    exact ((opLookup_ok R hT h (ev_ok R hG x) (ev_ok R hG k)).mok R).sim (by unfold execOp; rw [ho])
  · rename_i t x k v ho
    obtain ⟨rfl, F, v', h1, h2, h3⟩ := opMapUpd_ok R hT h (ev_ok R hG x) (ev_ok R hG k) (ev_ok R hG v)
    intro K Q hK
    unfold Oper.wp execOp
    rw [ho]
    simp only [Sem.run_bind, h1, Result.andThen_ok, Sem.run_pure]
    rw [Oper.upon_skip]
    exact hK F undef v' (by simp [VA]) h2 h3
  · rename_i t x k v ho
    obtain ⟨rfl, F, v', h1, h2, h3⟩ := opMapUpd_ok R hT h (ev_ok R hG x) (ev_ok R hG k) (ev_ok R hG v)
    intro K Q hK
    unfold Oper.wp execOp
    rw [ho]
    simp only [Sem.run_bind, h1, Result.andThen_ok, Sem.run_pure]
    rw [Oper.upon_skip]
    exact hK F undef v' (by simp [VA]) h2 h3
  · rename_i x xt t ok ho
    exact ((opAssert_ok hT h (ev_ok R hG x)).mok R).sim (by unfold execOp; rw [ho])
  · rename_i x i ho
    split at h
    · rename_i vs hvs
      split at h
      · rename_i v hv
        rw [ER.val_pv, Leaf.v.injEq] at h
        obtain ⟨rfl, rfl⟩ := h
        have hx := ev_ok R hG x
        rw [hvs] at hx
        simp only [VA] at hx
        obtain ⟨ys, hy, hl⟩ := hx
        obtain ⟨y, h1, h2⟩ := hl.get i hv
        refine .of R (Z := y) ?_ h2
        unfold execOp
        rw [ho]
        simp only [Instr.extract, hy, List.getElem?_toArray, h1, Sem.run_bind, Sem.run_pure, Result.andThen_ok]
      · simp [ER.val] at h
    · simp [ER.val] at h
  · rename_i c ho
    split at h
    · rename_i f hf
      simp [isCall, ho, hf] at hc
    · rename_i b hb
      have key : (opUns T st.h b c.argTypes.toList (c.args.toList.map (st.ev an))).val = some (.v r u) ∨ (opBuiltin T st.h (st.base + o.dst.getD 0) b c.argTypes.toList (c.args.toList.map (st.ev an))).val = some (.v r u) := by
        cases hq : opUns T st.h b c.argTypes.toList (c.args.toList.map (st.ev an)) <;> simp only [hq] at h <;> first | exact .inl h | exact .inr h
      obtain ⟨s, h1, h2⟩ : ∃ s, Go.builtin b c.argTypes.toList.toArray o.type (c.args.map fun | .const _ => true | _ => false) (c.args.toList.map a.eval).toArray = (do pure (.value (← s))) ∧ MOk P G E st a w s r u := by
        rcases key with h | h
        · exact uns_ok R hT h (evs_map R hG c.args.toList)
        · exact builtin_ok R hT h (evs_map R hG c.args.toList) hid
      refine h2.sim ?_
      unfold execOp
      rw [ho]
      have e1 : c.args.map a.eval = (c.args.toList.map a.eval).toArray := Array.ext' (by simp)
      have e2 : c.argTypes = c.argTypes.toList.toArray := by simp
      rw [← h1]
      simp only [resolve, hb]
      rw [e1]
      show Go.builtin b c.argTypes _ _ _ = _
      rw [e2]
      rfl
    · simp [ER.val] at h
  · split at h <;> simp [ER.val] at h
  · simp [ER.val] at h

theorem op_panic (R : Rel G E st a w) (hG : an.glob = G.tab) {o : Oper} {x : SV} {u : Upd} (hp : ∃ y, o.op = .panic y) (h : (st.evalOp T C an o).val = some (.pan x u)) : SimP P G E st a w o x u := by
  obtain ⟨y, ho⟩ := hp
  unfold St.evalOp Ev.evalOp at h
  simp only [ho] at h
  split at h
  · rename_i t v hv
    simp only [ER.val, Option.some.injEq, Leaf.pan.injEq] at h
    obtain ⟨rfl, rfl⟩ := h
    have hx := ev_ok R hG y
    rw [hv] at hx
    simp only [VA] at hx
    intro K Q hK
    have hx' := hx
    simp only [VS] at hx'
    obtain ⟨z, hz, _⟩ := hx'
    unfold Oper.wp execOp
    rw [ho]
    simp only [Instr.panic, hz]
    rw [hz] at hx
    exact hK E _ w hx R (.refl E w)
  · simp [ER.val] at h

end

end Go.Ev
