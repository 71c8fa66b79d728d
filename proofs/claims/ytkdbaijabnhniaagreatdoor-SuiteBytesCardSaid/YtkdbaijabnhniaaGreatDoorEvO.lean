/- Operations: what they look at. -/
import Derived.Test.YtkdbaijabnhniaaGreatDoorEvN
namespace Go.Ev

theorem memN_iff {n : Nat} : ∀ {l : List Nat}, memN n l = true ↔ n ∈ l
  | [] => by simp [memN]
  | x :: xs => by
    by_cases h : n = x
    · subst h; simp [memN]
    · simp [memN, beq_ne h, memN_iff, h]

theorem meets_not {xs ys : List Nat} (h : meets xs ys = false) {n : Nat} (hx : n ∈ xs) (hy : n ∈ ys) : False := by
  induction xs with
  | nil => cases hx
  | cons x xs ih =>
    simp only [meets, Bool.or_eq_false_iff] at h
    rcases List.mem_cons.1 hx with e | e
    · subst e
      rw [memN_iff.2 hy] at h
      simp at h
    · exact ih h.2 e

section
variable {T : Tab} {C : Orc} {an : Ann} {ρ ρ' : Operand → AV} {b b' : Nat → Option (List AV)} {h h' : Heap} {base nx nx' : Nat} {o : Oper}

theorem map_rho {l : List Operand} (hl : ∀ x ∈ l, ρ x = ρ' x) : l.map ρ = l.map ρ' := List.map_congr_left hl

theorem evalOp_rho (hρ : ∀ x ∈ o.op.operands, ρ x = ρ' x) : evalOp T C an ρ b h base nx o = evalOp T C an ρ' b h base nx o ∧ fpOp C an ρ h base o = fpOp C an ρ' h base o := by
  unfold evalOp fpOp
  cases hop : o.op <;> rw [hop] at hρ <;> simp only [Op.operands] at hρ <;> (try exact ⟨rfl, rfl⟩) <;> simp only [Array.mem_def, List.mem_cons, List.not_mem_nil, or_false, forall_eq, forall_eq_or_imp] at hρ
  all_goals first
    | (simp only [hρ]; exact ⟨trivial, trivial⟩)
    | skip
  case build t ps =>
    have e : (ps.toList.map fun p => (p.1, ρ p.2)) = ps.toList.map fun p => (p.1, ρ' p.2) := List.map_congr_left fun p hp => by
      rw [hρ p.2 (List.mem_map.2 ⟨p, hp, rfl⟩)]
    simp only [e]
    exact ⟨trivial, trivial⟩
  case buildSlice t n ps =>
    have e : (ps.toList.map fun p => (p.1, ρ p.2)) = ps.toList.map fun p => (p.1, ρ' p.2) := List.map_congr_left fun p hp => by
      rw [hρ p.2 (List.mem_map.2 ⟨p, hp, rfl⟩)]
    simp only [e]
    exact ⟨trivial, trivial⟩
  case makeMap t r => cases r <;> exact ⟨rfl, rfl⟩
  case makeFunc f first cap =>
    have e1 := map_rho (l := first.toList) fun x hx => hρ x (by simp; exact .inl (by simpa using hx))
    have e2 := map_rho (l := cap.toList) fun x hx => hρ x (by simp; exact .inr (by simpa using hx))
    cases f <;> simp only [e1, e2] <;> exact ⟨trivial, trivial⟩
  case slice t x lo hi m =>
    have e1 := hρ x (by simp)
    have e2 : lo.map ρ = lo.map ρ' := by cases lo with | none => rfl | some y => simp only [Option.map_some]; rw [hρ y (by simp)]
    have e3 : hi.map ρ = hi.map ρ' := by cases hi with | none => rfl | some y => simp only [Option.map_some]; rw [hρ y (by simp)]
    cases m with
    | none => simp only [e1, e2, e3]; exact ⟨trivial, trivial⟩
    | some _ => exact ⟨rfl, rfl⟩
  case call c =>
    have e1 := map_rho (l := c.args.toList) fun x hx => hρ x (by simp [Call.operands]; exact .inr (by simpa using hx))
    simp only [e1]
    cases hc : c.callee with
    | value f =>
      have e2 := hρ f (by simp [Call.operands, hc])
      simp only [e2]
      exact ⟨trivial, trivial⟩
    | builtin bi => cases bi <;> exact ⟨rfl, rfl⟩
    | invoke r n => exact ⟨rfl, rfl⟩
  case next x isS =>
    cases isS <;> simp only [hρ] <;> exact ⟨trivial, trivial⟩

theorem rd_local {x : AV} (hb : ∀ d ∈ (fpRead x).rb, b d = b' d) (hh : ∀ id ∈ (fpRead x).rh, h id = h' id) : rdCells b h x = rdCells b' h' x := by
  unfold rdCells
  split
  · rfl
  · rw [hb _ (by simp [fpRead])]
  · rw [hh _ (by simp [fpRead])]
  · rw [hh _ (by simp [fpRead])]
  · rfl

theorem load_local {x : AV} {i : TI} (hb : ∀ d ∈ (fpRead x).rb, b d = b' d) (hh : ∀ id ∈ (fpRead x).rh, h id = h' id) : opLoad i b h x = opLoad i b' h' x := by
  have := rd_local hb hh
  unfold opLoad
  split
  · rw [hb _ (by simp [fpRead])]
  · rw [hh _ (by simp [fpRead])]
  · rw [hh _ (by simp [fpRead])]
  · rw [this]

theorem rows_local {x : AV} (hh : ∀ id ∈ (fpRead x).rh, h id = h' id) : rowsOf h x = rowsOf h' x := by
  unfold rowsOf
  split
  · rfl
  · rfl
  · rw [hh _ (by simp [fpRead])]
  · rfl

theorem store_local {x v : AV} {i : TI} (hb : ∀ d ∈ (fpWrite x).wb, b d = b' d) (hh : ∀ id ∈ (fpWrite x).wh, h id = h' id) : opStore i b h x v = opStore i b' h' x v := by
  unfold opStore
  congr 1
  split
  · rw [hb _ (by simp [fpWrite])]
  · rw [hb _ (by simp [fpWrite])]
  · rw [hh _ (by simp [fpWrite])]
  · rw [hh _ (by simp [fpWrite])]
  · rw [hh _ (by simp [fpWrite])]
  · rfl

theorem eqNilH_local {x y : AV} {t : TypeId} (hx : ∀ id ∈ (fpRead x).rh, h id = h' id) (hy : ∀ id ∈ (fpRead y).rh, h id = h' id) : eqNilH T h t x y = eqNilH T h' t x y := by
  unfold eqNilH
  split
  · split
    · rw [hy _ (by simp [fpRead])]
    · rw [hx _ (by simp [fpRead])]
    · rfl
  · split
    · rw [hy _ (by simp [fpRead])]
    · rw [hx _ (by simp [fpRead])]
    · rfl
  · rfl

theorem newGen_local {id : Nat} (hh : h id = h' id) : newGen h id = newGen h' id := by unfold newGen; rw [hh]

theorem mkRows_local {ty : Option TypeId} {id sz n : Nat} {f : Nat → List SV} (hh : h id = h' id) : mkRows ty h id sz n f = mkRows ty h' id sz n f := by unfold mkRows; rw [newGen_local hh]

theorem append_local {ety : TypeId} {sz bytes id : Nat} {s x : AV} (hi : s = .s .nils → h id = h' id) (hs : ∀ id ∈ (fpWrite s).wh, h id = h' id) (hx : ∀ id ∈ (fpRead x).rh, h id = h' id) : opAppend ety sz bytes h id s x = opAppend ety sz bytes h' id s x := by
  have hr := rows_local hx
  unfold opAppend
  split
  · split
    · rfl
    · rw [hr]
      have := hi rfl
      split
      · rw [mkRows_local this]
      · rfl
  · split
    · rfl
    · rw [hr, hs _ (by simp [fpWrite])]
  · rfl

theorem copy_local {d x : AV} (hs : ∀ id ∈ (fpWrite d).wh, h id = h' id) (hx : ∀ id ∈ (fpRead x).rh, h id = h' id) : opCopy h d x = opCopy h' d x := by
  have hr := rows_local hx
  unfold opCopy
  split
  · split
    · rfl
    · rw [hr, hs _ (by simp [fpWrite])]
  · rfl

theorem conv_local {s t : TypeId} {x : AV} (hx : ∀ id ∈ (fpRead x).rh, h id = h' id) : opConv T h s t x = opConv T h' s t x := by
  have hr := rows_local hx
  unfold opConv
  split <;> first | rfl | (split <;> first | rfl | rw [hr])

theorem bin_local {op : BinOp} {t : TypeId} {x y : AV} (hx : ∀ id ∈ (fpRead x).rh, h id = h' id) (hy : ∀ id ∈ (fpRead y).rh, h id = h' id) : opBin T h op t x y = opBin T h' op t x y := by
  have hr := eqNilH_local (T := T) (t := t) hx hy
  unfold opBin
  split <;> first | rfl | rw [hr]

theorem next_local {x : AV} (hx : ∀ id ∈ (fpWrite x).wh, h id = h' id) : opNext h x = opNext h' x := by
  unfold opNext
  split
  · rw [hx _ (by simp [fpWrite])]
  · rfl

theorem reach_seen : ∀ (n : Nat) (todo seen : List Nat) (id : Nat), id ∈ seen → id ∈ reach h n todo seen
  | 0, _, _, _, hs => hs
  | n + 1, [], _, _, hs => hs
  | n + 1, i :: todo, seen, id, hs => by
    unfold reach
    cases memN i seen
    · rw [cond_false]
      split
      · exact reach_seen n _ _ id (List.mem_append_left _ hs)
      · exact reach_seen n _ _ id (List.mem_append_left _ hs)
    · rw [cond_true]; exact reach_seen n _ _ id hs

theorem reach_local : ∀ (n : Nat) (todo seen : List Nat), (∀ id ∈ reach h n todo seen, h id = h' id) → reach h n todo seen = reach h' n todo seen
  | 0, _, _, _ => rfl
  | n + 1, [], _, _ => rfl
  | n + 1, i :: todo, seen, hs => by
    unfold reach at hs ⊢
    cases hm : memN i seen
    · rw [hm, cond_false] at hs
      rw [cond_false, cond_false]
      have hi : h i = h' i := by
        cases ho : h i with
        | none => simp only [ho] at hs; exact (ho.symm.trans (hs i (reach_seen n _ _ i (by simp))))
        | some o => simp only [ho] at hs; exact (ho.symm.trans (hs i (reach_seen n _ _ i (by simp))))
      rw [← hi]
      cases ho : h i with
      | none => simp only [ho] at hs; exact reach_local n _ _ hs
      | some o => simp only [ho] at hs; exact reach_local n _ _ hs
    · rw [hm, cond_true] at hs
      rw [cond_true, cond_true]
      exact reach_local n _ _ hs

theorem mapO_congr {α β : Type} {f g : α → Option β} : ∀ {l : List α}, (∀ x ∈ l, f x = g x) → mapO f l = mapO g l
  | [], _ => rfl
  | x :: xs, hl => by
    unfold mapO
    rw [hl x (by simp), mapO_congr fun y hy => hl y (by simp [hy])]

theorem PR.er_local {ad : Bool} {id : Nat} (hi : ad = true → h id = h' id) : ∀ p : PR, p.er h ad id = p.er h' ad id
  | .ret v => by
    unfold PR.er
    cases ad
    · rfl
    · congr 1
      split
      · rw [cond_true, cond_true, mkRows_local (hi rfl)]
      · rfl
  | .pan v => rfl
  | .br c a b => by unfold PR.er; rw [PR.er_local hi a, PR.er_local hi b]
  | .fail => rfl

theorem IR.er_quiet {ids : List Nat} : ∀ (r : IR), r.isQ = true → r.er ids nx = r.er ids nx'
  | .ret v hs, h => by simp [IR.isQ] at h
  | .qret v, _ => rfl
  | .pan v hs, h => by simp [IR.isQ] at h
  | .br c a b, h => by
    simp only [IR.isQ, Bool.and_eq_true] at h
    unfold IR.er
    rw [IR.er_quiet a h.1, IR.er_quiet b h.2]
  | .fail, _ => rfl

theorem call_local {ad : Bool} {id : Nat} {f : AV} {args : List AV} (hh : ∀ i ∈ (fpCall C h ad id f args).rh ++ (fpCall C h ad id f args).wh, h i = h' i) (hn : (fpCall C h ad id f args).all = true → nx = nx') :
    opCall C h nx ad id f args = opCall C h' nx' ad id f args ∧ fpCall C h ad id f args = fpCall C h' ad id f args := by
  unfold fpCall at hh hn ⊢
  unfold opCall
  split
  · rename_i g args' hg
    simp only [hg] at hh hn
    generalize hp : (cond (args'.all AV.still) (C.pure g args') PR.fail) = p at hh hn ⊢
    have key : p = .fail ∨ p.isFail = false := by cases p <;> simp [PR.isFail]
    rcases key with rfl | hf
    · simp only [PR.isFail, cond_true] at hh hn
      have hh' : ∀ i ∈ reach h reachF (cat refs2 args') [], h i = h' i := fun i hi => by
        cases hq : quietCall C h (reach h reachF (cat refs2 args') []) g args' <;> rw [hq] at hh <;> exact hh i (by simp [hi])
      have hr := reach_local reachF (cat refs2 args') [] hh'
      simp only [PR.isFail, cond_true, ← hr]
      generalize reach h reachF (cat refs2 args') [] = ids at hh' hh hn
      have hm := mapO_congr (f := h) (g := h') hh'
      have hqq : quietCall C h ids g args' = quietCall C h' ids g args' := by unfold quietCall; rw [hm]
      refine ⟨?_, by rw [hqq]⟩
      congr 1
      cases hq : quietCall C h ids g args'
      · rw [hq] at hn
        unfold impCall
        rw [show nx = nx' by simpa using hn, hm]
      · unfold quietCall at hq
        cases hqc : C.quiet g
        · rw [hqc] at hq; cases hq
        rw [hqc, cond_true] at hq
        unfold impCall
        rw [← hm]
        split
        · rename_i a1 hs1 h1 h2
          rw [h1, h2] at hq
          simp only at hq
          split
          · rename_i hs2 h3
            rw [h3] at hq
            simp only at hq
            rw [IR.er_quiet _ hq]
          · rfl
        · rfl
    · rw [hf, cond_false, cond_false]
      rw [hf, cond_false] at hh
      refine ⟨?_, rfl⟩
      congr 1
      cases p <;> first | (simp [PR.isFail] at hf; done) | skip
      all_goals (simp only; exact PR.er_local (fun ha => hh id (by subst ha; simp)) _)
  · exact ⟨rfl, rfl⟩

theorem mkVar_local {ty : Option TypeId} {heap : Bool} {id d : Nat} {cs : List AV} (hb : heap = false → b d = b' d) (hh : heap = true → h id = h' id) : mkVar ty heap b h id d cs = mkVar ty heap b' h' id d cs := by
  unfold mkVar mkCells
  cases heap
  · rw [hb rfl]; rfl
  · rw [newGen_local (hh rfl)]; rfl

theorem eqP_local {op : BinOp} {t : TypeId} {x y : AV} (hx : ∀ id ∈ (fpRead x).rh, h id = h' id) (hy : ∀ id ∈ (fpRead y).rh, h id = h' id) : opEqP T h op t x y = opEqP T h' op t x y := by
  unfold opEqP
  split
  · rename_i id g off id' g' off'
    have e1 : h.get id = h'.get id := hx _ (by simp [fpRead])
    have e2 : h.get id' = h'.get id' := hy _ (by simp [fpRead])
    rw [e1, e2]
  · rfl
  · rfl

theorem convP_local {s t : TypeId} {x : AV} (hx : ∀ id ∈ (fpRead x).rh, h id = h' id) : opConvP T h s t x = opConvP T h' s t x := by
  unfold opConvP
  split
  · rename_i id g off
    have e1 : h.get id = h'.get id := hx _ (by simp [fpRead])
    rw [e1]
  · rfl
  · rfl
  · rfl

theorem unsafeString_local {pt : TypeId} {x n : AV} (hx : ∀ id ∈ (fpWrite x).wh, h id = h' id) : opUnsafeString T h pt x n = opUnsafeString T h' pt x n := by
  unfold opUnsafeString
  split
  · rfl
  · rename_i id g sz i off k
    have e1 : h.get id = h'.get id := hx _ (by simp [fpWrite])
    split
    · rw [e1]
    · rfl
  · rfl

theorem uns_local {b : Builtin} {ts : List TypeId} {args : List AV} (hx : b = .unsafeString → ∀ x l, args = x :: l → ∀ id ∈ (fpWrite x).wh, h id = h' id) : opUns T h b ts args = opUns T h' b ts args := by
  unfold opUns
  congr 1
  split
  · rfl
  · split
    · exact unsafeString_local (hx rfl _ _ rfl)
    · rfl
  · rfl

theorem lookup_local {t : TypeId} {x k : AV} {ok : Bool} (hh : ∀ i ∈ (fpRead x).rh, h i = h' i) : opLookup T h t x k ok = opLookup T h' t x k ok := by
  unfold opLookup
  cases x with
  | hm id g => simp only [hh id (by simp [fpRead])]
  | s v => cases v <;> rfl
  | _ => rfl

theorem mapUpd_local {t : TypeId} {x k v : AV} (hh : ∀ i ∈ (fpWrite x).wh, h i = h' i) : opMapUpd T h t x k v = opMapUpd T h' t x k v := by
  unfold opMapUpd
  generalize T t = q
  cases x with
  | hm id g =>
    have e : h.get id = h'.get id := hh id (by simp [fpWrite])
    cases q with
    | none => rfl
    | some i => cases i with | mk d _ _ _ _ => cases d <;> first | rfl | simp only [e]
  | _ => cases q with
    | none => rfl
    | some i => cases i with | mk d _ _ _ _ => cases d <;> rfl

theorem evalOp_local (hb : ∀ d ∈ (fpOp C an ρ h base o).rb ++ (fpOp C an ρ h base o).wb, b d = b' d) (hh : ∀ i ∈ (fpOp C an ρ h base o).rh ++ (fpOp C an ρ h base o).wh, h i = h' i) (hn : (fpOp C an ρ h base o).all = true → nx = nx') :
    evalOp T C an ρ b h base nx o = evalOp T C an ρ b' h' base nx' o ∧ fpOp C an ρ h base o = fpOp C an ρ h' base o := by
  unfold fpOp at hb hh hn ⊢
  unfold evalOp
  cases hop : o.op <;> rw [hop] at hb hh hn <;> simp only at hb hh hn ⊢ <;> (try exact ⟨trivial, trivial⟩) <;> (try exact ⟨rfl, trivial⟩)
  case alloc e =>
    refine ⟨?_, trivial⟩
    split
    · exact mkVar_local (fun e => hb _ (by simp [e])) (fun e => hh _ (by simp [e]))
    · rfl
  case box e x => exact ⟨mkVar_local (fun e => hb _ (by simp [e])) (fun e => hh _ (by simp [e])), trivial⟩
  case buildSlice t n ps =>
    refine ⟨?_, trivial⟩
    cases hm : an.heap (o.dst.getD 0)
    · rfl
    · unfold opBSlice
      have e : ∀ sz m f, mkRows none h (base + o.dst.getD 0) sz m f = mkRows none h' (base + o.dst.getD 0) sz m f := fun sz m f => mkRows_local (hh _ (by simp [hm]))
      simp only [e]
  case makeFunc f _ _ => cases f <;> exact ⟨rfl, trivial⟩
  case slice t x lo hi m => cases m <;> exact ⟨rfl, trivial⟩
  case load t x =>
    refine ⟨?_, trivial⟩
    split
    · exact load_local (fun d hd => hb d (by simp [hd])) (fun d hd => hh d (by simp [hd]))
    · rfl
  case store t x y =>
    refine ⟨?_, trivial⟩
    split
    · exact store_local (fun d hd => hb d (by simp [hd])) (fun d hd => hh d (by simp [hd]))
    · rfl
  case binOp op t x y _ =>
    have e1 := bin_local (T := T) (op := op) (t := t) (x := ρ x) (y := ρ y) (h := h) (h' := h') (fun d hd => hh d (by simp [Fp.join, hd])) (fun d hd => hh d (by simp [Fp.join, hd]))
    have e2 := eqP_local (T := T) (op := op) (t := t) (x := ρ x) (y := ρ y) (h := h) (h' := h') (fun d hd => hh d (by simp [Fp.join, hd])) (fun d hd => hh d (by simp [Fp.join, hd]))
    exact ⟨by simp only [e1, e2], trivial⟩
  case convert s t x =>
    have e1 := conv_local (T := T) (s := s) (t := t) (x := ρ x) (h := h) (h' := h') (fun d hd => hh d (by simp [Fp.join, hd]))
    have e2 := convP_local (T := T) (s := s) (t := t) (x := ρ x) (h := h) (h' := h') (fun d hd => hh d (by simp [Fp.join, hd]))
    cases hm : memN (o.dst.getD 0) an.adopt
    · exact ⟨by simp only [e1, e2, cond_false], trivial⟩
    · have e3 : opConvH T h (base + o.dst.getD 0) s t (ρ x) = opConvH T h' (base + o.dst.getD 0) s t (ρ x) := by
        have hg : newGen h (base + o.dst.getD 0) = newGen h' (base + o.dst.getD 0) := newGen_local (hh _ (by simp [Fp.join, hm]))
        unfold opConvH mkRows
        rw [hg]
      exact ⟨by simp only [e2, e3, cond_true], trivial⟩
  case makeSlice t l c =>
    refine ⟨?_, trivial⟩
    cases hm : an.heap (o.dst.getD 0)
    · rfl
    · unfold opMkSlice
      have e : ∀ sz m f, mkRows none h (base + o.dst.getD 0) sz m f = mkRows none h' (base + o.dst.getD 0) sz m f := fun sz m f => mkRows_local (hh _ (by simp [hm]))
      simp only [e]
  case range t x =>
    refine ⟨?_, trivial⟩
    rw [newGen_local (hh _ (by simp))]
  case next x isS =>
    refine ⟨?_, trivial⟩
    cases isS
    · rfl
    · exact next_local (fun d hd => hh d (by simp [hd]))
  case makeMap t r =>
    refine ⟨?_, trivial⟩
    cases r
    · simp only
      rw [newGen_local (hh _ (by simp))]
    · rfl
  case lookup t x k ok => exact ⟨lookup_local (fun d hd => hh d (by simp [hd])), trivial⟩
  case mapUpdate t x k v => exact ⟨mapUpd_local (fun d hd => hh d (by simp [hd])), trivial⟩
  case insert t x k v => exact ⟨mapUpd_local (fun d hd => hh d (by simp [hd])), trivial⟩
  case call c =>
    cases hc : c.callee with
    | value f =>
      simp only [hc] at hb hh hn ⊢
      exact call_local hh hn
    | invoke r n => exact ⟨rfl, rfl⟩
    | builtin bi =>
      simp only [hc] at hb hh hn ⊢
      refine ⟨?_, by cases bi <;> rfl⟩
      generalize c.args.toList.map ρ = args at hb hh hn ⊢
      generalize c.argTypes.toList = ts at hb hh hn ⊢
      have e0 : opUns T h bi ts args = opUns T h' bi ts args := uns_local (fun e x l hl id hid => hh id (by subst e hl; simp [hid]))
      rw [e0]
      suffices hs : opBuiltin T h (base + o.dst.getD 0) bi ts args = opBuiltin T h' (base + o.dst.getD 0) bi ts args by rw [hs]
      unfold opBuiltin
      split
      · rename_i t u s x
        split
        · split
          · congr 1
            cases s with
            | s v => cases v <;> first | rfl | exact append_local (fun _ => hh _ (by simp [Fp.join])) (fun i hi => by simp [fpWrite] at hi) (fun i hi => hh i (by simp [Fp.join, hi]))
            | _ => first | rfl | exact append_local (fun e => by cases e) (fun i hi => hh i (by simp [Fp.join, hi])) (fun i hi => hh i (by simp [Fp.join, hi]))
          · rfl
        · split
          · congr 1
            cases s with
            | s v => cases v <;> first | rfl | exact append_local (fun _ => hh _ (by simp [Fp.join])) (fun i hi => by simp [fpWrite] at hi) (fun i hi => hh i (by simp [Fp.join, hi]))
            | _ => first | rfl | exact append_local (fun e => by cases e) (fun i hi => hh i (by simp [Fp.join, hi])) (fun i hi => hh i (by simp [Fp.join, hi]))
          · rfl
        · rfl
      · rfl
      · split
        · split
          · split
            · congr 1
              exact copy_local (fun i hi => hh i (by simp [Fp.join, hi])) (fun i hi => hh i (by simp [Fp.join, hi]))
            · rfl
          · rfl
        · rfl
      · rfl
      · rfl
      · rfl

end

end Go.Ev
