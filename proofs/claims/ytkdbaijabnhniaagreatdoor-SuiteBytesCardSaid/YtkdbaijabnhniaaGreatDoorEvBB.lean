/- Loops: the state cut down to what is kept, and rounds. -/
import Derived.Test.YtkdbaijabnhniaaGreatDoorEvBA
namespace Go.Ev

def okKeep (kb : List Nat) : AV → Bool
  | .s _ | .ptr .. | .pai .. | .ep .. | .sl .. | .hm .. | .own .. => true
  | .lref d _ | .lai d _ _ _ _ => memN d kb
  | .agg cs => cs.all AV.flat0
  | .clo _ a b => a.all AV.flat0 && b.all AV.flat0
  | _ => false

def lookA : List (Nat × AV) → Nat → AV
  | [], _ => .undef
  | (k, v) :: l, i => cond (Nat.beq i k) v (lookA l i)

def lookB : List (Nat × List AV) → Nat → Option (List AV)
  | [], _ => none
  | (k, v) :: l, i => cond (Nat.beq i k) (some v) (lookB l i)

def cutS (kb : List Nat) (s : Nat → AV) : List Nat → List (Nat × AV)
  | [] => []
  | k :: ks => (k, cond (okKeep kb (s k)) (s k) .undef) :: cutS kb s ks

def cutB (b : Nat → Option (List AV)) : List Nat → List (Nat × List AV)
  | [] => []
  | k :: ks => match b k with
    | some cs => (k, cs) :: cutB b ks
    | none => cutB b ks

def St.cut (ks kb : List Nat) (st : St) : St := { st with s := lookA (cutS kb st.s ks), b := lookB (cutB st.b kb) }

theorem cutS_at {kb : List Nat} {s : Nat → AV} : ∀ {ks : List Nat} {i : Nat}, lookA (cutS kb s ks) i = .undef ∨ (lookA (cutS kb s ks) i = s i ∧ okKeep kb (s i) = true)
  | [], i => .inl rfl
  | k :: ks, i => by
    simp only [cutS, lookA]
    by_cases h : i = k
    · subst h
      rw [beq_self, cond_true]
      cases hk : okKeep kb (s i)
      · exact .inl rfl
      · exact .inr ⟨rfl, rfl⟩
    · rw [beq_ne h, cond_false]
      exact cutS_at

theorem cutB_at {b : Nat → Option (List AV)} : ∀ {kb : List Nat} {i : Nat}, lookB (cutB b kb) i = cond (memN i kb) (b i) none
  | [], i => rfl
  | k :: kb, i => by
    simp only [cutB, memN]
    by_cases h : i = k
    · subst h
      rw [beq_self, cond_true, cond_true]
      cases hb : b i with
      | none =>
        simp only
        rw [cutB_at, hb]
        cases memN i kb <;> rfl
      | some cs => simp only [lookB, beq_self, cond_true]
    · rw [beq_ne h, cond_false]
      cases hb : b k with
      | none => exact cutB_at
      | some cs => simp only [lookB, beq_ne h, cond_false]; exact cutB_at

def Env.keepB (E : Env) (kb : List Nat) : Env := { E with B := fun d => cond (memN d kb) (E.B d) none }

section
variable {P : Program} {G : Gl} {E : Env} {st : St} {a : Act} {w : World} {kb : List Nat}

theorem VA.flat0 {v : AV} {x : Value} (hf : v.flat0 = true) (h : VA E v x) : VA (E.keepB kb) v x := by
  unfold AV.flat0 at hf
  split at hf <;> first | (simp only [VA] at h ⊢; exact h) | cases hf

theorem VAs.flat0 : ∀ {vs : List AV} {ys : List Value}, vs.all AV.flat0 = true → VAs E vs ys → VAs (E.keepB kb) vs ys
  | [], ys, _, h => by simpa only [VAs] using h
  | v :: vs, ys, hf, h => by
    simp only [List.all_cons, Bool.and_eq_true] at hf
    simp only [VAs] at h ⊢
    obtain ⟨y, r, rfl, h1, h2⟩ := h
    exact ⟨y, r, rfl, h1.flat0 hf.1, VAs.flat0 hf.2 h2⟩

theorem VA.keepB {v : AV} {x : Value} (hk : okKeep kb v = true) (h : VA E v x) : VA (E.keepB kb) v x := by
  cases v with
  | s v => simp only [VA] at h ⊢; exact h
  | ptr => simp only [VA] at h ⊢; exact h
  | pai => simp only [VA] at h ⊢; exact h
  | ep => simp only [VA] at h ⊢; exact h
  | sl => simp only [VA] at h ⊢; exact h
  | hm => simp only [VA] at h ⊢; exact h
  | own => simp only [VA] at h ⊢; exact h
  | lref d off =>
    simp only [okKeep] at hk
    simp only [VA, Env.keepB, hk, cond_true] at h ⊢
    exact h
  | lai d off cnt sz i =>
    simp only [okKeep] at hk
    simp only [VA, Env.keepB, hk, cond_true] at h ⊢
    exact h
  | agg cs =>
    simp only [okKeep] at hk
    simp only [VA] at h ⊢
    obtain ⟨ys, rfl, h⟩ := h
    exact ⟨ys, rfl, VAs.flat0 hk h⟩
  | clo f a b =>
    simp only [okKeep, Bool.and_eq_true] at hk
    simp only [VA] at h ⊢
    obtain ⟨fs, cs, rfl, h1, h2⟩ := h
    exact ⟨fs, cs, rfl, VAs.flat0 hk.1 h1, VAs.flat0 hk.2 h2⟩
  | undef => simp [VA]
  | tup => simp [okKeep] at hk

theorem VA.keepF {v : AV} {x : Value} (hk : v.flat = true) (h : VA E v x) : VA (E.keepB kb) v x := by
  refine VA.keepB ?_ h
  cases v <;> simp_all [AV.flat, okKeep]

theorem VAs.keepF : ∀ {vs : List AV} {ys : List Value}, vs.all AV.flat = true → VAs E vs ys → VAs (E.keepB kb) vs ys
  | [], ys, _, h => by simpa only [VAs] using h
  | v :: vs, ys, hf, h => by
    simp only [List.all_cons, Bool.and_eq_true] at hf
    simp only [VAs] at h ⊢
    obtain ⟨y, r, rfl, h1, h2⟩ := h
    exact ⟨y, r, rfl, h1.keepF hf.1, VAs.keepF hf.2 h2⟩

theorem ObjR.keepB {id : Nat} {o : HO} (h : ObjR E w id o) : ObjR (E.keepB kb) w id o := by
  unfold ObjR at *
  split at h
  · obtain ⟨h1, h2, c, e, h3, h4, h5⟩ := h
    exact ⟨h1, h2, c, e, h3, VAs.keepF h5 h4, h5⟩
  · exact h
  · exact h
  · exact h
  · exact h

theorem Rel.cut (R : Rel G E st a w) (ks : List Nat) : Rel G (E.keepB kb) (st.cut ks kb) a w ∧ Evo E w (E.keepB kb) w := by
  have hb : ∀ d blk, (E.keepB kb).B d = some blk → memN d kb = true ∧ E.B d = some blk := fun d blk h => by
    simp only [Env.keepB] at h
    cases hm : memN d kb
    · rw [hm] at h; cases h
    · rw [hm] at h; exact ⟨rfl, h⟩
  have hown : ∀ blk, Owned (E.keepB kb) blk → Owned E blk := by
    rintro blk (⟨d, h⟩ | ⟨i, h1, h2⟩)
    · exact .inl ⟨d, (hb d blk h).2⟩
    · exact .inr ⟨i, h1, h2⟩
  refine ⟨⟨fun i => ?_, R.defers, R.size, ⟨fun id o h => (R.heap.obj id o h).keepB, R.heap.non, fun id o h => R.heap.ty id o h⟩, fun d cs h => ?_, fun d h => ?_, R.fz, R.own, ⟨fun d blk h => ?_, fun id h => R.disj.obj id h⟩, R.glob, fun blk h => R.lt blk (hown blk h), R.new, R.nxb⟩,
    ⟨⟨fun _ _ h => h, fun _ _ h => h, fun id g n h => ⟨g, n, h, Nat.le_refl _, fun _ => ⟨rfl, rfl⟩⟩⟩, Nat.le_refl _, fun _ _ _ => rfl, fun blk h => .inl (hown blk h), fun _ _ h => .inl h, rfl, rfl, rfl⟩⟩
  · simp only [St.cut]
    rcases cutS_at (kb := kb) (s := st.s) (ks := ks) (i := i) with h | ⟨h1, h2⟩
    · rw [h]; simp [VA]
    · rw [h1]; exact (R.slots i).keepB h2
  · simp only [St.cut, cutB_at] at h
    cases hm : memN d kb
    · rw [hm] at h; cases h
    · rw [hm, cond_true] at h
      obtain ⟨blk, h1, c, e, h2, h3, h4⟩ := R.box d cs h
      exact ⟨blk, by simp only [Env.keepB, hm, cond_true]; exact h1, c, e, h2, VAs.keepF h4 h3, h4⟩
  · simp only [St.cut, cutB_at] at h
    simp only [Env.keepB]
    cases hm : memN d kb
    · rfl
    · rw [hm, cond_true] at h
      rw [cond_true]
      exact R.boxN d h
  · obtain ⟨_, h⟩ := hb d blk h
    obtain ⟨d1, d2, d3⟩ := R.disj.box d blk h
    exact ⟨d1, fun d' h' => d2 d' (hb d' blk h').2, d3⟩

end
end Go.Ev

namespace Go.Ev

/-- so many rounds at most; each begins with what is kept -/
def iterC (T : Tab) (C : Orc) (an : Ann) (L : Code → St → LT) (c : Code) (ks kb : List Nat) : Nat → St → Option (Ex × St)
  | 0, _ => none
  | n + 1, st => runC T C an L c (st.cut ks kb) fun e st' => match e with
    | .normal => iterC T C an L c ks kb n st'
    | e => some (e, st'.cut ks kb)

section
variable {P : Program} {G : Gl} {T : Tab} {C : Orc} {an : Ann} {L : Code → St → LT}

theorem ExR.keepB {F : Env} {kb : List Nat} {e : Ex} {e' : Exit} (h : ExR F e e') : ExR (F.keepB kb) e e' := by
  cases e <;> exact h

theorem iter_wp (A : Oks P G T C an) {c : Code} (hL : LoopsOK P G L c) {ks kb : List Nat} {x : Ex × St} : ∀ (n : Nat) (st : St) (E : Env) (a : Act) (w : World), iterC T C an L c ks kb n st = some x → Rel G E st a w →
    ∀ Q, Post G E w (fun e s => x = (e, s)) Q → Code.rounds P c Q n a w
  | 0, st, E, a, w, h, R, Q, hQ => by cases h
  | n + 1, st, E, a, w, h, R, Q, hQ => by
    rw [rounds_succ]
    obtain ⟨R1, E1⟩ := R.cut (kb := kb) ks
    refine runC_wp A c _ _ _ a w _ hL R1 h fun e st' F e' b v hk he hR hE => ?_
    have fin : e ≠ .normal → some (e, st'.cut ks kb) = some x → Q e' b v := fun _ hk => by
      injection hk with hk
      obtain ⟨R2, E2⟩ := hR.cut (kb := kb) ks
      exact hQ e _ _ e' b v hk.symm he.keepB R2 ((E1.trans hE).trans E2)
    cases e with
    | normal =>
      have he : e' = .normal := he
      subst he
      exact iter_wp A hL n st' F b v hk hR Q fun e2 s2 F2 e2' b2 v2 q1 q2 q3 q4 => hQ e2 s2 F2 e2' b2 v2 q1 q2 q3 ((E1.trans hE).trans q4)
    | exit i =>
      have := fin (by simp) hk
      have he : e' = .exit i := he
      subst he
      exact this
    | ret =>
      have := fin (by simp) hk
      have he : e' = .ret := he
      subst he
      exact this
    | goto l =>
      have := fin (by simp) hk
      have he : e' = .goto l := he
      subst he
      exact this
    | pan z =>
      have := fin (by simp) hk
      obtain ⟨X, rfl, _⟩ := he
      exact this

/-- a loop whose oracle tells what its rounds come to -/
theorem loopOK_of (A : Oks P G T C an) {c : Code} (hL : LoopsOK P G L c) (ks kb : List Nat) (h : ∀ st x, (L c st).leaf = some x → ∃ n, iterC T C an L c ks kb n st = some x) : LoopOK P G L c := by
  intro E st a w x R hl Q hQ
  obtain ⟨n, hn⟩ := h st x hl
  exact wp_loop_rounds n (iter_wp A hL n st E a w hn R Q hQ)

end
end Go.Ev
