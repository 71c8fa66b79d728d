/- Runs with unknown values: what goes on behind a part, rounds of a loop on cut states. -/
import Derived.Test.YtkdbaijabnhniaaGreatDoorEvDC
namespace Go.Ev

section
variable {R : Type} (T : Tab) (C : Orc) (an : Ann) (L : Code → St → LT)

def thenK (y : Code) (K : Ex → St → Option R) : Ex → St → Option R := fun e st => match e with
  | .normal => runC T C an L y st K
  | e => K e st

def iterD (c : Code) (ks kb : List Nat) : Nat → St → Option (Ex × St)
  | 0, _ => none
  | n + 1, st => runC T C an L c st fun e st' => match e with
    | .normal => iterD c ks kb n (st'.cut ks kb)
    | e => some (e, st'.cut ks kb)

theorem iterC_eq (c : Code) (ks kb : List Nat) : ∀ (n : Nat) (st : St), iterC T C an L c ks kb n st = iterD T C an L c ks kb n (st.cut ks kb)
  | 0, _ => rfl
  | n + 1, st => by
    simp only [iterC, iterD]
    congr 1
    funext e st'
    cases e with
    | normal => exact iterC_eq c ks kb n st'
    | _ => rfl
end

def blockK {R : Type} (id : Nat) (K : Ex → St → Option R) : Ex → St → Option R := fun e st => match e with
  | .exit i => cond (Nat.beq i id) (K .normal st) (K (.exit i) st)
  | e => K e st

def scopeK {R : Type} (K : Ex → St → Option R) : Ex → St → Option R := fun e st => match e with
  | .goto _ => none
  | e => K e st

def ltOf : Option (Ex × St) → LT
  | some (e, s) => .out e s
  | none => .fail

def subC : List Nat → Code → Code
  | [], c => c
  | k :: p, c => match c with
    | .seq a b => subC p (cond (Nat.beq k 0) a b)
    | .cond _ a b => subC p (cond (Nat.beq k 0) a b)
    | .block _ a => subC p a
    | .loop a => subC p a
    | .scope a => subC p a
    | c => c

/-- loops by so many rounds, on cut states -/
def loopD (T : Tab) (C : Orc) (an : Ann) (ks kb : Code → List Nat) (rounds : Nat) : Nat → Code → St → LT
  | 0, _, _ => .fail
  | d + 1, c, st => ltOf (iterD T C an (loopD T C an ks kb rounds d) c (ks c) (kb c) rounds (st.cut (ks c) (kb c)))

section
variable {P : Program} {G : Gl} {T : Tab} {C : Orc} {an : Ann}

theorem loopD_ok (A : Oks P G T C an) (ks kb : Code → List Nat) (rounds : Nat) (d : Nat) : ∀ c : Code, LoopsOK P G (loopD T C an ks kb rounds d) c := by
  induction d with
  | zero =>
    intro c
    induction c with
    | loop c _ => intro E st a w x R h; cases h
    | seq a b ha hb => exact ⟨ha, hb⟩
    | cond x a b ha hb => exact ⟨ha, hb⟩
    | block i c h => exact h
    | scope c h => exact h
    | _ => trivial
  | succ d ih =>
    intro c
    induction c with
    | loop c _ =>
      intro E st a w x R h Q hQ
      simp only [loopD] at h
      rw [← iterC_eq] at h
      generalize hi : iterC T C an (loopD T C an ks kb rounds d) c (ks c) (kb c) rounds st = y at h
      cases y with
      | none => cases h
      | some y =>
        obtain ⟨e, s⟩ := y
        simp only [ltOf, LT.leaf, Option.some.injEq] at h
        subst h
        exact wp_loop_rounds rounds (iter_wp A (ih c) rounds st E a w hi R Q hQ)
    | seq a b ha hb => exact ⟨ha, hb⟩
    | cond x a b ha hb => exact ⟨ha, hb⟩
    | block i c h => exact h
    | scope c h => exact h
    | _ => trivial
end

end Go.Ev

namespace Go.Ev

def AV.sh0 (σ : Nat → Nat) : AV → AV
  | .ptr id g off => .ptr id (g + σ id) off
  | .sl id g sz off len => .sl id (g + σ id) sz off len
  | .hm id g => .hm id (g + σ id)
  | v => v
def AV.sh1 (σ : Nat → Nat) : AV → AV
  | .clo f a b => .clo f (a.map (AV.sh0 σ)) (b.map (AV.sh0 σ))
  | v => v.sh0 σ
def HO.sh (σ : Nat → Nat) (id : Nat) (o : HO) : HO := ⟨o.gen + σ id, match o.p with | .cells cs => .cells (cs.map (AV.sh1 σ)) | p => p, o.ty⟩
def shL (σ : Nat → Nat) : Nat → List HO → List HO
  | _, [] => []
  | k, o :: os => o.sh σ k :: shL σ (k + 1) os

theorem shL_get (σ : Nat → Nat) : ∀ (l : List HO) (k i : Nat), (shL σ k l)[i]? = (l[i]?).map (HO.sh σ (k + i))
  | [], k, i => by simp [shL]
  | o :: os, k, 0 => by simp [shL]
  | o :: os, k, i + 1 => by
    simp only [shL, List.getElem?_cons_succ]
    rw [shL_get σ os (k + 1) i, show k + 1 + i = k + (i + 1) by omega]

theorem shL_len (σ : Nat → Nat) : ∀ (l : List HO) (k : Nat), (shL σ k l).length = l.length
  | [], _ => rfl
  | o :: os, k => by simp [shL, shL_len σ os]

section
variable {E : Env} {σ : Nat → Nat}

def Env.up (E : Env) (σ : Nat → Nat) : Env := { E with I := fun id => (E.I id).map fun p => (p.1 + σ id, p.2) }
def Env.dn (E : Env) (σ : Nat → Nat) : Env := { E with I := fun id => (E.I id).map fun p => (p.1 - σ id, p.2) }

theorem VA.up0 {v : AV} {x : Value} (hf : v.flat0 = true) (h : VA E v x) : VA (E.up σ) (v.sh0 σ) x := by
  unfold AV.flat0 at hf
  split at hf
  · exact h
  · rename_i id g off
    simp only [AV.sh0, VA] at h ⊢
    obtain ⟨hc, g', n, hI, hle, he⟩ := h
    exact ⟨hc, g' + σ id, n, by simp [Env.up, hI], by omega, fun e => he (by omega)⟩
  · rename_i id g sz off len
    simp only [AV.sh0, VA] at h ⊢
    obtain ⟨hc, g', n, hI, hle, he⟩ := h
    exact ⟨hc, g' + σ id, n, by simp [Env.up, hI], by omega, fun e => he (by omega)⟩
  · rename_i id g
    simp only [AV.sh0, VA] at h ⊢
    obtain ⟨hc, g', n, hI, hle, he⟩ := h
    exact ⟨hc, g' + σ id, n, by simp [Env.up, hI], by omega, fun e => he (by omega)⟩
  · cases hf

theorem VA.dn0 {v : AV} {x : Value} (hf : v.flat0 = true) (h : VA E (v.sh0 σ) x) : VA (E.dn σ) v x := by
  unfold AV.flat0 at hf
  split at hf
  · exact h
  · rename_i id g off
    simp only [AV.sh0, VA] at h ⊢
    obtain ⟨hc, g', n, hI, hle, he⟩ := h
    exact ⟨hc, g' - σ id, n, by simp [Env.dn, hI], by omega, fun e => he (by omega)⟩
  · rename_i id g sz off len
    simp only [AV.sh0, VA] at h ⊢
    obtain ⟨hc, g', n, hI, hle, he⟩ := h
    exact ⟨hc, g' - σ id, n, by simp [Env.dn, hI], by omega, fun e => he (by omega)⟩
  · rename_i id g
    simp only [AV.sh0, VA] at h ⊢
    obtain ⟨hc, g', n, hI, hle, he⟩ := h
    exact ⟨hc, g' - σ id, n, by simp [Env.dn, hI], by omega, fun e => he (by omega)⟩
  · cases hf

theorem VAs.mapP {E F : Env} {q : AV → AV} {p : AV → Bool} (hq : ∀ v x, p v = true → VA E v x → VA F (q v) x) : ∀ {vs : List AV} {xs : List Value}, vs.all p = true → VAs E vs xs → VAs F (vs.map q) xs
  | [], _, _, h => h
  | v :: vs, xs, hp, h => by
    simp only [List.all_cons, Bool.and_eq_true] at hp
    obtain ⟨y, r, rfl, h1, h2⟩ := h
    exact ⟨y, r, rfl, hq _ _ hp.1 h1, VAs.mapP hq hp.2 h2⟩

theorem VAs.unmapP {E F : Env} {q : AV → AV} {p : AV → Bool} (hq : ∀ v x, p v = true → VA E (q v) x → VA F v x) : ∀ {vs : List AV} {xs : List Value}, vs.all p = true → VAs E (vs.map q) xs → VAs F vs xs
  | [], _, _, h => h
  | v :: vs, xs, hp, h => by
    simp only [List.all_cons, Bool.and_eq_true] at hp
    obtain ⟨y, r, rfl, h1, h2⟩ := h
    exact ⟨y, r, rfl, hq _ _ hp.1 h1, VAs.unmapP hq hp.2 h2⟩

theorem VA.up1 {v : AV} {x : Value} (hf : v.flat = true) (h : VA E v x) : VA (E.up σ) (v.sh1 σ) x := by
  cases v with
  | clo f a b =>
    simp only [AV.flat, Bool.and_eq_true] at hf
    simp only [AV.sh1, VA] at h ⊢
    obtain ⟨fs, cs, rfl, h1, h2⟩ := h
    exact ⟨fs, cs, rfl, VAs.mapP (fun _ _ => VA.up0) hf.1 h1, VAs.mapP (fun _ _ => VA.up0) hf.2 h2⟩
  | s v => exact h
  | ptr id g off => exact VA.up0 (v := .ptr id g off) rfl h
  | sl id g sz off len => exact VA.up0 (v := .sl id g sz off len) rfl h
  | hm id g => exact VA.up0 (v := .hm id g) rfl h
  | _ => cases hf

theorem VA.dn1 {v : AV} {x : Value} (hf : v.flat = true) (h : VA E (v.sh1 σ) x) : VA (E.dn σ) v x := by
  cases v with
  | clo f a b =>
    simp only [AV.flat, Bool.and_eq_true] at hf
    simp only [AV.sh1, VA] at h ⊢
    obtain ⟨fs, cs, rfl, h1, h2⟩ := h
    exact ⟨fs, cs, rfl, VAs.unmapP (fun _ _ => VA.dn0) hf.1 h1, VAs.unmapP (fun _ _ => VA.dn0) hf.2 h2⟩
  | s v => exact h
  | ptr id g off => exact VA.dn0 (v := .ptr id g off) rfl h
  | sl id g sz off len => exact VA.dn0 (v := .sl id g sz off len) rfl h
  | hm id g => exact VA.dn0 (v := .hm id g) rfl h
  | _ => cases hf

theorem sh0_flat0 (v : AV) : (v.sh0 σ).flat0 = v.flat0 := by cases v <;> rfl
theorem sh1_flat (v : AV) : (v.sh1 σ).flat = v.flat := by
  have key : ∀ l : List AV, (l.map (AV.sh0 σ)).all AV.flat0 = l.all AV.flat0 := fun l => by
    induction l with
    | nil => rfl
    | cons a l ih => simp only [List.map_cons, List.all_cons, sh0_flat0, ih]
  cases v with
  | clo f a b => simp only [AV.sh1, AV.flat, key]
  | _ => rfl
theorem sh1_all (l : List AV) : (l.map (AV.sh1 σ)).all AV.flat = l.all AV.flat := by
  induction l with
  | nil => rfl
  | cons a l ih => simp only [List.map_cons, List.all_cons, sh1_flat, ih]

theorem ObjR.up {w : World} {id : Nat} {o : HO} (h : ObjR E w id o) : ObjR (E.up σ) w id (o.sh σ id) := by
  obtain ⟨g, p, ty⟩ := o
  unfold ObjR at h
  unfold ObjR HO.sh
  have hI : ∀ n, E.I id = some (g, n) → (E.up σ).I id = some (g + σ id, n) := fun n q => by simp [Env.up, q]
  cases p with
  | cells cs =>
    simp only at h ⊢
    obtain ⟨h1, h2, c, e, h3, h4, h5⟩ := h
    exact ⟨by simpa using hI _ h1, h2, c, e, h3, VAs.mapP (fun _ _ => VA.up1) h5 h4, by rw [sh1_all]; exact h5⟩
  | rows sz n f => simp only at h ⊢; exact ⟨hI _ h.1, h.2⟩
  | iter l p => simp only at h ⊢; exact ⟨hI _ h.1, h.2⟩
  | map es => simp only at h ⊢; exact ⟨hI _ h.1, h.2⟩
  | ro sz n f => simp only at h ⊢; exact ⟨hI _ h.1, h.2⟩

theorem ObjR.dn {w : World} {id : Nat} {o : HO} (h : ObjR E w id (o.sh σ id)) : ObjR (E.dn σ) w id o := by
  obtain ⟨g, p, ty⟩ := o
  unfold ObjR HO.sh at h
  unfold ObjR
  have hI : ∀ n, E.I id = some (g + σ id, n) → (E.dn σ).I id = some (g, n) := fun n q => by simp [Env.dn, q]
  cases p with
  | cells cs =>
    simp only at h ⊢
    obtain ⟨h1, h2, c, e, h3, h4, h5⟩ := h
    rw [sh1_all] at h5
    exact ⟨by simpa using hI _ h1, h2, c, e, h3, VAs.unmapP (fun _ _ => VA.dn1) h5 h4, h5⟩
  | rows sz n f => simp only at h ⊢; exact ⟨hI _ h.1, h.2⟩
  | iter l p => simp only at h ⊢; exact ⟨hI _ h.1, h.2⟩
  | map es => simp only at h ⊢; exact ⟨hI _ h.1, h.2⟩
  | ro sz n f => simp only at h ⊢; exact ⟨hI _ h.1, h.2⟩

theorem up_some {id : Nat} : ((E.up σ).I id).isSome = (E.I id).isSome := by simp [Env.up]
theorem dn_some {id : Nat} : ((E.dn σ).I id).isSome = (E.I id).isSome := by simp [Env.dn]

theorem up_own {blk : Nat} : Owned (E.up σ) blk ↔ Owned E blk := by
  unfold Owned
  simp only [up_some]
  exact Iff.rfl
theorem dn_own {blk : Nat} : Owned (E.dn σ) blk ↔ Owned E blk := by
  unfold Owned
  simp only [dn_some]
  exact Iff.rfl

theorem Core.up {G : Gl} {w : World} {l : List HO} (h : Core G E (heapOf l) w) : Core G (E.up σ) (heapOf (shL σ 0 l)) w := by
  refine ⟨⟨fun id o ho => ?_, fun id ho => ?_, fun id o ho => ?_⟩, h.fz, h.own, h.box, ⟨fun d blk q => (nomatch (congrFun h.box d ▸ q)), fun id hi => ?_⟩, h.glob, fun blk q => h.lt blk (up_own.1 q)⟩
  · rw [heapOf_eq, shL_get, Nat.zero_add] at ho
    obtain ⟨p, hp, rfl⟩ := Option.map_eq_some_iff.1 ho
    exact (h.heap.obj id p (by rw [heapOf_eq]; exact hp)).up
  · rw [heapOf_eq, shL_get, Option.map_eq_none_iff] at ho
    have := h.heap.non id (by rw [heapOf_eq]; exact ho)
    simp [Env.up, this]
  · rw [heapOf_eq, shL_get, Nat.zero_add] at ho
    obtain ⟨p, hp, rfl⟩ := Option.map_eq_some_iff.1 ho
    exact h.heap.ty id p (by rw [heapOf_eq]; exact hp)
  · rw [up_some] at hi
    obtain ⟨d1, d2⟩ := h.disj.obj id hi
    exact ⟨d1, fun id' hi' e => d2 id' (by rw [up_some] at hi'; exact hi') e⟩

theorem Core.dn {G : Gl} {w : World} {l : List HO} (h : Core G E (heapOf (shL σ 0 l)) w) : Core G (E.dn σ) (heapOf l) w := by
  refine ⟨⟨fun id o ho => ?_, fun id ho => ?_, fun id o ho => ?_⟩, h.fz, h.own, h.box, ⟨fun d blk q => (nomatch (congrFun h.box d ▸ q)), fun id hi => ?_⟩, h.glob, fun blk q => h.lt blk (dn_own.1 q)⟩
  · rw [heapOf_eq] at ho
    exact (h.heap.obj id (o.sh σ id) (by rw [heapOf_eq, shL_get, ho, Nat.zero_add]; rfl)).dn
  · rw [heapOf_eq] at ho
    have := h.heap.non id (by rw [heapOf_eq, shL_get, ho]; rfl)
    simp [Env.dn, this]
  · rw [heapOf_eq] at ho
    exact h.heap.ty id (o.sh σ id) (by rw [heapOf_eq, shL_get, ho, Nat.zero_add]; rfl)
  · rw [dn_some] at hi
    obtain ⟨d1, d2⟩ := h.disj.obj id hi
    exact ⟨d1, fun id' hi' e => d2 id' (by rw [dn_some] at hi'; exact hi') e⟩

/-- no reference in it, a tuple of such -/
def AV.plainR : AV → Bool
  | .s _ => true
  | .tup vs => vs.all fun v => match v with | .s _ => true | _ => false
  | _ => false

theorem VA.plainR {F : Env} (hM : F.M = E.M) {v : AV} {x : Value} (hp : v.plainR = true) (h : VA E v x) : VA F v x := by
  unfold AV.plainR at hp
  split at hp
  · simp only [VA] at h ⊢; rw [hM]; exact h
  · rename_i vs
    simp only [VA] at h ⊢
    obtain ⟨ys, rfl, hy⟩ := h
    refine ⟨ys, rfl, ?_⟩
    have := VAs.mapP (E := E) (F := F) (q := fun v => v) (fun v x (hp : (match v with | .s _ => true | _ => false) = true) h => by
      split at hp
      · simp only [VA] at h ⊢; rw [hM]; exact h
      · cases hp) hp hy
    simpa using this
  · cases hp

theorem SoundI.sh {P : Program} {G : Gl} {f : FuncId} {args : List AV} {hs hs' : List HO} {v : AV} (σ : Nat → Nat) (h : SoundI P G f args hs (.ret v hs')) (hv : v.plainR = true) (ha : args.all AV.flat = true) :
    SoundI P G f (args.map (AV.sh1 σ)) (shL σ 0 hs) (.ret v (shL σ 0 hs')) := by
  intro l hl E w xs hC hx
  simp only [IR.val, Option.some.injEq] at hl
  subst hl
  intro o a K Q hK hQ
  have key := h (.ret v hs') rfl (E.dn σ) w xs hC.dn (VAs.unmapP (fun _ _ => VA.dn1) ha hx)
  refine key o a K Q (fun y w' hy => hK y w' ?_) (fun ch w' hy => hQ ch w' ?_)
  · obtain ⟨F, k1, k2, z, e, k3⟩ := hy
    refine ⟨F.up σ, k1.up, ⟨⟨k2.le.M, k2.le.O, fun id g n q => ?_⟩, k2.size, fun blk hb hn => k2.keep blk hb fun q => hn (dn_own.1 q), fun blk q => (k2.ownS blk (up_own.1 q)).imp dn_own.1 id, fun blk m q => (k2.frzS blk m q).imp id fun q => q.imp dn_own.1 id, k2.tape, k2.os, k2.output⟩, z, e, VA.plainR (E := F) (F := F.up σ) rfl hv k3⟩
    obtain ⟨g', n', q1, q2, q3⟩ := k2.le.I id (g - σ id) n (by simp [Env.dn, q])
    refine ⟨g' + σ id, n', by simp [Env.up, q1], by omega, fun e => ?_⟩
    exact q3 (by omega)
  · obtain ⟨F, k1, k2, z, e, k3⟩ := hy
    cases e

end
end Go.Ev
