/- How abstract values, heaps and states relate to the model's. -/
import Derived.Test.YtkdbaijabnhniaaGreatDoorEvA
namespace Go.Ev

mutual
def VS (M : Nat → Option (List Value)) : SV → Value → Prop
  | .bool b, x => x = .bool b
  | .int k n, x => x = .int k n
  | .str l, x => x = .string ⟨l.toArray⟩
  | .flt k b, x => x = .float k b
  | .nilp, x => x = .pointer none
  | .nils, x => x = .slice none 0 0
  | .nilm, x => x = .map none
  | .nilf, x => x = .nilFunc
  | .nili, x => x = .nilIface
  | .pv cs, x => ∃ b o m, x = .pointer (some ⟨b, o, none⟩) ∧ M b = some m ∧ VL M cs (m.drop o)
  | .vs sz n f, x => ∃ b o cap m, x = .slice (some ⟨b, o, none⟩) n cap ∧ n ≤ cap ∧ M b = some m ∧ ∀ i, i < n → (f i).length = sz ∧ VL M (f i) (m.drop (o + i * sz))
  | .iface t v, x => ∃ y, x = .iface t y ∧ VS M v y
  | .agg cs, x => ∃ ys : List Value, x = .agg ys.toArray ∧ ys.length = cs.length ∧ VL M cs ys
  | .fn f, x => x = .func (.func f) #[] #[]
/-- cells, ahead of whatever follows -/
def VL (M : Nat → Option (List Value)) : List SV → List Value → Prop
  | [], _ => True
  | c :: cs, ys => ∃ y r, ys = y :: r ∧ c.isCell = true ∧ VS M c y ∧ VL M cs r
end

mutual
theorem VS.mono {M M' : Nat → Option (List Value)} (h : ∀ b m, M b = some m → M' b = some m) : ∀ (v : SV) (x : Value), VS M v x → VS M' v x
  | .bool _, _, hv => by simpa [VS] using hv
  | .int _ _, _, hv => by simpa [VS] using hv
  | .str _, _, hv => by simpa [VS] using hv
  | .flt _ _, _, hv => by simpa [VS] using hv
  | .nilp, _, hv => by simpa [VS] using hv
  | .nils, _, hv => by simpa [VS] using hv
  | .nilm, _, hv => by simpa [VS] using hv
  | .nilf, _, hv => by simpa [VS] using hv
  | .nili, _, hv => by simpa [VS] using hv
  | .pv cs, x, hv => by
    simp only [VS] at hv ⊢
    obtain ⟨b, o, m, hx, hm, hl⟩ := hv
    exact ⟨b, o, m, hx, h _ _ hm, VL.mono h cs _ hl⟩
  | .vs sz n f, x, hv => by
    simp only [VS] at hv ⊢
    obtain ⟨b, o, cap, m, hx, hc, hm, hl⟩ := hv
    exact ⟨b, o, cap, m, hx, hc, h _ _ hm, fun i hi => ⟨(hl i hi).1, VL.mono h (f i) _ (hl i hi).2⟩⟩
  | .iface t v, x, hv => by
    simp only [VS] at hv ⊢
    obtain ⟨y, hx, hy⟩ := hv
    exact ⟨y, hx, VS.mono h v y hy⟩
  | .agg cs, x, hv => by
    simp only [VS] at hv ⊢
    obtain ⟨ys, hx, hn, hl⟩ := hv
    exact ⟨ys, hx, hn, VL.mono h cs _ hl⟩
  | .fn _, _, hv => by simpa [VS] using hv
theorem VL.mono {M M' : Nat → Option (List Value)} (h : ∀ b m, M b = some m → M' b = some m) : ∀ (cs : List SV) (ys : List Value), VL M cs ys → VL M' cs ys
  | [], _, _ => by simp [VL]
  | c :: cs, ys, hv => by
    simp only [VL] at hv ⊢
    obtain ⟨y, r, hy, hc, h1, h2⟩ := hv
    exact ⟨y, r, hy, hc, VS.mono h c y h1, VL.mono h cs r h2⟩
end

structure Env where
  M : Nat → Option (List Value)
  O : Nat → Option (List Value)
  I : Nat → Option (Nat × Nat)
  P : Nat → Nat × Nat × Nat
  B : Nat → Option Nat

abbrev Env.blk (E : Env) (id : Nat) : Nat := (E.P id).1
abbrev Env.bas (E : Env) (id : Nat) : Nat := (E.P id).2.1
abbrev Env.tot (E : Env) (id : Nat) : Nat := (E.P id).2.2

mutual
def VA (E : Env) : AV → Value → Prop
  | .undef, _ => True
  | .s v, x => VS E.M v x
  | .ptr id g off, x => (∃ c, x = .pointer (some c)) ∧ ∃ g' n, E.I id = some (g', n) ∧ g ≤ g' ∧ (g = g' → x = .pointer (some ⟨E.blk id, E.bas id + off, none⟩))
  | .pai id g off cnt sz i, x => i < cnt ∧ (∃ c, x = .pointer (some c)) ∧ ∃ g' n, E.I id = some (g', n) ∧ g ≤ g' ∧ (g = g' → x = .pointer (some ⟨E.blk id, E.bas id + (off + i * sz), none⟩))
  | .ep id g sz i off, x => (∃ c, x = .pointer (some c)) ∧ ∃ g' n, E.I id = some (g', n) ∧ g ≤ g' ∧ (g = g' → i < n ∧ x = .pointer (some ⟨E.blk id, E.bas id + (i * sz + off), none⟩))
  | .lref d off, x => ∃ blk, E.B d = some blk ∧ x = .pointer (some ⟨blk, off, none⟩)
  | .lai d off cnt sz i, x => i < cnt ∧ ∃ blk, E.B d = some blk ∧ x = .pointer (some ⟨blk, off + i * sz, none⟩)
  | .sl id g sz off len, x => (∃ c k, x = .slice (some c) len k ∧ len ≤ k) ∧ ∃ g' n, E.I id = some (g', n) ∧ g ≤ g' ∧ (g = g' → off + len ≤ n ∧ ∃ cap A, len ≤ cap ∧ E.bas id + (off + cap) * sz ≤ E.tot id ∧ (0 < cap → A = E.bas id + off * sz) ∧
      x = .slice (some ⟨E.blk id, A, none⟩) len cap)
  | .hm id g, x => (∃ r, x = .map (some r)) ∧ ∃ g' n, E.I id = some (g', n) ∧ g ≤ g' ∧ (g = g' → x = .map (some (E.blk id)))
  | .clo f first cap, x => ∃ fs cs : List Value, x = .func (.func f) fs.toArray cs.toArray ∧ VAs E first fs ∧ VAs E cap cs
  | .agg cs, x => ∃ ys : List Value, x = .agg ys.toArray ∧ VAs E cs ys
  | .tup vs, x => ∃ ys : List Value, x = .tuple ys.toArray ∧ VAs E vs ys
  | .own sz n f, x => ∃ b o cap m, x = .slice (some ⟨b, o, none⟩) n cap ∧ n ≤ cap ∧ (0 < cap → o + cap * sz ≤ m.length) ∧ E.O b = some m ∧ ∀ i, i < n → (f i).length = sz ∧ VL E.M (f i) (m.drop (o + i * sz))
def VAs (E : Env) : List AV → List Value → Prop
  | [], ys => ys = []
  | v :: vs, ys => ∃ y r, ys = y :: r ∧ VA E v y ∧ VAs E vs r
end

structure EnvLe (E E' : Env) : Prop where
  M : ∀ b m, E.M b = some m → E'.M b = some m
  O : ∀ b m, E.O b = some m → E'.O b = some m
  I : ∀ id g n, E.I id = some (g, n) → ∃ g' n', E'.I id = some (g', n') ∧ g ≤ g' ∧ (g = g' → n = n' ∧ E'.P id = E.P id)
  B : ∀ d blk, E.B d = some blk → E'.B d = some blk


/-- the same, local boxes apart -/
structure EnvLe0 (E E' : Env) : Prop where
  M : ∀ b m, E.M b = some m → E'.M b = some m
  O : ∀ b m, E.O b = some m → E'.O b = some m
  I : ∀ id g n, E.I id = some (g, n) → ∃ g' n', E'.I id = some (g', n') ∧ g ≤ g' ∧ (g = g' → n = n' ∧ E'.P id = E.P id)

theorem EnvLe.to0 {E F : Env} (h : EnvLe E F) : EnvLe0 E F := ⟨h.M, h.O, h.I⟩

theorem EnvLe.refl (E : Env) : EnvLe E E := ⟨fun _ _ h => h, fun _ _ h => h, fun _ g n h => ⟨g, n, h, Nat.le_refl _, fun _ => ⟨rfl, rfl⟩⟩, fun _ _ h => h⟩

theorem EnvLe.trans {E F G : Env} (h : EnvLe E F) (k : EnvLe F G) : EnvLe E G := by
  refine ⟨fun b m q => k.M b m (h.M b m q), fun b m q => k.O b m (h.O b m q), fun id g n q => ?_, fun d blk q => k.B d blk (h.B d blk q)⟩
  obtain ⟨g1, n1, q1, l1, e1⟩ := h.I id g n q
  obtain ⟨g2, n2, q2, l2, e2⟩ := k.I id g1 n1 q1
  refine ⟨g2, n2, q2, by omega, fun e => ?_⟩
  obtain ⟨a, b⟩ := e1 (by omega)
  obtain ⟨c, d⟩ := e2 (by omega)
  exact ⟨a.trans c, d.trans b⟩

theorem EnvLe0.trans {E F G : Env} (h : EnvLe0 E F) (k : EnvLe0 F G) : EnvLe0 E G := by
  refine ⟨fun b m q => k.M b m (h.M b m q), fun b m q => k.O b m (h.O b m q), fun id g n q => ?_⟩
  obtain ⟨g1, n1, q1, l1, e1⟩ := h.I id g n q
  obtain ⟨g2, n2, q2, l2, e2⟩ := k.I id g1 n1 q1
  refine ⟨g2, n2, q2, by omega, fun e => ?_⟩
  obtain ⟨a, b⟩ := e1 (by omega)
  obtain ⟨c, d⟩ := e2 (by omega)
  exact ⟨a.trans c, d.trans b⟩

mutual
theorem VA.mono {E F : Env} (h : EnvLe E F) : ∀ (v : AV) (x : Value), VA E v x → VA F v x
  | .undef, _, _ => by simp [VA]
  | .s v, x, hv => by simp only [VA] at hv ⊢; exact VS.mono h.M v x hv
  | .ptr id g off, x, hv => by
    simp only [VA] at hv ⊢
    obtain ⟨ho, g1, n1, q, l, e⟩ := hv
    obtain ⟨g2, n2, q2, l2, e2⟩ := h.I _ _ _ q
    refine ⟨ho, g2, n2, q2, by omega, fun hg => ?_⟩
    have e3 := (e2 (by omega)).2
    simp only [Env.blk, Env.bas, e3] at *
    exact e (by omega)
  | .pai id g off cnt sz i, x, hv => by
    simp only [VA] at hv ⊢
    obtain ⟨hi, ho, g1, n1, q, l, e⟩ := hv
    obtain ⟨g2, n2, q2, l2, e2⟩ := h.I _ _ _ q
    refine ⟨hi, ho, g2, n2, q2, by omega, fun hg => ?_⟩
    have e3 := (e2 (by omega)).2
    simp only [Env.blk, Env.bas, e3] at *
    exact e (by omega)
  | .ep id g sz i off, x, hv => by
    simp only [VA] at hv ⊢
    obtain ⟨ho, g1, n1, q, l, e⟩ := hv
    obtain ⟨g2, n2, q2, l2, e2⟩ := h.I _ _ _ q
    refine ⟨ho, g2, n2, q2, by omega, fun hg => ?_⟩
    obtain ⟨e4, e3⟩ := e2 (by omega)
    subst e4
    simp only [Env.blk, Env.bas, e3] at *
    exact e (by omega)
  | .lref d off, x, hv => by
    simp only [VA] at hv ⊢
    obtain ⟨blk, hb, hx⟩ := hv
    exact ⟨blk, h.B _ _ hb, hx⟩
  | .lai d off cnt sz i, x, hv => by
    simp only [VA] at hv ⊢
    obtain ⟨hi, blk, hb, hx⟩ := hv
    exact ⟨hi, blk, h.B _ _ hb, hx⟩
  | .sl id g sz off len, x, hv => by
    simp only [VA] at hv ⊢
    obtain ⟨ho, g1, n1, q, l, e⟩ := hv
    obtain ⟨g2, n2, q2, l2, e2⟩ := h.I _ _ _ q
    refine ⟨ho, g2, n2, q2, by omega, fun hg => ?_⟩
    obtain ⟨e4, e3⟩ := e2 (by omega)
    subst e4
    simp only [Env.blk, Env.bas, Env.tot, e3] at *
    exact e (by omega)
  | .hm id g, x, hv => by
    simp only [VA] at hv ⊢
    obtain ⟨ho, g1, n1, q, l, e⟩ := hv
    obtain ⟨g2, n2, q2, l2, e2⟩ := h.I _ _ _ q
    refine ⟨ho, g2, n2, q2, by omega, fun hg => ?_⟩
    have e3 := (e2 (by omega)).2
    simp only [Env.blk, e3] at *
    exact e (by omega)
  | .clo f first cap, x, hv => by
    simp only [VA] at hv ⊢
    obtain ⟨fs, cs, hx, h1, h2⟩ := hv
    exact ⟨fs, cs, hx, VAs.mono h first fs h1, VAs.mono h cap cs h2⟩
  | .agg cs, x, hv => by
    simp only [VA] at hv ⊢
    obtain ⟨ys, hx, h1⟩ := hv
    exact ⟨ys, hx, VAs.mono h cs ys h1⟩
  | .tup vs, x, hv => by
    simp only [VA] at hv ⊢
    obtain ⟨ys, hx, h1⟩ := hv
    exact ⟨ys, hx, VAs.mono h vs ys h1⟩
  | .own sz n f, x, hv => by
    simp only [VA] at hv ⊢
    obtain ⟨b, o, cap, m, hx, hc, ht, hm, hl⟩ := hv
    exact ⟨b, o, cap, m, hx, hc, ht, h.O _ _ hm, fun i hi => ⟨(hl i hi).1, VL.mono h.M _ _ (hl i hi).2⟩⟩
theorem VAs.mono {E F : Env} (h : EnvLe E F) : ∀ (vs : List AV) (ys : List Value), VAs E vs ys → VAs F vs ys
  | [], _, hv => by simpa [VAs] using hv
  | v :: vs, ys, hv => by
    simp only [VAs] at hv ⊢
    obtain ⟨y, r, hy, h1, h2⟩ := hv
    exact ⟨y, r, hy, VA.mono h v y h1, VAs.mono h vs r h2⟩
end

end Go.Ev
