/- The abstract interpreter: how abstract values and memory stand to the model's. -/
import Derived.Test.YtjijnkiojpajeaaGreatDoorAiCore
import Derived.Laws.AppendOwn
import Derived.Laws.World
set_option linter.unusedSectionVars false
namespace Go.Ai
variable [Glob]

/-- What relates values: the world, where lasting and borrowed memory may lie, the objects' blocks (with how many cells they have), their lengths. -/
structure Cx where
  w : World
  ok : Bool → Nat → Prop
  rh : Nat → Option (Nat × Nat)
  hl : Nat → Option Nat

mutual
def VRel (c : Cx) : AV → Value → Prop
  | .sc v, u => u = v
  | .agg cs, u => ∃ us : List Value, u = .agg us.toArray ∧ VRels c cs us
  | .tup vs, u => ∃ us : List Value, u = .tuple us.toArray ∧ VRelT c vs us
  | .ifc t v, u => ∃ x, u = .iface t x ∧ VRel c v x
  | .fn f a k, u => ∃ as ks : List Value, u = .func (.func f) as.toArray ks.toArray ∧ VRelT c a as ∧ VRelT c k ks
  | .nils, u => u = .slice none 0 0
  | .snap b size len cells, u => ∃ a cap, u = .slice a len cap ∧ len ≤ cap ∧ cap ≤ maxLen ∧ cells.length / size ≤ cap ∧
      (cells ≠ [] → ∃ ad us, a = some ad ∧ c.ok b ad.block ∧ VRels c cells us ∧ ∀ j x, us[j]? = some x → c.w.cell? (ad.add j) = some x)
  | .own id off size len acap ep, u => u.oneCell' = true ∧ ∃ n, c.hl id = some n ∧ ep ≤ n ∧ (ep = n →
      (∃ b z cap o, c.rh id = some (b, z) ∧ u = .slice (some ⟨b, o, none⟩) len cap ∧ (0 < cap → o = off) ∧ acap ≤ cap ∧ cap ≤ maxLen ∧ len ≤ cap ∧ off + cap * size ≤ z) ∨
      (c.rh id = none ∧ n = 0 ∧ u = .slice none 0 0 ∧ len = 0 ∧ acap = 0 ∧ off = 0))
  | .ptr id off ep, u => u.oneCell' = true ∧ ∃ n, c.hl id = some n ∧ ep ≤ n ∧ (ep = n → ∃ b z, c.rh id = some (b, z) ∧ u = .pointer (some ⟨b, off, none⟩))
  | .sp b cells, u => ∃ ad us, u = .pointer (some ad) ∧ (cells ≠ [] → c.ok b ad.block) ∧ VRels c cells us ∧ ∀ j x, us[j]? = some x → c.w.cell? (ad.add j) = some x
  | .junk, _ => True
/-- Cells of memory. -/
def VRels (c : Cx) : List AV → List Value → Prop
  | [], us => us = []
  | a :: as, us => ∃ v vs, us = v :: vs ∧ VRel c a v ∧ v.oneCell' = true ∧ VRels c as vs
/-- Any values. -/
def VRelT (c : Cx) : List AV → List Value → Prop
  | [], us => us = []
  | a :: as, us => ∃ v vs, us = v :: vs ∧ VRel c a v ∧ VRelT c as vs
end

/-- What doesn't turn a value. -/
structure Cx.le (c c' : Cx) : Prop where
  ok : ∀ b blk, c.ok b blk → c'.ok b blk ∧ c'.w.heap[blk]? = c.w.heap[blk]?
  hl : ∀ id n, c.hl id = some n → ∃ n', c'.hl id = some n' ∧ n ≤ n' ∧ (n' = n → c'.rh id = c.rh id ∨ (c.rh id = none ∧ n ≠ 0))

theorem Cx.le.refl (c : Cx) : c.le c := ⟨fun _ _ h => ⟨h, rfl⟩, fun _ n h => ⟨n, h, Nat.le_refl _, fun _ => .inl rfl⟩⟩
theorem Cx.le.cell {c c' : Cx} (h : c.le c') {b : Bool} {ad : Addr} (hb : c.ok b ad.block) (j : Nat) : c'.w.cell? (ad.add j) = c.w.cell? (ad.add j) := by
  refine World.cell?_of_block ?_
  have e : (ad.add j).block = ad.block := by unfold Addr.add; split <;> rfl
  rw [e]
  exact (h.ok b _ hb).2

mutual
theorem VRel.mono {c c' : Cx} (h : c.le c') : ∀ (a : AV) (u : Value), VRel c a u → VRel c' a u
  | .sc v, u, r => r
  | .agg cs, u, ⟨us, e, r⟩ => ⟨us, e, VRels.mono h cs us r⟩
  | .tup cs, u, ⟨us, e, r⟩ => ⟨us, e, VRelT.mono h cs us r⟩
  | .ifc t v, u, ⟨x, e, r⟩ => ⟨x, e, VRel.mono h v x r⟩
  | .fn f a k, u, ⟨as, ks, e, r, s⟩ => ⟨as, ks, e, VRelT.mono h a as r, VRelT.mono h k ks s⟩
  | .nils, u, r => r
  | .snap b size len cells, u, ⟨a, cap, e, h1, h2, h3, r⟩ => ⟨a, cap, e, h1, h2, h3, fun hn => by
      obtain ⟨ad, us, ea, hok, hr, hc⟩ := r hn
      exact ⟨ad, us, ea, (h.ok b _ hok).1, VRels.mono h cells us hr, fun j x hx => (h.cell hok j).trans (hc j x hx)⟩⟩
  | .own id off size len acap ep, u, ⟨ho, n, hn, hle, r⟩ => by
    obtain ⟨n', hn', hle', hst⟩ := h.hl id n hn
    refine ⟨ho, n', hn', Nat.le_trans hle hle', fun e => ?_⟩
    have e1 : n' = n := by omega
    subst e1
    rcases r e with ⟨b, z, cap, o, hr, r2⟩ | ⟨hr, h0, r2⟩
    · rcases hst rfl with hs | ⟨hs, _⟩
      · exact .inl ⟨b, z, cap, o, hs.trans hr, r2⟩
      · rw [hs] at hr; cases hr
    · rcases hst rfl with hs | ⟨_, hs⟩
      · exact .inr ⟨hs.trans hr, h0, r2⟩
      · exact absurd h0 hs
  | .ptr id off ep, u, ⟨ho, n, hn, hle, r⟩ => by
    obtain ⟨n', hn', hle', hst⟩ := h.hl id n hn
    refine ⟨ho, n', hn', Nat.le_trans hle hle', fun e => ?_⟩
    have e1 : n' = n := by omega
    subst e1
    obtain ⟨b, z, hr, r2⟩ := r e
    rcases hst rfl with hs | ⟨hs, _⟩
    · exact ⟨b, z, hs.trans hr, r2⟩
    · rw [hs] at hr; cases hr
  | .sp b cells, u, ⟨ad, us, e, hok, hr, hc⟩ => ⟨ad, us, e, fun hn => (h.ok b _ (hok hn)).1, VRels.mono h cells us hr, fun j x hx => by
      have hne : cells ≠ [] := by
        rintro rfl
        simp only [VRels] at hr
        subst hr
        simp at hx
      exact (h.cell (hok hne) j).trans (hc j x hx)⟩
  | .junk, _, _ => trivial
theorem VRels.mono {c c' : Cx} (h : c.le c') : ∀ (a : List AV) (u : List Value), VRels c a u → VRels c' a u
  | [], _, r => r
  | a :: as, _, ⟨v, vs, e, r, o, s⟩ => ⟨v, vs, e, VRel.mono h a v r, o, VRels.mono h as vs s⟩
theorem VRelT.mono {c c' : Cx} (h : c.le c') : ∀ (a : List AV) (u : List Value), VRelT c a u → VRelT c' a u
  | [], _, r => r
  | a :: as, _, ⟨v, vs, e, r, s⟩ => ⟨v, vs, e, VRel.mono h a v r, VRelT.mono h as vs s⟩
end

/-! ### cells in a row -/
theorem VRels.length {c : Cx} : ∀ {a : List AV} {u : List Value}, VRels c a u → u.length = a.length
  | [], _, r => by simp only [VRels] at r; subst r; rfl
  | a :: as, _, ⟨v, vs, e, _, _, s⟩ => by subst e; simp [VRels.length s]
theorem VRelT.length {c : Cx} : ∀ {a : List AV} {u : List Value}, VRelT c a u → u.length = a.length
  | [], _, r => by simp only [VRelT] at r; subst r; rfl
  | a :: as, _, ⟨v, vs, e, _, s⟩ => by subst e; simp [VRelT.length s]
theorem VRels.nil (c : Cx) : VRels c [] [] := rfl
theorem VRels.cons {c : Cx} {a : AV} {v : Value} {as : List AV} {vs : List Value} (h : VRel c a v) (o : v.oneCell' = true) (s : VRels c as vs) : VRels c (a :: as) (v :: vs) := ⟨v, vs, rfl, h, o, s⟩
theorem VRelT.cons {c : Cx} {a : AV} {v : Value} {as : List AV} {vs : List Value} (h : VRel c a v) (s : VRelT c as vs) : VRelT c (a :: as) (v :: vs) := ⟨v, vs, rfl, h, s⟩
theorem VRels.get {c : Cx} : ∀ {a : List AV} {u : List Value}, VRels c a u → ∀ {j : Nat} {x : AV}, a[j]? = some x → ∃ v, u[j]? = some v ∧ VRel c x v ∧ v.oneCell' = true
  | [], _, _, j, x, h => by simp at h
  | a :: as, _, ⟨v, vs, e, r, o, s⟩, 0, x, h => by subst e; simp at h; subst h; exact ⟨v, rfl, r, o⟩
  | a :: as, _, ⟨v, vs, e, r, o, s⟩, j + 1, x, h => by subst e; simpa using VRels.get s (j := j) (x := x) (by simpa using h)
theorem VRelT.get {c : Cx} : ∀ {a : List AV} {u : List Value}, VRelT c a u → ∀ {j : Nat} {x : AV}, a[j]? = some x → ∃ v, u[j]? = some v ∧ VRel c x v
  | [], _, _, j, x, h => by simp at h
  | a :: as, _, ⟨v, vs, e, r, s⟩, 0, x, h => by subst e; simp at h; subst h; exact ⟨v, rfl, r⟩
  | a :: as, _, ⟨v, vs, e, r, s⟩, j + 1, x, h => by subst e; simpa using VRelT.get s (j := j) (x := x) (by simpa using h)
theorem VRels.append {c : Cx} : ∀ {a b : List AV} {u v : List Value}, VRels c a u → VRels c b v → VRels c (a ++ b) (u ++ v)
  | [], _, _, _, r, s => by simp only [VRels] at r; subst r; exact s
  | a :: as, _, _, _, ⟨v, vs, e, r, o, t⟩, s => by subst e; exact ⟨v, _, rfl, r, o, VRels.append t s⟩
theorem VRelT.append {c : Cx} : ∀ {a b : List AV} {u v : List Value}, VRelT c a u → VRelT c b v → VRelT c (a ++ b) (u ++ v)
  | [], _, _, _, r, s => by simp only [VRelT] at r; subst r; exact s
  | a :: as, _, _, _, ⟨v, vs, e, r, t⟩, s => by subst e; exact ⟨v, _, rfl, r, VRelT.append t s⟩
theorem VRels.take {c : Cx} : ∀ (n : Nat) {a : List AV} {u : List Value}, VRels c a u → VRels c (a.take n) (u.take n)
  | 0, _, _, _ => by simp [VRels]
  | n + 1, [], _, r => by simp only [VRels] at r; subst r; simp [VRels]
  | n + 1, a :: as, _, ⟨v, vs, e, r, o, s⟩ => by subst e; exact ⟨v, _, rfl, r, o, VRels.take n s⟩
theorem VRels.drop {c : Cx} : ∀ (n : Nat) {a : List AV} {u : List Value}, VRels c a u → VRels c (a.drop n) (u.drop n)
  | 0, _, _, r => by simpa using r
  | n + 1, [], _, r => by simp only [VRels] at r; subst r; simp [VRels]
  | n + 1, a :: as, _, ⟨v, vs, e, _, _, s⟩ => by subst e; simpa using VRels.drop n s
theorem VRels.toT {c : Cx} : ∀ {a : List AV} {u : List Value}, VRels c a u → VRelT c a u
  | [], _, r => r
  | _ :: _, _, ⟨v, vs, e, r, _, s⟩ => ⟨v, vs, e, r, VRels.toT s⟩
theorem VRels.one {c : Cx} : ∀ {a : List AV} {u : List Value}, VRels c a u → ∀ x ∈ u, x.oneCell' = true
  | [], _, r, x, hx => by simp only [VRels] at r; subst r; simp at hx
  | a :: as, _, ⟨v, vs, e, _, o, s⟩, x, hx => by
    subst e
    rcases List.mem_cons.1 hx with rfl | hx
    · exact o
    · exact VRels.one s x hx
theorem VRels.set {c : Cx} {x : AV} {v : Value} (hx : VRel c x v) (o : v.oneCell' = true) : ∀ (n : Nat) {a : List AV} {u : List Value}, VRels c a u → VRels c (a.set n x) (u.set n v)
  | _, [], _, r => by simp only [VRels] at r; subst r; simp [VRels]
  | 0, a :: as, _, ⟨_, vs, e, _, _, s⟩ => by subst e; exact ⟨v, vs, rfl, hx, o, s⟩
  | n + 1, a :: as, _, ⟨v', vs, e, r, o', s⟩ => by subst e; exact ⟨v', _, rfl, r, o', VRels.set hx o n s⟩
theorem VRels.splice {c : Cx} {a new : List AV} {u vs : List Value} (h : VRels c a u) (hn : VRels c new vs) (off : Nat) : VRels c (splice a off new) (u.take off ++ vs ++ u.drop (off + vs.length)) := by
  unfold Ai.splice
  rw [← hn.length]
  exact ((h.take off).append hn).append (h.drop _)

/-! ### constants -/
theorem VRel.toAV1 (c : Cx) (v : Value) : VRel c (toAV1 v) v := by
  unfold Ai.toAV1
  split <;> simp [VRel]
theorem VRelT_map (c : Cx) (l : List Value) : VRelT c (l.map Ai.toAV1) l := by
  induction l with
  | nil => rfl
  | cons v l ih => exact ⟨v, l, rfl, VRel.toAV1 c v, ih⟩
theorem VRels_map (c : Cx) : ∀ (l : List Value), l.all (·.oneCell') = true → VRels c (l.map Ai.toAV1) l
  | [], _ => rfl
  | v :: l, h => by
    simp only [List.all_cons, Bool.and_eq_true] at h
    exact ⟨v, l, rfl, VRel.toAV1 c v, h.1, VRels_map c l h.2⟩
theorem VRel.toAV (c : Cx) (v : Value) : VRel c (toAV v) v := by
  unfold Ai.toAV
  split
  · simp [VRel]
  · rename_i cs
    split
    · rename_i h
      exact ⟨cs.toList, by simp, VRels_map c _ h⟩
    · trivial
  · simp [VRel]
end Go.Ai
