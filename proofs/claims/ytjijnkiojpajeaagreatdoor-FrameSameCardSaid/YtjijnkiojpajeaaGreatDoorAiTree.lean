/- The abstract interpreter: values as trees, and what a call is. -/
import Derived.Test.YtjijnkiojpajeaaGreatDoorAiOpsI
set_option linter.unusedVariables false
set_option linter.unusedSimpArgs false
set_option linter.unusedSectionVars false
namespace Go.Ai
variable [Glob]

theorem Cx.le.trans {a b c : Cx} (h : a.le b) (k : b.le c) : a.le c :=
  ⟨fun bw blk e => ⟨(k.ok bw blk (h.ok bw blk e).1).1, ((k.ok bw blk (h.ok bw blk e).1).2).trans (h.ok bw blk e).2⟩, fun id n hn => by
    obtain ⟨n1, h1, h2, h3⟩ := h.hl id n hn
    obtain ⟨n2, k1, k2, k3⟩ := k.hl id n1 h1
    refine ⟨n2, k1, Nat.le_trans h2 k2, fun e => ?_⟩
    have e1 : n1 = n := by omega
    have e2 : n2 = n1 := by omega
    rcases h3 e1 with g | g
    · rcases k3 e2 with g' | g'
      · exact .inl (g'.trans g)
      · exact .inr ⟨g ▸ g'.1, by omega⟩
    · exact .inr g⟩

theorem mapOwns_length {g : AV → Option AV} : ∀ (v v' : List AV), mapOwns g v = some v' → v'.length = v.length
  | [], v', h => by simp only [mapOwns, Option.some.injEq] at h; subst h; rfl
  | v :: vs, v', h => by
    simp only [mapOwns, Option.bind_eq_some_iff, Option.map_eq_some_iff] at h
    obtain ⟨x, h1, xs, h2, rfl⟩ := h
    simp [mapOwns_length vs xs h2]
section
variable {c c' : Cx} {g : AV → Option AV}
mutual
theorem mapOwn_rel (hok : ∀ b blk, c.ok b blk → c'.ok b blk) (hw : c'.w = c.w)
    (hg : ∀ v v' u, g v = some v' → VRel c v u → VRel c' v' u) :
    ∀ (v v' : AV) (u : Value), mapOwn g v = some v' → VRel c v u → VRel c' v' u
  | .sc v, v', u, h, r => by simp only [mapOwn, Option.some.injEq] at h; subst h; exact r
  | .agg cs, v', u, h, r => by
    simp only [mapOwn, Option.map_eq_some_iff] at h
    obtain ⟨cs', h1, rfl⟩ := h
    obtain ⟨us, e, hr⟩ := r
    exact ⟨us, e, mapOwns_rel hok hw hg cs cs' us h1 hr⟩
  | .tup cs, v', u, h, r => by
    simp only [mapOwn, Option.map_eq_some_iff] at h
    obtain ⟨cs', h1, rfl⟩ := h
    obtain ⟨us, e, hr⟩ := r
    exact ⟨us, e, mapOwnT_rel hok hw hg cs cs' us h1 hr⟩
  | .ifc t v, v', u, h, r => by
    simp only [mapOwn, Option.map_eq_some_iff] at h
    obtain ⟨x', h1, rfl⟩ := h
    obtain ⟨x, e, hr⟩ := r
    exact ⟨x, e, mapOwn_rel hok hw hg v x' x h1 hr⟩
  | .fn f a k, v', u, h, r => by
    simp only [mapOwn, Option.bind_eq_some_iff, Option.map_eq_some_iff] at h
    obtain ⟨a', h1, k', h2, rfl⟩ := h
    obtain ⟨as, ks, e, hr, hs⟩ := r
    exact ⟨as, ks, e, mapOwnT_rel hok hw hg a a' as h1 hr, mapOwnT_rel hok hw hg k k' ks h2 hs⟩
  | .nils, v', u, h, r => by simp only [mapOwn, Option.some.injEq] at h; subst h; exact r
  | .snap b size len cells, v', u, h, r => by
    simp only [mapOwn, Option.map_eq_some_iff] at h
    obtain ⟨cs', h1, rfl⟩ := h
    obtain ⟨a, cap, e, e1, e2, e3, hr⟩ := r
    have hl := mapOwns_length cells cs' h1
    refine ⟨a, cap, e, e1, e2, by rw [hl]; exact e3, fun hn => ?_⟩
    have hn' : cells ≠ [] := by rintro rfl; simp at hl; exact hn hl
    obtain ⟨ad, us, ea, hk, hv, hc⟩ := hr hn'
    exact ⟨ad, us, ea, hok _ _ hk, mapOwns_rel hok hw hg cells cs' us h1 hv, fun j x hx => by rw [hw]; exact hc j x hx⟩
  | .sp b cells, v', u, h, r => by
    simp only [mapOwn, Option.map_eq_some_iff] at h
    obtain ⟨cs', h1, rfl⟩ := h
    obtain ⟨ad, us, e, hk, hv, hc⟩ := r
    have hl := mapOwns_length cells cs' h1
    refine ⟨ad, us, e, fun hn => hok _ _ (hk (by rintro rfl; simp at hl; exact hn hl)), mapOwns_rel hok hw hg cells cs' us h1 hv, fun j x hx => by rw [hw]; exact hc j x hx⟩
  | .own id off size len acap ep, v', u, h, r => hg _ _ _ (by simpa only [mapOwn] using h) r
  | .ptr id off ep, v', u, h, r => hg _ _ _ (by simpa only [mapOwn] using h) r
  | .junk, v', u, h, r => by simp [mapOwn] at h
theorem mapOwns_rel (hok : ∀ b blk, c.ok b blk → c'.ok b blk) (hw : c'.w = c.w)
    (hg : ∀ v v' u, g v = some v' → VRel c v u → VRel c' v' u) :
    ∀ (v v' : List AV) (u : List Value), mapOwns g v = some v' → VRels c v u → VRels c' v' u
  | [], v', u, h, r => by simp only [mapOwns, Option.some.injEq] at h; subst h; exact r
  | v :: vs, v', u, h, r => by
    simp only [mapOwns, Option.bind_eq_some_iff, Option.map_eq_some_iff] at h
    obtain ⟨x, h1, xs, h2, rfl⟩ := h
    obtain ⟨y, ys, rfl, hr, ho, hs⟩ := r
    exact ⟨y, ys, rfl, mapOwn_rel hok hw hg v x y h1 hr, ho, mapOwns_rel hok hw hg vs xs ys h2 hs⟩
theorem mapOwnT_rel (hok : ∀ b blk, c.ok b blk → c'.ok b blk) (hw : c'.w = c.w)
    (hg : ∀ v v' u, g v = some v' → VRel c v u → VRel c' v' u) :
    ∀ (v v' : List AV) (u : List Value), mapOwns g v = some v' → VRelT c v u → VRelT c' v' u
  | [], v', u, h, r => by simp only [mapOwns, Option.some.injEq] at h; subst h; exact r
  | v :: vs, v', u, h, r => by
    simp only [mapOwns, Option.bind_eq_some_iff, Option.map_eq_some_iff] at h
    obtain ⟨x, h1, xs, h2, rfl⟩ := h
    obtain ⟨y, ys, rfl, hr, hs⟩ := r
    exact ⟨y, ys, rfl, mapOwn_rel hok hw hg v x y h1 hr, mapOwnT_rel hok hw hg vs xs ys h2 hs⟩
end
end

section
variable {X : Ctl} {p : Pl} {w : World} {m : Mm}
/-- A value as a tree means what it meant. -/
theorem tree_rel (hm : MRel X p w m) {bw : Bool} {c' : Cx} (hok : ∀ b blk, okOf X p w b blk → c'.ok b blk) (hnew : ∀ id b z, p.rh id = some (b, z) → c'.ok bw b) (hw : c'.w = w) :
    ∀ (n : Nat) (v v' : AV) (u : Value), tree bw m.hp n v = some v' → VRel (cx X p w m.hp) v u → VRel c' v' u
  | 0, v, v', u, h, r => mapOwn_rel (c := cx X p w m.hp) hok hw (fun _ _ _ e => by cases e) v v' u h r
  | n + 1, v, v', u, h, r => by
    refine mapOwn_rel (c := cx X p w m.hp) hok hw (fun v v' u h r => ?_) v v' u h r
    have ih := tree_rel hm hok hnew hw n
    split at h
    · rename_i id off size len acap ep
      simp only [Option.bind_eq_some_iff] at h
      obtain ⟨cs, hc, h⟩ := h
      split at h
      · rename_i hq
        obtain ⟨hl, hla, hfit⟩ := hq
        simp only [Option.map_eq_some_iff] at h
        obtain ⟨cells, h1, rfl⟩ := h
        have hcl := mapOwns_length _ _ h1
        have hcl2 : cells.length = acap * size := by rw [hcl]; simp; omega
        have hdiv : cells.length / size ≤ acap := by
          rw [hcl2]
          rcases Nat.eq_zero_or_pos size with h0 | h0
          · subst h0; simp
          · rw [Nat.mul_div_cancel _ h0]; exact Nat.le_refl _
        rcases own_cur r hc hl with ⟨b, z, cap, o', hb, rfl, ho', hac, hcm, hlc, hz⟩ | ⟨hb, hz, rfl, rfl, rfl, rfl⟩
        · refine ⟨_, cap, rfl, hlc, hcm, by omega, fun hn => ?_⟩
          have hcap : 0 < cap := by
            rcases Nat.eq_zero_or_pos acap with h0 | h0
            · subst h0; simp at hcl2; exact absurd hcl2 hn
            · omega
          obtain rfl := ho' hcap
          obtain ⟨us, el, lo, hi, k1, k2, k3, k4, k5⟩ := hm.hp id cs b z hc hb
          refine ⟨_, _, rfl, hnew id b z hb, mapOwns_rel (c := cx X p w m.hp) hok hw ih _ _ _ h1 ((k5.drop o').take (acap * size)), fun j x hx => ?_⟩
          rw [hw, add_plain, cell_row k1]
          rw [List.getElem?_take] at hx
          split at hx
          · rw [List.getElem?_drop, List.getElem?_take] at hx
            split at hx
            · simpa using hx
            · cases hx
          · cases hx
        · refine ⟨none, 0, rfl, Nat.le_refl _, Nat.zero_le _, by omega, fun hn => ?_⟩
          simp at hcl2
          exact absurd hcl2 hn
      · cases h
    · rename_i id off ep
      simp only [Option.bind_eq_some_iff] at h
      obtain ⟨cs, hc, h⟩ := h
      split at h
      · rename_i hl
        simp only [Option.map_eq_some_iff] at h
        obtain ⟨cells, h1, rfl⟩ := h
        obtain ⟨b, z, hb, rfl⟩ := ptr_cur r hc hl
        obtain ⟨us, el, lo, hi, k1, k2, k3, k4, k5⟩ := hm.hp id cs b z hc hb
        refine ⟨_, _, rfl, fun _ => hnew id b z hb, mapOwns_rel (c := cx X p w m.hp) hok hw ih _ _ _ h1 (k5.drop off), fun j x hx => ?_⟩
        rw [hw, add_plain, cell_row k1]
        rw [List.getElem?_drop, List.getElem?_take] at hx
        split at hx
        · simpa using hx
        · cases hx
      · cases h
    · cases h
theorem trees_rel (hm : MRel X p w m) {bw : Bool} {c' : Cx} (hok : ∀ b blk, okOf X p w b blk → c'.ok b blk) (hnew : ∀ id b z, p.rh id = some (b, z) → c'.ok bw b) (hw : c'.w = w) (n : Nat) {v v' : List AV} {u : List Value} (h : mapOwns (tree bw m.hp n) v = some v')
    (r : VRelT (cx X p w m.hp) v u) : VRelT c' v' u :=
  mapOwnT_rel (c := cx X p w m.hp) hok hw (fun v v' u h r => tree_rel hm hok hnew hw n v v' u h r) v v' u h r
end
section
variable {c c' : Cx}
mutual
theorem lasting_rel (hok : ∀ blk, c.ok false blk → c'.ok false blk) (hw : c'.w = c.w) : ∀ (v : AV) (u : Value), lasting v = true → VRel c v u → VRel c' v u
  | .sc v, u, _, r => r
  | .agg cs, u, h, ⟨us, e, r⟩ => ⟨us, e, lastings_rel hok hw cs us (by simpa only [lasting] using h) r⟩
  | .tup cs, u, h, ⟨us, e, r⟩ => ⟨us, e, lastingT_rel hok hw cs us (by simpa only [lasting] using h) r⟩
  | .ifc t v, u, h, ⟨x, e, r⟩ => ⟨x, e, lasting_rel hok hw v x (by simpa only [lasting] using h) r⟩
  | .fn f a k, u, h, ⟨as, ks, e, r, s⟩ => by
    simp only [lasting, Bool.and_eq_true] at h
    exact ⟨as, ks, e, lastingT_rel hok hw a as h.1 r, lastingT_rel hok hw k ks h.2 s⟩
  | .nils, u, _, r => r
  | .snap b size len cells, u, h, ⟨a, cap, e, h1, h2, h3, r⟩ => by
    simp only [lasting, Bool.and_eq_true, Bool.not_eq_true'] at h
    obtain ⟨rfl, h⟩ := h
    refine ⟨a, cap, e, h1, h2, h3, fun hn => ?_⟩
    obtain ⟨ad, us, ea, hk, hv, hc⟩ := r hn
    exact ⟨ad, us, ea, hok _ hk, lastings_rel hok hw cells us h hv, fun j x hx => by rw [hw]; exact hc j x hx⟩
  | .sp b cells, u, h, ⟨ad, us, e, hk, hv, hc⟩ => by
    simp only [lasting, Bool.and_eq_true, Bool.not_eq_true'] at h
    obtain ⟨rfl, h⟩ := h
    exact ⟨ad, us, e, fun hn => hok _ (hk hn), lastings_rel hok hw cells us h hv, fun j x hx => by rw [hw]; exact hc j x hx⟩
  | .own _ _ _ _ _ _, _, h, _ | .ptr _ _ _, _, h, _ | .junk, _, h, _ => by simp [lasting] at h
theorem lastings_rel (hok : ∀ blk, c.ok false blk → c'.ok false blk) (hw : c'.w = c.w) : ∀ (v : List AV) (u : List Value), lastings v = true → VRels c v u → VRels c' v u
  | [], _, _, r => r
  | v :: vs, _, h, ⟨y, ys, e, r, o, s⟩ => by
    simp only [lastings, Bool.and_eq_true] at h
    exact ⟨y, ys, e, lasting_rel hok hw v y h.1 r, o, lastings_rel hok hw vs ys h.2 s⟩
theorem lastingT_rel (hok : ∀ blk, c.ok false blk → c'.ok false blk) (hw : c'.w = c.w) : ∀ (v : List AV) (u : List Value), lastings v = true → VRelT c v u → VRelT c' v u
  | [], _, _, r => r
  | v :: vs, _, h, ⟨y, ys, e, r, s⟩ => by
    simp only [lastings, Bool.and_eq_true] at h
    exact ⟨y, ys, e, lasting_rel hok hw v y h.1 r, lastingT_rel hok hw vs ys h.2 s⟩
end
end

/-! ### calls -/
def noL (rh : Nat → Option (Nat × Nat)) : Pl := ⟨rh, fun _ => none⟩
/-- How a call ends. -/
def EndAt (c : Cx) : CR → Ending → Prop
  | .ret v, e => ∃ u, e = .returned u ∧ VRel c v u
  | .pan v, e => ∃ u, e = .panicked [{ v := u, recovered := false }] ∧ VRel c v u
/-- What a call's answer means. -/
def CallOk (P : Program) (K : FuncId) (args : List AV) (h : Heap) (r : CR) (h' : Heap) : Prop :=
  ∀ (X : Ctl) (rh : Nat → Option (Nat × Nat)) (w : World) (us : List Value), MRel X (noL rh) w ⟨[], h, []⟩ → (∀ blk, X.Mut blk → blk < w.heap.size) → VRelT (cx X (noL rh) w h) args us →
    Calls P K us.toArray w fun e w' => ∃ rh', Ext (noL rh) w (noL rh') w' ∧ (cx X (noL rh) w h).le (cx X (noL rh') w' h') ∧ Kept (cx X (noL rh) w h) (cx X (noL rh') w' h') ∧ MRel X (noL rh') w' ⟨[], h', []⟩ ∧ EndAt (cx X (noL rh') w' h') r e
def Plain (P : Program) (K : FuncId) : Prop := ∃ fn, P.funcs[K]? = some fn ∧ fn.body.isNone = false ∧ (fn.name == "runtime.NumGoroutine") = false
def RecOk (P : Program) (rec : Rec) : Prop := ∀ K args h r h', rec (.call K args h) = some (.call r h') → Plain P K ∧ CallOk P K args h r h'
end Go.Ai
