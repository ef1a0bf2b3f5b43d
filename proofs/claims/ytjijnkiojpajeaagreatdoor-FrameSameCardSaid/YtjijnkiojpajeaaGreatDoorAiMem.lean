/- The abstract interpreter: how abstract memory stands to the model's, and what keeps it so. -/
import Derived.Test.YtjijnkiojpajeaaGreatDoorAiRel
import Derived.RowKit3
set_option linter.unusedSectionVars false
namespace Go.Ai
variable [Glob]

/-- What outer calls may write meanwhile, and what of it was lent. -/
structure Ctl where
  Mut : Nat → Prop
  Bor : Nat → Prop
  sub : ∀ b, Bor b → Mut b
/-- Where objects and local objects lie. -/
structure Pl where
  rh : Nat → Option (Nat × Nat)
  rl : Nat → Option Nat
def okOf (X : Ctl) (p : Pl) (w : World) (b : Bool) (blk : Nat) : Prop :=
  blk < w.heap.size ∧ (∀ id z, p.rh id ≠ some (blk, z)) ∧ (∀ k, p.rl k ≠ some blk) ∧ (X.Mut blk → b = true ∧ X.Bor blk)
def cx (X : Ctl) (p : Pl) (w : World) (h : Heap) : Cx := ⟨w, okOf X p w, p.rh, fun id => (h[id]?).map List.length⟩
def LocAt (c : Cx) (w : World) (b : Nat) : Option LObj → Prop
  | some (.cells cs) => ∃ us el, w.heap[b]? = some (.cells us el (0, 0)) ∧ VRels c cs us.toList
  | some (.iter s n) => w.heap[b]? = some (.stringIter s n)
  | none => True
def HpAt (c : Cx) (w : World) (b z : Nat) (cs : List AV) : Prop :=
  ∃ us el lo hi, w.heap[b]? = some (.cells us el (lo, hi)) ∧ us.size = z ∧ (lo = hi ∨ z ≤ lo) ∧ cs.length ≤ z ∧ VRels c cs (us.toList.take cs.length)
/-- What package variables are known to hold lies there. -/
def GlOk (c : Cx) : Prop := ∀ g us, Glob.gl g = some us → c.ok false g ∧ (∀ v ∈ us, v.oneCell' = true) ∧ ∀ j x, us[j]? = some x → c.w.cell? ⟨g, j, none⟩ = some x
theorem GlOk.mono {c c' : Cx} (h : c.le c') (k : GlOk c) : GlOk c' := fun g us hg =>
  have ⟨h1, h2, h3⟩ := k g us hg
  ⟨(h.ok _ _ h1).1, h2, fun j x hx => (World.cell?_of_block (h.ok _ _ h1).2).trans (h3 j x hx)⟩
structure MRel (X : Ctl) (p : Pl) (w : World) (m : Mm) : Prop where
  hp : ∀ id cs b z, m.hp[id]? = some cs → p.rh id = some (b, z) → HpAt (cx X p w m.hp) w b z cs
  hlt : ∀ id b z, p.rh id = some (b, z) → id < m.hp.length
  loc : ∀ k b, p.rl k = some b → LocAt (cx X p w m.hp) w b (aget m.loc k)
  injh : ∀ id id' b z z', p.rh id = some (b, z) → p.rh id' = some (b, z') → id = id'
  injl : ∀ k k' b, p.rl k = some b → p.rl k' = some b → k = k'
  dis : ∀ id k b z, p.rh id = some (b, z) → p.rl k ≠ some b
  hsz : ∀ id b z, p.rh id = some (b, z) → b < w.heap.size
  lsz : ∀ k b, p.rl k = some b → b < w.heap.size
  muts : ∀ b, X.Mut b → (∀ id z, p.rh id ≠ some (b, z)) ∧ (∀ k, p.rl k ≠ some b)
  gl : GlOk (cx X p w m.hp)
/-- From one world to a later one: what isn't one's own is as it was. -/
structure Ext (p : Pl) (w : World) (p' : Pl) (w' : World) : Prop where
  os : w'.os = w.os
  tape : w'.tape = w.tape
  output : w'.output = w.output
  size : w.heap.size ≤ w'.heap.size
  blk : ∀ b, b < w.heap.size → (∀ id z, p.rh id ≠ some (b, z)) → (∀ k, p.rl k ≠ some b) → w'.heap[b]? = w.heap[b]?
  rh : ∀ id b z, p'.rh id = some (b, z) → b < w.heap.size → p.rh id = some (b, z)
  rl : ∀ k b, p'.rl k = some b → b < w.heap.size → p.rl k = some b
theorem Ext.refl (p : Pl) (w : World) : Ext p w p w := ⟨rfl, rfl, rfl, Nat.le_refl _, fun _ _ _ _ => rfl, fun _ _ _ h _ => h, fun _ _ h _ => h⟩
theorem Ext.trans {p p' p'' : Pl} {w w' w'' : World} (h : Ext p w p' w') (k : Ext p' w' p'' w'') : Ext p w p'' w'' :=
  ⟨k.os.trans h.os, k.tape.trans h.tape, k.output.trans h.output, Nat.le_trans h.size k.size,
   fun b hb h1 h2 => (k.blk b (Nat.lt_of_lt_of_le hb h.size) (fun id z e => h1 id z (h.rh id b z e hb)) (fun i e => h2 i (h.rl i b e hb))).trans (h.blk b hb h1 h2),
   fun id b z e hb => h.rh id b z (k.rh id b z e (Nat.lt_of_lt_of_le hb h.size)) hb,
   fun i b e hb => h.rl i b (k.rl i b e (Nat.lt_of_lt_of_le hb h.size)) hb⟩
theorem Ext.ok {X : Ctl} {p p' : Pl} {w w' : World} (h : Ext p w p' w') {b : Bool} {blk : Nat} (k : okOf X p w b blk) : okOf X p' w' b blk ∧ w'.heap[blk]? = w.heap[blk]? :=
  ⟨⟨Nat.lt_of_lt_of_le k.1 h.size, fun id z e => k.2.1 id z (h.rh id blk z e k.1), fun i e => k.2.2.1 i (h.rl i blk e k.1), k.2.2.2⟩, h.blk blk k.1 k.2.1 k.2.2.1⟩
/-- Lengths of objects that don't turn. -/
theorem Ext.le {X : Ctl} {p p' : Pl} {w w' : World} {h h' : Heap} (e : Ext p w p' w')
    (hl : ∀ id cs, h[id]? = some cs → ∃ cs', h'[id]? = some cs' ∧ cs.length ≤ cs'.length ∧ (cs'.length = cs.length → p'.rh id = p.rh id ∨ (p.rh id = none ∧ cs.length ≠ 0))) : (cx X p w h).le (cx X p' w' h') :=
  ⟨fun _ _ k => e.ok k, fun id n hn => by
    simp only [cx, Option.map_eq_some_iff] at hn ⊢
    obtain ⟨cs, h1, rfl⟩ := hn
    obtain ⟨cs', h2, h3, h4⟩ := hl id cs h1
    exact ⟨_, ⟨cs', h2, rfl⟩, h3, h4⟩⟩
theorem Ext.le_same {X : Ctl} {p p' : Pl} {w w' : World} {h : Heap} (e : Ext p w p' w') (hr : ∀ id, p'.rh id = p.rh id) : (cx X p w h).le (cx X p' w' h) :=
  e.le fun _ cs hc => ⟨cs, hc, Nat.le_refl _, fun _ => .inl (hr _)⟩

theorem HpAt.mono {c c' : Cx} (h : c.le c') {w w' : World} {b z : Nat} {cs : List AV} (hb : w'.heap[b]? = w.heap[b]?) (k : HpAt c w b z cs) : HpAt c' w' b z cs := by
  obtain ⟨us, el, lo, hi, h1, h2, h3, h4, h5⟩ := k
  exact ⟨us, el, lo, hi, hb.trans h1, h2, h3, h4, h5.mono h _ _⟩
theorem LocAt.mono {c c' : Cx} (h : c.le c') {w w' : World} {b : Nat} (hb : w'.heap[b]? = w.heap[b]?) : ∀ {o : Option LObj}, LocAt c w b o → LocAt c' w' b o
  | some (.cells _), ⟨us, el, h1, h2⟩ => ⟨us, el, hb.trans h1, h2.mono h _ _⟩
  | some (.iter _ _), k => hb.trans k
  | none, _ => trivial

/-- Nothing of ours has turned; what is new is no one's. -/
structure Quiet (w w' : World) : Prop where
  os : w'.os = w.os
  tape : w'.tape = w.tape
  output : w'.output = w.output
  size : w.heap.size ≤ w'.heap.size
  blk : ∀ b, b < w.heap.size → w'.heap[b]? = w.heap[b]?
theorem Quiet.refl (w : World) : Quiet w w := ⟨rfl, rfl, rfl, Nat.le_refl _, fun _ _ => rfl⟩
theorem Quiet.trans {a b c : World} (h : Quiet a b) (k : Quiet b c) : Quiet a c :=
  ⟨k.os.trans h.os, k.tape.trans h.tape, k.output.trans h.output, Nat.le_trans h.size k.size, fun i hi => (k.blk i (Nat.lt_of_lt_of_le hi h.size)).trans (h.blk i hi)⟩
theorem Quiet.alloc (w : World) (o : Obj) : Quiet w (w.alloc o) :=
  ⟨rfl, rfl, rfl, by simp, fun b hb => by show (w.heap.push o)[b]? = _; rw [Array.getElem?_push, if_neg (by omega)]⟩
theorem Quiet.drew (w : World) : Quiet w { w with drawn := w.drawn + 1 } := ⟨rfl, rfl, rfl, Nat.le_refl _, fun _ _ => rfl⟩
theorem Quiet.ext {w w' : World} (h : Quiet w w') (p : Pl) : Ext p w p w' :=
  ⟨h.os, h.tape, h.output, h.size, fun b hb _ _ => h.blk b hb, fun _ _ _ e _ => e, fun _ _ e _ => e⟩
theorem Quiet.cell {w w' : World} (h : Quiet w w') {a : Addr} {v : Value} (k : w.cell? a = some v) : w'.cell? a = some v :=
  (World.cell?_of_block (h.blk a.block (World.block_lt_of_cell? w a k))).trans k
theorem MRel.quiet {X : Ctl} {p : Pl} {w w' : World} {m : Mm} (r : MRel X p w m) (h : Quiet w w') : MRel X p w' m := by
  have hle := (h.ext p).le_same (X := X) (h := m.hp) fun _ => rfl
  exact ⟨fun id cs b z h1 h2 => (r.hp id cs b z h1 h2).mono hle (h.blk b (r.hsz id b z h2)), r.hlt, fun k b h1 => (r.loc k b h1).mono hle (h.blk b (r.lsz k b h1)),
    r.injh, r.injl, r.dis, fun id b z e => Nat.lt_of_lt_of_le (r.hsz id b z e) h.size, fun k b e => Nat.lt_of_lt_of_le (r.lsz k b e) h.size, r.muts, r.gl.mono hle⟩

/-! ### lists by key -/
theorem nbeq {i j : Nat} (h : ¬ i = j) : Nat.beq i j = false := by
  cases e : Nat.beq i j with
  | false => rfl
  | true => exact absurd (Nat.eq_of_beq_eq_true e) h
theorem aget_aset {β : Type} : ∀ (l : List (Nat × β)) (i j : Nat) (v : β), aget (aset l i v) j = if i = j then some v else aget l j
  | [], i, j, v => by
    simp only [aset, aget]
    by_cases h : i = j
    · subst h; simp
    · rw [if_neg h, nbeq h]; rfl
  | (k, w) :: r, i, j, v => by
    simp only [aset]
    by_cases hk : k = i
    · subst hk
      rw [Nat.beq_refl]
      simp only [cond, aget]
      by_cases h : k = j
      · subst h; simp
      · rw [if_neg h, nbeq h]
    · rw [nbeq hk]
      simp only [cond]
      cases hb : Nat.ble i k with
      | true =>
        simp only [aget]
        by_cases h : i = j
        · subst h; simp
        · rw [if_neg h, nbeq h]; rfl
      | false =>
        simp only [aget, aget_aset r i j v]
        by_cases h : k = j
        · subst h; simp only [Nat.beq_refl, cond]; rw [if_neg (fun e => hk e.symm)]
        · rw [nbeq h]; rfl

/-! ### new objects -/
def Pl.putH (p : Pl) (id b z : Nat) : Pl := { p with rh := fun i => if i = id then some (b, z) else p.rh i }
def Pl.putL (p : Pl) (k b : Nat) : Pl := { p with rl := fun i => if i = k then some b else p.rl i }
section
variable {X : Ctl} {p : Pl} {w w' : World} {m : Mm}
theorem ext_newH {id : Nat} (h : Quiet w w') (z : Nat) {b : Nat} (hb : w.heap.size ≤ b) : Ext p w (p.putH id b z) w' :=
  ⟨h.os, h.tape, h.output, h.size, fun b hb _ _ => h.blk b hb, fun i b' z' e hlt => by
    simp only [Pl.putH] at e
    split at e
    · simp only [Option.some.injEq, Prod.mk.injEq] at e; omega
    · exact e, fun _ _ e _ => e⟩
theorem ext_newL {k : Nat} (h : Quiet w w') {b : Nat} (hb : w.heap.size ≤ b) : Ext p w (p.putL k b) w' :=
  ⟨h.os, h.tape, h.output, h.size, fun b hb _ _ => h.blk b hb, fun _ _ _ e _ => e, fun i b' e hlt => by
    simp only [Pl.putL] at e
    split at e
    · simp only [Option.some.injEq] at e; omega
    · exact e⟩
/-- A number that no object has yet (or one that lies nowhere yet) gets a new block. -/
theorem MRel.newH (r : MRel X p w m) (h : Quiet w w') {id b z : Nat} (hb : w.heap.size ≤ b) (hb' : b < w'.heap.size) (hM : ∀ blk, X.Mut blk → blk < w.heap.size) {h' : Heap} (hid : id < h'.length)
    (hl : ∀ i cs, m.hp[i]? = some cs → ∃ cs', h'[i]? = some cs' ∧ cs.length ≤ cs'.length ∧ (cs'.length = cs.length → (p.putH id b z).rh i = p.rh i ∨ (p.rh i = none ∧ cs.length ≠ 0)))
    (hsame : ∀ i cs b z, i ≠ id → h'[i]? = some cs → p.rh i = some (b, z) → m.hp[i]? = some cs)
    (hlen : m.hp.length ≤ h'.length)
    (hat : ∀ cs, h'[id]? = some cs → HpAt (cx X (p.putH id b z) w' h') w' b z cs) :
    MRel X (p.putH id b z) w' { m with hp := h' } ∧ (cx X p w m.hp).le (cx X (p.putH id b z) w' h') := by
  have hle : (cx X p w m.hp).le (cx X (p.putH id b z) w' h') := (ext_newH h z hb).le hl
  refine ⟨⟨fun i cs b1 z1 h1 h2 => ?_, fun i b1 z1 h2 => ?_, fun k b1 h1 => ?_, fun i j b1 z1 z2 h1 h2 => ?_, r.injl, fun i k b1 z1 h1 h2 => ?_, fun i b1 z1 h1 => ?_, fun k b1 h1 => Nat.lt_of_lt_of_le (r.lsz k b1 h1) h.size, fun blk hm => ?_, r.gl.mono hle⟩, hle⟩
  · simp only [Pl.putH] at h2
    split at h2
    · rename_i e; subst e
      simp only [Option.some.injEq, Prod.mk.injEq] at h2
      obtain ⟨rfl, rfl⟩ := h2
      exact hat cs h1
    · rename_i e
      exact (r.hp i cs b1 z1 (hsame i cs b1 z1 e h1 h2) h2).mono hle (h.blk b1 (r.hsz i b1 z1 h2))
  · simp only [Pl.putH] at h2
    split at h2
    · rename_i e; subst e; exact hid
    · exact Nat.lt_of_lt_of_le (r.hlt i b1 z1 h2) hlen
  · exact (r.loc k b1 h1).mono hle (h.blk b1 (r.lsz k b1 h1))
  · simp only [Pl.putH] at h1 h2
    split at h1 <;> split at h2 <;> rename_i e1 e2
    · rw [e1, e2]
    · simp only [Option.some.injEq, Prod.mk.injEq] at h1; have := r.hsz _ _ _ h2; omega
    · simp only [Option.some.injEq, Prod.mk.injEq] at h2; have := r.hsz _ _ _ h1; omega
    · exact r.injh i j b1 z1 z2 h1 h2
  · simp only [Pl.putH] at h1 h2
    split at h1
    · simp only [Option.some.injEq, Prod.mk.injEq] at h1; have := r.lsz _ _ h2; omega
    · exact r.dis i k b1 z1 h1 h2
  · simp only [Pl.putH] at h1
    split at h1
    · simp only [Option.some.injEq, Prod.mk.injEq] at h1; omega
    · exact Nat.lt_of_lt_of_le (r.hsz i b1 z1 h1) h.size
  · refine ⟨fun i z1 e => ?_, (r.muts blk hm).2⟩
    simp only [Pl.putH] at e
    split at e
    · simp only [Option.some.injEq, Prod.mk.injEq] at e; have := hM blk hm; omega
    · exact (r.muts blk hm).1 i z1 e
/-- A local object anew. -/
theorem MRel.newL (r : MRel X p w m) (h : Quiet w w') {k b : Nat} (hb : w.heap.size ≤ b) (hb' : b < w'.heap.size) (hM : ∀ blk, X.Mut blk → blk < w.heap.size) (o : LObj)
    (hat : LocAt (cx X (p.putL k b) w' m.hp) w' b (some o)) :
    MRel X (p.putL k b) w' { m with loc := aset m.loc k o } ∧ (cx X p w m.hp).le (cx X (p.putL k b) w' m.hp) := by
  have hle : (cx X p w m.hp).le (cx X (p.putL k b) w' m.hp) := (ext_newL h hb).le_same fun _ => rfl
  refine ⟨⟨fun i cs b1 z1 h1 h2 => (r.hp i cs b1 z1 h1 h2).mono hle (h.blk b1 (r.hsz i b1 z1 h2)), r.hlt, fun i b1 h1 => ?_, r.injh, fun i j b1 h1 h2 => ?_, fun i j b1 z1 h1 h2 => ?_, fun i b1 z1 h1 => Nat.lt_of_lt_of_le (r.hsz i b1 z1 h1) h.size, fun i b1 h1 => ?_, fun blk hm => ?_, r.gl.mono hle⟩, hle⟩
  · simp only [Pl.putL] at h1
    rw [aget_aset]
    split at h1
    · rename_i e; subst e
      simp only [Option.some.injEq] at h1
      subst h1
      rw [if_pos rfl]
      exact hat
    · rename_i e
      rw [if_neg (fun x => e x.symm)]
      exact (r.loc i b1 h1).mono hle (h.blk b1 (r.lsz i b1 h1))
  · simp only [Pl.putL] at h1 h2
    split at h1 <;> split at h2 <;> rename_i e1 e2
    · rw [e1, e2]
    · simp only [Option.some.injEq] at h1; have := r.lsz _ _ h2; omega
    · simp only [Option.some.injEq] at h2; have := r.lsz _ _ h1; omega
    · exact r.injl i j b1 h1 h2
  · simp only [Pl.putL] at h1 h2
    split at h2
    · simp only [Option.some.injEq] at h2; have := r.hsz _ _ _ h1; omega
    · exact r.dis i j b1 z1 h1 h2
  · simp only [Pl.putL] at h1
    split at h1
    · simp only [Option.some.injEq] at h1; omega
    · exact Nat.lt_of_lt_of_le (r.lsz i b1 h1) h.size
  · refine ⟨(r.muts blk hm).1, fun i e => ?_⟩
    simp only [Pl.putL] at e
    split at e
    · simp only [Option.some.injEq] at e; have := hM blk hm; omega
    · exact (r.muts blk hm).2 i e

/-! ### one block turns -/
structure Turned (w w' : World) (b : Nat) : Prop where
  os : w'.os = w.os
  tape : w'.tape = w.tape
  output : w'.output = w.output
  size : w'.heap.size = w.heap.size
  blk : ∀ i, i ≠ b → w'.heap[i]? = w.heap[i]?
theorem Turned.extH {b : Nat} (h : Turned w w' b) {id z : Nat} (hr : p.rh id = some (b, z)) : Ext p w p w' :=
  ⟨h.os, h.tape, h.output, Nat.le_of_eq h.size.symm, fun i _ h1 _ => h.blk i fun e => by subst e; exact h1 id z hr, fun _ _ _ e _ => e, fun _ _ e _ => e⟩
theorem Turned.extL {b : Nat} (h : Turned w w' b) {k : Nat} (hr : p.rl k = some b) : Ext p w p w' :=
  ⟨h.os, h.tape, h.output, Nat.le_of_eq h.size.symm, fun i _ _ h1 => h.blk i fun e => by subst e; exact h1 k hr, fun _ _ _ e _ => e, fun _ _ e _ => e⟩
/-- An object's cells turn, their number doesn't. -/
theorem MRel.setH (r : MRel X p w m) {id b z : Nat} (hr : p.rh id = some (b, z)) (h : Turned w w' b) {cs cs' : List AV} (hc : m.hp[id]? = some cs) (hlen : cs'.length = cs.length)
    (hat : HpAt (cx X p w' (m.hp.set id cs')) w' b z cs') :
    MRel X p w' { m with hp := m.hp.set id cs' } ∧ (cx X p w m.hp).le (cx X p w' (m.hp.set id cs')) ∧ Ext p w p w' := by
  have hext := h.extH hr
  have hle : (cx X p w m.hp).le (cx X p w' (m.hp.set id cs')) := hext.le fun i c h1 => by
    by_cases e : i = id
    · subst e
      rw [hc] at h1; cases h1
      exact ⟨cs', by simp [(List.getElem?_eq_some_iff.1 hc).1], by omega, fun _ => .inl rfl⟩
    · exact ⟨c, by rw [List.getElem?_set_ne (fun x => e x.symm)]; exact h1, Nat.le_refl _, fun _ => .inl rfl⟩
  refine ⟨⟨fun i c b1 z1 h1 h2 => ?_, fun i b1 z1 h1 => by simpa using r.hlt i b1 z1 h1, fun k b1 h1 => ?_, r.injh, r.injl, r.dis, fun i b1 z1 h1 => by rw [h.size]; exact r.hsz i b1 z1 h1, fun k b1 h1 => by rw [h.size]; exact r.lsz k b1 h1, r.muts, r.gl.mono hle⟩, hle, hext⟩
  · by_cases e : i = id
    · subst e
      rw [hr] at h2
      simp only [Option.some.injEq, Prod.mk.injEq] at h2
      obtain ⟨rfl, rfl⟩ := h2
      simp [(List.getElem?_eq_some_iff.1 hc).1] at h1
      subst h1
      exact hat
    · rw [List.getElem?_set_ne (fun x => e x.symm)] at h1
      exact (r.hp i c b1 z1 h1 h2).mono hle (h.blk b1 fun x => by subst x; exact e (r.injh i id _ _ _ h2 hr))
  · exact (r.loc k b1 h1).mono hle (h.blk b1 fun x => by subst x; exact r.dis id k _ z hr h1)
/-- A local object turns. -/
theorem MRel.setL (r : MRel X p w m) {k b : Nat} (hr : p.rl k = some b) (h : Turned w w' b) (o : LObj) (hat : LocAt (cx X p w' m.hp) w' b (some o)) :
    MRel X p w' { m with loc := aset m.loc k o } ∧ (cx X p w m.hp).le (cx X p w' m.hp) ∧ Ext p w p w' := by
  have hext := h.extL hr
  have hle : (cx X p w m.hp).le (cx X p w' m.hp) := hext.le_same fun _ => rfl
  refine ⟨⟨fun i c b1 z1 h1 h2 => (r.hp i c b1 z1 h1 h2).mono hle (h.blk b1 fun x => by subst x; exact r.dis i k _ z1 h2 hr), r.hlt, fun i b1 h1 => ?_, r.injh, r.injl, r.dis, fun i b1 z1 h1 => by rw [h.size]; exact r.hsz i b1 z1 h1, fun i b1 h1 => by rw [h.size]; exact r.lsz i b1 h1, r.muts, r.gl.mono hle⟩, hle, hext⟩
  rw [aget_aset]
  by_cases e : k = i
  · subst e
    rw [hr] at h1
    cases h1
    rw [if_pos rfl]
    exact hat
  · rw [if_neg e]
    exact (r.loc i b1 h1).mono hle (h.blk b1 fun x => by subst x; exact e (r.injl k i _ hr h1))
end
end Go.Ai
