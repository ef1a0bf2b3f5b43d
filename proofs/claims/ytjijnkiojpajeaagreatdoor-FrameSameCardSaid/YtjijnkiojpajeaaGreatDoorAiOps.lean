/- The abstract interpreter: each operation by itself, first part. -/
import Derived.Test.YtjijnkiojpajeaaGreatDoorAiRun
set_option linter.unusedVariables false
set_option linter.unusedSimpArgs false
set_option linter.unusedSectionVars false
namespace Go.Ai
variable [Glob]

def DRel (c : Cx) : List AV → List Deferred → Prop
  | [], ds => ds = []
  | .fn f a k :: r, ds => ∃ as ks rest, ds = { target := .fn (.func f) ks.toArray, args := as.toArray } :: rest ∧ VRelT c a as ∧ VRelT c k ks ∧ DRel c r rest
  | _, _ => False
theorem DRel.mono {c c' : Cx} (h : c.le c') : ∀ {l : List AV} {ds : List Deferred}, DRel c l ds → DRel c' l ds
  | [], _, r => r
  | .fn f a k :: r, ds, ⟨as, ks, rest, e, h1, h2, h3⟩ => ⟨as, ks, rest, e, h1.mono h _ _, h2.mono h _ _, h3.mono h⟩
  | .sc _ :: _, _, r | .agg _ :: _, _, r | .tup _ :: _, _, r | .ifc _ _ :: _, _, r | .nils :: _, _, r | .snap _ _ _ _ :: _, _, r | .own _ _ _ _ _ _ :: _, _, r | .ptr _ _ _ :: _, _, r | .sp _ _ :: _, _, r | .junk :: _, _, r => r.elim

def isSite (fl : Option Flag) (k : Nat) : Bool := match fl with | some (.site j) => Nat.beq j k | _ => false
structure Hyp (X : Ctl) (p : Pl) (w : World) (m : Mm) (ρ : Ro) (a : Act) : Prop where
  r : MRel X p w m
  lt : ∀ blk, X.Mut blk → blk < w.heap.size
  ro : ∀ x, SRelV (cx X p w m.hp) p (ρ x) (a.eval x)
  df : DRel (cx X p w m.hp) m.dfs a.defers
/-- What lies nowhere yet lies nowhere still. -/
def Kept (c c' : Cx) : Prop := ∀ id n, c.hl id = some n → n ≠ 0 → c.rh id = none → c'.hl id = some n → c'.rh id = none
theorem Kept.same {c c' : Cx} (h : ∀ id, c.rh id = none → c'.rh id = none) : Kept c c' := fun id _ _ _ e _ => h id e
theorem Kept.trans {a b c : Cx} (hl : a.le b) (hm : b.le c) (h : Kept a b) (k : Kept b c) : Kept a c := fun id n h1 h2 h3 h4 => by
  obtain ⟨n1, g1, g2, _⟩ := hl.hl id n h1
  obtain ⟨n2, k1, k2, _⟩ := hm.hl id n1 g1
  rw [h4] at k1
  cases k1
  have : n1 = n := by omega
  subst this
  exact k id n1 g1 h2 (h id n1 h1 h2 h3 g1) h4
/-- An operation goes on with a value and a memory. -/
def Goes (X : Ctl) (p : Pl) (w : World) (m : Mm) (fl : Option Flag) (a : Act) (o : Oper) (next : Act → World → Prop) (v : SV) (m' : Mm) : Prop :=
  ∀ p' w' ds' u, Ext p w p' w' → (cx X p w m.hp).le (cx X p' w' m'.hp) → Kept (cx X p w m.hp) (cx X p' w' m'.hp) → MRel X p' w' m' → DRel (cx X p' w' m'.hp) m'.dfs ds' → (∀ k, isSite fl k = false → p'.rl k = p.rl k) →
    SRelV (cx X p' w' m'.hp) p' v u → next (({ a with defers := ds' } : Act).put o.dst u) w'
def Pans (X : Ctl) (p : Pl) (w : World) (m : Mm) (a : Act) (Q : Exit → Act → World → Prop) (v : AV) (m' : Mm) : Prop :=
  ∀ p' w' u, Ext p w p' w' → (cx X p w m.hp).le (cx X p' w' m'.hp) → Kept (cx X p w m.hp) (cx X p' w' m'.hp) → MRel X p' w' m' → DRel (cx X p' w' m'.hp) m'.dfs a.defers → (∀ k, p'.rl k = p.rl k) →
    VRel (cx X p' w' m'.hp) v u → Q (.panic [{ v := u, recovered := false }]) a w'
def Out (X : Ctl) (p : Pl) (w : World) (m : Mm) (fl : Option Flag) (a : Act) (o : Oper) (next : Act → World → Prop) (Q : Exit → Act → World → Prop) : OR → Prop
  | .val v m' => Goes X p w m fl a o next v m'
  | .pan v m' => Pans X p w m a Q v m'

theorem okCell_rel {c : Cx} : ∀ {v : AV} {u : Value}, okCell v = true → VRel c v u → u.oneCell' = true
  | .sc v, u, h, r => by simp only [VRel] at r; subst r; exact h
  | .ifc _ _, _, _, ⟨x, e, _⟩ => by subst e; rfl
  | .fn _ _ _, _, _, ⟨_, _, e, _⟩ => by subst e; rfl
  | .nils, _, _, r => by simp only [VRel] at r; subst r; rfl
  | .snap _ _ _ _, _, _, ⟨_, _, e, _⟩ => by subst e; rfl
  | .own _ _ _ _ _ _, _, _, r => r.1
  | .ptr _ _ _, _, _, r => r.1
  | .sp _ _, _, _, ⟨_, _, e, _⟩ => by subst e; rfl
  | .agg _, _, h, _ | .tup _, _, h, _ | .junk, _, h, _ => by simp [okCell] at h

theorem cellsOf_rel {c : Cx} {v : AV} {u : Value} {cs : List AV} (h : cellsOf v = some cs) (r : VRel c v u) : VRels c cs u.cells.toList := by
  unfold cellsOf at h
  split at h
  · cases h
    obtain ⟨us, rfl, hr⟩ := r
    exact hr
  · split at h
    · rename_i hok
      cases h
      have ho := okCell_rel hok r
      have hc : u.cells = #[u] := by cases u <;> first | rfl | simp [Value.oneCell'] at ho
      rw [hc]
      exact ⟨u, [], rfl, r, ho, rfl⟩
    · cases h
theorem valOf_rel {c : Cx} {p : Pl} {s : SV} {v : AV} {u : Value} (h : valOf s = some v) (r : SRelV c p s u) : VRel c v u := by
  cases s with
  | v a => cases h; exact r
  | l k o => cases h

section
variable {P : Program} {X : Ctl} {p : Pl} {w : World} {m : Mm} {fl : Option Flag} {ρ : Ro} {a : Act} {o : Oper} {next : Act → World → Prop} {Q : Exit → Act → World → Prop}
theorem Hyp.val (H : Hyp X p w m ρ a) {x : Operand} {v : AV} (h : opv ρ x = some v) : VRel (cx X p w m.hp) v (a.eval x) := valOf_rel h (H.ro x)
theorem Hyp.vals (H : Hyp X p w m ρ a) : ∀ {xs : List Operand} {vs : List AV}, opvs ρ xs = some vs → VRelT (cx X p w m.hp) vs (xs.map a.eval)
  | [], vs, h => by cases h; rfl
  | x :: r, vs, h => by
    simp only [opvs, Option.bind_eq_some_iff] at h
    obtain ⟨v, h1, vs', h2, h3⟩ := h
    cases h3
    exact ⟨_, _, rfl, H.val h1, H.vals h2⟩

/-- Memory stays. -/
theorem op_value (H : Hyp X p w m ρ a) {v : SV} {u : Value} {w' : World} (hrun : (execOp a.eval o).run P w = .ok (.value u) w') (hq : Quiet w w') (hv : SRelV (cx X p w m.hp) p v u)
    (hn : Goes X p w m fl a o next v m) : o.wp P a w next Q := by
  unfold Oper.wp
  rw [hrun]
  have hle := (hq.ext p).le_same (X := X) (h := m.hp) fun _ => rfl
  exact hn p w' a.defers u (hq.ext p) hle (.same fun _ h => h) (H.r.quiet hq) (H.df.mono hle) (fun _ _ => rfl) (hv.mono hle (fun _ _ _ => rfl))
/-- Memory turns. -/
theorem op_turns (H : Hyp X p w m ρ a) {v : SV} {m' : Mm} {u : Value} {w' : World} {p' : Pl} (hrun : (execOp a.eval o).run P w = .ok (.value u) w') (he : Ext p w p' w') (hle : (cx X p w m.hp).le (cx X p' w' m'.hp)) (hr : MRel X p' w' m')
    (hk : Kept (cx X p w m.hp) (cx X p' w' m'.hp)) (hl : ∀ k, isSite fl k = false → p'.rl k = p.rl k) (hd : m'.dfs = m.dfs) (hv : SRelV (cx X p' w' m'.hp) p' v u) (hn : Goes X p w m fl a o next v m') : o.wp P a w next Q := by
  unfold Oper.wp
  rw [hrun]
  exact hn p' w' a.defers u he hle hk hr (by rw [hd]; exact H.df.mono hle) hl hv
/-- .. and there is no value. -/
theorem op_skip (H : Hyp X p w m ρ a) {m' : Mm} {w' : World} {p' : Pl} (hrun : (execOp a.eval o).run P w = .ok .skip w') (he : Ext p w p' w') (hle : (cx X p w m.hp).le (cx X p' w' m'.hp)) (hr : MRel X p' w' m')
    (hk : Kept (cx X p w m.hp) (cx X p' w' m'.hp)) (hl : ∀ k, isSite fl k = false → p'.rl k = p.rl k) (hd : m'.dfs = m.dfs) (hn : Goes X p w m fl a o next (.v (.tup [])) m') : o.wp P a w next Q := by
  unfold Oper.wp
  rw [hrun]
  exact hn p' w' a.defers undef he hle hk hr (by rw [hd]; exact H.df.mono hle) hl ⟨[], rfl, rfl⟩

/-! ### new variables -/
theorem MRel.push (r : MRel X p w m) (lt : ∀ blk, X.Mut blk → blk < w.heap.size) {w' : World} {b z : Nat} (h : Quiet w w') (hb : w.heap.size ≤ b) (hb' : b < w'.heap.size) {cs : List AV}
    (hat : ∀ c, (cx X p w m.hp).le c → HpAt c w' b z cs) :
    MRel X (p.putH m.hp.length b z) w' { m with hp := m.hp ++ [cs] } ∧ (cx X p w m.hp).le (cx X (p.putH m.hp.length b z) w' (m.hp ++ [cs])) := by
  have hl : ∀ i c, m.hp[i]? = some c → ∃ c', (m.hp ++ [cs])[i]? = some c' ∧ c.length ≤ c'.length ∧ (c'.length = c.length → (p.putH m.hp.length b z).rh i = p.rh i ∨ (p.rh i = none ∧ c.length ≠ 0)) := fun i c h1 => by
    have hi := (List.getElem?_eq_some_iff.1 h1).1
    exact ⟨c, by rw [List.getElem?_append_left hi]; exact h1, Nat.le_refl _, fun _ => .inl (by simp only [Pl.putH]; rw [if_neg (by omega)])⟩
  refine r.newH h hb hb' lt (by simp) hl (fun i c b1 z1 hne h1 h2 => ?_) (by simp) fun c hc => ?_
  · have hi := r.hlt i b1 z1 h2
    rw [List.getElem?_append_left hi] at h1
    exact h1
  · simp at hc
    subst hc
    exact hat _ ((ext_newH h z hb).le hl)
theorem rel_ptr_new {c : Cx} {id b z n : Nat} (h1 : c.hl id = some n) (h2 : c.rh id = some (b, z)) : VRel c (.ptr id 0 n) (.pointer (some ⟨b, 0, none⟩)) :=
  ⟨rfl, n, h1, Nat.le_refl _, fun _ => ⟨b, z, h2, rfl⟩⟩
theorem kept_new {c : Cx} {w' : World} {m : Mm} {p : Pl} {X : Ctl} {b z : Nat} {cs : List AV} (hc : c.hl = fun id => (m.hp[id]?).map List.length) : c.rh = p.rh → Kept c (cx X (p.putH m.hp.length b z) w' (m.hp ++ [cs])) := fun hr id n h1 _ h3 _ => by
  rw [hc] at h1
  simp only [Option.map_eq_some_iff] at h1
  obtain ⟨cs', h1, _⟩ := h1
  have := (List.getElem?_eq_some_iff.1 h1).1
  simp only [cx, Pl.putH]
  rw [if_neg (by omega), ← hr]
  exact h3
theorem HpAt.fresh {c c' : Cx} {w : World} {cs : List AV} {us : Array Value} (el : TypeId) (hr : VRels c cs us.toList) (hle : c.le c') : HpAt c' (w.alloc (.cells us el)) w.heap.size us.size cs := by
  have hl := hr.length
  simp at hl
  refine ⟨us, el, 0, 0, heap_alloc_new w _, rfl, .inl rfl, by omega, ?_⟩
  rw [List.take_of_length_le (by simp; omega)]
  exact hr.mono hle _ _
theorem op_newBox (H : Hyp X p w m ρ a) {el : TypeId} {us : Array Value} {cs : List AV} (hrun : (execOp a.eval o).run P w = .ok (.value (.pointer (some ⟨w.heap.size, 0, none⟩))) (w.alloc (.cells us el)))
    (hr : VRels (cx X p w m.hp) cs us.toList) {r : OR} (he : newBox fl m cs = r) (hn : Out X p w m fl a o next Q r) : o.wp P a w next Q := by
  have hq := Quiet.alloc w (.cells us el)
  unfold newBox at he
  split at he
  · rename_i k
    subst he
    have hle : (cx X p w m.hp).le (cx X (p.putL k w.heap.size) (w.alloc (.cells us el)) m.hp) := (ext_newL hq (Nat.le_refl _)).le_same fun _ => rfl
    obtain ⟨h1, h2⟩ := H.r.newL hq (k := k) (Nat.le_refl _) (by simp) H.lt (.cells cs) ⟨us, el, heap_alloc_new w _, hr.mono hle _ _⟩
    refine op_turns (v := .l k 0) (m' := { m with loc := aset m.loc k (.cells cs) }) H hrun (ext_newL hq (Nat.le_refl _)) h2 h1 (.same fun _ h => h) (fun j hj => ?_) rfl ⟨w.heap.size, ?_, rfl⟩ hn
    · simp only [Pl.putL]
      rw [if_neg]
      rintro rfl
      simp [isSite, Nat.beq_refl] at hj
    · simp [Pl.putL]
  · subst he
    obtain ⟨h1, h2⟩ := H.r.push H.lt hq (b := w.heap.size) (z := us.size) (Nat.le_refl _) (by simp) (cs := cs) fun c hc => HpAt.fresh el hr hc
    refine op_turns (v := .v (.ptr m.hp.length 0 cs.length)) (m' := { m with hp := m.hp ++ [cs] }) H hrun (ext_newH hq _ (Nat.le_refl _)) h2 h1 (kept_new rfl rfl) (fun _ _ => rfl) rfl (rel_ptr_new (b := w.heap.size) (z := us.size) ?_ ?_) hn
    · simp [cx]
    · simp [cx, Pl.putH]
end
end Go.Ai
