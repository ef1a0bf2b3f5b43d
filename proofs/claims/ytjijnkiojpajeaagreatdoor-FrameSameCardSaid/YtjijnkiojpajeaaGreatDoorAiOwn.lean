/- The abstract interpreter: slices of the call's own, as typed lists; what a store into them keeps. -/
import Derived.Test.YtjijnkiojpajeaaGreatDoorAiSpec
set_option linter.unusedVariables false
set_option linter.unusedSectionVars false
namespace Go.Ai
variable [Glob]
def ic (k : IntKind) (x : Int) : AV := .sc (.int k x)
def LiO {α : Type} (h : Heap) (size : Nat) (Q : List AV → α → Prop) (l : List α) (a : AV) : Prop :=
  (a = .nils ∧ l = []) ∨ ∃ id cs, a = .own id 0 size l.length l.length (l.length * size) ∧ h[id]? = some cs ∧ cs.length = l.length * size ∧ ∀ i x, l[i]? = some x → Q ((cs.drop (i * size)).take size) x
section
variable {α : Type} {h : Heap} {size : Nat} {Q : List AV → α → Prop} {l : List α} {a : AV} {lo : Loc} {d : List AV}
theorem LiO.nils : LiO h size Q [] .nils := .inl ⟨rfl, rfl⟩
theorem LiO.cells (k : LiO h size Q l a) : cellsOf a = some [a] := by
  rcases k with ⟨rfl, _⟩ | ⟨id, cs, rfl, _⟩ <;> rfl
theorem LiO.len (k : LiO h size Q l a) : aLenS ⟨lo, h, d⟩ a = some l.length := by
  rcases k with ⟨rfl, rfl⟩ | ⟨id, cs, rfl, h1, h2, _⟩
  · rfl
  · simp [aLenS, h1, h2]
theorem LiO.at_ (k : LiO h size Q l a) (hs : 0 < size) {i : Nat} {x : α} (hi : l[i]? = some x) : ∃ id cs, aIndexS ⟨lo, h, d⟩ size (i : Int) a = some (.v (.ptr id (i * size) cs.length)) ∧ h[id]? = some cs ∧ Q ((cs.drop (i * size)).take size) x ∧ ((cs.drop (i * size)).take size).length = size ∧
    (∀ off v, off < size → ((cs.drop (i * size)).take size)[off]? = some v → aField ⟨lo, h, d⟩ off (.v (.ptr id (i * size) cs.length)) = some (.v (.ptr id (i * size + off) cs.length)) ∧ aLoad false 1 ⟨lo, h, d⟩ (.v (.ptr id (i * size + off) cs.length)) = some v ∧ cs[i * size + off]? = some v) := by
  have hlt : i < l.length := (List.getElem?_eq_some_iff.1 hi).1
  rcases k with ⟨_, rfl⟩ | ⟨id, cs, rfl, h1, h2, h3⟩
  · simp at hlt
  have h5 : i * size + size ≤ l.length * size := by
    have := Nat.mul_le_mul_right size (Nat.succ_le_of_lt hlt)
    rw [Nat.succ_mul] at this
    exact this
  refine ⟨id, cs, ?_, h1, h3 i x hi, by simp; omega, fun off v hoff hv => ?_⟩
  · simp only [aIndexS, h1, Option.bind_some, h2]
    rw [if_pos ⟨trivial, trivial, by omega, by omega⟩]
    simp
  · rw [List.getElem?_take, if_pos hoff, List.getElem?_drop] at hv
    refine ⟨by simp [aField, h1], ?_, hv⟩
    simp [aLoad, cellsAt, h1, hv]
end
/-- A store of one cell. -/
theorem aStore_at {lo : Loc} {h : Heap} {d : List AV} {id off : Nat} {cs : List AV} {v : AV} (h1 : h[id]? = some cs) (h2 : off < cs.length) (h3 : cellsOf v = some [v]) : aStore false 1 ⟨lo, h, d⟩ (.v (.ptr id off cs.length)) v = some ⟨lo, h.set id (cs.set off v), d⟩ := by
  rw [aStore_p]
  simp [h3, h1, h2]
/-- Cells that turn, numbers into numbers. -/
def CU (cs cs' : List AV) : Prop := cs'.length = cs.length ∧ ∀ (j : Nat) (v : AV), cs[j]? = some v → cs'[j]? = some v ∨ ∃ k x y, v = ic k x ∧ cs'[j]? = some (ic k y)
def Upd (h h' : Heap) : Prop := ∀ (id : Nat) (cs : List AV), h[id]? = some cs → ∃ cs', h'[id]? = some cs' ∧ CU cs cs'
theorem CU.refl (cs : List AV) : CU cs cs := ⟨rfl, fun _ _ h => .inl h⟩
theorem CU.set {cs : List AV} {off : Nat} {k : IntKind} {x y : Int} (h : cs[off]? = some (ic k x)) : CU cs (cs.set off (ic k y)) := by
  refine ⟨by simp, fun j v hv => ?_⟩
  by_cases e : off = j
  · subst e
    rw [h] at hv
    cases hv
    exact .inr ⟨k, x, y, rfl, by rw [List.getElem?_set_self (List.getElem?_eq_some_iff.1 h).1]⟩
  · exact .inl (by rw [List.getElem?_set_ne e]; exact hv)
theorem Upd.refl (h : Heap) : Upd h h := fun id cs k => ⟨cs, k, CU.refl cs⟩
theorem Upd.set {h : Heap} {id off : Nat} {cs : List AV} {k : IntKind} {x y : Int} (h1 : h[id]? = some cs) (h2 : cs[off]? = some (ic k x)) : Upd h (h.set id (cs.set off (ic k y))) := by
  intro id' cs' hc
  by_cases e : id = id'
  · subst e
    rw [h1] at hc
    cases hc
    exact ⟨_, by rw [List.getElem?_set_self (List.getElem?_eq_some_iff.1 h1).1], CU.set h2⟩
  · exact ⟨cs', by rw [List.getElem?_set_ne e]; exact hc, CU.refl _⟩
theorem CU.chunk {cs cs' : List AV} (h : CU cs cs') (i n : Nat) : CU ((cs.drop i).take n) ((cs'.drop i).take n) := by
  refine ⟨by simp [h.1], fun j v hv => ?_⟩
  rw [List.getElem?_take] at hv ⊢
  split at hv
  · rename_i hj
    rw [List.getElem?_drop] at hv ⊢
    rw [if_pos hj]
    exact h.2 _ v hv
  · cases hv
theorem LiO.upd {α β : Type} {h h' : Heap} {size : Nat} {Q : List AV → α → Prop} {Q' : List AV → β → Prop} {l : List α} {a : AV} {Rl : α → β → Prop} (k : LiO h size Q l a) (hu : Upd h h') (hq : ∀ c c' x, Q c x → CU c c' → c.length = size → ∃ y, Q' c' y ∧ Rl x y) :
    ∃ l' : List β, l'.length = l.length ∧ LiO h' size Q' l' a ∧ ∀ (i : Nat) (x : α), l[i]? = some x → ∃ y, l'[i]? = some y ∧ Rl x y := by
  rcases k with ⟨rfl, rfl⟩ | ⟨id, cs, rfl, h1, h2, h3⟩
  · exact ⟨[], rfl, LiO.nils, fun i x h => by simp at h⟩
  · obtain ⟨cs', h4, h5⟩ := hu id cs h1
    have key : ∀ i : Fin l.length, ∃ y, Q' ((cs'.drop (i * size)).take size) y ∧ Rl l[i] y := fun i => by
      have hle : i.1 * size + size ≤ l.length * size := by
        have := Nat.mul_le_mul_right size (Nat.succ_le_of_lt i.2)
        rw [Nat.succ_mul] at this
        exact this
      obtain ⟨y, hy⟩ := hq _ _ _ (h3 i l[i] (List.getElem?_eq_getElem i.2)) (h5.chunk (i * size) size) (by simp; omega)
      exact ⟨y, hy⟩
    let f : Fin l.length → β := fun i => (key i).choose
    refine ⟨List.ofFn f, by simp, .inr ⟨id, cs', by simp, h4, by simp [h5.1, h2], fun i x hi => ?_⟩, fun i x hi => ?_⟩
    · have hlt : i < l.length := by have := (List.getElem?_eq_some_iff.1 hi).1; simpa using this
      rw [List.getElem?_ofFn, dif_pos hlt] at hi
      cases hi
      exact (key ⟨i, hlt⟩).choose_spec.1
    · obtain ⟨hlt, rfl⟩ := List.getElem?_eq_some_iff.1 hi
      exact ⟨_, by rw [List.getElem?_ofFn, dif_pos hlt], (key ⟨i, hlt⟩).choose_spec.2⟩
theorem ints_upd {h h' : Heap} {k : IntKind} {l : List Int} {a : AV} (o : LiO h 1 (one (ic k)) l a) (hu : Upd h h') : ∃ l', l'.length = l.length ∧ LiO h' 1 (one (ic k)) l' a := by
  obtain ⟨l', h1, h2, _⟩ := o.upd (Q' := one (ic k)) (Rl := fun _ _ => True) hu (fun c c' x hc hcu _ => by
    simp only [one] at hc
    subst hc
    obtain ⟨h3, h4⟩ := hcu
    rcases h4 0 _ rfl with h5 | ⟨k', x', y', h5, h6⟩
    · refine ⟨x, ?_, trivial⟩
      match c', h3, h5 with
      | [v], _, h5 => cases h5; rfl
    · cases h5
      refine ⟨y', ?_, trivial⟩
      match c', h3, h6 with
      | [v], _, h6 => cases h6; rfl)
  exact ⟨l', h1, h2⟩
/-- What is no number stays. -/
theorem CU.keep {c c' : List AV} (h : CU c c') {j : Nat} {v : AV} (hv : c[j]? = some v) (hn : ∀ k x, v ≠ ic k x) : c'[j]? = some v := by
  rcases h.2 j v hv with h1 | ⟨k, x, _, h1, _⟩
  · exact h1
  · exact absurd h1 (hn k x)
theorem CU.num {c c' : List AV} (h : CU c c') {j : Nat} {k : IntKind} {x : Int} (hv : c[j]? = some (ic k x)) : ∃ y, c'[j]? = some (ic k y) := by
  rcases h.2 j _ hv with h1 | ⟨k', x', y, h1, h2⟩
  · exact ⟨x, h1⟩
  · cases h1; exact ⟨y, h2⟩
theorem LiO.noint {α : Type} {h : Heap} {size : Nat} {Q : List AV → α → Prop} {l : List α} {a : AV} (o : LiO h size Q l a) : ∀ k x, a ≠ ic k x := by
  intro k x e
  rcases o with ⟨rfl, _⟩ | ⟨id, cs, rfl, _⟩ <;> cases e
/-- A loop that goes through, whatever it writes. -/
theorem safe_loop {R : Rec} {T : Nat → Heap → Task} {I : Heap → Prop} {x0 : Ex} {E : Env → Prop} {lo : Loc} {n : Nat}
    (hend : ∀ h, I h → ∃ e, E e ∧ R (T n h) = some (.loop x0 ⟨e, ⟨lo, h, []⟩⟩))
    (hstep : ∀ i h, i < n → I h → ∃ h', I h' ∧ ∀ r, R (T (i + 1) h') = some r → R (T i h) = some r) (h0 : Heap) (hI : I h0) : ∃ h' e, I h' ∧ E e ∧ R (T 0 h0) = some (.loop x0 ⟨e, ⟨lo, h', []⟩⟩) := by
  have key : ∀ k i h, k = n - i → i ≤ n → I h → ∃ h' e, I h' ∧ E e ∧ R (T i h) = some (.loop x0 ⟨e, ⟨lo, h', []⟩⟩) := by
    intro k
    induction k with
    | zero =>
      intro i h hk hi hI
      have e : i = n := by omega
      subst e
      obtain ⟨e, h1, h2⟩ := hend h hI
      exact ⟨h, e, hI, h1, h2⟩
    | succ k ih =>
      intro i h hk hi hI
      obtain ⟨h', h1, h2⟩ := hstep i h (by omega) hI
      obtain ⟨h2', e, q1, q2, q3⟩ := ih (i + 1) h' (by omega) (by omega) h1
      exact ⟨h2', e, q1, q2, h2 _ q3⟩
  exact key n 0 h0 (by omega) (Nat.zero_le _) hI
/-- Trees of rows. -/
theorem chunks_tree {α : Type} {g : AV → Option AV} {size : Nat} {Q Q' : List AV → α → Prop} (hq : ∀ c x, Q c x → c.length = size → ∃ c', mapOwns g c = some c' ∧ c'.length = size ∧ pvs c' = true ∧ Q' c' x) :
    ∀ (l : List α) (cs : List AV), cs.length = l.length * size → (∀ i x, l[i]? = some x → Q ((cs.drop (i * size)).take size) x) → ∃ cs', mapOwns g cs = some cs' ∧ cs'.length = l.length * size ∧ pvs cs' = true ∧ ∀ i x, l[i]? = some x → Q' ((cs'.drop (i * size)).take size) x
  | [], cs, hl, _ => by
    have : cs = [] := List.length_eq_zero_iff.1 (by simpa using hl)
    subst this
    exact ⟨[], rfl, by simp, rfl, fun i x h => by simp at h⟩
  | x :: l, cs, hl, h => by
    rw [List.length_cons, Nat.add_mul, Nat.one_mul] at hl
    have h0 := h 0 x rfl
    rw [Nat.zero_mul, List.drop_zero] at h0
    obtain ⟨c', k1, k2, k3, k4⟩ := hq _ x h0 (by simp; omega)
    obtain ⟨cs', k5, k6, k7, k8⟩ := chunks_tree hq l (cs.drop size) (by simp; omega) (fun i y hi => by
      have := h (i + 1) y (by simpa using hi)
      rw [List.drop_drop, show size + i * size = (i + 1) * size from by rw [Nat.add_mul, Nat.one_mul, Nat.add_comm]]
      exact this)
    have app : ∀ (u v : List AV) (u' v' : List AV), mapOwns g u = some u' → mapOwns g v = some v' → mapOwns g (u ++ v) = some (u' ++ v') := by
      intro u
      induction u with
      | nil => intro v u' v' e1 e2; cases e1; exact e2
      | cons w u ih =>
        intro v u' v' e1 e2
        rw [mapOwns_cons] at e1
        simp only [Option.bind_eq_some_iff, Option.map_eq_some_iff] at e1
        obtain ⟨w', e3, u2, e4, rfl⟩ := e1
        rw [List.cons_append, mapOwns_cons, e3, Option.bind_some, ih v u2 v' e4 e2]
        rfl
    refine ⟨c' ++ cs', ?_, by simp [k2, k6, Nat.add_mul, Nat.add_comm], by rw [pvs_append, k3, k7]; rfl, fun i y hi => ?_⟩
    · rw [← List.take_append_drop size cs]
      exact app _ _ _ _ k1 k5
    · cases i with
      | zero =>
        cases hi
        rw [Nat.zero_mul, List.drop_zero, List.take_append_of_le_length (by omega), ← k2, List.take_length]
        exact k4
      | succ i =>
        have := k8 i y (by simpa using hi)
        rw [show (i + 1) * size = c'.length + i * size from by rw [Nat.add_mul, Nat.one_mul, k2, Nat.add_comm], ← List.drop_drop, List.drop_left]
        exact this
theorem LiO.tree {α : Type} {h : Heap} {size : Nat} {Q Q' : List AV → α → Prop} {l : List α} {a : AV} {bw : Bool} {k : Nat} (o : LiO h size Q l a) (hr : l.length ≤ room)
    (hq : ∀ c x, Q c x → c.length = size → ∃ c', mapOwns (tree bw h k) c = some c' ∧ c'.length = size ∧ pvs c' = true ∧ Q' c' x) : ∃ a', mapOwn (tree bw h (k + 1)) a = some a' ∧ Li size Q' l a' := by
  rcases o with ⟨rfl, rfl⟩ | ⟨id, cs, rfl, h1, h2, h3⟩
  · exact ⟨.nils, rfl, Li.nils⟩
  · obtain ⟨cs', k1, k2, k3, k4⟩ := chunks_tree hq l cs h2 h3
    exact ⟨_, by rw [mapOwn_own]; exact tree_own' h1 h2 k1, ⟨cs', Sl.snap k2 k3 hr, k4⟩⟩
end Go.Ai
namespace Go.Ai
variable [Glob]
theorem ints_at {h : Heap} {k : IntKind} {l : List Int} {a : AV} {lo : Loc} {d : List AV} (o : LiO h 1 (one (ic k)) l a) {i : Nat} (hi : i < l.length) : ∃ (id : Nat) (cs : List AV) (x : Int), aIndexS ⟨lo, h, d⟩ 1 (i : Int) a = some (.v (.ptr id i cs.length)) ∧
    aLoad false 1 ⟨lo, h, d⟩ (.v (.ptr id i cs.length)) = some (.sc (.int k x)) ∧ (∀ v, aStore false 1 ⟨lo, h, d⟩ (.v (.ptr id i cs.length)) (.sc (.int k v)) = some ⟨lo, h.set id (cs.set i (ic k v)), d⟩) ∧ ∀ v, Upd h (h.set id (cs.set i (ic k v))) := by
  obtain ⟨id, cs, r1, r2, r3, r4, r5⟩ := o.at_ (by omega) (List.getElem?_eq_getElem hi) (lo := lo) (d := d)
  obtain ⟨_, r7, r8⟩ := r5 0 (ic k l[i]) (by omega) (by rw [show ((cs.drop (i * 1)).take 1) = [ic k l[i]] from r3]; rfl)
  rw [Nat.add_zero, Nat.mul_one] at r7 r8
  rw [Nat.mul_one] at r1
  exact ⟨id, cs, l[i], r1, r7, fun v => aStore_at (v := ic k v) r2 (List.getElem?_eq_some_iff.1 r8).1 rfl, fun v => Upd.set r2 r8⟩
end Go.Ai
namespace Go.Ai
variable [Glob]
/-! ### growing within a heap -/
def Num (v : AV) : Prop := ∃ k x, v = ic k x
/-- Each list of numbers is kept. -/
def KeepI (h h' : Heap) : Prop := ∀ (id : Nat) (cs : List AV), h[id]? = some cs → (∀ v ∈ cs, Num v) → h'[id]? = some cs
/-- All is kept. -/
def Sub0 (h h' : Heap) : Prop := ∀ (id : Nat) (cs : List AV), h[id]? = some cs → h'[id]? = some cs
theorem Sub0.refl (h : Heap) : Sub0 h h := fun _ _ e => e
theorem Sub0.trans {a b c : Heap} (h : Sub0 a b) (k : Sub0 b c) : Sub0 a c := fun id cs e => k id cs (h id cs e)
theorem Sub0.app (h t : Heap) : Sub0 h (h ++ t) := fun id cs e => by
  rw [List.getElem?_append_left (List.getElem?_eq_some_iff.1 e).1]; exact e
theorem Sub0.keepI {a b : Heap} (h : Sub0 a b) : KeepI a b := fun id cs e _ => h id cs e
theorem KeepI.trans {a b c : Heap} (h : KeepI a b) (k : KeepI b c) : KeepI a c := fun id cs e hn => k id cs (h id cs e hn) hn
theorem LiO.sub {α : Type} {h h' : Heap} {size : Nat} {Q Q' : List AV → α → Prop} {l : List α} {a : AV} (o : LiO h size Q l a) (hs : Sub0 h h') (hq : ∀ c x, Q c x → Q' c x) : LiO h' size Q' l a := by
  rcases o with ⟨rfl, rfl⟩ | ⟨id, cs, rfl, h1, h2, h3⟩
  · exact LiO.nils
  · exact .inr ⟨id, cs, rfl, hs id cs h1, h2, fun i x hi => hq _ _ (h3 i x hi)⟩
theorem ints_keep {h h' : Heap} {k : IntKind} {l : List Int} {a : AV} (o : LiO h 1 (one (ic k)) l a) (hk : KeepI h h') : LiO h' 1 (one (ic k)) l a := by
  rcases o with ⟨rfl, rfl⟩ | ⟨id, cs, rfl, h1, h2, h3⟩
  · exact LiO.nils
  · refine .inr ⟨id, cs, rfl, hk id cs h1 fun v hv => ?_, h2, h3⟩
    obtain ⟨i, hi⟩ := List.mem_iff_getElem?.1 hv
    have hlt : i < l.length := by have := (List.getElem?_eq_some_iff.1 hi).1; omega
    have := h3 i l[i] (List.getElem?_eq_getElem hlt)
    simp only [one, Nat.mul_one] at this
    have h0 : ((cs.drop i).take 1)[0]? = some (ic k l[i]) := by rw [this]; rfl
    rw [List.getElem?_take, if_pos (by omega), List.getElem?_drop, Nat.add_zero, hi] at h0
    cases h0
    exact ⟨k, _, rfl⟩
/-- One more row. -/
theorem rows_append {α : Type} {Q : Heap → List AV → α → Prop} {h : Heap} {size bytes : Nat} {l : List α} {x : AV} {f : α} {c : List AV} {lo : Loc} {d : List AV} {b : Bool} (hs : 0 < size) (hb : 0 < bytes) (hr : (l.length + 1) * bytes ≤ room)
    (hQ : ∀ h h' c f, Q h c f → KeepI h h' → Q h' c f) (hN : ∀ c f, Q h c f → c.length = size → ∃ v ∈ c, ¬ Num v) (o : LiO h size (Q h) l x) (hx : x = .nils ∨ l ≠ []) (hc : Q h c f) (hl : c.length = size) :
    ∃ x' h', aAppend ⟨lo, h, d⟩ size bytes x (.snap b size 1 c) = some (x', ⟨lo, h', d⟩) ∧ LiO h' size (Q h') (l ++ [f]) x' ∧ KeepI h h' ∧ h.length ≤ h'.length ∧ ((x = .nils ∧ h' = h ++ [c] ∧ ∃ e1 e2 e3, x' = .own h.length 0 size e1 e2 e3) ∨
      ∃ id e1 e2 e3 e4 e5 e6, x = .own id 0 size e1 e2 e3 ∧ x' = .own id 0 size e4 e5 e6 ∧ ∀ j, j ≠ id → h'[j]? = h[j]?) := by
  have hsrc : srcCells (⟨lo, h, d⟩ : Mm) size (.snap b size 1 c) = some c := srcCells_snap (by omega)
  have hk1 : c.length / size = 1 := by rw [hl]; exact Nat.div_self hs
  rcases o with ⟨rfl, rfl⟩ | ⟨id, cs, rfl, h1, h2, h3⟩
  · refine ⟨.own h.length 0 size 1 1 c.length, h ++ [c], ?_, .inr ⟨h.length, c, by simp [hl], by simp, by simp [hl], fun i y hi => ?_⟩, (Sub0.app h [c]).keepI, by simp, .inl ⟨rfl, rfl, _, _, _, rfl⟩⟩
    · simp only [aAppend]
      rw [if_neg (by omega), hsrc]
      simp only [Option.bind_some]
      rw [if_neg (by omega), hk1, if_pos (by simpa using hr)]
    · cases i with
      | zero =>
        cases hi
        rw [Nat.zero_mul, List.drop_zero, ← hl, List.take_length]
        exact hQ _ _ _ _ hc (Sub0.app h [c]).keepI
      | succ i => simp at hi
  · have hne : l ≠ [] := by
      rcases hx with hx | hx
      · cases hx
      · exact hx
    have hpos : 0 < l.length := List.length_pos_iff.2 hne
    have hle0 : size ≤ l.length * size := Nat.le_mul_of_pos_left size hpos
    have hk : KeepI h (h.set id (cs ++ c)) := fun id' cs' e hn => by
      by_cases hid : id = id'
      · subst hid
        rw [h1] at e
        cases e
        obtain ⟨v, hv, hnv⟩ := hN _ _ (h3 0 l[0] (List.getElem?_eq_getElem hpos)) (by simp; omega)
        exact absurd (hn v (List.mem_of_mem_drop (List.mem_of_mem_take hv))) hnv
      · rw [List.getElem?_set_ne hid]; exact e
    refine ⟨.own id 0 size (l.length + 1) (l.length + 1) (l.length * size + c.length), h.set id (cs ++ c), ?_, .inr ⟨id, cs ++ c, by simp [hl, Nat.add_mul], by rw [List.getElem?_set_self (List.getElem?_eq_some_iff.1 h1).1], by simp [h2, hl, Nat.add_mul], fun i y hi => ?_⟩, hk, by simp, .inr ⟨id, _, _, _, _, _, _, rfl, rfl, fun j hj => List.getElem?_set_ne (fun e => hj e.symm)⟩⟩
    · simp only [aAppend]
      rw [if_neg (by omega), hsrc]
      simp only [Option.bind_some, h1, hk1]
      rw [if_pos ⟨h2, trivial, Nat.le_refl _, by omega, hr⟩, if_neg (by omega), if_pos ⟨trivial, trivial⟩]
      congr 4
      rw [List.take_of_length_le (by omega)]
    · rcases Nat.lt_or_ge i l.length with hlt | hge
      · rw [List.getElem?_append_left hlt] at hi
        have hle : i * size + size ≤ l.length * size := by
          have := Nat.mul_le_mul_right size (Nat.succ_le_of_lt hlt)
          rw [Nat.succ_mul] at this
          exact this
        rw [List.drop_append_of_le_length (by omega), List.take_append_of_le_length (by simp; omega)]
        exact hQ _ _ _ _ (h3 i y hi) hk
      · have hil : i = l.length := by have := (List.getElem?_eq_some_iff.1 hi).1; simp at this; omega
        subst hil
        simp at hi
        subst hi
        rw [List.drop_append, List.drop_eq_nil_of_le (by omega), h2, Nat.sub_self, List.drop_zero, List.nil_append, ← hl, List.take_length]
        exact hQ _ _ _ _ hc hk
end Go.Ai
namespace Go.Ai
variable [Glob]
@[congr] theorem cg_agree {β : Type} {x y : Option SV} {v w : SV} {r : Option β} (h : x = y) (hv : v = w) : agree x v r = agree y w r := by rw [h, hv]
@[simp] theorem agree_self {β : Type} {v : SV} {r : Option β} : agree (some v) v r = r := agree_intro rfl
/-- A loop with an invariant. -/
theorem inv_loop {σ : Type} {R : Rec} {T : Nat → σ → Task} {I : Nat → σ → Prop} {x0 : Ex} {E : σ → St → Prop} {n : Nat}
    (hend : ∀ s, I n s → ∃ t, E s t ∧ R (T n s) = some (.loop x0 t))
    (hstep : ∀ i s, i < n → I i s → ∃ s', I (i + 1) s' ∧ ∀ r, R (T (i + 1) s') = some r → R (T i s) = some r) (s0 : σ) (hI : I 0 s0) : ∃ s t, I n s ∧ E s t ∧ R (T 0 s0) = some (.loop x0 t) := by
  have key : ∀ k i s, k = n - i → i ≤ n → I i s → ∃ s' t, I n s' ∧ E s' t ∧ R (T i s) = some (.loop x0 t) := by
    intro k
    induction k with
    | zero =>
      intro i s hk hi hI
      have e : i = n := by omega
      subst e
      obtain ⟨t, h1, h2⟩ := hend s hI
      exact ⟨s, t, hI, h1, h2⟩
    | succ k ih =>
      intro i s hk hi hI
      obtain ⟨s', h1, h2⟩ := hstep i s (by omega) hI
      obtain ⟨s2, t, q1, q2, q3⟩ := ih (i + 1) s' (by omega) (by omega) h1
      exact ⟨s2, t, q1, q2, h2 _ q3⟩
  exact key n 0 s0 (by omega) (Nat.zero_le _) hI
end Go.Ai
namespace Go.Ai
variable [Glob]
@[simp] theorem unl_ne {k k' off : Nat} (h : k' ≠ k) : unl k (.l k' off) = .l k' off := by simp [unl, nbeq h]
@[simp] theorem unl_eq {k off : Nat} : unl k (.l k off) = J := by simp [unl]
end Go.Ai
