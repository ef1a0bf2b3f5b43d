/- The abstract interpreter: from a statement's reading of an argument to a represented value. -/
import Derived.Test.YtjijnkiojpajeaaGreatDoorAiSpec
import Derived.ChangeSame
import Derived.ChangeArms
import Derived.Carry
import Derived.Lib.LaidTab
import Derived.SizedLaws
set_option linter.unusedVariables false
set_option linter.unusedSimpArgs false
set_option linter.unusedSectionVars false
namespace Go.Ai
open Go.ChangeShapes
section
variable [Glob]
variable {H : Type} {enc : TypeId × Value → H} {P : Program} {c : Cx}

/-- Cells of this type that read as data are represented, and what represents them is so. -/
def Reads (enc : TypeId × Value → H) (P : Program) (c : Cx) (t : TypeId) (R : List AV → Prop) : Prop :=
  ∀ fuel cs x, DataW.trod enc P c.w 0 (fun _ => true) true fuel t cs = some x → (x.1.weights P t).all (· ≤ reachBytes) = true →
    ∃ avs, VRels c avs cs ∧ pvs avs = true ∧ R avs

theorem Reads.mono {t : TypeId} {R R' : List AV → Prop} (h : Reads enc P c t R) (k : ∀ a, R a → R' a) : Reads enc P c t R' := fun fuel cs x h1 h2 =>
  have ⟨avs, a1, a2, a3⟩ := h fuel cs x h1 h2
  ⟨avs, a1, a2, k _ a3⟩
theorem reads_int {t : TypeId} {k : IntKind} (ht : P.underlying t = some (.int k)) : Reads enc P c t (fun a => ∃ n, a = [.sc (.int k n)]) := by
  intro fuel cs x h _
  obtain ⟨n, rfl, _, _⟩ := DataW.trod_int ht h
  exact ⟨[.sc (.int k n)], ⟨_, _, rfl, rfl, rfl, rfl⟩, rfl, n, rfl⟩
theorem reads_bool {t : TypeId} (ht : P.underlying t = some .bool) : Reads enc P c t (fun a => ∃ b, a = [.sc (.bool b)]) := by
  intro fuel cs x h _
  obtain ⟨n, rfl, _⟩ := DataW.trod_bool ht h
  exact ⟨[.sc (.bool n)], ⟨_, _, rfl, rfl, rfl, rfl⟩, rfl, n, rfl⟩
theorem reads_string {t : TypeId} (ht : P.underlying t = some .string) : Reads enc P c t (fun a => ∃ s, a = [.sc (.string s)] ∧ s.size ≤ room) := by
  intro fuel cs x h hw
  obtain ⟨s, rfl, rfl, hs⟩ := DataW.trod_string ht h
  refine ⟨[.sc (.string s)], ⟨_, _, rfl, rfl, rfl, rfl⟩, rfl, s, rfl, ?_⟩
  have hw2 : s.data.toList.length ≤ reachBytes := by
    rw [DataW.weights, List.all_cons, Bool.and_eq_true, decide_eq_true_eq] at hw
    exact hw.1
  have e : s.size = s.data.toList.length := by rw [Array.length_toList]; rfl
  have e2 : reachBytes ≤ room := by decide +kernel
  omega

/-- Some number of pieces, each so. -/
def Rl (size : Nat) (R : List AV → Prop) (a : AV) : Prop := ∃ n cs, Sl size n cs a ∧ ∀ i, i < n → R ((cs.drop (i * size)).take size)
theorem Rl.li {α : Type} {size : Nat} {R : List AV → Prop} {Q : List AV → α → Prop} (hq : ∀ c, R c → ∃ x, Q c x) {a : AV} (h : Rl size R a) : ∃ l, Li size Q l a := by
  obtain ⟨n, cs, hs, hr⟩ := h
  have key : ∀ m, m ≤ n → ∃ l : List α, l.length = m ∧ ∀ i x, l[i]? = some x → Q ((cs.drop (i * size)).take size) x := by
    intro m
    induction m with
    | zero => exact fun _ => ⟨[], rfl, fun i x h => by simp at h⟩
    | succ m ih =>
      intro hm
      obtain ⟨l, hl, hx⟩ := ih (by omega)
      obtain ⟨x, hq⟩ := hq _ (hr m (by omega))
      refine ⟨l ++ [x], by simp [hl], fun i y hy => ?_⟩
      rw [List.getElem?_append] at hy
      split at hy
      · exact hx i y hy
      · rename_i h1
        have : i = m := by
          obtain ⟨h2, _⟩ := List.getElem?_eq_some_iff.1 hy
          simp at h2
          omega
        subst this
        simp [hl] at hy
        exact hy ▸ hq
  obtain ⟨l, rfl, hx⟩ := key n (Nat.le_refl _)
  exact ⟨l, cs, hs, hx⟩

theorem weightsAll_mem {e : TypeId} {d : DataW H} : ∀ {l : List (DataW H)}, d ∈ l → ∀ n ∈ d.weights P e, n ∈ DataW.weightsAll P e l
  | y :: r, h, n, hn => by
    rw [DataW.weightsAll, List.mem_append]
    rcases List.mem_cons.1 h with rfl | h
    · exact .inl hn
    · exact .inr (weightsAll_mem h n hn)
theorem block_of_cell {w : World} {a : Addr} {v : Value} (h : w.cell? a = some v) : a.block < w.heap.size := by
  by_cases hb : a.block < w.heap.size
  · exact hb
  · simp [World.cell?, Array.getElem?_eq_none (show w.heap.size ≤ a.block by omega)] at h

theorem reads_slice {t e : TypeId} {size : Nat} {R : List AV → Prop} (ht : P.underlying t = some (.slice e)) (hc : P.cellsOf e = size) (hb : 0 < P.bytesOf e) (hok : ∀ b, b < c.w.heap.size → c.ok false b) (he : Reads enc P c e R) :
    Reads enc P c t (fun a => ∃ v, a = [v] ∧ Rl size R v) := by
  intro fuel cs x h hw
  rcases DataW.trod_slice ht h with ⟨rfl, rfl⟩ | ⟨a, len, cap, elems, rest, n, _, rfl, rfl, _, hl, hm, hlen, hel, _, _⟩
  · exact ⟨[.nils], ⟨_, _, rfl, rfl, rfl, rfl⟩, rfl, _, rfl, 0, [], Sl.nils, fun i hi => by omega⟩
  simp only [DataW.weights, ht, List.all_cons, Bool.and_eq_true, decide_eq_true_eq, List.length_map] at hw
  obtain ⟨hw1, hw2⟩ := hw
  have hroom : len ≤ room := by
    have h1 : elems.length * 1 ≤ (elems.length + rest.length) * P.bytesOf e := Nat.mul_le_mul (by omega) hb
    unfold reachBytes at hw1
    unfold room
    omega
  rw [hc] at hel
  have key : ∀ m, m ≤ len → ∃ cells us, VRels c cells us ∧ cells.length = m * size ∧ pvs cells = true ∧ (∀ j x, us[j]? = some x → c.w.cell? (a.add j) = some x) ∧ ∀ i, i < m → R ((cells.drop (i * size)).take size) := by
    intro m
    induction m with
    | zero => exact fun _ => ⟨[], [], rfl, by simp, rfl, fun j x h => by simp at h, fun i hi => by omega⟩
    | succ m ih =>
      intro hm'
      obtain ⟨cells, us, h1, h2, h3, h4, h5⟩ := ih (by omega)
      have hk := hel m (by omega)
      rw [List.getElem?_eq_getElem (by omega)] at hk
      obtain ⟨cs', g1, g2⟩ := Option.bind_eq_some_iff.1 hk
      obtain ⟨_, g3, g4⟩ := World.cells?_some g1
      obtain ⟨avs, k1, k2, k3⟩ := he _ _ _ g2 (by
        rw [List.all_eq_true] at hw2 ⊢
        intro z hz
        refine hw2 z (List.mem_append_left _ (weightsAll_mem (d := (elems[m]'(by omega)).1) ?_ z hz))
        exact List.mem_map.2 ⟨_, List.getElem_mem _, rfl⟩)
      have hul := h1.length
      have hkl := k1.length
      have ha : avs.length = size := by omega
      refine ⟨cells ++ avs, us ++ cs', h1.append k1, ?_, by rw [pvs_append, h3, k2]; rfl, ?_, ?_⟩
      · rw [List.length_append, h2, ha, Nat.succ_mul]
      · intro j x hx
        rw [List.getElem?_append] at hx
        split at hx
        · exact h4 j x hx
        · rename_i hj
          have := g4 (j - us.length) (by
            obtain ⟨q, _⟩ := List.getElem?_eq_some_iff.1 hx
            omega)
          rw [hx, add_add] at this
          rw [show m * size + (j - us.length) = j by omega] at this
          exact this
      · intro i hi
        by_cases hi' : i < m
        · have hle : i * size + size ≤ m * size := by
            have := Nat.mul_le_mul_right size (Nat.succ_le_of_lt hi')
            rw [Nat.succ_mul] at this
            exact this
          rw [List.drop_append_of_le_length (by omega), List.take_append_of_le_length (by rw [List.length_drop]; omega)]
          exact h5 i hi'
        · obtain rfl : i = m := by omega
          rw [← h2, List.drop_left, List.take_of_length_le (by omega)]
          exact k3
  obtain ⟨cells, us, h1, h2, h3, h4, h5⟩ := key len (Nat.le_refl _)
  refine ⟨[.snap false size len cells], ⟨_, _, rfl, ⟨some a, cap, rfl, hl, hm, ?_, fun hne => ⟨a, us, rfl, ?_, h1, h4⟩⟩, rfl, rfl⟩, by simp [pvs, pv, h3], _, rfl, len, cells, Sl.snap h2 h3 hroom, h5⟩
  · rw [h2]
    exact Nat.le_trans (Nat.div_le_of_le_mul (Nat.le_of_eq (Nat.mul_comm _ _))) hl
  · have : us ≠ [] := fun e => hne (by have := h1.length; rw [e] at this; exact List.eq_nil_of_length_eq_zero this.symm)
    obtain ⟨u, us', rfl⟩ := List.exists_cons_of_ne_nil this
    have := block_of_cell (h4 0 u rfl)
    rw [add_block] at this
    exact hok _ this

/-- A struct's fields from here on. -/
def ReadsF (enc : TypeId × Value → H) (P : Program) (c : Cx) (total off : Nat) (fs : List Field) (R : List AV → Prop) : Prop :=
  ∀ (n : Nat) (cs : List Value) (xs : List (DataW H × List MemPlace)), cs.length = total → xs.length = fs.length → (∀ (i : Nat) (f : Field), fs[i]? = some f → DataW.trod enc P c.w 0 (fun _ => true) true n f.type ((cs.drop f.offset).take (P.cellsOf f.type)) = xs[i]?) →
    (DataW.weightsEach P (fs.map (·.type)) (xs.map (·.1))).all (· ≤ reachBytes) = true → ∃ avs, VRels c avs (cs.drop off) ∧ pvs avs = true ∧ R avs
theorem ReadsF.nil {total : Nat} : ReadsF enc P c total total [] (fun a => a = []) := by
  intro n cs xs h1 _ _ _
  exact ⟨[], by rw [← h1, List.drop_length]; exact rfl, rfl, rfl⟩
theorem ReadsF.cons {total off off' sz : Nat} {f : Field} {fs : List Field} {R1 R2 : List AV → Prop} (h1 : Reads enc P c f.type R1) (ho : f.offset = off) (hs : P.cellsOf f.type = sz) (hn : off + sz = off') (h2 : ReadsF enc P c total off' fs R2) :
    ReadsF enc P c total off (f :: fs) (fun x => ∃ a b, x = a ++ b ∧ R1 a ∧ R2 b) := by
  intro n cs xs g1 g2 g3 g4
  match xs, g2 with
  | x :: xs, g2 =>
    have e0 := g3 0 f rfl
    simp only [List.getElem?_cons_zero] at e0
    simp only [List.map_cons, DataW.weightsEach, List.all_append, Bool.and_eq_true] at g4
    obtain ⟨a, a1, a2, a3⟩ := h1 _ _ _ e0 g4.1
    obtain ⟨b, b1, b2, b3⟩ := h2 n cs xs g1 (by simpa using g2) (fun i f hf => by simpa using g3 (i + 1) f hf) g4.2
    refine ⟨a ++ b, ?_, by rw [pvs_append, a2, b2]; rfl, a, b, rfl, a3, b3⟩
    have := a1.append b1
    rw [ho, hs, ← hn] at this
    rwa [← List.drop_drop, List.take_append_drop] at this
theorem reads_struct {t : TypeId} {fs : Array Field} {total : Nat} {R : List AV → Prop} (ht : P.underlying t = some (.struct fs)) (hc : P.cellsOf t = total) (h : ReadsF enc P c total 0 fs.toList R) : Reads enc P c t R := by
  intro fuel cs x hx hw
  obtain ⟨xs, n, _, rfl, h1, h2, h3⟩ := DataW.trod_struct ht hx
  simp only [DataW.weights, ht] at hw
  exact h n cs xs (by rw [h1, hc]) (by simpa using h2) (fun i f hf => h3 i f (by simpa using hf)) hw

/-- A struct argument. -/
theorem agg_of {t : TypeId} {fs : Array Field} {R : List AV → Prop} (ht : P.underlying t = some (.struct fs)) (h : Reads enc P c t R) {v : Value} {base : Nat} (hv : Value.okWide P c.w .any base t v) {d : DataW H} {ps : List MemPlace}
    (hd : DataW.Trod enc P c.w 0 (fun _ => true) true t v d ps) (hw : (d.weights P t).all (· ≤ reachBytes) = true) : ∃ avs, VRel c (.agg avs) v ∧ pvs avs = true ∧ R avs := by
  obtain ⟨fuel, hf⟩ := hd
  simp only [Value.okWide, ht] at hv
  obtain ⟨cs, rfl, _, _⟩ := hv
  obtain ⟨avs, h1, h2, h3⟩ := h _ _ _ hf hw
  exact ⟨avs, ⟨cs.toList, by simp, h1⟩, h2, h3⟩
/-- An argument of one cell. -/
theorem cell_of {t : TypeId} {R : List AV → Prop} (h : Reads enc P c t R) {v : Value} (hv : v.cells.toList = [v]) {d : DataW H} {ps : List MemPlace}
    (hd : DataW.Trod enc P c.w 0 (fun _ => true) true t v d ps) (hw : (d.weights P t).all (· ≤ reachBytes) = true) : ∃ a, VRel c a v ∧ pv a = true ∧ R [a] := by
  obtain ⟨fuel, hf⟩ := hd
  rw [hv] at hf
  obtain ⟨avs, h1, h2, h3⟩ := h _ _ _ hf hw
  match avs, h1 with
  | a :: r, ⟨v', vs, e, k1, k2, k3⟩ =>
    cases e
    obtain rfl : r = [] := by
      cases r with
      | nil => rfl
      | cons x y => obtain ⟨_, _, e, _⟩ := k3; cases e
    exact ⟨a, k1, by simpa [pvs] using h2, h3⟩
end
/-- Behind a call that turned nothing below, each argument reads as it did. -/
theorem trodAll_stays {H : Type} {enc : TypeId × Value → H} {P : Program} (hl : laidOutB P = true) {W W' : World} {sp : Nat → Bool} : ∀ {ts : List TypeId} {vs : List Value} {ds : List (DataW H)} {ps : List MemPlace}, (∀ t ∈ ts, P.readableRec t = true ∧ t < P.types.size) →
    DataW.TrodAll enc P W 0 (fun _ => true) true ts vs ds ps → (∀ p ∈ ps, W.sameAt W' p) → (∀ p ∈ ps, sp p.block = true) → DataW.TrodAll enc P W' 0 sp true ts vs ds ps
  | [], [], [], _, _, h, _, _ => h
  | t :: ts, v :: vs, d :: ds, _, ht, ⟨p, q, h1, h2, e⟩, hs, hp => by
    subst e
    exact ⟨p, q, WideElems.Trod_stays hl (ht t (by simp)).1 (ht t (by simp)).2 h1 (fun x hx => hs x (by simp [hx])) (fun x hx => hp x (by simp [hx])),
      trodAll_stays hl (fun u hu => ht u (by simp [hu])) h2 (fun x hx => hs x (by simp [hx])) (fun x hx => hp x (by simp [hx])), rfl⟩
/-- What a law's row asks of the end, from what the walk gives. -/
theorem law_post {H : Type} {enc : TypeId × Value → H} {P : Program} (hl : laidOutB P = true) {f : Func} {s : ChangeSpec} {apart fresh handsOn again : Bool} {W W' : World} {args : Array Value} {ds gs : List (DataW H)} {before : List MemPlace} {tb : TypeId}
    (hW : DataW.Whole enc P f.params.toList s.vars apart W args.toList ds gs before) (hb : RowKit.Below W.heap.size W W')
    (hv : s.vars = []) (hs : (s.fn H (ds ++ gs)).results = [.lit (.bool true)] ∧ (s.fn H (ds ++ gs)).args = ds ∧ (s.fn H (ds ++ gs)).vars = []) (ht : f.resultTypes = #[tb]) (hu : P.underlying tb = some .bool)
    (hp : (f.params.toList.all fun t => P.readableRec t && decide (t < P.types.size)) = true) :
    s.post enc P f apart fresh handsOn again W args (.bool true) W' := by
  have hlt : ∀ p ∈ before, p.block < W.heap.size := fun p hp => by simpa using hW.lt p hp
  have hW' := hW
  obtain ⟨pa, q, hA, hV, rfl, hz, hn⟩ := hW
  rw [hv] at hV
  obtain ⟨rfl, rfl⟩ := trodVars_none hV
  simp only [List.append_nil] at hlt hz hn hW' hs
  have hargs : ∀ sp : Nat → Bool, (∀ p ∈ pa, sp p.block = true) → DataW.TrodAll enc P W' 0 sp true f.params.toList args.toList ds pa := fun sp hsp =>
    trodAll_stays hl (fun t ht => by
      have := List.all_eq_true.1 hp t ht
      simpa using this) hA (fun p hp => hb.same (hlt p hp)) hsp
  have hres : ∀ (b : Nat) (sp : Nat → Bool) (hd : Bool), DataW.TrodAll enc P W' b sp hd f.resultTypes.toList ((Value.bool true).resultList f.resultTypes.size) [.lit (.bool true)] [] := fun b sp hd => by
    rw [ht]
    exact ⟨[], [], ⟨1, by simp [DataW.trod, hu, Value.cells]⟩, rfl, rfl⟩
  refine ⟨ds, [], pa, [], pa, [], hW', by rw [List.append_nil, hs.1]; exact hres _ _ _, ?_, ?_, World.keptBut_mono (fun p hp => ⟨hp, .inr (.inl hp)⟩) (hb.frame _), fun _ => ?_⟩
  · rw [List.append_nil, hs.2.1]
    exact hargs _ fun p hp => by simpa using hlt p hp
  · rw [List.append_nil, hs.2.2, hv]
    rfl
  · refine ⟨?_, [.lit (.bool true)] ++ ds, [], pa, ⟨pa, [], ?_, by rw [hv]; rfl, by simp, fun b off hp => ?_, hn⟩, fun p hp _ => by simpa using hp⟩
    · intro j t r h1 h2
      rw [ht] at h1 h2
      cases j with
      | zero =>
        simp [Value.resultList] at h1 h2
        subst h1 h2
        simp [Value.okWide, hu, Cell.okWide, Cell.ok]
      | succ j => simp at h1
    · exact trodAll_append (hargs (fun _ => true) fun _ _ => rfl) (hres 0 (fun _ => true) true)
    · rw [hb.frozen (p := ⟨b, off, none⟩) (hlt (.cell b off) hp)]
      exact hz b off hp
/-- Where a call begins: nothing is known but the package variables. -/
def X0 : Ctl := ⟨fun _ => False, fun _ => False, fun _ h => h⟩
def c0 (W : World) : Cx := cx X0 (noL fun _ => none) W []
theorem c0_ok (W : World) : ∀ b, b < (c0 W).w.heap.size → (c0 W).ok false b := fun b h => ⟨h, fun _ _ e => (by cases e), fun _ e => (by cases e), fun h => h.elim⟩
section
variable [Glob]
theorem mrel0 {W : World} (h : GlOk (c0 W)) : MRel X0 (noL fun _ => none) W ⟨[], [], []⟩ :=
  ⟨fun _ _ _ _ _ e => (by cases e), fun _ _ _ e => (by cases e), fun _ _ e => (by cases e), fun _ _ _ _ _ e => (by cases e), fun _ _ _ e => (by cases e), fun _ _ _ _ _ e => (by cases e), fun _ _ _ e => (by cases e), fun _ _ e => (by cases e), fun _ h => h.elim, h⟩
/-- What a law's call leaves: it answers true, and nothing below has turned. -/
theorem law_calls {P : Program} {K : FuncId} {args : List AV} {h' : Heap} (hc : CallOk P K args [] (.ret (mkBool true)) h') {W : World} {us : List Value} (hg : GlOk (c0 W)) (hu : VRelT (c0 W) args us) :
    Calls P K us.toArray W fun e W' => e = .returned (.bool true) ∧ RowKit.Below W.heap.size W W' := by
  refine (hc X0 (fun _ => none) W us (mrel0 hg) (fun _ h => h.elim) hu).mono fun e W' ⟨rh', he, _, _, _, hr⟩ => ?_
  obtain ⟨u, rfl, hv⟩ := hr
  refine ⟨?_, he.os, he.tape, he.output, he.size, fun k hk => he.blk k hk (fun _ _ e => (by cases e)) (fun _ e => (by cases e))⟩
  have : u = .bool true := by simpa [mkBool, VRel] using hv
  rw [this]
end
end Go.Ai
