/- The abstract interpreter: runs of the model's memory words over related memory. -/
import Derived.Test.YtjijnkiojpajeaaGreatDoorAiMem
set_option linter.unusedSectionVars false
namespace Go.Ai
variable [Glob]
variable {P : Program}

theorem add_block (a : Addr) (n : Nat) : (a.add n).block = a.block := by unfold Addr.add; split <;> rfl
theorem add_plain (b o j : Nat) : (⟨b, o, none⟩ : Addr).add j = ⟨b, o + j, none⟩ := by unfold Addr.add; split <;> simp_all
theorem add_add (a : Addr) (i j : Nat) : (a.add i).add j = a.add (i + j) := by
  unfold Addr.add
  by_cases hi : i = 0 <;> by_cases hj : j = 0 <;> simp [hi, hj, Nat.add_assoc]
theorem add_zero (a : Addr) : a.add 0 = a := by simp [Addr.add]
theorem cell_row {w : World} {b : Nat} {us : Array Value} {el : TypeId} {fr : Nat × Nat} (h : w.heap[b]? = some (.cells us el fr)) (j : Nat) : w.cell? ⟨b, j, none⟩ = us[j]? := by simp [World.cell?, h]

/-- A cell turns in a row none of whose cells is frozen. -/
theorem run_store_row {w : World} {b : Nat} {us : Array Value} {el lo hi : Nat} (h : w.heap[b]? = some (.cells us el (lo, hi))) (hf : lo = hi ∨ us.size ≤ lo) {j : Nat} (hj : j < us.size) {v : Value} (o : v.oneCell' = true) :
    (store ⟨b, j, none⟩ v).run P w = .ok () (w.setCell ⟨b, j, none⟩ v) := by
  rw [run_store P w _ v .plain o, cell_row h]
  have hz : w.frozen? ⟨b, j, none⟩ = false := by
    simp only [World.frozen?, h]
    rw [Bool.and_eq_false_iff]
    rcases hf with hf | hf
    · by_cases hlo : lo ≤ j
      · right; simp; omega
      · left; simpa using hlo
    · left; simp; omega
  simp [Array.getElem?_eq_getElem hj, hz]
theorem turned_setCell (w : World) (b j : Nat) (v : Value) : Turned w (w.setCell ⟨b, j, none⟩ v) b :=
  ⟨rfl, rfl, rfl, by simp [World.setCell], fun i hi => by simp only [World.setCell, Array.getElem?_modify]; rw [if_neg (fun e => hi e.symm)]⟩
theorem Turned.refl (w : World) (b : Nat) : Turned w w b := ⟨rfl, rfl, rfl, rfl, fun _ _ => rfl⟩
theorem Turned.trans {a b c : World} {n : Nat} (h : Turned a b n) (k : Turned b c n) : Turned a c n :=
  ⟨k.os.trans h.os, k.tape.trans h.tape, k.output.trans h.output, k.size.trans h.size, fun i hi => (k.blk i hi).trans (h.blk i hi)⟩
theorem setCell_row {w : World} {b : Nat} {us : Array Value} {el : TypeId} {fr : Nat × Nat} (h : w.heap[b]? = some (.cells us el fr)) (j : Nat) (v : Value) :
    (w.setCell ⟨b, j, none⟩ v).heap[b]? = some (.cells (us.setIfInBounds j v) el fr) := by
  simp [World.setCell, Array.getElem?_modify, h]
theorem run_storeCells {b : Nat} {el lo hi : Nat} (off : Nat) : ∀ (vs : List Value) (i : Nat) (us : Array Value) (w : World), w.heap[b]? = some (.cells us el (lo, hi)) → (lo = hi ∨ us.size ≤ lo) → off + i + vs.length ≤ us.size → (∀ v ∈ vs, v.oneCell' = true) →
    ∃ w', (storeCells ⟨b, off, none⟩ vs i).run P w = .ok () w' ∧ Turned w w' b ∧ w'.heap[b]? = some (.cells (us.toList.take (off + i) ++ vs ++ us.toList.drop (off + i + vs.length)).toArray el (lo, hi))
  | [], i, us, w, h, _, _, _ => ⟨w, by simp [storeCells], Turned.refl w b, by simpa using h⟩
  | v :: vs, i, us, w, h, hf, hfit, ho => by
    simp only [List.length_cons] at hfit
    have hj : off + i < us.size := by omega
    have h1 := run_store_row (P := P) h hf hj (ho v (by simp))
    have hs : (us.setIfInBounds (off + i) v).size = us.size := by simp
    obtain ⟨w', hr, ht, hc⟩ := run_storeCells off vs (i + 1) (us.setIfInBounds (off + i) v) (w.setCell ⟨b, off + i, none⟩ v) (setCell_row h _ _) (by rw [hs]; exact hf) (by rw [hs]; omega) (fun x hx => ho x (by simp [hx]))
    refine ⟨w', ?_, (turned_setCell w b (off + i) v).trans ht, ?_⟩
    · simp only [storeCells, Sem.run_bind, add_plain, h1, Result.andThen_ok]
      exact hr
    · rw [hc]
      congr 2
      have hl : off + i < us.toList.length := by simpa using hj
      refine congrArg List.toArray ?_
      simp only [Array.toList_setIfInBounds, List.length_cons, List.append_assoc]
      have e1 : (us.toList.set (off + i) v).take (off + (i + 1)) = us.toList.take (off + i) ++ [v] := by
        rw [show off + (i + 1) = (off + i) + 1 from by omega, List.take_add_one, List.take_set_of_le (by omega), List.getElem?_set_self hl]
        rfl
      rw [e1, List.drop_set, if_pos (by omega)]
      simp [List.append_assoc, show off + (i + 1) + vs.length = off + i + (vs.length + 1) from by omega]
theorem run_storeCells0 {b : Nat} {el lo hi : Nat} {us : Array Value} {w : World} (off : Nat) (vs : List Value) (h : w.heap[b]? = some (.cells us el (lo, hi))) (hf : lo = hi ∨ us.size ≤ lo) (hfit : off + vs.length ≤ us.size) (ho : ∀ v ∈ vs, v.oneCell' = true) :
    ∃ w', (storeCells ⟨b, off, none⟩ vs).run P w = .ok () w' ∧ Turned w w' b ∧ w'.heap[b]? = some (.cells (us.toList.take off ++ vs ++ us.toList.drop (off + vs.length)).toArray el (lo, hi)) :=
  run_storeCells (P := P) off vs 0 us w h hf (by simpa using hfit) ho

/-! ### types -/
theorem run_isAgg {t : TypeId} {g : Bool} (h : isAggT P t = some g) (w : World) : (isAgg t).run P w = .ok g w := by
  unfold isAggT at h
  unfold isAgg
  cases hu : P.underlying t with
  | none => rw [hu] at h; cases h
  | some d =>
    rw [hu] at h
    simp only [Sem.run_bind, run_underlying hu, Result.andThen_ok]
    cases d <;> simp_all
theorem run_sizeOf {t : TypeId} {n : Nat} (h : szT P t = some n) (w : World) : (sizeOf t).run P w = .ok n w := by
  unfold szT at h
  cases hi : P.info? t with
  | none => rw [hi] at h; cases h
  | some i => rw [hi] at h; cases h; simp [sizeOf, typeInfo, hi]
theorem run_loadVar {w : World} {t : TypeId} {g : Bool} {n : Nat} (hg : isAggT P t = some g) (hn : szT P t = some n) {ad : Addr} :
    (g = true → ∀ us : List Value, us.length = n → (∀ j x, us[j]? = some x → w.cell? (ad.add j) = some x) → (loadVar t ad).run P w = .ok (.agg us.toArray) w) ∧
    (g = false → ∀ u, w.cell? ad = some u → (loadVar t ad).run P w = .ok u w) := by
  constructor
  · rintro rfl us hl hc
    unfold loadVar
    subst hl
    simp [run_isAgg hg, run_sizeOf hn, run_loadCells_list w ad us hc]
  · rintro rfl u hc
    unfold loadVar
    simp [run_isAgg hg, hc]

/-! ### values against memory -/
def SRelV (c : Cx) (p : Pl) : SV → Value → Prop
  | .v a, u => VRel c a u
  | .l k off, u => ∃ b, p.rl k = some b ∧ u = .pointer (some ⟨b, off, none⟩)
theorem SRelV.mono {c c' : Cx} (h : c.le c') {p p' : Pl} : ∀ {s : SV} {u : Value}, (∀ k off, s = .l k off → p'.rl k = p.rl k) → SRelV c p s u → SRelV c' p' s u
  | .v a, _, _, r => VRel.mono h a _ r
  | .l k off, _, hk, ⟨b, h1, h2⟩ => ⟨b, (hk k off rfl).trans h1, h2⟩
section
variable {X : Ctl} {p : Pl} {w : World} {m : Mm}
/-- What lies behind an address. -/
theorem cellsAt_rel (r : MRel X p w m) {s : SV} {u : Value} (hs : SRelV (cx X p w m.hp) p s u) {cs : List AV} {off : Nat} (h : cellsAt m s = some (cs, off)) :
    ∃ ad us, u = .pointer (some ad) ∧ VRels (cx X p w m.hp) cs us ∧ ∀ j x, us[off + j]? = some x → w.cell? (ad.add j) = some x := by
  cases s with
  | l k o =>
    obtain ⟨b, hb, rfl⟩ := hs
    simp only [cellsAt] at h
    have hl := r.loc k b hb
    split at h
    · rename_i cs' e
      simp only [Option.some.injEq, Prod.mk.injEq] at h
      obtain ⟨rfl, rfl⟩ := h
      rw [e] at hl
      obtain ⟨us, el, h1, h2⟩ := hl
      refine ⟨_, us.toList, rfl, h2, fun j x hx => ?_⟩
      rw [add_plain, cell_row h1]
      simpa using hx
    · cases h
  | v a =>
    cases a with
    | ptr id o ep =>
      simp only [cellsAt, Option.bind_eq_some_iff] at h
      obtain ⟨cs', h1, h2⟩ := h
      split at h2
      · rename_i e
        simp only [Option.some.injEq, Prod.mk.injEq] at h2
        obtain ⟨rfl, rfl⟩ := h2
        obtain ⟨_, n, hn, _, hp⟩ := hs
        simp only [cx, h1, Option.map_some, Option.some.injEq] at hn
        obtain ⟨b, z, hb, rfl⟩ := hp (by omega)
        obtain ⟨us, el, lo, hi, g1, g2, g3, g4, g5⟩ := r.hp id cs' b z h1 hb
        refine ⟨_, _, rfl, g5, fun j x hx => ?_⟩
        rw [add_plain, cell_row g1]
        rw [List.getElem?_take] at hx
        split at hx
        · simpa using hx
        · cases hx
      · cases h2
    | sp b cs' =>
      simp only [cellsAt, Option.some.injEq, Prod.mk.injEq] at h
      obtain ⟨rfl, rfl⟩ := h
      obtain ⟨ad, us, rfl, _, h2, h3⟩ := hs
      exact ⟨ad, us, rfl, h2, fun j x hx => h3 j x (by simpa using hx)⟩
    | _ => simp [cellsAt] at h
/-- A load. -/
theorem run_aLoad (r : MRel X p w m) {s : SV} {u : Value} (hs : SRelV (cx X p w m.hp) p s u) {t : TypeId} {g : Bool} {n : Nat} (hg : isAggT P t = some g) (hn : szT P t = some n) {v : AV} (h : aLoad g n m s = some v) :
    ∃ x, (Instr.loadAt t u).run P w = .ok x w ∧ VRel (cx X p w m.hp) v x := by
  simp only [aLoad, Option.bind_eq_some_iff] at h
  obtain ⟨⟨cs, off⟩, h1, h2⟩ := h
  obtain ⟨ad, us, rfl, hv, hc⟩ := cellsAt_rel r hs h1
  simp only [rdCells] at h2
  cases g with
  | true =>
    simp only [if_true] at h2
    split at h2
    · rename_i hle
      cases h2
      have hvs := (hv.drop off).take n
      have hlen : ((us.drop off).take n).length = n := by
        have := hv.length
        simp; omega
      refine ⟨.agg ((us.drop off).take n).toArray, ?_, _, rfl, hvs⟩
      simp only [Instr.loadAt, Instr.sureAddr, Sem.run_bind, Sem.run_pure, Result.andThen_ok]
      refine (run_loadVar hg hn).1 rfl _ hlen fun j x hx => ?_
      rw [List.getElem?_take] at hx
      split at hx
      · exact hc j x (by simpa [List.getElem?_drop] using hx)
      · cases hx
    · cases h2
  | false =>
    simp only [Bool.false_eq_true, if_false] at h2
    obtain ⟨x, hx, hr, _⟩ := hv.get h2
    refine ⟨x, ?_, hr⟩
    simp only [Instr.loadAt, Instr.sureAddr, Sem.run_bind, Sem.run_pure, Result.andThen_ok]
    have := hc 0 x (by simpa using hx)
    rw [add_zero] at this
    exact (run_loadVar hg hn).2 rfl _ this
end
end Go.Ai
