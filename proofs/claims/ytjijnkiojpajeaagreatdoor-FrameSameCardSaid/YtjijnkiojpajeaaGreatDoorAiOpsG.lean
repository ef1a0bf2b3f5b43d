/- The abstract interpreter: each operation by itself, seventh part: what is built and made, texts as bytes. -/
import Derived.Test.YtjijnkiojpajeaaGreatDoorAiOpsF
set_option linter.unusedVariables false
set_option linter.unusedSimpArgs false
set_option linter.unusedSectionVars false
namespace Go.Ai
variable [Glob]
section
variable {P : Program} {rec : Rec} {X : Ctl} {p : Pl} {w : World} {m : Mm} {fl : Option Flag} {ρ : Ro} {a : Act} {o : Oper} {next : Act → World → Prop} {Q : Exit → Act → World → Prop} {r : OR}

theorem run_mapM_places : ∀ {fs : List Field} {pl : List (Nat × Nat)}, placesOf P fs = some pl → (fs.mapM fun f => do pure (f.offset, ← sizeOf f.type) : Sem (List (Nat × Nat))).run P w = .ok pl w
  | [], pl, h => by cases h; simp
  | f :: fs, pl, h => by
    simp only [placesOf, Option.bind_eq_some_iff, Option.map_eq_some_iff] at h
    obtain ⟨n, hn, pl', hp, rfl⟩ := h
    rw [List.mapM_cons]
    have ih := run_mapM_places hp
    simp only [Sem.run_bind, run_sizeOf hn, Result.andThen_ok, Sem.run_pure, ih]
/-- The parts of a literal, as the model has them. -/
def PRel (c : Cx) : List (Nat × AV) → List (Nat × Value) → Prop
  | [], us => us = []
  | (i, v) :: r, us => ∃ u us', us = (i, u) :: us' ∧ VRel c v u ∧ PRel c r us'
theorem PRel.of (H : Hyp X p w m ρ a) : ∀ {xs : List (Nat × Operand)} {ps : List (Nat × AV)}, partsOf ρ xs = some ps → PRel (cx X p w m.hp) ps (xs.map fun q => (q.1, a.eval q.2))
  | [], ps, h => by cases h; rfl
  | (i, x) :: r, ps, h => by
    simp only [partsOf, Option.bind_eq_some_iff, Option.map_eq_some_iff] at h
    obtain ⟨v, h1, ps', h2, rfl⟩ := h
    exact ⟨_, _, rfl, H.val h1, PRel.of H h2⟩
theorem foldl_set (off : Nat) : ∀ (vs : List Value) (k : Nat) (cs : Array Value), off + k + vs.length ≤ cs.size →
    ((vs.zipIdx k).foldl (fun (cs : Array Value) (x : Value × Nat) => cs.setIfInBounds (off + x.2) x.1) cs) = (cs.toList.take (off + k) ++ vs ++ cs.toList.drop (off + k + vs.length)).toArray
  | [], k, cs, _ => by simp
  | v :: vs, k, cs, h => by
    simp only [List.length_cons] at h
    simp only [List.zipIdx_cons, List.foldl_cons]
    rw [foldl_set off vs (k + 1) (cs.setIfInBounds (off + k) v) (by simp; omega)]
    refine congrArg List.toArray ?_
    have hl : off + k < cs.toList.length := by simp; omega
    simp only [Array.toList_setIfInBounds, List.length_cons, List.append_assoc]
    have e1 : (cs.toList.set (off + k) v).take (off + (k + 1)) = cs.toList.take (off + k) ++ [v] := by
      rw [show off + (k + 1) = (off + k) + 1 from by omega, List.take_add_one, List.take_set_of_le (by omega), List.getElem?_set_self hl]
      rfl
    rw [e1, List.drop_set, if_pos (by omega)]
    simp [List.append_assoc, show off + (k + 1) + vs.length = off + k + (vs.length + 1) from by omega]
theorem fill_rel {c : Cx} {pl : Nat → Option (Nat × Nat)} : ∀ {ps : List (Nat × AV)} {us : List (Nat × Value)} {cells cs : List AV} {ucells : List Value}, PRel c ps us → VRels c cells ucells → fillCells pl cells ps = some cs →
    ∃ ucs, Instr.fill pl ucells.toArray us = some ucs.toArray ∧ VRels c cs ucs
  | [], us, cells, cs, ucells, hp, hc, h => by
    cases hp
    cases h
    exact ⟨ucells, rfl, hc⟩
  | (i, v) :: ps, us, cells, cs, ucells, hp, hc, h => by
    obtain ⟨u, us', rfl, hu, hp'⟩ := hp
    simp only [fillCells, Option.bind_eq_some_iff] at h
    obtain ⟨q, hq, new, hn, h⟩ := h
    split at h
    · rename_i hf
      have hv := cellsOf_rel hn hu
      have hl := hv.length
      have hl2 := hc.length
      simp at hl
      have hs := hc.splice hv q.1
      obtain ⟨ucs, k1, k2⟩ := fill_rel hp' hs h
      refine ⟨ucs, ?_, k2⟩
      rw [← k1]
      simp only [Instr.fill, hq]
      rw [if_neg (by simp; omega)]
      congr 1
      have hfit : q.1 + 0 + u.cells.toList.length ≤ ucells.toArray.size := by simp; omega
      rw [← Array.foldl_toList, show (u.cells.zipIdx).toList = u.cells.toList.zipIdx 0 from by simp]
      rw [foldl_set q.1 u.cells.toList 0 ucells.toArray hfit]
      simp
    · cases h
theorem op_build (H : Hyp X p w m ρ a) {t : TypeId} {ps : Array (Nat × Operand)} (ho : o.op = .build t ps) (he : evalOp P rec fl ρ m o = some r) (hn : Out X p w m fl a o next Q r) : o.wp P a w next Q := by
  simp only [evalOp, ho] at he
  obtain ⟨v, hv, rfl⟩ := ret1_eq he
  unfold aBuild at hv
  have hparts : (ps.map fun x => (x.1, a.eval x.2)).toList = ps.toList.map fun q => (q.1, a.eval q.2) := by simp
  split at hv
  · rename_i fs z hu hz
    simp only [Option.bind_eq_some_iff, Option.map_eq_some_iff] at hv
    obtain ⟨pl, hpl, xs, hxs, cs, hf, rfl⟩ := hv
    obtain ⟨uz, hz1, us, rfl, hz2⟩ := run_zeroValue (w := w) hz (cx X p w m.hp)
    obtain ⟨ucs, k1, k2⟩ := fill_rel (PRel.of H hxs) hz2 hf
    refine op_value (v := .v (.agg cs)) (u := .agg ucs.toArray) (w' := w) H ?_ (Quiet.refl w) ⟨ucs, rfl, k2⟩ hn
    have hm := run_mapM_places (w := w) hpl
    have hm2 : (fs.mapM fun f => do pure (f.offset, ← sizeOf f.type) : Sem (Array (Nat × Nat))).run P w = .ok pl.toArray w := by
      rw [Array.mapM_eq_mapM_toList, Sem.run_map, hm]
      rfl
    have e : (fun i : Nat => pl.toArray[i]?) = (fun i : Nat => pl[i]?) := by funext i; simp
    simp only [execOp, ho, Instr.build, Sem.run_bind, hz1, run_underlying hu, Result.andThen_ok, hm2, e, hparts, Value.cells, k1]
    rfl
  · rename_i n e z hu hz
    simp only [Option.bind_eq_some_iff, Option.map_eq_some_iff] at hv
    obtain ⟨sz, hs, xs, hxs, cs, hf, rfl⟩ := hv
    obtain ⟨uz, hz1, us, rfl, hz2⟩ := run_zeroValue (w := w) hz (cx X p w m.hp)
    obtain ⟨ucs, k1, k2⟩ := fill_rel (PRel.of H hxs) hz2 hf
    refine op_value (v := .v (.agg cs)) (u := .agg ucs.toArray) (w' := w) H ?_ (Quiet.refl w) ⟨ucs, rfl, k2⟩ hn
    simp only [execOp, ho, Instr.build, Sem.run_bind, hz1, run_underlying hu, run_sizeOf hs, Result.andThen_ok, hparts, Value.cells, k1]
    rfl
  · cases hv

/-! ### zero cells in a row -/
theorem VRels.repeat_ {c : Cx} {z : List AV} {u : List Value} (h : VRels c z u) : ∀ n, VRels c (repeatCells z n) (List.replicate n u).flatten
  | 0 => rfl
  | n + 1 => by
    rw [List.replicate_succ, List.flatten_cons]
    exact h.append (VRels.repeat_ h n)
theorem zeros_list (z : Array Value) (hz : 0 < z.size) : ∀ n, (List.range (n * z.size)).map (z[· % z.size]!) = (List.replicate n z.toList).flatten
  | 0 => by simp
  | n + 1 => by
    rw [List.replicate_succ, List.flatten_cons, ← zeros_list z hz n, show (n + 1) * z.size = z.size + n * z.size from by rw [Nat.add_mul]; omega, List.range_add, List.map_append, List.map_map]
    congr 1
    · apply List.ext_getElem
      · simp
      · intro i h1 h2
        have hi : i < z.size := by simpa using h2
        simp [Nat.mod_eq_of_lt hi, hi]
    · apply List.map_congr_left
      intro i _
      simp
theorem zeros_eq (z : Array Value) (hz : 0 < z.size) (n : Nat) : ((Array.range (n * z.size)).map (z[· % z.size]!)) = ((List.replicate n z.toList).flatten).toArray := by
  apply Array.ext'
  rw [← zeros_list z hz n]
  simp
theorem newSlice_goes (H : Hyp X p w m ρ a) {el : TypeId} {us : List Value} {cs : List AV} {n len : Nat} (hrun : (execOp a.eval o).run P w = .ok (.value (.slice (some ⟨w.heap.size, 0, none⟩) len len)) (w.alloc (.cells us.toArray el)))
    (hr : VRels (cx X p w m.hp) cs us) (hn0 : 0 < n) (hl : cs.length = len * n) (hmax : len ≤ maxLen) {r : OR} (he : newSlice fl m n len cs = r) (hn : Out X p w m fl a o next Q r) : o.wp P a w next Q := by
  have hq := Quiet.alloc w (.cells us.toArray el)
  have hlu := hr.length
  unfold newSlice at he
  split at he
  · subst he
    obtain ⟨h1, h2⟩ := H.r.push H.lt hq (b := w.heap.size) (z := us.toArray.size) (Nat.le_refl _) (by simp) (cs := cs) fun c hc => HpAt.fresh (us := us.toArray) el hr hc
    refine op_turns (v := .v (.own m.hp.length 0 n len len cs.length)) (m' := { m with hp := m.hp ++ [cs] }) H hrun (ext_newH hq _ (Nat.le_refl _)) h2 h1 (kept_new rfl rfl) (fun _ _ => rfl) rfl ?_ hn
    exact ⟨rfl, cs.length, by simp [cx], Nat.le_refl _, fun _ => .inl ⟨w.heap.size, us.toArray.size, len, 0, by simp [cx, Pl.putH], rfl, fun _ => rfl, Nat.le_refl _, hmax, Nat.le_refl _, by simp; omega⟩⟩
  · subst he
    have hle := (hq.ext p).le_same (X := X) (h := m.hp) fun _ => rfl
    refine op_turns (v := .v (.snap false n len cs)) (m' := m) H hrun (hq.ext p) hle (H.r.quiet hq) (.same fun _ h => h) (fun _ _ => rfl) rfl ?_ hn
    refine ⟨_, len, rfl, Nat.le_refl _, hmax, by rw [hl, Nat.mul_div_cancel _ hn0]; exact Nat.le_refl _, fun _ => ⟨⟨w.heap.size, 0, none⟩, us, rfl, ⟨by simp, fun id z e => ?_, fun k e => ?_, fun hM => ?_⟩, hr.mono hle _ _, fun j x hx => ?_⟩⟩
    · exact absurd (H.r.hsz id _ z e) (Nat.lt_irrefl _)
    · exact absurd (H.r.lsz k _ e) (Nat.lt_irrefl _)
    · exact absurd (H.lt _ hM) (Nat.lt_irrefl _)
    · show (w.alloc (.cells us.toArray el)).cell? _ = _
      rw [add_plain, cell_row (heap_alloc_new w _)]
      simpa using hx
theorem op_buildSlice (H : Hyp X p w m ρ a) {t : TypeId} {len : Nat} {ps : Array (Nat × Operand)} (ho : o.op = .buildSlice t len ps) (he : evalOp P rec fl ρ m o = some r) (hn : Out X p w m fl a o next Q r) : o.wp P a w next Q := by
  simp only [evalOp, ho, aBuildSlice, elemT, Option.bind_eq_some_iff] at he
  obtain ⟨e, hu, n, hs, z, hz, zc, hzc, he⟩ := he
  split at hu
  · rename_i e' hu'
    cases hu
    split at he
    · rename_i hc
      obtain ⟨h0, hzl, hlim⟩ := hc
      simp only [Option.bind_eq_some_iff, Option.map_eq_some_iff] at he
      obtain ⟨xs, hxs, cs, hf, rfl⟩ := he
      obtain ⟨uz, hz1, hz2⟩ := run_zeroValue (w := w) hz (cx X p w m.hp)
      have hzr := cellsOf_rel hzc hz2
      have hzs : uz.cells.size = n := by have := hzr.length; simp at this; omega
      obtain ⟨ucs, k1, k2⟩ := fill_rel (PRel.of H hxs) (hzr.repeat_ len) hf
      have hlen : ∀ (pl : Nat → Option (Nat × Nat)) (ps : List (Nat × AV)) (c c' : List AV), fillCells pl c ps = some c' → c'.length = c.length := by
        intro pl ps
        induction ps with
        | nil => intro c c' h; cases h; rfl
        | cons q ps ih =>
          intro c c' h
          obtain ⟨i, v⟩ := q
          simp only [fillCells, Option.bind_eq_some_iff] at h
          obtain ⟨q, hq, new, hn, h⟩ := h
          split at h
          · rw [ih _ _ h]
            simp [splice]
            omega
          · cases h
      have hrep : ∀ k, (repeatCells zc k).length = k * zc.length := by
        intro k
        induction k with
        | zero => simp [repeatCells]
        | succ k ih => simp [repeatCells, ih, Nat.add_mul]; omega
      have hcl : cs.length = len * n := by rw [hlen _ _ _ _ hf, hrep, hzl]
      refine newSlice_goes (el := e) (us := ucs) (cs := cs) H ?_ k2 h0 hcl ?_ rfl hn
      · have hparts : (ps.map fun x => (x.1, a.eval x.2)).toList = ps.toList.map fun q => (q.1, a.eval q.2) := by simp
        have hze := zeros_eq uz.cells (by omega) len
        rw [hzs] at hze
        have hnz : ¬ (len * n > 2 ^ 24) := by omega
        by_cases hl0 : len = 0
        · subst hl0
          simp only [List.replicate_zero, List.flatten_nil] at k1
          simp only [execOp, ho, Instr.buildSlice, Sem.run_bind, run_underlying hu', run_sizeOf hs, Result.andThen_ok, Nat.zero_mul, hparts]
          have hz0 : ∀ f : Nat → Value, Array.map f (Array.range 0) = #[] := fun f => by simp
          simp [k1, newRow, hz0]
        · have hne : ¬ (len * n = 0) := by simp only [Nat.mul_eq_zero, not_or]; omega
          simp only [execOp, ho, Instr.buildSlice, Sem.run_bind, run_underlying hu', run_sizeOf hs, Result.andThen_ok, hparts, Sem.run_ite, if_neg hnz, if_neg hne, hz1, Sem.run_pure, hzs, hze, k1]
          simp [newRow]
      · have : len ≤ 2 ^ 24 := Nat.le_trans (Nat.le_mul_of_pos_right _ h0) hlim
        unfold maxLen
        omega
    · cases he
  · cases hu
end
end Go.Ai
