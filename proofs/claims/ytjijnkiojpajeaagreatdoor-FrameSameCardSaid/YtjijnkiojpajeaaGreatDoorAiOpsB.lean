/- The abstract interpreter: each operation by itself, second part: moves, variables, loads, stores. -/
import Derived.Test.YtjijnkiojpajeaaGreatDoorAiOps
set_option linter.unusedVariables false
set_option linter.unusedSimpArgs false
set_option linter.unusedSectionVars false
namespace Go.Ai
variable [Glob]
section
variable {P : Program} {rec : Rec} {X : Ctl} {p : Pl} {w : World} {m : Mm} {fl : Option Flag} {ρ : Ro} {a : Act} {o : Oper} {next : Act → World → Prop} {Q : Exit → Act → World → Prop} {r : OR}

theorem ret1_eq {x : Option AV} (h : ret1 m x = some r) : ∃ v, x = some v ∧ r = .val (.v v) m := by
  cases x with
  | none => cases h
  | some v => exact ⟨v, rfl, by simpa [ret1] using h.symm⟩
theorem retS_eq {x : Option SV} (h : retS m x = some r) : ∃ v, x = some v ∧ r = .val v m := by
  cases x with
  | none => cases h
  | some v => exact ⟨v, rfl, by simpa [retS] using h.symm⟩

/-- A list that is nil becomes an object without cells. -/
theorem MRel.virt (r : MRel X p w m) : MRel X p w { m with hp := m.hp ++ [[]] } ∧ (cx X p w m.hp).le (cx X p w (m.hp ++ [[]])) ∧ p.rh m.hp.length = none := by
  have hn : p.rh m.hp.length = none := by
    cases h : p.rh m.hp.length with
    | none => rfl
    | some x => exact absurd (r.hlt _ x.1 x.2 h) (by omega)
  have hle : (cx X p w m.hp).le (cx X p w (m.hp ++ [[]])) := (Ext.refl p w).le fun i c h1 => by
    have hi := (List.getElem?_eq_some_iff.1 h1).1
    exact ⟨c, by rw [List.getElem?_append_left hi]; exact h1, Nat.le_refl _, fun _ => .inl rfl⟩
  refine ⟨⟨fun i c b z h1 h2 => ?_, fun i b z h2 => by have := r.hlt i b z h2; simp; omega, fun k b h1 => (r.loc k b h1).mono hle rfl, r.injh, r.injl, r.dis, r.hsz, r.lsz, r.muts, r.gl.mono hle⟩, hle, hn⟩
  rw [List.getElem?_append_left (r.hlt i b z h2)] at h1
  exact (r.hp i c b z h1 h2).mono hle rfl
theorem op_move (H : Hyp X p w m ρ a) {x : Operand} (hrun : (execOp a.eval o).run P w = .ok (.value (a.eval x)) w) (he : aMove fl m (ρ x) = some r) (hn : Out X p w m fl a o next Q r) : o.wp P a w next Q := by
  unfold aMove at he
  split at he
  · rename_i size hx
    cases he
    obtain ⟨h1, h2, h3⟩ := H.r.virt
    have hv := H.ro x
    rw [hx] at hv
    simp only [SRelV, VRel] at hv
    rw [hv] at hrun
    refine op_turns (v := .v (.own m.hp.length 0 size 0 0 0)) (m' := { m with hp := m.hp ++ [[]] }) H hrun (Ext.refl p w) h2 h1 (.same fun _ h => h) (fun _ _ => rfl) rfl ?_ hn
    exact ⟨rfl, 0, by simp [cx], Nat.le_refl _, fun _ => .inr ⟨h3, rfl, rfl, rfl, rfl, rfl⟩⟩
  · cases he
  · cases he
    exact op_value H hrun (Quiet.refl w) (H.ro x) hn

theorem op_pick (H : Hyp X p w m ρ a) {c x y : Operand} (ho : o.op = .pick c x y) (he : evalOp P rec fl ρ m o = some r) (hn : Out X p w m fl a o next Q r) : o.wp P a w next Q := by
  simp only [evalOp, ho, Option.bind_eq_some_iff, Option.map_eq_some_iff] at he
  obtain ⟨v, h1, t, h2, rfl⟩ := he
  have hv := H.val h1
  have : v = .sc (.bool t) := by
    unfold boolv at h2
    split at h2
    · cases h2; rfl
    · cases h2
  subst this
  simp only [VRel] at hv
  refine op_value (w' := w) H (u := if t then a.eval x else a.eval y) ?_ (Quiet.refl w) ?_ hn
  · simp [execOp, ho, hv, asBool]
  · cases t
    · exact H.ro y
    · exact H.ro x

theorem op_alloc (H : Hyp X p w m ρ a) {e : TypeId} (ho : o.op = .alloc e) (he : evalOp P rec fl ρ m o = some r) (hn : Out X p w m fl a o next Q r) : o.wp P a w next Q := by
  simp only [evalOp, ho, zeroT, Option.bind_eq_some_iff, Option.map_eq_some_iff] at he
  obtain ⟨z, ⟨i, hi, z0, hz, rfl⟩, cs, hc, rfl⟩ := he
  refine op_newBox (el := e) (us := z0.cells) (cs := cs) H ?_ (cellsOf_rel hc (VRel.toAV _ _)) rfl hn
  simp [execOp, ho, Instr.alloc, zeroValue, typeInfo, hi, hz, newVar, newRow]
theorem op_box (H : Hyp X p w m ρ a) {e : TypeId} {x : Operand} (ho : o.op = .box e x) (he : evalOp P rec fl ρ m o = some r) (hn : Out X p w m fl a o next Q r) : o.wp P a w next Q := by
  simp only [evalOp, ho, Option.bind_eq_some_iff, Option.map_eq_some_iff] at he
  obtain ⟨v, h1, cs, hc, rfl⟩ := he
  refine op_newBox (el := e) (us := (a.eval x).cells) (cs := cs) H ?_ (cellsOf_rel hc (H.val h1)) rfl hn
  simp [execOp, ho, Instr.box, newVar, newRow]
theorem op_load (H : Hyp X p w m ρ a) {t : TypeId} {x : Operand} (ho : o.op = .load t x) (he : evalOp P rec fl ρ m o = some r) (hn : Out X p w m fl a o next Q r) : o.wp P a w next Q := by
  simp only [evalOp, ho, Option.bind_eq_some_iff] at he
  obtain ⟨g, hg, n, hs, he⟩ := he
  obtain ⟨v, hv, rfl⟩ := ret1_eq he
  obtain ⟨u, hr, hu⟩ := run_aLoad H.r (H.ro x) hg hs hv
  exact op_value (v := .v v) (u := u) (w' := w) H (by simp [execOp, ho, hr]) (Quiet.refl w) hu hn

/-! ### stores -/
theorem wrCells_rel {c : Cx} {cs new cs' : List AV} {us vs : List Value} {off : Nat} (h : wrCells cs off new = some cs') (h1 : VRels c cs us) (h2 : VRels c new vs) :
    VRels c cs' (us.take off ++ vs ++ us.drop (off + vs.length)) ∧ off + vs.length ≤ us.length ∧ cs'.length = cs.length := by
  have hl := h1.length
  have hl2 := h2.length
  unfold wrCells at h
  split at h
  · rename_i v
    split at h
    · rename_i hlt
      cases h
      obtain ⟨x, xs, rfl, hx, ho, hn⟩ := h2
      simp only [VRels] at hn
      subst hn
      refine ⟨?_, by simp; omega, by simp⟩
      have e : us.take off ++ [x] ++ us.drop (off + [x].length) = us.set off x := by
        rw [List.set_eq_take_append_cons_drop, if_pos (by omega)]
        simp
      rw [e]
      exact h1.set hx ho off
    · cases h
  · split at h
    · rename_i hle
      cases h
      refine ⟨h1.splice h2 off, by omega, ?_⟩
      simp [splice]
      omega
    · cases h
/-- The block of an object with its cells turned. -/
theorem HpAt.turn {c c' : Cx} {w' : World} {b z : Nat} {cs cs' : List AV} {vs us : List Value} {el lo hi off : Nat} {ua : Array Value} (hle : c.le c') (hua : ua.size = z) (hf : lo = hi ∨ z ≤ lo) (hcz : cs.length ≤ z)
    (hu : us = ua.toList.take cs.length) (hv : VRels c cs' (us.take off ++ vs ++ us.drop (off + vs.length))) (hfit : off + vs.length ≤ us.length) (hlen : cs'.length = cs.length)
    (hc : w'.heap[b]? = some (.cells (ua.toList.take off ++ vs ++ ua.toList.drop (off + vs.length)).toArray el (lo, hi))) : HpAt c' w' b z cs' := by
  have hua' : ua.toList.length = z := by simpa using hua
  have hul : us.length = cs.length := by subst hu; simp; omega
  refine ⟨_, el, lo, hi, hc, ?_, hf, by omega, ?_⟩
  · simp
    omega
  · rw [hlen]
    have e : (ua.toList.take off ++ vs ++ ua.toList.drop (off + vs.length)).take cs.length = us.take off ++ vs ++ us.drop (off + vs.length) := by
      subst hu
      rw [List.take_append, List.take_append]
      have e1 : (ua.toList.take off).take cs.length = (ua.toList.take cs.length).take off := by rw [List.take_take, List.take_take, Nat.min_comm]
      have e2 : vs.take (cs.length - (ua.toList.take off).length) = vs := List.take_of_length_le (by simp; omega)
      have e3 : (ua.toList.drop (off + vs.length)).take (cs.length - (ua.toList.take off ++ vs).length) = (ua.toList.take cs.length).drop (off + vs.length) := by
        rw [List.drop_take]
        congr 1
        simp
        omega
      rw [e1, e2, e3]
    rw [show (ua.toList.take off ++ vs ++ ua.toList.drop (off + vs.length)).toArray.toList = ua.toList.take off ++ vs ++ ua.toList.drop (off + vs.length) from rfl, e]
    exact hv.mono hle _ _
theorem op_store (H : Hyp X p w m ρ a) {t : TypeId} {x y : Operand} (ho : o.op = .store t x y) (he : evalOp P rec fl ρ m o = some r) (hn : Out X p w m fl a o next Q r) : o.wp P a w next Q := by
  simp only [evalOp, ho, Option.bind_eq_some_iff] at he
  obtain ⟨g, hg, n, hs, v, hv, he⟩ := he
  simp only [skip1, Option.map_eq_some_iff] at he
  obtain ⟨m', he, rfl⟩ := he
  simp only [aStore, Option.bind_eq_some_iff] at he
  obtain ⟨new, hnew, he⟩ := he
  have hvs := cellsOf_rel hnew (H.val hv)
  split at he
  rotate_left
  · cases he
  rename_i hsz
  have hcsz : (a.eval y).cells.size = n := by
    have := hvs.length
    simp at this
    omega
  -- the store itself
  have hstore : ∀ (b off : Nat) {us : Array Value} {el lo hi : Nat}, a.eval x = .pointer (some ⟨b, off, none⟩) → w.heap[b]? = some (.cells us el (lo, hi)) → (lo = hi ∨ us.size ≤ lo) → off + (a.eval y).cells.toList.length ≤ us.size →
      ∃ w', (execOp a.eval o).run P w = .ok .skip w' ∧ Turned w w' b ∧ w'.heap[b]? = some (.cells (us.toList.take off ++ (a.eval y).cells.toList ++ us.toList.drop (off + (a.eval y).cells.toList.length)).toArray el (lo, hi)) := by
    intro b off us el lo hi hx hb hf hfit
    obtain ⟨w', h1, h2, h3⟩ := run_storeCells0 (P := P) off (a.eval y).cells.toList hb hf hfit hvs.one
    refine ⟨w', ?_, h2, h3⟩
    simp [execOp, ho, Instr.storeAt, Instr.sureAddr, hx, storeVar, run_sizeOf hs, hcsz, h1]
  have hx := H.ro x
  split at he
  · rename_i k off e
    rw [e] at hx
    obtain ⟨b, hb, hxe⟩ := hx
    split at he
    · rename_i cs hl
      simp only [Option.map_eq_some_iff] at he
      obtain ⟨cs', hw, rfl⟩ := he
      have hloc := H.r.loc k b hb
      rw [hl] at hloc
      obtain ⟨us, el, h1, h2⟩ := hloc
      obtain ⟨g1, g2, g3⟩ := wrCells_rel hw h2 hvs
      obtain ⟨w', r1, r2, r3⟩ := hstore b off hxe h1 (.inl rfl) (by simpa using g2)
      have hle0 : (cx X p w m.hp).le (cx X p w' m.hp) := (r2.extL hb).le_same fun _ => rfl
      obtain ⟨q1, q2, q3⟩ := H.r.setL hb r2 (.cells cs') ⟨_, el, r3, g1.mono hle0 _ _⟩
      exact op_skip (m' := { m with loc := aset m.loc k (.cells cs') }) H r1 q3 q2 q1 (.same fun _ h => h) (fun _ _ => rfl) rfl hn
    · cases he
  · rename_i id off ep e
    simp only [Option.bind_eq_some_iff] at he
    obtain ⟨cs, hc, he⟩ := he
    split at he
    · rename_i hep
      simp only [Option.map_eq_some_iff] at he
      obtain ⟨cs', hw, rfl⟩ := he
      rw [e] at hx
      obtain ⟨_, n', hn', _, hx⟩ := hx
      simp only [cx, hc, Option.map_some, Option.some.injEq] at hn'
      obtain ⟨b, z, hb, hxe⟩ := hx (by omega)
      obtain ⟨us, el, lo, hi, k1, k2, k3, k4, k5⟩ := H.r.hp id cs b z hc hb
      obtain ⟨g1, g2, g3⟩ := wrCells_rel hw k5 hvs
      have hus : us.toList.length = z := by simpa using k2
      have hfit : off + (a.eval y).cells.toList.length ≤ us.size := by simp at g2 ⊢; omega
      obtain ⟨w', r1, r2, r3⟩ := hstore b off hxe k1 (by omega) hfit
      have hle0 : (cx X p w m.hp).le (cx X p w' (m.hp.set id cs')) := (r2.extH hb).le fun i c h1 => by
        by_cases e : i = id
        · subst e
          rw [hc] at h1; cases h1
          exact ⟨cs', by simp [(List.getElem?_eq_some_iff.1 hc).1], by omega, fun _ => .inl rfl⟩
        · exact ⟨c, by rw [List.getElem?_set_ne (fun x => e x.symm)]; exact h1, Nat.le_refl _, fun _ => .inl rfl⟩
      obtain ⟨q1, q2, q3⟩ := H.r.setH hb r2 hc g3 (HpAt.turn hle0 k2 k3 k4 rfl g1 g2 g3 r3)
      exact op_skip (m' := { m with hp := m.hp.set id cs' }) H r1 q3 q2 q1 (.same fun _ h => h) (fun _ _ => rfl) rfl hn
    · cases he
  · cases he
end
end Go.Ai
