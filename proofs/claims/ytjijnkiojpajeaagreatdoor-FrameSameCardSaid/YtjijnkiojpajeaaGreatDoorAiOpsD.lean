/- The abstract interpreter: each operation by itself, fourth part: comparisons, numbers, texts. -/
import Derived.Test.YtjijnkiojpajeaaGreatDoorAiOpsC
set_option linter.unusedVariables false
set_option linter.unusedSimpArgs false
set_option linter.unusedSectionVars false
namespace Go.Ai
variable [Glob]
section
variable {P : Program} {rec : Rec} {X : Ctl} {p : Pl} {w : World} {m : Mm} {fl : Option Flag} {ρ : Ro} {a : Act} {o : Oper} {next : Act → World → Prop} {Q : Exit → Act → World → Prop} {r : OR}

theorem run_aIntOp {op : BinOp} {k : IntKind} {x y : Int} {v : AV} (hs : op ≠ .shl ∧ op ≠ .shr) (h : aIntOp op k x y = some v) (t : TypeId) : ∃ u, v = .sc u ∧ (binOp op t (.int k x) (.int k y)).run P w = .ok u w := by
  cases op <;> simp only [aIntOp, aBits, Option.map_some, Option.map_none, Option.some.injEq, reduceCtorEq] at h
  case quo =>
    split at h
    · cases h
    · rename_i h0
      cases h
      exact ⟨_, rfl, by simp [binOp, Op.intDiv, h0]⟩
  case rem =>
    split at h
    · cases h
    · rename_i h0
      cases h
      exact ⟨_, rfl, by simp [binOp, Op.intDiv, h0]⟩
  all_goals
    subst h
    exact ⟨_, rfl, by simp [binOp, Op.intArith, Op.intBits, Op.intCmp]⟩
theorem run_aShift {op : BinOp} {k j : IntKind} {x y : Int} {v : AV} (hs : op = .shl ∨ op = .shr) (h : aShift op k x y = some v) (t : TypeId) : ∃ u, v = .sc u ∧ (binOp op t (.int k x) (.int j y)).run P w = .ok u w := by
  unfold aShift at h
  split at h
  · cases h
  · rename_i h0
    rcases hs with rfl | rfl <;> cases h <;> exact ⟨_, rfl, by simp [binOp, Op.shift, h0]⟩
theorem run_aStrOp {op : BinOp} {x y : ByteArray} {v : AV} (h : aStrOp op x y = some v) (t : TypeId) : ∃ u, v = .sc u ∧ (binOp op t (.string x) (.string y)).run P w = .ok u w := by
  cases op <;> simp only [aStrOp, Option.some.injEq, reduceCtorEq] at h
  case add =>
    split at h
    · cases h
    · rename_i h0
      cases h
      refine ⟨_, rfl, ?_⟩
      simp only [binOp, Op.stringOp]
      rw [Sem.run_ite, if_neg h0]
      rfl
  all_goals
    subst h
    exact ⟨_, rfl, by simp [binOp, Op.stringOp]⟩
theorem run_part {t : TypeId} (hg : isAggT P t = some false) {us : List Value} {i : Nat} {u : Value} (h : us[i]? = some u) : (part t us.toArray i).run P w = .ok u w := by
  simp [part, run_isAgg hg, h]
theorem run_eqAt {c : Cx} {t : TypeId} {x y : AV} {u v : Value} {b : Bool} (h : eqAt P t x y = some b) (hx : VRel c x u) (hy : VRel c y v) (d : Nat) : (Op.equalIn (d + 1) t u v).run P w = .ok b w ∧ isAggT P t = some false := by
  unfold eqAt at h
  split at h
  · rename_i k j a k' b' hu
    split at h
    · rename_i e
      subst e
      cases h
      simp only [VRel] at hx hy
      subst hx hy
      exact ⟨run_equalIn_int w d t j k a b' hu, by simp [isAggT, hu]⟩
    · cases h
  · rename_i a b' hu
    cases h
    simp only [VRel] at hx hy
    subst hx hy
    exact ⟨run_equalIn_string w d t a b' hu, by simp [isAggT, hu]⟩
  · rename_i a b' hu
    cases h
    simp only [VRel] at hx hy
    subst hx hy
    exact ⟨run_equalIn_bool' w d t a b' hu, by simp [isAggT, hu]⟩
  · cases h
theorem run_eqFs {c : Cx} {xs ys : List AV} {us vs : List Value} (hx : VRels c xs us) (hy : VRels c ys vs) (d : Nat) : ∀ (fs : List Field) (b : Bool), eqFs P fs xs ys = some b → (Op.eqFields (d + 1) us.toArray vs.toArray fs).run P w = .ok b w
  | [], b, h => by cases h; simp [Op.eqFields]
  | f :: fs, b, h => by
    simp only [eqFs] at h
    split at h
    · cases h
    · rename_i hne
      simp only [Option.bind_eq_some_iff] at h
      obtain ⟨x, h1, y, h2, e, h3, h4⟩ := h
      obtain ⟨u, g1, g2, _⟩ := hx.get h1
      obtain ⟨v, g3, g4, _⟩ := hy.get h2
      obtain ⟨k1, k2⟩ := run_eqAt (w := w) h3 g2 g4 d
      simp only [Op.eqFields, ne_eq, hne, not_false_eq_true, if_true, Sem.run_bind, run_part k2 g1, run_part k2 g3, k1, Result.andThen_ok]
      cases e with
      | true =>
        simp only [if_true] at h4
        simpa using run_eqFs hx hy d fs b h4
      | false => simp at h4; subst h4; simp
theorem neg_eq {op : BinOp} {b : Bool} {v : AV} (h : neg op b = some v) : (op = .eql ∧ v = mkBool b) ∨ (op = .neq ∧ v = mkBool (!b)) := by
  cases op <;> simp [neg] at h
  · exact .inl ⟨rfl, h.symm⟩
  · exact .inr ⟨rfl, h.symm⟩
theorem run_guard_int (op : BinOp) (t : TypeId) (x y : Operand) (k j : IntKind) (a b : Int) : (eqGuard op t x y (.int k a) (.int j b)).run P w = .ok () w := by
  cases op <;> simp [eqGuard]
theorem run_guard_str (op : BinOp) (t : TypeId) (x y : Operand) (a b : ByteArray) : (eqGuard op t x y (.string a) (.string b)).run P w = .ok () w := by
  cases op <;> simp [eqGuard]
theorem run_guard_bool (op : BinOp) (t : TypeId) (x y : Operand) (a b : Bool) : (eqGuard op t x y (.bool a) (.bool b)).run P w = .ok () w := by
  cases op <;> simp [eqGuard]
theorem aBin_run {op : BinOp} {x y v : AV} {t : TypeId} (ox oy : Operand) (h : aBin op x y = some v) (hb : ∀ b, x = .sc (.bool b) → P.underlying t = some .bool) :
    ∃ ux uy u, x = .sc ux ∧ y = .sc uy ∧ v = .sc u ∧ (eqGuard op t ox oy ux uy).run P w = .ok () w ∧ (binOp op t ux uy).run P w = .ok u w := by
  unfold aBin at h
  split at h
  · rename_i k a k' b
    split at h
    · obtain ⟨u, h1, h2⟩ := run_aShift (P := P) (w := w) (j := k') (.inl rfl) h t
      exact ⟨_, _, u, rfl, rfl, h1, run_guard_int .., h2⟩
    · obtain ⟨u, h1, h2⟩ := run_aShift (P := P) (w := w) (j := k') (.inr rfl) h t
      exact ⟨_, _, u, rfl, rfl, h1, run_guard_int .., h2⟩
    · rename_i n1 n2
      split at h
      · rename_i e
        subst e
        obtain ⟨u, h1, h2⟩ := run_aIntOp (P := P) (w := w) ⟨fun e => n1 e, fun e => n2 e⟩ h t
        exact ⟨_, _, u, rfl, rfl, h1, run_guard_int .., h2⟩
      · cases h
  · obtain ⟨u, h1, h2⟩ := run_aStrOp (P := P) (w := w) h t
    exact ⟨_, _, u, rfl, rfl, h1, run_guard_str .., h2⟩
  · rename_i a b
    have hu := hb a rfl
    rcases neg_eq h with ⟨rfl, rfl⟩ | ⟨rfl, rfl⟩
    · exact ⟨_, _, _, rfl, rfl, rfl, run_guard_bool .., run_eql_bool w t a b hu⟩
    · exact ⟨_, _, _, rfl, rfl, rfl, run_guard_bool .., run_neq_bool w t a b hu⟩
  · cases h
theorem eqN1 (d : Nat) {t : TypeId} {ms : Array (String × TypeId)} (hu : P.underlying t = some (.interface ms)) : (Op.equalIn (d + 1) t .nilIface .nilIface).run P w = .ok true w := by simp [Op.equalIn, run_underlying hu]
theorem eqN2 (d : Nat) {t : TypeId} {ms : Array (String × TypeId)} (hu : P.underlying t = some (.interface ms)) (s : TypeId) (q : Value) : (Op.equalIn (d + 1) t (.iface s q) .nilIface).run P w = .ok false w := by simp [Op.equalIn, run_underlying hu]
theorem eqN3 (d : Nat) {t e : TypeId} (hu : P.underlying t = some (.pointer e)) : (Op.equalIn (d + 1) t (.pointer none) (.pointer none)).run P w = .ok true w := by simp [Op.equalIn, run_underlying hu]
theorem eqN4 (d : Nat) {t e : TypeId} (hu : P.underlying t = some (.pointer e)) (ad : Addr) : (Op.equalIn (d + 1) t (.pointer (some ad)) (.pointer none)).run P w = .ok false w := by simp [Op.equalIn, run_underlying hu]
theorem eqN5 (d : Nat) {t : TypeId} {q1 q2 : Array TypeId} {q3 : Bool} (hu : P.underlying t = some (.func q1 q2 q3)) : (Op.equalIn (d + 1) t .nilFunc .nilFunc).run P w = .ok true w := by simp [Op.equalIn, run_underlying hu]
theorem eqN6 (d : Nat) {t : TypeId} {q1 q2 : Array TypeId} {q3 : Bool} (hu : P.underlying t = some (.func q1 q2 q3)) (f : Fn) (as ks : Array Value) : (Op.equalIn (d + 1) t (.func f as ks) .nilFunc).run P w = .ok false w := by simp [Op.equalIn, run_underlying hu]
/-- '==' with nil, by what its run is. -/
theorem nil_bin {op : BinOp} {t : TypeId} {u y : Value} {b : Bool} {v : AV} (hb : ∀ op', (op' = .eql ∨ op' = .neq) → binOp op' t u y = (if op' = .eql then (do pure (.bool (← Op.equal t u y))) else (do pure (.bool (!(← Op.equal t u y))))))
    (hr : (Op.equalIn (9999 + 1) t u y).run P w = .ok b w) (hn : neg op b = some v) : ∃ z, v = .sc z ∧ (binOp op t u y).run P w = .ok z w := by
  rcases neg_eq hn with ⟨rfl, rfl⟩ | ⟨rfl, rfl⟩
  · refine ⟨_, rfl, ?_⟩
    rw [hb .eql (.inl rfl), if_pos rfl]
    simp only [Op.equal, Op.maxDepth, Sem.run_bind]
    rw [show (10000 : Nat) = 9999 + 1 from rfl, hr]
    rfl
  · refine ⟨_, rfl, ?_⟩
    rw [hb .neq (.inr rfl), if_neg (by simp)]
    simp only [Op.equal, Op.maxDepth, Sem.run_bind]
    rw [show (10000 : Nat) = 9999 + 1 from rfl, hr]
    rfl
theorem isNil_run {op : BinOp} {t : TypeId} {x y : Operand} {b : Bool} {v : AV} (H : Hyp X p w m ρ a) (hy : nilConst P t y = true) (h : isNilv P t m (ρ x) = some b) (hn : neg op b = some v) :
    ∃ u, v = .sc u ∧ (eqGuard op t x y (a.eval x) (a.eval y)).run P w = .ok () w ∧ (binOp op t (a.eval x) (a.eval y)).run P w = .ok u w := by
  have hx := H.ro x
  unfold nilConst at hy
  split at hy
  · -- an interface
    split at hy
    · rename_i ms hu
      rw [show a.eval (.const .nilIface) = .nilIface from rfl]
      unfold isNilv at h
      rw [hu] at h
      split at h <;> first | (rename_i e _; cases e; done) | skip
      · rename_i e e2
        cases h
        rw [e2] at hx
        simp only [SRelV, VRel] at hx
        rw [hx]
        obtain ⟨z, h1, h2⟩ := nil_bin (P := P) (w := w) (op := op) (t := t) (u := .nilIface) (y := .nilIface) (b := true) (fun op' h => by rcases h with rfl | rfl <;> simp [binOp]) (eqN1 9999 hu) hn
        exact ⟨z, h1, by cases op <;> simp [eqGuard], h2⟩
      · rename_i e e2
        cases h
        rw [e2] at hx
        obtain ⟨q, hx, _⟩ := hx
        rw [hx]
        obtain ⟨z, h1, h2⟩ := nil_bin (P := P) (w := w) (op := op) (t := t) (u := .iface _ q) (y := .nilIface) (b := false) (fun op' h => by rcases h with rfl | rfl <;> simp [binOp]) (eqN2 9999 hu _ _) hn
        exact ⟨z, h1, by cases op <;> simp [eqGuard], h2⟩
      · cases h
    · cases hy
  · -- a pointer
    split at hy
    · rename_i e0 hu
      rw [show a.eval (.const (.pointer none)) = .pointer none from rfl]
      have key : (b = true ∧ a.eval x = .pointer none) ∨ (b = false ∧ ∃ ad, a.eval x = .pointer (some ad)) := by
        unfold isNilv at h
        rw [hu] at h
        split at h <;> first | (rename_i e _; cases e; done) | skip
        · rename_i e2; cases h; rw [e2] at hx; obtain ⟨q, _, hx⟩ := hx; exact .inr ⟨rfl, _, hx⟩
        · rename_i e2; cases h; rw [e2] at hx; exact .inl ⟨rfl, hx⟩
        · rename_i e2; cases h; rw [e2] at hx; obtain ⟨ad, us, hx, _⟩ := hx; exact .inr ⟨rfl, _, hx⟩
        · rename_i e2
          simp only [Option.bind_eq_some_iff] at h
          obtain ⟨cs, hc, h⟩ := h
          split at h
          · rename_i hl
            cases h
            rw [e2] at hx
            obtain ⟨b', z, _, hx⟩ := ptr_cur hx hc hl
            exact .inr ⟨rfl, _, hx⟩
          · cases h
        · cases h
      rcases key with ⟨rfl, hx⟩ | ⟨rfl, ad, hx⟩
      · rw [hx]
        obtain ⟨z, h1, h2⟩ := nil_bin (P := P) (w := w) (op := op) (t := t) (u := .pointer none) (y := .pointer none) (b := true) (fun op' h => by rcases h with rfl | rfl <;> simp [binOp]) (eqN3 9999 hu) hn
        exact ⟨z, h1, by cases op <;> simp [eqGuard], h2⟩
      · rw [hx]
        obtain ⟨z, h1, h2⟩ := nil_bin (P := P) (w := w) (op := op) (t := t) (u := .pointer (some ad)) (y := .pointer none) (b := false) (fun op' h => by rcases h with rfl | rfl <;> simp [binOp]) (eqN4 9999 hu _) hn
        exact ⟨z, h1, by cases op <;> simp [eqGuard], h2⟩
    · cases hy
  · -- a function
    split at hy
    · rename_i q1 q2 q3 hu
      rw [show a.eval (.const .nilFunc) = .nilFunc from rfl]
      unfold isNilv at h
      rw [hu] at h
      split at h <;> first | (rename_i e _; cases e; done) | skip
      · rename_i e e2
        cases h
        rw [e2] at hx
        simp only [SRelV, VRel] at hx
        rw [hx]
        obtain ⟨z, h1, h2⟩ := nil_bin (P := P) (w := w) (op := op) (t := t) (u := .nilFunc) (y := .nilFunc) (b := true) (fun op' h => by rcases h with rfl | rfl <;> simp [binOp]) (eqN5 9999 hu) hn
        exact ⟨z, h1, by cases op <;> simp [eqGuard], h2⟩
      · rename_i e e2
        cases h
        rw [e2] at hx
        obtain ⟨as, ks, hx, _⟩ := hx
        rw [hx]
        obtain ⟨z, h1, h2⟩ := nil_bin (P := P) (w := w) (op := op) (t := t) (u := .func (.func _) as.toArray ks.toArray) (y := .nilFunc) (b := false) (fun op' h => by rcases h with rfl | rfl <;> simp [binOp]) (eqN6 9999 hu _ _ _) hn
        exact ⟨z, h1, by cases op <;> simp [eqGuard], h2⟩
      · cases h
    · cases hy
  · cases hy
theorem op_binOp (H : Hyp X p w m ρ a) {op : BinOp} {t t' : TypeId} {x y : Operand} (ho : o.op = .binOp op t x y t') (he : evalOp P rec fl ρ m o = some r) (hn : Out X p w m fl a o next Q r) : o.wp P a w next Q := by
  simp only [evalOp, ho] at he
  obtain ⟨v, hv, rfl⟩ := ret1_eq he
  have fin : (∃ u, v = .sc u ∧ (eqGuard op t x y (a.eval x) (a.eval y)).run P w = .ok () w ∧ (binOp op t (a.eval x) (a.eval y)).run P w = .ok u w) → o.wp P a w next Q := by
    rintro ⟨u, rfl, h1, h2⟩
    exact op_value (v := .v (.sc u)) (u := u) (w' := w) H (by simp [execOp, ho, h1, h2]) (Quiet.refl w) rfl hn
  unfold aBinOp at hv
  split at hv
  · rename_i hy
    simp only [Option.bind_eq_some_iff] at hv
    obtain ⟨b, h1, h2⟩ := hv
    exact fin (isNil_run H hy h1 h2)
  · simp only [Option.bind_eq_some_iff] at hv
    obtain ⟨xv, hx, yv, hy, hv⟩ := hv
    have hxr := H.val hx
    have hyr := H.val hy
    have plain : aBin op xv yv = some v → (∀ b, xv = .sc (.bool b) → P.underlying t = some .bool) → o.wp P a w next Q := by
      intro h hb
      obtain ⟨ux, uy, u, rfl, rfl, rfl, g1, g2⟩ := aBin_run (P := P) (w := w) (t := t) x y h hb
      simp only [VRel] at hxr hyr
      subst hxr hyr
      exact fin ⟨u, rfl, g1, g2⟩
    split at hv
    · rename_i xs
      simp only [Option.bind_eq_some_iff] at hv
      obtain ⟨b, h1, h2⟩ := hv
      unfold eqStruct at h1
      split at h1
      · rename_i fs xs' ys hu e1
        cases e1
        split at h1
        · rename_i hg
          obtain ⟨us, hux, hvx⟩ := hxr
          obtain ⟨vs, huy, hvy⟩ := hyr
          have hf : P.fieldsOf t = fs := by simp [Program.fieldsOf, hu]
          have hr : (Op.equalIn (9999 + 1) t (.agg us.toArray) (.agg vs.toArray)).run P w = .ok b w := by
            rw [run_equalIn_agg w 9999 t _ _ (by rw [hf]; exact hu) hg.1, hf]
            exact run_eqFs hvx hvy 9998 fs.toList b h1
          obtain ⟨z, k1, k2⟩ := nil_bin (P := P) (w := w) (op := op) (t := t) (u := .agg us.toArray) (y := .agg vs.toArray) (fun op' h => by rcases h with rfl | rfl <;> simp [binOp]) hr h2
          refine fin ⟨z, k1, ?_, by rw [hux, huy]; exact k2⟩
          rw [hux, huy]
          exact run_eqGuard_agg w op t x y _ _ hg.2
        · cases h1
      · cases h1
    · rename_i b
      split at hv
      · rename_i hu
        exact plain hv fun _ _ => hu
      · cases hv
    · rename_i n1 n2
      exact plain hv fun b e => absurd e (n2 b)
end
end Go.Ai
