/- The abstract interpreter: each operation by itself, third part: addresses, numbers, texts, comparisons. -/
import Derived.Test.YtjijnkiojpajeaaGreatDoorAiOpsB
import Derived.Laws.StructEq
set_option linter.unusedVariables false
set_option linter.unusedSimpArgs false
set_option linter.unusedSectionVars false
namespace Go.Ai
variable [Glob]
section
variable {P : Program} {rec : Rec} {X : Ctl} {p : Pl} {w : World} {m : Mm} {fl : Option Flag} {ρ : Ro} {a : Act} {o : Oper} {next : Act → World → Prop} {Q : Exit → Act → World → Prop} {r : OR}

theorem intv_eq {v : AV} {x : IntKind × Int} (h : intv v = some x) : v = .sc (.int x.1 x.2) := by
  unfold intv at h
  split at h
  · cases h; rfl
  · cases h
theorem strv_eq {v : AV} {s : ByteArray} (h : strv v = some s) : v = .sc (.string s) := by
  unfold strv at h
  split at h
  · cases h; rfl
  · cases h
theorem cur_len {c : Cx} {id ep n : Nat} (hn : c.hl id = some n) {h : Heap} {cs : List AV} (hc : c.hl = fun id => (h[id]?).map List.length) (h1 : h[id]? = some cs) : n = cs.length := by
  rw [hc] at hn
  simp [h1] at hn
  exact hn.symm
/-- A pointer that is up to date. -/
theorem ptr_cur {id off ep : Nat} {u : Value} (h : VRel (cx X p w m.hp) (.ptr id off ep) u) {cs : List AV} (hc : m.hp[id]? = some cs) (he : cs.length = ep) : ∃ b z, p.rh id = some (b, z) ∧ u = .pointer (some ⟨b, off, none⟩) := by
  obtain ⟨_, n, hn, _, h2⟩ := h
  exact h2 (by have := cur_len (ep := ep) hn rfl hc; omega)

theorem op_nilCheck (H : Hyp X p w m ρ a) {x : Operand} (ho : o.op = .nilCheck x) (he : evalOp P rec fl ρ m o = some r) (hn : Out X p w m fl a o next Q r) : o.wp P a w next Q := by
  simp only [evalOp, ho] at he
  obtain ⟨v, hv, rfl⟩ := retS_eq he
  have hx := H.ro x
  have key : v = ρ x ∧ ((∃ ad, a.eval x = .pointer (some ad)) ∨ (∃ f as ks, a.eval x = .func (.func f) as ks) ∨ (∃ t y, a.eval x = .iface t y)) := by
    unfold aNilCheck at hv
    split at hv
    · rename_i e; cases hv; rw [e] at hx; obtain ⟨b, _, h⟩ := hx; exact ⟨e.symm, .inl ⟨_, h⟩⟩
    · rename_i e
      simp only [Option.bind_eq_some_iff] at hv
      obtain ⟨cs, hc, hv⟩ := hv
      split at hv
      · rename_i hl
        cases hv
        rw [e] at hx
        obtain ⟨b, z, _, h⟩ := ptr_cur hx hc hl
        exact ⟨e.symm, .inl ⟨_, h⟩⟩
      · cases hv
    · rename_i e; cases hv; rw [e] at hx; obtain ⟨ad, us, h, _⟩ := hx; exact ⟨e.symm, .inl ⟨_, h⟩⟩
    · rename_i e; cases hv; rw [e] at hx; obtain ⟨as, ks, h, _⟩ := hx; exact ⟨e.symm, .inr (.inl ⟨_, _, _, h⟩)⟩
    · rename_i e; cases hv; rw [e] at hx; obtain ⟨y, h, _⟩ := hx; exact ⟨e.symm, .inr (.inr ⟨_, _, h⟩)⟩
    · cases hv
  obtain ⟨rfl, hk⟩ := key
  refine op_value (u := a.eval x) (w' := w) H ?_ (Quiet.refl w) (H.ro x) hn
  rcases hk with ⟨ad, h⟩ | ⟨f, as, ks, h⟩ | ⟨t, y, h⟩ <;> simp [execOp, ho, h]

theorem aField_rel {off : Nat} {s v : SV} {u : Value} (h : aField m off s = some v) (hs : SRelV (cx X p w m.hp) p s u) : ∃ ad, u = .pointer (some ad) ∧ SRelV (cx X p w m.hp) p v (.pointer (some (ad.add off))) := by
  unfold aField at h
  split at h
  · cases h
    obtain ⟨b, hb, rfl⟩ := hs
    exact ⟨_, rfl, b, hb, by rw [add_plain]⟩
  · rename_i id o' ep
    simp only [Option.bind_eq_some_iff] at h
    obtain ⟨cs, hc, h⟩ := h
    split at h
    · rename_i hl
      cases h
      obtain ⟨b, z, hb, rfl⟩ := ptr_cur hs hc hl
      obtain ⟨_, n, hn, hle, _⟩ := hs
      exact ⟨_, rfl, rfl, n, hn, hle, fun e => ⟨b, z, hb, by rw [add_plain]⟩⟩
    · cases h
  · rename_i bw cs
    cases h
    obtain ⟨ad, us, rfl, h1, h2, h3⟩ := hs
    refine ⟨ad, rfl, _, us.drop off, rfl, fun hn => ?_, h2.drop off, fun j x hx => ?_⟩
    · rw [add_block]
      exact h1 (by rintro rfl; simp at hn)
    · rw [add_add]
      exact h3 (off + j) x (by simpa [List.getElem?_drop] using hx)
  · cases h
theorem run_fieldPlace {t : TypeId} {f : Nat} {q : TypeId × Nat × Nat} (hf : fieldT P t f = some q) (ad : Addr) : (Instr.fieldAt t (.pointer (some ad)) f).run P w = .ok (.pointer (some (ad.add q.2.1))) w := by
  unfold fieldT at hf
  split at hf
  · rename_i fs hu
    simp only [Option.bind_eq_some_iff] at hf
    obtain ⟨x, hx, n, hs, hf⟩ := hf
    split at hf
    · cases hf
    · rename_i h0
      cases hf
      simp [Instr.fieldAt, run_underlying hu, hx, Instr.sureAddr, fieldPlace, run_sizeOf hs, h0]
  · cases hf

theorem op_fieldAddr (H : Hyp X p w m ρ a) {t : TypeId} {x : Operand} {f : Nat} (ho : o.op = .fieldAddr t x f) (he : evalOp P rec fl ρ m o = some r) (hn : Out X p w m fl a o next Q r) : o.wp P a w next Q := by
  simp only [evalOp, ho, Option.bind_eq_some_iff] at he
  obtain ⟨q, hq, he⟩ := he
  obtain ⟨v, hv, rfl⟩ := retS_eq he
  obtain ⟨ad, hx, hr⟩ := aField_rel hv (H.ro x)
  exact op_value (w' := w) H (by simp [execOp, ho, hx, run_fieldPlace hq]) (Quiet.refl w) hr hn

/-! ### elements -/
/-- An own slice that is up to date. -/
theorem own_cur {id off size len acap ep : Nat} {u : Value} (h : VRel (cx X p w m.hp) (.own id off size len acap ep) u) {cs : List AV} (hc : m.hp[id]? = some cs) (he : cs.length = ep) :
    (∃ b z cap o, p.rh id = some (b, z) ∧ u = .slice (some ⟨b, o, none⟩) len cap ∧ (0 < cap → o = off) ∧ acap ≤ cap ∧ cap ≤ maxLen ∧ len ≤ cap ∧ off + cap * size ≤ z) ∨
      (p.rh id = none ∧ cs.length = 0 ∧ u = .slice none 0 0 ∧ len = 0 ∧ acap = 0 ∧ off = 0) := by
  obtain ⟨_, n, hn, _, h2⟩ := h
  have e := cur_len (ep := ep) hn rfl hc
  have h3 := h2 (by omega)
  rw [e] at h3
  exact h3
theorem op_indexAddr (H : Hyp X p w m ρ a) {t : TypeId} {x y : Operand} (ho : o.op = .indexAddr t x y) (he : evalOp P rec fl ρ m o = some r) (hn : Out X p w m fl a o next Q r) : o.wp P a w next Q := by
  simp only [evalOp, ho] at he
  obtain ⟨v, hv, rfl⟩ := retS_eq he
  simp only [aIndexAddr, Option.bind_eq_some_iff] at hv
  obtain ⟨iv, h1, k, h2, hv⟩ := hv
  have hi := H.val h1
  rw [intv_eq h2] at hi
  simp only [VRel] at hi
  split at hv
  · rename_i e hu
    simp only [Option.bind_eq_some_iff] at hv
    obtain ⟨n, hs, xv, hx, hv⟩ := hv
    have hxr := H.val hx
    unfold aIndexS at hv
    split at hv
    · rename_i b sz len cells
      split at hv
      · rename_i hc
        obtain ⟨rfl, hpos, hfit, h0, hlt⟩ := hc
        cases hv
        obtain ⟨A, cap, hxe, hle, hcm, hcl, hcells⟩ := hxr
        have hne : cells ≠ [] := by
          rintro rfl
          simp only [List.length_nil, Nat.le_zero, Nat.mul_eq_zero] at hfit
          omega
        obtain ⟨ad, us, rfl, hok, hr, hcell⟩ := hcells hne
        refine op_value (w' := w) (u := .pointer (some (ad.add (k.2.toNat * sz)))) H ?_ (Quiet.refl w) ?_ hn
        · simp [execOp, ho, Instr.indexAt, hi, hxe, asIntOf, run_underlying hu, run_sizeOf hs, h0, hlt]
        · refine ⟨_, us.drop (k.2.toNat * sz), rfl, fun _ => by rw [add_block]; exact hok, hr.drop _, fun j x hx => ?_⟩
          rw [add_add]
          exact hcell _ x (by simpa [List.getElem?_drop] using hx)
      · cases hv
    · rename_i id off sz len acap ep
      simp only [Option.bind_eq_some_iff] at hv
      obtain ⟨cs, hc, hv⟩ := hv
      split at hv
      · rename_i hq
        obtain ⟨hl, rfl, h0, hlt⟩ := hq
        cases hv
        rcases own_cur hxr hc hl with ⟨b, z, cap, o', hb, hxe, ho', _, _, hlc, _⟩ | ⟨_, _, _, h, _⟩
        · obtain rfl := ho' (by omega)
          refine op_value (w' := w) (u := .pointer (some ⟨b, o' + k.2.toNat * sz, none⟩)) H ?_ (Quiet.refl w) ?_ hn
          · simp [execOp, ho, Instr.indexAt, hi, hxe, asIntOf, run_underlying hu, run_sizeOf hs, h0, hlt, add_plain]
          · exact ⟨rfl, ep, by simp [cx, hc, hl], Nat.le_refl _, fun _ => ⟨b, z, hb, rfl⟩⟩
        · omega
      · cases hv
    · cases hv
  · rename_i n e hu
    simp only [Option.bind_eq_some_iff] at hv
    obtain ⟨sz, hs, hv⟩ := hv
    split at hv
    · cases hv
    · rename_i h0
      unfold aIndexA at hv
      split at hv
      · rename_i hlt
        obtain ⟨ad, hx, hr⟩ := aField_rel hv (H.ro x)
        refine op_value (w' := w) H ?_ (Quiet.refl w) hr hn
        simp [execOp, ho, Instr.indexAt, hi, hx, asIntOf, run_underlying hu, run_sizeOf hs, Instr.sureAddr, hlt.1, hlt.2]
      · cases hv
  · cases hv

/-! ### single values -/
theorem op_unOp (H : Hyp X p w m ρ a) {op : UnOp} {t : TypeId} {x : Operand} (ho : o.op = .unOp op t x) (he : evalOp P rec fl ρ m o = some r) (hn : Out X p w m fl a o next Q r) : o.wp P a w next Q := by
  simp only [evalOp, ho] at he
  obtain ⟨v, hv, rfl⟩ := ret1_eq he
  simp only [Option.bind_eq_some_iff] at hv
  obtain ⟨xv, hx, hv⟩ := hv
  have hxr := H.val hx
  unfold aUn at hv
  split at hv
  · cases hv
    simp only [VRel] at hxr
    exact op_value (v := .v (mkBool _)) (w' := w) H (by simp [execOp, ho, hxr, Op.unary]) (Quiet.refl w) rfl hn
  · cases hv
    simp only [VRel] at hxr
    exact op_value (v := .v (.sc _)) (w' := w) H (by simp [execOp, ho, hxr, Op.unary, Op.intArith]) (Quiet.refl w) rfl hn
  · simp only [Option.map_eq_some_iff] at hv
    obtain ⟨n, hb, rfl⟩ := hv
    simp only [VRel] at hxr
    simp only [aBits, Option.some.injEq] at hb
    subst hb
    exact op_value (v := .v (.sc _)) (w' := w) H (by simp [execOp, ho, hxr, Op.unary, Op.intBits]) (Quiet.refl w) rfl hn
  · cases hv
theorem op_extract (H : Hyp X p w m ρ a) {x : Operand} {i : Nat} (ho : o.op = .extract x i) (he : evalOp P rec fl ρ m o = some r) (hn : Out X p w m fl a o next Q r) : o.wp P a w next Q := by
  simp only [evalOp, ho] at he
  obtain ⟨v, hv, rfl⟩ := ret1_eq he
  simp only [Option.bind_eq_some_iff] at hv
  obtain ⟨xv, hx, hv⟩ := hv
  have hxr := H.val hx
  split at hv
  · obtain ⟨us, hu, hr⟩ := hxr
    obtain ⟨u, h1, h2⟩ := hr.get hv
    exact op_value (v := .v v) (u := u) (w' := w) H (by simp [execOp, ho, hu, Instr.extract, h1]) (Quiet.refl w) h2 hn
  · cases hv
theorem op_makeInterface (H : Hyp X p w m ρ a) {t : TypeId} {x : Operand} (ho : o.op = .makeInterface t x) (he : evalOp P rec fl ρ m o = some r) (hn : Out X p w m fl a o next Q r) : o.wp P a w next Q := by
  simp only [evalOp, ho] at he
  split at he
  · cases he
  · rename_i d hd hu
    obtain ⟨v, hv, rfl⟩ := ret1_eq he
    simp only [Option.bind_eq_some_iff] at hv
    obtain ⟨xv, hx, hv⟩ := hv
    have hxr := H.val hx
    split at hv
    · cases hv
    · cases hv
      refine op_value (v := .v (.ifc t xv)) (u := .iface t (a.eval x)) (w' := w) H ?_ (Quiet.refl w) ⟨_, rfl, hxr⟩ hn
      simp [execOp, ho, Instr.makeInterface, Sem.run_bind, run_underlying hu, Result.andThen_ok]
  · cases he
theorem op_makeFunc (H : Hyp X p w m ρ a) {f : FuncId} {fs cs : Array Operand} (ho : o.op = .makeFunc (.func f) fs cs) (he : evalOp P rec fl ρ m o = some r) (hn : Out X p w m fl a o next Q r) : o.wp P a w next Q := by
  simp only [evalOp, ho] at he
  obtain ⟨v, hv, rfl⟩ := ret1_eq he
  simp only [Option.bind_eq_some_iff, Option.map_eq_some_iff] at hv
  obtain ⟨as, h1, ks, h2, rfl⟩ := hv
  refine op_value (v := .v (.fn f as ks)) (u := .func (.func f) (fs.map a.eval) (cs.map a.eval)) (w' := w) H (by simp [execOp, ho, Instr.makeFunc]) (Quiet.refl w) ⟨fs.toList.map a.eval, cs.toList.map a.eval, ?_, H.vals h1, H.vals h2⟩ hn
  simp [← Array.toList_map]
theorem op_panic (H : Hyp X p w m ρ a) {x : Operand} (ho : o.op = .panic x) (he : evalOp P rec fl ρ m o = some r) (hn : Out X p w m fl a o next Q r) : o.wp P a w next Q := by
  simp only [evalOp, ho, Option.bind_eq_some_iff] at he
  obtain ⟨v, hv, he⟩ := he
  have hr := H.val hv
  split at he
  · cases he
    rename_i t u
    obtain ⟨y, hy, hyr⟩ := hr
    unfold Oper.wp
    rw [show (execOp a.eval o).run P w = .halt (.panic (.iface t y)) w from by simp [execOp, ho, Instr.panic, hy]]
    exact hn p w (.iface t y) (Ext.refl p w) (Cx.le.refl _) (.same fun _ h => h) H.r H.df (fun _ => rfl) ⟨y, rfl, hyr⟩
  · cases he
end
end Go.Ai
