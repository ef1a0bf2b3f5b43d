/- The abstract interpreter: each operation by itself, sixth part: elements and fields of values, conversions, assertions. -/
import Derived.Test.YtjijnkiojpajeaaGreatDoorAiOpsE
set_option linter.unusedVariables false
set_option linter.unusedSimpArgs false
set_option linter.unusedSectionVars false
namespace Go.Ai
variable [Glob]
section
variable {P : Program} {rec : Rec} {X : Ctl} {p : Pl} {w : World} {m : Mm} {fl : Option Flag} {ρ : Ro} {a : Act} {o : Oper} {next : Act → World → Prop} {Q : Exit → Act → World → Prop} {r : OR}

theorem run_part_rd {t : TypeId} {g : Bool} {n off : Nat} (hg : isAggT P t = some g) (hs : szT P t = some n) {c : Cx} {cs : List AV} {us : List Value} (hr : VRels c cs us) {v : AV} (h : rdCells g n cs off = some v) :
    ∃ u, (part t us.toArray off).run P w = .ok u w ∧ VRel c v u := by
  unfold rdCells at h
  cases g with
  | true =>
    simp only [if_true] at h
    split at h
    · rename_i hle
      cases h
      refine ⟨.agg ((us.drop off).take n).toArray, ?_, _, rfl, (hr.drop _).take _⟩
      have e : us.toArray.extract off (off + n) = ((us.drop off).take n).toArray := by
        apply Array.ext'
        simp [List.extract_eq_take_drop]
      simp [part, run_isAgg hg, run_sizeOf hs, e]
    · cases h
  | false =>
    simp only [Bool.false_eq_true, if_false] at h
    obtain ⟨u, h1, h2, _⟩ := hr.get h
    exact ⟨u, run_part hg h1, h2⟩
theorem op_index (H : Hyp X p w m ρ a) {t : TypeId} {x y : Operand} (ho : o.op = .index t x y) (he : evalOp P rec fl ρ m o = some r) (hn : Out X p w m fl a o next Q r) : o.wp P a w next Q := by
  simp only [evalOp, ho] at he
  obtain ⟨v, hv, rfl⟩ := ret1_eq he
  simp only [aIndex, Option.bind_eq_some_iff] at hv
  obtain ⟨xv, hx, yv, hy, k, hk, hv⟩ := hv
  have hxr := H.val hx
  have hi := H.val hy
  rw [intv_eq hk] at hi
  simp only [VRel] at hi
  split at hv
  · rename_i s hu
    split at hv
    · rename_i h0
      simp only [Option.map_eq_some_iff] at hv
      obtain ⟨b, hb, rfl⟩ := hv
      simp only [VRel] at hxr
      exact op_value (v := .v (.sc _)) (w' := w) H (by simp [execOp, ho, Instr.index, hi, hxr, asIntOf, run_underlying hu, h0, hb]) (Quiet.refl w) rfl hn
    · cases hv
  · rename_i n e cs hu
    simp only [Option.bind_eq_some_iff] at hv
    obtain ⟨sz, hs, g, hg, hv⟩ := hv
    split at hv
    · rename_i hlt
      obtain ⟨us, hux, hr⟩ := hxr
      obtain ⟨u, h1, h2⟩ := run_part_rd (P := P) (w := w) hg hs hr hv
      exact op_value (v := .v v) (u := u) (w' := w) H (by simp [execOp, ho, Instr.index, hi, hux, asIntOf, run_underlying hu, hlt.1, hlt.2, run_sizeOf hs, h1]) (Quiet.refl w) h2 hn
    · cases hv
  · cases hv
theorem op_field (H : Hyp X p w m ρ a) {t : TypeId} {x : Operand} {f : Nat} (ho : o.op = .field t x f) (he : evalOp P rec fl ρ m o = some r) (hn : Out X p w m fl a o next Q r) : o.wp P a w next Q := by
  simp only [evalOp, ho] at he
  obtain ⟨v, hv, rfl⟩ := ret1_eq he
  simp only [Option.bind_eq_some_iff] at hv
  obtain ⟨xv, hx, hv⟩ := hv
  have hxr := H.val hx
  unfold aFieldV at hv
  split at hv
  · rename_i cs
    simp only [Option.bind_eq_some_iff] at hv
    obtain ⟨q, hq, g, hg, hv⟩ := hv
    obtain ⟨us, hux, hr⟩ := hxr
    unfold fieldT at hq
    split at hq
    · rename_i fs hu
      simp only [Option.bind_eq_some_iff] at hq
      obtain ⟨fd, hf, n, hs, hq⟩ := hq
      split at hq
      · cases hq
      · cases hq
        obtain ⟨u, h1, h2⟩ := run_part_rd (P := P) (w := w) hg hs hr hv
        exact op_value (v := .v v) (u := u) (w' := w) H (by simp [execOp, ho, Instr.field, run_underlying hu, hf, hux, asAgg, h1]) (Quiet.refl w) h2 hn
    · cases hq
  · cases hv
theorem run_zeroValue {t : TypeId} {z : AV} (h : zeroT P t = some z) (c : Cx) : ∃ u, (zeroValue t).run P w = .ok u w ∧ VRel c z u := by
  simp only [zeroT, Option.bind_eq_some_iff, Option.map_eq_some_iff] at h
  obtain ⟨i, hi, u, hu, rfl⟩ := h
  exact ⟨u, by simp [zeroValue, typeInfo, hi, hu], VRel.toAV _ _⟩
theorem op_typeAssert (H : Hyp X p w m ρ a) {x : Operand} {t t' : TypeId} {ok : Bool} (ho : o.op = .typeAssert x t' t ok) (he : evalOp P rec fl ρ m o = some r) (hn : Out X p w m fl a o next Q r) : o.wp P a w next Q := by
  simp only [evalOp, ho] at he
  obtain ⟨v, hv, rfl⟩ := ret1_eq he
  simp only [Option.bind_eq_some_iff] at hv
  obtain ⟨xv, hx, hv⟩ := hv
  have hxr := H.val hx
  unfold aAssert at hv
  split at hv
  · cases hv
  · rename_i d hd hu
    split at hv
    · rename_i u v'
      obtain ⟨y, hy, hyr⟩ := hxr
      split at hv
      · rename_i e
        subst e
        cases ok with
        | true =>
          simp only [if_true, Option.some.injEq] at hv
          subst hv
          refine op_value (v := .v (.tup [v', mkBool true])) (u := .tuple #[y, .bool true]) (w' := w) H ?_ (Quiet.refl w) ⟨[y, .bool true], rfl, _, _, rfl, hyr, _, _, rfl, rfl, rfl⟩ hn
          simp only [execOp, ho, Instr.typeAssert, Sem.run_bind, run_underlying hu, Result.andThen_ok, hy]
          cases d <;> simp_all
        | false =>
          simp only [Bool.false_eq_true, if_false, Option.some.injEq] at hv
          subst hv
          refine op_value (v := .v v') (u := y) (w' := w) H ?_ (Quiet.refl w) hyr hn
          simp only [execOp, ho, Instr.typeAssert, Sem.run_bind, run_underlying hu, Result.andThen_ok, hy]
          cases d <;> simp_all
      · rename_i hne
        cases ok with
        | true =>
          simp only [if_true, Option.map_eq_some_iff] at hv
          obtain ⟨z, hz, rfl⟩ := hv
          obtain ⟨uz, h1, h2⟩ := run_zeroValue (w := w) hz (cx X p w m.hp)
          refine op_value (v := .v (.tup [z, mkBool false])) (u := .tuple #[uz, .bool false]) (w' := w) H ?_ (Quiet.refl w) ⟨[uz, .bool false], rfl, _, _, rfl, h2, _, _, rfl, rfl, rfl⟩ hn
          simp only [execOp, ho, Instr.typeAssert, Sem.run_bind, run_underlying hu, Result.andThen_ok, hy]
          cases d <;> simp_all
        | false => simp at hv
    · cases ok with
      | true =>
        simp only [if_true, Option.map_eq_some_iff] at hv
        obtain ⟨z, hz, rfl⟩ := hv
        simp only [VRel] at hxr
        obtain ⟨uz, h1, h2⟩ := run_zeroValue (w := w) hz (cx X p w m.hp)
        refine op_value (v := .v (.tup [z, mkBool false])) (u := .tuple #[uz, .bool false]) (w' := w) H ?_ (Quiet.refl w) ⟨[uz, .bool false], rfl, _, _, rfl, h2, _, _, rfl, rfl, rfl⟩ hn
        simp only [execOp, ho, Instr.typeAssert, Sem.run_bind, run_underlying hu, Result.andThen_ok, hxr]
        cases d <;> simp_all
      | false => simp at hv
    · cases hv
  · cases hv
end
end Go.Ai
