/- The abstract interpreter: its answers, all together. -/
import Derived.Test.YtjijnkiojpajeaaGreatDoorAiMono
set_option linter.unusedVariables false
set_option linter.unusedSectionVars false
namespace Go.Ai
variable [Glob]
section
variable (P : Program) (A : FuncId → FAnn)
/-- The answers that follow from answers. -/
inductive Ans : Task → TR → Prop
  | mk (rec : Rec) (t : Task) (r : TR) (h : ∀ t r, rec t = some r → Ans t r) (he : step P A rec t = some r) : Ans t r
open Classical in
noncomputable def arun (t : Task) : Option TR := if h : ∃ r, Ans P A t r then some h.choose else none
end
section
variable {P : Program} {A : FuncId → FAnn}
theorem Ans.one {t : Task} {r : TR} (h : Ans P A t r) : ∀ r', Ans P A t r' → r = r' := by
  induction h with
  | mk rec t r h he ih =>
    intro r' h'
    cases h' with
    | mk rec2 _ _ h2 he2 =>
      let rec3 : Rec := fun t => match rec t with | some r => some r | none => rec2 t
      have k1 : Knows rec rec3 := fun t r e => by simp only [rec3, e]
      have k2 : Knows rec2 rec3 := fun t r e => by
        cases e1 : rec t with
        | none => simp only [rec3, e1, e]
        | some r1 => simp only [rec3, e1, ih t r1 e1 r (h2 t r e)]
      have e1 := step_mono k1 _ _ he
      have e2 := step_mono k2 _ _ he2
      rw [e1] at e2
      exact Option.some.inj e2
theorem arun_some {t : Task} {r : TR} : arun P A t = some r ↔ Ans P A t r := by
  unfold arun
  constructor
  · intro h
    split at h
    · rename_i hex
      cases h
      exact hex.choose_spec
    · cases h
  · intro h
    have hex : ∃ r, Ans P A t r := ⟨r, h⟩
    rw [dif_pos hex, h.one _ hex.choose_spec]
theorem arun_step (t : Task) : arun P A t = step P A (arun P A) t := by
  apply Option.ext
  intro r
  constructor
  · intro h
    cases arun_some.1 h with
    | mk rec _ _ h he => exact step_mono (fun t r e => arun_some.2 (h t r e)) _ _ he
  · intro h
    exact arun_some.2 (.mk _ t r (fun t r e => arun_some.1 e) h)
theorem arun_rec2 (fit : Fit P) : Rec2 P (arun P A) := by
  have key : ∀ t r, Ans P A t r → (∀ K args h cr h', t = .call K args h → r = .call cr h' → Plain P K ∧ CallOk P K args h cr h') ∧ ∀ K c s ex s', t = .loop K c s → r = .loop ex s' → LoopOk P c s ex s' := by
    intro t r h
    induction h with
    | mk rec t r h he ih =>
      have h2 : Rec2 P rec := ⟨fun K args h cr h' e => (ih _ _ e).1 K args h cr h' rfl rfl, fun K c s ex s' e => (ih _ _ e).2 K c s ex s' rfl rfl⟩
      have h3 := rec2_step (A := A) fit h2
      refine ⟨?_, ?_⟩
      · rintro K args hp cr h' rfl rfl
        exact h3.call K args hp cr h' he
      · rintro K c s ex s' rfl rfl
        exact h3.loop K c s ex s' he
  exact ⟨fun K args h cr h' e => (key _ _ (arun_some.1 e)).1 K args h cr h' rfl rfl, fun K c s ex s' e => (key _ _ (arun_some.1 e)).2 K c s ex s' rfl rfl⟩
end
end Go.Ai
