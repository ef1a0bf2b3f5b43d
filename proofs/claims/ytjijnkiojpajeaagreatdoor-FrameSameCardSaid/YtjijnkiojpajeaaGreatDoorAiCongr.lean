/- The abstract interpreter: an operation looks at what it names alone. -/
import Derived.Test.YtjijnkiojpajeaaGreatDoorAiOpsK
set_option linter.unusedVariables false
set_option linter.unusedSimpArgs false
set_option linter.unusedSectionVars false
namespace Go.Ai
variable [Glob]
section
variable {P : Program} {rec : Rec} {fl : Option Flag} {m : Mm} {ρ ρ' : Ro}
theorem opvs_congr : ∀ {l : List Operand}, (∀ x ∈ l, ρ x = ρ' x) → opvs ρ l = opvs ρ' l
  | [], _ => rfl
  | x :: r, h => by
    simp only [opvs, opv, h x (.head _), opvs_congr fun y hy => h y (.tail _ hy)]
theorem partsOf_congr : ∀ {l : List (Nat × Operand)}, (∀ x ∈ l.map (·.2), ρ x = ρ' x) → partsOf ρ l = partsOf ρ' l
  | [], _ => rfl
  | (i, x) :: r, h => by
    simp only [partsOf, opv, h x (by simp), partsOf_congr fun y hy => h y (.tail _ hy)]
theorem opv_congr {x : Operand} (h : ρ x = ρ' x) : opv ρ x = opv ρ' x := by simp only [opv, h]
theorem callOf_congr {c : Call} (h : ∀ x ∈ c.operands.toList, ρ x = ρ' x) : callOf ρ c = callOf ρ' c := by
  unfold callOf
  cases hc : c.callee with
  | value f =>
    have h1 : ρ f = ρ' f := h f (by simp [Call.operands, hc])
    have h2 : opvs ρ c.args.toList = opvs ρ' c.args.toList := opvs_congr fun x hx => h x (by simp [Call.operands, hc]; exact .inr (by simpa using hx))
    simp only [h1, h2]
  | builtin b => rfl
  | invoke r i => rfl
theorem aBuiltin_congr {b : Builtin} {c : Call} (h : ∀ x ∈ c.args.toList, ρ x = ρ' x) : aBuiltin P ρ m b c = aBuiltin P ρ' m b c := by
  unfold aBuiltin
  generalize c.args.toList = l at h
  generalize c.argTypes.toList = ts
  cases b <;> try rfl
  all_goals rcases l with _ | ⟨x, l⟩ <;> try rfl
  case' max => simp only [opv_congr (h x (.head _)), opvs_congr fun y hy => h y (.tail _ hy)]
  case' min => simp only [opv_congr (h x (.head _)), opvs_congr fun y hy => h y (.tail _ hy)]
  all_goals have h1 := opv_congr (h x (.head _))
  all_goals rcases l with _ | ⟨y, l⟩
  all_goals try have h2 := opv_congr (h y (.tail _ (.head _)))
  all_goals try rcases l with _ | ⟨z, l⟩
  all_goals rcases ts with _ | ⟨t, _ | ⟨t', _ | ⟨t'', ts⟩⟩⟩ <;> first | rfl | simp only [h1, h2] | simp only [h1]
theorem evalOp_congr {o : Oper} (h : ∀ x ∈ o.op.operands.toList, ρ x = ρ' x) : evalOp P rec fl ρ m o = evalOp P rec fl ρ' m o := by
  unfold evalOp
  cases ho : o.op
  all_goals rw [ho] at h
  all_goals simp only [Op.operands, List.mem_cons, List.not_mem_nil, or_false, forall_eq_or_imp, forall_eq, Array.toList_append, List.mem_append, or_imp, forall_and, Option.toList_toArray] at h
  all_goals first
    | rfl
    | (simp only [opv_congr h, h]; done)
    | (simp only [opv, h.1, h.2]; done)
    | (simp only [opv, h.1, h.2.1, h.2.2]; done)
    | skip
  case build => simp only [aBuild, partsOf_congr h]
  case buildSlice => simp only [aBuildSlice, partsOf_congr h]
  case binOp => simp only [aBinOp, opv, h.1, h.2]
  case makeFunc f _ _ => cases f <;> first | rfl | simp only [opvs_congr h.1, opvs_congr h.2]
  case call c =>
    have hc : callOf ρ c = callOf ρ' c := callOf_congr h
    cases e : c.callee with
    | value f => simp only [e, hc]
    | builtin b => simp only [e]; exact aBuiltin_congr fun x hx => h x (by simp [Call.operands]; exact .inr (by simpa using hx))
    | invoke r i => simp only [e]
  case defer c =>
    have hc : callOf ρ c = callOf ρ' c := callOf_congr h
    have ha : opvs ρ c.args.toList = opvs ρ' c.args.toList := opvs_congr fun x hx => h x (by simp [Call.operands]; exact .inr (by simpa using hx))
    cases e : c.callee with
    | value f => simp only [e, hc, ha, h f (by simp [Call.operands, e])]
    | builtin b => simp only [e, hc, ha]
    | invoke r i => simp only [e, hc, ha]
  case next x s => cases s <;> first | rfl | simp only [h]
  case indexAddr => simp only [aIndexAddr, opv, h.1, h.2]
  case slice t x lo hi mx =>
    have hx := h.1.1.1
    have h1 : ∀ y, lo = some y → opv ρ y = opv ρ' y := fun y e => opv_congr (h.1.1.2 y (by simp [e]))
    have h2 : ∀ y, hi = some y → opv ρ y = opv ρ' y := fun y e => opv_congr (h.1.2 y (by simp [e]))
    have h3 : ∀ y, mx = some y → opv ρ y = opv ρ' y := fun y e => opv_congr (h.2 y (by simp [e]))
    cases lo <;> cases hi <;> cases mx <;> simp only [aSlice, opv_congr hx, hx]
    all_goals try rw [h1 _ rfl]
    all_goals try rw [h2 _ rfl]
    all_goals try rw [h3 _ rfl]
end
end Go.Ai
