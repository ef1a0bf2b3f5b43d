/- The abstract interpreter: who knows more answers as much. -/
import Derived.Test.YtjijnkiojpajeaaGreatDoorAiStep
set_option linter.unusedVariables false
set_option linter.unusedSimpArgs false
set_option linter.unusedSectionVars false
namespace Go.Ai
variable [Glob]
section
variable {P : Program} {A : FuncId → FAnn} {rec rec' : Rec}
def Knows (rec rec' : Rec) : Prop := ∀ t r, rec t = some r → rec' t = some r
theorem doCall_mono (h : Knows rec rec') {sh : Bool} {m : Mm} {K : FuncId} {args : List AV} {r : OR} (he : doCall rec sh m K args = some r) : doCall rec' sh m K args = some r := by
  unfold doCall at *
  split
  · rename_i e
    rw [if_pos e] at he
    simp only [Option.bind_eq_some_iff] at he ⊢
    obtain ⟨t, h1, h2⟩ := he
    exact ⟨t, h _ _ h1, h2⟩
  · rename_i e
    rw [if_neg e] at he
    simp only [Option.bind_eq_some_iff] at he ⊢
    obtain ⟨as, h0, t, h1, h2⟩ := he
    exact ⟨as, h0, t, h _ _ h1, h2⟩
theorem evalOp_mono (h : Knows rec rec') {fl : Option Flag} {ρ : Ro} {m : Mm} {o : Oper} {r : OR} (he : evalOp P rec fl ρ m o = some r) : evalOp P rec' fl ρ m o = some r := by
  cases ho : o.op with
  | call c =>
    simp only [evalOp, ho] at he ⊢
    cases hc : c.callee with
    | value f =>
      simp only [hc, Option.bind_eq_some_iff] at he ⊢
      obtain ⟨q, h1, h2⟩ := he
      exact ⟨q, h1, doCall_mono h h2⟩
    | builtin b => simp only [hc] at he ⊢; exact he
    | invoke a i => simp only [hc] at he; cases he
  | makeFunc f fs cs => cases f <;> (simp only [evalOp, ho] at he ⊢; exact he)
  | next x s => cases s <;> (simp only [evalOp, ho] at he ⊢; exact he)
  | _ => simp only [evalOp, ho] at he ⊢; exact he
theorem evalOps_mono (h : Knows rec rec') {fls : List (Nat × Flag)} {ops : Array Oper} {r : Ex × Env × Mm} : ∀ {l : List (Oper × Nat)} {e : Env} {m : Mm}, evalOps P rec fls ops l e m = some r → evalOps P rec' fls ops l e m = some r
  | [], e, m, he => he
  | (o, i) :: l, e, m, he => by
    simp only [evalOps, Option.bind_eq_some_iff] at he ⊢
    obtain ⟨b, hb, he⟩ := he
    refine ⟨b, hb, ?_⟩
    cases b with
    | false => exact evalOps_mono h he
    | true =>
      simp only [Option.bind_eq_some_iff] at he ⊢
      obtain ⟨x, hx, he⟩ := he
      refine ⟨x, evalOp_mono h hx, ?_⟩
      cases x with
      | val v m' => exact evalOps_mono h he
      | pan v m' => exact he
theorem evalQ_mono (h : Knows rec rec') {fls : List (Nat × Flag)} {made : Made} {ρ : Ro} {m : Mm} {o : Oper} {i : Nat} {r : OR} (he : evalQ P rec fls made ρ m o i = some r) : evalQ P rec' fls made ρ m o i = some r := by
  unfold evalQ at *
  split
  · rename_i p cs hm
    rw [hm] at he
    exact he
  · rename_i hm
    rw [hm] at he
    exact evalOp_mono h he
theorem valQ_mono (h : Knows rec rec') {fls : List (Nat × Flag)} {made : Made} {ρ : Ro} {m : Mm} {o : Oper} {i : Nat} {v : SV} (he : valQ (evalQ P rec fls made ρ m o i) = some v) : valQ (evalQ P rec' fls made ρ m o i) = some v := by
  obtain ⟨m', h1⟩ := valQ_eq he
  rw [evalQ_mono h h1]; rfl
theorem agree_intro {β : Type} {x : Option SV} {v : SV} {r : Option β} (h : x = some v) : agree x v r = r := by
  subst h
  simp only [agree, if_true]
theorem back_mono (h : Knows rec rec') {β : Type} {fls : List (Nat × Flag)} {made : Made} {bs : Array Nat} {q : QRec} {r r' : Option β} {y : β} (hr : r = some y → r' = some y) : ∀ {hist : List (Nat × Mm)}, back P rec fls made bs q hist r = some y → back P rec' fls made bs q hist r' = some y
  | [], he => hr he
  | (j, m) :: hist, he => by
    simp only [back] at he ⊢
    split
    · rename_i hb
      rw [if_pos hb] at he
      exact back_mono h hr he
    · rename_i hb
      rw [if_neg hb] at he
      obtain ⟨h1, h2⟩ := agree_spec he
      rw [agree_intro (valQ_mono h h1)]
      exact back_mono h hr h2
theorem ahead_mono (h : Knows rec rec') {β : Type} {fls : List (Nat × Flag)} {made : Made} {bs : Array Nat} {j : Nat} {m : Mm} {r r' : Option β} {y : β} (hr : r = some y → r' = some y) : ∀ {qs : List QRec}, ahead P rec fls made bs j m qs r = some y → ahead P rec' fls made bs j m qs r' = some y
  | [], he => hr he
  | q :: qs, he => by
    simp only [ahead] at he ⊢
    split
    · rename_i hb
      rw [if_pos hb] at he
      exact ahead_mono h hr he
    · rename_i hb
      rw [if_neg hb] at he
      obtain ⟨h1, h2⟩ := agree_spec he
      rw [agree_intro (valQ_mono h h1)]
      exact ahead_mono h hr h2
theorem rest_mono (h : Knows rec rec') {fls : List (Nat × Flag)} {made : Made} {ops : Array Oper} {bs : Array Nat} {j : Nat} {hist : List (Nat × Mm)} : ∀ {l : List (Oper × Nat)} {e : Env} {m : Mm} {u : Unit}, rest P rec fls made ops bs j hist l e m = some u → rest P rec' fls made ops bs j hist l e m = some u
  | [], e, m, u, he => he
  | (o, i) :: l, e, m, u, he => by
    simp only [rest] at he ⊢
    split
    · rename_i hb
      rw [if_pos hb] at he
      exact rest_mono h he
    · rename_i hb
      rw [if_neg hb] at he
      split
      · rename_i hl
        rw [if_pos hl] at he; cases he
      · rename_i hl
        rw [if_neg hl] at he
        simp only [Option.bind_eq_some_iff] at he ⊢
        obtain ⟨b, hb, he⟩ := he
        refine ⟨b, hb, ?_⟩
        cases b with
        | false => exact rest_mono h he
        | true =>
          simp only at he ⊢
          split at he
          · rename_i v m' hq
            rw [evalQ_mono h hq]
            exact back_mono h (fun he => rest_mono h he) he
          · cases he
theorem evalD_mono (h : Knows rec rec') {fls : List (Nat × Flag)} {made : Made} {ops : Array Oper} {bs : Array Nat} {r : Ex × Env × Mm} : ∀ {l : List (Oper × Nat)} {e : Env} {m : Mm} {hist : List (Nat × Mm)} {qs : List QRec}, evalD P rec fls made ops bs l e m hist qs = some r → evalD P rec' fls made ops bs l e m hist qs = some r
  | [], e, m, hist, qs, he => he
  | (o, i) :: l, e, m, hist, qs, he => by
    simp only [evalD, Option.bind_eq_some_iff] at he ⊢
    obtain ⟨b, hb, he⟩ := he
    refine ⟨b, hb, ?_⟩
    cases b with
    | false => exact evalD_mono h he
    | true =>
      simp only at he ⊢
      split at he
      · cases he
      · rename_i v m' hq
        rw [evalQ_mono h hq]
        simp only
        split at he
        · rename_i hall
          rw [if_pos hall]
          simp only [Option.map_eq_some_iff] at he ⊢
          obtain ⟨u, h1, h2⟩ := he
          exact ⟨u, rest_mono h h1, h2⟩
        · cases he
      · rename_i v m' hq
        rw [evalQ_mono h hq]
        simp only
        split at he
        · rename_i hl
          rw [if_pos hl]
          exact ahead_mono h (fun he => evalD_mono h he) he
        · rename_i hl
          rw [if_neg hl]
          exact back_mono h (fun he => evalD_mono h he) he
theorem evalDraw_mono (h : Knows rec rec') {fls : List (Nat × Flag)} {ops : Array Oper} {e : Env} {m : Mm} {r : Ex × Env × Mm} (he : evalDraw P rec fls ops e m = some r) : evalDraw P rec' fls ops e m = some r := by
  unfold evalDraw at *
  simp only [Option.bind_eq_some_iff] at he ⊢
  obtain ⟨x, h1, h2⟩ := he
  refine ⟨x, h1, ?_⟩
  split at h2
  · rename_i hok
    rw [if_pos hok]
    exact evalD_mono h h2
  · cases h2
theorem evalCode_mono (h : Knows rec rec') {K : FuncId} {r : Ex × Env × Mm} : ∀ {c : Code} {e : Env} {m : Mm}, evalCode P A rec K c e m = some r → evalCode P A rec' K c e m = some r := by
  intro c
  induction c generalizing r with
  | region id ops draw =>
    intro e m he
    simp only [evalCode, Option.map_eq_some_iff] at he ⊢
    obtain ⟨x, h1, h2⟩ := he
    refine ⟨x, ?_, h2⟩
    cases draw with
    | true => simp only [if_true] at h1 ⊢; exact evalDraw_mono h h1
    | false => simp only [Bool.false_eq_true, if_false] at h1 ⊢; exact evalOps_mono h h1
  | seq x y ihx ihy =>
    intro e m he
    simp only [evalCode, Option.bind_eq_some_iff] at he ⊢
    obtain ⟨⟨ex, e1, m1⟩, h1, h2⟩ := he
    refine ⟨_, ihx h1, ?_⟩
    cases ex with
    | normal => exact ihy h2
    | _ => exact h2
  | cond c x y ihx ihy =>
    intro e m he
    simp only [evalCode, Option.bind_eq_some_iff] at he ⊢
    obtain ⟨v, h1, t, h2, h3⟩ := he
    refine ⟨v, h1, t, h2, ?_⟩
    cases t with
    | true => exact ihx h3
    | false => exact ihy h3
  | block id c ih =>
    intro e m he
    simp only [evalCode, Option.map_eq_some_iff] at he ⊢
    obtain ⟨x, h1, h2⟩ := he
    exact ⟨x, ih h1, h2⟩
  | scope c ih =>
    intro e m he
    simp only [evalCode] at he ⊢
    exact ih he
  | loop c ih =>
    intro e m he
    simp only [evalCode, Option.bind_eq_some_iff] at he ⊢
    obtain ⟨x, h1, h2⟩ := he
    exact ⟨x, h _ _ h1, h2⟩
  | _ => intro e m he; simpa only [evalCode] using he
theorem evalOpsS_mono (h : Knows rec rec') {fls : List (Nat × Flag)} {ops : Array Oper} {r : Ex × Env × Mm × Mode} : ∀ {l : List (Oper × Nat)} {e : Env} {m : Mm} {u : Mode}, evalOpsS P rec fls ops l e m u = some r → evalOpsS P rec' fls ops l e m u = some r
  | [], e, m, u, he => he
  | (o, i) :: l, e, m, u, he => by
    simp only [evalOpsS, Option.bind_eq_some_iff] at he ⊢
    obtain ⟨b, hb, he⟩ := he
    refine ⟨b, hb, ?_⟩
    cases b with
    | false => exact evalOpsS_mono h he
    | true =>
      simp only at he ⊢
      split at he
      · rename_i hr
        rw [if_pos hr]
        split at he
        · exact evalOpsS_mono h he
        · exact evalOpsS_mono h he
      · rename_i hr
        rw [if_neg hr]
        simp only [Option.bind_eq_some_iff] at he ⊢
        obtain ⟨x, hx, he⟩ := he
        refine ⟨x, evalOp_mono h hx, ?_⟩
        cases x with
        | val v m' => exact evalOpsS_mono h he
        | pan v m' => exact he
theorem evalCodeS_mono (h : Knows rec rec') {K : FuncId} {r : Ex × Env × Mm × Mode} : ∀ {c : Code} {e : Env} {m : Mm} {u : Mode}, evalCodeS P A rec K c e m u = some r → evalCodeS P A rec' K c e m u = some r := by
  have oth : ∀ {c : Code} {e : Env} {m : Mm} {u : Mode} {r : Ex × Env × Mm × Mode}, ((evalCode P A rec K c e m).map fun r => (r.1, r.2.1, r.2.2, u)) = some r → ((evalCode P A rec' K c e m).map fun r => (r.1, r.2.1, r.2.2, u)) = some r := by
    intro c e m u r he
    simp only [Option.map_eq_some_iff] at he ⊢
    obtain ⟨x, h1, h2⟩ := he
    exact ⟨x, evalCode_mono h h1, h2⟩
  intro c
  induction c generalizing r with
  | region id ops draw =>
    intro e m u he
    cases draw with
    | true => simp only [evalCodeS] at he ⊢; exact oth he
    | false =>
      simp only [evalCodeS, Option.map_eq_some_iff] at he ⊢
      obtain ⟨x, h1, h2⟩ := he
      exact ⟨x, evalOpsS_mono h h1, h2⟩
  | seq x y ihx ihy =>
    intro e m u he
    simp only [evalCodeS, Option.bind_eq_some_iff] at he ⊢
    obtain ⟨⟨ex, e1, m1, u1⟩, h1, h2⟩ := he
    refine ⟨_, ihx h1, ?_⟩
    cases ex with
    | normal => exact ihy h2
    | _ => exact h2
  | cond c x y ihx ihy =>
    intro e m u he
    simp only [evalCodeS, Option.bind_eq_some_iff] at he ⊢
    obtain ⟨v, h1, t, h2, h3⟩ := he
    refine ⟨v, h1, t, h2, ?_⟩
    cases t with
    | true => exact ihx h3
    | false => exact ihy h3
  | _ => intro e m u he; simp only [evalCodeS] at he ⊢; exact oth he
theorem runDefers_mono (h : Knows rec rec') {r : Heap × Mode} : ∀ {l : List AV} {hp : Heap} {u : Mode}, runDefers P A rec l hp u = some r → runDefers P A rec' l hp u = some r
  | [], hp, u, he => he
  | .fn K args captured :: l, hp, u, he => by
    simp only [runDefers, Option.bind_eq_some_iff] at he ⊢
    obtain ⟨fn, h1, c, h2, he⟩ := he
    refine ⟨fn, h1, c, h2, ?_⟩
    split
    · rename_i hn
      rw [if_pos hn] at he; cases he
    · rename_i hn
      rw [if_neg hn] at he
      simp only [Option.bind_eq_some_iff] at he ⊢
      obtain ⟨x, h3, h4⟩ := he
      refine ⟨x, evalCodeS_mono h h3, ?_⟩
      split at h4
      · exact runDefers_mono h h4
      · exact runDefers_mono h h4
      · cases h4
  | .sc _ :: _, _, _, he | .agg _ :: _, _, _, he | .tup _ :: _, _, _, he | .ifc _ _ :: _, _, _, he | .nils :: _, _, _, he | .snap _ _ _ _ :: _, _, _, he | .own _ _ _ _ _ _ :: _, _, _, he | .ptr _ _ _ :: _, _, _, he | .sp _ _ :: _, _, _, he | .junk :: _, _, _, he => by simp [runDefers] at he
theorem step_mono (h : Knows rec rec') : Knows (step P A rec) (step P A rec') := by
  intro t r he
  cases t with
  | call K args hp =>
    simp only [step, Option.bind_eq_some_iff] at he ⊢
    obtain ⟨fn, h1, c, h2, he⟩ := he
    refine ⟨fn, h1, c, h2, ?_⟩
    split
    · rename_i hn
      rw [if_pos hn] at he; cases he
    · rename_i hn
      rw [if_neg hn] at he
      simp only [Option.bind_eq_some_iff] at he ⊢
      obtain ⟨x, h3, h4⟩ := he
      refine ⟨x, evalCode_mono h h3, ?_⟩
      unfold finish at h4 ⊢
      simp only [Option.bind_eq_some_iff] at h4 ⊢
      obtain ⟨u, h5, y, h6, h7⟩ := h4
      exact ⟨u, h5, y, runDefers_mono h h6, h7⟩
  | loop K c s =>
    simp only [step, Option.bind_eq_some_iff] at he ⊢
    obtain ⟨⟨ex, e1, m1⟩, h1, h2⟩ := he
    refine ⟨_, evalCode_mono h h1, ?_⟩
    cases ex with
    | normal => exact h _ _ h2
    | _ => exact h2
end
end Go.Ai
