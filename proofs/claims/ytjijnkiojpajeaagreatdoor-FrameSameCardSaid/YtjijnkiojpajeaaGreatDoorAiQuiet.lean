/- The abstract interpreter: quiet operations. -/
import Derived.Test.YtjijnkiojpajeaaGreatDoorAiReg
set_option linter.unusedVariables false
set_option linter.unusedSimpArgs false
set_option linter.unusedSectionVars false
namespace Go.Ai
variable [Glob]
section
variable {P : Program} {rec : Rec} {fl : Option Flag} {ρ : Ro} {m m' : Mm} {o : Oper} {v : SV}
theorem ret1_same {x : Option AV} (h : ret1 m x = some (.val v m')) : m' = m := by
  obtain ⟨_, _, e⟩ := ret1_eq h
  cases e; rfl
theorem retS_same {x : Option SV} (h : retS m x = some (.val v m')) : m' = m := by
  obtain ⟨_, _, e⟩ := retS_eq h
  cases e; rfl
theorem newSlice_same {size len : Nat} {cs : List AV} (hf : isOwn fl = false) (h : newSlice fl m size len cs = .val v m') : m' = m := by
  unfold newSlice at h
  rw [hf] at h
  simp only [Bool.false_eq_true, if_false, OR.val.injEq] at h
  exact h.2.symm
/-- A quiet operation leaves memory as it is. -/
theorem quiet_same (hq : loud fl o = false) (h : evalOp P rec fl ρ m o = some (.val v m')) : m' = m := by
  cases ho : o.op with
  | move x =>
    simp only [evalOp, ho, aMove] at h
    simp only [loud, ho] at hq
    split at h
    · cases hq
    · cases h
    · cases h; rfl
  | assign x =>
    simp only [evalOp, ho, aMove] at h
    simp only [loud, ho] at hq
    split at h
    · cases hq
    · cases h
    · cases h; rfl
  | pick c x y =>
    simp only [evalOp, ho, Option.bind_eq_some_iff, Option.map_eq_some_iff] at h
    obtain ⟨_, _, _, _, h⟩ := h
    cases h; rfl
  | build t ps => simp only [evalOp, ho] at h; exact ret1_same h
  | buildSlice t n ps =>
    simp only [evalOp, ho, aBuildSlice, Option.bind_eq_some_iff] at h
    simp only [loud, ho] at hq
    obtain ⟨_, _, _, _, _, _, _, _, h⟩ := h
    split at h
    · simp only [Option.bind_eq_some_iff, Option.map_eq_some_iff] at h
      obtain ⟨_, _, _, _, h⟩ := h
      exact newSlice_same hq h
    · cases h
  | load t x =>
    simp only [evalOp, ho, Option.bind_eq_some_iff] at h
    obtain ⟨_, _, _, _, h⟩ := h
    exact ret1_same h
  | nilCheck x => simp only [evalOp, ho] at h; exact retS_same h
  | binOp op t x y t' => simp only [evalOp, ho] at h; exact ret1_same h
  | unOp op t x => simp only [evalOp, ho] at h; exact ret1_same h
  | convert t t' x =>
    simp only [evalOp, ho, Option.bind_eq_some_iff] at h
    simp only [loud, ho] at hq
    obtain ⟨_, _, h⟩ := h
    unfold aConvert at h
    split at h
    · cases h; rfl
    · cases h; rfl
    · cases h; rfl
    · split at h
      · split at h
        · cases h
        · rw [hq] at h
          cases h; rfl
      · cases h
    · split at h
      · split at h
        · cases h; rfl
        · cases h
      · cases h
    · split at h
      · simp only [Option.bind_eq_some_iff, Option.map_eq_some_iff] at h
        obtain ⟨_, _, _, _, h⟩ := h
        cases h; rfl
      · cases h
    · cases h
  | makeInterface t x =>
    simp only [evalOp, ho] at h
    split at h
    · cases h
    · exact ret1_same h
    · cases h
  | makeFunc f fs cs =>
    cases f with
    | func f => simp only [evalOp, ho] at h; exact ret1_same h
    | _ => simp [evalOp, ho] at h
  | slice t x lo hi mx => simp only [evalOp, ho] at h; exact ret1_same h
  | fieldAddr t x f =>
    simp only [evalOp, ho, Option.bind_eq_some_iff] at h
    obtain ⟨_, _, h⟩ := h
    exact retS_same h
  | field t x f => simp only [evalOp, ho] at h; exact ret1_same h
  | indexAddr t x i => simp only [evalOp, ho] at h; exact retS_same h
  | index t x i => simp only [evalOp, ho] at h; exact ret1_same h
  | typeAssert x u t ok => simp only [evalOp, ho] at h; exact ret1_same h
  | extract x i => simp only [evalOp, ho] at h; exact ret1_same h
  | call c =>
    simp only [evalOp, ho] at h
    simp only [loud, ho] at hq
    split at h
    · rename_i b hcal
      rw [hcal] at hq
      unfold aBuiltin at h
      split at h
      · split at h
        · exact ret1_same h
        · exact ret1_same h
        · exact ret1_same h
        · split at h
          · exact ret1_same h
          · cases h
        · cases h
      · cases hq
      · cases hq
      · cases hq
      · exact ret1_same h
      · exact ret1_same h
      · cases h
    · rename_i f hcal
      rw [hcal] at hq
      simp only [Option.bind_eq_some_iff] at h
      obtain ⟨_, _, h⟩ := h
      unfold doCall at h
      change isHeap fl = false at hq
      rw [hq] at h
      simp only [Bool.false_eq_true, if_false, Option.bind_eq_some_iff] at h
      obtain ⟨_, _, _, _, h⟩ := h
      split at h
      · simp only [Option.map_eq_some_iff] at h
        obtain ⟨_, _, h⟩ := h
        cases h; rfl
      · simp only [Option.map_eq_some_iff] at h
        obtain ⟨_, _, h⟩ := h
        cases h
      · cases h
    · cases h
  | alloc t => simp [loud, ho] at hq
  | box t x => simp [loud, ho] at hq
  | store t x y => simp [loud, ho] at hq
  | makeSlice t x y => simp [loud, ho] at hq
  | range t x => simp [loud, ho] at hq
  | next x s => simp [loud, ho] at hq
  | defer c => simp [loud, ho] at hq
  | panic x => simp [loud, ho] at hq
  | _ => simp [evalOp, ho] at h

/-! ### the numbers of 'before' -/
theorem one_bit {acc : Nat → Nat} {es : List Edge} {s i : Nat} (h : (es.foldl (fun s e => if Region.binds .any e then s ||| 2 ^ e.on ||| acc e.on else s) s).testBit i = true) :
    s.testBit i = true ∨ ∃ e ∈ es, Region.binds .any e = true ∧ (e.on = i ∨ (acc e.on).testBit i = true) := by
  induction es generalizing s with
  | nil => exact .inl h
  | cons e es ih =>
    simp only [List.foldl_cons] at h
    rcases ih h with h | ⟨e', h1, h2⟩
    · split at h
      · rename_i hb
        simp only [Nat.testBit_or, Bool.or_eq_true] at h
        rcases h with (h | h) | h
        · exact .inl h
        · rw [Nat.testBit_two_pow] at h
          exact .inr ⟨e, .head _, hb, .inl (of_decide_eq_true h)⟩
        · exact .inr ⟨e, .head _, hb, .inr h⟩
      · exact .inl h
    · exact .inr ⟨e', .tail _ h1, h2⟩
theorem before_aux : ∀ (l : List Oper) (A : Array Nat), (∀ k, k < A.size → (l.foldl (fun acc o => acc.push (o.after.foldl (fun s e => if Region.binds .any e then s ||| 2 ^ e.on ||| acc.getD e.on 0 else s) 0)) A).getD k 0 = A.getD k 0) ∧
    ∀ k o, l[k]? = some o → ∀ i, ((l.foldl (fun acc o => acc.push (o.after.foldl (fun s e => if Region.binds .any e then s ||| 2 ^ e.on ||| acc.getD e.on 0 else s) 0)) A).getD (A.size + k) 0).testBit i = true →
      ∃ e ∈ o.after.toList, Region.binds .any e = true ∧ (e.on = i ∨ (e.on < A.size + k ∧ ((l.foldl (fun acc o => acc.push (o.after.foldl (fun s e => if Region.binds .any e then s ||| 2 ^ e.on ||| acc.getD e.on 0 else s) 0)) A).getD e.on 0).testBit i = true))
  | [], A => ⟨fun _ _ => rfl, fun k o h => by simp at h⟩
  | o :: r, A => by
    simp only [List.foldl_cons]
    generalize hv : o.after.foldl (fun s e => if Region.binds .any e then s ||| 2 ^ e.on ||| A.getD e.on 0 else s) 0 = v
    obtain ⟨h1, h2⟩ := before_aux r (A.push v)
    have hlow : ∀ k, k < A.size → (A.push v).getD k 0 = A.getD k 0 := fun k hk => by simp [Array.getD_eq_getD_getElem?, Array.getElem?_push]; rw [if_neg (by omega)]
    refine ⟨fun k hk => ?_, fun k o' ho i hi => ?_⟩
    · rw [h1 k (by simp; omega), hlow k hk]
    · cases k with
      | zero =>
        simp only [List.getElem?_cons_zero, Option.some.injEq] at ho
        subst ho
        rw [Nat.add_zero, h1 A.size (by simp)] at hi
        have e0 : (A.push v).getD A.size 0 = v := by simp [Array.getD_eq_getD_getElem?]
        rw [e0, ← hv, ← Array.foldl_toList] at hi
        rcases one_bit (acc := fun k => A.getD k 0) hi with h | ⟨e, g1, g2, g3⟩
        · simp at h
        · refine ⟨e, g1, g2, g3.imp id fun h => ?_⟩
          have hlt : e.on < A.size := by
            rcases Nat.lt_or_ge e.on A.size with h' | h'
            · exact h'
            · rw [show A.getD e.on 0 = 0 from by simp [Array.getD_eq_getD_getElem?, Array.getElem?_eq_none h']] at h
              simp at h
          exact ⟨by omega, by rw [h1 e.on (by simp; omega), hlow _ hlt]; exact h⟩
      | succ k =>
        simp only [List.getElem?_cons_succ] at ho
        have := h2 k o' ho i (by simpa [Nat.add_assoc, Nat.add_comm 1 k] using hi)
        obtain ⟨e, g1, g2, g3⟩ := this
        refine ⟨e, g1, g2, g3.imp id fun h => ⟨?_, h.2⟩⟩
        have := h.1
        simp at this
        omega
/-- What is behind what: an edge, or an edge to something behind it. -/
theorem before_spec {ops : Array Oper} {j i : Nat} {o : Oper} (ho : ops[j]? = some o) (h : behind (Region.before ops) j i = true) :
    ∃ e ∈ o.after.toList, Region.binds .any e = true ∧ (e.on = i ∨ (e.on < j ∧ behind (Region.before ops) e.on i = true)) := by
  have := (before_aux ops.toList #[]).2 j o (by simpa using ho) i
  unfold behind Region.before at *
  rw [← Array.foldl_toList] at h ⊢
  simp only [Array.size_empty, Nat.zero_add] at this
  exact this h
end
end Go.Ai
