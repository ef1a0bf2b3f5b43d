/- The abstract interpreter: functions, and those that are deferred. -/
import Derived.Test.YtjijnkiojpajeaaGreatDoorAiCode
import Derived.Recover
set_option linter.unusedVariables false
set_option linter.unusedSimpArgs false
set_option linter.unusedSectionVars false
namespace Go.Ai
variable [Glob]
def UM (c : Cx) : Mode → FrameMode → Prop
  | none, f => f = .returning
  | some (v, b), f => ∃ x, f = .panicking [{ v := x, recovered := b }] ∧ VRel c v x
theorem UM.mono {c c' : Cx} (h : c.le c') : ∀ {u : Mode} {f : FrameMode}, UM c u f → UM c' u f
  | none, _, k => k
  | some (_, _), _, ⟨x, e, r⟩ => ⟨x, e, r.mono h _ _⟩
theorem UM.settled {c : Cx} : ∀ {u : Mode} {f : FrameMode}, UM c u f → UM c (Ai.settled u) (settle f)
  | none, _, k => by cases k; rfl
  | some (v, true), _, ⟨x, e, r⟩ => by subst e; rfl
  | some (v, false), _, ⟨x, e, r⟩ => by subst e; exact ⟨x, rfl, r⟩
def PostS (Q : Exit → Act → List Frame → World → Prop) (X : Ctl) (p : Pl) (w : World) (hp : Heap) (ex : Ex) (e' : Env) (m' : Mm) (u' : Mode) (n : Nat) (c0 : Frame) (cs0 : List Frame) : Prop :=
  ∀ p' w' a' x f, Ext p w p' w' → (cx X p w hp).le (cx X p' w' m'.hp) → Kept (cx X p w hp) (cx X p' w' m'.hp) → SOk X p' w' m' e' n a' → ExRel (cx X p' w' m'.hp) ex x → UM (cx X p' w' m'.hp) u' f → Q x a' ({ c0 with mode := f } :: cs0) w'
section
variable {P : Program} {A : FuncId → FAnn} {rec : Rec} {X : Ctl} {p p1 : Pl} {w w1 : World} {m : Mm} {e : Env} {n : Nat} {a : Act} {c0 : Frame} {cs0 : List Frame} {Q : Exit → Act → List Frame → World → Prop}
theorem PostS.step {hp hp1 : Heap} {ex : Ex} {e' : Env} {m' : Mm} {u' : Mode} (h : PostS Q X p w hp ex e' m' u' n c0 cs0) (he : Ext p w p1 w1) (hle : (cx X p w hp).le (cx X p1 w1 hp1)) (hk : Kept (cx X p w hp) (cx X p1 w1 hp1)) : PostS Q X p1 w1 hp1 ex e' m' u' n c0 cs0 :=
  fun p' w' a' x f h1 h2 h3 h4 h5 h6 => h p' w' a' x f (he.trans h1) (hle.trans h2) (hk.trans hle h2 h3) h4 h5 h6
theorem isRecover_eq {op : Op} (h : isRecover op = true) : ∃ c, op = .call c ∧ c.callee = .builtin .recover ∧ c.args = #[] := by
  unfold isRecover at h
  split at h
  · rename_i c
    split at h
    · rename_i hc
      exact ⟨c, rfl, hc, by simpa using h⟩
    · cases h
  · cases h
theorem evalOpsS_sound (hrec : RecOk P rec) {fls : List (Nat × Flag)} {ops : Array Oper} (hd : ∀ (i : Nat) (o : Oper), ops[i]? = some o → ∀ d, o.dst = some d → d < n) {ex : Ex} {e' : Env} {m' : Mm} {u' : Mode} :
    ∀ (l : List (Oper × Nat)) (e : Env) (m : Mm) (u : Mode) (p : Pl) (w : World) (a : Act) (f : FrameMode), (∀ q ∈ l, ops[q.2]? = some q.1) → SOk X p w m e n a → UM (cx X p w m.hp) u f → evalOpsS P rec fls ops l e m u = some (ex, e', m', u') → PostS Q X p w m.hp ex e' m' u' n c0 cs0 →
      wpOpsS P ops Q (l.map (·.2)) a ({ c0 with mode := f } :: cs0) w
  | [], e, m, u, p, w, a, f, _, h, hu, he, hp => by
    simp only [evalOpsS, Option.some.injEq, Prod.mk.injEq] at he
    obtain ⟨rfl, rfl, rfl, rfl⟩ := he
    exact hp p w a .normal f (Ext.refl p w) (Cx.le.refl _) (.same fun _ h => h) h rfl hu
  | (o, i) :: r, e, m, u, p, w, a, f, hl, h, hu, he, hp => by
    have ho : ops[i]? = some o := hl (o, i) (.head _)
    have hr : ∀ q ∈ r, ops[q.2]? = some q.1 := fun q hq => hl q (.tail _ hq)
    simp only [List.map_cons, wpOpsS, ho]
    simp only [evalOpsS, Option.bind_eq_some_iff] at he
    obtain ⟨b, hb, he⟩ := he
    rw [awanted_sound h.en hb]
    have put : ∀ (v : SV) (x : Value), SRelV (cx X p w m.hp) p v x → SOk X p w m (eput e o.dst v) n (a.put o.dst x) := fun v x hv => by
      refine ⟨h.r, h.lt, ERel.put (ds := a.defers) h.en hv (hd i o ho), ?_⟩
      have := h.df
      cases o.dst <;> exact this
    cases b with
    | false =>
      simp only [Bool.false_eq_true, if_false]
      simp only at he
      exact evalOpsS_sound hrec hd r (eput e o.dst (.v (.tup []))) m u p w _ f hr (put (.v (.tup [])) undef ⟨[], rfl, rfl⟩) hu he hp
    | true =>
      simp only [if_true]
      simp only at he
      split at he
      · rename_i hop
        obtain ⟨c, hop, hcal, hargs⟩ := isRecover_eq hop
        have hrun : (execOp a.eval o).run P w = .ok .recover w := by
          simp [execOp, hop, resolve, hcal, hargs, invoke, builtin]
        rw [hrun]
        simp only
        split at he
        · rename_i v
          obtain ⟨x, rfl, hv⟩ := hu
          simp only [recoverD]
          exact evalOpsS_sound hrec hd r (eput e o.dst (.v v)) m (some (v, true)) p w _ (.panicking [{ v := x, recovered := true }]) hr (put (.v v) x hv) ⟨x, rfl, hv⟩ he hp
        · rename_i hne
          have hrd : recoverD ({ c0 with mode := f } :: cs0) = none := by
            cases u with
            | none => cases hu; rfl
            | some q =>
              obtain ⟨v, b⟩ := q
              cases b with
              | true => obtain ⟨x, rfl, _⟩ := hu; rfl
              | false => exact absurd rfl (hne v)
          rw [hrd]
          exact evalOpsS_sound hrec hd r (eput e o.dst (.v (.sc .nilIface))) m u p w _ f hr (put (.v (.sc .nilIface)) .nilIface rfl) hu he hp
      · simp only [Option.bind_eq_some_iff] at he
        obtain ⟨x, hx, he⟩ := he
        have key : o.wp P a w (fun a' w' => wpOpsS P ops Q (r.map (·.2)) a' ({ c0 with mode := f } :: cs0) w') (fun e a' w' => Q e a' ({ c0 with mode := f } :: cs0) w') → (match (execOp a.eval o).run P w with
            | .ok .recover w' =>
              match recoverD ({ c0 with mode := f } :: cs0) with
              | some (v, cs') => wpOpsS P ops Q (r.map (·.2)) (a.put o.dst v) cs' w'
              | none => wpOpsS P ops Q (r.map (·.2)) (a.put o.dst .nilIface) ({ c0 with mode := f } :: cs0) w'
            | x => o.upon P a (fun a' w' => wpOpsS P ops Q (r.map (·.2)) a' ({ c0 with mode := f } :: cs0) w') (fun e a' w' => Q e a' ({ c0 with mode := f } :: cs0) w') x) := by
          intro hup
          unfold Oper.wp at hup
          split
          · rename_i heq
            rw [heq] at hup
            exact (show False from hup).elim
          · exact hup
        refine key ?_
        refine evalOp_sound (Q := fun e a' w' => Q e a' ({ c0 with mode := f } :: cs0) w') (r := x) h.hyp hrec hx ?_
        cases x with
        | val v m1 =>
          simp only at he
          intro p' w' ds' x h1 h2 h3 h4 h5 h6 h7
          refine evalOpsS_sound hrec hd r _ m1 u p' w' _ f hr ⟨h4, fun blk hb => Nat.lt_of_lt_of_le (h.lt blk hb) h1.size, ?_, ?_⟩ (hu.mono h2) he (hp.step h1 h2 h3)
          · refine ERel.put ?_ h7 (hd i o ho) ds'
            exact ERel.mono (c := cx X p w m.hp) (p := p) (h.en.dropFor (aget fls i)) h2 fun q hq k off hq' => h6 k (dropFor_rl hq k off hq')
          · cases o.dst <;> exact h5
        | pan v m1 =>
          simp only [Option.some.injEq, Prod.mk.injEq] at he
          obtain ⟨rfl, rfl, rfl, rfl⟩ := he
          intro p' w' x h1 h2 h3 h4 h5 h6 h7
          exact hp p' w' a _ f h1 h2 h3 ⟨h4, fun blk hb => Nat.lt_of_lt_of_le (h.lt blk hb) h1.size, h.en.mono h2 fun q _ k _ _ => h6 k, h5⟩ ⟨x, rfl, h7⟩ (hu.mono h2)
theorem zip_range (ops : Array Oper) : ops.toList.zipIdx.map (·.2) = List.range ops.size := by
  apply List.ext_getElem?
  intro i
  simp only [List.getElem?_map, List.getElem?_zipIdx, List.getElem?_range', Array.getElem?_toList]
  rcases Nat.lt_or_ge i ops.size with hi | hi
  · rw [Array.getElem?_eq_getElem hi, List.getElem?_range hi]; simp
  · rw [Array.getElem?_eq_none hi, List.getElem?_eq_none (by simpa using hi)]; rfl
theorem zip_at {ops : Array Oper} : ∀ q ∈ ops.toList.zipIdx, ops[q.2]? = some q.1 := fun q hq => by
  obtain ⟨i, hi⟩ := List.mem_iff_getElem?.1 hq
  have := Lies.zip ops i
  rw [hi] at this
  simp only [Nat.zero_add] at this
  cases ho : ops[i]? with
  | none => rw [ho] at this; cases this
  | some o => rw [ho] at this; cases this; exact ho
theorem other_S (hmix : P.follows .mixedOrders = true) (hrec : Rec2 P rec) {K : FuncId} {c : Code} {e : Env} {m : Mm} {u u' : Mode} {ex : Ex} {e' : Env} {m' : Mm} {f : FrameMode} (hc : slotsOk n c = true) (h : SOk X p w m e n a) (hu : UM (cx X p w m.hp) u f)
    (he : ((evalCode P A rec K c e m).map fun r => (r.1, r.2.1, r.2.2, u)) = some (ex, e', m', u')) (hp : PostS Q X p w m.hp ex e' m' u' n c0 cs0) : c.wpS P Q a ({ c0 with mode := f } :: cs0) w := by
  simp only [Option.map_eq_some_iff, Prod.mk.injEq] at he
  obtain ⟨⟨x1, e1, m1⟩, h1, rfl, rfl, rfl, rfl⟩ := he
  refine wpS_of_wp (evalCode_sound (n := n) hmix hrec c e m x1 e1 m1 p w a _ h1 hc h ?_)
  exact fun p' w' a' x g1 g2 g3 g4 g5 => hp p' w' a' x f g1 g2 g3 g4 g5 (hu.mono g2)
theorem evalCodeS_sound (hmix : P.follows .mixedOrders = true) (hrec : Rec2 P rec) {K : FuncId} : ∀ (c : Code) (e : Env) (m : Mm) (u : Mode) (ex : Ex) (e' : Env) (m' : Mm) (u' : Mode) (p : Pl) (w : World) (a : Act) (f : FrameMode) (Q : Exit → Act → List Frame → World → Prop),
    evalCodeS P A rec K c e m u = some (ex, e', m', u') → slotsOk n c = true → SOk X p w m e n a → UM (cx X p w m.hp) u f → PostS Q X p w m.hp ex e' m' u' n c0 cs0 → c.wpS P Q a ({ c0 with mode := f } :: cs0) w := by
  intro c
  induction c with
  | region id ops draw =>
    intro e m u ex e' m' u' p w a f Q he hn h hu hp
    cases draw with
    | true => exact other_S hmix hrec hn h hu (by simpa only [evalCodeS] using he) hp
    | false =>
      simp only [evalCodeS, Option.map_eq_some_iff] at he
      obtain ⟨⟨ex1, e1, m1, u1⟩, h1, h2⟩ := he
      have hp1 : PostS Q X p w m.hp ex1 e1 m1 u1 n c0 cs0 := by
        cases ex1 with
        | normal =>
          simp only [Prod.mk.injEq] at h2
          obtain ⟨rfl, rfl, rfl, rfl⟩ := h2
          exact fun p' w' a' x f' g1 g2 g3 g4 g5 g6 => hp p' w' a' x f' g1 g2 g3 (g4.cutBy _ _) g5 g6
        | exit i => simp only [Prod.mk.injEq] at h2; obtain ⟨rfl, rfl, rfl, rfl⟩ := h2; exact hp
        | ret => simp only [Prod.mk.injEq] at h2; obtain ⟨rfl, rfl, rfl, rfl⟩ := h2; exact hp
        | pan v => simp only [Prod.mk.injEq] at h2; obtain ⟨rfl, rfl, rfl, rfl⟩ := h2; exact hp
      refine wpS_region ?_
      rw [← zip_range]
      exact evalOpsS_sound hrec.call (slots_region hn) ops.toList.zipIdx e m u p w a f zip_at h hu h1 hp1
  | seq x y ihx ihy =>
    intro e m u ex e' m' u' p w a f Q he hn h hu hp
    simp only [evalCodeS, Option.bind_eq_some_iff] at he
    obtain ⟨⟨ex1, e1, m1, u1⟩, h1, h2⟩ := he
    simp only [slotsOk, Bool.and_eq_true] at hn
    refine wpS_seq (ihx e m u ex1 e1 m1 u1 p w a f _ h1 hn.1 h hu ?_)
    intro p' w' a' x' f' g1 g2 g3 g4 g5 g6
    cases ex1 with
    | normal =>
      obtain rfl := g5
      exact ihy e1 m1 u1 ex e' m' u' p' w' a' f' Q h2 hn.2 g4 g6 (hp.step g1 g2 g3)
    | exit i =>
      simp only [Option.some.injEq, Prod.mk.injEq] at h2
      obtain ⟨rfl, rfl, rfl, rfl⟩ := h2
      have := hp p' w' a' x' f' g1 g2 g3 g4 g5 g6
      obtain rfl := g5
      exact this
    | ret =>
      simp only [Option.some.injEq, Prod.mk.injEq] at h2
      obtain ⟨rfl, rfl, rfl, rfl⟩ := h2
      have := hp p' w' a' x' f' g1 g2 g3 g4 g5 g6
      obtain rfl := g5
      exact this
    | pan v =>
      simp only [Option.some.injEq, Prod.mk.injEq] at h2
      obtain ⟨rfl, rfl, rfl, rfl⟩ := h2
      have := hp p' w' a' x' f' g1 g2 g3 g4 g5 g6
      obtain ⟨_, rfl, _⟩ := g5
      exact this
  | cond c x y ihx ihy =>
    intro e m u ex e' m' u' p w a f Q he hn h hu hp
    simp only [evalCodeS, Option.bind_eq_some_iff] at he
    obtain ⟨v, hv, t, ht, he⟩ := he
    simp only [slotsOk, Bool.and_eq_true] at hn
    have hc := h.hyp.val hv
    have hvt : v = .sc (.bool t) := by
      unfold boolv at ht
      split at ht
      · cases ht; rfl
      · cases ht
    subst hvt
    refine wpS_cond (t := t) hc ?_
    cases t with
    | true => exact ihx e m u ex e' m' u' p w a f Q he hn.1 h hu hp
    | false => exact ihy e m u ex e' m' u' p w a f Q he hn.2 h hu hp
  | _ =>
    intro e m u ex e' m' u' p w a f Q he hn h hu hp
    exact other_S hmix hrec hn h hu (by simpa only [evalCodeS] using he) hp
end
end Go.Ai
