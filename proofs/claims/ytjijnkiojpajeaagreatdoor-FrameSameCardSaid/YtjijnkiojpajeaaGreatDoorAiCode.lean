/- The abstract interpreter: code. -/
import Derived.Test.YtjijnkiojpajeaaGreatDoorAiDrawA
import Derived.Scope
set_option linter.unusedVariables false
set_option linter.unusedSimpArgs false
set_option linter.unusedSectionVars false
namespace Go.Ai
variable [Glob]
/-- Each operation's slot is one of the first n. -/
def slotsOk (n : Nat) : Code → Bool
  | .region _ ops _ => ops.toList.all fun o => match o.dst with | some d => Nat.blt d n | none => true
  | .seq a b => slotsOk n a && slotsOk n b
  | .cond _ a b => slotsOk n a && slotsOk n b
  | .block _ c => slotsOk n c
  | .loop c => slotsOk n c
  | .scope c => slotsOk n c
  | _ => true
theorem slots_region {n id : Nat} {ops : Array Oper} {draw : Bool} (h : slotsOk n (.region id ops draw) = true) : ∀ (i : Nat) (o : Oper), ops[i]? = some o → ∀ d, o.dst = some d → d < n := by
  intro i o ho d hd
  have := List.all_eq_true.1 h o (by
    rw [List.mem_iff_getElem?]
    exact ⟨i, by simpa using ho⟩)
  rw [hd] at this
  exact of_eq_true ((Nat.blt_eq).symm.trans (eq_true this))
/-- A loop, from a round's begin. -/
def LoopWp (P : Program) (c : Code) (Q : Exit → Act → World → Prop) (a : Act) (w : World) : Prop :=
  ∀ (b : Frame) (k : List Item) (cs : List Frame), ∃ e a' w', Q e a' w' ∧ Arrives P (lone (b.at a (.code c :: .inLoop c :: k)) cs w) b k cs e a' w'
section
variable {P : Program} {Q : Exit → Act → World → Prop} {a : Act} {w : World} {c : Code}
theorem loop_of_wp (h : LoopWp P c Q a w) : (Code.loop c).wp P Q a w := fun b k cs => by
  obtain ⟨e, a', w', hq, harr⟩ := h b k cs
  exact ⟨e, a', w', hq, .of_steps (.one step_loop) harr⟩
theorem loop_round (h : c.wp P (Exit.then (LoopWp P c Q) Q) a w) : LoopWp P c Q a w := fun b k cs => by
  obtain ⟨e, a₁, w₁, hq, harr⟩ := h b (.inLoop c :: k) cs
  cases e with
  | normal =>
    obtain ⟨e₂, a₂, w₂, hq₂, harr₂⟩ := hq b k cs
    exact ⟨e₂, a₂, w₂, hq₂, .of_steps (Steps.trans harr (.one step_inLoop)) harr₂⟩
  | exit id => exact ⟨_, a₁, w₁, hq, .pass (x := .inLoop c) rfl (fun _ _ => .inl (by simp)) harr⟩
  | goto l => exact ⟨_, a₁, w₁, hq, .pass (x := .inLoop c) rfl (fun _ _ => .inl (by simp)) harr⟩
  | ret => exact ⟨_, a₁, w₁, hq, .pass (x := .inLoop c) rfl (fun _ _ => .inl (by simp)) harr⟩
  | panic ch => exact ⟨_, a₁, w₁, hq, .pass (x := .inLoop c) rfl (fun _ _ => .inl (by simp)) harr⟩
  | outgrown => exact ⟨_, a₁, w₁, hq, .pass (x := .inLoop c) rfl (fun _ _ => .inl (by simp)) harr⟩
end
/-- What a loop's answer means. -/
def LoopOk (P : Program) (c : Code) (s : St) (ex : Ex) (s' : St) : Prop :=
  ∀ (n : Nat) (X : Ctl) (p : Pl) (w : World) (a : Act) (Q : Exit → Act → World → Prop), slotsOk n c = true → SOk X p w s.mm s.env n a → Post Q X p w s.mm.hp ex s'.env s'.mm n → LoopWp P c Q a w
structure Rec2 (P : Program) (rec : Rec) : Prop where
  call : RecOk P rec
  loop : ∀ K c s ex s', rec (.loop K c s) = some (.loop ex s') → LoopOk P c s ex s'

theorem aget_none {β : Type} {f : Nat × β → Bool} {t : Nat} (h : ∀ v, f (t, v) = false) : ∀ {l : List (Nat × β)}, aget (l.filter f) t = none
  | [] => rfl
  | (k, v) :: r => by
    cases hf : f (k, v) with
    | true =>
      rw [List.filter_cons_of_pos hf]
      have hk : k ≠ t := by rintro rfl; rw [h v] at hf; cases hf
      simp only [aget, nbeq hk, cond]
      exact aget_none h
    | false => rw [List.filter_cons_of_neg (by simp [hf])]; exact aget_none h
section
variable {P : Program} {A : FuncId → FAnn} {rec : Rec} {K : FuncId} {X : Ctl} {p : Pl} {w : World} {m : Mm} {e : Env} {n : Nat} {a : Act} {Q : Exit → Act → World → Prop}
theorem SOk.recut (h : SOk X p w m e n a) (l : List (Nat × Bool)) : SOk X p w m (recut l e) n a := ⟨h.r, h.lt, h.en.recut l, h.df⟩
theorem SOk.cutBy (h : SOk X p w m e n a) (l : List (Nat × List (Nat × Bool))) (id : Nat) : SOk X p w m (cutBy l id e) n a := ⟨h.r, h.lt, h.en.cutBy l id, h.df⟩
theorem SOk.cutLoc (h : SOk X p w m e n a) (sites : List Nat) : SOk X p w { m with loc := lkeep m.loc sites } e n a :=
  ⟨⟨h.r.hp, h.r.hlt, fun k b hk => by
    have := h.r.loc k b hk
    unfold lkeep
    cases hm : mem sites k with
    | true => rw [Dx.aget_filter fun _ => hm]; exact this
    | false => rw [aget_none fun _ => hm]; trivial, h.r.injh, h.r.injl, h.r.dis, h.r.hsz, h.r.lsz, h.r.muts, h.r.gl⟩, h.lt, h.en, h.df⟩
theorem SOk.cutLoop (h : SOk X p w m e n a) (F : FAnn) (c : Code) : SOk X p w (Ai.cutLoop F c e m).2 (Ai.cutLoop F c e m).1 n a ∧ (Ai.cutLoop F c e m).2.hp = m.hp := by
  unfold Ai.cutLoop
  split
  · exact ⟨(h.cutLoc _).recut _, rfl⟩
  · exact ⟨h, rfl⟩
theorem Post.of {hp : Heap} {ex : Ex} {e' : Env} {m' : Mm} (h : ∀ p' w' a' x, Ext p w p' w' → (cx X p w hp).le (cx X p' w' m'.hp) → Kept (cx X p w hp) (cx X p' w' m'.hp) → SOk X p' w' m' e' n a' → ExRel (cx X p' w' m'.hp) ex x → Q x a' w') : Post Q X p w hp ex e' m' n := h
theorem Post.here {ex : Ex} {e' : Env} {m' : Mm} {hp : Heap} (h : Post Q X p w hp ex e' m' n) (hp' : hp = m'.hp) (hs : SOk X p w m' e' n a) {x : Exit} (hx : ExRel (cx X p w m'.hp) ex x) : Q x a w :=
  h p w a x (Ext.refl p w) (by rw [hp']; exact Cx.le.refl _) (by rw [hp']; exact .same fun _ h => h) hs hx
theorem evalCode_sound (hmix : P.follows .mixedOrders = true) (hrec : Rec2 P rec) : ∀ (c : Code) (e : Env) (m : Mm) (ex : Ex) (e' : Env) (m' : Mm) (p : Pl) (w : World) (a : Act) (Q : Exit → Act → World → Prop),
    evalCode P A rec K c e m = some (ex, e', m') → slotsOk n c = true → SOk X p w m e n a → Post Q X p w m.hp ex e' m' n → c.wp P Q a w
  | .skip, e, m, ex, e', m', p, w, a, Q, he, hn, h, hp => by
    simp only [evalCode, Option.some.injEq, Prod.mk.injEq] at he
    obtain ⟨rfl, rfl, rfl⟩ := he
    exact wp_skip (hp.here rfl h rfl)
  | .label _, e, m, ex, e', m', p, w, a, Q, he, hn, h, hp => by
    simp only [evalCode, Option.some.injEq, Prod.mk.injEq] at he
    obtain ⟨rfl, rfl, rfl⟩ := he
    exact wp_label (hp.here rfl h rfl)
  | .exit id, e, m, ex, e', m', p, w, a, Q, he, hn, h, hp => by
    simp only [evalCode, Option.some.injEq, Prod.mk.injEq] at he
    obtain ⟨rfl, rfl, rfl⟩ := he
    exact wp_exit (hp.here rfl h rfl)
  | .ret, e, m, ex, e', m', p, w, a, Q, he, hn, h, hp => by
    simp only [evalCode, Option.some.injEq, Prod.mk.injEq] at he
    obtain ⟨rfl, rfl, rfl⟩ := he
    exact wp_ret (hp.here rfl h rfl)
  | .region id ops draw, e, m, ex, e', m', p, w, a, Q, he, hn, h, hp => by
    simp only [evalCode, Option.map_eq_some_iff] at he
    obtain ⟨⟨ex1, e1, m1⟩, h1, h2⟩ := he
    have hp1 : Post Q X p w m.hp ex1 e1 m1 n := by
      cases ex1 with
      | normal =>
        simp only [cutX, Prod.mk.injEq] at h2
        obtain ⟨rfl, rfl, rfl⟩ := h2
        exact fun p' w' a' x g1 g2 g3 g4 g5 => hp p' w' a' x g1 g2 g3 (g4.cutBy _ _) g5
      | exit i => simp only [cutX, Prod.mk.injEq] at h2; obtain ⟨rfl, rfl, rfl⟩ := h2; exact hp
      | ret => simp only [cutX, Prod.mk.injEq] at h2; obtain ⟨rfl, rfl, rfl⟩ := h2; exact hp
      | pan v =>
        simp only [cutX, Prod.mk.injEq] at h2
        obtain ⟨rfl, rfl, rfl⟩ := h2
        exact fun p' w' a' x g1 g2 g3 g4 g5 => hp p' w' a' x g1 g2 g3 (g4.recut _) g5
    cases draw with
    | true =>
      simp only [if_true] at h1
      exact evalDraw_sound hmix hrec.call (slots_region hn) h h1 hp1
    | false =>
      simp only [Bool.false_eq_true, if_false] at h1
      refine wp_region ?_
      have := evalOps_sound hrec.call (slots_region hn) (ops := ops) ops.toList.zipIdx e m p w a (fun q hq => ?_) h h1 hp1
      · have e : ops.toList.zipIdx.map (·.2) = List.range ops.size := by
          apply List.ext_getElem?
          intro i
          simp only [List.getElem?_map, List.getElem?_zipIdx, List.getElem?_range', Array.getElem?_toList]
          rcases Nat.lt_or_ge i ops.size with hi | hi
          · rw [Array.getElem?_eq_getElem hi, List.getElem?_range hi]; simp
          · rw [Array.getElem?_eq_none hi, List.getElem?_eq_none (by simpa using hi)]; rfl
        rw [← e]; exact this
      · obtain ⟨i, hi⟩ := List.mem_iff_getElem?.1 hq
        have := Lies.zip ops i
        rw [hi] at this
        simp only [Nat.zero_add] at this
        cases ho : ops[i]? with
        | none => rw [ho] at this; cases this
        | some o => rw [ho] at this; cases this; exact ho
  | .seq x y, e, m, ex, e', m', p, w, a, Q, he, hn, h, hp => by
    simp only [evalCode, Option.bind_eq_some_iff] at he
    obtain ⟨⟨ex1, e1, m1⟩, h1, h2⟩ := he
    simp only [slotsOk, Bool.and_eq_true] at hn
    refine wp_seq (evalCode_sound hmix hrec x e m ex1 e1 m1 p w a _ h1 hn.1 h ?_)
    intro p' w' a' x' g1 g2 g3 g4 g5
    cases ex1 with
    | normal =>
      obtain rfl := g5
      exact evalCode_sound hmix hrec y (cutJoin (A K) y e1) m1 ex e' m' p' w' a' Q h2 hn.2 (g4.cutBy _ _) (hp.step g1 g2 g3)
    | exit i =>
      simp only [Option.some.injEq, Prod.mk.injEq] at h2
      obtain ⟨rfl, rfl, rfl⟩ := h2
      have := hp p' w' a' x' g1 g2 g3 g4 g5
      obtain rfl := g5
      exact this
    | ret =>
      simp only [Option.some.injEq, Prod.mk.injEq] at h2
      obtain ⟨rfl, rfl, rfl⟩ := h2
      have := hp p' w' a' x' g1 g2 g3 g4 g5
      obtain rfl := g5
      exact this
    | pan v =>
      simp only [Option.some.injEq, Prod.mk.injEq] at h2
      obtain ⟨rfl, rfl, rfl⟩ := h2
      have := hp p' w' a' x' g1 g2 g3 g4 g5
      obtain ⟨u, rfl, _⟩ := g5
      exact this
  | .cond c x y, e, m, ex, e', m', p, w, a, Q, he, hn, h, hp => by
    simp only [evalCode, Option.bind_eq_some_iff] at he
    obtain ⟨v, hv, t, ht, he⟩ := he
    simp only [slotsOk, Bool.and_eq_true] at hn
    have hc := h.hyp.val hv
    have hvt : v = .sc (.bool t) := by
      unfold boolv at ht
      split at ht
      · cases ht; rfl
      · cases ht
    subst hvt
    refine wp_cond (t := t) hc ?_
    cases t with
    | true => exact evalCode_sound hmix hrec x e m ex e' m' p w a Q he hn.1 h hp
    | false => exact evalCode_sound hmix hrec y e m ex e' m' p w a Q he hn.2 h hp
  | .block id c, e, m, ex, e', m', p, w, a, Q, he, hn, h, hp => by
    simp only [evalCode, Option.map_eq_some_iff] at he
    obtain ⟨⟨ex1, e1, m1⟩, h1, h2⟩ := he
    refine wp_block (evalCode_sound hmix hrec c e m ex1 e1 m1 p w a _ h1 hn h ?_)
    intro p' w' a' x' g1 g2 g3 g4 g5
    cases ex1 with
    | normal =>
      simp only [Prod.mk.injEq] at h2
      obtain ⟨rfl, rfl, rfl⟩ := h2
      have := hp p' w' a' x' g1 g2 g3 g4 g5
      obtain rfl := g5
      exact this
    | exit i =>
      obtain rfl := g5
      simp only [Exit.inBlock]
      simp only at h2
      split at h2
      · rename_i hi
        simp only [Prod.mk.injEq] at h2
        obtain ⟨rfl, rfl, rfl⟩ := h2
        rw [if_pos hi]
        exact hp p' w' a' .normal g1 g2 g3 g4 rfl
      · rename_i hi
        simp only [Prod.mk.injEq] at h2
        obtain ⟨rfl, rfl, rfl⟩ := h2
        rw [if_neg hi]
        exact hp p' w' a' (.exit i) g1 g2 g3 g4 rfl
    | ret =>
      simp only [Prod.mk.injEq] at h2
      obtain ⟨rfl, rfl, rfl⟩ := h2
      have := hp p' w' a' x' g1 g2 g3 g4 g5
      obtain rfl := g5
      exact this
    | pan v =>
      simp only [Prod.mk.injEq] at h2
      obtain ⟨rfl, rfl, rfl⟩ := h2
      have := hp p' w' a' x' g1 g2 g3 g4 g5
      obtain ⟨u, rfl, _⟩ := g5
      exact this
  | .loop c, e, m, ex, e', m', p, w, a, Q, he, hn, h, hp => by
    simp only [evalCode, Option.bind_eq_some_iff] at he
    obtain ⟨t, ht, he⟩ := he
    cases t with
    | call r hh => cases he
    | loop x s =>
      simp only [Option.some.injEq, Prod.mk.injEq] at he
      obtain ⟨rfl, rfl, rfl⟩ := he
      obtain ⟨h1, h2⟩ := h.cutLoop (A K) c
      refine loop_of_wp (hrec.loop _ _ _ _ _ ht n X p w a Q hn h1 ?_)
      show Post Q X p w (Ai.cutLoop (A K) c e m).2.hp _ _ _ n
      rw [h2]
      exact hp
  | .goto _, e, m, ex, e', m', p, w, a, Q, he, hn, h, hp => by simp [evalCode] at he
  | .scope c, e, m, ex, e', m', p, w, a, Q, he, hn, h, hp => by
    simp only [evalCode] at he
    refine wp_scope_straight (evalCode_sound hmix hrec c e m ex e' m' p w a _ he hn h ?_)
    intro p' w' a' x' g1 g2 g3 g4 g5
    have := hp p' w' a' x' g1 g2 g3 g4 g5
    cases ex with
    | normal => obtain rfl := g5; exact this
    | exit i => obtain rfl := g5; exact this
    | ret => obtain rfl := g5; exact this
    | pan v => obtain ⟨u, rfl, _⟩ := g5; exact this
end
end Go.Ai
