/- The abstract interpreter: calls. -/
import Derived.Test.YtjijnkiojpajeaaGreatDoorAiTree
set_option linter.unusedVariables false
set_option linter.unusedSimpArgs false
set_option linter.unusedSectionVars false
namespace Go.Ai
variable [Glob]
section
variable {P : Program} {rec : Rec} {X : Ctl} {p : Pl} {w : World} {m : Mm} {fl : Option Flag} {ρ : Ro} {a : Act} {o : Oper} {next : Act → World → Prop} {Q : Exit → Act → World → Prop} {r : OR}

theorem VRelT.mapOk {c c' : Cx} (h : c.le c') {vs : List AV} {us : List Value} (r : VRelT c vs us) : VRelT c' vs us := r.mono h _ _
/-- The function that is called, and what it is handed. -/
theorem callOf_run (H : Hyp X p w m ρ a) {c : Call} (ho : o.op = .call c) {K : FuncId} {args : List AV} (h : callOf ρ c = some (K, args)) (hK : Plain P K) :
    ∃ us : List Value, (execOp a.eval o).run P w = .ok (.enter K us.toArray) w ∧ VRelT (cx X p w m.hp) args us := by
  unfold callOf at h
  split at h
  · rename_i f hcal
    simp only [Option.bind_eq_some_iff] at h
    obtain ⟨as, h1, h⟩ := h
    split at h
    · rename_i g first captured e
      cases h
      have hf := H.ro f
      rw [e] at hf
      obtain ⟨us, ks, hfe, hu, hk⟩ := hf
      have has := H.vals h1
      obtain ⟨fn, g1, g2, g3⟩ := hK
      refine ⟨us ++ c.args.toList.map a.eval ++ ks, ?_, (hu.append has).append hk⟩
      simp only [execOp, ho, resolve, hcal, hfe, Deferred.ofValue, Sem.run_bind, Sem.run_pure, Result.andThen_ok, invoke, callFunc, run_program, g1, g3, g2, Bool.false_eq_true, if_false]
      congr 2
      apply Array.ext'
      simp
    · cases h
  · cases h
/-- A call that shares the heap. -/
theorem shared_goes (H : Hyp X p w m ρ a) {K : FuncId} {us : List Value} {args : List AV} (hrun : (execOp a.eval o).run P w = .ok (.enter K us.toArray) w) (hargs : VRelT (cx X p w m.hp) args us) {cr : CR} {h' : Heap}
    (hc : CallOk P K args m.hp cr h') (hn : Out X p w m fl a o next Q (match cr with | .ret v => .val (.v v) { m with hp := h' } | .pan v => .pan v { m with hp := h' })) : o.wp P a w next Q := by
  let X' : Ctl := ⟨fun b => X.Mut b ∨ ∃ k, p.rl k = some b, X.Bor, fun b hb => .inl (X.sub b hb)⟩
  have hle0 : (cx X p w m.hp).le (cx X' (noL p.rh) w m.hp) := ⟨fun b blk k => ⟨⟨k.1, k.2.1, fun _ e => (by cases e), fun hm => by
    rcases hm with hm | ⟨j, hm⟩
    · exact k.2.2.2 hm
    · exact absurd hm (k.2.2.1 j)⟩, rfl⟩, fun id n hn => ⟨n, hn, Nat.le_refl _, fun _ => .inl rfl⟩⟩
  have hm' : MRel X' (noL p.rh) w ⟨[], m.hp, []⟩ := by
    refine ⟨fun id cs b z h1 h2 => (H.r.hp id cs b z h1 h2).mono hle0 rfl, H.r.hlt, fun _ _ e => (by cases e), H.r.injh, fun _ _ _ e => (by cases e), fun _ _ _ _ _ e => (by cases e), H.r.hsz, fun _ _ e => (by cases e), fun b hb => ⟨fun id z e => ?_, fun _ e => (by cases e)⟩, H.r.gl.mono hle0⟩
    rcases hb with hb | ⟨j, hb⟩
    · exact (H.r.muts b hb).1 id z e
    · exact H.r.dis id j b z e hb
  have hlt' : ∀ blk, X'.Mut blk → blk < w.heap.size := by
    rintro blk (hb | ⟨j, hb⟩)
    · exact H.lt blk hb
    · exact H.r.lsz j blk hb
  unfold Oper.wp
  rw [hrun]
  show Calls P K us.toArray w _
  refine (hc X' p.rh w us hm' hlt' (hargs.mono hle0 _ _)).mono fun e w' hh => ?_
  obtain ⟨rh', hext, hle, hkept, hmr, hend⟩ := hh
  let p' : Pl := ⟨rh', p.rl⟩
  have hext' : Ext p w p' w' := ⟨hext.os, hext.tape, hext.output, hext.size, fun b hb h1 _ => hext.blk b hb h1 (fun _ e => (by cases e)), hext.rh, fun _ _ e _ => e⟩
  have hle2 : (cx X' (noL rh') w' h').le (cx X p' w' h') := ⟨fun b blk k => ⟨⟨k.1, k.2.1, fun j e => ?_, fun hM => k.2.2.2 (show X'.Mut blk from .inl hM)⟩, rfl⟩, fun id n hn => ⟨n, hn, Nat.le_refl _, fun _ => .inl rfl⟩⟩
  rotate_left
  · have hM : X'.Mut blk := .inr ⟨j, e⟩
    have := (k.2.2.2 hM).2
    exact (H.r.muts blk (X.sub blk this)).2 j e
  have hleAll := (hle0.trans hle).trans hle2
  have hmr' : MRel X p' w' { m with hp := h' } := by
    refine ⟨fun id cs b z h1 h2 => (hmr.hp id cs b z h1 h2).mono hle2 rfl, hmr.hlt, fun k b hk => ?_, hmr.injh, H.r.injl, fun id k b z h1 h2 => ?_, hmr.hsz, fun k b hk => Nat.lt_of_lt_of_le (H.r.lsz k b hk) hext.size, fun b hb => ⟨fun id z e => (hmr.muts b (.inl hb)).1 id z e, (H.r.muts b hb).2⟩, hmr.gl.mono hle2⟩
    · exact (H.r.loc k b hk).mono hleAll (hext.blk b (H.r.lsz k b hk) (fun id z e => H.r.dis id k b z e hk) (fun _ e => (by cases e)))
    · exact H.r.dis id k b z (hext.rh id b z h1 (H.r.lsz k b h2)) h2
  cases cr with
  | ret v =>
    obtain ⟨u, rfl, hv⟩ := hend
    exact hn p' w' a.defers u hext' hleAll (fun id n h1 h2 h3 h4 => hkept id n h1 h2 h3 h4) hmr' (H.df.mono hleAll) (fun _ _ => rfl) (hv.mono hle2 _ _)
  | pan v =>
    obtain ⟨u, rfl, hv⟩ := hend
    exact hn p' w' u hext' hleAll (fun id n h1 h2 h3 h4 => hkept id n h1 h2 h3 h4) hmr' (H.df.mono hleAll) (fun _ => rfl) (hv.mono hle2 _ _)
/-- A pure call. -/
theorem pure_goes (H : Hyp X p w m ρ a) {K : FuncId} {us : List Value} {args as : List AV} (hrun : (execOp a.eval o).run P w = .ok (.enter K us.toArray) w) (hargs : VRelT (cx X p w m.hp) args us) (hlend : lend m.hp args = some as) {cr : CR} {h' : Heap}
    (hc : CallOk P K as [] cr h') {v v' : AV} (hcr : cr = .ret v ∨ cr = .pan v) (hgive : give m.hp h' v = some v')
    (hn : Out X p w m fl a o next Q (match cr with | .ret _ => .val (.v v') m | .pan _ => .pan v' m)) : o.wp P a w next Q := by
  let X' : Ctl := ⟨fun b => X.Mut b ∨ (∃ id z, p.rh id = some (b, z)) ∨ ∃ k, p.rl k = some b, fun b => X.Bor b ∨ ∃ id z, p.rh id = some (b, z), fun b hb => hb.elim (fun h => .inl (X.sub b h)) (fun h => .inr (.inl h))⟩
  let n0 : Nat → Option (Nat × Nat) := fun _ => none
  have hok0 : ∀ b blk, okOf X p w b blk → okOf X' (noL n0) w b blk := fun b blk k => ⟨k.1, fun _ _ e => (by cases e), fun _ e => (by cases e), fun hm => by
    rcases hm with hm | ⟨id, z, hm⟩ | ⟨j, hm⟩
    · exact ⟨(k.2.2.2 hm).1, .inl (k.2.2.2 hm).2⟩
    · exact absurd hm (k.2.1 id z)
    · exact absurd hm (k.2.2.1 j)⟩
  have hempty : m.hp = [] → ∀ id b z, p.rh id ≠ some (b, z) := fun e id b z h => by
    have := H.r.hlt id b z h
    rw [e] at this
    simp at this
  have has : VRelT (cx X' (noL n0) w []) as us := by
    unfold lend at hlend
    split at hlend
    · rename_i e
      cases hlend
      rw [e] at hargs
      exact VRelT.mono (c := cx X p w []) (c' := cx X' (noL n0) w []) ⟨fun b blk k => ⟨hok0 b blk k, rfl⟩, fun id n h => by simp [cx] at h⟩ _ _ hargs
    · refine trees_rel H.r (c' := cx X' (noL n0) w []) hok0 (fun id b z e => ?_) rfl deep hlend hargs
      exact ⟨H.r.hsz id b z e, fun _ _ e => (by cases e), fun _ e => (by cases e), fun _ => ⟨rfl, .inr ⟨id, z, e⟩⟩⟩
  have hm' : MRel X' (noL n0) w ⟨[], [], []⟩ :=
    ⟨fun _ _ _ _ _ e => (by cases e), fun _ _ _ e => (by cases e), fun _ _ e => (by cases e), fun _ _ _ _ _ e => (by cases e), fun _ _ _ e => (by cases e), fun _ _ _ _ e => (by cases e), fun _ _ _ e => (by cases e), fun _ _ e => (by cases e), fun _ _ => ⟨fun _ _ e => (by cases e), fun _ e => (by cases e)⟩, fun g us hg => have ⟨k1, k2, k3⟩ := H.r.gl g us hg; ⟨hok0 _ _ k1, k2, k3⟩⟩
  have hlt' : ∀ blk, X'.Mut blk → blk < w.heap.size := by
    rintro blk (hb | ⟨id, z, hb⟩ | ⟨j, hb⟩)
    · exact H.lt blk hb
    · exact H.r.hsz id blk z hb
    · exact H.r.lsz j blk hb
  unfold Oper.wp
  rw [hrun]
  show Calls P K us.toArray w _
  refine (hc X' n0 w us hm' hlt' has).mono fun e w' hh => ?_
  obtain ⟨rh', hext, hle, hkept, hmr, hend⟩ := hh
  have hq : Quiet w w' := ⟨hext.os, hext.tape, hext.output, hext.size, fun b hb => hext.blk b hb (fun _ _ e => (by cases e)) (fun _ e => (by cases e))⟩
  have hle' := (hq.ext p).le_same (X := X) (h := m.hp) fun _ => rfl
  -- the answer, as a tree
  have hval : ∀ u, VRel (cx X' (noL rh') w' h') v u → VRel (cx X p w' m.hp) v' u := by
    intro u hu
    unfold give at hgive
    simp only [Option.bind_eq_some_iff] at hgive
    obtain ⟨t, ht, hg⟩ := hgive
    have hT : VRel (cx X' (noL n0) w' []) t u := by
      split at ht
      · cases ht
        exact VRel.mono (c := cx X' (noL rh') w' []) (c' := cx X' (noL n0) w' []) ⟨fun b blk k => ⟨⟨k.1, fun _ _ e => (by cases e), fun _ e => (by cases e), k.2.2.2⟩, rfl⟩, fun id n h => by simp [cx] at h⟩ _ _ hu
      · refine tree_rel hmr (c' := cx X' (noL n0) w' []) (fun b blk k => ⟨k.1, fun _ _ e => (by cases e), fun _ e => (by cases e), k.2.2.2⟩) (fun id b z e => ?_) rfl deep v t u ht hu
        refine ⟨hmr.hsz id b z e, fun _ _ e => (by cases e), fun _ e => (by cases e), fun hM => absurd e ((hmr.muts b hM).1 id z)⟩
    split at hg
    · rename_i e
      cases hg
      refine VRel.mono (c := cx X' (noL n0) w' []) (c' := cx X p w' m.hp) ⟨fun b blk k => ⟨⟨k.1, fun id z => hempty e id blk z, fun j hj => ?_, fun hM => ?_⟩, rfl⟩, fun id n h => by simp [cx] at h⟩ _ _ hT
      · have := (k.2.2.2 (show X'.Mut blk from .inr (.inr ⟨j, hj⟩))).2
        rcases this with h | ⟨id, z, h⟩
        · exact (H.r.muts blk (X.sub blk h)).2 j hj
        · exact hempty e id blk z h
      · have := k.2.2.2 (show X'.Mut blk from .inl hM)
        refine ⟨this.1, ?_⟩
        rcases this.2 with h | ⟨id, z, h⟩
        · exact h
        · exact absurd h (hempty e id blk z)
    · split at hg
      · rename_i hl
        cases hg
        refine lasting_rel (c := cx X' (noL n0) w' []) (c' := cx X p w' m.hp) (fun blk k => ?_) rfl _ _ hl hT
        refine ⟨k.1, fun id z e => ?_, fun j e => ?_, fun hM => ?_⟩
        · exact absurd (k.2.2.2 (show X'.Mut blk from .inr (.inl ⟨id, z, e⟩))).1 (by simp)
        · exact absurd (k.2.2.2 (show X'.Mut blk from .inr (.inr ⟨j, e⟩))).1 (by simp)
        · exact absurd (k.2.2.2 (show X'.Mut blk from .inl hM)).1 (by simp)
      · cases hg
  rcases hcr with rfl | rfl
  · obtain ⟨u, rfl, hv⟩ := hend
    exact hn p w' a.defers u (hq.ext p) hle' (.same fun _ h => h) (H.r.quiet hq) (H.df.mono hle') (fun _ _ => rfl) (hval u hv)
  · obtain ⟨u, rfl, hv⟩ := hend
    exact hn p w' u (hq.ext p) hle' (.same fun _ h => h) (H.r.quiet hq) (H.df.mono hle') (fun _ => rfl) (hval u hv)
theorem op_call (H : Hyp X p w m ρ a) (hrec : RecOk P rec) {c : Call} (ho : o.op = .call c) {K : FuncId} {args : List AV} (h : callOf ρ c = some (K, args)) {sh : Bool} (he : doCall rec sh m K args = some r) (hn : Out X p w m fl a o next Q r) : o.wp P a w next Q := by
  unfold doCall at he
  split at he
  · simp only [Option.bind_eq_some_iff] at he
    obtain ⟨t, ht, he⟩ := he
    split at he
    · cases he
      obtain ⟨hp, hc⟩ := hrec _ _ _ _ _ ht
      obtain ⟨us, h1, h2⟩ := callOf_run H ho h hp
      exact shared_goes H h1 h2 hc hn
    · cases he
      obtain ⟨hp, hc⟩ := hrec _ _ _ _ _ ht
      obtain ⟨us, h1, h2⟩ := callOf_run H ho h hp
      exact shared_goes H h1 h2 hc hn
    · cases he
  · simp only [Option.bind_eq_some_iff] at he
    obtain ⟨as, hl, t, ht, he⟩ := he
    split at he
    · simp only [Option.map_eq_some_iff] at he
      obtain ⟨v', hg, rfl⟩ := he
      obtain ⟨hp, hc⟩ := hrec _ _ _ _ _ ht
      obtain ⟨us, h1, h2⟩ := callOf_run H ho h hp
      exact pure_goes H h1 h2 hl hc (.inl rfl) hg hn
    · simp only [Option.map_eq_some_iff] at he
      obtain ⟨v', hg, rfl⟩ := he
      obtain ⟨hp, hc⟩ := hrec _ _ _ _ _ ht
      obtain ⟨us, h1, h2⟩ := callOf_run H ho h hp
      exact pure_goes H h1 h2 hl hc (.inr rfl) hg hn
    · cases he
end
end Go.Ai
