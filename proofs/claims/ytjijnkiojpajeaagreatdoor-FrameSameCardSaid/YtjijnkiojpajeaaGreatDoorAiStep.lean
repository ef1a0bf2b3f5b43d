/- The abstract interpreter: calls and loops, one step. -/
import Derived.Test.YtjijnkiojpajeaaGreatDoorAiFun
import Derived.Tactics
set_option linter.unusedVariables false
set_option linter.unusedSimpArgs false
set_option linter.unusedSectionVars false
namespace Go.Ai
variable [Glob]
/-- What is asked of the program: each operation's slot is its function's, and regions that draw may mix. -/
structure Fit (P : Program) : Prop where
  mix : P.follows .mixedOrders = true
  slots : ∀ (K : FuncId) (fn : Func) (c : Code), P.funcs[K]? = some fn → fn.body = some c → slotsOk fn.ntmps c = true
section
variable {P : Program} {A : FuncId → FAnn} {rec : Rec} {X : Ctl} {p : Pl} {w : World} {m : Mm} {e : Env} {n : Nat} {a : Act}
/-- The memory that a callee sees, when the heap is shared. -/
def outer (X : Ctl) (p : Pl) : Ctl := ⟨fun b => X.Mut b ∨ ∃ k, p.rl k = some b, X.Bor, fun b hb => .inl (X.sub b hb)⟩
theorem share_in (r : MRel X p w m) (lt : ∀ blk, X.Mut blk → blk < w.heap.size) : (cx X p w m.hp).le (cx (outer X p) (noL p.rh) w m.hp) ∧ MRel (outer X p) (noL p.rh) w ⟨[], m.hp, []⟩ ∧ ∀ blk, (outer X p).Mut blk → blk < w.heap.size := by
  have hle0 : (cx X p w m.hp).le (cx (outer X p) (noL p.rh) w m.hp) := ⟨fun b blk k => ⟨⟨k.1, k.2.1, fun _ e => (by cases e), fun hm => by
    rcases hm with hm | ⟨j, hm⟩
    · exact k.2.2.2 hm
    · exact absurd hm (k.2.2.1 j)⟩, rfl⟩, fun id n hn => ⟨n, hn, Nat.le_refl _, fun _ => .inl rfl⟩⟩
  refine ⟨hle0, ⟨fun id cs b z h1 h2 => (r.hp id cs b z h1 h2).mono hle0 rfl, r.hlt, fun _ _ e => (by cases e), r.injh, fun _ _ _ e => (by cases e), fun _ _ _ _ _ e => (by cases e), r.hsz, fun _ _ e => (by cases e), fun b hb => ⟨fun id z e => ?_, fun _ e => (by cases e)⟩, r.gl.mono hle0⟩, ?_⟩
  · rcases hb with hb | ⟨j, hb⟩
    · exact (r.muts b hb).1 id z e
    · exact r.dis id j b z e hb
  · rintro blk (hb | ⟨j, hb⟩)
    · exact lt blk hb
    · exact r.lsz j blk hb
theorem share_out (r : MRel X p w m) {rh' : Nat → Option (Nat × Nat)} {w' : World} {h' : Heap} (hext : Ext (noL p.rh) w (noL rh') w') (hle : (cx (outer X p) (noL p.rh) w m.hp).le (cx (outer X p) (noL rh') w' h')) (hmr : MRel (outer X p) (noL rh') w' ⟨[], h', []⟩)
    (hle0 : (cx X p w m.hp).le (cx (outer X p) (noL p.rh) w m.hp)) :
    Ext p w ⟨rh', p.rl⟩ w' ∧ (cx (outer X p) (noL rh') w' h').le (cx X ⟨rh', p.rl⟩ w' h') ∧ (cx X p w m.hp).le (cx X ⟨rh', p.rl⟩ w' h') ∧ MRel X ⟨rh', p.rl⟩ w' { m with hp := h' } := by
  have hext' : Ext p w ⟨rh', p.rl⟩ w' := ⟨hext.os, hext.tape, hext.output, hext.size, fun b hb h1 _ => hext.blk b hb h1 (fun _ e => (by cases e)), hext.rh, fun _ _ e _ => e⟩
  have hle2 : (cx (outer X p) (noL rh') w' h').le (cx X ⟨rh', p.rl⟩ w' h') := ⟨fun b blk k => ⟨⟨k.1, k.2.1, fun j e => by
    have hM : (outer X p).Mut blk := .inr ⟨j, e⟩
    have := (k.2.2.2 hM).2
    exact (r.muts blk (X.sub blk this)).2 j e, fun hM => k.2.2.2 (show (outer X p).Mut blk from .inl hM)⟩, rfl⟩, fun id n hn => ⟨n, hn, Nat.le_refl _, fun _ => .inl rfl⟩⟩
  have hleAll := (hle0.trans hle).trans hle2
  refine ⟨hext', hle2, hleAll, ⟨fun id cs b z h1 h2 => (hmr.hp id cs b z h1 h2).mono hle2 rfl, hmr.hlt, fun k b hk => ?_, hmr.injh, r.injl, fun id k b z h1 h2 => ?_, hmr.hsz, fun k b hk => Nat.lt_of_lt_of_le (r.lsz k b hk) hext.size, fun b hb => ⟨fun id z e => (hmr.muts b (.inl hb)).1 id z e, (r.muts b hb).2⟩, hmr.gl.mono hle2⟩⟩
  · exact (r.loc k b hk).mono hleAll (hext.blk b (r.lsz k b hk) (fun id z e => r.dis id k b z e hk) (fun _ e => (by cases e)))
  · exact r.dis id k b z (hext.rh id b z h1 (r.lsz k b h2)) h2
/-- Locals are forgotten. -/
theorem forget (r : MRel X p w m) : (cx X p w m.hp).le (cx X (noL p.rh) w m.hp) ∧ MRel X (noL p.rh) w ⟨[], m.hp, []⟩ := by
  have hle : (cx X p w m.hp).le (cx X (noL p.rh) w m.hp) := ⟨fun b blk k => ⟨⟨k.1, k.2.1, fun _ e => (by cases e), k.2.2.2⟩, rfl⟩, fun id n hn => ⟨n, hn, Nat.le_refl _, fun _ => .inl rfl⟩⟩
  exact ⟨hle, fun id cs b z h1 h2 => (r.hp id cs b z h1 h2).mono hle rfl, r.hlt, fun _ _ e => (by cases e), r.injh, fun _ _ _ e => (by cases e), fun _ _ _ _ _ e => (by cases e), r.hsz, fun _ _ e => (by cases e), fun b hb => ⟨(r.muts b hb).1, fun _ e => (by cases e)⟩, r.gl.mono hle⟩
theorem argEnv_mem : ∀ (vs : List AV) (i : Nat), Srt (argEnv vs i) ∧ ∀ q ∈ argEnv vs i, ∃ j v, vs[j]? = some v ∧ q = (i + j, .v v)
  | [], i => ⟨List.Pairwise.nil, fun q h => by cases h⟩
  | v :: r, i => by
    obtain ⟨h1, h2⟩ := argEnv_mem r (i + 1)
    refine ⟨List.pairwise_cons.2 ⟨fun q hq => ?_, h1⟩, fun q hq => ?_⟩
    · obtain ⟨j, v', _, rfl⟩ := h2 q hq
      show i < i + 1 + j
      omega
    · cases hq with
      | head => exact ⟨0, v, rfl, rfl⟩
      | tail _ hq =>
        obtain ⟨j, v', g1, rfl⟩ := h2 q hq
        exact ⟨j + 1, v', by simpa using g1, by simp; omega⟩
theorem VRelT.at_ {c : Cx} : ∀ {vs : List AV} {us : List Value} {j : Nat} {v : AV}, VRelT c vs us → vs[j]? = some v → ∃ u, us[j]? = some u ∧ VRel c v u
  | [], us, j, v, h, hj => by simp at hj
  | v0 :: r, us, j, v, ⟨u, us', e, h1, h2⟩, hj => by
    subst e
    cases j with
    | zero => simp only [List.getElem?_cons_zero, Option.some.injEq] at hj; subst hj; exact ⟨u, rfl, h1⟩
    | succ j => simp only [List.getElem?_cons_succ] at hj ⊢; exact VRelT.at_ h2 hj
/-- How a call begins. -/
theorem begins {rh : Nat → Option (Nat × Nat)} {h : Heap} {args : List AV} {us : List Value} (r : MRel X (noL rh) w ⟨[], h, []⟩) (lt : ∀ blk, X.Mut blk → blk < w.heap.size) (ha : VRelT (cx X (noL rh) w h) args us) (k : Nat) :
    SOk X (noL rh) w ⟨[], h, []⟩ (argEnv args 0) k { tmps := us.toArray ++ Array.replicate (k - us.toArray.size) undef, defers := [] } := by
  obtain ⟨h1, h2⟩ := argEnv_mem args 0
  refine ⟨r, lt, ⟨by simp; omega, h1, fun q hq => ?_⟩, rfl⟩
  obtain ⟨j, v, g1, rfl⟩ := h2 q hq
  obtain ⟨u, g2, g3⟩ := ha.at_ g1
  have hj := (List.getElem?_eq_some_iff.1 g2).1
  show VRel _ v _
  rw [Array.getD_eq_getD_getElem?, Array.getElem?_append_left (by simpa using hj)]
  simp only [Nat.zero_add, List.getElem?_toArray, g2, Option.getD_some]
  exact g3
/-- Results. -/
def resOne (tmps : Array Value) : ResultVar → Sem Value
  | .tmp t => pure (tmps.getD t undef)
  | .cell a t => do loadVar t (← asAddr (tmps.getD a undef))
theorem aResults_run (r : MRel X p w m) (en : ERel (cx X p w m.hp) p n e a) : ∀ {l : List ResultVar} {vs : List AV}, aResults P e m l = some vs → ∃ us : List Value, (l.mapM (resOne a.tmps)).run P w = .ok us w ∧ VRelT (cx X p w m.hp) vs us
  | [], vs, h => by
    simp only [aResults, Option.some.injEq] at h
    subst h
    exact ⟨[], by simp, rfl⟩
  | x :: l, vs, h => by
    simp only [aResults, Option.bind_eq_some_iff, Option.map_eq_some_iff] at h
    obtain ⟨v, hv, vs', hvs, rfl⟩ := h
    obtain ⟨us, h1, h2⟩ := aResults_run r en hvs
    have key : ∃ u, (resOne a.tmps x).run P w = .ok u w ∧ VRel (cx X p w m.hp) v u := by
      cases x with
      | tmp t => exact ⟨a.tmps.getD t undef, by simp [resOne], valOf_rel hv (en.get t)⟩
      | cell x t =>
        simp only [aResult, Option.bind_eq_some_iff] at hv
        obtain ⟨g, hg, k, hk, hv⟩ := hv
        obtain ⟨u, g1, g2⟩ := run_aLoad r (en.get x) hg hk hv
        refine ⟨u, ?_, g2⟩
        have : ∃ ad, a.tmps.getD x undef = .pointer (some ad) := by
          simp only [aLoad, Option.bind_eq_some_iff] at hv
          obtain ⟨⟨cs, off⟩, k1, _⟩ := hv
          obtain ⟨ad, _, e1, _⟩ := cellsAt_rel r (en.get x) k1
          exact ⟨ad, e1⟩
        obtain ⟨ad, e1⟩ := this
        rw [e1] at g1
        simp only [resOne]
        rw [e1]
        simpa [Instr.loadAt, Instr.sureAddr, asAddr] using g1
    obtain ⟨u, k1, k2⟩ := key
    refine ⟨u :: us, ?_, u, us, rfl, k2, h2⟩
    rw [List.mapM_cons, Sem.run_bind, k1]
    simp only [Result.andThen_ok, Sem.run_bind, h1, Sem.run_pure]
theorem VRelT.len {c : Cx} : ∀ {vs : List AV} {us : List Value}, VRelT c vs us → us.length = vs.length
  | [], us, h => by subst h; rfl
  | v :: r, us, ⟨u, us', e, _, h⟩ => by subst e; simp [h.len]
theorem results_run (r : MRel X p w m) (en : ERel (cx X p w m.hp) p n e a) {fn : Func} {vs : List AV} (h : aResults P e m fn.results.toList = some vs) : ∃ u, (results fn a.tmps).run P w = .ok u w ∧ VRel (cx X p w m.hp) (oneOrTup vs) u := by
  obtain ⟨us, h1, h2⟩ := aResults_run r en h
  have hl := h2.len
  have hrun : (results fn a.tmps).run P w = .ok (if h : us.toArray.size = 1 then us.toArray[0] else .tuple us.toArray) w := by
    show (Sem.run P ((fn.results.mapM (resOne a.tmps)) >>= fun vs => pure (if h : vs.size = 1 then vs[0] else .tuple vs)) w) = _
    rw [Sem.run_bind, Array.mapM_eq_mapM_toList, Sem.run_map, h1]
    rfl
  refine ⟨_, hrun, ?_⟩
  cases vs with
  | nil =>
    simp only [List.length_nil, List.length_eq_zero_iff] at hl
    subst hl
    exact ⟨[], rfl, rfl⟩
  | cons v vs =>
    obtain ⟨u, us', rfl, h3, h4⟩ := h2
    cases vs with
    | nil =>
      cases h4
      exact h3
    | cons v2 vs =>
      obtain ⟨u2, us2, rfl, h5, h6⟩ := h4
      exact ⟨_, rfl, u, _, rfl, h3, u2, _, rfl, h5, h6⟩
end
end Go.Ai
/- The abstract interpreter: what a step of it says of the program. -/
set_option linter.unusedVariables false
set_option linter.unusedSimpArgs false
set_option linter.unusedSectionVars false
namespace Go.Ai
variable [Glob]
theorem CallsD.mono' {P : Program} {f : FuncId} {args : Array Value} {u : FrameMode} {w : World} {R R' : Ending → FrameMode → World → Prop} (h : CallsD P f args u w R) (hr : ∀ e u w, R e u w → R' e u w) : CallsD P f args u w R' :=
  fun c cs hc => let ⟨e, u', w', fr, hR, k⟩ := h c cs hc; ⟨e, u', w', fr, hr _ _ _ hR, k⟩
section
variable {P : Program} {A : FuncId → FAnn} {rec : Rec} {X : Ctl} {p : Pl} {w : World} {n : Nat} {a : Act}
theorem Ext.noLr {rh : Nat → Option (Nat × Nat)} {p' : Pl} {w' : World} (h : Ext (noL rh) w p' w') : Ext (noL rh) w (noL p'.rh) w' := ⟨h.os, h.tape, h.output, h.size, h.blk, h.rh, fun _ _ e => (by cases e)⟩
theorem deferred_ok (fit : Fit P) (hrec : Rec2 P rec) {K : FuncId} {fn : Func} {c : Code} (hf : P.funcs[K]? = some fn) (hb : fn.body = some c) {args : List AV} {h : Heap} {u u' : Mode} {ex : Ex} {e' : Env} {m' : Mm}
    (he : evalCodeS P A rec K c (argEnv args 0) ⟨[], h, []⟩ u = some (ex, e', m', u')) (hex : ex = .normal ∨ ex = .ret) (hdf : m'.dfs = []) (hres : fn.results.toList = []) {rh : Nat → Option (Nat × Nat)} {us : List Value} {f : FrameMode}
    (r : MRel X (noL rh) w ⟨[], h, []⟩) (lt : ∀ blk, X.Mut blk → blk < w.heap.size) (ha : VRelT (cx X (noL rh) w h) args us) (hu : UM (cx X (noL rh) w h) u f) :
    CallsD P K us.toArray f w fun e f' w' => ∃ v rh', e = .returned v ∧ Ext (noL rh) w (noL rh') w' ∧ (cx X (noL rh) w h).le (cx X (noL rh') w' m'.hp) ∧ Kept (cx X (noL rh) w h) (cx X (noL rh') w' m'.hp) ∧ MRel X (noL rh') w' ⟨[], m'.hp, []⟩ ∧ UM (cx X (noL rh') w' m'.hp) u' f' := by
  refine callsD_of_wpS hf hb fun c₀ cs hc0 => ?_
  have e0 : c₀ = { c₀ with mode := f } := by cases c₀; cases hc0; rfl
  have key : ∀ c1 : Frame, c1 = { c₀ with mode := f } → c.wpS P (bodyPostS P fn c₀ cs fun e f' w' => ∃ v rh', e = .returned v ∧ Ext (noL rh) w (noL rh') w' ∧ (cx X (noL rh) w h).le (cx X (noL rh') w' m'.hp) ∧ Kept (cx X (noL rh) w h) (cx X (noL rh') w' m'.hp) ∧ MRel X (noL rh') w' ⟨[], m'.hp, []⟩ ∧ UM (cx X (noL rh') w' m'.hp) u' f')
      { tmps := us.toArray ++ Array.replicate (fn.ntmps - us.toArray.size) undef, defers := [] } (c1 :: cs) w := by
    rintro c1 rfl
    refine evalCodeS_sound (n := fn.ntmps) (A := A) (K := K) fit.mix hrec c (argEnv args 0) ⟨[], h, []⟩ u ex e' m' u' (noL rh) w _ f _ he (fit.slots K fn c hf hb) (begins r lt ha fn.ntmps) hu ?_
    intro p' w' a' x f' g1 g2 g3 g4 g5 g6
    have hd : a'.defers = [] := by have := g4.df; rw [hdf] at this; exact this
    obtain ⟨hle, hm⟩ := forget g4.r
    have hrr : fn.results = #[] := by rw [← Array.toArray_toList (xs := fn.results), hres]
    have fin : ∃ u2, ({ c₀ with mode := f' } : Frame) :: cs = { c₀ with mode := u2 } :: cs ∧ ∃ v, (results fn a'.tmps).run P w' = .ok v w' ∧ ∃ v_1 rh', Ending.returned v = .returned v_1 ∧ Ext (noL rh) w (noL rh') w' ∧ (cx X (noL rh) w h).le (cx X (noL rh') w' m'.hp) ∧ Kept (cx X (noL rh) w h) (cx X (noL rh') w' m'.hp) ∧ MRel X (noL rh') w' ⟨[], m'.hp, []⟩ ∧ UM (cx X (noL rh') w' m'.hp) u' u2 :=
      ⟨f', rfl, .tuple #[], results_none hrr _ P w', _, p'.rh, rfl, g1.noLr, g2.trans hle, fun id nn q1 q2 q3 q4 => g3 id nn q1 q2 q3 q4, hm, g6.mono hle⟩
    rcases hex with rfl | rfl
    · cases g5
      exact ⟨hd, fin⟩
    · cases g5
      exact ⟨hd, fin⟩
  rw [show (c₀ :: cs) = (c₀ :: cs) from rfl]
  exact key c₀ e0
theorem runDefers_sound (fit : Fit P) (hrec : Rec2 P rec) {fn0 : Func} {e : Env} {R : Ending → World → Prop} {loc : Loc} {dfs : List AV} {h' : Heap} {u' : Mode} : ∀ (l : List AV) (h : Heap) (u : Mode) (p : Pl) (w : World) (ds : List Deferred) (f : FrameMode), runDefers P A rec l h u = some (h', u') → MRel X p w ⟨loc, h, dfs⟩ → (∀ blk, X.Mut blk → blk < w.heap.size) →
    DRel (cx X p w h) l ds → ERel (cx X p w h) p n e a → UM (cx X p w h) u f →
    (∀ p' w' f', Ext p w p' w' → (cx X p w h).le (cx X p' w' h') → Kept (cx X p w h) (cx X p' w' h') → MRel X p' w' ⟨loc, h', dfs⟩ → ERel (cx X p' w' h') p' n e a → UM (cx X p' w' h') u' f' → Leaves P fn0 a.tmps R [] f' w') → Leaves P fn0 a.tmps R ds f w
  | [], h, u, p, w, ds, f, he, r, lt, hd, en, hu, post => by
    simp only [runDefers, Option.some.injEq, Prod.mk.injEq] at he
    obtain ⟨rfl, rfl⟩ := he
    obtain rfl : ds = [] := hd
    exact post p w f (Ext.refl p w) (Cx.le.refl _) (.same fun _ h => h) r en hu
  | .fn K args captured :: l, h, u, p, w, ds, f, he, r, lt, hd, en, hu, post => by
    simp only [runDefers, Option.bind_eq_some_iff] at he
    obtain ⟨fn, hf, c, hb, he⟩ := he
    split at he
    · cases he
    · rename_i hname
      simp only [Option.bind_eq_some_iff] at he
      obtain ⟨⟨ex, e', m', u1⟩, hev, he⟩ := he
      obtain ⟨as, ks, rest, rfl, h1, h2, h3⟩ := hd
      obtain ⟨hle0, hm', hlt'⟩ := share_in r lt
      have hu0 : UM (cx (outer X p) (noL p.rh) w h) u f := hu.mono hle0
      have ha : VRelT (cx (outer X p) (noL p.rh) w h) (args ++ captured) (as ++ ks) := (h1.append h2).mono hle0 _ _
      have hrun : f ≠ .run := by
        cases u with
        | none => cases hu; simp
        | some q => obtain ⟨_, rfl, _⟩ := hu; simp
      have hinv : (invoke (.fn (.func K) ks.toArray) as.toArray).run P w = .ok (.enter K (as ++ ks).toArray) w := by
        have hb' : fn.body.isNone = false := by rw [hb]; rfl
        have hn' : (fn.name == "runtime.NumGoroutine") = false := by simpa using hname
        simp only [invoke, callFunc, Sem.run_bind, Sem.run_pure, Result.andThen_ok, run_program, hf, hb', hn', Bool.false_eq_true, if_false]
        congr 2
        simp
      have go : ∀ hex : ex = .normal ∨ ex = .ret, m'.dfs = [] → fn.results.toList = [] → runDefers P A rec l m'.hp (settled u1) = some (h', u') → Leaves P fn0 a.tmps R ({ target := .fn (.func K) ks.toArray, args := as.toArray } :: rest) f w := by
        intro hex hdf hres he
        refine leaves_cons hrun hinv (CallsD.mono' (deferred_ok fit hrec hf hb hev hex hdf hres hm' hlt' ha hu0) ?_)
        rintro e2 f2 w2 ⟨v, rh', rfl, k1, k2, k3, k4, k5⟩
        obtain ⟨q1, q2, q3, q4⟩ := share_out r k1 k2 k4 hle0
        have hkk : Kept (cx X p w h) (cx X ⟨rh', p.rl⟩ w2 m'.hp) := fun id nn a1 a2 a3 a4 => k3 id nn a1 a2 a3 a4
        refine runDefers_sound fit hrec l m'.hp (settled u1) ⟨rh', p.rl⟩ w2 rest (settle f2) he q4 (fun blk hb => Nat.lt_of_lt_of_le (lt blk hb) q1.size) (h3.mono q3) (en.mono q3 fun _ _ _ _ _ => rfl) ((k5.mono q2).settled) ?_
        intro p' w' f' l1 l2 l3 l4 l5 l6
        exact post p' w' f' (q1.trans l1) (q3.trans l2) (hkk.trans q3 l2 l3) l4 l5 l6
      split at he
      · rename_i x1 x2 x3
        exact go (.inl x1) x2 x3 he
      · rename_i x1 x2 x3
        exact go (.inr x1) x2 x3 he
      · cases he
  | .sc _ :: _, _, _, _, _, _, _, he, _, _, _, _, _, _ => by simp [runDefers] at he
  | .agg _ :: _, _, _, _, _, _, _, he, _, _, _, _, _, _ => by simp [runDefers] at he
  | .tup _ :: _, _, _, _, _, _, _, he, _, _, _, _, _, _ => by simp [runDefers] at he
  | .ifc _ _ :: _, _, _, _, _, _, _, he, _, _, _, _, _, _ => by simp [runDefers] at he
  | .nils :: _, _, _, _, _, _, _, he, _, _, _, _, _, _ => by simp [runDefers] at he
  | .snap _ _ _ _ :: _, _, _, _, _, _, _, he, _, _, _, _, _, _ => by simp [runDefers] at he
  | .own _ _ _ _ _ _ :: _, _, _, _, _, _, _, he, _, _, _, _, _, _ => by simp [runDefers] at he
  | .ptr _ _ _ :: _, _, _, _, _, _, _, he, _, _, _, _, _, _ => by simp [runDefers] at he
  | .sp _ _ :: _, _, _, _, _, _, _, he, _, _, _, _, _, _ => by simp [runDefers] at he
  | .junk :: _, _, _, _, _, _, _, he, _, _, _, _, _, _ => by simp [runDefers] at he
theorem call_ok (fit : Fit P) (hrec : Rec2 P rec) {K : FuncId} {args : List AV} {h h' : Heap} {cr : CR} (he : step P A rec (.call K args h) = some (.call cr h')) : Plain P K ∧ CallOk P K args h cr h' := by
  simp only [step, Option.bind_eq_some_iff] at he
  obtain ⟨fn, hf, c, hb, he⟩ := he
  split at he
  · cases he
  · rename_i hname
    simp only [Option.bind_eq_some_iff] at he
    obtain ⟨⟨ex, e1, m1⟩, hev, he⟩ := he
    refine ⟨⟨fn, hf, by rw [hb]; rfl, by simpa using hname⟩, ?_⟩
    intro X rh w us r lt ha
    refine calls_of_wp_defers hf hb (evalCode_sound (n := fn.ntmps) fit.mix hrec c (argEnv args 0) ⟨[], h, []⟩ ex e1 m1 (noL rh) w _ _ hev (fit.slots K fn c hf hb) (begins r lt ha fn.ntmps) ?_)
    intro p' w' a' x g1 g2 g3 g4 g5
    simp only [finish, Option.bind_eq_some_iff] at he
    obtain ⟨u0, hu0, ⟨h2, u2⟩, hd, he⟩ := he
    -- what is left
    have go : ∀ f, UM (cx X p' w' m1.hp) u0 f → Leaves P fn a'.tmps (fun e w' => ∃ rh', Ext (noL rh) w (noL rh') w' ∧ (cx X (noL rh) w h).le (cx X (noL rh') w' h') ∧ Kept (cx X (noL rh) w h) (cx X (noL rh') w' h') ∧ MRel X (noL rh') w' ⟨[], h', []⟩ ∧ EndAt (cx X (noL rh') w' h') cr e) a'.defers f w' := by
      intro f hu
      refine runDefers_sound (loc := m1.loc) (dfs := m1.dfs) (e := e1) (n := fn.ntmps) (X := X) fit hrec m1.dfs m1.hp u0 p' w' a'.defers f hd g4.r g4.lt g4.df g4.en hu ?_
      intro p2 w2 f2 k1 k2 k3 k4 k5 k6
      have hall := g2.trans k2
      have hkall : Kept (cx X (noL rh) w h) (cx X p2 w2 h2) := Kept.trans g2 k2 g3 k3
      obtain ⟨hle, hm⟩ := forget k4
      cases u2 with
      | none =>
        simp only [Option.map_eq_some_iff, TR.call.injEq] at he
        obtain ⟨vs, hvs, rfl, rfl⟩ := he
        obtain ⟨u, q1, q2⟩ := results_run k4 k5 hvs
        cases k6
        exact ⟨u, q1, p2.rh, (g1.trans k1).noLr, hall.trans hle, fun id nn a1 a2 a3 a4 => hkall id nn a1 a2 a3 a4, hm, u, rfl, q2.mono hle _ _⟩
      | some q =>
        obtain ⟨v, b⟩ := q
        cases b with
        | true => cases he
        | false =>
          simp only [Option.some.injEq, TR.call.injEq] at he
          obtain ⟨rfl, rfl⟩ := he
          obtain ⟨xv, rfl, hx⟩ := k6
          exact ⟨p2.rh, (g1.trans k1).noLr, hall.trans hle, fun id nn a1 a2 a3 a4 => hkall id nn a1 a2 a3 a4, hm, xv, rfl, hx.mono hle _ _⟩
    cases ex with
    | normal =>
      cases hu0
      cases g5
      exact go .returning rfl
    | ret =>
      cases hu0
      cases g5
      exact go .returning rfl
    | pan v =>
      cases hu0
      obtain ⟨xv, rfl, hx⟩ := g5
      exact go _ ⟨xv, rfl, hx⟩
    | exit i => cases hu0
theorem loop_ok (fit : Fit P) (hrec : Rec2 P rec) {K : FuncId} {c : Code} {s s' : St} {ex : Ex} (he : step P A rec (.loop K c s) = some (.loop ex s')) : LoopOk P c s ex s' := by
  intro n X p w a Q hn h hp
  simp only [step, Option.bind_eq_some_iff] at he
  obtain ⟨⟨ex1, e1, m1⟩, hev, he⟩ := he
  refine loop_round (evalCode_sound (n := n) fit.mix hrec c s.env s.mm ex1 e1 m1 p w a _ hev hn h ?_)
  intro p' w' a' x g1 g2 g3 g4 g5
  cases ex1 with
  | normal =>
    cases g5
    simp only at he
    obtain ⟨h1, h2⟩ := g4.cutLoop (A K) c
    refine hrec.loop _ _ _ _ _ he n X p' w' a' Q hn h1 ?_
    show Post Q X p' w' (Ai.cutLoop (A K) c e1 m1).2.hp _ _ _ n
    rw [h2]
    exact hp.step g1 g2 g3
  | exit i =>
    simp only [Option.some.injEq, TR.loop.injEq] at he
    obtain ⟨rfl, rfl⟩ := he
    have := hp p' w' a' x g1 g2 g3 g4 g5
    cases g5
    exact this
  | ret =>
    simp only [Option.some.injEq, TR.loop.injEq] at he
    obtain ⟨rfl, rfl⟩ := he
    have := hp p' w' a' x g1 g2 g3 g4 g5
    cases g5
    exact this
  | pan v =>
    simp only [Option.some.injEq, TR.loop.injEq] at he
    obtain ⟨rfl, rfl⟩ := he
    have := hp p' w' a' x g1 g2 g3 g4 g5
    obtain ⟨_, rfl, _⟩ := g5
    exact this
theorem rec2_step (fit : Fit P) (hrec : Rec2 P rec) : Rec2 P (step P A rec) := ⟨fun _ _ _ _ _ he => call_ok fit hrec he, fun _ _ _ _ _ he => loop_ok fit hrec he⟩
end
end Go.Ai
