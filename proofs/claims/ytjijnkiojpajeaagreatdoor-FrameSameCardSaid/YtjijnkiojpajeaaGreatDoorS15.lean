/- A part of the proof (by an AI agent): S15. -/
import Derived.Test.YtjijnkiojpajeaaGreatDoorS14
import Derived.Test.YtjijnkiojpajeaaGreatDoorS9
set_option linter.unusedVariables false
set_option linter.unusedSimpArgs false
set_option maxRecDepth 8000
open Go Go.Ai Go.Proofs
namespace TryzF
theorem StateC.pv' {c : List AV} {s : StateD} (h : StateC c s) : pvs c = true := by
  obtain ⟨fr, gl, pg, rs, rfl, hfr, hgl, hpg, hrs⟩ := h
  simp [pvs, pv, hfr.pv, hgl.pv, hpg.pv, hrs.pv, mkInt, i8]
theorem StateC.len' {c : List AV} {s : StateD} (h : StateC c s) : c.length = 8 := by
  obtain ⟨fr, gl, pg, rs, rfl, _⟩ := h
  rfl
theorem height_le (s : StateD) : s.height ≤ s.size := by
  unfold StateD.height StateD.size framesSize
  have : ∀ l : List FrameD, (l.map fun f => f.stack.length).sum ≤ (l.map fun f => f.locals.length + f.stack.length).sum := by
    intro l
    induction l with
    | nil => simp
    | cons f l ih => simp only [List.map_cons, List.sum_cons]; omega
  have := this s.frames
  omega
theorem not_long {s : StateD} (h : s.long = false) : s.Small := by
  unfold StateD.long at h
  simp only [Bool.or_eq_false_iff, decide_eq_false_iff_not] at h
  unfold StateD.Small
  omega
theorem wr_all {cs new : List AV} (h : new.length = cs.length) (h0 : new ≠ []) : wrCells cs 0 new = some new := by
  match new, h, h0 with
  | [v], h, _ =>
    match cs, h with
    | [w], _ => rfl
  | v :: w :: r, h, _ =>
    rw [wrCells_more, if_pos (by omega)]
    simp [splice, ← h]
set_option maxHeartbeats 4000000 in
theorem FrameSame_ok {ca cb : List AV} {s t : StateD} (ha : StateC ca s) (hb : StateC cb t) : ∃ h', A (.call 3 [.agg ca, .agg cb] []) = some (.call (.ret (mkBool true)) h') := by
  have va := ha.pv'
  have vb := hb.pv'
  have na := ha.len'
  have nb := hb.len'
  obtain ⟨hw, w1⟩ := works_ok
  have cw : ∀ (X : Type) m kp (k : AV → Option X), xPureR A m 5 [] kp k = k (mkBool true) := fun X m kp k => xPure_sc rfl w1
  have cl1 : ∀ (X : Type) m kp (k : AV → Option X), xPureR A m 4 [.agg [.nils, .nils, .nils, mkInt 0, mkInt 0, .nils, .nils, .nils], .nils, .agg ca] kp k = k (mkBool s.long) := fun X m kp k => xPure_sc (by simp [pvs, pv, va, mkInt]) (long_ok ha)
  have cl2 : ∀ (X : Type) m kp (k : AV → Option X), xPureR A m 4 [.agg [.nils, .nils, .nils, mkInt 0, mkInt 0, .nils, .nils, .nils], .nils, .agg cb] kp k = k (mkBool t.long) := fun X m kp k => xPure_sc (by simp [pvs, pv, vb, mkInt]) (long_ok hb)
  simp only [mkInt] at cl1 cl2
  have tka : ca.take 8 = ca := by rw [← na, List.take_length]
  have tkb : cb.take 8 = cb := by rw [← nb, List.take_length]
  cases hl1 : s.long with
  | true =>
    rw [hl1] at cl1
    refine ⟨[], arunK ?_⟩
    rw [flagonlaw14_FrameSame_eq]
    simp [flagonlaw14_FrameSame, m0_mk, zc36, na, nb, tka, tkb, cl1, cw, mkBool, flagonlaw14_FrameSame_fin]
  | false =>
    rw [hl1] at cl1
    cases hl2 : t.long with
    | true =>
      rw [hl2] at cl2
      refine ⟨[], arunK ?_⟩
      rw [flagonlaw14_FrameSame_eq]
      simp [flagonlaw14_FrameSame, m0_mk, zc36, na, nb, tka, tkb, cl1, cl2, cw, mkBool, opvsL, flagonlaw14_FrameSame_fin]
    | false =>
      rw [hl2] at cl2
      have hs := not_long hl1
      obtain ⟨b1, b2, b3, b4, b5⟩ := hs.bounds
      have hfe := fun f hf => And.intro (Nat.le_trans (Nat.le_mul_of_pos_right _ (by omega)) (b2 f hf).1) (Nat.le_trans (Nat.le_mul_of_pos_right _ (by omega)) (b2 f hf).2)
      obtain ⟨fr, gl, pg, rs, h, e1, sp⟩ := Copy_ok ha hs
      have hh : s.height ≤ 2 ^ 60 := by
        have := height_le s
        unfold StateD.Small at hs
        omega
      have hpe : ∀ p ∈ s.pages, p.length ≤ room := by
        obtain ⟨_, _, pg0, _, _, _, _, hpg0, _⟩ := ha
        exact Pages.each hpg0
      obtain ⟨c', tr, sc⟩ := StateO.tree (bw := true) (n := 17) (h := h) (c := cst fr gl pg rs s) ⟨fr, gl, pg, rs, rfl, sp.fr, sp.gl, sp.pg, sp.rs⟩ (by omega) hfe (by omega) (by omega) hpe (by omega)
      have lk : ∀ x : List AV, pvs x = true → lend h [.agg (cst fr gl pg rs s), .agg x] = some [.agg c', .agg x] := fun x hx => by
        cases h with
        | nil =>
          have no : ∀ {α : Type} {Q : List AV → α → Prop} {size : Nat} {l : List α} {a : AV}, LiO [] size Q l a → a = .nils := by
            intro α Q size l a o
            rcases o with ⟨e, _⟩ | ⟨id, cs, _, e, _⟩
            · exact e
            · simp at e
          have e1 := no sp.fr
          have e2 := no sp.gl
          have e3 := no sp.pg
          have e4 := no sp.rs
          subst e1 e2 e3 e4
          simp [cst, mkInt, i8] at tr
          simp [cst, mkInt, i8, lend, ← tr]
        | cons y r =>
          rw [lend_cons, mapOwns_cons, tr, Option.bind_some, mapOwns_cons, mapOwn_pv (.agg x) (by simpa [pv] using hx)]
          rfl
      have q1 : ∀ (X : Type) lo kp (k : AV → Option X), xPureR A ⟨lo, h, []⟩ 7 [.agg (cst fr gl pg rs s), .agg ca] kp k = k (mkBool (decide (s = s))) := fun X lo kp k => xPure_of (lk ca va) (EqState_ok sc ha) give_sc
      have q2 : ∀ (X : Type) m kp (k : AV → Option X), xPureR A m 8 [.agg ca, .agg cb] kp k = k (mkBool (decide (s = t))) := fun X m kp k => xPure_sc (by simp [pvs, pv, va, vb]) (Equal_ok ha hb)
      have q3 : ∀ (X : Type) m kp (k : AV → Option X), xPureR A m 7 [.agg ca, .agg cb] kp k = k (mkBool (decide (s = t))) := fun X m kp k => xPure_sc (by simp [pvs, pv, va, vb]) (EqState_ok ha hb)
      have q4 : ∀ (X : Type) lo kp (k : AV → Option X), xPureR A ⟨lo, h, []⟩ 8 [.agg (cst fr gl pg rs s), .agg ca] kp k = k (mkBool (decide (s = s))) := fun X lo kp k => xPure_of (lk ca va) (Equal_ok sc ha) give_sc
      have q5 : ∀ (X : Type) m kp (k : AV → Option X), xPureR A m 9 [.agg ca] kp k = k (mkInt s.height) := fun X m kp k => xPure_sc (by simp [pvs, pv, va]) (Height_ok ha hh)
      obtain ⟨ck, gk, sk⟩ := CopyState_ok ha hs
      have q6 : ∀ (X : Type) m kp (k : AV → Option X), xPureR A m 10 [.agg ca] kp k = k (.agg ck) := fun X m kp k => gk.pure (by simp [pvs, pv, va])
      have nk := sk.len'
      have tkk : ck.take 8 = ck := by rw [← nk, List.take_length]
      have q7 : ∀ (X : Type) m kp (k : AV → Option X), xPureR A m 7 [.agg ck, .agg ca] kp k = k (mkBool (decide (s = s))) := fun X m kp k => xPure_sc (by simp [pvs, pv, va, sk.pv']) (EqState_ok sk ha)
      have qc : ∀ (X : Type) lo kp (k : AV → Mm → Option X), xCallR A ⟨lo, [], []⟩ 6 [.agg ca] kp k = k (.agg (cst fr gl pg rs s)) ⟨lo, h, []⟩ := fun X lo kp k => xCall_of e1
      obtain ⟨f0, ⟨z2, z3, z5, z6⟩, l0⟩ := L0_ok (cb := cb) (cc := cst fr gl pg rs s) (hp := h) ha hh
      have i0 : Inv s fr gl pg rs h := ⟨s, sp, Like.refl s⟩
      obtain ⟨h1, f1, i1, ⟨a2, a5, a8⟩, l1⟩ := L1_ok (ca := ca) (ck := ck) (by omega) hfe i0
      obtain ⟨h2, f2, i2, ⟨a12, a15, a18⟩, l2⟩ := L4_ok (ca := ca) (ck := ck) (by omega) hpe i1
      obtain ⟨h3, f3, i3, ⟨a22, a25, a28⟩, l3⟩ := L6_ok (ca := ca) (ck := ck) (by omega) i2
      obtain ⟨h4, f4, i4, ⟨a32, a35, a38⟩, l4⟩ := L7_ok (ca := ca) (ck := ck) (by omega) i3
      have x0 : ∀ k, xLoop A _ k = _ := fun k => xLoop_of l0
      have x1 : ∀ k, xLoop A _ k = _ := fun k => xLoop_of l1
      have x2 : ∀ k, xLoop A _ k = _ := fun k => xLoop_of l2
      have x3 : ∀ k, xLoop A _ k = _ := fun k => xLoop_of l3
      have x4 : ∀ k, xLoop A _ k = _ := fun k => xLoop_of l4
      have ncs : (cst fr gl pg rs s).length = 8 := rfl
      have tkc : (cst fr gl pg rs s).take 8 = cst fr gl pg rs s := rfl
      have wc : wrCells [AV.nils, AV.nils, AV.nils, AV.sc (Value.int IntKind.i64 0), AV.sc (Value.int IntKind.i8 0), AV.nils, AV.sc (Value.int IntKind.i8 0), AV.sc (Value.int IntKind.i64 0)] 0 (cst fr gl pg rs s) = some (cst fr gl pg rs s) := wr_all rfl (by simp [cst])
      have wk : wrCells [AV.nils, AV.nils, AV.nils, AV.sc (Value.int IntKind.i64 0), AV.sc (Value.int IntKind.i8 0), AV.nils, AV.sc (Value.int IntKind.i8 0), AV.sc (Value.int IntKind.i64 0)] 0 ck = some ck := wr_all (by rw [nk]; rfl) (by intro e; rw [e] at nk; cases nk)
      refine ⟨h4, arunK ?_⟩
      rw [flagonlaw14_FrameSame_eq]
      simp only [mkInt] at q5 z6
      have LOe : ([(0, LObj.cells ca), (2, .cells (cst fr gl pg rs s)), (3, .cells ck)] : Ai.Loc) = LO ca ck (cst fr gl pg rs s) := rfl
      simp [flagonlaw14_FrameSame, m0_mk, zc36, zc27, na, nb, nk, ncs, tka, tkb, tkk, cl1, cl2, cw, mkBool, opvsL, flagonlaw14_FrameSame_fin, qc, x0, z2, z3, z5, z6, q1, q2, q3, q4, q5, q6, q7, lkeep_cons, splice, wc, wk, tkc]
      rw [LOe]
      simp [x1, a2, a5, a8, x2, a12, a15, a18, x3, a22, a25, a28, x4, a32, a35, a38, q7, nk, na, tkk, tka, flagonlaw14_FrameSame_fin, mkBool]
end TryzF
