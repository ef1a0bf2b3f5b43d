/- A part of the proof (by an AI agent): S2. -/
import Derived.Test.YtjijnkiojpajeaaGreatDoorS1
set_option linter.unusedVariables false
set_option linter.unusedSimpArgs false
set_option maxRecDepth 8000
open Go Go.Ai Go.Proofs
namespace TryzF
theorem FrameD.ext_iff' {f g : FrameD} : f = g ↔ f.fn = g.fn ∧ f.pc = g.pc ∧ f.locals = g.locals ∧ f.stack = g.stack := by
  cases f; cases g; simp
set_option maxHeartbeats 1000000 in
theorem EqFrame_ok {c d : List AV} {f g : FrameD} (h1 : FrameC c f) (h2 : FrameC d g) : A (.call 36 [.agg c, .agg d] []) = some (.call (.ret (mkBool (decide (f = g)))) []) := by
  obtain ⟨a, b, rfl, ha, hb⟩ := h1
  obtain ⟨a', b', rfl, ha', hb'⟩ := h2
  apply arunK
  rw [flagonref00_EqFrame_eq]
  have p1 : pvs [a, a'] = true := by simp [pvs, ha.pv, ha'.pv]
  have p2 : pvs [b, b'] = true := by simp [pvs, hb.pv, hb'.pv]
  have c1 : ∀ m kp (k : AV → Option OR), xPureR A m 20 [a, a'] kp k = k (mkBool (decide (f.locals = g.locals))) := fun m kp k => xPure_sc p1 (EqWords_ok ha ha')
  have c2 : ∀ m kp (k : AV → Option OR), xPureR A m 20 [b, b'] kp k = k (mkBool (decide (f.stack = g.stack))) := fun m kp k => xPure_sc p2 (EqWords_ok hb hb')
  simp only [FrameD.ext_iff']
  by_cases e0 : f.fn = g.fn
  rotate_left
  · simp [flagonref00_EqFrame, m0_mk, mkInt, opvsL, c1, c2, flagonref00_EqFrame_fin, e0]; try rfl
  by_cases e1 : f.pc = g.pc
  rotate_left
  · simp [flagonref00_EqFrame, m0_mk, mkInt, opvsL, c1, c2, flagonref00_EqFrame_fin, e0, e1]; try rfl
  by_cases e2 : f.locals = g.locals
  rotate_left
  · simp [flagonref00_EqFrame, m0_mk, mkInt, opvsL, c1, c2, flagonref00_EqFrame_fin, e0, e1, e2]; try rfl
  by_cases e3 : f.stack = g.stack
  rotate_left
  · simp [flagonref00_EqFrame, m0_mk, mkInt, opvsL, c1, c2, flagonref00_EqFrame_fin, e0, e1, e2, e3]; try rfl
  simp [flagonref00_EqFrame, m0_mk, mkInt, opvsL, c1, c2, flagonref00_EqFrame_fin, e0, e1, e2, e3]; try rfl
set_option maxHeartbeats 1000000 in
theorem SlFrame_ok {c d : List AV} {f g : FrameD} (h1 : FrameC c f) (h2 : FrameC d g) : A (.call 23 [.agg c, .agg d] []) = some (.call (.ret (mkBool (decide (f = g)))) []) := by
  obtain ⟨a, b, rfl, ha, hb⟩ := h1
  obtain ⟨a', b', rfl, ha', hb'⟩ := h2
  apply arunK
  rw [frame_Equal_1_eq]
  have p1 : pvs [a, a'] = true := by simp [pvs, ha.pv, ha'.pv]
  have p2 : pvs [b, b'] = true := by simp [pvs, hb.pv, hb'.pv]
  have c1 : ∀ m kp (k : AV → Option OR), xPureR A m 24 [a, a'] kp k = k (mkBool (decide (f.locals = g.locals))) := fun m kp k => xPure_sc p1 (SlWords_ok ha ha')
  have c2 : ∀ m kp (k : AV → Option OR), xPureR A m 24 [b, b'] kp k = k (mkBool (decide (f.stack = g.stack))) := fun m kp k => xPure_sc p2 (SlWords_ok hb hb')
  simp only [FrameD.ext_iff']
  by_cases e0 : f.fn = g.fn
  rotate_left
  · simp [frame_Equal_1, m0_mk, mkInt, opvsL, c1, c2, frame_Equal_1_fin, e0]; try rfl
  by_cases e1 : f.pc = g.pc
  rotate_left
  · simp [frame_Equal_1, m0_mk, mkInt, opvsL, c1, c2, frame_Equal_1_fin, e0, e1]; try rfl
  by_cases e2 : f.locals = g.locals
  rotate_left
  · simp [frame_Equal_1, m0_mk, mkInt, opvsL, c1, c2, frame_Equal_1_fin, e0, e1, e2]; try rfl
  by_cases e3 : f.stack = g.stack
  rotate_left
  · simp [frame_Equal_1, m0_mk, mkInt, opvsL, c1, c2, frame_Equal_1_fin, e0, e1, e2, e3]; try rfl
  simp [frame_Equal_1, m0_mk, mkInt, opvsL, c1, c2, frame_Equal_1_fin, e0, e1, e2, e3]; try rfl
theorem EqFrames_ok {a b : AV} {l l' : List FrameD} (ha : Frames l a) (hb : Frames l' b) : A (.call 19 [a, b] []) = some (.call (.ret (mkBool (decide (l = l')))) []) := by
  apply arunK
  rw [flagonref00_EqFrames_eq]
  simp only [flagonref00_EqFrames]
  by_cases hl : l.length = l'.length
  · obtain ⟨x, e, lo, h1, h2⟩ := eq_loop (R := A) (T := fun i => .loop 19 (cAt Tryz.prog 19 [1, 1, 0, 1, 0, 0]) ⟨[(0, .v a), (1, .v b), (5, .v (.sc (.int .i64 (i : Int))))], m0 []⟩) (h := []) (l := l) (l' := l') (x0 := .exit 0) (eF := [(4, .v (.sc (.bool false)))]) hl
      ⟨_, [], arunK (by rw [flagonref00_EqFrames_L0_eq]; simp [flagonref00_EqFrames_L0, ha.len, mkInt, m0_mk]; rfl)⟩
      (fun i c h1 h2 r hr => arunK (by
        have hlt := lt_of_get h1
        obtain ⟨s1, c1, g1, k1, n1, v1, g2, _, _⟩ := ha.at_ (by omega) h1 (m := ⟨[], [], []⟩)
        obtain ⟨s2, c2, g3, k2, n2, v2, g4, _, _⟩ := hb.at_ (by omega) h2 (m := ⟨[], [], []⟩)
        have hc : ∀ kp k, xPureR A ⟨[], [], []⟩ 36 [.agg c1, .agg c2] kp k = k (mkBool (decide (c = c))) := fun kp k => xPure_sc (X := Ex × Env × Mm) (by simp [pvs, pv, v1, v2]) (EqFrame_ok k1 k2)
        rw [flagonref00_EqFrames_L0_eq]
        simp [flagonref00_EqFrames_L0, ha.len, mkInt, hlt, m0_mk, g1, g2, g3, g4, hc]
        rw [inc i (by have := ha.room; omega)]
        exact hr))
      (fun i c d h1 h2 hcd => ⟨[], arunK (by
        have hlt := lt_of_get h1
        obtain ⟨s1, c1, g1, k1, n1, v1, g2, _, _⟩ := ha.at_ (by omega) h1 (m := ⟨[], [], []⟩)
        obtain ⟨s2, c2, g3, k2, n2, v2, g4, _, _⟩ := hb.at_ (by omega) h2 (m := ⟨[], [], []⟩)
        have hc : ∀ kp k, xPureR A ⟨[], [], []⟩ 36 [.agg c1, .agg c2] kp k = k (mkBool (decide (c = d))) := fun kp k => xPure_sc (X := Ex × Env × Mm) (by simp [pvs, pv, v1, v2]) (EqFrame_ok k1 k2)
        rw [flagonref00_EqFrames_L0_eq]
        simp [flagonref00_EqFrames_L0, ha.len, mkInt, hlt, m0_mk, hcd, g1, g2, g3, g4, hc])⟩)
    have h1 : A (.loop 19 (cAt Tryz.prog 19 [1, 1, 0, 1, 0, 0]) ⟨[(0, .v a), (1, .v b), (5, .v (.sc (.int .i64 0)))], m0 []⟩) = some (.loop x ⟨e, ⟨lo, [], []⟩⟩) := h1
    simp [ha.len, hb.len, hl, mkInt] at h1 ⊢
    rw [xLoop_of h1]
    rcases h2 with ⟨h2, rfl⟩ | ⟨h2, rfl, rfl⟩
    · simp [h2, flagonref00_EqFrames_fin]
      rfl
    · simp [h2, flagonref00_EqFrames_fin]
      rfl
  · have : l ≠ l' := fun e => hl (by rw [e])
    have h2 : ¬ ((l.length : Int) = l'.length) := by omega
    simp [ha.len, hb.len, h2, mkInt, this, m0_mk, flagonref00_EqFrames_fin]
    rfl
end TryzF
