/- A part of the proof (by an AI agent): S3. -/
import Derived.Test.YtjijnkiojpajeaaGreatDoorS2
set_option linter.unusedVariables false
set_option linter.unusedSimpArgs false
set_option maxRecDepth 8000
open Go Go.Ai Go.Proofs
namespace TryzF
theorem SlPage_ok {a b : AV} {l l' : List Int} (ha : Bytes l a) (hb : Bytes l' b) : A (.call 26 [a, b] []) = some (.call (.ret (mkBool (decide (l = l')))) []) := by
  apply arunK
  rw [frame_Equal_2_eq]
  have c1 : ∀ m kp (k : AV → Rs), xPureR A m 27 [a, b] kp k = k (mkBool (decide (l = l'))) := fun m kp k => xPure_sc (by simp [pvs, ha.pv, hb.pv]) (SlBytes_ok ha hb)
  simp [frame_Equal_2, m0_mk, c1, frame_Equal_2_fin]
set_option maxHeartbeats 1000000 in
theorem FnFrames_ok {a b : AV} {l l' : List FrameD} (ha : Frames l a) (hb : Frames l' b) : A (.call 38 [a, b, .fn 23 [] []] []) = some (.call (.ret (mkBool (decide (l = l')))) []) := by
  apply arunK
  rw [slices_EqualFunc_api_Frame_api_Frame_api_Frame_api_Frame_eq]
  simp only [slices_EqualFunc_api_Frame_api_Frame_api_Frame_api_Frame]
  by_cases hl : l.length = l'.length
  · obtain ⟨x, e, lo, h1, h2⟩ := eq_loop (R := A) (T := fun i => .loop 38 (cAt Tryz.prog 38 [1, 1, 0, 1, 0, 0]) ⟨[(1, .v b), (2, .v (.fn 23 [] [])), (15, .v a), (16, .v (mkInt l.length)), (17, .v (.sc (.int .i64 (i : Int))))], m0 []⟩) (h := []) (l := l) (l' := l') (x0 := .exit 0) (eF := [(6, .v (.sc (.bool false)))]) hl
      ⟨_, [], arunK (by rw [slices_EqualFunc_api_Frame_api_Frame_api_Frame_api_Frame_L0_eq]; simp [slices_EqualFunc_api_Frame_api_Frame_api_Frame_api_Frame_L0, ha.len, mkInt, m0_mk]; rfl)⟩
      (fun i c h1 h2 r hr => arunK (by
        have hlt := lt_of_get h1
        obtain ⟨s1, c1, g1, ⟨q1, q2, rfl, w1, w2⟩, n1, v1, g2, _, _⟩ := ha.at_ (by omega) h1 (m := ⟨[], [], []⟩)
        obtain ⟨s2, c2, g3, ⟨q3, q4, rfl, w3, w4⟩, n2, v2, g4, _, _⟩ := hb.at_ (by omega) h2 (m := ⟨[(0, .cells [mkInt c.fn, mkInt c.pc, q1, q2])], [], []⟩)
        have hc : ∀ lo kp (k : AV → Mm → Rs), xCallR A ⟨lo, [], []⟩ 23 [.agg [mkInt c.fn, mkInt c.pc, q1, q2], .agg [mkInt c.fn, mkInt c.pc, q3, q4]] kp k = k (mkBool (decide (c = c))) ⟨lo, [], []⟩ := fun lo kp k => xCall_of (SlFrame_ok ⟨_, _, rfl, w1, w2⟩ ⟨_, _, rfl, w3, w4⟩)
        rw [slices_EqualFunc_api_Frame_api_Frame_api_Frame_api_Frame_L0_eq]
        simp only [mkInt] at hc g2 g4 g3
        simp [slices_EqualFunc_api_Frame_api_Frame_api_Frame_api_Frame_L0, ha.len, mkInt, hlt, m0_mk, g1, g2, g3, g4, hc, zc40, splice, lkeep_cons]
        rw [inc i (by have := ha.room; omega)]
        exact hr))
      (fun i c d h1 h2 hcd => by
        have hlt := lt_of_get h1
        obtain ⟨s1, c1, g1, ⟨q1, q2, rfl, w1, w2⟩, n1, v1, g2, _, _⟩ := ha.at_ (by omega) h1 (m := ⟨[], [], []⟩)
        obtain ⟨s2, c2, g3, ⟨q3, q4, rfl, w3, w4⟩, n2, v2, g4, _, _⟩ := hb.at_ (by omega) h2 (m := ⟨[(0, .cells [mkInt c.fn, mkInt c.pc, q1, q2])], [], []⟩)
        have hc : ∀ lo kp (k : AV → Mm → Rs), xCallR A ⟨lo, [], []⟩ 23 [.agg [mkInt c.fn, mkInt c.pc, q1, q2], .agg [mkInt d.fn, mkInt d.pc, q3, q4]] kp k = k (mkBool (decide (c = d))) ⟨lo, [], []⟩ := fun lo kp k => xCall_of (SlFrame_ok ⟨_, _, rfl, w1, w2⟩ ⟨_, _, rfl, w3, w4⟩)
        refine ⟨?_, arunK ?_⟩
        rotate_left
        rw [slices_EqualFunc_api_Frame_api_Frame_api_Frame_api_Frame_L0_eq]
        simp only [mkInt] at hc g2 g4 g3
        simp [slices_EqualFunc_api_Frame_api_Frame_api_Frame_api_Frame_L0, ha.len, mkInt, hlt, m0_mk, g1, g2, g3, g4, hc, hcd, zc40, splice, lkeep_cons]
        rfl)
    have h1 : A (.loop 38 (cAt Tryz.prog 38 [1, 1, 0, 1, 0, 0]) ⟨[(1, .v b), (2, .v (.fn 23 [] [])), (15, .v a), (16, .v (mkInt l.length)), (17, .v (.sc (.int .i64 0)))], m0 []⟩) = some (.loop x ⟨e, ⟨lo, [], []⟩⟩) := h1
    simp [ha.len, hb.len, hl, mkInt] at h1 ⊢
    rw [xLoop_of h1]
    rcases h2 with ⟨h2, rfl⟩ | ⟨h2, rfl, rfl⟩
    · simp [h2, slices_EqualFunc_api_Frame_api_Frame_api_Frame_api_Frame_fin]
      rfl
    · simp [h2, slices_EqualFunc_api_Frame_api_Frame_api_Frame_api_Frame_fin]
      rfl
  · have : l ≠ l' := fun e => hl (by rw [e])
    have h2 : ¬ ((l.length : Int) = l'.length) := by omega
    simp [ha.len, hb.len, h2, mkInt, this, m0_mk, slices_EqualFunc_api_Frame_api_Frame_api_Frame_api_Frame_fin]
    rfl
theorem FnPages_ok {a b : AV} {l l' : List (List Int)} (ha : Pages l a) (hb : Pages l' b) : A (.call 39 [a, b, .fn 26 [] []] []) = some (.call (.ret (mkBool (decide (l = l')))) []) := by
  apply arunK
  rw [slices_EqualFunc_byte_byte_byte_byte_eq]
  simp only [slices_EqualFunc_byte_byte_byte_byte]
  by_cases hl : l.length = l'.length
  · obtain ⟨x, e, lo, h1, h2⟩ := eq_loop (R := A) (T := fun i => .loop 39 (cAt Tryz.prog 39 [1, 1, 0, 1, 0, 0]) ⟨[(1, .v b), (2, .v (.fn 26 [] [])), (15, .v a), (16, .v (mkInt l.length)), (17, .v (.sc (.int .i64 (i : Int))))], m0 []⟩) (h := []) (l := l) (l' := l') (x0 := .exit 0) (eF := [(6, .v (.sc (.bool false)))]) hl
      ⟨_, [], arunK (by rw [slices_EqualFunc_byte_byte_byte_byte_L0_eq]; simp [slices_EqualFunc_byte_byte_byte_byte_L0, ha.len, mkInt, m0_mk]; rfl)⟩
      (fun i c h1 h2 r hr => arunK (by
        have hlt := lt_of_get h1
        obtain ⟨s1, c1, g1, ⟨p1, rfl, k1⟩, _, v1, _, _, g2⟩ := ha.at_ (by omega) h1 (m := ⟨[], [], []⟩)
        obtain ⟨s2, c2, g3, ⟨p2, rfl, k2⟩, _, v2, _, _, g4⟩ := hb.at_ (by omega) h2 (m := ⟨[], [], []⟩)
        have g2 := g2 _ rfl
        have g4 := g4 _ rfl
        have hc : ∀ lo kp (k : AV → Mm → Rs), xCallR A ⟨lo, [], []⟩ 26 [p1, p2] kp k = k (mkBool (decide (c = c))) ⟨lo, [], []⟩ := fun lo kp k => xCall_of (SlPage_ok k1 k2)
        rw [slices_EqualFunc_byte_byte_byte_byte_L0_eq]
        simp [slices_EqualFunc_byte_byte_byte_byte_L0, ha.len, mkInt, hlt, m0_mk, g1, g2, g3, g4, hc]
        rw [inc i (by have := ha.room; omega)]
        exact hr))
      (fun i c d h1 h2 hcd => by
        have hlt := lt_of_get h1
        obtain ⟨s1, c1, g1, ⟨p1, rfl, k1⟩, _, v1, _, _, g2⟩ := ha.at_ (by omega) h1 (m := ⟨[], [], []⟩)
        obtain ⟨s2, c2, g3, ⟨p2, rfl, k2⟩, _, v2, _, _, g4⟩ := hb.at_ (by omega) h2 (m := ⟨[], [], []⟩)
        have g2 := g2 _ rfl
        have g4 := g4 _ rfl
        have hc : ∀ lo kp (k : AV → Mm → Rs), xCallR A ⟨lo, [], []⟩ 26 [p1, p2] kp k = k (mkBool (decide (c = d))) ⟨lo, [], []⟩ := fun lo kp k => xCall_of (SlPage_ok k1 k2)
        refine ⟨?_, arunK ?_⟩
        rotate_left
        rw [slices_EqualFunc_byte_byte_byte_byte_L0_eq]
        simp [slices_EqualFunc_byte_byte_byte_byte_L0, ha.len, mkInt, hlt, m0_mk, g1, g2, g3, g4, hc, hcd]
        rfl)
    have h1 : A (.loop 39 (cAt Tryz.prog 39 [1, 1, 0, 1, 0, 0]) ⟨[(1, .v b), (2, .v (.fn 26 [] [])), (15, .v a), (16, .v (mkInt l.length)), (17, .v (.sc (.int .i64 0)))], m0 []⟩) = some (.loop x ⟨e, ⟨lo, [], []⟩⟩) := h1
    simp [ha.len, hb.len, hl, mkInt] at h1 ⊢
    rw [xLoop_of h1]
    rcases h2 with ⟨h2, rfl⟩ | ⟨h2, rfl, rfl⟩
    · simp [h2, slices_EqualFunc_byte_byte_byte_byte_fin]
      rfl
    · simp [h2, slices_EqualFunc_byte_byte_byte_byte_fin]
      rfl
  · have : l ≠ l' := fun e => hl (by rw [e])
    have h2 : ¬ ((l.length : Int) = l'.length) := by omega
    simp [ha.len, hb.len, h2, mkInt, this, m0_mk, slices_EqualFunc_byte_byte_byte_byte_fin]
    rfl
theorem AlikeFrames_ok {a b : AV} {l l' : List FrameD} (ha : Frames l a) (hb : Frames l' b) : A (.call 22 [a, b, .fn 23 [] []] []) = some (.call (.ret (mkBool (decide (l = l')))) []) := by
  apply arunK
  rw [frame_alike_api_Frame_eq]
  have c1 : ∀ m kp (k : AV → Rs), xPureR A m 38 [a, b, .fn 23 [] []] kp k = k (mkBool (decide (l = l'))) := fun m kp k => xPure_sc (by simp [pvs, pv, ha.pv, hb.pv]) (FnFrames_ok ha hb)
  simp [frame_alike_api_Frame, m0_mk, c1, frame_alike_api_Frame_fin]
theorem AlikePages_ok {a b : AV} {l l' : List (List Int)} (ha : Pages l a) (hb : Pages l' b) : A (.call 25 [a, b, .fn 26 [] []] []) = some (.call (.ret (mkBool (decide (l = l')))) []) := by
  apply arunK
  rw [frame_alike_byte_eq]
  have c1 : ∀ m kp (k : AV → Rs), xPureR A m 39 [a, b, .fn 26 [] []] kp k = k (mkBool (decide (l = l'))) := fun m kp k => xPure_sc (by simp [pvs, pv, ha.pv, hb.pv]) (FnPages_ok ha hb)
  simp [frame_alike_byte, m0_mk, c1, frame_alike_byte_fin]
end TryzF
