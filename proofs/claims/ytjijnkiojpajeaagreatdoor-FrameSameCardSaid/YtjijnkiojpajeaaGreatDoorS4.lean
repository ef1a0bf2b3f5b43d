/- A part of the proof (by an AI agent): S4. -/
import Derived.Test.YtjijnkiojpajeaaGreatDoorS3
set_option linter.unusedVariables false
set_option linter.unusedSimpArgs false
set_option maxRecDepth 8000
open Go Go.Ai Go.Proofs
namespace TryzF
theorem StateD.ext1 {s t : StateD} : s = t ↔ s.replies = t.replies ∧ s.end_ = t.end_ ∧ s.trap = t.trap ∧ s.used = t.used ∧ s.frames = t.frames ∧ s.globals = t.globals ∧ s.pages = t.pages ∧ s.results = t.results := by
  cases s; cases t; simp only [StateD.mk.injEq]; constructor <;> (rintro ⟨h1, h2, h3, h4, h5, h6, h7, h8⟩; simp only [h1, h2, h3, h4, h5, h6, h7, h8, and_self])
theorem StateD.ext2 {s t : StateD} : s = t ↔ s.frames = t.frames ∧ s.pages = t.pages ∧ s.globals = t.globals ∧ s.results = t.results ∧ s.replies = t.replies ∧ s.end_ = t.end_ ∧ s.trap = t.trap ∧ s.used = t.used := by
  cases s; cases t; simp only [StateD.mk.injEq]; constructor <;> (rintro ⟨h1, h2, h3, h4, h5, h6, h7, h8⟩; simp only [h1, h2, h3, h4, h5, h6, h7, h8, and_self])
set_option maxHeartbeats 4000000 in
theorem EqState_ok {c d : List AV} {s t : StateD} (h1 : StateC c s) (h2 : StateC d t) : A (.call 7 [.agg c, .agg d] []) = some (.call (.ret (mkBool (decide (s = t)))) []) := by
  obtain ⟨fr, gl, pg, rs, rfl, hfr, hgl, hpg, hrs⟩ := h1
  obtain ⟨fr', gl', pg', rs', rfl, hfr', hgl', hpg', hrs'⟩ := h2
  apply arunK
  rw [flagonref00_EqState_eq]
  have c1 : ∀ m kp (k : AV → Option OR), xPureR A m 19 [fr, fr'] kp k = k (mkBool (decide (s.frames = t.frames))) := fun m kp k => xPure_sc (by simp [pvs, pv, hfr.pv, hfr'.pv]) (EqFrames_ok hfr hfr')
  have c2 : ∀ m kp (k : AV → Option OR), xPureR A m 20 [gl, gl'] kp k = k (mkBool (decide (s.globals = t.globals))) := fun m kp k => xPure_sc (by simp [pvs, pv, hgl.pv, hgl'.pv]) (EqWords_ok hgl hgl')
  have c3 : ∀ m kp (k : AV → Option OR), xPureR A m 21 [pg, pg'] kp k = k (mkBool (decide (s.pages = t.pages))) := fun m kp k => xPure_sc (by simp [pvs, pv, hpg.pv, hpg'.pv]) (EqPages_ok hpg hpg')
  have c4 : ∀ m kp (k : AV → Option OR), xPureR A m 20 [rs, rs'] kp k = k (mkBool (decide (s.results = t.results))) := fun m kp k => xPure_sc (by simp [pvs, pv, hrs.pv, hrs'.pv]) (EqWords_ok hrs hrs')
  simp only [StateD.ext1]
  by_cases e0 : s.replies = t.replies
  rotate_left
  · simp [flagonref00_EqState, m0_mk, mkInt, i8, opvsL, c1, c2, c3, c4, flagonref00_EqState_fin, e0]; try rfl
  by_cases e1 : s.end_ = t.end_
  rotate_left
  · simp [flagonref00_EqState, m0_mk, mkInt, i8, opvsL, c1, c2, c3, c4, flagonref00_EqState_fin, e0, e1]; try rfl
  by_cases e2 : s.trap = t.trap
  rotate_left
  · simp [flagonref00_EqState, m0_mk, mkInt, i8, opvsL, c1, c2, c3, c4, flagonref00_EqState_fin, e0, e1, e2]; try rfl
  by_cases e3 : s.used = t.used
  rotate_left
  · simp [flagonref00_EqState, m0_mk, mkInt, i8, opvsL, c1, c2, c3, c4, flagonref00_EqState_fin, e0, e1, e2, e3]; try rfl
  by_cases e4 : s.frames = t.frames
  rotate_left
  · simp [flagonref00_EqState, m0_mk, mkInt, i8, opvsL, c1, c2, c3, c4, flagonref00_EqState_fin, e0, e1, e2, e3, e4]; try rfl
  by_cases e5 : s.globals = t.globals
  rotate_left
  · simp [flagonref00_EqState, m0_mk, mkInt, i8, opvsL, c1, c2, c3, c4, flagonref00_EqState_fin, e0, e1, e2, e3, e4, e5]; try rfl
  by_cases e6 : s.pages = t.pages
  rotate_left
  · simp [flagonref00_EqState, m0_mk, mkInt, i8, opvsL, c1, c2, c3, c4, flagonref00_EqState_fin, e0, e1, e2, e3, e4, e5, e6]; try rfl
  by_cases e7 : s.results = t.results
  rotate_left
  · simp [flagonref00_EqState, m0_mk, mkInt, i8, opvsL, c1, c2, c3, c4, flagonref00_EqState_fin, e0, e1, e2, e3, e4, e5, e6, e7]; try rfl
  simp [flagonref00_EqState, m0_mk, mkInt, i8, opvsL, c1, c2, c3, c4, flagonref00_EqState_fin, e0, e1, e2, e3, e4, e5, e6, e7]; try rfl
set_option maxHeartbeats 4000000 in
theorem Equal_ok {c d : List AV} {s t : StateD} (h1 : StateC c s) (h2 : StateC d t) : A (.call 8 [.agg c, .agg d] []) = some (.call (.ret (mkBool (decide (s = t)))) []) := by
  obtain ⟨fr, gl, pg, rs, rfl, hfr, hgl, hpg, hrs⟩ := h1
  obtain ⟨fr', gl', pg', rs', rfl, hfr', hgl', hpg', hrs'⟩ := h2
  apply arunK
  rw [frame_Equal_eq]
  have c1 : ∀ m kp (k : AV → Option (Ex × Env × Mm)), xPureR A m 22 [fr, fr', .fn 23 [] []] kp k = k (mkBool (decide (s.frames = t.frames))) := fun m kp k => xPure_sc (by simp [pvs, pv, hfr.pv, hfr'.pv]) (AlikeFrames_ok hfr hfr')
  have c2 : ∀ m kp (k : AV → Option OR), xPureR A m 24 [gl, gl'] kp k = k (mkBool (decide (s.globals = t.globals))) := fun m kp k => xPure_sc (by simp [pvs, pv, hgl.pv, hgl'.pv]) (SlWords_ok hgl hgl')
  have c3 : ∀ m kp (k : AV → Option (Ex × Env × Mm)), xPureR A m 25 [pg, pg', .fn 26 [] []] kp k = k (mkBool (decide (s.pages = t.pages))) := fun m kp k => xPure_sc (by simp [pvs, pv, hpg.pv, hpg'.pv]) (AlikePages_ok hpg hpg')
  have c4 : ∀ m kp (k : AV → Option OR), xPureR A m 24 [rs, rs'] kp k = k (mkBool (decide (s.results = t.results))) := fun m kp k => xPure_sc (by simp [pvs, pv, hrs.pv, hrs'.pv]) (SlWords_ok hrs hrs')
  simp only [StateD.ext2]
  by_cases e0 : s.frames = t.frames
  rotate_left
  · simp [frame_Equal, m0_mk, mkInt, i8, opvsL, c1, c2, c3, c4, frame_Equal_fin, e0]; try rfl
  by_cases e1 : s.pages = t.pages
  rotate_left
  · simp [frame_Equal, m0_mk, mkInt, i8, opvsL, c1, c2, c3, c4, frame_Equal_fin, e0, e1]; try rfl
  by_cases e2 : s.globals = t.globals
  rotate_left
  · simp [frame_Equal, m0_mk, mkInt, i8, opvsL, c1, c2, c3, c4, frame_Equal_fin, e0, e1, e2]; try rfl
  by_cases e3 : s.results = t.results
  rotate_left
  · simp [frame_Equal, m0_mk, mkInt, i8, opvsL, c1, c2, c3, c4, frame_Equal_fin, e0, e1, e2, e3]; try rfl
  by_cases e4 : s.replies = t.replies
  rotate_left
  · simp [frame_Equal, m0_mk, mkInt, i8, opvsL, c1, c2, c3, c4, frame_Equal_fin, e0, e1, e2, e3, e4]; try rfl
  by_cases e5 : s.end_ = t.end_
  rotate_left
  · simp [frame_Equal, m0_mk, mkInt, i8, opvsL, c1, c2, c3, c4, frame_Equal_fin, e0, e1, e2, e3, e4, e5]; try rfl
  by_cases e6 : s.trap = t.trap
  rotate_left
  · simp [frame_Equal, m0_mk, mkInt, i8, opvsL, c1, c2, c3, c4, frame_Equal_fin, e0, e1, e2, e3, e4, e5, e6]; try rfl
  by_cases e7 : s.used = t.used
  rotate_left
  · simp [frame_Equal, m0_mk, mkInt, i8, opvsL, c1, c2, c3, c4, frame_Equal_fin, e0, e1, e2, e3, e4, e5, e6, e7]; try rfl
  simp [frame_Equal, m0_mk, mkInt, i8, opvsL, c1, c2, c3, c4, frame_Equal_fin, e0, e1, e2, e3, e4, e5, e6, e7]; try rfl
end TryzF
