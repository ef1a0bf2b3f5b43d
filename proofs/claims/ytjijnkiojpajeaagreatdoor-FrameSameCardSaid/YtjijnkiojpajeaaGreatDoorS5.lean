/- A part of the proof (by an AI agent): S5. -/
import Derived.Test.YtjijnkiojpajeaaGreatDoorS4
import Derived.KernelRfl
set_option linter.unusedVariables false
set_option linter.unusedSimpArgs false
set_option maxRecDepth 8000
open Go Go.Ai Go.Proofs
namespace TryzF
/-! ### sizes -/
def pagesSize (l : List (List Int)) : Nat := l.length + (l.map List.length).sum
def framesSize (l : List FrameD) : Nat := (l.map fun f => f.locals.length + f.stack.length).sum
def StateD.size (s : StateD) : Nat := s.frames.length + s.globals.length + s.results.length + pagesSize s.pages + framesSize s.frames
theorem wr (n : Int) (h1 : 0 ≤ n) (h2 : n < 2 ^ 62) : IntKind.i64.wrap n = n := wrap_i64 (by omega) (by omega)
theorem room_eq : room = 140737488355328 := rfl
theorem SizePages_ok {a : AV} {l : List (List Int)} (ha : Pages l a) (hl : ∀ p ∈ l, p.length ≤ room) :
    ∃ v : Int, A (.call 32 [a] []) = some (.call (.ret (mkInt v)) []) ∧ 0 ≤ v ∧ v ≤ 2 ^ 51 ∧ (v = (pagesSize l : Nat) ∨ (Bound < v ∧ v ≤ (pagesSize l : Nat))) := by
  have hr := ha.room
  rw [room_eq] at hr hl
  obtain ⟨v, e, lo, h1, h2, h3, h4, h5⟩ := sumB_loop (R := A) (T := fun i acc => .loop 32 (cAt Tryz.prog 32 [1, 1, 0, 1, 0, 0]) ⟨[(0, .v a), (3, .v (.sc (.int .i64 acc))), (4, .v (.sc (.int .i64 (i : Int))))], m0 []⟩) (f := List.length) (l := l) (h := []) (x0 := .exit 0) (E := fun v e => vget e 3 = mkInt v)
    (fun x hx => by have := hl x hx; omega)
    (fun acc => ⟨[(0, .v a), (3, .v (.sc (.int .i64 acc))), (4, .v (.sc (.int .i64 l.length))), (14, .v (mkBool false))], [], by simp [mkInt], arunK (by rw [flagonref00_SizePages_L0_eq]; simp [flagonref00_SizePages_L0, ha.len, mkInt, m0_mk, mkBool])⟩)
    (fun i acc hi hb => ⟨[(0, .v a), (3, .v (.sc (.int .i64 acc))), (4, .v (.sc (.int .i64 i))), (14, .v (mkBool false))], [], by simp [mkInt], arunK (by
      rw [flagonref00_SizePages_L0_eq]
      have : ¬ acc ≤ 2147483647 := by unfold Bound at hb; omega
      simp [flagonref00_SizePages_L0, ha.len, mkInt, m0_mk, hi, this, mkBool])⟩)
    (fun i x acc h1 h0 hb hx r hr => arunK (by
      have hlt := lt_of_get h1
      obtain ⟨s1, c1, g1, ⟨p1, rfl, k1⟩, _, v1, _, _, g2⟩ := ha.at_ (by omega) h1 (m := ⟨[], [], []⟩)
      have g2 := g2 _ rfl
      have hb' : acc ≤ 2147483647 := hb
      rw [flagonref00_SizePages_L0_eq]
      simp [flagonref00_SizePages_L0, ha.len, mkInt, m0_mk, hlt, hb', g1, g2, k1.len]
      rw [inc i (by rw [room_eq]; omega), wr _ (by omega) (by omega)]
      exact hr)) l.length (by omega)
  refine ⟨v, arunK ?_, by omega, ?_, ?_⟩
  · rw [flagonref00_SizePages_eq]
    have h2 : A (.loop 32 (cAt Tryz.prog 32 [1, 1, 0, 1, 0, 0]) ⟨[(0, .v a), (3, .v (.sc (.int .i64 l.length))), (4, .v (.sc (.int .i64 0)))], m0 []⟩) = some (.loop (.exit 0) ⟨e, ⟨lo, [], []⟩⟩) := h2
    simp only [flagonref00_SizePages]
    simp [ha.len, mkInt]
    rw [xLoop_of h2]
    simp [h1, flagonref00_SizePages_fin, mkInt]
  · unfold Bound at h4; omega
  · unfold pagesSize; push_cast; omega
theorem framesSize_le : ∀ {l : List FrameD} {f : FrameD}, f ∈ l → f.locals.length + f.stack.length ≤ framesSize l
  | g :: r, f, h => by
    unfold framesSize
    simp only [List.map_cons, List.sum_cons]
    rcases List.mem_cons.1 h with rfl | h
    · omega
    · have := framesSize_le h
      unfold framesSize at this
      omega
theorem Frames.each {l : List FrameD} {a : AV} (h : Frames l a) : ∀ f ∈ l, f.locals.length ≤ room ∧ f.stack.length ≤ room := by
  intro f hf
  obtain ⟨i, hi⟩ := List.mem_iff_getElem?.1 hf
  obtain ⟨_, h⟩ := h
  obtain ⟨_, _, _, w1, w2⟩ := h.2 i f hi
  exact ⟨w1.room, w2.room⟩
theorem Pages.each {l : List (List Int)} {a : AV} (h : Pages l a) : ∀ p ∈ l, p.length ≤ room := by
  intro f hf
  obtain ⟨i, hi⟩ := List.mem_iff_getElem?.1 hf
  obtain ⟨_, h⟩ := h
  obtain ⟨_, _, w1⟩ := h.2 i f hi
  exact w1.room
set_option maxHeartbeats 1000000 in
theorem SizeState_ok {c : List AV} {s : StateD} (h1 : StateC c s) :
    ∃ v : Int, A (.call 13 [.agg c] []) = some (.call (.ret (mkInt v)) []) ∧ 0 ≤ v ∧ (v = (s.size : Nat) ∨ (Bound < v ∧ v ≤ (s.size : Nat))) := by
  obtain ⟨fr, gl, pg, rs, rfl, hfr, hgl, hpg, hrs⟩ := h1
  have r1 := hfr.room
  have r2 := hgl.room
  have r3 := hrs.room
  have hfe := Frames.each hfr
  obtain ⟨vp, p1, p2, p3, p4⟩ := SizePages_ok hpg (Pages.each hpg)
  have cp : ∀ m kp (k : AV → Rs), xPureR A m 32 [pg] kp k = k (mkInt vp) := fun m kp k => xPure_sc (by simp [pvs, hpg.pv]) p1
  rw [room_eq] at r1 r2 r3 hfe
  generalize hcells : [fr, gl, pg, mkInt s.replies, i8 s.end_, rs, i8 s.trap, mkInt s.used] = cells
  have hc0 : cells[0]? = some fr := by rw [← hcells]; rfl
  obtain ⟨v, e, lo, h1, h2, h3, h4, h5⟩ := sumB_loop (R := A) (T := fun i acc => .loop 13 (cAt Tryz.prog 13 [1, 1, 0, 1, 0, 0]) ⟨[(1, .l 0 0), (3, .v (.sc (.int .i64 acc))), (4, .v (.sc (.int .i64 (i : Int))))], ⟨[(0, .cells cells)], [], []⟩⟩) (f := fun f : FrameD => f.locals.length + f.stack.length) (l := s.frames) (h := []) (x0 := .exit 0) (E := fun v e => vget e 3 = mkInt v)
    (fun x hx => by have := hfe x hx; omega)
    (fun acc => ⟨[(1, .l 0 0), (3, .v (.sc (.int .i64 acc))), (4, .v (.sc (.int .i64 s.frames.length))), (28, .v (mkBool false))], _, by simp [mkInt], arunK (by rw [flagonref00_SizeState_L0_eq]; simp [flagonref00_SizeState_L0, hc0, hfr.len, mkInt, mkBool]; rfl)⟩)
    (fun i acc hi hb => ⟨[(1, .l 0 0), (3, .v (.sc (.int .i64 acc))), (4, .v (.sc (.int .i64 i))), (28, .v (mkBool false))], _, by simp [mkInt], arunK (by
      rw [flagonref00_SizeState_L0_eq]
      have : ¬ acc ≤ 2147483647 := by unfold Bound at hb; omega
      simp [flagonref00_SizeState_L0, hc0, hfr.len, mkInt, hi, this, mkBool]; rfl)⟩)
    (fun i x acc h1 h0 hb hx r hr => arunK (by
      have hlt := lt_of_get h1
      have hxe := hfe x (List.mem_of_getElem? h1)
      obtain ⟨s1, c1, g1, ⟨q1, q2, rfl, w1, w2⟩, n1, v1, g2, g3, _⟩ := hfr.at_ (by omega) h1 (m := ⟨[(0, .cells cells)], [], []⟩)
      obtain ⟨s2, g4, g5⟩ := g3 2 q1 rfl
      obtain ⟨s3, g6, g7⟩ := g3 3 q2 rfl
      have hb' : acc ≤ 2147483647 := hb
      rw [flagonref00_SizeState_L0_eq]
      simp [flagonref00_SizeState_L0, hc0, hfr.len, mkInt, hlt, hb', g1, g4, g5, g6, g7, w1.len, w2.len, mkBool, lkeep_cons]
      rw [inc i (by rw [room_eq]; omega), wr (acc + x.locals.length) (by omega) (by omega), wr (acc + x.locals.length + x.stack.length) (by omega) (by omega)]
      rw [show acc + (x.locals.length : Int) + (x.stack.length : Int) = acc + ((x.locals.length + x.stack.length : Nat) : Int) from by push_cast; omega]
      exact hr)) (s.frames.length + s.globals.length + s.results.length + vp) (by omega)
  refine ⟨v, arunK ?_, by omega, ?_⟩
  · rw [flagonref00_SizeState_eq]
    simp only [flagonref00_SizeState]
    have h2 : A (.loop 13 (cAt Tryz.prog 13 [1, 1, 0, 1, 0, 0]) ⟨[(1, .l 0 0), (3, .v (.sc (.int .i64 (s.frames.length + s.globals.length + s.results.length + vp)))), (4, .v (.sc (.int .i64 0)))], ⟨[(0, .cells cells)], [], []⟩⟩) = some (.loop (.exit 0) ⟨e, ⟨lo, [], []⟩⟩) := h2
    have hc1 : cells[1]? = some gl := by rw [← hcells]; rfl
    have hc2 : cells[2]? = some pg := by rw [← hcells]; rfl
    have hc5 : cells[5]? = some rs := by rw [← hcells]; rfl
    simp [m0_mk, hc0, hc1, hc2, hc5, hfr.len, hgl.len, hrs.len, mkInt, cp, lkeep_cons]
    rw [wr (s.frames.length + s.globals.length) (by omega) (by omega), wr (s.frames.length + s.globals.length + s.results.length) (by omega) (by omega), wr (s.frames.length + s.globals.length + s.results.length + vp) (by omega) (by omega)]
    rw [xLoop_of h2]
    simp [h1, flagonref00_SizeState_fin, mkInt]
  · unfold StateD.size framesSize
    rcases h5 with h5 | h5 <;> rcases p4 with p4 | p4
    · left; push_cast; omega
    · right; push_cast; omega
    · right; push_cast; omega
    · right; push_cast; omega
theorem Long_ok {v : Int} : A (.call 11 [mkInt v] []) = some (.call (.ret (mkBool (decide (v > 2147483647)))) []) := by
  apply arunK
  rw [flagonref00_Long_eq]
  simp [flagonref00_Long, mkInt, m0_mk, flagonref00_Long_fin]
theorem SizeModule_zero : A (.call 12 [.agg [.nils, .nils, .nils, mkInt 0, mkInt 0, .nils, .nils, .nils]] []) = some (.call (.ret (mkInt 0)) []) := runN_arun 60 _ _ (by kernel_rfl)
theorem SizeReplies_nil : A (.call 14 [.nils] []) = some (.call (.ret (mkInt 0)) []) := runN_arun 60 _ _ (by kernel_rfl)
def StateD.long (s : StateD) : Bool := decide (s.size > 2147483647) || decide (s.pages.length > 70) || decide (s.frames.length > 100)
set_option maxHeartbeats 2000000 in
theorem long_ok {c : List AV} {s : StateD} (h1 : StateC c s) : A (.call 4 [.agg [.nils, .nils, .nils, mkInt 0, mkInt 0, .nils, .nils, .nils], .nils, .agg c] []) = some (.call (.ret (mkBool s.long)) []) := by
  obtain ⟨v, g1, g2, g3⟩ := SizeState_ok h1
  have hpc : pv (.agg c) = true := by
    obtain ⟨fr, gl, pg, rs, rfl, hfr, hgl, hpg, hrs⟩ := h1
    simp [pv, pvs, hfr.pv, hgl.pv, hpg.pv, hrs.pv, mkInt, i8]
  have hlen : c.length = 8 := by
    obtain ⟨fr, gl, pg, rs, rfl, _⟩ := h1
    rfl
  have hv : decide (v > 2147483647) = decide (s.size > 2147483647) := by
    rw [decide_eq_decide]
    unfold Bound at g3
    omega
  have c1 : ∀ m kp (k : AV → Rs), xPureR A m 12 [.agg [.nils, .nils, .nils, mkInt 0, mkInt 0, .nils, .nils, .nils]] kp k = k (mkInt 0) := fun m kp k => xPure_sc rfl SizeModule_zero
  have c2 : ∀ m kp (k : AV → Rs), xPureR A m 11 [mkInt 0] kp k = k (mkBool (decide ((0 : Int) > 2147483647))) := fun m kp k => xPure_sc rfl Long_ok
  have c2' : ∀ m kp (k : AV → Option OR), xPureR A m 11 [mkInt 0] kp k = k (mkBool (decide ((0 : Int) > 2147483647))) := fun m kp k => xPure_sc rfl Long_ok
  have c3 : ∀ m kp (k : AV → Option OR), xPureR A m 13 [.agg c] kp k = k (mkInt v) := fun m kp k => xPure_sc (by simp [pvs, hpc]) g1
  have c4 : ∀ m kp (k : AV → Option OR), xPureR A m 11 [mkInt v] kp k = k (mkBool (decide (s.size > 2147483647))) := fun m kp k => by rw [← hv]; exact xPure_sc rfl Long_ok
  have c5 : ∀ m kp (k : AV → Option OR), xPureR A m 14 [.nils] kp k = k (mkInt 0) := fun m kp k => xPure_sc rfl SizeReplies_nil
  obtain ⟨fr, gl, pg, rs, rfl, hfr, hgl, hpg, hrs⟩ := h1
  simp only [mkInt, i8] at c1 c2 c2' c3 c4 c5
  apply arunK
  rw [flagonlaw14_long_eq]
  have l1 : ∀ {m}, aLenS m pg = some s.pages.length := hpg.len
  have l2 : ∀ {m}, aLenS m fr = some s.frames.length := hfr.len
  by_cases e1 : s.size > 2147483647
  · simp [flagonlaw14_long, m0_mk, mkInt, i8, opvsL, c1, c2, c2', c3, c4, c5, flagonlaw14_long_fin, e1, StateD.long, mkBool]
  · by_cases e2 : s.pages.length > 70
    · have e2' : (70 : Int) < s.pages.length := by omega
      simp [flagonlaw14_long, m0_mk, mkInt, i8, opvsL, c1, c2, c2', c3, c4, c5, flagonlaw14_long_fin, e1, e2, e2', l1, StateD.long, mkBool]
    · have e2' : ¬ (70 : Int) < s.pages.length := by omega
      by_cases e3 : s.frames.length > 100
      · have e3' : (100 : Int) < s.frames.length := by omega
        simp [flagonlaw14_long, m0_mk, mkInt, i8, opvsL, c1, c2, c2', c3, c4, c5, flagonlaw14_long_fin, e1, e2, e2', e3, e3', l1, l2, StateD.long, mkBool]
      · have e3' : ¬ (100 : Int) < s.frames.length := by omega
        simp [flagonlaw14_long, m0_mk, mkInt, i8, opvsL, c1, c2, c2', c3, c4, c5, flagonlaw14_long_fin, e1, e2, e2', e3, e3', l1, l2, StateD.long, mkBool]
end TryzF
