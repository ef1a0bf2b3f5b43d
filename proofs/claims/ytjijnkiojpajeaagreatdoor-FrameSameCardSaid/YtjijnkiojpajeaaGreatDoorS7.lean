/- A part of the proof (by an AI agent): S7. -/
import Derived.Test.YtjijnkiojpajeaaGreatDoorS6
set_option linter.unusedVariables false
set_option linter.unusedSimpArgs false
set_option maxRecDepth 8000
open Go Go.Ai Go.Proofs
namespace TryzF
def StateD.Small (s : StateD) : Prop := s.size ≤ 2147483647
theorem StateD.Small.bounds {s : StateD} (h : s.Small) : s.frames.length * 64 ≤ room ∧ (∀ f ∈ s.frames, f.locals.length * 8 ≤ room ∧ f.stack.length * 8 ≤ room) ∧ s.globals.length * 8 ≤ room ∧ s.pages.length * 24 ≤ room ∧ s.results.length * 8 ≤ room := by
  unfold StateD.Small StateD.size pagesSize at h
  rw [room_eq]
  refine ⟨by omega, fun f hf => ?_, by omega, by omega, by omega⟩
  have := framesSize_le hf
  omega
set_option maxHeartbeats 1000000 in
theorem CopyState_ok {c : List AV} {s : StateD} (h : StateC c s) (hs : s.Small) : ∃ c', Gives A 10 [.agg c] (.agg c') ∧ StateC c' s := by
  obtain ⟨b1, b2, b3, b4, b5⟩ := hs.bounds
  obtain ⟨fr, gl, pg, rs, rfl, hfr, hgl, hpg, hrs⟩ := h
  obtain ⟨y1, g1, w1⟩ := CopyFrames_ok hfr b1 b2
  obtain ⟨y2, g2, w2⟩ := CopyWords_ok hgl b3
  obtain ⟨y3, g3, w3⟩ := CopyPages_ok hpg b4
  obtain ⟨y4, g4, w4⟩ := CopyWords_ok hrs b5
  have c1 : ∀ m kp (k : AV → Rs), xPureR A m 28 [fr] kp k = k y1 := fun m kp k => g1.pure (by simp [pvs, hfr.pv])
  have c2 : ∀ m kp (k : AV → Rs), xPureR A m 29 [gl] kp k = k y2 := fun m kp k => g2.pure (by simp [pvs, hgl.pv])
  have c3 : ∀ m kp (k : AV → Rs), xPureR A m 30 [pg] kp k = k y3 := fun m kp k => g3.pure (by simp [pvs, hpg.pv])
  have c4 : ∀ m kp (k : AV → Rs), xPureR A m 29 [rs] kp k = k y4 := fun m kp k => g4.pure (by simp [pvs, hrs.pv])
  refine ⟨_, ⟨.agg [y1, y2, y3, mkInt s.replies, i8 s.end_, y4, i8 s.trap, mkInt s.used], [], arunK ?_, rfl, by simp [lasting, lastings, mkInt, i8, g1.lasts, g2.lasts, g3.lasts, g4.lasts]⟩, ⟨y1, y2, y3, y4, rfl, w1, w2, w3, w4⟩⟩
  rw [flagonref00_CopyState_eq]
  simp [flagonref00_CopyState, m0_mk, mkInt, i8, zc27, c1, c2, c3, c4, w1.cells, w2.cells, w3.cells, w4.cells, splice, flagonref00_CopyState_fin]
def StateD.height (s : StateD) : Nat := (s.frames.map fun f => f.stack.length).sum
/-- A loop that adds up. -/
theorem sum_loop {α : Type} {R : Rec} {T : Nat → Int → Task} {f : α → Nat} {l : List α} {h : Heap} {x0 : Ex} {E : Int → Env → Prop} {B : Int}
    (hend : ∀ acc, ∃ e lo, E acc e ∧ R (T l.length acc) = some (.loop x0 ⟨e, ⟨lo, h, []⟩⟩))
    (hstep : ∀ i x acc, l[i]? = some x → 0 ≤ acc → acc + f x ≤ B → ∀ r, R (T (i + 1) (acc + f x)) = some r → R (T i acc) = some r) (hB : ((l.map f).sum : Int) ≤ B) :
    ∃ e lo, E (l.map f).sum e ∧ R (T 0 0) = some (.loop x0 ⟨e, ⟨lo, h, []⟩⟩) := by
  have key : ∀ n i (acc : Int), n = l.length - i → i ≤ l.length → 0 ≤ acc → acc + (((l.drop i).map f).sum : Nat) ≤ B → ∃ e lo, E (acc + (((l.drop i).map f).sum : Nat)) e ∧ R (T i acc) = some (.loop x0 ⟨e, ⟨lo, h, []⟩⟩) := by
    intro n
    induction n with
    | zero =>
      intro i acc hn hi ha hb
      have e : i = l.length := by omega
      subst e
      simpa using hend acc
    | succ n ih =>
      intro i acc hn hi ha hb
      have hlt : i < l.length := by omega
      have hd := List.drop_eq_getElem_cons hlt
      have g := List.getElem?_eq_getElem hlt
      rw [hd, List.map_cons, List.sum_cons] at hb ⊢
      obtain ⟨e, lo, h1, h2⟩ := ih (i + 1) (acc + f l[i]) (by omega) (by omega) (by omega) (by omega)
      refine ⟨e, lo, ?_, hstep i _ acc g ha (by omega) _ h2⟩
      rw [show acc + ((f l[i] + ((l.drop (i + 1)).map f).sum : Nat) : Int) = acc + f l[i] + (((l.drop (i + 1)).map f).sum : Nat) from by omega]
      exact h1
  have := key l.length 0 0 (by omega) (Nat.zero_le _) (by omega) (by simpa using hB)
  simpa using this
set_option maxHeartbeats 1000000 in
theorem Height_ok {c : List AV} {s : StateD} (h : StateC c s) (hs : s.height ≤ 2 ^ 60) : A (.call 9 [.agg c] []) = some (.call (.ret (mkInt s.height)) []) := by
  obtain ⟨fr, gl, pg, rs, rfl, hfr, hgl, hpg, hrs⟩ := h
  have r1 := hfr.room
  rw [room_eq] at r1
  obtain ⟨e, lo, h1, h2⟩ := sum_loop (R := A) (T := fun i acc => .loop 9 (cAt Tryz.prog 9 [1, 1, 0, 1, 0, 0]) ⟨[(3, .v (.sc (.int .i64 acc))), (7, .v fr), (8, .v (.sc (.int .i64 s.frames.length))), (9, .v (.sc (.int .i64 (i : Int))))], ⟨[], [], []⟩⟩) (f := fun f : FrameD => f.stack.length) (l := s.frames) (h := []) (x0 := .exit 0) (E := fun v e => vget e 3 = mkInt v) (B := 2 ^ 60)
    (fun acc => ⟨[(3, .v (.sc (.int .i64 acc))), (7, .v fr), (8, .v (.sc (.int .i64 s.frames.length))), (9, .v (.sc (.int .i64 s.frames.length))), (10, .v (mkBool false))], [], by simp [mkInt], arunK (by rw [frame_Height_L0_eq]; simp [frame_Height_L0, mkBool])⟩)
    (fun i x acc h1 h0 hb r hr => arunK (by
      have hlt := lt_of_get h1
      obtain ⟨s1, c1, g1, ⟨q1, q2, rfl, w1, w2⟩, n1, v1, g2, _, _⟩ := hfr.at_ (by omega) h1 (m := ⟨[], [], []⟩)
      rw [frame_Height_L0_eq]
      simp only [mkInt] at g2
      simp [frame_Height_L0, mkInt, hlt, g1, g2, zc40, splice, w2.len, lkeep_cons]
      rw [inc i (by rw [room_eq]; omega), wr (acc + x.stack.length) (by omega) (by omega)]
      exact hr)) (by unfold StateD.height at hs; omega)
  apply arunK
  rw [frame_Height_eq]
  simp only [frame_Height]
  have h2 : A (.loop 9 (cAt Tryz.prog 9 [1, 1, 0, 1, 0, 0]) ⟨[(3, .v (.sc (.int .i64 0))), (7, .v fr), (8, .v (.sc (.int .i64 s.frames.length))), (9, .v (.sc (.int .i64 0)))], ⟨[], [], []⟩⟩) = some (.loop (.exit 0) ⟨e, ⟨lo, [], []⟩⟩) := h2
  simp [m0_mk, hfr.len, mkInt, lkeep_cons]
  rw [xLoop_of h2]
  simp [h1, frame_Height_fin, mkInt, StateD.height]
end TryzF
