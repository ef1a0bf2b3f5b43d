/- A part of the proof (by an AI agent): S6. -/
import Derived.Test.YtjijnkiojpajeaaGreatDoorS5
set_option linter.unusedVariables false
set_option linter.unusedSimpArgs false
set_option maxRecDepth 8000
open Go Go.Ai Go.Proofs
namespace TryzF
/-! ### copies -/
theorem ints_src {f : Int → AV} {l : List Int} {a : AV} (h : Li 1 (one f) l a) {m : Mm} : srcCells m 1 a = some (l.map f) := by
  obtain ⟨cs, h, hq⟩ := h
  have hcs : cs = l.map f := by
    apply List.ext_getElem?
    intro i
    have hlen := h.length
    rcases Nat.lt_or_ge i l.length with hi | hi
    · have := hq i l[i] (List.getElem?_eq_getElem hi)
      simp only [one, Nat.mul_one] at this
      have h0 : ((cs.drop i).take 1)[0]? = some (f l[i]) := by rw [this]; rfl
      rw [List.getElem?_take, if_pos (by omega), List.getElem?_drop, Nat.add_zero] at h0
      rw [h0, List.getElem?_map, List.getElem?_eq_getElem hi]
      rfl
    · rw [List.getElem?_eq_none (by omega), List.getElem?_eq_none (by simpa using hi)]
  subst hcs
  rcases h with ⟨_, ⟨rfl, h2, h3⟩ | ⟨b, ds, rfl, h2, h3, _⟩⟩
  · rw [h3]; rfl
  · show (if 1 = 1 ∧ l.length * 1 ≤ ds.length then some (ds.take (l.length * 1)) else none) = _
    rw [if_pos ⟨rfl, h3⟩, h2]
theorem ints_copy {f : Int → AV} {l : List Int} {a : AV} (hf : ∀ n, pv (f n) = true ∧ lasting (f n) = true) {bytes : Nat} (hb : 0 < bytes) (h : Li 1 (one f) l a) (hl : l.length * bytes ≤ room) :
    ∃ x hh y, aAppend ⟨[], [], []⟩ 1 bytes .nils a = some (x, ⟨[], hh, []⟩) ∧ give [] hh x = some y ∧ Li 1 (one f) l y ∧ lasting y = true := by
  obtain ⟨x, hh, h1, h2⟩ := Grown.append (h0 := []) (h := []) (size := 1) (n := 0) (bytes := bytes) (k := l.length) (cs := []) (new := l.map f) (x := .nils) (y := a) (l := []) (d := []) Grown.nils (by omega) hb (ints_src h) (by simp) (by simpa using hl)
  rw [Nat.zero_add, List.nil_append] at h2
  obtain ⟨y, h3, h4, h5⟩ := Grown.li (Q := one f) h2 (pvs_iff.2 fun v hv => by obtain ⟨n, _, rfl⟩ := List.mem_map.1 hv; exact (hf n).1) (lastings_iff.2 fun v hv => by obtain ⟨n, _, rfl⟩ := List.mem_map.1 hv; exact (hf n).2) h.room
    (fun i n hi => by
      obtain ⟨hlt, rfl⟩ := List.getElem?_eq_some_iff.1 hi
      simp only [one, Nat.mul_one]
      apply List.ext_getElem?
      intro j
      cases j with
      | zero => simp [hlt]
      | succ j => rw [List.getElem?_eq_none (by simp; omega)]; rfl)
  exact ⟨x, hh, y, h1, h3, h4, h5⟩
theorem CopyWords_ok {l : List Int} {a : AV} (h : Words l a) (hl : l.length * 8 ≤ room) : ∃ y, Gives A 29 [a] y ∧ Words l y := by
  obtain ⟨x, hh, y, h1, h2, h3, h4⟩ := ints_copy (fun n => ⟨rfl, rfl⟩) (by omega) h hl
  refine ⟨y, ⟨x, hh, arunK ?_, h2, h4⟩, h3⟩
  rw [flagonref00_CopyWords_eq]
  simp [flagonref00_CopyWords, m0_mk, h1, flagonref00_CopyWords_fin]
theorem clone_ok {l : List Int} {a : AV} (h : Words l a) (hl : l.length * 8 ≤ room) : ∃ y, Gives A 18 [a] y ∧ Words l y := by
  obtain ⟨x, hh, y, h1, h2, h3, h4⟩ := ints_copy (fun n => ⟨rfl, rfl⟩) (by omega) h hl
  refine ⟨y, ⟨x, hh, arunK ?_, h2, h4⟩, h3⟩
  rw [frame_clone_eq]
  simp [frame_clone, m0_mk, h1, frame_clone_fin]
theorem CopyBytes_ok {l : List Int} {a : AV} (h : Bytes l a) (hl : l.length ≤ room) : ∃ y, Gives A 41 [a] y ∧ Bytes l y := by
  obtain ⟨x, hh, y, h1, h2, h3, h4⟩ := ints_copy (bytes := 1) (fun n => ⟨rfl, rfl⟩) (by omega) h (by omega)
  refine ⟨y, ⟨x, hh, arunK ?_, h2, h4⟩, h3⟩
  rw [flagonref00_CopyBytes_eq]
  simp [flagonref00_CopyBytes, m0_mk, h1, flagonref00_CopyBytes_fin]
theorem CopyFrame_ok {c : List AV} {f : FrameD} (h : FrameC c f) (h1 : f.locals.length * 8 ≤ room) (h2 : f.stack.length * 8 ≤ room) : ∃ c', Gives A 40 [.agg c] (.agg c') ∧ FrameC c' f ∧ pvs c' = true ∧ lastings c' = true ∧ c'.length = 4 := by
  obtain ⟨a, b, rfl, ha, hb⟩ := h
  obtain ⟨y1, g1, w1⟩ := CopyWords_ok ha h1
  obtain ⟨y2, g2, w2⟩ := CopyWords_ok hb h2
  have c1 : ∀ m kp (k : AV → Rs), xPureR A m 29 [a] kp k = k y1 := fun m kp k => g1.pure (by simp [pvs, ha.pv])
  have c2 : ∀ m kp (k : AV → Rs), xPureR A m 29 [b] kp k = k y2 := fun m kp k => g2.pure (by simp [pvs, hb.pv])
  have hl : lastings [mkInt f.fn, mkInt f.pc, y1, y2] = true := by simp [lastings, lasting, mkInt, g1.lasts, g2.lasts]
  refine ⟨[mkInt f.fn, mkInt f.pc, y1, y2], ⟨.agg [mkInt f.fn, mkInt f.pc, y1, y2], [], arunK ?_, rfl, hl⟩, ⟨_, _, rfl, w1, w2⟩, by simp [pvs, pv, mkInt, w1.pv, w2.pv], hl, rfl⟩
  rw [flagonref00_CopyFrame_eq]
  simp [flagonref00_CopyFrame, m0_mk, mkInt, zc40, c1, c2, w1.cells, w2.cells, splice, flagonref00_CopyFrame_fin]
set_option maxHeartbeats 1000000 in
theorem CopyFrames_ok {l : List FrameD} {a : AV} (h : Frames l a) (hl : l.length * 64 ≤ room) (hw : ∀ f ∈ l, f.locals.length * 8 ≤ room ∧ f.stack.length * 8 ≤ room) : ∃ y, Gives A 28 [a] y ∧ Frames l y := by
  obtain ⟨x, hh, cs, e, lo, h1, h2, h3, h4, h5, h6⟩ := build_loop (R := A) (T := fun i x hp => .loop 28 (cAt Tryz.prog 28 [1, 1, 0, 1, 0, 0]) ⟨[(0, .v a), (3, .v x), (4, .v (.sc (.int .i64 (i : Int))))], ⟨[], hp, []⟩⟩) (l := l) (size := 4) (Q := FrameC) (x0 := .exit 0) (E := fun x e => vget e 3 = x) (by omega)
    (fun x hp => ⟨[(0, .v a), (3, .v x), (4, .v (.sc (.int .i64 l.length))), (8, .v (mkBool false))], [], by simp, arunK (by rw [flagonref00_CopyFrames_L0_eq]; simp [flagonref00_CopyFrames_L0, h.len, mkInt, mkBool])⟩)
    (fun i f x hp cs hi hg => by
      have hlt := lt_of_get hi
      obtain ⟨k1, k2⟩ := hw f (List.mem_of_getElem? hi)
      obtain ⟨s1, c1, g1, q, n1, v1, g2, _, _⟩ := h.at_ (by omega) hi (m := ⟨[], hp, []⟩)
      obtain ⟨c', k3, k4, k5, k6, k7⟩ := CopyFrame_ok q k1 k2
      have hc : ∀ kp (k : AV → Rs), xPureR A ⟨[], hp, []⟩ 40 [.agg c1] kp k = k (.agg c') := fun kp k => k3.pure (by simp [pvs, pv, v1])
      obtain ⟨p1, p2, rfl, _, _⟩ := id k4
      obtain ⟨x', hp', a1, a2⟩ := Grown.append (k := 1) (bytes := 64) (y := .snap false 4 1 [mkInt f.fn, mkInt f.pc, p1, p2]) (l := []) (d := []) hg (by omega) (by omega) (srcCells_snap rfl) rfl (by omega)
      refine ⟨_, x', hp', k7, k4, k5, k6, a2, fun r hr => arunK ?_⟩
      rw [flagonref00_CopyFrames_L0_eq]
      simp only [mkInt] at hc a1
      simp [flagonref00_CopyFrames_L0, h.len, mkInt, hlt, g1, g2, hc, zc40, fillCells, repeatCells, splice, a1]
      rw [inc i (by have := h.room; omega)]
      exact hr)
  obtain ⟨y, y1, y2, y3⟩ := h3.li h4 h5 h.room h6
  refine ⟨y, ⟨x, hh, arunK ?_, y1, y3⟩, y2⟩
  rw [flagonref00_CopyFrames_eq]
  have h1 : A (.loop 28 (cAt Tryz.prog 28 [1, 1, 0, 1, 0, 0]) ⟨[(0, .v a), (3, .v .nils), (4, .v (.sc (.int .i64 0)))], ⟨[], [], []⟩⟩) = some (.loop (.exit 0) ⟨e, ⟨lo, hh, []⟩⟩) := h1
  simp only [flagonref00_CopyFrames]
  simp [m0_mk]
  rw [xLoop_of h1]
  simp [h2, flagonref00_CopyFrames_fin]
set_option maxHeartbeats 1000000 in
theorem CopyPages_ok {l : List (List Int)} {a : AV} (h : Pages l a) (hl : l.length * 24 ≤ room) : ∃ y, Gives A 30 [a] y ∧ Pages l y := by
  obtain ⟨x, hh, cs, e, lo, h1, h2, h3, h4, h5, h6⟩ := build_loop (R := A) (T := fun i x hp => .loop 30 (cAt Tryz.prog 30 [1, 1, 0, 1, 0, 0]) ⟨[(0, .v a), (3, .v x), (4, .v (.sc (.int .i64 (i : Int))))], ⟨[], hp, []⟩⟩) (l := l) (size := 1) (Q := PageC) (x0 := .exit 0) (E := fun x e => vget e 3 = x) (by omega)
    (fun x hp => ⟨[(0, .v a), (3, .v x), (4, .v (.sc (.int .i64 l.length))), (8, .v (mkBool false))], [], by simp, arunK (by rw [flagonref00_CopyPages_L0_eq]; simp [flagonref00_CopyPages_L0, h.len, mkInt, mkBool])⟩)
    (fun i f x hp cs hi hg => by
      have hlt := lt_of_get hi
      have k1 := Pages.each h f (List.mem_of_getElem? hi)
      obtain ⟨s1, c1, g1, ⟨p1, rfl, w1⟩, n1, v1, _, _, g2⟩ := h.at_ (by omega) hi (m := ⟨[], hp, []⟩)
      have g2 := g2 _ rfl
      obtain ⟨y, k3, k4⟩ := CopyBytes_ok w1 k1
      have hc : ∀ kp (k : AV → Rs), xPureR A ⟨[], hp, []⟩ 41 [p1] kp k = k y := fun kp k => k3.pure (by simp [pvs, w1.pv])
      obtain ⟨x', hp', a1, a2⟩ := Grown.append (k := 1) (bytes := 24) (y := .snap false 1 1 [y]) (l := []) (d := []) hg (by omega) (by omega) (srcCells_snap rfl) rfl (by omega)
      refine ⟨[y], x', hp', rfl, ⟨y, rfl, k4⟩, by simp [pvs, k4.pv], by simp [lastings, k3.lasts], a2, fun r hr => arunK ?_⟩
      rw [flagonref00_CopyPages_L0_eq]
      simp [flagonref00_CopyPages_L0, h.len, mkInt, hlt, g1, g2, hc, zc44, fillCells, repeatCells, splice, a1, k4.cells]
      rw [inc i (by have := h.room; omega)]
      exact hr)
  obtain ⟨y, y1, y2, y3⟩ := h3.li h4 h5 h.room h6
  refine ⟨y, ⟨x, hh, arunK ?_, y1, y3⟩, y2⟩
  rw [flagonref00_CopyPages_eq]
  have h1 : A (.loop 30 (cAt Tryz.prog 30 [1, 1, 0, 1, 0, 0]) ⟨[(0, .v a), (3, .v .nils), (4, .v (.sc (.int .i64 0)))], ⟨[], [], []⟩⟩) = some (.loop (.exit 0) ⟨e, ⟨lo, hh, []⟩⟩) := h1
  simp only [flagonref00_CopyPages]
  simp [m0_mk]
  rw [xLoop_of h1]
  simp [h2, flagonref00_CopyPages_fin]
end TryzF
