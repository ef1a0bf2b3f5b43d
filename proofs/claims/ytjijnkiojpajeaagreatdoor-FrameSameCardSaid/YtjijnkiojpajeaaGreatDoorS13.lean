/- A part of the proof (by an AI agent): S13. -/
import Derived.Test.YtjijnkiojpajeaaGreatDoorS12
set_option linter.unusedVariables false
set_option linter.unusedSimpArgs false
set_option maxRecDepth 8000
open Go Go.Ai Go.Proofs
namespace TryzF
theorem ints_append {k : IntKind} {l : List Int} {a : AV} {h : Heap} {bytes : Nat} (hb : 0 < bytes) (ha : Li 1 (one (ic k)) l a) (hl : l.length * bytes ≤ room) {lo : Ai.Loc} {d : List AV} : ∃ y t, aAppend ⟨lo, h, d⟩ 1 bytes .nils a = some (y, ⟨lo, h ++ t, d⟩) ∧ LiO (h ++ t) 1 (one (ic k)) l y := by
  have hs : srcCells (⟨lo, h, d⟩ : Mm) 1 a = some (l.map (ic k)) := ints_src ha
  by_cases h0 : l = []
  · subst h0
    refine ⟨.nils, [], ?_, LiO.nils⟩
    simp only [aAppend]
    rw [if_neg (by omega), hs]
    simp
  · have hne : ¬ (l.map (ic k)).length = 0 := by simpa using h0
    refine ⟨.own h.length 0 1 l.length l.length (l.length * 1), [l.map (ic k)], ?_, .inr ⟨h.length, l.map (ic k), rfl, by simp, by simp, fun i x hi => ?_⟩⟩
    · simp only [aAppend]
      rw [if_neg (by omega), hs]
      simp only [Option.bind_some]
      rw [if_neg hne]
      simp only [List.length_map, Nat.div_one, Nat.mul_one]
      rw [if_pos hl]
    · obtain ⟨hlt, rfl⟩ := List.getElem?_eq_some_iff.1 hi
      simp only [one, Nat.mul_one]
      apply List.ext_getElem?
      intro j
      cases j with
      | zero => simp [hlt]
      | succ j => rw [List.getElem?_eq_none (by simp; omega)]; rfl
theorem clone_sh {l : List Int} {a : AV} {h : Heap} (ha : Words l a) (hl : l.length * 8 ≤ room) : ∃ y t, A (.call 18 [a] h) = some (.call (.ret y) (h ++ t)) ∧ WordsO (h ++ t) l y := by
  obtain ⟨y, t, h1, h2⟩ := ints_append (bytes := 8) (lo := []) (d := []) (h := h) (by omega) ha hl
  refine ⟨y, t, arunK ?_, h2⟩
  rw [frame_clone_eq]
  simp [frame_clone, m0_mk, h1, frame_clone_fin]
theorem FrameCO.keep {h h' : Heap} {c : List AV} {f : FrameD} (k : FrameCO h c f) (hk : KeepI h h') : FrameCO h' c f := by
  obtain ⟨x, y, rfl, hx, hy⟩ := k
  exact ⟨x, y, rfl, ints_keep hx hk, ints_keep hy hk⟩
theorem PageCO.keep {h h' : Heap} {c : List AV} {p : List Int} (k : PageCO h c p) (hk : KeepI h h') : PageCO h' c p := by
  obtain ⟨x, rfl, hx⟩ := k
  exact ⟨x, rfl, ints_keep hx hk⟩
def XX (x gl pg rs : AV) (s : StateD) : List AV := [x, gl, pg, mkInt s.replies, i8 s.end_, rs, i8 s.trap, mkInt s.used]
def Z27 : List AV := [.nils, .nils, .nils, .sc (.int .i64 0), .sc (.int .i8 0), .nils, .sc (.int .i8 0), .sc (.int .i64 0)]
def EndC (x gl pg rs : AV) (s : StateD) (h : Heap) (t : St) : Prop := eget t.env 1 = .l 0 0 ∧ eget t.env 2 = .l 1 0 ∧ t.mm = ⟨[(0, .cells (XX x gl pg rs s)), (1, .cells Z27)], h, []⟩
set_option maxHeartbeats 2000000 in
theorem CopyL0_ok {s : StateD} {fr gl pg rs : AV} (hfr : Frames s.frames fr) (hb1 : s.frames.length * 64 ≤ room) (hb2 : ∀ f ∈ s.frames, f.locals.length * 8 ≤ room ∧ f.stack.length * 8 ≤ room) :
    ∃ x h t, FramesO h s.frames x ∧ (EndC x gl .nils rs s h t ∧ vget t.env 4 = pg) ∧ A (.loop 6 (cAt Tryz.prog 6 [1, 1, 1, 0, 1, 0, 0]) ⟨[(1, .l 0 0), (2, .l 1 0), (4, .v pg), (15, .v fr), (16, .v (.sc (.int .i64 s.frames.length))), (17, .v (.sc (.int .i64 0)))], ⟨[(0, .cells (XX .nils gl .nils rs s)), (1, .cells Z27)], [], []⟩⟩) = some (.loop (.exit 0) t) := by
  obtain ⟨⟨x, h⟩, t, ⟨h1, _⟩, h2, h3⟩ := inv_loop (σ := AV × Heap) (R := A) (T := fun i st => .loop 6 (cAt Tryz.prog 6 [1, 1, 1, 0, 1, 0, 0]) ⟨[(1, .l 0 0), (2, .l 1 0), (4, .v pg), (15, .v fr), (16, .v (.sc (.int .i64 s.frames.length))), (17, .v (.sc (.int .i64 (i : Int))))], ⟨[(0, .cells (XX st.1 gl .nils rs s)), (1, .cells Z27)], st.2, []⟩⟩)
    (I := fun i st => FramesO st.2 (s.frames.take i) st.1 ∧ (st.1 = .nils ∨ s.frames.take i ≠ [])) (x0 := .exit 0) (E := fun st t => EndC st.1 gl .nils rs s st.2 t ∧ vget t.env 4 = pg) (n := s.frames.length)
    (fun st hI => ⟨⟨[(1, .l 0 0), (2, .l 1 0), (4, .v pg), (15, .v fr), (16, .v (.sc (.int .i64 s.frames.length))), (17, .v (.sc (.int .i64 s.frames.length))), (18, .v (mkBool false))], _⟩, ⟨⟨by simp, by simp, rfl⟩, by simp⟩, arunK (by rw [frame_Copy_L0_eq]; simp [frame_Copy_L0, mkBool])⟩)
    (fun i st hi hI => by
      obtain ⟨x, h⟩ := st
      obtain ⟨hI, hx⟩ := hI
      have hf := List.getElem?_eq_getElem hi
      obtain ⟨k1, k2⟩ := hb2 _ (List.mem_of_getElem? hf)
      obtain ⟨s1, c1, g1, ⟨q1, q2, rfl, w1, w2⟩, n1, v1, g2, _, _⟩ := hfr.at_ (by omega) hf (m := ⟨[(0, .cells (XX x gl .nils rs s)), (1, .cells Z27)], h, []⟩)
      obtain ⟨y1, t1, a1, o1⟩ := clone_sh (h := h) w1 k1
      obtain ⟨y2, t2, a2, o2⟩ := clone_sh (h := h ++ t1) w2 k2
      have hs1 := Sub0.app h t1
      have hs2 := Sub0.app (h ++ t1) t2
      have cc1 : ∀ lo kp (k : AV → Mm → Rs), xCallR A ⟨lo, h, []⟩ 18 [q1] kp k = k y1 ⟨lo, h ++ t1, []⟩ := fun lo kp k => xCall_of a1
      have cc2 : ∀ lo kp (k : AV → Mm → Rs), xCallR A ⟨lo, h ++ t1, []⟩ 18 [q2] kp k = k y2 ⟨lo, h ++ t1 ++ t2, []⟩ := fun lo kp k => xCall_of a2
      have oo : FramesO (h ++ t1 ++ t2) (s.frames.take i) x := hI.sub (hs1.trans hs2) fun c f hc => hc.keep (hs1.trans hs2).keepI
      have hlen : (s.frames.take i).length = i := by simp; omega
      obtain ⟨x', h', b1, b2, _, _, _⟩ := rows_append (Q := FrameCO) (bytes := 64) (lo := [(0, .cells (XX x gl .nils rs s)), (1, .cells Z27), (2, .cells [mkInt s.frames[i].fn, mkInt s.frames[i].pc, q1, q2])]) (d := []) (b := false) (f := s.frames[i]) (c := [mkInt s.frames[i].fn, mkInt s.frames[i].pc, y1, y2]) (by omega) (by omega) (by rw [hlen]; omega) (fun _ _ _ _ k hk => k.keep hk)
        (fun c f ⟨x, y, e, hx, _⟩ _ => ⟨x, by rw [e]; simp, fun ⟨k, z, hz⟩ => hx.noint k z hz⟩) oo hx ⟨y1, y2, rfl, ints_keep o1 hs2.keepI, o2⟩ rfl
      refine ⟨(x', h'), ⟨?_, .inr ?_⟩, fun r hr => arunK ?_⟩
      · rw [List.take_add_one, hf]; exact b2
      · intro e
        have := congrArg List.length e
        rw [List.length_take, List.length_nil] at this
        omega
      · rw [frame_Copy_L0_eq]
        have ox : cellsOf x' = some [x'] := b2.cells
        simp only [XX, mkInt] at g1 g2 b1 hr ⊢
        simp [-List.append_assoc, frame_Copy_L0, mkInt, hi, g1, g2, zc40, splice, cc1, cc2, fillCells, repeatCells, o1.cells, o2.cells, b1, ox, lkeep_cons, mkBool]
        rw [inc i (by have := hfr.room; omega)]
        exact hr) (.nils, []) ⟨by simpa using LiO.nils, .inl rfl⟩
  rw [List.take_length] at h1
  exact ⟨x, h, t, h1, h2, h3⟩
end TryzF
