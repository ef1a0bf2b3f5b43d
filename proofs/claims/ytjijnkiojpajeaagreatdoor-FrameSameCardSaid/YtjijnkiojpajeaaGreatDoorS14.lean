/- A part of the proof (by an AI agent): S14. -/
import Derived.Test.YtjijnkiojpajeaaGreatDoorS13
set_option linter.unusedVariables false
set_option linter.unusedSimpArgs false
set_option maxRecDepth 8000
open Go Go.Ai Go.Proofs
namespace TryzF
set_option maxHeartbeats 2000000 in
theorem CopyL1_ok {s : StateD} {fr gl pg rs : AV} {h1 : Heap} (hpg : Pages s.pages pg) (hb1 : s.pages.length * 24 ≤ room) :
    ∃ x h t, PagesO h s.pages x ∧ Sub0 h1 h ∧ EndC fr gl x rs s h t ∧ A (.loop 6 (cAt Tryz.prog 6 [1, 1, 1, 1, 0, 1, 0, 0]) ⟨[(1, .l 0 0), (2, .l 1 0), (38, .v pg), (39, .v (.sc (.int .i64 s.pages.length))), (40, .v (.sc (.int .i64 0)))], ⟨[(0, .cells (XX fr gl .nils rs s)), (1, .cells Z27)], h1, []⟩⟩) = some (.loop (.exit 2) t) := by
  obtain ⟨⟨x, h⟩, t, ⟨g1, g2, _⟩, g3, g4⟩ := inv_loop (σ := AV × Heap) (R := A) (T := fun i st => .loop 6 (cAt Tryz.prog 6 [1, 1, 1, 1, 0, 1, 0, 0]) ⟨[(1, .l 0 0), (2, .l 1 0), (38, .v pg), (39, .v (.sc (.int .i64 s.pages.length))), (40, .v (.sc (.int .i64 (i : Int))))], ⟨[(0, .cells (XX fr gl st.1 rs s)), (1, .cells Z27)], st.2, []⟩⟩)
    (I := fun i st => PagesO st.2 (s.pages.take i) st.1 ∧ Sub0 h1 st.2 ∧ (st.1 = .nils ∨ s.pages.take i ≠ []) ∧ (st.1 = .nils ∨ ∃ id e1 e2 e3, st.1 = .own id 0 1 e1 e2 e3 ∧ h1.length ≤ id) ∧ h1.length ≤ st.2.length) (x0 := .exit 2) (E := fun st t => EndC fr gl st.1 rs s st.2 t) (n := s.pages.length)
    (fun st hI => ⟨⟨[(1, .l 0 0), (2, .l 1 0), (38, .v pg), (39, .v (.sc (.int .i64 s.pages.length))), (40, .v (.sc (.int .i64 s.pages.length))), (41, .v (mkBool false))], _⟩, ⟨by simp, by simp, rfl⟩, arunK (by rw [frame_Copy_L1_eq]; simp [frame_Copy_L1, mkBool])⟩)
    (fun i st hi hI => by
      obtain ⟨x, h⟩ := st
      obtain ⟨hI, hs, hx, hid, hle⟩ := hI
      have hf := List.getElem?_eq_getElem hi
      have k1 := Pages.each hpg _ (List.mem_of_getElem? hf)
      obtain ⟨s1, c1, g1, ⟨q, rfl, w1⟩, n1, v1, _, _, g2⟩ := hpg.at_ (by omega) hf (m := ⟨[(0, .cells (XX fr gl x rs s)), (1, .cells Z27)], h, []⟩)
      have g2 := g2 _ rfl
      obtain ⟨y, t1, a1, o1⟩ := ints_append (k := .u8) (bytes := 1) (h := h) (lo := [(0, .cells (XX fr gl x rs s)), (1, .cells Z27)]) (d := []) (by omega) w1 (by omega)
      have hs1 := Sub0.app h t1
      have oo : PagesO (h ++ t1) (s.pages.take i) x := hI.sub hs1 fun c f hc => hc.keep hs1.keepI
      have hlen : (s.pages.take i).length = i := by simp; omega
      obtain ⟨x', h', b1, b2, _, b4, b5⟩ := rows_append (Q := PageCO) (bytes := 24) (lo := [(0, .cells (XX fr gl x rs s)), (1, .cells Z27)]) (d := []) (b := false) (f := s.pages[i]) (c := [y]) (by omega) (by omega) (by rw [hlen]; omega) (fun _ _ _ _ k hk => k.keep hk)
        (fun c f ⟨x, e, hx⟩ _ => ⟨x, by rw [e]; simp, fun ⟨k, z, hz⟩ => hx.noint k z hz⟩) oo hx ⟨y, rfl, o1⟩ rfl
      refine ⟨(x', h'), ⟨?_, ?_, .inr ?_, .inr ?_, ?_⟩, fun r hr => arunK ?_⟩
      · rw [List.take_add_one, hf]; exact b2
      · rcases b5 with ⟨_, e, _⟩ | ⟨id, e1, e2, e3, e4, e5, e6, ex, _, hj⟩
        · show Sub0 h1 h'
          rw [e]
          exact (hs.trans hs1).trans (Sub0.app _ _)
        · intro j cs hjc
          have hjl := (List.getElem?_eq_some_iff.1 hjc).1
          have hne : j ≠ id := by
            rcases hid with hid | ⟨id', f1, f2, f3, hid, hge⟩
            · simp only at hid; rw [hid] at ex; cases ex
            · simp only at hid; rw [hid] at ex; cases ex; omega
          show h'[j]? = _
          rw [hj j hne]
          exact (hs.trans hs1) j cs hjc
      · intro e
        have := congrArg List.length e
        rw [List.length_take, List.length_nil] at this
        omega
      · have hl2 : h1.length ≤ (h ++ t1).length := by simp only [List.length_append]; simp only at hle; omega
        rcases b5 with ⟨_, _, e1, e2, e3, ex⟩ | ⟨id, e1, e2, e3, e4, e5, e6, ex, ex', hj⟩
        · exact ⟨_, _, _, _, ex, hl2⟩
        · rcases hid with hid | ⟨id', f1, f2, f3, hid, hge⟩
          · simp only at hid; rw [hid] at ex; cases ex
          · simp only at hid; rw [hid] at ex; cases ex; exact ⟨_, _, _, _, ex', hge⟩
      · show h1.length ≤ h'.length
        have : h1.length ≤ (h ++ t1).length := by simp only [List.length_append]; simp only at hle; omega
        omega
      · rw [frame_Copy_L1_eq]
        have ox : cellsOf x' = some [x'] := b2.cells
        simp only [XX, mkInt] at g1 g2 a1 b1 hr ⊢
        simp [-List.append_assoc, frame_Copy_L1, mkInt, hi, g1, g2, zc44, splice, fillCells, repeatCells, a1, o1.cells, b1, ox, lkeep_cons, mkBool]
        rw [inc i (by have := hpg.room; omega)]
        exact hr) (.nils, h1) ⟨by simpa using LiO.nils, Sub0.refl _, .inl rfl, .inl rfl, Nat.le_refl _⟩
  rw [List.take_length] at g1
  exact ⟨x, h, t, g1, g2, g3, g4⟩
set_option maxHeartbeats 2000000 in
theorem Copy_ok {c : List AV} {s : StateD} (hc : StateC c s) (hs : s.Small) : ∃ fr gl pg rs h, A (.call 6 [.agg c] []) = some (.call (.ret (.agg (cst fr gl pg rs s))) h) ∧ StateP h fr gl pg rs s := by
  obtain ⟨b1, b2, b3, b4, b5⟩ := hs.bounds
  obtain ⟨fr, gl, pg, rs, rfl, hfr, hgl, hpg, hrs⟩ := hc
  obtain ⟨fr', h1, t1, k1, ⟨⟨k2, k3, k4⟩, k5⟩, k6⟩ := CopyL0_ok (gl := gl) (pg := pg) (rs := rs) hfr b1 b2
  obtain ⟨pg', h2, t2, m1, m2, ⟨m3, m4, m5⟩, m6⟩ := CopyL1_ok (fr := fr') (gl := gl) (rs := rs) (h1 := h1) hpg b4
  obtain ⟨gl', u1, a1, o1⟩ := clone_sh (h := h2) hgl b3
  obtain ⟨rs', u2, a2, o2⟩ := clone_sh (h := h2 ++ u1) hrs b5
  have hs1 := Sub0.app h2 u1
  have hs2 := Sub0.app (h2 ++ u1) u2
  have e1 : Sub0 h1 (h2 ++ u1 ++ u2) := (m2.trans hs1).trans hs2
  have e2 : Sub0 h2 (h2 ++ u1 ++ u2) := hs1.trans hs2
  have cc1 : ∀ lo kp (k : AV → Mm → Rs), xCallR A ⟨lo, h2, []⟩ 18 [gl] kp k = k gl' ⟨lo, h2 ++ u1, []⟩ := fun lo kp k => xCall_of a1
  have cc2 : ∀ lo kp (k : AV → Mm → Rs), xCallR A ⟨lo, h2 ++ u1, []⟩ 18 [rs] kp k = k rs' ⟨lo, h2 ++ u1 ++ u2, []⟩ := fun lo kp k => xCall_of a2
  have ofr : FramesO (h2 ++ u1 ++ u2) s.frames fr' := k1.sub e1 fun c f hc => hc.keep e1.keepI
  have opg : PagesO (h2 ++ u1 ++ u2) s.pages pg' := m1.sub e2 fun c f hc => hc.keep e2.keepI
  have ogl : WordsO (h2 ++ u1 ++ u2) s.globals gl' := o1.sub hs2 fun _ _ h => h
  refine ⟨fr', gl', pg', rs', h2 ++ u1 ++ u2, arunK ?_, ⟨ofr, ogl, opg, o2⟩⟩
  rw [frame_Copy_eq]
  obtain ⟨te1, tm1⟩ := t1
  obtain ⟨te2, tm2⟩ := t2
  simp only at k2 k3 k4 k5 m3 m4 m5
  subst k4 m5
  simp only [frame_Copy]
  have x1 : ∀ k, xLoop A _ k = _ := fun k => xLoop_of k6
  have x2 : ∀ k, xLoop A _ k = _ := fun k => xLoop_of m6
  simp only [XX, Z27, mkInt] at x1 x2
  simp [-List.append_assoc, m0_mk, zc27, hfr.len, hpg.len, mkInt, lkeep_cons, x1, x2, k2, k3, k5, m3, m4, cc1, cc2, ogl.cells, o2.cells, splice, frame_Copy_fin, cst]
end TryzF
