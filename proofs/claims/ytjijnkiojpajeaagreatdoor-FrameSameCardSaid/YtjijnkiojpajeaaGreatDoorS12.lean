/- A part of the proof (by an AI agent): S12. -/
import Derived.Test.YtjijnkiojpajeaaGreatDoorS11
set_option linter.unusedVariables false
set_option linter.unusedSimpArgs false
set_option maxRecDepth 8000
open Go Go.Ai Go.Proofs
namespace TryzF
section
variable {ca ck : List AV} {s : StateD} {fr gl pg rs : AV}
set_option maxHeartbeats 1000000 in
theorem L1_ok (hb : s.frames.length ≤ room) (hb2 : ∀ f ∈ s.frames, f.locals.length ≤ room ∧ f.stack.length ≤ room) {h0 : Heap} (hI : Inv s fr gl pg rs h0) : ∃ h' e, Inv s fr gl pg rs h' ∧ EnvOk e ∧
    A (.loop 3 (cAt Tryz.prog 3 [1, 1, 1, 1, 1, 1, 1, 0, 1, 0, 0]) ⟨[(2, .l 0 0), (5, .l 2 0), (8, .l 3 0), (9, .v (.sc (.int .i64 0)))], ⟨LO ca ck (cst fr gl pg rs s), h0, []⟩⟩) = some (.loop (.exit 2) ⟨e, ⟨LO ca ck (cst fr gl pg rs s), h', []⟩⟩) := by
  refine safe_loop (R := A) (T := fun k h => .loop 3 (cAt Tryz.prog 3 [1, 1, 1, 1, 1, 1, 1, 0, 1, 0, 0]) ⟨[(2, .l 0 0), (5, .l 2 0), (8, .l 3 0), (9, .v (.sc (.int .i64 (k : Int))))], ⟨LO ca ck (cst fr gl pg rs s), h, []⟩⟩) (I := Inv s fr gl pg rs) (n := s.frames.length)
    (fun h hi => ?_) (fun k h hk hi => ?_) h0 hI
  · obtain ⟨t, ht, hl⟩ := hi
    refine ⟨?_, ⟨?_, ?_, ?_⟩, arunK ?_⟩
    rotate_left 4
    · rw [flagonlaw14_FrameSame_L1_eq]
      simp [flagonlaw14_FrameSame_L1, ht.fr.len, hl.fl, mkInt, mkBool]
      rfl
    all_goals simp
  · have hf := List.getElem?_eq_getElem hk
    obtain ⟨hb3, hb4⟩ := hb2 _ (List.mem_of_getElem? hf)
    obtain ⟨h1, e1, i1, ⟨⟨e2, e5, e8⟩, e9⟩, r1⟩ := L2_ok (ca := ca) (ck := ck) hf hb4 hi
    obtain ⟨h2, f1, i2, ⟨⟨f2, f5, f8⟩, f9⟩, r2⟩ := L3_ok (ca := ca) (ck := ck) hf hb3 i1
    have x1 : ∀ k, xLoop A _ k = _ := fun k => xLoop_of r1
    have x2 : ∀ k, xLoop A _ k = _ := fun k => xLoop_of r2
    obtain ⟨t, ht, hl⟩ := id hi
    obtain ⟨t2, ht2, hl2⟩ := id i2
    obtain ⟨g, hg, _, _⟩ := hl2.fr k _ hf
    obtain ⟨id1, cs, q1, q2, ⟨x, y, q3, hx, hy⟩, q4, q5⟩ := ht2.fr.at_ (by omega) hg (lo := LO ca ck (cst fr gl pg rs s)) (d := [])
    obtain ⟨q6, q7, q8⟩ := q5 1 (mkInt g.pc) (by omega) (by rw [q3]; rfl)
    have st := aStore_at (lo := LO ca ck (cst fr gl pg rs s)) (d := []) (v := ic .i64 (IntKind.i64.wrap (g.pc + 1))) q2 (List.getElem?_eq_some_iff.1 q8).1 rfl
    refine ⟨_, i2.upd (Upd.set (k := .i64) (x := g.pc) (y := IntKind.i64.wrap (g.pc + 1)) q2 q8), fun r hr => arunK ?_⟩
    rw [flagonlaw14_FrameSame_L1_eq]
    simp only [ic] at st hr ⊢
    simp only [mkInt] at q7
    simp [flagonlaw14_FrameSame_L1, ht.fr.len, hl.fl, mkInt, hk, mkBool, x1, x2, e2, e5, e8, e9, f2, f5, f8, f9, q1, q6, q7, st]
    rw [inc k (by omega)]
    exact hr
set_option maxHeartbeats 1000000 in
theorem L4_ok (hb : s.pages.length ≤ room) (hb2 : ∀ p ∈ s.pages, p.length ≤ room) {h0 : Heap} (hI : Inv s fr gl pg rs h0) : ∃ h' e, Inv s fr gl pg rs h' ∧ EnvOk e ∧
    A (.loop 3 (cAt Tryz.prog 3 [1, 1, 1, 1, 1, 1, 1, 1, 0, 1, 0, 0]) ⟨[(2, .l 0 0), (5, .l 2 0), (8, .l 3 0), (12, .v (.sc (.int .i64 0)))], ⟨LO ca ck (cst fr gl pg rs s), h0, []⟩⟩) = some (.loop (.exit 8) ⟨e, ⟨LO ca ck (cst fr gl pg rs s), h', []⟩⟩) := by
  refine safe_loop (R := A) (T := fun k h => .loop 3 (cAt Tryz.prog 3 [1, 1, 1, 1, 1, 1, 1, 1, 0, 1, 0, 0]) ⟨[(2, .l 0 0), (5, .l 2 0), (8, .l 3 0), (12, .v (.sc (.int .i64 (k : Int))))], ⟨LO ca ck (cst fr gl pg rs s), h, []⟩⟩) (I := Inv s fr gl pg rs) (n := s.pages.length)
    (fun h hi => ?_) (fun k h hk hi => ?_) h0 hI
  · obtain ⟨t, ht, hl⟩ := hi
    refine ⟨?_, ⟨?_, ?_, ?_⟩, arunK ?_⟩
    rotate_left 4
    · rw [flagonlaw14_FrameSame_L4_eq]
      simp [flagonlaw14_FrameSame_L4, ht.pg.len, hl.pl, mkInt, mkBool]
      rfl
    all_goals simp
  · have hf := List.getElem?_eq_getElem hk
    have hb3 := hb2 _ (List.mem_of_getElem? hf)
    obtain ⟨h1, e1, i1, ⟨⟨e2, e5, e8⟩, e12⟩, r1⟩ := L5_ok (ca := ca) (ck := ck) hf hb3 hi
    have x1 : ∀ k, xLoop A _ k = _ := fun k => xLoop_of r1
    obtain ⟨t, ht, hl⟩ := id hi
    refine ⟨_, i1, fun r hr => arunK ?_⟩
    rw [flagonlaw14_FrameSame_L4_eq]
    simp [flagonlaw14_FrameSame_L4, ht.pg.len, hl.pl, mkInt, hk, mkBool, x1, e2, e5, e8, e12]
    rw [inc k (by omega)]
    exact hr
end
/-- A loop that adds up. -/
theorem sum_loopL {α : Type} {R : Rec} {T : Nat → Int → Task} {f : α → Nat} {l : List α} {h : Heap} {x0 : Ex} {E : Int → Env → Ai.Loc → Prop} {B : Int}
    (hend : ∀ acc, ∃ e lo, E acc e lo ∧ R (T l.length acc) = some (.loop x0 ⟨e, ⟨lo, h, []⟩⟩))
    (hstep : ∀ i x acc, l[i]? = some x → 0 ≤ acc → acc + f x ≤ B → ∀ r, R (T (i + 1) (acc + f x)) = some r → R (T i acc) = some r) (hB : ((l.map f).sum : Int) ≤ B) :
    ∃ e lo, E (l.map f).sum e lo ∧ R (T 0 0) = some (.loop x0 ⟨e, ⟨lo, h, []⟩⟩) := by
  have key : ∀ n i (acc : Int), n = l.length - i → i ≤ l.length → 0 ≤ acc → acc + (((l.drop i).map f).sum : Nat) ≤ B → ∃ e lo, E (acc + (((l.drop i).map f).sum : Nat)) e lo ∧ R (T i acc) = some (.loop x0 ⟨e, ⟨lo, h, []⟩⟩) := by
    intro n
    induction n with
    | zero =>
      intro i acc hn hi ha hb
      have e : i = l.length := by omega
      subst e
      simpa using hend acc
    | succ n ih =>
      intro i acc hn hi ha hb
      have hlt : i < l.length := by omega
      have hd := List.drop_eq_getElem_cons hlt
      have g := List.getElem?_eq_getElem hlt
      rw [hd, List.map_cons, List.sum_cons] at hb ⊢
      obtain ⟨e, lo, h1, h2⟩ := ih (i + 1) (acc + f l[i]) (by omega) (by omega) (by omega) (by omega)
      refine ⟨e, lo, ?_, hstep i _ acc g ha (by omega) _ h2⟩
      rw [show acc + ((f l[i] + ((l.drop (i + 1)).map f).sum : Nat) : Int) = acc + f l[i] + (((l.drop (i + 1)).map f).sum : Nat) from by omega]
      exact h1
  have := key l.length 0 0 (by omega) (Nat.zero_le _) (by omega) (by simpa using hB)
  simpa using this
/-- The same sum, in FrameSame itself. -/
theorem L0_ok {ca cb cc : List AV} {s : StateD} (h : StateC ca s) (hs : s.height ≤ 2 ^ 60) {hp : Heap} : ∃ e, (eget e 2 = .l 0 0 ∧ eget e 3 = .l 1 0 ∧ eget e 5 = .l 2 0 ∧ vget e 6 = mkInt s.height) ∧
    A (.loop 3 (cAt Tryz.prog 3 [1, 1, 1, 1, 0, 1, 0, 0]) ⟨[(2, .l 0 0), (3, .l 1 0), (5, .l 2 0), (6, .v (.sc (.int .i64 0))), (7, .v (.sc (.int .i64 0)))], ⟨[(0, .cells ca), (1, .cells cb), (2, .cells cc)], hp, []⟩⟩) = some (.loop (.exit 0) ⟨e, ⟨[(0, .cells ca), (1, .cells cb), (2, .cells cc)], hp, []⟩⟩) := by
  obtain ⟨fr, gl, pg, rs, rfl, hfr, hgl, hpg, hrs⟩ := h
  have r1 := hfr.room
  rw [room_eq] at r1
  generalize hca : [fr, gl, pg, mkInt s.replies, i8 s.end_, rs, i8 s.trap, mkInt s.used] = ca
  have hc0 : ca[0]? = some fr := by rw [← hca]; rfl
  obtain ⟨e, lo, ⟨h1, h3, h4, h5, rfl⟩, h2⟩ := sum_loopL (R := A) (T := fun i acc => .loop 3 (cAt Tryz.prog 3 [1, 1, 1, 1, 0, 1, 0, 0]) ⟨[(2, .l 0 0), (3, .l 1 0), (5, .l 2 0), (6, .v (.sc (.int .i64 acc))), (7, .v (.sc (.int .i64 (i : Int))))], ⟨[(0, .cells ca), (1, .cells cb), (2, .cells cc)], hp, []⟩⟩) (f := fun f : FrameD => f.stack.length) (l := s.frames) (h := hp) (x0 := .exit 0) (E := fun v e lo => eget e 2 = .l 0 0 ∧ eget e 3 = .l 1 0 ∧ eget e 5 = .l 2 0 ∧ vget e 6 = mkInt v ∧ lo = [(0, .cells ca), (1, .cells cb), (2, .cells cc)]) (B := 2 ^ 60)
    (fun acc => ⟨[(2, .l 0 0), (3, .l 1 0), (5, .l 2 0), (6, .v (.sc (.int .i64 acc))), (7, .v (.sc (.int .i64 s.frames.length))), (31, .v (mkBool false))], _, ⟨by simp, by simp, by simp, by simp [mkInt], rfl⟩, arunK (by rw [flagonlaw14_FrameSame_L0_eq]; simp [flagonlaw14_FrameSame_L0, mkBool, hc0, hfr.len, mkInt])⟩)
    (fun i x acc h1 h0 hb r hr => arunK (by
      have hlt := lt_of_get h1
      obtain ⟨s1, c1, g1, ⟨q1, q2, rfl, w1, w2⟩, n1, v1, _, g2, _⟩ := hfr.at_ (by omega) h1 (m := ⟨[(0, .cells ca), (1, .cells cb), (2, .cells cc)], hp, []⟩)
      obtain ⟨s2, g4, g5⟩ := g2 3 q2 rfl
      rw [flagonlaw14_FrameSame_L0_eq]
      simp [flagonlaw14_FrameSame_L0, hc0, hfr.len, mkInt, hlt, g1, g4, g5, w2.len, lkeep_cons, mkBool]
      rw [inc i (by rw [room_eq]; omega), wr (acc + x.stack.length) (by omega) (by omega)]
      exact hr)) (by unfold StateD.height at hs; omega)
  exact ⟨e, ⟨h1, h3, h4, h5⟩, h2⟩
end TryzF
