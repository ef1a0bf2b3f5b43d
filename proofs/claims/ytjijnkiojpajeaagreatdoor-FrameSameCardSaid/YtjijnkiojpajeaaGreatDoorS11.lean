/- A part of the proof (by an AI agent): S11. -/
import Derived.Test.YtjijnkiojpajeaaGreatDoorS10
set_option linter.unusedVariables false
set_option linter.unusedSimpArgs false
set_option maxRecDepth 8000
open Go Go.Ai Go.Proofs
namespace TryzF
structure StateP (h : Heap) (fr gl pg rs : AV) (t : StateD) : Prop where
  fr : FramesO h t.frames fr
  gl : WordsO h t.globals gl
  pg : PagesO h t.pages pg
  rs : WordsO h t.results rs
/-- Such a state, of the lengths of s. -/
def Inv (s : StateD) (fr gl pg rs : AV) (h : Heap) : Prop := ∃ t, StateP h fr gl pg rs t ∧ Like s t
theorem Inv.upd {s : StateD} {fr gl pg rs : AV} {h h' : Heap} (k : Inv s fr gl pg rs h) (hu : Upd h h') : Inv s fr gl pg rs h' := by
  obtain ⟨t, ⟨hfr, hgl, hpg, hrs⟩, hl⟩ := k
  obtain ⟨l1, a1, a2, a3⟩ := hfr.upd (Q' := FrameCO h') (Rl := FrameLike) hu (fun c c' f hc hcu _ => hc.upd hu hcu)
  obtain ⟨l2, b1, b2⟩ := ints_upd hgl hu
  obtain ⟨l3, c1, c2, c3⟩ := hpg.upd (Q' := PageCO h') (Rl := fun p q => q.length = p.length) hu (fun c c' f hc hcu _ => hc.upd hu hcu)
  obtain ⟨l4, d1, d2⟩ := ints_upd hrs hu
  exact ⟨⟨l1, l2, l3, t.replies, t.end_, l4, t.trap, t.used⟩, ⟨a2, b2, c2, d2⟩, hl.trans ⟨a1, a3, b1, c1, c3, d1⟩⟩
/-- The envs of the writing loops. -/
def EnvOk (e : Env) : Prop := eget e 2 = .l 0 0 ∧ eget e 5 = .l 2 0 ∧ eget e 8 = .l 3 0
def cst (fr gl pg rs : AV) (s : StateD) : List AV := [fr, gl, pg, mkInt s.replies, i8 s.end_, rs, i8 s.trap, mkInt s.used]
def LO (ca ck : List AV) (c : List AV) : Ai.Loc := [(0, .cells ca), (2, .cells c), (3, .cells ck)]
section
variable {ca ck c : List AV} {s : StateD} {fr gl pg rs : AV}
@[simp] theorem LO0 : aget (LO ca ck c) 0 = some (.cells ca) := (rfl)
@[simp] theorem LO2 : aget (LO ca ck c) 2 = some (.cells c) := (rfl)
@[simp] theorem LO3 : aget (LO ca ck c) 3 = some (.cells ck) := (rfl)
@[simp] theorem LOk : lkeep (LO ca ck c) [0, 2, 3] = LO ca ck c := (rfl)
@[simp] theorem cst0 : (cst fr gl pg rs s)[0]? = some fr := (rfl)
@[simp] theorem cst1 : (cst fr gl pg rs s)[1]? = some gl := (rfl)
@[simp] theorem cst2 : (cst fr gl pg rs s)[2]? = some pg := (rfl)
@[simp] theorem cst5 : (cst fr gl pg rs s)[5]? = some rs := (rfl)
end
section
variable {ca ck : List AV} {s : StateD} {fr gl pg rs : AV}
theorem L2_ok {i : Nat} {f : FrameD} (hf : s.frames[i]? = some f) (hb : f.stack.length ≤ room) {h0 : Heap} (hI : Inv s fr gl pg rs h0) : ∃ h' e, Inv s fr gl pg rs h' ∧ (EnvOk e ∧ vget e 9 = .sc (.int .i64 i)) ∧
    A (.loop 3 (cAt Tryz.prog 3 [1, 1, 1, 1, 1, 1, 1, 0, 1, 0, 0, 1, 0, 0, 0, 1, 0, 0]) ⟨[(2, .l 0 0), (5, .l 2 0), (8, .l 3 0), (9, .v (.sc (.int .i64 i))), (10, .v (.sc (.int .i64 0)))], ⟨LO ca ck (cst fr gl pg rs s), h0, []⟩⟩) = some (.loop (.exit 4) ⟨e, ⟨LO ca ck (cst fr gl pg rs s), h', []⟩⟩) := by
  refine safe_loop (R := A) (T := fun k h => .loop 3 (cAt Tryz.prog 3 [1, 1, 1, 1, 1, 1, 1, 0, 1, 0, 0, 1, 0, 0, 0, 1, 0, 0]) ⟨[(2, .l 0 0), (5, .l 2 0), (8, .l 3 0), (9, .v (.sc (.int .i64 i))), (10, .v (.sc (.int .i64 (k : Int))))], ⟨LO ca ck (cst fr gl pg rs s), h, []⟩⟩) (I := Inv s fr gl pg rs) (n := f.stack.length)
    (fun h hi => ?_) (fun k h hk hi => ?_) h0 hI
  · obtain ⟨t, ht, hl⟩ := hi
    obtain ⟨g, hg, hg1, hg2⟩ := hl.fr i f hf
    obtain ⟨id, cs, q1, q2, ⟨x, y, q3, hx, hy⟩, q4, q5⟩ := ht.fr.at_ (by omega) hg (lo := LO ca ck (cst fr gl pg rs s)) (d := [])
    obtain ⟨q6, q7, _⟩ := q5 3 y (by omega) (by rw [q3]; rfl)
    refine ⟨?_, ⟨⟨?_, ?_, ?_⟩, ?_⟩, arunK ?_⟩
    rotate_left 5
    · rw [flagonlaw14_FrameSame_L2_eq]
      simp [flagonlaw14_FrameSame_L2, q1, q6, q7, hy.len, mkInt, hg1, hg2, mkBool]
      rfl
    all_goals simp
  · obtain ⟨t, ht, hl⟩ := id hi
    obtain ⟨g, hg, hg1, hg2⟩ := hl.fr i f hf
    obtain ⟨id1, cs, q1, q2, ⟨x, y, q3, hx, hy⟩, q4, q5⟩ := ht.fr.at_ (by omega) hg (lo := LO ca ck (cst fr gl pg rs s)) (d := [])
    obtain ⟨q6, q7, _⟩ := q5 3 y (by omega) (by rw [q3]; rfl)
    have hk' : k < g.stack.length := by omega
    obtain ⟨id2, cs2, w, r1, r2, r3, r4⟩ := ints_at hy hk' (lo := LO ca ck (cst fr gl pg rs s)) (d := [])
    refine ⟨_, hi.upd (r4 (IntKind.u64.wrap (w + 1))), fun r hr => arunK ?_⟩
    rw [flagonlaw14_FrameSame_L2_eq]
    simp [flagonlaw14_FrameSame_L2, q1, q6, q7, hy.len, mkInt, hk', mkBool, r1, r2, r3]
    rw [inc k (by omega)]
    exact hr
theorem L3_ok {i : Nat} {f : FrameD} (hf : s.frames[i]? = some f) (hb : f.locals.length ≤ room) {h0 : Heap} (hI : Inv s fr gl pg rs h0) : ∃ h' e, Inv s fr gl pg rs h' ∧ (EnvOk e ∧ vget e 9 = .sc (.int .i64 i)) ∧
    A (.loop 3 (cAt Tryz.prog 3 [1, 1, 1, 1, 1, 1, 1, 0, 1, 0, 0, 1, 0, 0, 1, 0, 1, 0, 0]) ⟨[(2, .l 0 0), (5, .l 2 0), (8, .l 3 0), (9, .v (.sc (.int .i64 i))), (11, .v (.sc (.int .i64 0)))], ⟨LO ca ck (cst fr gl pg rs s), h0, []⟩⟩) = some (.loop (.exit 6) ⟨e, ⟨LO ca ck (cst fr gl pg rs s), h', []⟩⟩) := by
  refine safe_loop (R := A) (T := fun k h => .loop 3 (cAt Tryz.prog 3 [1, 1, 1, 1, 1, 1, 1, 0, 1, 0, 0, 1, 0, 0, 1, 0, 1, 0, 0]) ⟨[(2, .l 0 0), (5, .l 2 0), (8, .l 3 0), (9, .v (.sc (.int .i64 i))), (11, .v (.sc (.int .i64 (k : Int))))], ⟨LO ca ck (cst fr gl pg rs s), h, []⟩⟩) (I := Inv s fr gl pg rs) (n := f.locals.length)
    (fun h hi => ?_) (fun k h hk hi => ?_) h0 hI
  · obtain ⟨t, ht, hl⟩ := hi
    obtain ⟨g, hg, hg1, hg2⟩ := hl.fr i f hf
    obtain ⟨id, cs, q1, q2, ⟨x, y, q3, hx, hy⟩, q4, q5⟩ := ht.fr.at_ (by omega) hg (lo := LO ca ck (cst fr gl pg rs s)) (d := [])
    obtain ⟨q6, q7, _⟩ := q5 2 x (by omega) (by rw [q3]; rfl)
    refine ⟨?_, ⟨⟨?_, ?_, ?_⟩, ?_⟩, arunK ?_⟩
    rotate_left 5
    · rw [flagonlaw14_FrameSame_L3_eq]
      simp [flagonlaw14_FrameSame_L3, q1, q6, q7, hx.len, mkInt, hg1, hg2, mkBool]
      rfl
    all_goals simp
  · obtain ⟨t, ht, hl⟩ := id hi
    obtain ⟨g, hg, hg1, hg2⟩ := hl.fr i f hf
    obtain ⟨id1, cs, q1, q2, ⟨x, y, q3, hx, hy⟩, q4, q5⟩ := ht.fr.at_ (by omega) hg (lo := LO ca ck (cst fr gl pg rs s)) (d := [])
    obtain ⟨q6, q7, _⟩ := q5 2 x (by omega) (by rw [q3]; rfl)
    have hk' : k < g.locals.length := by omega
    obtain ⟨id2, cs2, w, r1, r2, r3, r4⟩ := ints_at hx hk' (lo := LO ca ck (cst fr gl pg rs s)) (d := [])
    refine ⟨_, hi.upd (r4 (IntKind.u64.wrap (w + 1))), fun r hr => arunK ?_⟩
    rw [flagonlaw14_FrameSame_L3_eq]
    simp [flagonlaw14_FrameSame_L3, q1, q6, q7, hx.len, mkInt, hk', mkBool, r1, r2, r3]
    rw [inc k (by omega)]
    exact hr
theorem L6_ok (hb : s.globals.length ≤ room) {h0 : Heap} (hI : Inv s fr gl pg rs h0) : ∃ h' e, Inv s fr gl pg rs h' ∧ EnvOk e ∧
    A (.loop 3 (cAt Tryz.prog 3 [1, 1, 1, 1, 1, 1, 1, 1, 1, 0, 1, 0, 0]) ⟨[(2, .l 0 0), (5, .l 2 0), (8, .l 3 0), (14, .v (.sc (.int .i64 0)))], ⟨LO ca ck (cst fr gl pg rs s), h0, []⟩⟩) = some (.loop (.exit 12) ⟨e, ⟨LO ca ck (cst fr gl pg rs s), h', []⟩⟩) := by
  refine safe_loop (R := A) (T := fun k h => .loop 3 (cAt Tryz.prog 3 [1, 1, 1, 1, 1, 1, 1, 1, 1, 0, 1, 0, 0]) ⟨[(2, .l 0 0), (5, .l 2 0), (8, .l 3 0), (14, .v (.sc (.int .i64 (k : Int))))], ⟨LO ca ck (cst fr gl pg rs s), h, []⟩⟩) (I := Inv s fr gl pg rs) (n := s.globals.length)
    (fun h hi => ?_) (fun k h hk hi => ?_) h0 hI
  · obtain ⟨t, ht, hl⟩ := hi
    refine ⟨?_, ⟨?_, ?_, ?_⟩, arunK ?_⟩
    rotate_left 4
    · rw [flagonlaw14_FrameSame_L6_eq]
      simp [flagonlaw14_FrameSame_L6, ht.gl.len, hl.gl, mkInt, mkBool]
      rfl
    all_goals simp
  · obtain ⟨t, ht, hl⟩ := id hi
    have hk' : k < t.globals.length := by rw [hl.gl]; exact hk
    obtain ⟨id2, cs2, w, r1, r2, r3, r4⟩ := ints_at ht.gl hk' (lo := LO ca ck (cst fr gl pg rs s)) (d := [])
    refine ⟨_, hi.upd (r4 (IntKind.u64.wrap (w + 1))), fun r hr => arunK ?_⟩
    rw [flagonlaw14_FrameSame_L6_eq]
    simp [flagonlaw14_FrameSame_L6, ht.gl.len, mkInt, hk', mkBool, r1, r2, r3]
    rw [inc k (by omega)]
    exact hr
theorem L7_ok (hb : s.results.length ≤ room) {h0 : Heap} (hI : Inv s fr gl pg rs h0) : ∃ h' e, Inv s fr gl pg rs h' ∧ EnvOk e ∧
    A (.loop 3 (cAt Tryz.prog 3 [1, 1, 1, 1, 1, 1, 1, 1, 1, 1, 0, 1, 0, 0]) ⟨[(2, .l 0 0), (5, .l 2 0), (8, .l 3 0), (15, .v (.sc (.int .i64 0)))], ⟨LO ca ck (cst fr gl pg rs s), h0, []⟩⟩) = some (.loop (.exit 14) ⟨e, ⟨LO ca ck (cst fr gl pg rs s), h', []⟩⟩) := by
  refine safe_loop (R := A) (T := fun k h => .loop 3 (cAt Tryz.prog 3 [1, 1, 1, 1, 1, 1, 1, 1, 1, 1, 0, 1, 0, 0]) ⟨[(2, .l 0 0), (5, .l 2 0), (8, .l 3 0), (15, .v (.sc (.int .i64 (k : Int))))], ⟨LO ca ck (cst fr gl pg rs s), h, []⟩⟩) (I := Inv s fr gl pg rs) (n := s.results.length)
    (fun h hi => ?_) (fun k h hk hi => ?_) h0 hI
  · obtain ⟨t, ht, hl⟩ := hi
    refine ⟨?_, ⟨?_, ?_, ?_⟩, arunK ?_⟩
    rotate_left 4
    · rw [flagonlaw14_FrameSame_L7_eq]
      simp [flagonlaw14_FrameSame_L7, ht.rs.len, hl.rs, mkInt, mkBool]
      rfl
    all_goals simp
  · obtain ⟨t, ht, hl⟩ := id hi
    have hk' : k < t.results.length := by rw [hl.rs]; exact hk
    obtain ⟨id2, cs2, w, r1, r2, r3, r4⟩ := ints_at ht.rs hk' (lo := LO ca ck (cst fr gl pg rs s)) (d := [])
    refine ⟨_, hi.upd (r4 (IntKind.u64.wrap (w + 1))), fun r hr => arunK ?_⟩
    rw [flagonlaw14_FrameSame_L7_eq]
    simp [flagonlaw14_FrameSame_L7, ht.rs.len, mkInt, hk', mkBool, r1, r2, r3]
    rw [inc k (by omega)]
    exact hr
theorem L5_ok {i : Nat} {p : List Int} (hf : s.pages[i]? = some p) (hb : p.length ≤ room) {h0 : Heap} (hI : Inv s fr gl pg rs h0) : ∃ h' e, Inv s fr gl pg rs h' ∧ (EnvOk e ∧ vget e 12 = .sc (.int .i64 i)) ∧
    A (.loop 3 (cAt Tryz.prog 3 [1, 1, 1, 1, 1, 1, 1, 1, 0, 1, 0, 0, 1, 0, 0, 1, 0, 0]) ⟨[(2, .l 0 0), (5, .l 2 0), (8, .l 3 0), (12, .v (.sc (.int .i64 i))), (13, .v (.sc (.int .i64 0)))], ⟨LO ca ck (cst fr gl pg rs s), h0, []⟩⟩) = some (.loop (.exit 10) ⟨e, ⟨LO ca ck (cst fr gl pg rs s), h', []⟩⟩) := by
  refine safe_loop (R := A) (T := fun k h => .loop 3 (cAt Tryz.prog 3 [1, 1, 1, 1, 1, 1, 1, 1, 0, 1, 0, 0, 1, 0, 0, 1, 0, 0]) ⟨[(2, .l 0 0), (5, .l 2 0), (8, .l 3 0), (12, .v (.sc (.int .i64 i))), (13, .v (.sc (.int .i64 (k : Int))))], ⟨LO ca ck (cst fr gl pg rs s), h, []⟩⟩) (I := Inv s fr gl pg rs) (n := p.length)
    (fun h hi => ?_) (fun k h hk hi => ?_) h0 hI
  · obtain ⟨t, ht, hl⟩ := hi
    obtain ⟨g, hg, hg1⟩ := hl.pg i p hf
    obtain ⟨id, cs, q1, q2, ⟨x, q3, hx⟩, q4, q5⟩ := ht.pg.at_ (by omega) hg (lo := LO ca ck (cst fr gl pg rs s)) (d := [])
    obtain ⟨q6, q7, _⟩ := q5 0 x (by omega) (by rw [q3]; rfl)
    rw [Nat.mul_one] at q1
    rw [Nat.mul_one, Nat.add_zero] at q7
    refine ⟨?_, ⟨⟨?_, ?_, ?_⟩, ?_⟩, arunK ?_⟩
    rotate_left 5
    · rw [flagonlaw14_FrameSame_L5_eq]
      simp [flagonlaw14_FrameSame_L5, q1, q7, hx.len, mkInt, hg1, mkBool]
      rfl
    all_goals simp
  · obtain ⟨t, ht, hl⟩ := id hi
    obtain ⟨g, hg, hg1⟩ := hl.pg i p hf
    obtain ⟨id1, cs, q1, q2, ⟨x, q3, hx⟩, q4, q5⟩ := ht.pg.at_ (by omega) hg (lo := LO ca ck (cst fr gl pg rs s)) (d := [])
    obtain ⟨q6, q7, _⟩ := q5 0 x (by omega) (by rw [q3]; rfl)
    rw [Nat.mul_one] at q1
    rw [Nat.mul_one, Nat.add_zero] at q7
    have hk' : k < g.length := by omega
    obtain ⟨id2, cs2, w, r1, r2, r3, r4⟩ := ints_at hx hk' (lo := LO ca ck (cst fr gl pg rs s)) (d := [])
    refine ⟨_, hi.upd (r4 (IntKind.u8.wrap (w + 1))), fun r hr => arunK ?_⟩
    rw [flagonlaw14_FrameSame_L5_eq]
    simp [flagonlaw14_FrameSame_L5, q1, q7, hx.len, mkInt, hk', mkBool, r1, r2, r3]
    rw [inc k (by omega)]
    exact hr
end
end TryzF
