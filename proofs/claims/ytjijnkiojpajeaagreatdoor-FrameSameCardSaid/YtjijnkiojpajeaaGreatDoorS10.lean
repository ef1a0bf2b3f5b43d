/- A part of the proof (by an AI agent): S10. -/
import Derived.Test.YtjijnkiojpajeaaGreatDoorS7
import Derived.Test.YtjijnkiojpajeaaGreatDoorAiOwn
set_option linter.unusedVariables false
set_option linter.unusedSimpArgs false
set_option maxRecDepth 8000
open Go Go.Ai Go.Proofs
namespace TryzF
/-! ### states in the call's own memory -/
abbrev WordsO (h : Heap) := LiO h 1 (one (ic .u64))
abbrev BytesO (h : Heap) := LiO h 1 (one (ic .u8))
def FrameCO (h : Heap) (c : List AV) (f : FrameD) : Prop := ∃ x y, c = [mkInt f.fn, mkInt f.pc, x, y] ∧ WordsO h f.locals x ∧ WordsO h f.stack y
abbrev FramesO (h : Heap) := LiO h 4 (FrameCO h)
def PageCO (h : Heap) (c : List AV) (p : List Int) : Prop := ∃ x, c = [x] ∧ BytesO h p x
abbrev PagesO (h : Heap) := LiO h 1 (PageCO h)
def StateO (h : Heap) (c : List AV) (s : StateD) : Prop := ∃ fr gl pg rs, c = [fr, gl, pg, mkInt s.replies, i8 s.end_, rs, i8 s.trap, mkInt s.used] ∧ FramesO h s.frames fr ∧ WordsO h s.globals gl ∧ PagesO h s.pages pg ∧ WordsO h s.results rs
def FrameLike (f g : FrameD) : Prop := g.locals.length = f.locals.length ∧ g.stack.length = f.stack.length
/-- Of the same lengths. -/
structure Like (s t : StateD) : Prop where
  fl : t.frames.length = s.frames.length
  fr : ∀ (i : Nat) (f : FrameD), s.frames[i]? = some f → ∃ g, t.frames[i]? = some g ∧ FrameLike f g
  gl : t.globals.length = s.globals.length
  pl : t.pages.length = s.pages.length
  pg : ∀ (i : Nat) (p : List Int), s.pages[i]? = some p → ∃ q, t.pages[i]? = some q ∧ q.length = p.length
  rs : t.results.length = s.results.length
theorem Like.refl (s : StateD) : Like s s := ⟨rfl, fun i f h => ⟨f, h, rfl, rfl⟩, rfl, rfl, fun i p h => ⟨p, h, rfl⟩, rfl⟩
theorem Like.trans {s t u : StateD} (h : Like s t) (k : Like t u) : Like s u :=
  ⟨k.fl.trans h.fl, fun i f e => by
    obtain ⟨g, h1, h2, h3⟩ := h.fr i f e
    obtain ⟨g', k1, k2, k3⟩ := k.fr i g h1
    exact ⟨g', k1, k2.trans h2, k3.trans h3⟩, k.gl.trans h.gl, k.pl.trans h.pl, fun i p e => by
    obtain ⟨q, h1, h2⟩ := h.pg i p e
    obtain ⟨q', k1, k2⟩ := k.pg i q h1
    exact ⟨q', k1, k2.trans h2⟩, k.rs.trans h.rs⟩
theorem list4 {c : List AV} {a b x y : AV} (hl : c.length = 4) (h0 : c[0]? = some a) (h1 : c[1]? = some b) (h2 : c[2]? = some x) (h3 : c[3]? = some y) : c = [a, b, x, y] := by
  match c, hl, h0, h1, h2, h3 with
  | [_, _, _, _], _, h0, h1, h2, h3 => cases h0; cases h1; cases h2; cases h3; rfl
theorem FrameCO.upd {h h' : Heap} (hu : Upd h h') {c c' : List AV} {f : FrameD} (k : FrameCO h c f) (hc : CU c c') : ∃ g, FrameCO h' c' g ∧ FrameLike f g := by
  obtain ⟨x, y, rfl, hx, hy⟩ := k
  obtain ⟨a, ha⟩ := hc.num (j := 0) (k := .i64) (x := f.fn) rfl
  obtain ⟨b, hb⟩ := hc.num (j := 1) (k := .i64) (x := f.pc) rfl
  have h2 := hc.keep (j := 2) rfl hx.noint
  have h3 := hc.keep (j := 3) rfl hy.noint
  obtain ⟨l1, k1, k2⟩ := ints_upd hx hu
  obtain ⟨l2, k3, k4⟩ := ints_upd hy hu
  exact ⟨⟨a, b, l1, l2⟩, ⟨x, y, list4 hc.1 ha hb h2 h3, k2, k4⟩, k1, k3⟩
theorem PageCO.upd {h h' : Heap} (hu : Upd h h') {c c' : List AV} {p : List Int} (k : PageCO h c p) (hc : CU c c') : ∃ q, PageCO h' c' q ∧ q.length = p.length := by
  obtain ⟨x, rfl, hx⟩ := k
  have h2 := hc.keep (j := 0) rfl hx.noint
  obtain ⟨l1, k1, k2⟩ := ints_upd hx hu
  refine ⟨l1, ⟨x, ?_, k2⟩, k1⟩
  match c', hc.1, h2 with
  | [_], _, h2 => cases h2; rfl
theorem StateO.upd {h h' : Heap} (hu : Upd h h') {c : List AV} {s : StateD} (k : StateO h c s) : ∃ t, StateO h' c t ∧ Like s t := by
  obtain ⟨fr, gl, pg, rs, rfl, hfr, hgl, hpg, hrs⟩ := k
  obtain ⟨l1, a1, a2, a3⟩ := hfr.upd (Q' := FrameCO h') (Rl := FrameLike) hu (fun c c' f hc hcu _ => hc.upd hu hcu)
  obtain ⟨l2, b1, b2⟩ := ints_upd hgl hu
  obtain ⟨l3, c1, c2, c3⟩ := hpg.upd (Q' := PageCO h') (Rl := fun p q => q.length = p.length) hu (fun c c' f hc hcu _ => hc.upd hu hcu)
  obtain ⟨l4, d1, d2⟩ := ints_upd hrs hu
  exact ⟨⟨l1, l2, l3, s.replies, s.end_, l4, s.trap, s.used⟩, ⟨fr, gl, pg, rs, rfl, a2, b2, c2, d2⟩, ⟨a1, a3, b1, c1, c3, d1⟩⟩
theorem ints_tree {h : Heap} {k : IntKind} {l : List Int} {a : AV} {bw : Bool} {n : Nat} (o : LiO h 1 (one (ic k)) l a) (hr : l.length ≤ room) : ∃ a', mapOwn (tree bw h (n + 1)) a = some a' ∧ Li 1 (one (ic k)) l a' :=
  o.tree hr fun c x hc _ => by
    simp only [one] at hc
    subst hc
    exact ⟨[ic k x], by simp [ic], rfl, rfl, rfl⟩
/-- What a callee sees of such a state. -/
theorem StateO.tree {h : Heap} {c : List AV} {s : StateD} {bw : Bool} {n : Nat} (k : StateO h c s) (h1 : s.frames.length ≤ room) (h2 : ∀ f ∈ s.frames, f.locals.length ≤ room ∧ f.stack.length ≤ room) (h3 : s.globals.length ≤ room) (h4 : s.pages.length ≤ room) (h5 : ∀ p ∈ s.pages, p.length ≤ room) (h6 : s.results.length ≤ room) :
    ∃ c', mapOwn (tree bw h (n + 3)) (.agg c) = some (.agg c') ∧ StateC c' s := by
  obtain ⟨fr, gl, pg, rs, rfl, hfr, hgl, hpg, hrs⟩ := k
  obtain ⟨a2, b2, c2⟩ := ints_tree (bw := bw) (n := n + 2) hgl h3
  obtain ⟨a4, b4, c4⟩ := ints_tree (bw := bw) (n := n + 2) hrs h6
  have memd : ∀ {α : Type} {Q : List AV → α → Prop} {P : α → Prop} {l : List α} {size : Nat} {a : AV}, LiO h size Q l a → (∀ x ∈ l, P x) → LiO h size (fun c x => Q c x ∧ P x) l a := by
    intro α Q P l size a o hp
    rcases o with ⟨rfl, rfl⟩ | ⟨id, cs, rfl, g1, g2, g3⟩
    · exact LiO.nils
    · exact .inr ⟨id, cs, rfl, g1, g2, fun i x hi => ⟨g3 i x hi, hp x (List.mem_of_getElem? hi)⟩⟩
  obtain ⟨a1, b1, c1⟩ := (memd hfr h2).tree (bw := bw) (k := n + 2) (Q' := FrameC) h1 (fun c f ⟨hc, hf⟩ _ => by
    obtain ⟨x, y, rfl, hx, hy⟩ := hc
    obtain ⟨x', e1, w1⟩ := ints_tree (bw := bw) (n := n + 1) hx hf.1
    obtain ⟨y', e2, w2⟩ := ints_tree (bw := bw) (n := n + 1) hy hf.2
    refine ⟨[mkInt f.fn, mkInt f.pc, x', y'], by simp [mkInt, e1, e2], rfl, by simp [pvs, pv, mkInt, w1.pv, w2.pv], ⟨x', y', rfl, w1, w2⟩⟩)
  obtain ⟨a3, b3, c3⟩ := (memd hpg h5).tree (bw := bw) (k := n + 2) (Q' := PageC) h4 (fun c f ⟨hc, hf⟩ _ => by
    obtain ⟨x, rfl, hx⟩ := hc
    obtain ⟨x', e1, w1⟩ := ints_tree (bw := bw) (n := n + 1) hx hf
    exact ⟨[x'], by simp [e1], rfl, by simp [pvs, w1.pv], ⟨x', rfl, w1⟩⟩)
  exact ⟨[a1, a2, a3, mkInt s.replies, i8 s.end_, a4, i8 s.trap, mkInt s.used], by simp [mkInt, i8, b1, b2, b3, b4], ⟨a1, a2, a3, a4, rfl, c1, c2, c3, c4⟩⟩
end TryzF
