/- A part of the proof (by an AI agent): S1. -/
import Derived.Test.YtjijnkiojpajeaaGreatDoorFb
import Derived.Test.YtjijnkiojpajeaaGreatDoorAiSpec
set_option linter.unusedVariables false
set_option linter.unusedSimpArgs false
set_option maxRecDepth 4000
open Go Go.Ai Go.Proofs
namespace TryzF
noncomputable abbrev A : Rec := arun Tryz.prog TryzA.ann
def w64 (n : Int) : AV := .sc (.int .u64 n)
def w8 (n : Int) : AV := .sc (.int .u8 n)
abbrev Words := Li 1 (one w64)
abbrev Bytes := Li 1 (one w8)
structure FrameD where
  fn : Int
  pc : Int
  locals : List Int
  stack : List Int
  deriving DecidableEq
def FrameC (c : List AV) (f : FrameD) : Prop := ∃ a b, c = [mkInt f.fn, mkInt f.pc, a, b] ∧ Words f.locals a ∧ Words f.stack b
abbrev Frames := Li 4 FrameC
def PageC (c : List AV) (p : List Int) : Prop := ∃ a, c = [a] ∧ Bytes p a
abbrev Pages := Li 1 PageC
structure StateD where
  frames : List FrameD
  globals : List Int
  pages : List (List Int)
  replies : Int
  end_ : Int
  results : List Int
  trap : Int
  used : Int
  deriving DecidableEq
def i8 (n : Int) : AV := .sc (.int .i8 n)
def StateC (c : List AV) (s : StateD) : Prop := ∃ fr gl pg rs, c = [fr, gl, pg, mkInt s.replies, i8 s.end_, rs, i8 s.trap, mkInt s.used] ∧ Frames s.frames fr ∧ Words s.globals gl ∧ Pages s.pages pg ∧ Words s.results rs
theorem inc (n : Nat) (h : n ≤ room) : IntKind.i64.wrap ((n : Int) + 1) = ((n + 1 : Nat) : Int) := by
  unfold room at h
  rw [wrap_i64 (by omega) (by omega)]; omega
theorem lt_of_get {α : Type} {l : List α} {i : Nat} {a : α} (h : l[i]? = some a) : i < l.length := (List.getElem?_eq_some_iff.1 h).1
theorem EqWords_ok {a b : AV} {l l' : List Int} (ha : Words l a) (hb : Words l' b) : A (.call 20 [a, b] []) = some (.call (.ret (mkBool (decide (l = l')))) []) := by
  apply arunK
  rw [flagonref00_EqWords_eq]
  simp only [flagonref00_EqWords]
  by_cases hl : l.length = l'.length
  · obtain ⟨x, e, lo, h1, h2⟩ := eq_loop (R := A) (T := fun i => .loop 20 (cAt Tryz.prog 20 [1, 1, 0, 1, 0, 0]) ⟨[(0, .v a), (1, .v b), (5, .v (.sc (.int .i64 (i : Int))))], m0 []⟩) (h := []) (l := l) (l' := l') (x0 := .exit 0) (eF := [(4, .v (.sc (.bool false)))]) hl
      ⟨_, [], arunK (by rw [flagonref00_EqWords_L0_eq]; simp [flagonref00_EqWords_L0, ha.len, mkInt, m0_mk]; rfl)⟩
      (fun i c h1 h2 r hr => arunK (by
        have hlt := lt_of_get h1
        obtain ⟨s1, g1, g2⟩ := ha.get1 h1 (m := ⟨[], [], []⟩)
        obtain ⟨s2, g3, g4⟩ := hb.get1 h2 (m := ⟨[], [], []⟩)
        rw [flagonref00_EqWords_L0_eq]
        simp [flagonref00_EqWords_L0, ha.len, mkInt, hlt, m0_mk, g1, g2, g3, g4, w64]
        rw [inc i (by have := ha.room; omega)]
        exact hr))
      (fun i c d h1 h2 hcd => ⟨[], arunK (by
        have hlt := lt_of_get h1
        obtain ⟨s1, g1, g2⟩ := ha.get1 h1 (m := ⟨[], [], []⟩)
        obtain ⟨s2, g3, g4⟩ := hb.get1 h2 (m := ⟨[], [], []⟩)
        rw [flagonref00_EqWords_L0_eq]
        simp [flagonref00_EqWords_L0, ha.len, mkInt, hlt, m0_mk, hcd, g1, g2, g3, g4, w64])⟩)
    have h1 : A (.loop 20 (cAt Tryz.prog 20 [1, 1, 0, 1, 0, 0]) ⟨[(0, .v a), (1, .v b), (5, .v (.sc (.int .i64 0)))], m0 []⟩) = some (.loop x ⟨e, ⟨lo, [], []⟩⟩) := h1
    simp [ha.len, hb.len, hl, mkInt] at h1 ⊢
    rw [xLoop_of h1]
    rcases h2 with ⟨h2, rfl⟩ | ⟨h2, rfl, rfl⟩
    · simp [h2, flagonref00_EqWords_fin]
      rfl
    · simp [h2, flagonref00_EqWords_fin]
      rfl
  · have : l ≠ l' := fun e => hl (by rw [e])
    have h2 : ¬ ((l.length : Int) = l'.length) := by omega
    simp [ha.len, hb.len, h2, mkInt, this, m0_mk, flagonref00_EqWords_fin]
    rfl
theorem EqBytes_ok {a b : AV} {l l' : List Int} (ha : Bytes l a) (hb : Bytes l' b) : A (.call 37 [a, b] []) = some (.call (.ret (mkBool (decide (l = l')))) []) := by
  apply arunK
  rw [flagonref00_EqBytes_eq]
  simp only [flagonref00_EqBytes]
  by_cases hl : l.length = l'.length
  · obtain ⟨x, e, lo, h1, h2⟩ := eq_loop (R := A) (T := fun i => .loop 37 (cAt Tryz.prog 37 [1, 1, 0, 1, 0, 0]) ⟨[(0, .v a), (1, .v b), (5, .v (.sc (.int .i64 (i : Int))))], m0 []⟩) (h := []) (l := l) (l' := l') (x0 := .exit 0) (eF := [(4, .v (.sc (.bool false)))]) hl
      ⟨_, [], arunK (by rw [flagonref00_EqBytes_L0_eq]; simp [flagonref00_EqBytes_L0, ha.len, mkInt, m0_mk]; rfl)⟩
      (fun i c h1 h2 r hr => arunK (by
        have hlt := lt_of_get h1
        obtain ⟨s1, g1, g2⟩ := ha.get1 h1 (m := ⟨[], [], []⟩)
        obtain ⟨s2, g3, g4⟩ := hb.get1 h2 (m := ⟨[], [], []⟩)
        rw [flagonref00_EqBytes_L0_eq]
        simp [flagonref00_EqBytes_L0, ha.len, mkInt, hlt, m0_mk, g1, g2, g3, g4, w8]
        rw [inc i (by have := ha.room; omega)]
        exact hr))
      (fun i c d h1 h2 hcd => ⟨[], arunK (by
        have hlt := lt_of_get h1
        obtain ⟨s1, g1, g2⟩ := ha.get1 h1 (m := ⟨[], [], []⟩)
        obtain ⟨s2, g3, g4⟩ := hb.get1 h2 (m := ⟨[], [], []⟩)
        rw [flagonref00_EqBytes_L0_eq]
        simp [flagonref00_EqBytes_L0, ha.len, mkInt, hlt, m0_mk, hcd, g1, g2, g3, g4, w8])⟩)
    have h1 : A (.loop 37 (cAt Tryz.prog 37 [1, 1, 0, 1, 0, 0]) ⟨[(0, .v a), (1, .v b), (5, .v (.sc (.int .i64 0)))], m0 []⟩) = some (.loop x ⟨e, ⟨lo, [], []⟩⟩) := h1
    simp [ha.len, hb.len, hl, mkInt] at h1 ⊢
    rw [xLoop_of h1]
    rcases h2 with ⟨h2, rfl⟩ | ⟨h2, rfl, rfl⟩
    · simp [h2, flagonref00_EqBytes_fin]
      rfl
    · simp [h2, flagonref00_EqBytes_fin]
      rfl
  · have : l ≠ l' := fun e => hl (by rw [e])
    have h2 : ¬ ((l.length : Int) = l'.length) := by omega
    simp [ha.len, hb.len, h2, mkInt, this, m0_mk, flagonref00_EqBytes_fin]
    rfl
theorem SlWords_ok {a b : AV} {l l' : List Int} (ha : Words l a) (hb : Words l' b) : A (.call 24 [a, b] []) = some (.call (.ret (mkBool (decide (l = l')))) []) := by
  apply arunK
  rw [slices_Equal_uint64_uint64_eq]
  simp only [slices_Equal_uint64_uint64]
  by_cases hl : l.length = l'.length
  · obtain ⟨x, e, lo, h1, h2⟩ := eq_loop (R := A) (T := fun i => .loop 24 (cAt Tryz.prog 24 [1, 1, 0, 1, 0, 0]) ⟨[(0, .v a), (1, .v b), (12, .v (mkInt l.length)), (13, .v (.sc (.int .i64 (i : Int))))], m0 []⟩) (h := []) (l := l) (l' := l') (x0 := .exit 0) (eF := [(4, .v (.sc (.bool false)))]) hl
      ⟨_, [], arunK (by rw [slices_Equal_uint64_uint64_L0_eq]; simp [slices_Equal_uint64_uint64_L0, ha.len, mkInt, m0_mk]; rfl)⟩
      (fun i c h1 h2 r hr => arunK (by
        have hlt := lt_of_get h1
        obtain ⟨s1, g1, g2⟩ := ha.get1 h1 (m := ⟨[], [], []⟩)
        obtain ⟨s2, g3, g4⟩ := hb.get1 h2 (m := ⟨[], [], []⟩)
        rw [slices_Equal_uint64_uint64_L0_eq]
        simp [slices_Equal_uint64_uint64_L0, ha.len, mkInt, hlt, m0_mk, g1, g2, g3, g4, w64]
        rw [inc i (by have := ha.room; omega)]
        exact hr))
      (fun i c d h1 h2 hcd => ⟨[], arunK (by
        have hlt := lt_of_get h1
        obtain ⟨s1, g1, g2⟩ := ha.get1 h1 (m := ⟨[], [], []⟩)
        obtain ⟨s2, g3, g4⟩ := hb.get1 h2 (m := ⟨[], [], []⟩)
        rw [slices_Equal_uint64_uint64_L0_eq]
        simp [slices_Equal_uint64_uint64_L0, ha.len, mkInt, hlt, m0_mk, hcd, g1, g2, g3, g4, w64])⟩)
    have h1 : A (.loop 24 (cAt Tryz.prog 24 [1, 1, 0, 1, 0, 0]) ⟨[(0, .v a), (1, .v b), (12, .v (mkInt l.length)), (13, .v (.sc (.int .i64 0)))], m0 []⟩) = some (.loop x ⟨e, ⟨lo, [], []⟩⟩) := h1
    simp [ha.len, hb.len, hl, mkInt] at h1 ⊢
    rw [xLoop_of h1]
    rcases h2 with ⟨h2, rfl⟩ | ⟨h2, rfl, rfl⟩
    · simp [h2, slices_Equal_uint64_uint64_fin]
      rfl
    · simp [h2, slices_Equal_uint64_uint64_fin]
      rfl
  · have : l ≠ l' := fun e => hl (by rw [e])
    have h2 : ¬ ((l.length : Int) = l'.length) := by omega
    simp [ha.len, hb.len, h2, mkInt, this, m0_mk, slices_Equal_uint64_uint64_fin]
    rfl
theorem SlBytes_ok {a b : AV} {l l' : List Int} (ha : Bytes l a) (hb : Bytes l' b) : A (.call 27 [a, b] []) = some (.call (.ret (mkBool (decide (l = l')))) []) := by
  apply arunK
  rw [slices_Equal_byte_byte_eq]
  simp only [slices_Equal_byte_byte]
  by_cases hl : l.length = l'.length
  · obtain ⟨x, e, lo, h1, h2⟩ := eq_loop (R := A) (T := fun i => .loop 27 (cAt Tryz.prog 27 [1, 1, 0, 1, 0, 0]) ⟨[(0, .v a), (1, .v b), (12, .v (mkInt l.length)), (13, .v (.sc (.int .i64 (i : Int))))], m0 []⟩) (h := []) (l := l) (l' := l') (x0 := .exit 0) (eF := [(4, .v (.sc (.bool false)))]) hl
      ⟨_, [], arunK (by rw [slices_Equal_byte_byte_L0_eq]; simp [slices_Equal_byte_byte_L0, ha.len, mkInt, m0_mk]; rfl)⟩
      (fun i c h1 h2 r hr => arunK (by
        have hlt := lt_of_get h1
        obtain ⟨s1, g1, g2⟩ := ha.get1 h1 (m := ⟨[], [], []⟩)
        obtain ⟨s2, g3, g4⟩ := hb.get1 h2 (m := ⟨[], [], []⟩)
        rw [slices_Equal_byte_byte_L0_eq]
        simp [slices_Equal_byte_byte_L0, ha.len, mkInt, hlt, m0_mk, g1, g2, g3, g4, w8]
        rw [inc i (by have := ha.room; omega)]
        exact hr))
      (fun i c d h1 h2 hcd => ⟨[], arunK (by
        have hlt := lt_of_get h1
        obtain ⟨s1, g1, g2⟩ := ha.get1 h1 (m := ⟨[], [], []⟩)
        obtain ⟨s2, g3, g4⟩ := hb.get1 h2 (m := ⟨[], [], []⟩)
        rw [slices_Equal_byte_byte_L0_eq]
        simp [slices_Equal_byte_byte_L0, ha.len, mkInt, hlt, m0_mk, hcd, g1, g2, g3, g4, w8])⟩)
    have h1 : A (.loop 27 (cAt Tryz.prog 27 [1, 1, 0, 1, 0, 0]) ⟨[(0, .v a), (1, .v b), (12, .v (mkInt l.length)), (13, .v (.sc (.int .i64 0)))], m0 []⟩) = some (.loop x ⟨e, ⟨lo, [], []⟩⟩) := h1
    simp [ha.len, hb.len, hl, mkInt] at h1 ⊢
    rw [xLoop_of h1]
    rcases h2 with ⟨h2, rfl⟩ | ⟨h2, rfl, rfl⟩
    · simp [h2, slices_Equal_byte_byte_fin]
      rfl
    · simp [h2, slices_Equal_byte_byte_fin]
      rfl
  · have : l ≠ l' := fun e => hl (by rw [e])
    have h2 : ¬ ((l.length : Int) = l'.length) := by omega
    simp [ha.len, hb.len, h2, mkInt, this, m0_mk, slices_Equal_byte_byte_fin]
    rfl
theorem EqPages_ok {a b : AV} {l l' : List (List Int)} (ha : Pages l a) (hb : Pages l' b) : A (.call 21 [a, b] []) = some (.call (.ret (mkBool (decide (l = l')))) []) := by
  apply arunK
  rw [flagonref00_EqPages_eq]
  simp only [flagonref00_EqPages]
  by_cases hl : l.length = l'.length
  · obtain ⟨x, e, lo, h1, h2⟩ := eq_loop (R := A) (T := fun i => .loop 21 (cAt Tryz.prog 21 [1, 1, 0, 1, 0, 0]) ⟨[(0, .v a), (1, .v b), (5, .v (.sc (.int .i64 (i : Int))))], m0 []⟩) (h := []) (l := l) (l' := l') (x0 := .exit 0) (eF := [(4, .v (.sc (.bool false)))]) hl
      ⟨_, [], arunK (by rw [flagonref00_EqPages_L0_eq]; simp [flagonref00_EqPages_L0, ha.len, mkInt, m0_mk]; rfl)⟩
      (fun i c h1 h2 r hr => arunK (by
        have hlt := lt_of_get h1
        obtain ⟨s1, c1, g1, ⟨p1, rfl, k1⟩, _, v1, _, _, g2⟩ := ha.at_ (by omega) h1 (m := ⟨[], [], []⟩)
        obtain ⟨s2, c2, g3, ⟨p2, rfl, k2⟩, _, v2, _, _, g4⟩ := hb.at_ (by omega) h2 (m := ⟨[], [], []⟩)
        have g2 := g2 _ rfl
        have g4 := g4 _ rfl
        have hc : ∀ kp k, xPureR A ⟨[], [], []⟩ 37 [p1, p2] kp k = k (mkBool (decide (c = c))) := fun kp k => xPure_sc (X := Ex × Env × Mm) (by simpa [pvs] using ⟨k1.pv, k2.pv⟩) (EqBytes_ok k1 k2)
        rw [flagonref00_EqPages_L0_eq]
        simp [flagonref00_EqPages_L0, ha.len, mkInt, hlt, m0_mk, g1, g2, g3, g4, hc]
        rw [inc i (by have := ha.room; omega)]
        exact hr))
      (fun i c d h1 h2 hcd => ⟨[], arunK (by
        have hlt := lt_of_get h1
        obtain ⟨s1, c1, g1, ⟨p1, rfl, k1⟩, _, v1, _, _, g2⟩ := ha.at_ (by omega) h1 (m := ⟨[], [], []⟩)
        obtain ⟨s2, c2, g3, ⟨p2, rfl, k2⟩, _, v2, _, _, g4⟩ := hb.at_ (by omega) h2 (m := ⟨[], [], []⟩)
        have g2 := g2 _ rfl
        have g4 := g4 _ rfl
        have hc : ∀ kp k, xPureR A ⟨[], [], []⟩ 37 [p1, p2] kp k = k (mkBool (decide (c = d))) := fun kp k => xPure_sc (X := Ex × Env × Mm) (by simpa [pvs] using ⟨k1.pv, k2.pv⟩) (EqBytes_ok k1 k2)
        rw [flagonref00_EqPages_L0_eq]
        simp [flagonref00_EqPages_L0, ha.len, mkInt, hlt, m0_mk, hcd, g1, g2, g3, g4, hc])⟩)
    have h1 : A (.loop 21 (cAt Tryz.prog 21 [1, 1, 0, 1, 0, 0]) ⟨[(0, .v a), (1, .v b), (5, .v (.sc (.int .i64 0)))], m0 []⟩) = some (.loop x ⟨e, ⟨lo, [], []⟩⟩) := h1
    simp [ha.len, hb.len, hl, mkInt] at h1 ⊢
    rw [xLoop_of h1]
    rcases h2 with ⟨h2, rfl⟩ | ⟨h2, rfl, rfl⟩
    · simp [h2, flagonref00_EqPages_fin]
      rfl
    · simp [h2, flagonref00_EqPages_fin]
      rfl
  · have : l ≠ l' := fun e => hl (by rw [e])
    have h2 : ¬ ((l.length : Int) = l'.length) := by omega
    simp [ha.len, hb.len, h2, mkInt, this, m0_mk, flagonref00_EqPages_fin]
    rfl
end TryzF
