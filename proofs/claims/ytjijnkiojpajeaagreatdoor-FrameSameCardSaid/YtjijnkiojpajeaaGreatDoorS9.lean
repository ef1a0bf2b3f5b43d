/- A part of the proof (by an AI agent): S9. -/
import Derived.Test.YtjijnkiojpajeaaGreatDoorS7
import Derived.Test.YtjijnkiojpajeaaGreatDoorS8b
set_option linter.unusedVariables false
set_option linter.unusedSimpArgs false
set_option maxRecDepth 8000
open Go Go.Ai Go.Proofs
namespace TryzF
def fr0 (pc : Int) : List AV := [.sc (.int .i64 0), .sc (.int .i64 pc), .nils, .nils]
def H0 (pc : Int) : Heap := [fr0 pc, pg, [.own 1 0 1 4096 4096 4096]]
def begunO : AV := .agg [.own 0 0 4 1 1 4, .nils, .own 2 0 1 1 1 1, .sc (.int .i64 0), .sc (.int .i8 1), .nils, .sc (.int .i8 0), .sc (.int .i64 0)]
theorem begun_ok : A (.call 15 [] []) = some (.call (.ret begunO) (H0 0)) := runN_arun 5 _ _ (by kernel_rfl)
theorem known_ok : A (.call 17 [] []) = some (.call (.ret (.agg [.own 0 0 2 1 1 2, .nils, .nils, .sc (.int .i64 1), .sc (.int .i64 2), .own 2 0 3 1 1 3, .nils, .nils])) [[.sc (.string { data := #[] }), .sc (.string { data := #[119] })], [.sc (.int .u8 24), .sc (.int .i64 5), .nils, .sc (.int .u8 6), .sc (.int .i64 0), .nils], [.sc (.int .i64 0), .sc (.string { data := #[] }), .own 1 0 3 2 2 6]]) := runN_arun 5 _ _ (by kernel_rfl)
theorem known_gives : Gives A 17 [] knownV := ⟨_, _, known_ok, by kernel_rfl, rfl⟩
theorem pg_eq : pg = [AV.sc (.int .u8 0)] ++ repeatCells [.sc (.int .u8 0)] 4095 := by kernel_rfl
theorem rep_len (n : Nat) : (repeatCells [AV.sc (.int .u8 0)] n).length = n := by
  induction n with
  | zero => rfl
  | succ n ih => simp [repeatCells, ih]
theorem pg_len : pg.length = 4096 := rep_len 4096
theorem rep_pvs (n : Nat) : pvs (repeatCells [AV.sc (.int .u8 0)] n) = true := by
  induction n with
  | zero => rfl
  | succ n ih => simp [repeatCells, pvs, pv, ih]
theorem rep_last (n : Nat) : lastings (repeatCells [AV.sc (.int .u8 0)] n) = true := by
  induction n with
  | zero => rfl
  | succ n ih => simp [repeatCells, lastings, lasting, ih]
theorem pg_pvs : pvs pg = true := rep_pvs 4096
theorem pg_last : lastings pg = true := rep_last 4096
theorem rep_map (n : Nat) : repeatCells [AV.sc (.int .u8 0)] n = (List.replicate n (0 : Int)).map w8 := by
  induction n with
  | zero => rfl
  | succ n ih => simp [repeatCells, List.replicate_succ, ih, w8]
theorem t1 {bw : Bool} {k : Nat} {pc : Int} : tree bw (H0 pc) (k + 1) (.own 0 0 4 1 1 4) = some (.snap bw 4 1 (fr0 pc)) := tree_own (n := 1) (size := 4) rfl rfl rfl
theorem t2 {bw : Bool} {k : Nat} {pc : Int} : tree bw (H0 pc) (k + 1) (.own 1 0 1 4096 4096 4096) = some (.snap bw 1 4096 pg) := tree_own (n := 4096) (size := 1) rfl pg_len (rep_pvs 4096)
theorem t3 {bw : Bool} {k : Nat} {pc : Int} : tree bw (H0 pc) (k + 2) (.own 2 0 1 1 1 1) = some (.snap bw 1 1 [.snap bw 1 4096 pg]) := tree_own' (n := 1) (size := 1) rfl rfl (by
  simp only [mapOwns_cons, mapOwn_own, t2, Option.bind_some, mapOwns_nil, Option.map_some])
theorem begun_tree {bw : Bool} {pc : Int} {k : Nat} : mapOwn (tree bw (H0 pc) (k + 2)) begunO = some (begunV pc bw) := by
  simp only [begunO, mapOwn_agg, mapOwns_cons, mapOwn_own, mapOwn_sc, mapOwn_nils, t1, t3, Option.bind_some, mapOwns_nil, Option.map_some]
  rfl
theorem begun_gives : Gives A 15 [] (begunV 0 false) := ⟨_, _, begun_ok, by
  show give [] (_ :: _) _ = _
  rw [give_cons]
  exact (show tree false (H0 0) (18 + 2) begunO = _ from (begun_tree (k := 18))), by
  simp [begunV, lasting, lastings, pg_last]⟩
theorem begun_state {pc : Int} {b : Bool} : StateC [.snap b 4 1 [.sc (.int .i64 0), .sc (.int .i64 pc), .nils, .nils], .nils, .snap b 1 1 [.snap b 1 4096 pg], .sc (.int .i64 0), .sc (.int .i8 1), .nils, .sc (.int .i8 0), .sc (.int .i64 0)]
    ⟨[⟨0, pc, [], []⟩], [], [List.replicate 4096 0], 0, 1, [], 0, 0⟩ := by
  refine ⟨_, _, _, _, rfl, ⟨_, Sl.snap (n := 1) rfl rfl (by decide), fun i x hi => ?_⟩, Li.nils, ⟨_, Sl.snap (n := 1) rfl ?_ (by decide), fun i x hi => ?_⟩, Li.nils⟩
  · cases i with
    | zero => cases hi; exact ⟨_, _, rfl, Li.nils, Li.nils⟩
    | succ i => simp at hi
  · simp [pvs, pv, pg_pvs]
  · cases i with
    | zero =>
      cases hi
      refine ⟨_, rfl, ?_⟩
      have := Li.map1 (f := w8) (l := List.replicate 4096 0) (b := b) (fun _ => rfl) (by rw [List.length_replicate]; decide)
      rw [← rep_map, List.length_replicate] at this
      exact this
    | succ i => exact absurd hi (by rw [List.getElem?_cons_succ, List.getElem?_nil]; exact fun h => by cases h)
set_option maxHeartbeats 1000000 in
theorem works_ok : ∃ h', A (.call 5 [] []) = some (.call (.ret (mkBool true)) h') := by
  obtain ⟨h1, hc1⟩ := check_ok
  obtain ⟨h2, hc2⟩ := check_no
  have ck : ∀ m kp (k : AV → Rs), xPureR A m 17 [] kp k = k knownV := fun m kp k => known_gives.pure rfl
  have cb : ∀ m kp (k : AV → Option SV), xPureR A m 15 [] kp k = k (begunV 0 false) := fun m kp k => begun_gives.pure rfl
  have lk : ∀ pc, lend (H0 pc) [knownV, begunO] = some [knownV, begunV pc true] := fun pc => by
    show mapOwns (tree true (H0 pc) 20) [knownV, begunO] = _
    rw [mapOwns_cons, mapOwns_cons, mapOwn_pv knownV rfl, begun_tree (k := 18)]
    rfl
  have c1 : ∀ lo d kp (k : AV → Rs), xPureR A ⟨lo, H0 0, d⟩ 16 [knownV, begunO] kp k = k (.tup [.sc (.int .i64 0), .sc (.int .i64 0)]) := fun lo d kp k => xPure_of (lk 0) hc1 (give_pv rfl rfl)
  have c2 : ∀ lo d kp (k : AV → Rs), xPureR A ⟨lo, H0 2, d⟩ 16 [knownV, begunO] kp k = k (.tup [.sc (.int .i64 44), .sc (.int .i64 9)]) := fun lo d kp k => xPure_of (lk 2) hc2 (give_pv rfl rfl)
  have le : lend (H0 2) [begunO, begunV 0 false] = some [begunV 2 true, begunV 0 false] := by
    show mapOwns (tree true (H0 2) 20) [begunO, begunV 0 false] = _
    rw [mapOwns_cons, mapOwns_cons, begun_tree (k := 18), mapOwn_pv (begunV 0 false) (by simp [begunV, pv, pvs, pg_pvs])]
    rfl
  have he := Equal_ok (begun_state (pc := 2) (b := true)) (begun_state (pc := 0) (b := false))
  have give_sc_f : give (H0 2) [] (mkBool (decide ((⟨[⟨0, 2, [], []⟩], [], [List.replicate 4096 0], 0, 1, [], 0, 0⟩ : StateD) = ⟨[⟨0, 0, [], []⟩], [], [List.replicate 4096 0], 0, 1, [], 0, 0⟩))) = some (mkBool false) := by
    have : ¬ ((⟨[⟨0, 2, [], []⟩], [], [List.replicate 4096 0], 0, 1, [], 0, 0⟩ : StateD) = ⟨[⟨0, 0, [], []⟩], [], [List.replicate 4096 0], 0, 1, [], 0, 0⟩) := fun h => by
      have := congrArg (fun s => (s.frames.map FrameD.pc)) h
      simp at this
    rw [decide_eq_false this]
    exact give_sc
  have c3 : ∀ lo d kp (k : AV → Option SV), xPureR A ⟨lo, H0 2, d⟩ 8 [begunO, begunV 0 false] kp k = k (mkBool false) := fun lo d kp k => xPure_of le he give_sc_f
  refine ⟨H0 2, arunK ?_⟩
  rw [flagonlaw14_works_eq]
  have hb : ∀ kp (k : AV → Mm → Rs), xCallR A ⟨[], [], []⟩ 15 [] kp k = k begunO ⟨[], H0 0, []⟩ := fun kp k => xCall_of begun_ok
  have i1 : aIndexS ⟨[(0, .cells [.own 0 0 4 1 1 4, .nils, .own 2 0 1 1 1 1, .sc (.int .i64 0), .sc (.int .i8 1), .nils, .sc (.int .i8 0), .sc (.int .i64 0)])], H0 0, []⟩ 4 0 (.own 0 0 4 1 1 4) = some (.v (.ptr 0 0 4)) := rfl
  have i2 : aField ⟨[(0, .cells [.own 0 0 4 1 1 4, .nils, .own 2 0 1 1 1 1, .sc (.int .i64 0), .sc (.int .i8 1), .nils, .sc (.int .i8 0), .sc (.int .i64 0)])], H0 0, []⟩ 1 (.v (.ptr 0 0 4)) = some (.v (.ptr 0 1 4)) := rfl
  have i3 : aStore false 1 ⟨[(0, .cells [.own 0 0 4 1 1 4, .nils, .own 2 0 1 1 1 1, .sc (.int .i64 0), .sc (.int .i8 1), .nils, .sc (.int .i8 0), .sc (.int .i64 0)])], H0 0, []⟩ (.v (.ptr 0 1 4)) (.sc (.int .i64 2)) = some ⟨[(0, .cells [.own 0 0 4 1 1 4, .nils, .own 2 0 1 1 1 1, .sc (.int .i64 0), .sc (.int .i8 1), .nils, .sc (.int .i8 0), .sc (.int .i64 0)])], H0 2, []⟩ := rfl
  simp only [begunO] at hb c1 c2 c3
  simp [flagonlaw14_works, m0_mk, hb, zc27, splice, ck, c1, tupGet, i1, i2, i3, c2, cb, opvsL, c3, flagonlaw14_works_fin]
end TryzF
