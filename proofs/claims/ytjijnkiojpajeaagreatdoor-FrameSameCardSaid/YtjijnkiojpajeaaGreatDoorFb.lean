/- A part of the proof (by an AI agent): Fb. -/
import Derived.Test.YtjijnkiojpajeaaGreatDoorProg
import Derived.Test.YtjijnkiojpajeaaGreatDoorAnnF1
import Derived.KernelRfl
set_option maxRecDepth 100000
set_option linter.unusedVariables false
open Go Go.Ai Go.Proofs
namespace TryzF
theorem zc27 : zc Tryz.prog 27 = [.nils, .nils, .nils, (.sc (Go.Value.int Go.IntKind.i64 0)), (.sc (Go.Value.int Go.IntKind.i8 0)), .nils, (.sc (Go.Value.int Go.IntKind.i8 0)), (.sc (Go.Value.int Go.IntKind.i64 0))] := by kernel_rfl
theorem zc36 : zc Tryz.prog 36 = [.nils, .nils, .nils, (.sc (Go.Value.int Go.IntKind.i64 0)), (.sc (Go.Value.int Go.IntKind.i64 0)), .nils, .nils, .nils] := by kernel_rfl
theorem zc40 : zc Tryz.prog 40 = [(.sc (Go.Value.int Go.IntKind.i64 0)), (.sc (Go.Value.int Go.IntKind.i64 0)), .nils, .nils] := by kernel_rfl
theorem zc44 : zc Tryz.prog 44 = [.nils] := by kernel_rfl

/-- flagon/flagonlaw14.FrameSame -/
noncomputable def flagonlaw14_FrameSame (R : Rec) (h : Heap) (x0 x1 : AV) : Rs :=
  (cellsOf x0).bind fun cs1 =>
  let m2 := mset (m0 h) 0 cs1
  (cellsOf x1).bind fun cs3 =>
  let m4 := mset m2 1 cs3
  (fillCells (pls [(0, 1), (1, 1), (2, 1), (3, 1), (4, 1), (5, 1), (6, 1), (7, 1)]) (zc Tryz.prog 36) []).bind fun cs5 =>
  (aLoad true 8 m4 (.l 0 0)).bind fun a6 =>
  xPureR R m4 4 [(.agg cs5), .nils, a6] (fun v8 => some (.pan v8, [], m4)) fun a7 =>
  (wantS (.v a7) false).bind fun t9 =>
  xGuardR t9 ((fillCells (pls [(0, 1), (1, 1), (2, 1), (3, 1), (4, 1), (5, 1), (6, 1), (7, 1)]) (zc Tryz.prog 36) []).bind fun cs14 =>
  retV (.v (.agg cs14)) m4) m4 (fun v12 m13 => some (.pan v12, [], m13)) fun s10 m11 =>
  (wantS (.v a7) false).bind fun t15 =>
  xGuardR t15 ((aLoad true 8 m11 (.l 1 0)).bind fun a20 =>
  retV (.v a20) m11) m11 (fun v18 m19 => some (.pan v18, [], m19)) fun s16 m17 =>
  (wantS (.v a7) false).bind fun t21 =>
  xGuardR t21 ((opvsL [s10, (.v .nils), s16]).bind fun as26 =>
  xPureR R m17 4 as26 (fun v28 => retP v28 m17) fun a27 =>
  retV (.v a27) m17) m17 (fun v24 m25 => some (.pan v24, [], m25)) fun s22 m23 =>
  (boolv a7).bind fun t29 =>
  xJoin ((boolv (vof (pickS t29 (.v (.sc (.bool true))) s22))).bind fun t30 =>
  if t30 = true then
  xPureR R m23 5 [] (fun v32 => some (.pan v32, [], m23)) fun a31 =>
  some (.ret, [(4, (.v a31))], m23)
  else
  retN [(2, (.l 0 0)), (3, (.l 1 0)), (23, (.v (vof (pickS t29 (.v (.sc (.bool true))) s22))))] m23) (fun e33 m34 =>
  (aLoad true 8 m34 (eget e33 2)).bind fun a35 =>
  xCallR R m34 6 [a35] (fun v38 m39 => some (.pan v38, [], m39)) fun a36 m37 =>
  let m40 := mset m37 2 (zc Tryz.prog 27)
  (aStore true 8 m40 (.l 2 0) a36).bind fun m41 =>
  xBlock 0 (xLoop R (.loop 3 (cAt Tryz.prog 3 [1, 1, 1, 1, 0, 1, 0, 0]) ⟨[(2, (unl 2 (eget e33 2))), (3, (unl 2 (eget e33 3))), (5, (.l 2 0)), (6, (.v (.sc (.int .i64 0)))), (7, (.v (.sc (.int .i64 0))))], mkeep m41 [0, 1, 2]⟩) retN) (fun e42 m43 =>
  (aLoad true 8 m43 (eget e42 5)).bind fun a44 =>
  (aLoad true 8 m43 (eget e42 2)).bind fun a45 =>
  xPureR R m43 7 [a44, a45] (fun v47 => none) fun a46 =>
  (aUn .not a46).bind fun a48 =>
  (wantS (.v a48) false).bind fun t49 =>
  xGuardQ t49 ((aLoad true 8 m43 (eget e42 2)).bind fun a54 =>
  some (.v a54)) fun s50 =>
  (wantS (.v a48) false).bind fun t55 =>
  xGuardQ t55 ((aLoad true 8 m43 (eget e42 3)).bind fun a60 =>
  some (.v a60)) fun s56 =>
  (wantS (.v a48) false).bind fun t61 =>
  xGuardQ t61 ((opvsL [s50, s56]).bind fun as66 =>
  xPureR R m43 8 as66 (fun v68 => none) fun a67 =>
  some (.v a67)) fun s62 =>
  (wantS (.v a48) false).bind fun t69 =>
  xGuardQ t69 ((aLoad true 8 m43 (eget e42 2)).bind fun a74 =>
  some (.v a74)) fun s70 =>
  (wantS (.v a48) false).bind fun t75 =>
  xGuardQ t75 ((aLoad true 8 m43 (eget e42 3)).bind fun a80 =>
  some (.v a80)) fun s76 =>
  (wantS (.v a48) false).bind fun t81 =>
  xGuardQ t81 ((opvsL [s70, s76]).bind fun as86 =>
  xPureR R m43 7 as86 (fun v88 => none) fun a87 =>
  some (.v a87)) fun s82 =>
  (wantS (.v a48) false).bind fun t89 =>
  xGuardQ t89 ((valOf s62).bind fun a94 =>
  (valOf s82).bind fun a95 =>
  (xBin Tryz.prog true 4 .neq a94 a95).bind fun a96 =>
  some (.v a96)) fun s90 =>
  (boolv a48).bind fun t97 =>
  (wantS (pickS t97 (.v (.sc (.bool true))) s90) false).bind fun t98 =>
  xGuardQ t98 ((aLoad true 8 m43 (eget e42 5)).bind fun a103 =>
  some (.v a103)) fun s99 =>
  (wantS (pickS t97 (.v (.sc (.bool true))) s90) false).bind fun t104 =>
  xGuardQ t104 ((aLoad true 8 m43 (eget e42 2)).bind fun a109 =>
  some (.v a109)) fun s105 =>
  (wantS (pickS t97 (.v (.sc (.bool true))) s90) false).bind fun t110 =>
  xGuardQ t110 ((opvsL [s99, s105]).bind fun as115 =>
  xPureR R m43 8 as115 (fun v117 => none) fun a116 =>
  some (.v a116)) fun s111 =>
  (wantS (pickS t97 (.v (.sc (.bool true))) s90) false).bind fun t118 =>
  xGuardQ t118 ((valOf s111).bind fun a123 =>
  (aUn .not a123).bind fun a124 =>
  some (.v a124)) fun s119 =>
  (valOf (pickS t97 (.v (.sc (.bool true))) s90)).bind fun a125 =>
  (boolv a125).bind fun t126 =>
  (wantS (pickS t126 (.v (.sc (.bool true))) s119) false).bind fun t127 =>
  xGuardQ t127 ((aLoad true 8 m43 (eget e42 2)).bind fun a132 =>
  some (.v a132)) fun s128 =>
  (wantS (pickS t126 (.v (.sc (.bool true))) s119) false).bind fun t133 =>
  xGuardQ t133 ((opvsL [s128]).bind fun as138 =>
  xPureR R m43 9 as138 (fun v140 => none) fun a139 =>
  some (.v a139)) fun s134 =>
  (wantS (pickS t126 (.v (.sc (.bool true))) s119) false).bind fun t141 =>
  xGuardQ t141 (some (.v (vget e42 6))) fun s142 =>
  (wantS (pickS t126 (.v (.sc (.bool true))) s119) false).bind fun t146 =>
  xGuardQ t146 ((valOf s134).bind fun a151 =>
  (valOf s142).bind fun a152 =>
  (xBin Tryz.prog false 3 .neq a151 a152).bind fun a153 =>
  some (.v a153)) fun s147 =>
  (valOf (pickS t126 (.v (.sc (.bool true))) s119)).bind fun a154 =>
  (boolv a154).bind fun t155 =>
  xJoin ((boolv (vof (pickS t155 (.v (.sc (.bool true))) s147))).bind fun t156 =>
  if t156 = true then
  some (.ret, [(4, (.v (.sc (.bool false))))], m43)
  else
  retN [(2, (eget e42 2)), (5, (eget e42 5)), (67, (.v (vof (pickS t155 (.v (.sc (.bool true))) s147))))] m43) (fun e157 m158 =>
  (aLoad true 8 m158 (eget e157 2)).bind fun a159 =>
  xPureR R m158 10 [a159] (fun v161 => some (.pan v161, [], m158)) fun a160 =>
  let m162 := mset m158 3 (zc Tryz.prog 27)
  (aStore true 8 m162 (.l 3 0) a160).bind fun m163 =>
  xBlock 2 (xLoop R (.loop 3 (cAt Tryz.prog 3 [1, 1, 1, 1, 1, 1, 1, 0, 1, 0, 0]) ⟨[(2, (unl 3 (eget e157 2))), (5, (unl 3 (eget e157 5))), (8, (.l 3 0)), (9, (.v (.sc (.int .i64 0))))], mkeep m163 [0, 2, 3]⟩) retN) (fun e164 m165 =>
  xBlock 8 (xLoop R (.loop 3 (cAt Tryz.prog 3 [1, 1, 1, 1, 1, 1, 1, 1, 0, 1, 0, 0]) ⟨[(2, (eget e164 2)), (5, (eget e164 5)), (8, (eget e164 8)), (12, (.v (.sc (.int .i64 0))))], mkeep m165 [0, 2, 3]⟩) retN) (fun e166 m167 =>
  xBlock 12 (xLoop R (.loop 3 (cAt Tryz.prog 3 [1, 1, 1, 1, 1, 1, 1, 1, 1, 0, 1, 0, 0]) ⟨[(2, (eget e166 2)), (5, (eget e166 5)), (8, (eget e166 8)), (14, (.v (.sc (.int .i64 0))))], mkeep m167 [0, 2, 3]⟩) retN) (fun e168 m169 =>
  xBlock 14 (xLoop R (.loop 3 (cAt Tryz.prog 3 [1, 1, 1, 1, 1, 1, 1, 1, 1, 1, 0, 1, 0, 0]) ⟨[(2, (eget e168 2)), (5, (eget e168 5)), (8, (eget e168 8)), (15, (.v (.sc (.int .i64 0))))], mkeep m169 [0, 2, 3]⟩) retN) (fun e170 m171 =>
  (aLoad true 8 m171 (eget e170 8)).bind fun a172 =>
  (aLoad true 8 m171 (eget e170 2)).bind fun a173 =>
  xPureR R m171 7 [a172, a173] (fun v175 => some (.pan v175, [], m171)) fun a174 =>
  (wantS (.v a174) true).bind fun t176 =>
  xGuardR t176 (xPureR R m171 5 [] (fun v182 => retP v182 m171) fun a181 =>
  retV (.v a181) m171) m171 (fun v179 m180 => some (.pan v179, [], m180)) fun s177 m178 =>
  (boolv a174).bind fun t183 =>
  some (.ret, [(4, (.v (vof (pickS t183 s177 (.v (.sc (.bool false)))))))], m178))))))))
theorem flagonlaw14_FrameSame_eq (R : Rec) (h : Heap) (x0 x1 : AV) : stepK Tryz.prog TryzA.ann R (.call 3 [x0, x1] h) = (flagonlaw14_FrameSame R h x0 x1).bind (fin Tryz.prog TryzA.ann 3 R) := by kernel_rfl
theorem flagonlaw14_FrameSame_fin (R : Rec) (l : Ai.Loc) (h : Heap) (s4 : SV) : fin Tryz.prog TryzA.ann 3 R (.ret, [(4, s4)], ⟨l, h, []⟩) = ((valOf s4).bind fun v => (some []).map (v :: ·)).map fun vs => .call (.ret (oneOrTup vs)) h := by kernel_rfl
noncomputable def flagonlaw14_FrameSame_L0 (R : Rec) (m : Mm) (y2 : SV) (y3 : SV) (y5 : SV) (x6 : AV) (x7 : AV) : Rs :=
  (aField m 0 y2).bind fun s1 =>
  (aLoad false 1 m s1).bind fun a2 =>
  (aLenS m a2).bind fun n3 =>
  (xBin Tryz.prog false 3 .lss x7 (mkInt (n3 : Nat))).bind fun a4 =>
  xJoin ((boolv a4).bind fun t5 =>
  if t5 = true then
  retN [(2, y2), (3, y3), (5, y5), (6, (.v x6)), (7, (.v x7)), (31, (.v a4))] m
  else
  some (.exit 0, [(2, y2), (3, y3), (5, y5), (6, (.v x6)), (7, (.v x7)), (31, (.v a4))], m)) (fun e6 m7 =>
  xBlock 1 ((aField m7 0 (eget e6 2)).bind fun s8 =>
  (aLoad false 1 m7 s8).bind fun a9 =>
  (intv (vget e6 7)).bind fun p10 =>
  (aIndexS m7 4 p10.2 a9).bind fun s11 =>
  (aField m7 3 s11).bind fun s12 =>
  (aLoad false 1 m7 s12).bind fun a13 =>
  (aLenS m7 a13).bind fun n14 =>
  (xBin Tryz.prog false 3 .add (vget e6 6) (mkInt (n14 : Nat))).bind fun a15 =>
  retN [(2, (eget e6 2)), (3, (eget e6 3)), (5, (eget e6 5)), (6, (.v a15)), (7, (.v (vget e6 7)))] m7) (fun e16 m17 =>
  (xBin Tryz.prog false 3 .add (vget e16 7) (.sc (.int .i64 1))).bind fun a18 =>
  retN [(2, (eget e16 2)), (3, (eget e16 3)), (5, (eget e16 5)), (6, (.v (vget e16 6))), (7, (.v a18))] m17))
noncomputable abbrev flagonlaw14_FrameSame_L0_t (y2 : SV) (y3 : SV) (y5 : SV) (x6 : AV) (x7 : AV) (m : Mm) : Task := .loop 3 (cAt Tryz.prog 3 [1, 1, 1, 1, 0, 1, 0, 0]) ⟨[(2, y2), (3, y3), (5, y5), (6, (.v x6)), (7, (.v x7))], m⟩
theorem flagonlaw14_FrameSame_L0_eq (R : Rec) (m : Mm) (y2 : SV) (y3 : SV) (y5 : SV) (x6 : AV) (x7 : AV) : stepK Tryz.prog TryzA.ann R (.loop 3 (cAt Tryz.prog 3 [1, 1, 1, 1, 0, 1, 0, 0]) ⟨[(2, y2), (3, y3), (5, y5), (6, (.v x6)), (7, (.v x7))], m⟩) = xRound R (flagonlaw14_FrameSame_L0 R m y2 y3 y5 x6 x7) fun e m => .loop 3 (cAt Tryz.prog 3 [1, 1, 1, 1, 0, 1, 0, 0]) ⟨recut [(2, false), (3, false), (5, false), (6, true), (7, true)] e, mkeep m [0, 1, 2]⟩ := by kernel_rfl
noncomputable def flagonlaw14_FrameSame_L1 (R : Rec) (m : Mm) (y2 : SV) (y5 : SV) (y8 : SV) (x9 : AV) : Rs :=
  (aField m 0 y5).bind fun s1 =>
  (aLoad false 1 m s1).bind fun a2 =>
  (aLenS m a2).bind fun n3 =>
  (xBin Tryz.prog false 3 .lss x9 (mkInt (n3 : Nat))).bind fun a4 =>
  xJoin ((boolv a4).bind fun t5 =>
  if t5 = true then
  retN [(2, y2), (5, y5), (8, y8), (9, (.v x9)), (74, (.v a4))] m
  else
  some (.exit 2, [(2, y2), (5, y5), (8, y8), (9, (.v x9)), (74, (.v a4))], m)) (fun e6 m7 =>
  xBlock 3 (xBlock 4 (xLoop R (.loop 3 (cAt Tryz.prog 3 [1, 1, 1, 1, 1, 1, 1, 0, 1, 0, 0, 1, 0, 0, 0, 1, 0, 0]) ⟨[(2, (eget e6 2)), (5, (eget e6 5)), (8, (eget e6 8)), (9, (.v (vget e6 9))), (10, (.v (.sc (.int .i64 0))))], mkeep m7 [0, 2, 3]⟩) retN) (fun e8 m9 =>
  xBlock 6 (xLoop R (.loop 3 (cAt Tryz.prog 3 [1, 1, 1, 1, 1, 1, 1, 0, 1, 0, 0, 1, 0, 0, 1, 0, 1, 0, 0]) ⟨[(2, (eget e8 2)), (5, (eget e8 5)), (8, (eget e8 8)), (9, (.v (vget e8 9))), (11, (.v (.sc (.int .i64 0))))], mkeep m9 [0, 2, 3]⟩) retN) (fun e10 m11 =>
  (aField m11 0 (eget e10 5)).bind fun s12 =>
  (aLoad false 1 m11 s12).bind fun a13 =>
  (intv (vget e10 9)).bind fun p14 =>
  (aIndexS m11 4 p14.2 a13).bind fun s15 =>
  (aField m11 1 s15).bind fun s16 =>
  (aLoad false 1 m11 s16).bind fun a17 =>
  (xBin Tryz.prog false 3 .add a17 (.sc (.int .i64 1))).bind fun a18 =>
  (intv (vget e10 9)).bind fun p19 =>
  (aIndexS m11 4 p19.2 a13).bind fun s20 =>
  (aField m11 1 s20).bind fun s21 =>
  (aStore false 1 m11 s21 a18).bind fun m22 =>
  retN [(2, (eget e10 2)), (5, (eget e10 5)), (8, (eget e10 8)), (9, (.v (vget e10 9)))] m22))) (fun e23 m24 =>
  (xBin Tryz.prog false 3 .add (vget e23 9) (.sc (.int .i64 1))).bind fun a25 =>
  retN [(2, (eget e23 2)), (5, (eget e23 5)), (8, (eget e23 8)), (9, (.v a25))] m24))
noncomputable abbrev flagonlaw14_FrameSame_L1_t (y2 : SV) (y5 : SV) (y8 : SV) (x9 : AV) (m : Mm) : Task := .loop 3 (cAt Tryz.prog 3 [1, 1, 1, 1, 1, 1, 1, 0, 1, 0, 0]) ⟨[(2, y2), (5, y5), (8, y8), (9, (.v x9))], m⟩
theorem flagonlaw14_FrameSame_L1_eq (R : Rec) (m : Mm) (y2 : SV) (y5 : SV) (y8 : SV) (x9 : AV) : stepK Tryz.prog TryzA.ann R (.loop 3 (cAt Tryz.prog 3 [1, 1, 1, 1, 1, 1, 1, 0, 1, 0, 0]) ⟨[(2, y2), (5, y5), (8, y8), (9, (.v x9))], m⟩) = xRound R (flagonlaw14_FrameSame_L1 R m y2 y5 y8 x9) fun e m => .loop 3 (cAt Tryz.prog 3 [1, 1, 1, 1, 1, 1, 1, 0, 1, 0, 0]) ⟨recut [(2, false), (5, false), (8, false), (9, true)] e, mkeep m [0, 2, 3]⟩ := by kernel_rfl
noncomputable def flagonlaw14_FrameSame_L2 (R : Rec) (m : Mm) (y2 : SV) (y5 : SV) (y8 : SV) (x9 : AV) (x10 : AV) : Rs :=
  (aField m 0 y5).bind fun s1 =>
  (aLoad false 1 m s1).bind fun a2 =>
  (intv x9).bind fun p3 =>
  (aIndexS m 4 p3.2 a2).bind fun s4 =>
  (aField m 3 s4).bind fun s5 =>
  (aLoad false 1 m s5).bind fun a6 =>
  (aLenS m a6).bind fun n7 =>
  (xBin Tryz.prog false 3 .lss x10 (mkInt (n7 : Nat))).bind fun a8 =>
  xJoin ((boolv a8).bind fun t9 =>
  if t9 = true then
  retN [(2, y2), (5, y5), (8, y8), (9, (.v x9)), (10, (.v x10)), (85, (.v a8))] m
  else
  some (.exit 4, [(2, y2), (5, y5), (8, y8), (9, (.v x9)), (10, (.v x10)), (85, (.v a8))], m)) (fun e10 m11 =>
  xBlock 5 ((aField m11 0 (eget e10 5)).bind fun s12 =>
  (aLoad false 1 m11 s12).bind fun a13 =>
  (intv (vget e10 9)).bind fun p14 =>
  (aIndexS m11 4 p14.2 a13).bind fun s15 =>
  (aField m11 3 s15).bind fun s16 =>
  (aLoad false 1 m11 s16).bind fun a17 =>
  (intv (vget e10 10)).bind fun p18 =>
  (aIndexS m11 1 p18.2 a17).bind fun s19 =>
  (aLoad false 1 m11 s19).bind fun a20 =>
  (xBin Tryz.prog false 43 .add a20 (.sc (.int .u64 1))).bind fun a21 =>
  (intv (vget e10 10)).bind fun p22 =>
  (aIndexS m11 1 p22.2 a17).bind fun s23 =>
  (aStore false 1 m11 s23 a21).bind fun m24 =>
  retN [(2, (eget e10 2)), (5, (eget e10 5)), (8, (eget e10 8)), (9, (.v (vget e10 9))), (10, (.v (vget e10 10)))] m24) (fun e25 m26 =>
  (xBin Tryz.prog false 3 .add (vget e25 10) (.sc (.int .i64 1))).bind fun a27 =>
  retN [(2, (eget e25 2)), (5, (eget e25 5)), (8, (eget e25 8)), (9, (.v (vget e25 9))), (10, (.v a27))] m26))
noncomputable abbrev flagonlaw14_FrameSame_L2_t (y2 : SV) (y5 : SV) (y8 : SV) (x9 : AV) (x10 : AV) (m : Mm) : Task := .loop 3 (cAt Tryz.prog 3 [1, 1, 1, 1, 1, 1, 1, 0, 1, 0, 0, 1, 0, 0, 0, 1, 0, 0]) ⟨[(2, y2), (5, y5), (8, y8), (9, (.v x9)), (10, (.v x10))], m⟩
theorem flagonlaw14_FrameSame_L2_eq (R : Rec) (m : Mm) (y2 : SV) (y5 : SV) (y8 : SV) (x9 : AV) (x10 : AV) : stepK Tryz.prog TryzA.ann R (.loop 3 (cAt Tryz.prog 3 [1, 1, 1, 1, 1, 1, 1, 0, 1, 0, 0, 1, 0, 0, 0, 1, 0, 0]) ⟨[(2, y2), (5, y5), (8, y8), (9, (.v x9)), (10, (.v x10))], m⟩) = xRound R (flagonlaw14_FrameSame_L2 R m y2 y5 y8 x9 x10) fun e m => .loop 3 (cAt Tryz.prog 3 [1, 1, 1, 1, 1, 1, 1, 0, 1, 0, 0, 1, 0, 0, 0, 1, 0, 0]) ⟨recut [(2, false), (5, false), (8, false), (9, true), (10, true)] e, mkeep m [0, 2, 3]⟩ := by kernel_rfl
noncomputable def flagonlaw14_FrameSame_L3 (R : Rec) (m : Mm) (y2 : SV) (y5 : SV) (y8 : SV) (x9 : AV) (x11 : AV) : Rs :=
  (aField m 0 y5).bind fun s1 =>
  (aLoad false 1 m s1).bind fun a2 =>
  (intv x9).bind fun p3 =>
  (aIndexS m 4 p3.2 a2).bind fun s4 =>
  (aField m 2 s4).bind fun s5 =>
  (aLoad false 1 m s5).bind fun a6 =>
  (aLenS m a6).bind fun n7 =>
  (xBin Tryz.prog false 3 .lss x11 (mkInt (n7 : Nat))).bind fun a8 =>
  xJoin ((boolv a8).bind fun t9 =>
  if t9 = true then
  retN [(2, y2), (5, y5), (8, y8), (9, (.v x9)), (11, (.v x11)), (107, (.v a8))] m
  else
  some (.exit 6, [(2, y2), (5, y5), (8, y8), (9, (.v x9)), (11, (.v x11)), (107, (.v a8))], m)) (fun e10 m11 =>
  xBlock 7 ((aField m11 0 (eget e10 5)).bind fun s12 =>
  (aLoad false 1 m11 s12).bind fun a13 =>
  (intv (vget e10 9)).bind fun p14 =>
  (aIndexS m11 4 p14.2 a13).bind fun s15 =>
  (aField m11 2 s15).bind fun s16 =>
  (aLoad false 1 m11 s16).bind fun a17 =>
  (intv (vget e10 11)).bind fun p18 =>
  (aIndexS m11 1 p18.2 a17).bind fun s19 =>
  (aLoad false 1 m11 s19).bind fun a20 =>
  (xBin Tryz.prog false 43 .add a20 (.sc (.int .u64 1))).bind fun a21 =>
  (intv (vget e10 11)).bind fun p22 =>
  (aIndexS m11 1 p22.2 a17).bind fun s23 =>
  (aStore false 1 m11 s23 a21).bind fun m24 =>
  retN [(2, (eget e10 2)), (5, (eget e10 5)), (8, (eget e10 8)), (9, (.v (vget e10 9))), (11, (.v (vget e10 11)))] m24) (fun e25 m26 =>
  (xBin Tryz.prog false 3 .add (vget e25 11) (.sc (.int .i64 1))).bind fun a27 =>
  retN [(2, (eget e25 2)), (5, (eget e25 5)), (8, (eget e25 8)), (9, (.v (vget e25 9))), (11, (.v a27))] m26))
noncomputable abbrev flagonlaw14_FrameSame_L3_t (y2 : SV) (y5 : SV) (y8 : SV) (x9 : AV) (x11 : AV) (m : Mm) : Task := .loop 3 (cAt Tryz.prog 3 [1, 1, 1, 1, 1, 1, 1, 0, 1, 0, 0, 1, 0, 0, 1, 0, 1, 0, 0]) ⟨[(2, y2), (5, y5), (8, y8), (9, (.v x9)), (11, (.v x11))], m⟩
theorem flagonlaw14_FrameSame_L3_eq (R : Rec) (m : Mm) (y2 : SV) (y5 : SV) (y8 : SV) (x9 : AV) (x11 : AV) : stepK Tryz.prog TryzA.ann R (.loop 3 (cAt Tryz.prog 3 [1, 1, 1, 1, 1, 1, 1, 0, 1, 0, 0, 1, 0, 0, 1, 0, 1, 0, 0]) ⟨[(2, y2), (5, y5), (8, y8), (9, (.v x9)), (11, (.v x11))], m⟩) = xRound R (flagonlaw14_FrameSame_L3 R m y2 y5 y8 x9 x11) fun e m => .loop 3 (cAt Tryz.prog 3 [1, 1, 1, 1, 1, 1, 1, 0, 1, 0, 0, 1, 0, 0, 1, 0, 1, 0, 0]) ⟨recut [(2, false), (5, false), (8, false), (9, true), (11, true)] e, mkeep m [0, 2, 3]⟩ := by kernel_rfl
noncomputable def flagonlaw14_FrameSame_L4 (R : Rec) (m : Mm) (y2 : SV) (y5 : SV) (y8 : SV) (x12 : AV) : Rs :=
  (aField m 2 y5).bind fun s1 =>
  (aLoad false 1 m s1).bind fun a2 =>
  (aLenS m a2).bind fun n3 =>
  (xBin Tryz.prog false 3 .lss x12 (mkInt (n3 : Nat))).bind fun a4 =>
  xJoin ((boolv a4).bind fun t5 =>
  if t5 = true then
  retN [(2, y2), (5, y5), (8, y8), (12, (.v x12)), (134, (.v a4))] m
  else
  some (.exit 8, [(2, y2), (5, y5), (8, y8), (12, (.v x12)), (134, (.v a4))], m)) (fun e6 m7 =>
  xBlock 9 (xBlock 10 (xLoop R (.loop 3 (cAt Tryz.prog 3 [1, 1, 1, 1, 1, 1, 1, 1, 0, 1, 0, 0, 1, 0, 0, 1, 0, 0]) ⟨[(2, (eget e6 2)), (5, (eget e6 5)), (8, (eget e6 8)), (12, (.v (vget e6 12))), (13, (.v (.sc (.int .i64 0))))], mkeep m7 [0, 2, 3]⟩) retN) retN) (fun e8 m9 =>
  (xBin Tryz.prog false 3 .add (vget e8 12) (.sc (.int .i64 1))).bind fun a10 =>
  retN [(2, (eget e8 2)), (5, (eget e8 5)), (8, (eget e8 8)), (12, (.v a10))] m9))
noncomputable abbrev flagonlaw14_FrameSame_L4_t (y2 : SV) (y5 : SV) (y8 : SV) (x12 : AV) (m : Mm) : Task := .loop 3 (cAt Tryz.prog 3 [1, 1, 1, 1, 1, 1, 1, 1, 0, 1, 0, 0]) ⟨[(2, y2), (5, y5), (8, y8), (12, (.v x12))], m⟩
theorem flagonlaw14_FrameSame_L4_eq (R : Rec) (m : Mm) (y2 : SV) (y5 : SV) (y8 : SV) (x12 : AV) : stepK Tryz.prog TryzA.ann R (.loop 3 (cAt Tryz.prog 3 [1, 1, 1, 1, 1, 1, 1, 1, 0, 1, 0, 0]) ⟨[(2, y2), (5, y5), (8, y8), (12, (.v x12))], m⟩) = xRound R (flagonlaw14_FrameSame_L4 R m y2 y5 y8 x12) fun e m => .loop 3 (cAt Tryz.prog 3 [1, 1, 1, 1, 1, 1, 1, 1, 0, 1, 0, 0]) ⟨recut [(2, false), (5, false), (8, false), (12, true)] e, mkeep m [0, 2, 3]⟩ := by kernel_rfl
noncomputable def flagonlaw14_FrameSame_L5 (R : Rec) (m : Mm) (y2 : SV) (y5 : SV) (y8 : SV) (x12 : AV) (x13 : AV) : Rs :=
  (aField m 2 y5).bind fun s1 =>
  (aLoad false 1 m s1).bind fun a2 =>
  (intv x12).bind fun p3 =>
  (aIndexS m 1 p3.2 a2).bind fun s4 =>
  (aLoad false 1 m s4).bind fun a5 =>
  (aLenS m a5).bind fun n6 =>
  (xBin Tryz.prog false 3 .lss x13 (mkInt (n6 : Nat))).bind fun a7 =>
  xJoin ((boolv a7).bind fun t8 =>
  if t8 = true then
  retN [(2, y2), (5, y5), (8, y8), (12, (.v x12)), (13, (.v x13)), (144, (.v a7))] m
  else
  some (.exit 10, [(2, y2), (5, y5), (8, y8), (12, (.v x12)), (13, (.v x13)), (144, (.v a7))], m)) (fun e9 m10 =>
  xBlock 11 ((aField m10 2 (eget e9 5)).bind fun s11 =>
  (aLoad false 1 m10 s11).bind fun a12 =>
  (intv (vget e9 12)).bind fun p13 =>
  (aIndexS m10 1 p13.2 a12).bind fun s14 =>
  (aLoad false 1 m10 s14).bind fun a15 =>
  (intv (vget e9 13)).bind fun p16 =>
  (aIndexS m10 1 p16.2 a15).bind fun s17 =>
  (aLoad false 1 m10 s17).bind fun a18 =>
  (xBin Tryz.prog false 5 .add a18 (.sc (.int .u8 1))).bind fun a19 =>
  (intv (vget e9 13)).bind fun p20 =>
  (aIndexS m10 1 p20.2 a15).bind fun s21 =>
  (aStore false 1 m10 s21 a19).bind fun m22 =>
  retN [(2, (eget e9 2)), (5, (eget e9 5)), (8, (eget e9 8)), (12, (.v (vget e9 12))), (13, (.v (vget e9 13)))] m22) (fun e23 m24 =>
  (xBin Tryz.prog false 3 .add (vget e23 13) (.sc (.int .i64 1))).bind fun a25 =>
  retN [(2, (eget e23 2)), (5, (eget e23 5)), (8, (eget e23 8)), (12, (.v (vget e23 12))), (13, (.v a25))] m24))
noncomputable abbrev flagonlaw14_FrameSame_L5_t (y2 : SV) (y5 : SV) (y8 : SV) (x12 : AV) (x13 : AV) (m : Mm) : Task := .loop 3 (cAt Tryz.prog 3 [1, 1, 1, 1, 1, 1, 1, 1, 0, 1, 0, 0, 1, 0, 0, 1, 0, 0]) ⟨[(2, y2), (5, y5), (8, y8), (12, (.v x12)), (13, (.v x13))], m⟩
theorem flagonlaw14_FrameSame_L5_eq (R : Rec) (m : Mm) (y2 : SV) (y5 : SV) (y8 : SV) (x12 : AV) (x13 : AV) : stepK Tryz.prog TryzA.ann R (.loop 3 (cAt Tryz.prog 3 [1, 1, 1, 1, 1, 1, 1, 1, 0, 1, 0, 0, 1, 0, 0, 1, 0, 0]) ⟨[(2, y2), (5, y5), (8, y8), (12, (.v x12)), (13, (.v x13))], m⟩) = xRound R (flagonlaw14_FrameSame_L5 R m y2 y5 y8 x12 x13) fun e m => .loop 3 (cAt Tryz.prog 3 [1, 1, 1, 1, 1, 1, 1, 1, 0, 1, 0, 0, 1, 0, 0, 1, 0, 0]) ⟨recut [(2, false), (5, false), (8, false), (12, true), (13, true)] e, mkeep m [0, 2, 3]⟩ := by kernel_rfl
noncomputable def flagonlaw14_FrameSame_L6 (R : Rec) (m : Mm) (y2 : SV) (y5 : SV) (y8 : SV) (x14 : AV) : Rs :=
  (aField m 1 y5).bind fun s1 =>
  (aLoad false 1 m s1).bind fun a2 =>
  (aLenS m a2).bind fun n3 =>
  (xBin Tryz.prog false 3 .lss x14 (mkInt (n3 : Nat))).bind fun a4 =>
  xJoin ((boolv a4).bind fun t5 =>
  if t5 = true then
  retN [(2, y2), (5, y5), (8, y8), (14, (.v x14)), (161, (.v a4))] m
  else
  some (.exit 12, [(2, y2), (5, y5), (8, y8), (14, (.v x14)), (161, (.v a4))], m)) (fun e6 m7 =>
  xBlock 13 ((aField m7 1 (eget e6 5)).bind fun s8 =>
  (aLoad false 1 m7 s8).bind fun a9 =>
  (intv (vget e6 14)).bind fun p10 =>
  (aIndexS m7 1 p10.2 a9).bind fun s11 =>
  (aLoad false 1 m7 s11).bind fun a12 =>
  (xBin Tryz.prog false 43 .add a12 (.sc (.int .u64 1))).bind fun a13 =>
  (intv (vget e6 14)).bind fun p14 =>
  (aIndexS m7 1 p14.2 a9).bind fun s15 =>
  (aStore false 1 m7 s15 a13).bind fun m16 =>
  retN [(2, (eget e6 2)), (5, (eget e6 5)), (8, (eget e6 8)), (14, (.v (vget e6 14)))] m16) (fun e17 m18 =>
  (xBin Tryz.prog false 3 .add (vget e17 14) (.sc (.int .i64 1))).bind fun a19 =>
  retN [(2, (eget e17 2)), (5, (eget e17 5)), (8, (eget e17 8)), (14, (.v a19))] m18))
noncomputable abbrev flagonlaw14_FrameSame_L6_t (y2 : SV) (y5 : SV) (y8 : SV) (x14 : AV) (m : Mm) : Task := .loop 3 (cAt Tryz.prog 3 [1, 1, 1, 1, 1, 1, 1, 1, 1, 0, 1, 0, 0]) ⟨[(2, y2), (5, y5), (8, y8), (14, (.v x14))], m⟩
theorem flagonlaw14_FrameSame_L6_eq (R : Rec) (m : Mm) (y2 : SV) (y5 : SV) (y8 : SV) (x14 : AV) : stepK Tryz.prog TryzA.ann R (.loop 3 (cAt Tryz.prog 3 [1, 1, 1, 1, 1, 1, 1, 1, 1, 0, 1, 0, 0]) ⟨[(2, y2), (5, y5), (8, y8), (14, (.v x14))], m⟩) = xRound R (flagonlaw14_FrameSame_L6 R m y2 y5 y8 x14) fun e m => .loop 3 (cAt Tryz.prog 3 [1, 1, 1, 1, 1, 1, 1, 1, 1, 0, 1, 0, 0]) ⟨recut [(2, false), (5, false), (8, false), (14, true)] e, mkeep m [0, 2, 3]⟩ := by kernel_rfl
noncomputable def flagonlaw14_FrameSame_L7 (R : Rec) (m : Mm) (y2 : SV) (y5 : SV) (y8 : SV) (x15 : AV) : Rs :=
  (aField m 5 y5).bind fun s1 =>
  (aLoad false 1 m s1).bind fun a2 =>
  (aLenS m a2).bind fun n3 =>
  (xBin Tryz.prog false 3 .lss x15 (mkInt (n3 : Nat))).bind fun a4 =>
  xJoin ((boolv a4).bind fun t5 =>
  if t5 = true then
  retN [(2, y2), (5, y5), (8, y8), (15, (.v x15)), (175, (.v a4))] m
  else
  some (.exit 14, [(2, y2), (5, y5), (8, y8), (15, (.v x15)), (175, (.v a4))], m)) (fun e6 m7 =>
  xBlock 15 ((aField m7 5 (eget e6 5)).bind fun s8 =>
  (aLoad false 1 m7 s8).bind fun a9 =>
  (intv (vget e6 15)).bind fun p10 =>
  (aIndexS m7 1 p10.2 a9).bind fun s11 =>
  (aLoad false 1 m7 s11).bind fun a12 =>
  (xBin Tryz.prog false 43 .add a12 (.sc (.int .u64 1))).bind fun a13 =>
  (intv (vget e6 15)).bind fun p14 =>
  (aIndexS m7 1 p14.2 a9).bind fun s15 =>
  (aStore false 1 m7 s15 a13).bind fun m16 =>
  retN [(2, (eget e6 2)), (5, (eget e6 5)), (8, (eget e6 8)), (15, (.v (vget e6 15)))] m16) (fun e17 m18 =>
  (xBin Tryz.prog false 3 .add (vget e17 15) (.sc (.int .i64 1))).bind fun a19 =>
  retN [(2, (eget e17 2)), (5, (eget e17 5)), (8, (eget e17 8)), (15, (.v a19))] m18))
noncomputable abbrev flagonlaw14_FrameSame_L7_t (y2 : SV) (y5 : SV) (y8 : SV) (x15 : AV) (m : Mm) : Task := .loop 3 (cAt Tryz.prog 3 [1, 1, 1, 1, 1, 1, 1, 1, 1, 1, 0, 1, 0, 0]) ⟨[(2, y2), (5, y5), (8, y8), (15, (.v x15))], m⟩
theorem flagonlaw14_FrameSame_L7_eq (R : Rec) (m : Mm) (y2 : SV) (y5 : SV) (y8 : SV) (x15 : AV) : stepK Tryz.prog TryzA.ann R (.loop 3 (cAt Tryz.prog 3 [1, 1, 1, 1, 1, 1, 1, 1, 1, 1, 0, 1, 0, 0]) ⟨[(2, y2), (5, y5), (8, y8), (15, (.v x15))], m⟩) = xRound R (flagonlaw14_FrameSame_L7 R m y2 y5 y8 x15) fun e m => .loop 3 (cAt Tryz.prog 3 [1, 1, 1, 1, 1, 1, 1, 1, 1, 1, 0, 1, 0, 0]) ⟨recut [(2, false), (5, false), (8, false), (15, true)] e, mkeep m [0, 2, 3]⟩ := by kernel_rfl
/-- flagon/flagonlaw14.long -/
noncomputable def flagonlaw14_long (R : Rec) (h : Heap) (x0 x1 x2 : AV) : Rs :=
  (cellsOf x0).bind fun cs1 =>
  let m2 := mset (m0 h) 0 cs1
  (cellsOf x2).bind fun cs3 =>
  let m4 := mset m2 1 cs3
  (aLoad true 8 m4 (.l 0 0)).bind fun a5 =>
  xPureR R m4 12 [a5] (fun v7 => some (.pan v7, [], m4)) fun a6 =>
  xPureR R m4 11 [a6] (fun v9 => some (.pan v9, [], m4)) fun a8 =>
  (wantS (.v a8) false).bind fun t10 =>
  xGuardR t10 ((aLoad true 8 m4 (.l 1 0)).bind fun a15 =>
  retV (.v a15) m4) m4 (fun v13 m14 => some (.pan v13, [], m14)) fun s11 m12 =>
  (wantS (.v a8) false).bind fun t16 =>
  xGuardR t16 ((opvsL [s11]).bind fun as21 =>
  xPureR R m12 13 as21 (fun v23 => retP v23 m12) fun a22 =>
  retV (.v a22) m12) m12 (fun v19 m20 => some (.pan v19, [], m20)) fun s17 m18 =>
  (wantS (.v a8) false).bind fun t24 =>
  xGuardR t24 ((opvsL [s17]).bind fun as29 =>
  xPureR R m18 11 as29 (fun v31 => retP v31 m18) fun a30 =>
  retV (.v a30) m18) m18 (fun v27 m28 => some (.pan v27, [], m28)) fun s25 m26 =>
  (boolv a8).bind fun t32 =>
  (wantS (pickS t32 (.v (.sc (.bool true))) s25) false).bind fun t33 =>
  xGuardR t33 (retV (.v x1) m26) m26 (fun v36 m37 => some (.pan v36, [], m37)) fun s34 m35 =>
  (wantS (pickS t32 (.v (.sc (.bool true))) s25) false).bind fun t38 =>
  xGuardR t38 ((valOf s34).bind fun a43 =>
  (aLenS m35 a43).bind fun n44 =>
  retV (.v (mkInt (n44 : Nat))) m35) m35 (fun v41 m42 => some (.pan v41, [], m42)) fun s39 m40 =>
  (wantS (pickS t32 (.v (.sc (.bool true))) s25) false).bind fun t45 =>
  xGuardR t45 ((valOf s39).bind fun a50 =>
  (xBin Tryz.prog false 3 .gtr a50 (.sc (.int .i64 2000))).bind fun a51 =>
  retV (.v a51) m40) m40 (fun v48 m49 => some (.pan v48, [], m49)) fun s46 m47 =>
  (valOf (pickS t32 (.v (.sc (.bool true))) s25)).bind fun a52 =>
  (boolv a52).bind fun t53 =>
  (wantS (pickS t53 (.v (.sc (.bool true))) s46) false).bind fun t54 =>
  xGuardR t54 (retV (.v x1) m47) m47 (fun v57 m58 => some (.pan v57, [], m58)) fun s55 m56 =>
  (wantS (pickS t53 (.v (.sc (.bool true))) s46) false).bind fun t59 =>
  xGuardR t59 ((opvsL [s55]).bind fun as64 =>
  xPureR R m56 14 as64 (fun v66 => retP v66 m56) fun a65 =>
  retV (.v a65) m56) m56 (fun v62 m63 => some (.pan v62, [], m63)) fun s60 m61 =>
  (wantS (pickS t53 (.v (.sc (.bool true))) s46) false).bind fun t67 =>
  xGuardR t67 ((opvsL [s60]).bind fun as72 =>
  xPureR R m61 11 as72 (fun v74 => retP v74 m61) fun a73 =>
  retV (.v a73) m61) m61 (fun v70 m71 => some (.pan v70, [], m71)) fun s68 m69 =>
  (valOf (pickS t53 (.v (.sc (.bool true))) s46)).bind fun a75 =>
  (boolv a75).bind fun t76 =>
  (wantS (pickS t76 (.v (.sc (.bool true))) s68) false).bind fun t77 =>
  xGuardR t77 (retV (.l 1 2) m69) m69 (fun v80 m81 => some (.pan v80, [], m81)) fun s78 m79 =>
  (wantS (pickS t76 (.v (.sc (.bool true))) s68) false).bind fun t82 =>
  xGuardR t82 ((aLoad false 1 m79 s78).bind fun a87 =>
  retV (.v a87) m79) m79 (fun v85 m86 => some (.pan v85, [], m86)) fun s83 m84 =>
  (wantS (pickS t76 (.v (.sc (.bool true))) s68) false).bind fun t88 =>
  xGuardR t88 ((valOf s83).bind fun a93 =>
  (aLenS m84 a93).bind fun n94 =>
  retV (.v (mkInt (n94 : Nat))) m84) m84 (fun v91 m92 => some (.pan v91, [], m92)) fun s89 m90 =>
  (wantS (pickS t76 (.v (.sc (.bool true))) s68) false).bind fun t95 =>
  xGuardR t95 ((valOf s89).bind fun a100 =>
  (xBin Tryz.prog false 3 .gtr a100 (.sc (.int .i64 70))).bind fun a101 =>
  retV (.v a101) m90) m90 (fun v98 m99 => some (.pan v98, [], m99)) fun s96 m97 =>
  (valOf (pickS t76 (.v (.sc (.bool true))) s68)).bind fun a102 =>
  (boolv a102).bind fun t103 =>
  (wantS (pickS t103 (.v (.sc (.bool true))) s96) false).bind fun t104 =>
  xGuardR t104 (retV (.l 1 0) m97) m97 (fun v107 m108 => some (.pan v107, [], m108)) fun s105 m106 =>
  (wantS (pickS t103 (.v (.sc (.bool true))) s96) false).bind fun t109 =>
  xGuardR t109 ((aLoad false 1 m106 s105).bind fun a114 =>
  retV (.v a114) m106) m106 (fun v112 m113 => some (.pan v112, [], m113)) fun s110 m111 =>
  (wantS (pickS t103 (.v (.sc (.bool true))) s96) false).bind fun t115 =>
  xGuardR t115 ((valOf s110).bind fun a120 =>
  (aLenS m111 a120).bind fun n121 =>
  retV (.v (mkInt (n121 : Nat))) m111) m111 (fun v118 m119 => some (.pan v118, [], m119)) fun s116 m117 =>
  (wantS (pickS t103 (.v (.sc (.bool true))) s96) false).bind fun t122 =>
  xGuardR t122 ((valOf s116).bind fun a127 =>
  (xBin Tryz.prog false 3 .gtr a127 (.sc (.int .i64 100))).bind fun a128 =>
  retV (.v a128) m117) m117 (fun v125 m126 => some (.pan v125, [], m126)) fun s123 m124 =>
  (valOf (pickS t103 (.v (.sc (.bool true))) s96)).bind fun a129 =>
  (boolv a129).bind fun t130 =>
  some (.ret, [(6, (.v (vof (pickS t130 (.v (.sc (.bool true))) s123))))], m124)
theorem flagonlaw14_long_eq (R : Rec) (h : Heap) (x0 x1 x2 : AV) : stepK Tryz.prog TryzA.ann R (.call 4 [x0, x1, x2] h) = (flagonlaw14_long R h x0 x1 x2).bind (fin Tryz.prog TryzA.ann 4 R) := by kernel_rfl
theorem flagonlaw14_long_fin (R : Rec) (l : Ai.Loc) (h : Heap) (s6 : SV) : fin Tryz.prog TryzA.ann 4 R (.ret, [(6, s6)], ⟨l, h, []⟩) = ((valOf s6).bind fun v => (some []).map (v :: ·)).map fun vs => .call (.ret (oneOrTup vs)) h := by kernel_rfl
/-- flagon/flagonlaw14.works -/
noncomputable def flagonlaw14_works (R : Rec) (h : Heap) : Rs :=
  xCallR R (m0 h) 15 [] (fun v3 m4 => some (.pan v3, [], m4)) fun a1 m2 =>
  let m5 := mset m2 0 (zc Tryz.prog 27)
  (aStore true 8 m5 (.l 0 0) a1).bind fun m6 =>
  xPureR R m6 17 [] (fun v8 => none) fun a7 =>
  (aLoad true 8 m6 (.l 0 0)).bind fun a9 =>
  xPureR R m6 16 [a7, a9] (fun v11 => none) fun a10 =>
  (tupGet a10 0).bind fun a12 =>
  (tupGet a10 1).bind fun a13 =>
  (aLoad false 1 m6 (.l 0 0)).bind fun a14 =>
  (aIndexS m6 4 0 a14).bind fun s15 =>
  (aField m6 1 s15).bind fun s16 =>
  (aStore false 1 m6 s16 (.sc (.int .i64 2))).bind fun m17 =>
  xPureR R m17 17 [] (fun v19 => none) fun a18 =>
  (aLoad true 8 m17 (.l 0 0)).bind fun a20 =>
  xPureR R m17 16 [a18, a20] (fun v22 => none) fun a21 =>
  (tupGet a21 0).bind fun a23 =>
  (tupGet a21 1).bind fun a24 =>
  (xBin Tryz.prog false 50 .eql a12 (.sc (.int .i64 0))).bind fun a25 =>
  (wantS (.v a25) true).bind fun t26 =>
  xGuardQ t26 (some (.v a13)) fun s27 =>
  (wantS (.v a25) true).bind fun t31 =>
  xGuardQ t31 ((valOf s27).bind fun a36 =>
  (xBin Tryz.prog false 3 .eql a36 (.sc (.int .i64 0))).bind fun a37 =>
  some (.v a37)) fun s32 =>
  (boolv a25).bind fun t38 =>
  (wantS (pickS t38 s32 (.v (.sc (.bool false)))) true).bind fun t39 =>
  xGuardQ t39 (some (.v a23)) fun s40 =>
  (wantS (pickS t38 s32 (.v (.sc (.bool false)))) true).bind fun t44 =>
  xGuardQ t44 ((valOf s40).bind fun a49 =>
  (xBin Tryz.prog false 50 .eql a49 (.sc (.int .i64 44))).bind fun a50 =>
  some (.v a50)) fun s45 =>
  (valOf (pickS t38 s32 (.v (.sc (.bool false))))).bind fun a51 =>
  (boolv a51).bind fun t52 =>
  (wantS (pickS t52 s45 (.v (.sc (.bool false)))) true).bind fun t53 =>
  xGuardQ t53 (some (.v a24)) fun s54 =>
  (wantS (pickS t52 s45 (.v (.sc (.bool false)))) true).bind fun t58 =>
  xGuardQ t58 ((valOf s54).bind fun a63 =>
  (xBin Tryz.prog false 3 .eql a63 (.sc (.int .i64 9))).bind fun a64 =>
  some (.v a64)) fun s59 =>
  (valOf (pickS t52 s45 (.v (.sc (.bool false))))).bind fun a65 =>
  (boolv a65).bind fun t66 =>
  (wantS (pickS t66 s59 (.v (.sc (.bool false)))) true).bind fun t67 =>
  xGuardQ t67 ((aLoad true 8 m17 (.l 0 0)).bind fun a72 =>
  some (.v a72)) fun s68 =>
  (wantS (pickS t66 s59 (.v (.sc (.bool false)))) true).bind fun t73 =>
  xGuardQ t73 (xPureR R m17 15 [] (fun v79 => none) fun a78 =>
  some (.v a78)) fun s74 =>
  (wantS (pickS t66 s59 (.v (.sc (.bool false)))) true).bind fun t80 =>
  xGuardQ t80 ((opvsL [s68, s74]).bind fun as85 =>
  xPureR R m17 8 as85 (fun v87 => none) fun a86 =>
  some (.v a86)) fun s81 =>
  (wantS (pickS t66 s59 (.v (.sc (.bool false)))) true).bind fun t88 =>
  xGuardQ t88 ((valOf s81).bind fun a93 =>
  (aUn .not a93).bind fun a94 =>
  some (.v a94)) fun s89 =>
  (valOf (pickS t66 s59 (.v (.sc (.bool false))))).bind fun a95 =>
  (boolv a95).bind fun t96 =>
  some (.ret, [(0, (.v (vof (pickS t96 s89 (.v (.sc (.bool false)))))))], m17)
theorem flagonlaw14_works_eq (R : Rec) (h : Heap) : stepK Tryz.prog TryzA.ann R (.call 5 [] h) = (flagonlaw14_works R h).bind (fin Tryz.prog TryzA.ann 5 R) := by kernel_rfl
theorem flagonlaw14_works_fin (R : Rec) (l : Ai.Loc) (h : Heap) (s0 : SV) : fin Tryz.prog TryzA.ann 5 R (.ret, [(0, s0)], ⟨l, h, []⟩) = ((valOf s0).bind fun v => (some []).map (v :: ·)).map fun vs => .call (.ret (oneOrTup vs)) h := by kernel_rfl
/-- flagon/frame.Copy -/
noncomputable def frame_Copy (R : Rec) (h : Heap) (x0 : AV) : Rs :=
  (cellsOf x0).bind fun cs1 =>
  let m2 := mset (m0 h) 0 cs1
  let m3 := mset m2 1 (zc Tryz.prog 27)
  (aLoad false 1 m3 (.l 0 0)).bind fun a4 =>
  (aLoad false 1 m3 (.l 0 2)).bind fun a5 =>
  (aStore false 1 m3 (.l 0 0) .nils).bind fun m6 =>
  (aStore false 1 m6 (.l 0 2) .nils).bind fun m7 =>
  (aLenS m7 a4).bind fun n8 =>
  xBlock 0 (xLoop R (.loop 6 (cAt Tryz.prog 6 [1, 1, 1, 0, 1, 0, 0]) ⟨[(1, (.l 0 0)), (2, (.l 1 0)), (4, (.v a5)), (15, (.v a4)), (16, (.v (mkInt (n8 : Nat)))), (17, (.v (.sc (.int .i64 0))))], mkeep m7 [0, 1]⟩) retN) (fun e9 m10 =>
  (aLenS m10 (vget e9 4)).bind fun n11 =>
  xBlock 2 (xLoop R (.loop 6 (cAt Tryz.prog 6 [1, 1, 1, 1, 0, 1, 0, 0]) ⟨[(1, (eget e9 1)), (2, (eget e9 2)), (38, (.v (vget e9 4))), (39, (.v (mkInt (n11 : Nat)))), (40, (.v (.sc (.int .i64 0))))], mkeep m10 [0, 1]⟩) retN) (fun e12 m13 =>
  (aField m13 1 (eget e12 1)).bind fun s14 =>
  (aLoad false 1 m13 s14).bind fun a15 =>
  xCallR R m13 18 [a15] (fun v18 m19 => none) fun a16 m17 =>
  (aField m17 5 (eget e12 1)).bind fun s20 =>
  agree ((aField m13 5 (eget e12 1)).bind fun s34 =>
  some s34) s20 (
  (aLoad false 1 m17 s20).bind fun a21 =>
  agree ((aLoad false 1 m13 s20).bind fun a33 =>
  some (.v a33)) (.v a21) (
  xCallR R m17 18 [a21] (fun v24 m25 => none) fun a22 m23 =>
  (aField m23 1 (eget e12 1)).bind fun s26 =>
  agree ((aField m17 1 (eget e12 1)).bind fun s32 =>
  some s32) s26 (
  (aStore false 1 m23 s26 a16).bind fun m27 =>
  (aField m27 5 (eget e12 1)).bind fun s28 =>
  (aStore false 1 m27 s28 a22).bind fun m29 =>
  (aLoad true 8 m29 (eget e12 1)).bind fun a30 =>
  (aStore true 8 m29 (eget e12 2) a30).bind fun m31 =>
  some (.ret, [(2, (eget e12 2))], m31))))))
theorem frame_Copy_eq (R : Rec) (h : Heap) (x0 : AV) : stepK Tryz.prog TryzA.ann R (.call 6 [x0] h) = (frame_Copy R h x0).bind (fin Tryz.prog TryzA.ann 6 R) := by kernel_rfl
theorem frame_Copy_fin (R : Rec) (l : Ai.Loc) (h : Heap) (s2 : SV) : fin Tryz.prog TryzA.ann 6 R (.ret, [(2, s2)], ⟨l, h, []⟩) = ((aLoad true 8 ⟨l, h, []⟩ s2).bind fun v => (some []).map (v :: ·)).map fun vs => .call (.ret (oneOrTup vs)) h := by kernel_rfl
noncomputable def frame_Copy_L0 (R : Rec) (m : Mm) (y1 : SV) (y2 : SV) (x4 : AV) (x15 : AV) (x16 : AV) (x17 : AV) : Rs :=
  (xBin Tryz.prog false 3 .lss x17 x16).bind fun a1 =>
  xJoin ((boolv a1).bind fun t2 =>
  if t2 = true then
  retN [(1, y1), (2, y2), (4, (.v x4)), (15, (.v x15)), (16, (.v x16)), (17, (.v x17)), (18, (.v a1))] m
  else
  some (.exit 0, [(1, y1), (2, y2), (4, (.v x4)), (15, (.v x15)), (16, (.v x16)), (17, (.v x17)), (18, (.v a1))], m)) (fun e3 m4 =>
  xBlock 1 ((intv (vget e3 17)).bind fun p5 =>
  (aIndexS m4 4 p5.2 (vget e3 15)).bind fun s6 =>
  (aLoad true 4 m4 s6).bind fun a7 =>
  let m8 := mset m4 2 (zc Tryz.prog 40)
  (aStore true 4 m8 (.l 2 0) a7).bind fun m9 =>
  (aField m9 0 (unl 2 (eget e3 1))).bind fun s10 =>
  (aLoad false 1 m9 s10).bind fun a11 =>
  (aLoad false 1 m9 (.l 2 0)).bind fun a12 =>
  (aLoad false 1 m9 (.l 2 1)).bind fun a13 =>
  (aLoad false 1 m9 (.l 2 2)).bind fun a14 =>
  xCallR R m9 18 [a14] (fun v17 m18 => none) fun a15 m16 =>
  agree ((aLoad false 1 m16 (.l 2 1)).bind fun a34 =>
  some (.v a34)) (.v a13) (
  agree (some (.l 2 1)) (.l 2 1) (
  agree ((aLoad false 1 m16 (.l 2 0)).bind fun a35 =>
  some (.v a35)) (.v a12) (
  agree (some (.l 2 0)) (.l 2 0) (
  agree ((aLoad false 1 m16 s10).bind fun a36 =>
  some (.v a36)) (.v a11) (
  agree ((aField m16 0 (unl 2 (eget e3 1))).bind fun s37 =>
  some s37) s10 (
  agree (some (.l 2 3)) (.l 2 3) (
  (aLoad false 1 m16 (.l 2 3)).bind fun a19 =>
  agree ((aLoad false 1 m9 (.l 2 3)).bind fun a33 =>
  some (.v a33)) (.v a19) (
  xCallR R m16 18 [a19] (fun v22 m23 => none) fun a20 m21 =>
  agree ((aLoad false 1 m21 (.l 2 1)).bind fun a29 =>
  some (.v a29)) (.v a13) (
  agree (some (.l 2 1)) (.l 2 1) (
  agree ((aLoad false 1 m21 (.l 2 0)).bind fun a30 =>
  some (.v a30)) (.v a12) (
  agree (some (.l 2 0)) (.l 2 0) (
  agree ((aLoad false 1 m21 s10).bind fun a31 =>
  some (.v a31)) (.v a11) (
  agree ((aField m21 0 (unl 2 (eget e3 1))).bind fun s32 =>
  some s32) s10 (
  (fillCells (pls [(0, 1), (1, 1), (2, 1), (3, 1)]) (zc Tryz.prog 40) [(0, a12), (1, a13), (2, a15), (3, a20)]).bind fun cs24 =>
  (fillCells (plm 4) (repeatCells (zc Tryz.prog 40) 1) [(0, (.agg cs24))]).bind fun cs25 =>
  (aAppend m21 4 64 a11 (.snap false 4 1 cs25)).bind fun r26 =>
  (aField r26.2 0 (unl 2 (eget e3 1))).bind fun s27 =>
  (aStore false 1 r26.2 s27 r26.1).bind fun m28 =>
  retN [(1, (unl 2 (eget e3 1))), (2, (unl 2 (eget e3 2))), (4, (.v (vget e3 4))), (15, (.v (vget e3 15))), (16, (.v (vget e3 16))), (17, (.v (vget e3 17)))] m28))))))))))))))) (fun e38 m39 =>
  (xBin Tryz.prog false 3 .add (vget e38 17) (.sc (.int .i64 1))).bind fun a40 =>
  retN [(1, (eget e38 1)), (2, (eget e38 2)), (4, (.v (vget e38 4))), (15, (.v (vget e38 15))), (16, (.v (vget e38 16))), (17, (.v a40))] m39))
noncomputable abbrev frame_Copy_L0_t (y1 : SV) (y2 : SV) (x4 : AV) (x15 : AV) (x16 : AV) (x17 : AV) (m : Mm) : Task := .loop 6 (cAt Tryz.prog 6 [1, 1, 1, 0, 1, 0, 0]) ⟨[(1, y1), (2, y2), (4, (.v x4)), (15, (.v x15)), (16, (.v x16)), (17, (.v x17))], m⟩
theorem frame_Copy_L0_eq (R : Rec) (m : Mm) (y1 : SV) (y2 : SV) (x4 : AV) (x15 : AV) (x16 : AV) (x17 : AV) : stepK Tryz.prog TryzA.ann R (.loop 6 (cAt Tryz.prog 6 [1, 1, 1, 0, 1, 0, 0]) ⟨[(1, y1), (2, y2), (4, (.v x4)), (15, (.v x15)), (16, (.v x16)), (17, (.v x17))], m⟩) = xRound R (frame_Copy_L0 R m y1 y2 x4 x15 x16 x17) fun e m => .loop 6 (cAt Tryz.prog 6 [1, 1, 1, 0, 1, 0, 0]) ⟨recut [(1, false), (2, false), (4, true), (15, true), (16, true), (17, true)] e, mkeep m [0, 1]⟩ := by kernel_rfl
noncomputable def frame_Copy_L1 (R : Rec) (m : Mm) (y1 : SV) (y2 : SV) (x38 : AV) (x39 : AV) (x40 : AV) : Rs :=
  (xBin Tryz.prog false 3 .lss x40 x39).bind fun a1 =>
  xJoin ((boolv a1).bind fun t2 =>
  if t2 = true then
  retN [(1, y1), (2, y2), (38, (.v x38)), (39, (.v x39)), (40, (.v x40)), (41, (.v a1))] m
  else
  some (.exit 2, [(1, y1), (2, y2), (38, (.v x38)), (39, (.v x39)), (40, (.v x40)), (41, (.v a1))], m)) (fun e3 m4 =>
  xBlock 3 ((intv (vget e3 40)).bind fun p5 =>
  (aIndexS m4 1 p5.2 (vget e3 38)).bind fun s6 =>
  (aLoad false 1 m4 s6).bind fun a7 =>
  (aField m4 2 (eget e3 1)).bind fun s8 =>
  (aLoad false 1 m4 s8).bind fun a9 =>
  (aAppend m4 1 1 .nils a7).bind fun r10 =>
  agree ((aLoad false 1 r10.2 s8).bind fun a15 =>
  some (.v a15)) (.v a9) (
  agree ((aField r10.2 2 (eget e3 1)).bind fun s16 =>
  some s16) s8 (
  (fillCells (plm 1) (repeatCells (zc Tryz.prog 44) 1) [(0, r10.1)]).bind fun cs11 =>
  (aAppend r10.2 1 24 a9 (.snap false 1 1 cs11)).bind fun r12 =>
  (aField r12.2 2 (eget e3 1)).bind fun s13 =>
  (aStore false 1 r12.2 s13 r12.1).bind fun m14 =>
  retN [(1, (eget e3 1)), (2, (eget e3 2)), (38, (.v (vget e3 38))), (39, (.v (vget e3 39))), (40, (.v (vget e3 40)))] m14))) (fun e17 m18 =>
  (xBin Tryz.prog false 3 .add (vget e17 40) (.sc (.int .i64 1))).bind fun a19 =>
  retN [(1, (eget e17 1)), (2, (eget e17 2)), (38, (.v (vget e17 38))), (39, (.v (vget e17 39))), (40, (.v a19))] m18))
noncomputable abbrev frame_Copy_L1_t (y1 : SV) (y2 : SV) (x38 : AV) (x39 : AV) (x40 : AV) (m : Mm) : Task := .loop 6 (cAt Tryz.prog 6 [1, 1, 1, 1, 0, 1, 0, 0]) ⟨[(1, y1), (2, y2), (38, (.v x38)), (39, (.v x39)), (40, (.v x40))], m⟩
theorem frame_Copy_L1_eq (R : Rec) (m : Mm) (y1 : SV) (y2 : SV) (x38 : AV) (x39 : AV) (x40 : AV) : stepK Tryz.prog TryzA.ann R (.loop 6 (cAt Tryz.prog 6 [1, 1, 1, 1, 0, 1, 0, 0]) ⟨[(1, y1), (2, y2), (38, (.v x38)), (39, (.v x39)), (40, (.v x40))], m⟩) = xRound R (frame_Copy_L1 R m y1 y2 x38 x39 x40) fun e m => .loop 6 (cAt Tryz.prog 6 [1, 1, 1, 1, 0, 1, 0, 0]) ⟨recut [(1, false), (2, false), (38, true), (39, true), (40, true)] e, mkeep m [0, 1]⟩ := by kernel_rfl
/-- flagon/flagonref00.EqState -/
noncomputable def flagonref00_EqState (R : Rec) (h : Heap) (x0 x1 : AV) : Rs :=
  (cellsOf x0).bind fun cs1 =>
  let m2 := mset (m0 h) 0 cs1
  (cellsOf x1).bind fun cs3 =>
  let m4 := mset m2 1 cs3
  (aLoad false 1 m4 (.l 0 3)).bind fun a5 =>
  (aLoad false 1 m4 (.l 1 3)).bind fun a6 =>
  (xBin Tryz.prog false 3 .eql a5 a6).bind fun a7 =>
  (wantS (.v a7) true).bind fun t8 =>
  xGuardR t8 (retV (.l 0 4) m4) m4 (fun v11 m12 => some (.pan v11, [], m12)) fun s9 m10 =>
  (wantS (.v a7) true).bind fun t13 =>
  xGuardR t13 ((aLoad false 1 m10 s9).bind fun a18 =>
  retV (.v a18) m10) m10 (fun v16 m17 => some (.pan v16, [], m17)) fun s14 m15 =>
  (wantS (.v a7) true).bind fun t19 =>
  xGuardR t19 (retV (.l 1 4) m15) m15 (fun v22 m23 => some (.pan v22, [], m23)) fun s20 m21 =>
  (wantS (.v a7) true).bind fun t24 =>
  xGuardR t24 ((aLoad false 1 m21 s20).bind fun a29 =>
  retV (.v a29) m21) m21 (fun v27 m28 => some (.pan v27, [], m28)) fun s25 m26 =>
  (wantS (.v a7) true).bind fun t30 =>
  xGuardR t30 ((valOf s14).bind fun a35 =>
  (valOf s25).bind fun a36 =>
  (xBin Tryz.prog false 25 .eql a35 a36).bind fun a37 =>
  retV (.v a37) m26) m26 (fun v33 m34 => some (.pan v33, [], m34)) fun s31 m32 =>
  (boolv a7).bind fun t38 =>
  (wantS (pickS t38 s31 (.v (.sc (.bool false)))) true).bind fun t39 =>
  xGuardR t39 (retV (.l 0 6) m32) m32 (fun v42 m43 => some (.pan v42, [], m43)) fun s40 m41 =>
  (wantS (pickS t38 s31 (.v (.sc (.bool false)))) true).bind fun t44 =>
  xGuardR t44 ((aLoad false 1 m41 s40).bind fun a49 =>
  retV (.v a49) m41) m41 (fun v47 m48 => some (.pan v47, [], m48)) fun s45 m46 =>
  (wantS (pickS t38 s31 (.v (.sc (.bool false)))) true).bind fun t50 =>
  xGuardR t50 (retV (.l 1 6) m46) m46 (fun v53 m54 => some (.pan v53, [], m54)) fun s51 m52 =>
  (wantS (pickS t38 s31 (.v (.sc (.bool false)))) true).bind fun t55 =>
  xGuardR t55 ((aLoad false 1 m52 s51).bind fun a60 =>
  retV (.v a60) m52) m52 (fun v58 m59 => some (.pan v58, [], m59)) fun s56 m57 =>
  (wantS (pickS t38 s31 (.v (.sc (.bool false)))) true).bind fun t61 =>
  xGuardR t61 ((valOf s45).bind fun a66 =>
  (valOf s56).bind fun a67 =>
  (xBin Tryz.prog false 25 .eql a66 a67).bind fun a68 =>
  retV (.v a68) m57) m57 (fun v64 m65 => some (.pan v64, [], m65)) fun s62 m63 =>
  (valOf (pickS t38 s31 (.v (.sc (.bool false))))).bind fun a69 =>
  (boolv a69).bind fun t70 =>
  (wantS (pickS t70 s62 (.v (.sc (.bool false)))) true).bind fun t71 =>
  xGuardR t71 (retV (.l 0 7) m63) m63 (fun v74 m75 => some (.pan v74, [], m75)) fun s72 m73 =>
  (wantS (pickS t70 s62 (.v (.sc (.bool false)))) true).bind fun t76 =>
  xGuardR t76 ((aLoad false 1 m73 s72).bind fun a81 =>
  retV (.v a81) m73) m73 (fun v79 m80 => some (.pan v79, [], m80)) fun s77 m78 =>
  (wantS (pickS t70 s62 (.v (.sc (.bool false)))) true).bind fun t82 =>
  xGuardR t82 (retV (.l 1 7) m78) m78 (fun v85 m86 => some (.pan v85, [], m86)) fun s83 m84 =>
  (wantS (pickS t70 s62 (.v (.sc (.bool false)))) true).bind fun t87 =>
  xGuardR t87 ((aLoad false 1 m84 s83).bind fun a92 =>
  retV (.v a92) m84) m84 (fun v90 m91 => some (.pan v90, [], m91)) fun s88 m89 =>
  (wantS (pickS t70 s62 (.v (.sc (.bool false)))) true).bind fun t93 =>
  xGuardR t93 ((valOf s77).bind fun a98 =>
  (valOf s88).bind fun a99 =>
  (xBin Tryz.prog false 2 .eql a98 a99).bind fun a100 =>
  retV (.v a100) m89) m89 (fun v96 m97 => some (.pan v96, [], m97)) fun s94 m95 =>
  (valOf (pickS t70 s62 (.v (.sc (.bool false))))).bind fun a101 =>
  (boolv a101).bind fun t102 =>
  (wantS (pickS t102 s94 (.v (.sc (.bool false)))) true).bind fun t103 =>
  xGuardR t103 (retV (.l 0 0) m95) m95 (fun v106 m107 => some (.pan v106, [], m107)) fun s104 m105 =>
  (wantS (pickS t102 s94 (.v (.sc (.bool false)))) true).bind fun t108 =>
  xGuardR t108 ((aLoad false 1 m105 s104).bind fun a113 =>
  retV (.v a113) m105) m105 (fun v111 m112 => some (.pan v111, [], m112)) fun s109 m110 =>
  (wantS (pickS t102 s94 (.v (.sc (.bool false)))) true).bind fun t114 =>
  xGuardR t114 (retV (.l 1 0) m110) m110 (fun v117 m118 => some (.pan v117, [], m118)) fun s115 m116 =>
  (wantS (pickS t102 s94 (.v (.sc (.bool false)))) true).bind fun t119 =>
  xGuardR t119 ((aLoad false 1 m116 s115).bind fun a124 =>
  retV (.v a124) m116) m116 (fun v122 m123 => some (.pan v122, [], m123)) fun s120 m121 =>
  (wantS (pickS t102 s94 (.v (.sc (.bool false)))) true).bind fun t125 =>
  xGuardR t125 ((opvsL [s109, s120]).bind fun as130 =>
  xPureR R m121 19 as130 (fun v132 => retP v132 m121) fun a131 =>
  retV (.v a131) m121) m121 (fun v128 m129 => some (.pan v128, [], m129)) fun s126 m127 =>
  (valOf (pickS t102 s94 (.v (.sc (.bool false))))).bind fun a133 =>
  (boolv a133).bind fun t134 =>
  (wantS (pickS t134 s126 (.v (.sc (.bool false)))) true).bind fun t135 =>
  xGuardR t135 (retV (.l 0 1) m127) m127 (fun v138 m139 => some (.pan v138, [], m139)) fun s136 m137 =>
  (wantS (pickS t134 s126 (.v (.sc (.bool false)))) true).bind fun t140 =>
  xGuardR t140 ((aLoad false 1 m137 s136).bind fun a145 =>
  retV (.v a145) m137) m137 (fun v143 m144 => some (.pan v143, [], m144)) fun s141 m142 =>
  (wantS (pickS t134 s126 (.v (.sc (.bool false)))) true).bind fun t146 =>
  xGuardR t146 (retV (.l 1 1) m142) m142 (fun v149 m150 => some (.pan v149, [], m150)) fun s147 m148 =>
  (wantS (pickS t134 s126 (.v (.sc (.bool false)))) true).bind fun t151 =>
  xGuardR t151 ((aLoad false 1 m148 s147).bind fun a156 =>
  retV (.v a156) m148) m148 (fun v154 m155 => some (.pan v154, [], m155)) fun s152 m153 =>
  (wantS (pickS t134 s126 (.v (.sc (.bool false)))) true).bind fun t157 =>
  xGuardR t157 ((opvsL [s141, s152]).bind fun as162 =>
  xPureR R m153 20 as162 (fun v164 => retP v164 m153) fun a163 =>
  retV (.v a163) m153) m153 (fun v160 m161 => some (.pan v160, [], m161)) fun s158 m159 =>
  (valOf (pickS t134 s126 (.v (.sc (.bool false))))).bind fun a165 =>
  (boolv a165).bind fun t166 =>
  (wantS (pickS t166 s158 (.v (.sc (.bool false)))) true).bind fun t167 =>
  xGuardR t167 (retV (.l 0 2) m159) m159 (fun v170 m171 => some (.pan v170, [], m171)) fun s168 m169 =>
  (wantS (pickS t166 s158 (.v (.sc (.bool false)))) true).bind fun t172 =>
  xGuardR t172 ((aLoad false 1 m169 s168).bind fun a177 =>
  retV (.v a177) m169) m169 (fun v175 m176 => some (.pan v175, [], m176)) fun s173 m174 =>
  (wantS (pickS t166 s158 (.v (.sc (.bool false)))) true).bind fun t178 =>
  xGuardR t178 (retV (.l 1 2) m174) m174 (fun v181 m182 => some (.pan v181, [], m182)) fun s179 m180 =>
  (wantS (pickS t166 s158 (.v (.sc (.bool false)))) true).bind fun t183 =>
  xGuardR t183 ((aLoad false 1 m180 s179).bind fun a188 =>
  retV (.v a188) m180) m180 (fun v186 m187 => some (.pan v186, [], m187)) fun s184 m185 =>
  (wantS (pickS t166 s158 (.v (.sc (.bool false)))) true).bind fun t189 =>
  xGuardR t189 ((opvsL [s173, s184]).bind fun as194 =>
  xPureR R m185 21 as194 (fun v196 => retP v196 m185) fun a195 =>
  retV (.v a195) m185) m185 (fun v192 m193 => some (.pan v192, [], m193)) fun s190 m191 =>
  (valOf (pickS t166 s158 (.v (.sc (.bool false))))).bind fun a197 =>
  (boolv a197).bind fun t198 =>
  (wantS (pickS t198 s190 (.v (.sc (.bool false)))) true).bind fun t199 =>
  xGuardR t199 (retV (.l 0 5) m191) m191 (fun v202 m203 => some (.pan v202, [], m203)) fun s200 m201 =>
  (wantS (pickS t198 s190 (.v (.sc (.bool false)))) true).bind fun t204 =>
  xGuardR t204 ((aLoad false 1 m201 s200).bind fun a209 =>
  retV (.v a209) m201) m201 (fun v207 m208 => some (.pan v207, [], m208)) fun s205 m206 =>
  (wantS (pickS t198 s190 (.v (.sc (.bool false)))) true).bind fun t210 =>
  xGuardR t210 (retV (.l 1 5) m206) m206 (fun v213 m214 => some (.pan v213, [], m214)) fun s211 m212 =>
  (wantS (pickS t198 s190 (.v (.sc (.bool false)))) true).bind fun t215 =>
  xGuardR t215 ((aLoad false 1 m212 s211).bind fun a220 =>
  retV (.v a220) m212) m212 (fun v218 m219 => some (.pan v218, [], m219)) fun s216 m217 =>
  (wantS (pickS t198 s190 (.v (.sc (.bool false)))) true).bind fun t221 =>
  xGuardR t221 ((opvsL [s205, s216]).bind fun as226 =>
  xPureR R m217 20 as226 (fun v228 => retP v228 m217) fun a227 =>
  retV (.v a227) m217) m217 (fun v224 m225 => some (.pan v224, [], m225)) fun s222 m223 =>
  (valOf (pickS t198 s190 (.v (.sc (.bool false))))).bind fun a229 =>
  (boolv a229).bind fun t230 =>
  some (.ret, [(4, (.v (vof (pickS t230 s222 (.v (.sc (.bool false)))))))], m223)
theorem flagonref00_EqState_eq (R : Rec) (h : Heap) (x0 x1 : AV) : stepK Tryz.prog TryzA.ann R (.call 7 [x0, x1] h) = (flagonref00_EqState R h x0 x1).bind (fin Tryz.prog TryzA.ann 7 R) := by kernel_rfl
theorem flagonref00_EqState_fin (R : Rec) (l : Ai.Loc) (h : Heap) (s4 : SV) : fin Tryz.prog TryzA.ann 7 R (.ret, [(4, s4)], ⟨l, h, []⟩) = ((valOf s4).bind fun v => (some []).map (v :: ·)).map fun vs => .call (.ret (oneOrTup vs)) h := by kernel_rfl
/-- flagon/frame.Equal -/
noncomputable def frame_Equal (R : Rec) (h : Heap) (x0 x1 : AV) : Rs :=
  (cellsOf x0).bind fun cs1 =>
  let m2 := mset (m0 h) 0 cs1
  (cellsOf x1).bind fun cs3 =>
  let m4 := mset m2 1 cs3
  (aLoad false 1 m4 (.l 0 0)).bind fun a5 =>
  (aLoad false 1 m4 (.l 1 0)).bind fun a6 =>
  xPureR R m4 22 [a5, a6, (.fn 23 [] [])] (fun v8 => some (.pan v8, [], m4)) fun a7 =>
  (aLoad false 1 m4 (.l 0 2)).bind fun a9 =>
  (aLoad false 1 m4 (.l 1 2)).bind fun a10 =>
  xPureR R m4 25 [a9, a10, (.fn 26 [] [])] (fun v12 => some (.pan v12, [], m4)) fun a11 =>
  (wantS (.v a7) true).bind fun t13 =>
  xGuardR t13 (retV (.v a11) m4) m4 (fun v16 m17 => some (.pan v16, [], m17)) fun s14 m15 =>
  (boolv a7).bind fun t18 =>
  (wantS (pickS t18 s14 (.v (.sc (.bool false)))) true).bind fun t19 =>
  xGuardR t19 (retV (.l 0 1) m15) m15 (fun v22 m23 => some (.pan v22, [], m23)) fun s20 m21 =>
  (wantS (pickS t18 s14 (.v (.sc (.bool false)))) true).bind fun t24 =>
  xGuardR t24 ((aLoad false 1 m21 s20).bind fun a29 =>
  retV (.v a29) m21) m21 (fun v27 m28 => some (.pan v27, [], m28)) fun s25 m26 =>
  (wantS (pickS t18 s14 (.v (.sc (.bool false)))) true).bind fun t30 =>
  xGuardR t30 (retV (.l 1 1) m26) m26 (fun v33 m34 => some (.pan v33, [], m34)) fun s31 m32 =>
  (wantS (pickS t18 s14 (.v (.sc (.bool false)))) true).bind fun t35 =>
  xGuardR t35 ((aLoad false 1 m32 s31).bind fun a40 =>
  retV (.v a40) m32) m32 (fun v38 m39 => some (.pan v38, [], m39)) fun s36 m37 =>
  (wantS (pickS t18 s14 (.v (.sc (.bool false)))) true).bind fun t41 =>
  xGuardR t41 ((opvsL [s25, s36]).bind fun as46 =>
  xPureR R m37 24 as46 (fun v48 => retP v48 m37) fun a47 =>
  retV (.v a47) m37) m37 (fun v44 m45 => some (.pan v44, [], m45)) fun s42 m43 =>
  (valOf (pickS t18 s14 (.v (.sc (.bool false))))).bind fun a49 =>
  (boolv a49).bind fun t50 =>
  (wantS (pickS t50 s42 (.v (.sc (.bool false)))) true).bind fun t51 =>
  xGuardR t51 (retV (.l 0 5) m43) m43 (fun v54 m55 => some (.pan v54, [], m55)) fun s52 m53 =>
  (wantS (pickS t50 s42 (.v (.sc (.bool false)))) true).bind fun t56 =>
  xGuardR t56 ((aLoad false 1 m53 s52).bind fun a61 =>
  retV (.v a61) m53) m53 (fun v59 m60 => some (.pan v59, [], m60)) fun s57 m58 =>
  (wantS (pickS t50 s42 (.v (.sc (.bool false)))) true).bind fun t62 =>
  xGuardR t62 (retV (.l 1 5) m58) m58 (fun v65 m66 => some (.pan v65, [], m66)) fun s63 m64 =>
  (wantS (pickS t50 s42 (.v (.sc (.bool false)))) true).bind fun t67 =>
  xGuardR t67 ((aLoad false 1 m64 s63).bind fun a72 =>
  retV (.v a72) m64) m64 (fun v70 m71 => some (.pan v70, [], m71)) fun s68 m69 =>
  (wantS (pickS t50 s42 (.v (.sc (.bool false)))) true).bind fun t73 =>
  xGuardR t73 ((opvsL [s57, s68]).bind fun as78 =>
  xPureR R m69 24 as78 (fun v80 => retP v80 m69) fun a79 =>
  retV (.v a79) m69) m69 (fun v76 m77 => some (.pan v76, [], m77)) fun s74 m75 =>
  (valOf (pickS t50 s42 (.v (.sc (.bool false))))).bind fun a81 =>
  (boolv a81).bind fun t82 =>
  (wantS (pickS t82 s74 (.v (.sc (.bool false)))) true).bind fun t83 =>
  xGuardR t83 (retV (.l 0 3) m75) m75 (fun v86 m87 => some (.pan v86, [], m87)) fun s84 m85 =>
  (wantS (pickS t82 s74 (.v (.sc (.bool false)))) true).bind fun t88 =>
  xGuardR t88 ((aLoad false 1 m85 s84).bind fun a93 =>
  retV (.v a93) m85) m85 (fun v91 m92 => some (.pan v91, [], m92)) fun s89 m90 =>
  (wantS (pickS t82 s74 (.v (.sc (.bool false)))) true).bind fun t94 =>
  xGuardR t94 (retV (.l 1 3) m90) m90 (fun v97 m98 => some (.pan v97, [], m98)) fun s95 m96 =>
  (wantS (pickS t82 s74 (.v (.sc (.bool false)))) true).bind fun t99 =>
  xGuardR t99 ((aLoad false 1 m96 s95).bind fun a104 =>
  retV (.v a104) m96) m96 (fun v102 m103 => some (.pan v102, [], m103)) fun s100 m101 =>
  (wantS (pickS t82 s74 (.v (.sc (.bool false)))) true).bind fun t105 =>
  xGuardR t105 ((valOf s89).bind fun a110 =>
  (valOf s100).bind fun a111 =>
  (xBin Tryz.prog false 3 .eql a110 a111).bind fun a112 =>
  retV (.v a112) m101) m101 (fun v108 m109 => some (.pan v108, [], m109)) fun s106 m107 =>
  (valOf (pickS t82 s74 (.v (.sc (.bool false))))).bind fun a113 =>
  (boolv a113).bind fun t114 =>
  (wantS (pickS t114 s106 (.v (.sc (.bool false)))) true).bind fun t115 =>
  xGuardR t115 (retV (.l 0 4) m107) m107 (fun v118 m119 => some (.pan v118, [], m119)) fun s116 m117 =>
  (wantS (pickS t114 s106 (.v (.sc (.bool false)))) true).bind fun t120 =>
  xGuardR t120 ((aLoad false 1 m117 s116).bind fun a125 =>
  retV (.v a125) m117) m117 (fun v123 m124 => some (.pan v123, [], m124)) fun s121 m122 =>
  (wantS (pickS t114 s106 (.v (.sc (.bool false)))) true).bind fun t126 =>
  xGuardR t126 (retV (.l 1 4) m122) m122 (fun v129 m130 => some (.pan v129, [], m130)) fun s127 m128 =>
  (wantS (pickS t114 s106 (.v (.sc (.bool false)))) true).bind fun t131 =>
  xGuardR t131 ((aLoad false 1 m128 s127).bind fun a136 =>
  retV (.v a136) m128) m128 (fun v134 m135 => some (.pan v134, [], m135)) fun s132 m133 =>
  (wantS (pickS t114 s106 (.v (.sc (.bool false)))) true).bind fun t137 =>
  xGuardR t137 ((valOf s121).bind fun a142 =>
  (valOf s132).bind fun a143 =>
  (xBin Tryz.prog false 25 .eql a142 a143).bind fun a144 =>
  retV (.v a144) m133) m133 (fun v140 m141 => some (.pan v140, [], m141)) fun s138 m139 =>
  (valOf (pickS t114 s106 (.v (.sc (.bool false))))).bind fun a145 =>
  (boolv a145).bind fun t146 =>
  (wantS (pickS t146 s138 (.v (.sc (.bool false)))) true).bind fun t147 =>
  xGuardR t147 (retV (.l 0 6) m139) m139 (fun v150 m151 => some (.pan v150, [], m151)) fun s148 m149 =>
  (wantS (pickS t146 s138 (.v (.sc (.bool false)))) true).bind fun t152 =>
  xGuardR t152 ((aLoad false 1 m149 s148).bind fun a157 =>
  retV (.v a157) m149) m149 (fun v155 m156 => some (.pan v155, [], m156)) fun s153 m154 =>
  (wantS (pickS t146 s138 (.v (.sc (.bool false)))) true).bind fun t158 =>
  xGuardR t158 (retV (.l 1 6) m154) m154 (fun v161 m162 => some (.pan v161, [], m162)) fun s159 m160 =>
  (wantS (pickS t146 s138 (.v (.sc (.bool false)))) true).bind fun t163 =>
  xGuardR t163 ((aLoad false 1 m160 s159).bind fun a168 =>
  retV (.v a168) m160) m160 (fun v166 m167 => some (.pan v166, [], m167)) fun s164 m165 =>
  (wantS (pickS t146 s138 (.v (.sc (.bool false)))) true).bind fun t169 =>
  xGuardR t169 ((valOf s153).bind fun a174 =>
  (valOf s164).bind fun a175 =>
  (xBin Tryz.prog false 25 .eql a174 a175).bind fun a176 =>
  retV (.v a176) m165) m165 (fun v172 m173 => some (.pan v172, [], m173)) fun s170 m171 =>
  (valOf (pickS t146 s138 (.v (.sc (.bool false))))).bind fun a177 =>
  (boolv a177).bind fun t178 =>
  (wantS (pickS t178 s170 (.v (.sc (.bool false)))) true).bind fun t179 =>
  xGuardR t179 (retV (.l 0 7) m171) m171 (fun v182 m183 => some (.pan v182, [], m183)) fun s180 m181 =>
  (wantS (pickS t178 s170 (.v (.sc (.bool false)))) true).bind fun t184 =>
  xGuardR t184 ((aLoad false 1 m181 s180).bind fun a189 =>
  retV (.v a189) m181) m181 (fun v187 m188 => some (.pan v187, [], m188)) fun s185 m186 =>
  (wantS (pickS t178 s170 (.v (.sc (.bool false)))) true).bind fun t190 =>
  xGuardR t190 (retV (.l 1 7) m186) m186 (fun v193 m194 => some (.pan v193, [], m194)) fun s191 m192 =>
  (wantS (pickS t178 s170 (.v (.sc (.bool false)))) true).bind fun t195 =>
  xGuardR t195 ((aLoad false 1 m192 s191).bind fun a200 =>
  retV (.v a200) m192) m192 (fun v198 m199 => some (.pan v198, [], m199)) fun s196 m197 =>
  (wantS (pickS t178 s170 (.v (.sc (.bool false)))) true).bind fun t201 =>
  xGuardR t201 ((valOf s185).bind fun a206 =>
  (valOf s196).bind fun a207 =>
  (xBin Tryz.prog false 2 .eql a206 a207).bind fun a208 =>
  retV (.v a208) m197) m197 (fun v204 m205 => some (.pan v204, [], m205)) fun s202 m203 =>
  (valOf (pickS t178 s170 (.v (.sc (.bool false))))).bind fun a209 =>
  (boolv a209).bind fun t210 =>
  some (.ret, [(4, (.v (vof (pickS t210 s202 (.v (.sc (.bool false)))))))], m203)
theorem frame_Equal_eq (R : Rec) (h : Heap) (x0 x1 : AV) : stepK Tryz.prog TryzA.ann R (.call 8 [x0, x1] h) = (frame_Equal R h x0 x1).bind (fin Tryz.prog TryzA.ann 8 R) := by kernel_rfl
theorem frame_Equal_fin (R : Rec) (l : Ai.Loc) (h : Heap) (s4 : SV) : fin Tryz.prog TryzA.ann 8 R (.ret, [(4, s4)], ⟨l, h, []⟩) = ((valOf s4).bind fun v => (some []).map (v :: ·)).map fun vs => .call (.ret (oneOrTup vs)) h := by kernel_rfl
/-- flagon/frame.Height -/
noncomputable def frame_Height (R : Rec) (h : Heap) (x0 : AV) : Rs :=
  (cellsOf x0).bind fun cs1 =>
  let m2 := mset (m0 h) 0 cs1
  (aLoad false 1 m2 (.l 0 0)).bind fun a3 =>
  (aLenS m2 a3).bind fun n4 =>
  xBlock 0 (xLoop R (.loop 9 (cAt Tryz.prog 9 [1, 1, 0, 1, 0, 0]) ⟨[(3, (.v (.sc (.int .i64 0)))), (7, (.v a3)), (8, (.v (mkInt (n4 : Nat)))), (9, (.v (.sc (.int .i64 0))))], mkeep m2 []⟩) retN) (fun e5 m6 =>
  some (.ret, [(2, (.v (vget e5 3)))], m6))
theorem frame_Height_eq (R : Rec) (h : Heap) (x0 : AV) : stepK Tryz.prog TryzA.ann R (.call 9 [x0] h) = (frame_Height R h x0).bind (fin Tryz.prog TryzA.ann 9 R) := by kernel_rfl
theorem frame_Height_fin (R : Rec) (l : Ai.Loc) (h : Heap) (s2 : SV) : fin Tryz.prog TryzA.ann 9 R (.ret, [(2, s2)], ⟨l, h, []⟩) = ((valOf s2).bind fun v => (some []).map (v :: ·)).map fun vs => .call (.ret (oneOrTup vs)) h := by kernel_rfl
noncomputable def frame_Height_L0 (R : Rec) (m : Mm) (x3 : AV) (x7 : AV) (x8 : AV) (x9 : AV) : Rs :=
  (xBin Tryz.prog false 3 .lss x9 x8).bind fun a1 =>
  xJoin ((boolv a1).bind fun t2 =>
  if t2 = true then
  retN [(3, (.v x3)), (7, (.v x7)), (8, (.v x8)), (9, (.v x9)), (10, (.v a1))] m
  else
  some (.exit 0, [(3, (.v x3)), (7, (.v x7)), (8, (.v x8)), (9, (.v x9)), (10, (.v a1))], m)) (fun e3 m4 =>
  xBlock 1 ((intv (vget e3 9)).bind fun p5 =>
  (aIndexS m4 4 p5.2 (vget e3 7)).bind fun s6 =>
  (aLoad true 4 m4 s6).bind fun a7 =>
  let m8 := mset m4 1 (zc Tryz.prog 40)
  (aStore true 4 m8 (.l 1 0) a7).bind fun m9 =>
  (aLoad false 1 m9 (.l 1 3)).bind fun a10 =>
  (aLenS m9 a10).bind fun n11 =>
  (xBin Tryz.prog false 3 .add (vget e3 3) (mkInt (n11 : Nat))).bind fun a12 =>
  retN [(3, (.v a12)), (7, (.v (vget e3 7))), (8, (.v (vget e3 8))), (9, (.v (vget e3 9)))] m9) (fun e13 m14 =>
  (xBin Tryz.prog false 3 .add (vget e13 9) (.sc (.int .i64 1))).bind fun a15 =>
  retN [(3, (.v (vget e13 3))), (7, (.v (vget e13 7))), (8, (.v (vget e13 8))), (9, (.v a15))] m14))
noncomputable abbrev frame_Height_L0_t (x3 : AV) (x7 : AV) (x8 : AV) (x9 : AV) (m : Mm) : Task := .loop 9 (cAt Tryz.prog 9 [1, 1, 0, 1, 0, 0]) ⟨[(3, (.v x3)), (7, (.v x7)), (8, (.v x8)), (9, (.v x9))], m⟩
theorem frame_Height_L0_eq (R : Rec) (m : Mm) (x3 : AV) (x7 : AV) (x8 : AV) (x9 : AV) : stepK Tryz.prog TryzA.ann R (.loop 9 (cAt Tryz.prog 9 [1, 1, 0, 1, 0, 0]) ⟨[(3, (.v x3)), (7, (.v x7)), (8, (.v x8)), (9, (.v x9))], m⟩) = xRound R (frame_Height_L0 R m x3 x7 x8 x9) fun e m => .loop 9 (cAt Tryz.prog 9 [1, 1, 0, 1, 0, 0]) ⟨recut [(3, true), (7, true), (8, true), (9, true)] e, mkeep m []⟩ := by kernel_rfl
/-- flagon/flagonref00.CopyState -/
noncomputable def flagonref00_CopyState (R : Rec) (h : Heap) (x0 : AV) : Rs :=
  (cellsOf x0).bind fun cs1 =>
  let m2 := mset (m0 h) 0 cs1
  let m3 := mset m2 1 (zc Tryz.prog 27)
  (aLoad false 1 m3 (.l 0 0)).bind fun a4 =>
  xPureR R m3 28 [a4] (fun v6 => some (.pan v6, [], m3)) fun a5 =>
  (aStore false 1 m3 (.l 0 0) a5).bind fun m7 =>
  (aLoad false 1 m7 (.l 0 1)).bind fun a8 =>
  xPureR R m7 29 [a8] (fun v10 => some (.pan v10, [], m7)) fun a9 =>
  (aStore false 1 m7 (.l 0 1) a9).bind fun m11 =>
  (aLoad false 1 m11 (.l 0 2)).bind fun a12 =>
  xPureR R m11 30 [a12] (fun v14 => some (.pan v14, [], m11)) fun a13 =>
  (aStore false 1 m11 (.l 0 2) a13).bind fun m15 =>
  (aLoad false 1 m15 (.l 0 5)).bind fun a16 =>
  xPureR R m15 29 [a16] (fun v18 => some (.pan v18, [], m15)) fun a17 =>
  (aStore false 1 m15 (.l 0 5) a17).bind fun m19 =>
  (aLoad true 8 m19 (.l 0 0)).bind fun a20 =>
  (aStore true 8 m19 (.l 1 0) a20).bind fun m21 =>
  some (.ret, [(2, (.l 1 0))], m21)
theorem flagonref00_CopyState_eq (R : Rec) (h : Heap) (x0 : AV) : stepK Tryz.prog TryzA.ann R (.call 10 [x0] h) = (flagonref00_CopyState R h x0).bind (fin Tryz.prog TryzA.ann 10 R) := by kernel_rfl
theorem flagonref00_CopyState_fin (R : Rec) (l : Ai.Loc) (h : Heap) (s2 : SV) : fin Tryz.prog TryzA.ann 10 R (.ret, [(2, s2)], ⟨l, h, []⟩) = ((aLoad true 8 ⟨l, h, []⟩ s2).bind fun v => (some []).map (v :: ·)).map fun vs => .call (.ret (oneOrTup vs)) h := by kernel_rfl
/-- flagon/flagonref00.Long -/
noncomputable def flagonref00_Long (R : Rec) (h : Heap) (x0 : AV) : Rs :=
  (xBin Tryz.prog false 3 .gtr x0 (.sc (.int .i64 2147483647))).bind fun a1 =>
  some (.ret, [(2, (.v a1))], (m0 h))
theorem flagonref00_Long_eq (R : Rec) (h : Heap) (x0 : AV) : stepK Tryz.prog TryzA.ann R (.call 11 [x0] h) = (flagonref00_Long R h x0).bind (fin Tryz.prog TryzA.ann 11 R) := by kernel_rfl
theorem flagonref00_Long_fin (R : Rec) (l : Ai.Loc) (h : Heap) (s2 : SV) : fin Tryz.prog TryzA.ann 11 R (.ret, [(2, s2)], ⟨l, h, []⟩) = ((valOf s2).bind fun v => (some []).map (v :: ·)).map fun vs => .call (.ret (oneOrTup vs)) h := by kernel_rfl
/-- flagon/flagonref00.SizeState -/
noncomputable def flagonref00_SizeState (R : Rec) (h : Heap) (x0 : AV) : Rs :=
  (cellsOf x0).bind fun cs1 =>
  let m2 := mset (m0 h) 0 cs1
  (aLoad false 1 m2 (.l 0 0)).bind fun a3 =>
  (aLenS m2 a3).bind fun n4 =>
  (aLoad false 1 m2 (.l 0 1)).bind fun a5 =>
  (aLenS m2 a5).bind fun n6 =>
  (xBin Tryz.prog false 3 .add (mkInt (n4 : Nat)) (mkInt (n6 : Nat))).bind fun a7 =>
  (aLoad false 1 m2 (.l 0 5)).bind fun a8 =>
  (aLenS m2 a8).bind fun n9 =>
  (xBin Tryz.prog false 3 .add a7 (mkInt (n9 : Nat))).bind fun a10 =>
  (aLoad false 1 m2 (.l 0 2)).bind fun a11 =>
  xPureR R m2 32 [a11] (fun v13 => none) fun a12 =>
  (xBin Tryz.prog false 3 .add a10 a12).bind fun a14 =>
  xBlock 0 (xLoop R (.loop 13 (cAt Tryz.prog 13 [1, 1, 0, 1, 0, 0]) ⟨[(1, (.l 0 0)), (3, (.v a14)), (4, (.v (.sc (.int .i64 0))))], mkeep m2 [0]⟩) retN) (fun e15 m16 =>
  some (.ret, [(2, (.v (vget e15 3)))], m16))
theorem flagonref00_SizeState_eq (R : Rec) (h : Heap) (x0 : AV) : stepK Tryz.prog TryzA.ann R (.call 13 [x0] h) = (flagonref00_SizeState R h x0).bind (fin Tryz.prog TryzA.ann 13 R) := by kernel_rfl
theorem flagonref00_SizeState_fin (R : Rec) (l : Ai.Loc) (h : Heap) (s2 : SV) : fin Tryz.prog TryzA.ann 13 R (.ret, [(2, s2)], ⟨l, h, []⟩) = ((valOf s2).bind fun v => (some []).map (v :: ·)).map fun vs => .call (.ret (oneOrTup vs)) h := by kernel_rfl
noncomputable def flagonref00_SizeState_L0 (R : Rec) (m : Mm) (y1 : SV) (x3 : AV) (x4 : AV) : Rs :=
  (aField m 0 y1).bind fun s1 =>
  (aLoad false 1 m s1).bind fun a2 =>
  (aLenS m a2).bind fun n3 =>
  (xBin Tryz.prog false 3 .lss x4 (mkInt (n3 : Nat))).bind fun a4 =>
  (wantS (.v a4) true).bind fun t5 =>
  xGuardR t5 (retV (.v x3) m) m (fun v8 m9 => some (.pan v8, [], m9)) fun s6 m7 =>
  (wantS (.v a4) true).bind fun t10 =>
  xGuardR t10 ((valOf s6).bind fun a15 =>
  (xBin Tryz.prog false 3 .leq a15 (.sc (.int .i64 2147483647))).bind fun a16 =>
  retV (.v a16) m7) m7 (fun v13 m14 => some (.pan v13, [], m14)) fun s11 m12 =>
  (boolv a4).bind fun t17 =>
  xJoin ((boolv (vof (pickS t17 s11 (.v (.sc (.bool false)))))).bind fun t18 =>
  if t18 = true then
  retN [(1, y1), (3, (.v x3)), (4, (.v x4)), (28, (.v (vof (pickS t17 s11 (.v (.sc (.bool false)))))))] m12
  else
  some (.exit 0, [(1, y1), (3, (.v x3)), (4, (.v x4)), (28, (.v (vof (pickS t17 s11 (.v (.sc (.bool false)))))))], m12)) (fun e19 m20 =>
  xBlock 1 ((aField m20 0 (eget e19 1)).bind fun s21 =>
  (aLoad false 1 m20 s21).bind fun a22 =>
  (intv (vget e19 4)).bind fun p23 =>
  (aIndexS m20 4 p23.2 a22).bind fun s24 =>
  (aField m20 2 s24).bind fun s25 =>
  (aLoad false 1 m20 s25).bind fun a26 =>
  (aLenS m20 a26).bind fun n27 =>
  (xBin Tryz.prog false 3 .add (vget e19 3) (mkInt (n27 : Nat))).bind fun a28 =>
  (aField m20 0 (eget e19 1)).bind fun s29 =>
  (aLoad false 1 m20 s29).bind fun a30 =>
  (intv (vget e19 4)).bind fun p31 =>
  (aIndexS m20 4 p31.2 a30).bind fun s32 =>
  (aField m20 3 s32).bind fun s33 =>
  (aLoad false 1 m20 s33).bind fun a34 =>
  (aLenS m20 a34).bind fun n35 =>
  (xBin Tryz.prog false 3 .add a28 (mkInt (n35 : Nat))).bind fun a36 =>
  retN [(1, (eget e19 1)), (3, (.v a36)), (4, (.v (vget e19 4)))] m20) (fun e37 m38 =>
  (xBin Tryz.prog false 3 .add (vget e37 4) (.sc (.int .i64 1))).bind fun a39 =>
  retN [(1, (eget e37 1)), (3, (.v (vget e37 3))), (4, (.v a39))] m38))
noncomputable abbrev flagonref00_SizeState_L0_t (y1 : SV) (x3 : AV) (x4 : AV) (m : Mm) : Task := .loop 13 (cAt Tryz.prog 13 [1, 1, 0, 1, 0, 0]) ⟨[(1, y1), (3, (.v x3)), (4, (.v x4))], m⟩
theorem flagonref00_SizeState_L0_eq (R : Rec) (m : Mm) (y1 : SV) (x3 : AV) (x4 : AV) : stepK Tryz.prog TryzA.ann R (.loop 13 (cAt Tryz.prog 13 [1, 1, 0, 1, 0, 0]) ⟨[(1, y1), (3, (.v x3)), (4, (.v x4))], m⟩) = xRound R (flagonref00_SizeState_L0 R m y1 x3 x4) fun e m => .loop 13 (cAt Tryz.prog 13 [1, 1, 0, 1, 0, 0]) ⟨recut [(1, false), (3, true), (4, true)] e, mkeep m [0]⟩ := by kernel_rfl
/-- flagon/frame.clone -/
noncomputable def frame_clone (R : Rec) (h : Heap) (x0 : AV) : Rs :=
  (aAppend (m0 h) 1 8 .nils x0).bind fun r1 =>
  some (.ret, [(2, (.v r1.1))], r1.2)
theorem frame_clone_eq (R : Rec) (h : Heap) (x0 : AV) : stepK Tryz.prog TryzA.ann R (.call 18 [x0] h) = (frame_clone R h x0).bind (fin Tryz.prog TryzA.ann 18 R) := by kernel_rfl
theorem frame_clone_fin (R : Rec) (l : Ai.Loc) (h : Heap) (s2 : SV) : fin Tryz.prog TryzA.ann 18 R (.ret, [(2, s2)], ⟨l, h, []⟩) = ((valOf s2).bind fun v => (some []).map (v :: ·)).map fun vs => .call (.ret (oneOrTup vs)) h := by kernel_rfl
/-- flagon/flagonref00.EqFrames -/
noncomputable def flagonref00_EqFrames (R : Rec) (h : Heap) (x0 x1 : AV) : Rs :=
  (aLenS (m0 h) x0).bind fun n1 =>
  (aLenS (m0 h) x1).bind fun n2 =>
  (xBin Tryz.prog false 3 .neq (mkInt (n1 : Nat)) (mkInt (n2 : Nat))).bind fun a3 =>
  xJoin ((boolv a3).bind fun t4 =>
  if t4 = true then
  some (.ret, [(4, (.v (.sc (.bool false))))], (m0 h))
  else
  retN [(0, (.v x0)), (1, (.v x1)), (10, (.v a3))] (m0 h)) (fun e5 m6 =>
  xBlock 0 (xLoop R (.loop 19 (cAt Tryz.prog 19 [1, 1, 0, 1, 0, 0]) ⟨[(0, (.v (vget e5 0))), (1, (.v (vget e5 1))), (5, (.v (.sc (.int .i64 0))))], mkeep m6 []⟩) retN) (fun e7 m8 =>
  some (.ret, [(4, (.v (.sc (.bool true))))], m8)))
theorem flagonref00_EqFrames_eq (R : Rec) (h : Heap) (x0 x1 : AV) : stepK Tryz.prog TryzA.ann R (.call 19 [x0, x1] h) = (flagonref00_EqFrames R h x0 x1).bind (fin Tryz.prog TryzA.ann 19 R) := by kernel_rfl
theorem flagonref00_EqFrames_fin (R : Rec) (l : Ai.Loc) (h : Heap) (s4 : SV) : fin Tryz.prog TryzA.ann 19 R (.ret, [(4, s4)], ⟨l, h, []⟩) = ((valOf s4).bind fun v => (some []).map (v :: ·)).map fun vs => .call (.ret (oneOrTup vs)) h := by kernel_rfl
noncomputable def flagonref00_EqFrames_L0 (R : Rec) (m : Mm) (x0 : AV) (x1 : AV) (x5 : AV) : Rs :=
  (aLenS m x0).bind fun n1 =>
  (xBin Tryz.prog false 3 .lss x5 (mkInt (n1 : Nat))).bind fun a2 =>
  xJoin ((boolv a2).bind fun t3 =>
  if t3 = true then
  retN [(0, (.v x0)), (1, (.v x1)), (5, (.v x5)), (14, (.v a2))] m
  else
  some (.exit 0, [(0, (.v x0)), (1, (.v x1)), (5, (.v x5)), (14, (.v a2))], m)) (fun e4 m5 =>
  xBlock 1 ((intv (vget e4 5)).bind fun p6 =>
  (aIndexS m5 4 p6.2 (vget e4 0)).bind fun s7 =>
  (aLoad true 4 m5 s7).bind fun a8 =>
  (intv (vget e4 5)).bind fun p9 =>
  (aIndexS m5 4 p9.2 (vget e4 1)).bind fun s10 =>
  (aLoad true 4 m5 s10).bind fun a11 =>
  xPureR R m5 36 [a8, a11] (fun v13 => none) fun a12 =>
  (aUn .not a12).bind fun a14 =>
  xJoin ((boolv a14).bind fun t15 =>
  if t15 = true then
  some (.ret, [(4, (.v (.sc (.bool false))))], m5)
  else
  retN [(0, (.v (vget e4 0))), (1, (.v (vget e4 1))), (5, (.v (vget e4 5))), (26, (.v a14))] m5) retN) (fun e16 m17 =>
  (xBin Tryz.prog false 3 .add (vget e16 5) (.sc (.int .i64 1))).bind fun a18 =>
  retN [(0, (.v (vget e16 0))), (1, (.v (vget e16 1))), (5, (.v a18))] m17))
noncomputable abbrev flagonref00_EqFrames_L0_t (x0 : AV) (x1 : AV) (x5 : AV) (m : Mm) : Task := .loop 19 (cAt Tryz.prog 19 [1, 1, 0, 1, 0, 0]) ⟨[(0, (.v x0)), (1, (.v x1)), (5, (.v x5))], m⟩
theorem flagonref00_EqFrames_L0_eq (R : Rec) (m : Mm) (x0 : AV) (x1 : AV) (x5 : AV) : stepK Tryz.prog TryzA.ann R (.loop 19 (cAt Tryz.prog 19 [1, 1, 0, 1, 0, 0]) ⟨[(0, (.v x0)), (1, (.v x1)), (5, (.v x5))], m⟩) = xRound R (flagonref00_EqFrames_L0 R m x0 x1 x5) fun e m => .loop 19 (cAt Tryz.prog 19 [1, 1, 0, 1, 0, 0]) ⟨recut [(0, true), (1, true), (5, true)] e, mkeep m []⟩ := by kernel_rfl
/-- flagon/flagonref00.EqWords -/
noncomputable def flagonref00_EqWords (R : Rec) (h : Heap) (x0 x1 : AV) : Rs :=
  (aLenS (m0 h) x0).bind fun n1 =>
  (aLenS (m0 h) x1).bind fun n2 =>
  (xBin Tryz.prog false 3 .neq (mkInt (n1 : Nat)) (mkInt (n2 : Nat))).bind fun a3 =>
  xJoin ((boolv a3).bind fun t4 =>
  if t4 = true then
  some (.ret, [(4, (.v (.sc (.bool false))))], (m0 h))
  else
  retN [(0, (.v x0)), (1, (.v x1)), (10, (.v a3))] (m0 h)) (fun e5 m6 =>
  xBlock 0 (xLoop R (.loop 20 (cAt Tryz.prog 20 [1, 1, 0, 1, 0, 0]) ⟨[(0, (.v (vget e5 0))), (1, (.v (vget e5 1))), (5, (.v (.sc (.int .i64 0))))], mkeep m6 []⟩) retN) (fun e7 m8 =>
  some (.ret, [(4, (.v (.sc (.bool true))))], m8)))
theorem flagonref00_EqWords_eq (R : Rec) (h : Heap) (x0 x1 : AV) : stepK Tryz.prog TryzA.ann R (.call 20 [x0, x1] h) = (flagonref00_EqWords R h x0 x1).bind (fin Tryz.prog TryzA.ann 20 R) := by kernel_rfl
theorem flagonref00_EqWords_fin (R : Rec) (l : Ai.Loc) (h : Heap) (s4 : SV) : fin Tryz.prog TryzA.ann 20 R (.ret, [(4, s4)], ⟨l, h, []⟩) = ((valOf s4).bind fun v => (some []).map (v :: ·)).map fun vs => .call (.ret (oneOrTup vs)) h := by kernel_rfl
noncomputable def flagonref00_EqWords_L0 (R : Rec) (m : Mm) (x0 : AV) (x1 : AV) (x5 : AV) : Rs :=
  (aLenS m x0).bind fun n1 =>
  (xBin Tryz.prog false 3 .lss x5 (mkInt (n1 : Nat))).bind fun a2 =>
  xJoin ((boolv a2).bind fun t3 =>
  if t3 = true then
  retN [(0, (.v x0)), (1, (.v x1)), (5, (.v x5)), (14, (.v a2))] m
  else
  some (.exit 0, [(0, (.v x0)), (1, (.v x1)), (5, (.v x5)), (14, (.v a2))], m)) (fun e4 m5 =>
  xBlock 1 ((intv (vget e4 5)).bind fun p6 =>
  (aIndexS m5 1 p6.2 (vget e4 0)).bind fun s7 =>
  (aLoad false 1 m5 s7).bind fun a8 =>
  (intv (vget e4 5)).bind fun p9 =>
  (aIndexS m5 1 p9.2 (vget e4 1)).bind fun s10 =>
  (aLoad false 1 m5 s10).bind fun a11 =>
  (xBin Tryz.prog false 43 .neq a8 a11).bind fun a12 =>
  xJoin ((boolv a12).bind fun t13 =>
  if t13 = true then
  some (.ret, [(4, (.v (.sc (.bool false))))], m5)
  else
  retN [(0, (.v (vget e4 0))), (1, (.v (vget e4 1))), (5, (.v (vget e4 5))), (25, (.v a12))] m5) retN) (fun e14 m15 =>
  (xBin Tryz.prog false 3 .add (vget e14 5) (.sc (.int .i64 1))).bind fun a16 =>
  retN [(0, (.v (vget e14 0))), (1, (.v (vget e14 1))), (5, (.v a16))] m15))
noncomputable abbrev flagonref00_EqWords_L0_t (x0 : AV) (x1 : AV) (x5 : AV) (m : Mm) : Task := .loop 20 (cAt Tryz.prog 20 [1, 1, 0, 1, 0, 0]) ⟨[(0, (.v x0)), (1, (.v x1)), (5, (.v x5))], m⟩
theorem flagonref00_EqWords_L0_eq (R : Rec) (m : Mm) (x0 : AV) (x1 : AV) (x5 : AV) : stepK Tryz.prog TryzA.ann R (.loop 20 (cAt Tryz.prog 20 [1, 1, 0, 1, 0, 0]) ⟨[(0, (.v x0)), (1, (.v x1)), (5, (.v x5))], m⟩) = xRound R (flagonref00_EqWords_L0 R m x0 x1 x5) fun e m => .loop 20 (cAt Tryz.prog 20 [1, 1, 0, 1, 0, 0]) ⟨recut [(0, true), (1, true), (5, true)] e, mkeep m []⟩ := by kernel_rfl
/-- flagon/flagonref00.EqPages -/
noncomputable def flagonref00_EqPages (R : Rec) (h : Heap) (x0 x1 : AV) : Rs :=
  (aLenS (m0 h) x0).bind fun n1 =>
  (aLenS (m0 h) x1).bind fun n2 =>
  (xBin Tryz.prog false 3 .neq (mkInt (n1 : Nat)) (mkInt (n2 : Nat))).bind fun a3 =>
  xJoin ((boolv a3).bind fun t4 =>
  if t4 = true then
  some (.ret, [(4, (.v (.sc (.bool false))))], (m0 h))
  else
  retN [(0, (.v x0)), (1, (.v x1)), (10, (.v a3))] (m0 h)) (fun e5 m6 =>
  xBlock 0 (xLoop R (.loop 21 (cAt Tryz.prog 21 [1, 1, 0, 1, 0, 0]) ⟨[(0, (.v (vget e5 0))), (1, (.v (vget e5 1))), (5, (.v (.sc (.int .i64 0))))], mkeep m6 []⟩) retN) (fun e7 m8 =>
  some (.ret, [(4, (.v (.sc (.bool true))))], m8)))
theorem flagonref00_EqPages_eq (R : Rec) (h : Heap) (x0 x1 : AV) : stepK Tryz.prog TryzA.ann R (.call 21 [x0, x1] h) = (flagonref00_EqPages R h x0 x1).bind (fin Tryz.prog TryzA.ann 21 R) := by kernel_rfl
theorem flagonref00_EqPages_fin (R : Rec) (l : Ai.Loc) (h : Heap) (s4 : SV) : fin Tryz.prog TryzA.ann 21 R (.ret, [(4, s4)], ⟨l, h, []⟩) = ((valOf s4).bind fun v => (some []).map (v :: ·)).map fun vs => .call (.ret (oneOrTup vs)) h := by kernel_rfl
noncomputable def flagonref00_EqPages_L0 (R : Rec) (m : Mm) (x0 : AV) (x1 : AV) (x5 : AV) : Rs :=
  (aLenS m x0).bind fun n1 =>
  (xBin Tryz.prog false 3 .lss x5 (mkInt (n1 : Nat))).bind fun a2 =>
  xJoin ((boolv a2).bind fun t3 =>
  if t3 = true then
  retN [(0, (.v x0)), (1, (.v x1)), (5, (.v x5)), (14, (.v a2))] m
  else
  some (.exit 0, [(0, (.v x0)), (1, (.v x1)), (5, (.v x5)), (14, (.v a2))], m)) (fun e4 m5 =>
  xBlock 1 ((intv (vget e4 5)).bind fun p6 =>
  (aIndexS m5 1 p6.2 (vget e4 0)).bind fun s7 =>
  (aLoad false 1 m5 s7).bind fun a8 =>
  (intv (vget e4 5)).bind fun p9 =>
  (aIndexS m5 1 p9.2 (vget e4 1)).bind fun s10 =>
  (aLoad false 1 m5 s10).bind fun a11 =>
  xPureR R m5 37 [a8, a11] (fun v13 => none) fun a12 =>
  (aUn .not a12).bind fun a14 =>
  xJoin ((boolv a14).bind fun t15 =>
  if t15 = true then
  some (.ret, [(4, (.v (.sc (.bool false))))], m5)
  else
  retN [(0, (.v (vget e4 0))), (1, (.v (vget e4 1))), (5, (.v (vget e4 5))), (26, (.v a14))] m5) retN) (fun e16 m17 =>
  (xBin Tryz.prog false 3 .add (vget e16 5) (.sc (.int .i64 1))).bind fun a18 =>
  retN [(0, (.v (vget e16 0))), (1, (.v (vget e16 1))), (5, (.v a18))] m17))
noncomputable abbrev flagonref00_EqPages_L0_t (x0 : AV) (x1 : AV) (x5 : AV) (m : Mm) : Task := .loop 21 (cAt Tryz.prog 21 [1, 1, 0, 1, 0, 0]) ⟨[(0, (.v x0)), (1, (.v x1)), (5, (.v x5))], m⟩
theorem flagonref00_EqPages_L0_eq (R : Rec) (m : Mm) (x0 : AV) (x1 : AV) (x5 : AV) : stepK Tryz.prog TryzA.ann R (.loop 21 (cAt Tryz.prog 21 [1, 1, 0, 1, 0, 0]) ⟨[(0, (.v x0)), (1, (.v x1)), (5, (.v x5))], m⟩) = xRound R (flagonref00_EqPages_L0 R m x0 x1 x5) fun e m => .loop 21 (cAt Tryz.prog 21 [1, 1, 0, 1, 0, 0]) ⟨recut [(0, true), (1, true), (5, true)] e, mkeep m []⟩ := by kernel_rfl
/-- flagon/frame.alike[flagon/api.Frame] -/
noncomputable def frame_alike_api_Frame (R : Rec) (h : Heap) (x0 x1 x2 : AV) : Rs :=
  xPureR R (m0 h) 38 [x0, x1, x2] (fun v2 => some (.pan v2, [], (m0 h))) fun a1 =>
  some (.ret, [(6, (.v a1))], (m0 h))
theorem frame_alike_api_Frame_eq (R : Rec) (h : Heap) (x0 x1 x2 : AV) : stepK Tryz.prog TryzA.ann R (.call 22 [x0, x1, x2] h) = (frame_alike_api_Frame R h x0 x1 x2).bind (fin Tryz.prog TryzA.ann 22 R) := by kernel_rfl
theorem frame_alike_api_Frame_fin (R : Rec) (l : Ai.Loc) (h : Heap) (s6 : SV) : fin Tryz.prog TryzA.ann 22 R (.ret, [(6, s6)], ⟨l, h, []⟩) = ((valOf s6).bind fun v => (some []).map (v :: ·)).map fun vs => .call (.ret (oneOrTup vs)) h := by kernel_rfl
/-- flagon/frame.Equal$1 -/
noncomputable def frame_Equal_1 (R : Rec) (h : Heap) (x0 x1 : AV) : Rs :=
  (cellsOf x0).bind fun cs1 =>
  let m2 := mset (m0 h) 0 cs1
  (cellsOf x1).bind fun cs3 =>
  let m4 := mset m2 1 cs3
  (aLoad false 1 m4 (.l 0 0)).bind fun a5 =>
  (aLoad false 1 m4 (.l 1 0)).bind fun a6 =>
  (xBin Tryz.prog false 3 .eql a5 a6).bind fun a7 =>
  (wantS (.v a7) true).bind fun t8 =>
  xGuardR t8 (retV (.l 0 1) m4) m4 (fun v11 m12 => some (.pan v11, [], m12)) fun s9 m10 =>
  (wantS (.v a7) true).bind fun t13 =>
  xGuardR t13 ((aLoad false 1 m10 s9).bind fun a18 =>
  retV (.v a18) m10) m10 (fun v16 m17 => some (.pan v16, [], m17)) fun s14 m15 =>
  (wantS (.v a7) true).bind fun t19 =>
  xGuardR t19 (retV (.l 1 1) m15) m15 (fun v22 m23 => some (.pan v22, [], m23)) fun s20 m21 =>
  (wantS (.v a7) true).bind fun t24 =>
  xGuardR t24 ((aLoad false 1 m21 s20).bind fun a29 =>
  retV (.v a29) m21) m21 (fun v27 m28 => some (.pan v27, [], m28)) fun s25 m26 =>
  (wantS (.v a7) true).bind fun t30 =>
  xGuardR t30 ((valOf s14).bind fun a35 =>
  (valOf s25).bind fun a36 =>
  (xBin Tryz.prog false 3 .eql a35 a36).bind fun a37 =>
  retV (.v a37) m26) m26 (fun v33 m34 => some (.pan v33, [], m34)) fun s31 m32 =>
  (boolv a7).bind fun t38 =>
  (wantS (pickS t38 s31 (.v (.sc (.bool false)))) true).bind fun t39 =>
  xGuardR t39 (retV (.l 0 2) m32) m32 (fun v42 m43 => some (.pan v42, [], m43)) fun s40 m41 =>
  (wantS (pickS t38 s31 (.v (.sc (.bool false)))) true).bind fun t44 =>
  xGuardR t44 ((aLoad false 1 m41 s40).bind fun a49 =>
  retV (.v a49) m41) m41 (fun v47 m48 => some (.pan v47, [], m48)) fun s45 m46 =>
  (wantS (pickS t38 s31 (.v (.sc (.bool false)))) true).bind fun t50 =>
  xGuardR t50 (retV (.l 1 2) m46) m46 (fun v53 m54 => some (.pan v53, [], m54)) fun s51 m52 =>
  (wantS (pickS t38 s31 (.v (.sc (.bool false)))) true).bind fun t55 =>
  xGuardR t55 ((aLoad false 1 m52 s51).bind fun a60 =>
  retV (.v a60) m52) m52 (fun v58 m59 => some (.pan v58, [], m59)) fun s56 m57 =>
  (wantS (pickS t38 s31 (.v (.sc (.bool false)))) true).bind fun t61 =>
  xGuardR t61 ((opvsL [s45, s56]).bind fun as66 =>
  xPureR R m57 24 as66 (fun v68 => retP v68 m57) fun a67 =>
  retV (.v a67) m57) m57 (fun v64 m65 => some (.pan v64, [], m65)) fun s62 m63 =>
  (valOf (pickS t38 s31 (.v (.sc (.bool false))))).bind fun a69 =>
  (boolv a69).bind fun t70 =>
  (wantS (pickS t70 s62 (.v (.sc (.bool false)))) true).bind fun t71 =>
  xGuardR t71 (retV (.l 0 3) m63) m63 (fun v74 m75 => some (.pan v74, [], m75)) fun s72 m73 =>
  (wantS (pickS t70 s62 (.v (.sc (.bool false)))) true).bind fun t76 =>
  xGuardR t76 ((aLoad false 1 m73 s72).bind fun a81 =>
  retV (.v a81) m73) m73 (fun v79 m80 => some (.pan v79, [], m80)) fun s77 m78 =>
  (wantS (pickS t70 s62 (.v (.sc (.bool false)))) true).bind fun t82 =>
  xGuardR t82 (retV (.l 1 3) m78) m78 (fun v85 m86 => some (.pan v85, [], m86)) fun s83 m84 =>
  (wantS (pickS t70 s62 (.v (.sc (.bool false)))) true).bind fun t87 =>
  xGuardR t87 ((aLoad false 1 m84 s83).bind fun a92 =>
  retV (.v a92) m84) m84 (fun v90 m91 => some (.pan v90, [], m91)) fun s88 m89 =>
  (wantS (pickS t70 s62 (.v (.sc (.bool false)))) true).bind fun t93 =>
  xGuardR t93 ((opvsL [s77, s88]).bind fun as98 =>
  xPureR R m89 24 as98 (fun v100 => retP v100 m89) fun a99 =>
  retV (.v a99) m89) m89 (fun v96 m97 => some (.pan v96, [], m97)) fun s94 m95 =>
  (valOf (pickS t70 s62 (.v (.sc (.bool false))))).bind fun a101 =>
  (boolv a101).bind fun t102 =>
  some (.ret, [(4, (.v (vof (pickS t102 s94 (.v (.sc (.bool false)))))))], m95)
theorem frame_Equal_1_eq (R : Rec) (h : Heap) (x0 x1 : AV) : stepK Tryz.prog TryzA.ann R (.call 23 [x0, x1] h) = (frame_Equal_1 R h x0 x1).bind (fin Tryz.prog TryzA.ann 23 R) := by kernel_rfl
theorem frame_Equal_1_fin (R : Rec) (l : Ai.Loc) (h : Heap) (s4 : SV) : fin Tryz.prog TryzA.ann 23 R (.ret, [(4, s4)], ⟨l, h, []⟩) = ((valOf s4).bind fun v => (some []).map (v :: ·)).map fun vs => .call (.ret (oneOrTup vs)) h := by kernel_rfl
/-- slices.Equal[[]uint64,uint64] -/
noncomputable def slices_Equal_uint64_uint64 (R : Rec) (h : Heap) (x0 x1 : AV) : Rs :=
  (aLenS (m0 h) x0).bind fun n1 =>
  (aLenS (m0 h) x1).bind fun n2 =>
  (xBin Tryz.prog false 3 .neq (mkInt (n1 : Nat)) (mkInt (n2 : Nat))).bind fun a3 =>
  xJoin ((boolv a3).bind fun t4 =>
  if t4 = true then
  some (.ret, [(4, (.v (.sc (.bool false))))], (m0 h))
  else
  retN [(0, (.v x0)), (1, (.v x1)), (10, (.v a3))] (m0 h)) (fun e5 m6 =>
  (aLenS m6 (vget e5 0)).bind fun n7 =>
  xBlock 0 (xLoop R (.loop 24 (cAt Tryz.prog 24 [1, 1, 0, 1, 0, 0]) ⟨[(0, (.v (vget e5 0))), (1, (.v (vget e5 1))), (12, (.v (mkInt (n7 : Nat)))), (13, (.v (.sc (.int .i64 0))))], mkeep m6 []⟩) retN) (fun e8 m9 =>
  some (.ret, [(4, (.v (.sc (.bool true))))], m9)))
theorem slices_Equal_uint64_uint64_eq (R : Rec) (h : Heap) (x0 x1 : AV) : stepK Tryz.prog TryzA.ann R (.call 24 [x0, x1] h) = (slices_Equal_uint64_uint64 R h x0 x1).bind (fin Tryz.prog TryzA.ann 24 R) := by kernel_rfl
theorem slices_Equal_uint64_uint64_fin (R : Rec) (l : Ai.Loc) (h : Heap) (s4 : SV) : fin Tryz.prog TryzA.ann 24 R (.ret, [(4, s4)], ⟨l, h, []⟩) = ((valOf s4).bind fun v => (some []).map (v :: ·)).map fun vs => .call (.ret (oneOrTup vs)) h := by kernel_rfl
noncomputable def slices_Equal_uint64_uint64_L0 (R : Rec) (m : Mm) (x0 : AV) (x1 : AV) (x12 : AV) (x13 : AV) : Rs :=
  (xBin Tryz.prog false 3 .lss x13 x12).bind fun a1 =>
  xJoin ((boolv a1).bind fun t2 =>
  if t2 = true then
  retN [(0, (.v x0)), (1, (.v x1)), (12, (.v x12)), (13, (.v x13)), (14, (.v a1))] m
  else
  some (.exit 0, [(0, (.v x0)), (1, (.v x1)), (12, (.v x12)), (13, (.v x13)), (14, (.v a1))], m)) (fun e3 m4 =>
  xBlock 1 ((intv (vget e3 13)).bind fun p5 =>
  (aIndexS m4 1 p5.2 (vget e3 0)).bind fun s6 =>
  (aLoad false 1 m4 s6).bind fun a7 =>
  (intv (vget e3 13)).bind fun p8 =>
  (aIndexS m4 1 p8.2 (vget e3 1)).bind fun s9 =>
  (aLoad false 1 m4 s9).bind fun a10 =>
  (xBin Tryz.prog false 43 .neq a7 a10).bind fun a11 =>
  xJoin ((boolv a11).bind fun t12 =>
  if t12 = true then
  some (.ret, [(4, (.v (.sc (.bool false))))], m4)
  else
  retN [(0, (.v (vget e3 0))), (1, (.v (vget e3 1))), (12, (.v (vget e3 12))), (13, (.v (vget e3 13))), (24, (.v a11))] m4) retN) (fun e13 m14 =>
  (xBin Tryz.prog false 3 .add (vget e13 13) (.sc (.int .i64 1))).bind fun a15 =>
  retN [(0, (.v (vget e13 0))), (1, (.v (vget e13 1))), (12, (.v (vget e13 12))), (13, (.v a15))] m14))
noncomputable abbrev slices_Equal_uint64_uint64_L0_t (x0 : AV) (x1 : AV) (x12 : AV) (x13 : AV) (m : Mm) : Task := .loop 24 (cAt Tryz.prog 24 [1, 1, 0, 1, 0, 0]) ⟨[(0, (.v x0)), (1, (.v x1)), (12, (.v x12)), (13, (.v x13))], m⟩
theorem slices_Equal_uint64_uint64_L0_eq (R : Rec) (m : Mm) (x0 : AV) (x1 : AV) (x12 : AV) (x13 : AV) : stepK Tryz.prog TryzA.ann R (.loop 24 (cAt Tryz.prog 24 [1, 1, 0, 1, 0, 0]) ⟨[(0, (.v x0)), (1, (.v x1)), (12, (.v x12)), (13, (.v x13))], m⟩) = xRound R (slices_Equal_uint64_uint64_L0 R m x0 x1 x12 x13) fun e m => .loop 24 (cAt Tryz.prog 24 [1, 1, 0, 1, 0, 0]) ⟨recut [(0, true), (1, true), (12, true), (13, true)] e, mkeep m []⟩ := by kernel_rfl
/-- flagon/frame.alike[[]byte] -/
noncomputable def frame_alike_byte (R : Rec) (h : Heap) (x0 x1 x2 : AV) : Rs :=
  xPureR R (m0 h) 39 [x0, x1, x2] (fun v2 => some (.pan v2, [], (m0 h))) fun a1 =>
  some (.ret, [(6, (.v a1))], (m0 h))
theorem frame_alike_byte_eq (R : Rec) (h : Heap) (x0 x1 x2 : AV) : stepK Tryz.prog TryzA.ann R (.call 25 [x0, x1, x2] h) = (frame_alike_byte R h x0 x1 x2).bind (fin Tryz.prog TryzA.ann 25 R) := by kernel_rfl
theorem frame_alike_byte_fin (R : Rec) (l : Ai.Loc) (h : Heap) (s6 : SV) : fin Tryz.prog TryzA.ann 25 R (.ret, [(6, s6)], ⟨l, h, []⟩) = ((valOf s6).bind fun v => (some []).map (v :: ·)).map fun vs => .call (.ret (oneOrTup vs)) h := by kernel_rfl
/-- flagon/frame.Equal$2 -/
noncomputable def frame_Equal_2 (R : Rec) (h : Heap) (x0 x1 : AV) : Rs :=
  xPureR R (m0 h) 27 [x0, x1] (fun v2 => some (.pan v2, [], (m0 h))) fun a1 =>
  some (.ret, [(4, (.v a1))], (m0 h))
theorem frame_Equal_2_eq (R : Rec) (h : Heap) (x0 x1 : AV) : stepK Tryz.prog TryzA.ann R (.call 26 [x0, x1] h) = (frame_Equal_2 R h x0 x1).bind (fin Tryz.prog TryzA.ann 26 R) := by kernel_rfl
theorem frame_Equal_2_fin (R : Rec) (l : Ai.Loc) (h : Heap) (s4 : SV) : fin Tryz.prog TryzA.ann 26 R (.ret, [(4, s4)], ⟨l, h, []⟩) = ((valOf s4).bind fun v => (some []).map (v :: ·)).map fun vs => .call (.ret (oneOrTup vs)) h := by kernel_rfl
/-- slices.Equal[[]byte,byte] -/
noncomputable def slices_Equal_byte_byte (R : Rec) (h : Heap) (x0 x1 : AV) : Rs :=
  (aLenS (m0 h) x0).bind fun n1 =>
  (aLenS (m0 h) x1).bind fun n2 =>
  (xBin Tryz.prog false 3 .neq (mkInt (n1 : Nat)) (mkInt (n2 : Nat))).bind fun a3 =>
  xJoin ((boolv a3).bind fun t4 =>
  if t4 = true then
  some (.ret, [(4, (.v (.sc (.bool false))))], (m0 h))
  else
  retN [(0, (.v x0)), (1, (.v x1)), (10, (.v a3))] (m0 h)) (fun e5 m6 =>
  (aLenS m6 (vget e5 0)).bind fun n7 =>
  xBlock 0 (xLoop R (.loop 27 (cAt Tryz.prog 27 [1, 1, 0, 1, 0, 0]) ⟨[(0, (.v (vget e5 0))), (1, (.v (vget e5 1))), (12, (.v (mkInt (n7 : Nat)))), (13, (.v (.sc (.int .i64 0))))], mkeep m6 []⟩) retN) (fun e8 m9 =>
  some (.ret, [(4, (.v (.sc (.bool true))))], m9)))
theorem slices_Equal_byte_byte_eq (R : Rec) (h : Heap) (x0 x1 : AV) : stepK Tryz.prog TryzA.ann R (.call 27 [x0, x1] h) = (slices_Equal_byte_byte R h x0 x1).bind (fin Tryz.prog TryzA.ann 27 R) := by kernel_rfl
theorem slices_Equal_byte_byte_fin (R : Rec) (l : Ai.Loc) (h : Heap) (s4 : SV) : fin Tryz.prog TryzA.ann 27 R (.ret, [(4, s4)], ⟨l, h, []⟩) = ((valOf s4).bind fun v => (some []).map (v :: ·)).map fun vs => .call (.ret (oneOrTup vs)) h := by kernel_rfl
noncomputable def slices_Equal_byte_byte_L0 (R : Rec) (m : Mm) (x0 : AV) (x1 : AV) (x12 : AV) (x13 : AV) : Rs :=
  (xBin Tryz.prog false 3 .lss x13 x12).bind fun a1 =>
  xJoin ((boolv a1).bind fun t2 =>
  if t2 = true then
  retN [(0, (.v x0)), (1, (.v x1)), (12, (.v x12)), (13, (.v x13)), (14, (.v a1))] m
  else
  some (.exit 0, [(0, (.v x0)), (1, (.v x1)), (12, (.v x12)), (13, (.v x13)), (14, (.v a1))], m)) (fun e3 m4 =>
  xBlock 1 ((intv (vget e3 13)).bind fun p5 =>
  (aIndexS m4 1 p5.2 (vget e3 0)).bind fun s6 =>
  (aLoad false 1 m4 s6).bind fun a7 =>
  (intv (vget e3 13)).bind fun p8 =>
  (aIndexS m4 1 p8.2 (vget e3 1)).bind fun s9 =>
  (aLoad false 1 m4 s9).bind fun a10 =>
  (xBin Tryz.prog false 5 .neq a7 a10).bind fun a11 =>
  xJoin ((boolv a11).bind fun t12 =>
  if t12 = true then
  some (.ret, [(4, (.v (.sc (.bool false))))], m4)
  else
  retN [(0, (.v (vget e3 0))), (1, (.v (vget e3 1))), (12, (.v (vget e3 12))), (13, (.v (vget e3 13))), (24, (.v a11))] m4) retN) (fun e13 m14 =>
  (xBin Tryz.prog false 3 .add (vget e13 13) (.sc (.int .i64 1))).bind fun a15 =>
  retN [(0, (.v (vget e13 0))), (1, (.v (vget e13 1))), (12, (.v (vget e13 12))), (13, (.v a15))] m14))
noncomputable abbrev slices_Equal_byte_byte_L0_t (x0 : AV) (x1 : AV) (x12 : AV) (x13 : AV) (m : Mm) : Task := .loop 27 (cAt Tryz.prog 27 [1, 1, 0, 1, 0, 0]) ⟨[(0, (.v x0)), (1, (.v x1)), (12, (.v x12)), (13, (.v x13))], m⟩
theorem slices_Equal_byte_byte_L0_eq (R : Rec) (m : Mm) (x0 : AV) (x1 : AV) (x12 : AV) (x13 : AV) : stepK Tryz.prog TryzA.ann R (.loop 27 (cAt Tryz.prog 27 [1, 1, 0, 1, 0, 0]) ⟨[(0, (.v x0)), (1, (.v x1)), (12, (.v x12)), (13, (.v x13))], m⟩) = xRound R (slices_Equal_byte_byte_L0 R m x0 x1 x12 x13) fun e m => .loop 27 (cAt Tryz.prog 27 [1, 1, 0, 1, 0, 0]) ⟨recut [(0, true), (1, true), (12, true), (13, true)] e, mkeep m []⟩ := by kernel_rfl
/-- flagon/flagonref00.CopyFrames -/
noncomputable def flagonref00_CopyFrames (R : Rec) (h : Heap) (x0 : AV) : Rs :=
  xBlock 0 (xLoop R (.loop 28 (cAt Tryz.prog 28 [1, 1, 0, 1, 0, 0]) ⟨[(0, (.v x0)), (3, (.v .nils)), (4, (.v (.sc (.int .i64 0))))], mkeep (m0 h) []⟩) retN) (fun e1 m2 =>
  some (.ret, [(2, (.v (vget e1 3)))], m2))
theorem flagonref00_CopyFrames_eq (R : Rec) (h : Heap) (x0 : AV) : stepK Tryz.prog TryzA.ann R (.call 28 [x0] h) = (flagonref00_CopyFrames R h x0).bind (fin Tryz.prog TryzA.ann 28 R) := by kernel_rfl
theorem flagonref00_CopyFrames_fin (R : Rec) (l : Ai.Loc) (h : Heap) (s2 : SV) : fin Tryz.prog TryzA.ann 28 R (.ret, [(2, s2)], ⟨l, h, []⟩) = ((valOf s2).bind fun v => (some []).map (v :: ·)).map fun vs => .call (.ret (oneOrTup vs)) h := by kernel_rfl
noncomputable def flagonref00_CopyFrames_L0 (R : Rec) (m : Mm) (x0 : AV) (x3 : AV) (x4 : AV) : Rs :=
  (aLenS m x0).bind fun n1 =>
  (xBin Tryz.prog false 3 .lss x4 (mkInt (n1 : Nat))).bind fun a2 =>
  xJoin ((boolv a2).bind fun t3 =>
  if t3 = true then
  retN [(0, (.v x0)), (3, (.v x3)), (4, (.v x4)), (8, (.v a2))] m
  else
  some (.exit 0, [(0, (.v x0)), (3, (.v x3)), (4, (.v x4)), (8, (.v a2))], m)) (fun e4 m5 =>
  xBlock 1 ((intv (vget e4 4)).bind fun p6 =>
  (aIndexS m5 4 p6.2 (vget e4 0)).bind fun s7 =>
  (aLoad true 4 m5 s7).bind fun a8 =>
  xPureR R m5 40 [a8] (fun v10 => some (.pan v10, [], m5)) fun a9 =>
  (fillCells (plm 4) (repeatCells (zc Tryz.prog 40) 1) [(0, a9)]).bind fun cs11 =>
  (aAppend m5 4 64 (vget e4 3) (.snap false 4 1 cs11)).bind fun r12 =>
  retN [(0, (.v (vget e4 0))), (3, (.v r12.1)), (4, (.v (vget e4 4)))] r12.2) (fun e13 m14 =>
  (xBin Tryz.prog false 3 .add (vget e13 4) (.sc (.int .i64 1))).bind fun a15 =>
  retN [(0, (.v (vget e13 0))), (3, (.v (vget e13 3))), (4, (.v a15))] m14))
noncomputable abbrev flagonref00_CopyFrames_L0_t (x0 : AV) (x3 : AV) (x4 : AV) (m : Mm) : Task := .loop 28 (cAt Tryz.prog 28 [1, 1, 0, 1, 0, 0]) ⟨[(0, (.v x0)), (3, (.v x3)), (4, (.v x4))], m⟩
theorem flagonref00_CopyFrames_L0_eq (R : Rec) (m : Mm) (x0 : AV) (x3 : AV) (x4 : AV) : stepK Tryz.prog TryzA.ann R (.loop 28 (cAt Tryz.prog 28 [1, 1, 0, 1, 0, 0]) ⟨[(0, (.v x0)), (3, (.v x3)), (4, (.v x4))], m⟩) = xRound R (flagonref00_CopyFrames_L0 R m x0 x3 x4) fun e m => .loop 28 (cAt Tryz.prog 28 [1, 1, 0, 1, 0, 0]) ⟨recut [(0, true), (3, true), (4, true)] e, mkeep m []⟩ := by kernel_rfl
/-- flagon/flagonref00.CopyWords -/
noncomputable def flagonref00_CopyWords (R : Rec) (h : Heap) (x0 : AV) : Rs :=
  (aAppend (m0 h) 1 8 .nils x0).bind fun r1 =>
  some (.ret, [(2, (.v r1.1))], r1.2)
theorem flagonref00_CopyWords_eq (R : Rec) (h : Heap) (x0 : AV) : stepK Tryz.prog TryzA.ann R (.call 29 [x0] h) = (flagonref00_CopyWords R h x0).bind (fin Tryz.prog TryzA.ann 29 R) := by kernel_rfl
theorem flagonref00_CopyWords_fin (R : Rec) (l : Ai.Loc) (h : Heap) (s2 : SV) : fin Tryz.prog TryzA.ann 29 R (.ret, [(2, s2)], ⟨l, h, []⟩) = ((valOf s2).bind fun v => (some []).map (v :: ·)).map fun vs => .call (.ret (oneOrTup vs)) h := by kernel_rfl
/-- flagon/flagonref00.CopyPages -/
noncomputable def flagonref00_CopyPages (R : Rec) (h : Heap) (x0 : AV) : Rs :=
  xBlock 0 (xLoop R (.loop 30 (cAt Tryz.prog 30 [1, 1, 0, 1, 0, 0]) ⟨[(0, (.v x0)), (3, (.v .nils)), (4, (.v (.sc (.int .i64 0))))], mkeep (m0 h) []⟩) retN) (fun e1 m2 =>
  some (.ret, [(2, (.v (vget e1 3)))], m2))
theorem flagonref00_CopyPages_eq (R : Rec) (h : Heap) (x0 : AV) : stepK Tryz.prog TryzA.ann R (.call 30 [x0] h) = (flagonref00_CopyPages R h x0).bind (fin Tryz.prog TryzA.ann 30 R) := by kernel_rfl
theorem flagonref00_CopyPages_fin (R : Rec) (l : Ai.Loc) (h : Heap) (s2 : SV) : fin Tryz.prog TryzA.ann 30 R (.ret, [(2, s2)], ⟨l, h, []⟩) = ((valOf s2).bind fun v => (some []).map (v :: ·)).map fun vs => .call (.ret (oneOrTup vs)) h := by kernel_rfl
noncomputable def flagonref00_CopyPages_L0 (R : Rec) (m : Mm) (x0 : AV) (x3 : AV) (x4 : AV) : Rs :=
  (aLenS m x0).bind fun n1 =>
  (xBin Tryz.prog false 3 .lss x4 (mkInt (n1 : Nat))).bind fun a2 =>
  xJoin ((boolv a2).bind fun t3 =>
  if t3 = true then
  retN [(0, (.v x0)), (3, (.v x3)), (4, (.v x4)), (8, (.v a2))] m
  else
  some (.exit 0, [(0, (.v x0)), (3, (.v x3)), (4, (.v x4)), (8, (.v a2))], m)) (fun e4 m5 =>
  xBlock 1 ((intv (vget e4 4)).bind fun p6 =>
  (aIndexS m5 1 p6.2 (vget e4 0)).bind fun s7 =>
  (aLoad false 1 m5 s7).bind fun a8 =>
  xPureR R m5 41 [a8] (fun v10 => some (.pan v10, [], m5)) fun a9 =>
  (fillCells (plm 1) (repeatCells (zc Tryz.prog 44) 1) [(0, a9)]).bind fun cs11 =>
  (aAppend m5 1 24 (vget e4 3) (.snap false 1 1 cs11)).bind fun r12 =>
  retN [(0, (.v (vget e4 0))), (3, (.v r12.1)), (4, (.v (vget e4 4)))] r12.2) (fun e13 m14 =>
  (xBin Tryz.prog false 3 .add (vget e13 4) (.sc (.int .i64 1))).bind fun a15 =>
  retN [(0, (.v (vget e13 0))), (3, (.v (vget e13 3))), (4, (.v a15))] m14))
noncomputable abbrev flagonref00_CopyPages_L0_t (x0 : AV) (x3 : AV) (x4 : AV) (m : Mm) : Task := .loop 30 (cAt Tryz.prog 30 [1, 1, 0, 1, 0, 0]) ⟨[(0, (.v x0)), (3, (.v x3)), (4, (.v x4))], m⟩
theorem flagonref00_CopyPages_L0_eq (R : Rec) (m : Mm) (x0 : AV) (x3 : AV) (x4 : AV) : stepK Tryz.prog TryzA.ann R (.loop 30 (cAt Tryz.prog 30 [1, 1, 0, 1, 0, 0]) ⟨[(0, (.v x0)), (3, (.v x3)), (4, (.v x4))], m⟩) = xRound R (flagonref00_CopyPages_L0 R m x0 x3 x4) fun e m => .loop 30 (cAt Tryz.prog 30 [1, 1, 0, 1, 0, 0]) ⟨recut [(0, true), (3, true), (4, true)] e, mkeep m []⟩ := by kernel_rfl
/-- flagon/flagonref00.SizePages -/
noncomputable def flagonref00_SizePages (R : Rec) (h : Heap) (x0 : AV) : Rs :=
  (aLenS (m0 h) x0).bind fun n1 =>
  xBlock 0 (xLoop R (.loop 32 (cAt Tryz.prog 32 [1, 1, 0, 1, 0, 0]) ⟨[(0, (.v x0)), (3, (.v (mkInt (n1 : Nat)))), (4, (.v (.sc (.int .i64 0))))], mkeep (m0 h) []⟩) retN) (fun e2 m3 =>
  some (.ret, [(2, (.v (vget e2 3)))], m3))
theorem flagonref00_SizePages_eq (R : Rec) (h : Heap) (x0 : AV) : stepK Tryz.prog TryzA.ann R (.call 32 [x0] h) = (flagonref00_SizePages R h x0).bind (fin Tryz.prog TryzA.ann 32 R) := by kernel_rfl
theorem flagonref00_SizePages_fin (R : Rec) (l : Ai.Loc) (h : Heap) (s2 : SV) : fin Tryz.prog TryzA.ann 32 R (.ret, [(2, s2)], ⟨l, h, []⟩) = ((valOf s2).bind fun v => (some []).map (v :: ·)).map fun vs => .call (.ret (oneOrTup vs)) h := by kernel_rfl
noncomputable def flagonref00_SizePages_L0 (R : Rec) (m : Mm) (x0 : AV) (x3 : AV) (x4 : AV) : Rs :=
  (aLenS m x0).bind fun n1 =>
  (xBin Tryz.prog false 3 .lss x4 (mkInt (n1 : Nat))).bind fun a2 =>
  (wantS (.v a2) true).bind fun t3 =>
  xGuardR t3 (retV (.v x3) m) m (fun v6 m7 => some (.pan v6, [], m7)) fun s4 m5 =>
  (wantS (.v a2) true).bind fun t8 =>
  xGuardR t8 ((valOf s4).bind fun a13 =>
  (xBin Tryz.prog false 3 .leq a13 (.sc (.int .i64 2147483647))).bind fun a14 =>
  retV (.v a14) m5) m5 (fun v11 m12 => some (.pan v11, [], m12)) fun s9 m10 =>
  (boolv a2).bind fun t15 =>
  xJoin ((boolv (vof (pickS t15 s9 (.v (.sc (.bool false)))))).bind fun t16 =>
  if t16 = true then
  retN [(0, (.v x0)), (3, (.v x3)), (4, (.v x4)), (14, (.v (vof (pickS t15 s9 (.v (.sc (.bool false)))))))] m10
  else
  some (.exit 0, [(0, (.v x0)), (3, (.v x3)), (4, (.v x4)), (14, (.v (vof (pickS t15 s9 (.v (.sc (.bool false)))))))], m10)) (fun e17 m18 =>
  xBlock 1 ((intv (vget e17 4)).bind fun p19 =>
  (aIndexS m18 1 p19.2 (vget e17 0)).bind fun s20 =>
  (aLoad false 1 m18 s20).bind fun a21 =>
  (aLenS m18 a21).bind fun n22 =>
  (xBin Tryz.prog false 3 .add (vget e17 3) (mkInt (n22 : Nat))).bind fun a23 =>
  retN [(0, (.v (vget e17 0))), (3, (.v a23)), (4, (.v (vget e17 4)))] m18) (fun e24 m25 =>
  (xBin Tryz.prog false 3 .add (vget e24 4) (.sc (.int .i64 1))).bind fun a26 =>
  retN [(0, (.v (vget e24 0))), (3, (.v (vget e24 3))), (4, (.v a26))] m25))
noncomputable abbrev flagonref00_SizePages_L0_t (x0 : AV) (x3 : AV) (x4 : AV) (m : Mm) : Task := .loop 32 (cAt Tryz.prog 32 [1, 1, 0, 1, 0, 0]) ⟨[(0, (.v x0)), (3, (.v x3)), (4, (.v x4))], m⟩
theorem flagonref00_SizePages_L0_eq (R : Rec) (m : Mm) (x0 : AV) (x3 : AV) (x4 : AV) : stepK Tryz.prog TryzA.ann R (.loop 32 (cAt Tryz.prog 32 [1, 1, 0, 1, 0, 0]) ⟨[(0, (.v x0)), (3, (.v x3)), (4, (.v x4))], m⟩) = xRound R (flagonref00_SizePages_L0 R m x0 x3 x4) fun e m => .loop 32 (cAt Tryz.prog 32 [1, 1, 0, 1, 0, 0]) ⟨recut [(0, true), (3, true), (4, true)] e, mkeep m []⟩ := by kernel_rfl
/-- flagon/flagonref00.EqFrame -/
noncomputable def flagonref00_EqFrame (R : Rec) (h : Heap) (x0 x1 : AV) : Rs :=
  (cellsOf x0).bind fun cs1 =>
  let m2 := mset (m0 h) 0 cs1
  (cellsOf x1).bind fun cs3 =>
  let m4 := mset m2 1 cs3
  (aLoad false 1 m4 (.l 0 0)).bind fun a5 =>
  (aLoad false 1 m4 (.l 1 0)).bind fun a6 =>
  (xBin Tryz.prog false 3 .eql a5 a6).bind fun a7 =>
  (wantS (.v a7) true).bind fun t8 =>
  xGuardR t8 (retV (.l 0 1) m4) m4 (fun v11 m12 => some (.pan v11, [], m12)) fun s9 m10 =>
  (wantS (.v a7) true).bind fun t13 =>
  xGuardR t13 ((aLoad false 1 m10 s9).bind fun a18 =>
  retV (.v a18) m10) m10 (fun v16 m17 => some (.pan v16, [], m17)) fun s14 m15 =>
  (wantS (.v a7) true).bind fun t19 =>
  xGuardR t19 (retV (.l 1 1) m15) m15 (fun v22 m23 => some (.pan v22, [], m23)) fun s20 m21 =>
  (wantS (.v a7) true).bind fun t24 =>
  xGuardR t24 ((aLoad false 1 m21 s20).bind fun a29 =>
  retV (.v a29) m21) m21 (fun v27 m28 => some (.pan v27, [], m28)) fun s25 m26 =>
  (wantS (.v a7) true).bind fun t30 =>
  xGuardR t30 ((valOf s14).bind fun a35 =>
  (valOf s25).bind fun a36 =>
  (xBin Tryz.prog false 3 .eql a35 a36).bind fun a37 =>
  retV (.v a37) m26) m26 (fun v33 m34 => some (.pan v33, [], m34)) fun s31 m32 =>
  (boolv a7).bind fun t38 =>
  (wantS (pickS t38 s31 (.v (.sc (.bool false)))) true).bind fun t39 =>
  xGuardR t39 (retV (.l 0 2) m32) m32 (fun v42 m43 => some (.pan v42, [], m43)) fun s40 m41 =>
  (wantS (pickS t38 s31 (.v (.sc (.bool false)))) true).bind fun t44 =>
  xGuardR t44 ((aLoad false 1 m41 s40).bind fun a49 =>
  retV (.v a49) m41) m41 (fun v47 m48 => some (.pan v47, [], m48)) fun s45 m46 =>
  (wantS (pickS t38 s31 (.v (.sc (.bool false)))) true).bind fun t50 =>
  xGuardR t50 (retV (.l 1 2) m46) m46 (fun v53 m54 => some (.pan v53, [], m54)) fun s51 m52 =>
  (wantS (pickS t38 s31 (.v (.sc (.bool false)))) true).bind fun t55 =>
  xGuardR t55 ((aLoad false 1 m52 s51).bind fun a60 =>
  retV (.v a60) m52) m52 (fun v58 m59 => some (.pan v58, [], m59)) fun s56 m57 =>
  (wantS (pickS t38 s31 (.v (.sc (.bool false)))) true).bind fun t61 =>
  xGuardR t61 ((opvsL [s45, s56]).bind fun as66 =>
  xPureR R m57 20 as66 (fun v68 => retP v68 m57) fun a67 =>
  retV (.v a67) m57) m57 (fun v64 m65 => some (.pan v64, [], m65)) fun s62 m63 =>
  (valOf (pickS t38 s31 (.v (.sc (.bool false))))).bind fun a69 =>
  (boolv a69).bind fun t70 =>
  (wantS (pickS t70 s62 (.v (.sc (.bool false)))) true).bind fun t71 =>
  xGuardR t71 (retV (.l 0 3) m63) m63 (fun v74 m75 => some (.pan v74, [], m75)) fun s72 m73 =>
  (wantS (pickS t70 s62 (.v (.sc (.bool false)))) true).bind fun t76 =>
  xGuardR t76 ((aLoad false 1 m73 s72).bind fun a81 =>
  retV (.v a81) m73) m73 (fun v79 m80 => some (.pan v79, [], m80)) fun s77 m78 =>
  (wantS (pickS t70 s62 (.v (.sc (.bool false)))) true).bind fun t82 =>
  xGuardR t82 (retV (.l 1 3) m78) m78 (fun v85 m86 => some (.pan v85, [], m86)) fun s83 m84 =>
  (wantS (pickS t70 s62 (.v (.sc (.bool false)))) true).bind fun t87 =>
  xGuardR t87 ((aLoad false 1 m84 s83).bind fun a92 =>
  retV (.v a92) m84) m84 (fun v90 m91 => some (.pan v90, [], m91)) fun s88 m89 =>
  (wantS (pickS t70 s62 (.v (.sc (.bool false)))) true).bind fun t93 =>
  xGuardR t93 ((opvsL [s77, s88]).bind fun as98 =>
  xPureR R m89 20 as98 (fun v100 => retP v100 m89) fun a99 =>
  retV (.v a99) m89) m89 (fun v96 m97 => some (.pan v96, [], m97)) fun s94 m95 =>
  (valOf (pickS t70 s62 (.v (.sc (.bool false))))).bind fun a101 =>
  (boolv a101).bind fun t102 =>
  some (.ret, [(4, (.v (vof (pickS t102 s94 (.v (.sc (.bool false)))))))], m95)
theorem flagonref00_EqFrame_eq (R : Rec) (h : Heap) (x0 x1 : AV) : stepK Tryz.prog TryzA.ann R (.call 36 [x0, x1] h) = (flagonref00_EqFrame R h x0 x1).bind (fin Tryz.prog TryzA.ann 36 R) := by kernel_rfl
theorem flagonref00_EqFrame_fin (R : Rec) (l : Ai.Loc) (h : Heap) (s4 : SV) : fin Tryz.prog TryzA.ann 36 R (.ret, [(4, s4)], ⟨l, h, []⟩) = ((valOf s4).bind fun v => (some []).map (v :: ·)).map fun vs => .call (.ret (oneOrTup vs)) h := by kernel_rfl
/-- flagon/flagonref00.EqBytes -/
noncomputable def flagonref00_EqBytes (R : Rec) (h : Heap) (x0 x1 : AV) : Rs :=
  (aLenS (m0 h) x0).bind fun n1 =>
  (aLenS (m0 h) x1).bind fun n2 =>
  (xBin Tryz.prog false 3 .neq (mkInt (n1 : Nat)) (mkInt (n2 : Nat))).bind fun a3 =>
  xJoin ((boolv a3).bind fun t4 =>
  if t4 = true then
  some (.ret, [(4, (.v (.sc (.bool false))))], (m0 h))
  else
  retN [(0, (.v x0)), (1, (.v x1)), (10, (.v a3))] (m0 h)) (fun e5 m6 =>
  xBlock 0 (xLoop R (.loop 37 (cAt Tryz.prog 37 [1, 1, 0, 1, 0, 0]) ⟨[(0, (.v (vget e5 0))), (1, (.v (vget e5 1))), (5, (.v (.sc (.int .i64 0))))], mkeep m6 []⟩) retN) (fun e7 m8 =>
  some (.ret, [(4, (.v (.sc (.bool true))))], m8)))
theorem flagonref00_EqBytes_eq (R : Rec) (h : Heap) (x0 x1 : AV) : stepK Tryz.prog TryzA.ann R (.call 37 [x0, x1] h) = (flagonref00_EqBytes R h x0 x1).bind (fin Tryz.prog TryzA.ann 37 R) := by kernel_rfl
theorem flagonref00_EqBytes_fin (R : Rec) (l : Ai.Loc) (h : Heap) (s4 : SV) : fin Tryz.prog TryzA.ann 37 R (.ret, [(4, s4)], ⟨l, h, []⟩) = ((valOf s4).bind fun v => (some []).map (v :: ·)).map fun vs => .call (.ret (oneOrTup vs)) h := by kernel_rfl
noncomputable def flagonref00_EqBytes_L0 (R : Rec) (m : Mm) (x0 : AV) (x1 : AV) (x5 : AV) : Rs :=
  (aLenS m x0).bind fun n1 =>
  (xBin Tryz.prog false 3 .lss x5 (mkInt (n1 : Nat))).bind fun a2 =>
  xJoin ((boolv a2).bind fun t3 =>
  if t3 = true then
  retN [(0, (.v x0)), (1, (.v x1)), (5, (.v x5)), (14, (.v a2))] m
  else
  some (.exit 0, [(0, (.v x0)), (1, (.v x1)), (5, (.v x5)), (14, (.v a2))], m)) (fun e4 m5 =>
  xBlock 1 ((intv (vget e4 5)).bind fun p6 =>
  (aIndexS m5 1 p6.2 (vget e4 0)).bind fun s7 =>
  (aLoad false 1 m5 s7).bind fun a8 =>
  (intv (vget e4 5)).bind fun p9 =>
  (aIndexS m5 1 p9.2 (vget e4 1)).bind fun s10 =>
  (aLoad false 1 m5 s10).bind fun a11 =>
  (xBin Tryz.prog false 5 .neq a8 a11).bind fun a12 =>
  xJoin ((boolv a12).bind fun t13 =>
  if t13 = true then
  some (.ret, [(4, (.v (.sc (.bool false))))], m5)
  else
  retN [(0, (.v (vget e4 0))), (1, (.v (vget e4 1))), (5, (.v (vget e4 5))), (25, (.v a12))] m5) retN) (fun e14 m15 =>
  (xBin Tryz.prog false 3 .add (vget e14 5) (.sc (.int .i64 1))).bind fun a16 =>
  retN [(0, (.v (vget e14 0))), (1, (.v (vget e14 1))), (5, (.v a16))] m15))
noncomputable abbrev flagonref00_EqBytes_L0_t (x0 : AV) (x1 : AV) (x5 : AV) (m : Mm) : Task := .loop 37 (cAt Tryz.prog 37 [1, 1, 0, 1, 0, 0]) ⟨[(0, (.v x0)), (1, (.v x1)), (5, (.v x5))], m⟩
theorem flagonref00_EqBytes_L0_eq (R : Rec) (m : Mm) (x0 : AV) (x1 : AV) (x5 : AV) : stepK Tryz.prog TryzA.ann R (.loop 37 (cAt Tryz.prog 37 [1, 1, 0, 1, 0, 0]) ⟨[(0, (.v x0)), (1, (.v x1)), (5, (.v x5))], m⟩) = xRound R (flagonref00_EqBytes_L0 R m x0 x1 x5) fun e m => .loop 37 (cAt Tryz.prog 37 [1, 1, 0, 1, 0, 0]) ⟨recut [(0, true), (1, true), (5, true)] e, mkeep m []⟩ := by kernel_rfl
/-- slices.EqualFunc[[]flagon/api.Frame,[]flagon/api.Frame,flagon/api.Frame,flagon/api.Frame] -/
noncomputable def slices_EqualFunc_api_Frame_api_Frame_api_Frame_api_Frame (R : Rec) (h : Heap) (x0 x1 x2 : AV) : Rs :=
  (aLenS (m0 h) x0).bind fun n1 =>
  (aLenS (m0 h) x1).bind fun n2 =>
  (xBin Tryz.prog false 3 .neq (mkInt (n1 : Nat)) (mkInt (n2 : Nat))).bind fun a3 =>
  xJoin ((boolv a3).bind fun t4 =>
  if t4 = true then
  some (.ret, [(6, (.v (.sc (.bool false))))], (m0 h))
  else
  retN [(0, (.v x0)), (1, (.v x1)), (2, (.v x2)), (14, (.v a3))] (m0 h)) (fun e5 m6 =>
  (aLenS m6 (vget e5 0)).bind fun n7 =>
  xBlock 0 (xLoop R (.loop 38 (cAt Tryz.prog 38 [1, 1, 0, 1, 0, 0]) ⟨[(1, (.v (vget e5 1))), (2, (.v (vget e5 2))), (15, (.v (vget e5 0))), (16, (.v (mkInt (n7 : Nat)))), (17, (.v (.sc (.int .i64 0))))], mkeep m6 []⟩) retN) (fun e8 m9 =>
  some (.ret, [(6, (.v (.sc (.bool true))))], m9)))
theorem slices_EqualFunc_api_Frame_api_Frame_api_Frame_api_Frame_eq (R : Rec) (h : Heap) (x0 x1 x2 : AV) : stepK Tryz.prog TryzA.ann R (.call 38 [x0, x1, x2] h) = (slices_EqualFunc_api_Frame_api_Frame_api_Frame_api_Frame R h x0 x1 x2).bind (fin Tryz.prog TryzA.ann 38 R) := by kernel_rfl
theorem slices_EqualFunc_api_Frame_api_Frame_api_Frame_api_Frame_fin (R : Rec) (l : Ai.Loc) (h : Heap) (s6 : SV) : fin Tryz.prog TryzA.ann 38 R (.ret, [(6, s6)], ⟨l, h, []⟩) = ((valOf s6).bind fun v => (some []).map (v :: ·)).map fun vs => .call (.ret (oneOrTup vs)) h := by kernel_rfl
noncomputable def slices_EqualFunc_api_Frame_api_Frame_api_Frame_api_Frame_L0 (R : Rec) (m : Mm) (x1 : AV) (x2 : AV) (x15 : AV) (x16 : AV) (x17 : AV) : Rs :=
  (xBin Tryz.prog false 3 .lss x17 x16).bind fun a1 =>
  xJoin ((boolv a1).bind fun t2 =>
  if t2 = true then
  retN [(1, (.v x1)), (2, (.v x2)), (15, (.v x15)), (16, (.v x16)), (17, (.v x17)), (18, (.v a1))] m
  else
  some (.exit 0, [(1, (.v x1)), (2, (.v x2)), (15, (.v x15)), (16, (.v x16)), (17, (.v x17)), (18, (.v a1))], m)) (fun e3 m4 =>
  xBlock 1 ((intv (vget e3 17)).bind fun p5 =>
  (aIndexS m4 4 p5.2 (vget e3 15)).bind fun s6 =>
  (aLoad true 4 m4 s6).bind fun a7 =>
  let m8 := mset m4 0 (zc Tryz.prog 40)
  (aStore true 4 m8 (.l 0 0) a7).bind fun m9 =>
  (intv (vget e3 17)).bind fun p10 =>
  (aIndexS m9 4 p10.2 (vget e3 1)).bind fun s11 =>
  (aLoad true 4 m9 s11).bind fun a12 =>
  let m13 := mset m9 1 (zc Tryz.prog 40)
  (aStore true 4 m13 (.l 1 0) a12).bind fun m14 =>
  (aLoad true 4 m14 (.l 0 0)).bind fun a15 =>
  (aLoad true 4 m14 (.l 1 0)).bind fun a16 =>
  (fnv (vget e3 2)).bind fun q17 =>
  xCallR R m14 q17.1 (q17.2.1 ++ [a15, a16] ++ q17.2.2) (fun v20 m21 => some (.pan v20, [], m21)) fun a18 m19 =>
  (aUn .not a18).bind fun a22 =>
  xJoin ((boolv a22).bind fun t23 =>
  if t23 = true then
  some (.ret, [(6, (.v (.sc (.bool false))))], m19)
  else
  retN [(1, (.v (vget e3 1))), (2, (.v (vget e3 2))), (15, (.v (vget e3 15))), (16, (.v (vget e3 16))), (17, (.v (vget e3 17))), (30, (.v a22))] m19) retN) (fun e24 m25 =>
  (xBin Tryz.prog false 3 .add (vget e24 17) (.sc (.int .i64 1))).bind fun a26 =>
  retN [(1, (.v (vget e24 1))), (2, (.v (vget e24 2))), (15, (.v (vget e24 15))), (16, (.v (vget e24 16))), (17, (.v a26))] m25))
noncomputable abbrev slices_EqualFunc_api_Frame_api_Frame_api_Frame_api_Frame_L0_t (x1 : AV) (x2 : AV) (x15 : AV) (x16 : AV) (x17 : AV) (m : Mm) : Task := .loop 38 (cAt Tryz.prog 38 [1, 1, 0, 1, 0, 0]) ⟨[(1, (.v x1)), (2, (.v x2)), (15, (.v x15)), (16, (.v x16)), (17, (.v x17))], m⟩
theorem slices_EqualFunc_api_Frame_api_Frame_api_Frame_api_Frame_L0_eq (R : Rec) (m : Mm) (x1 : AV) (x2 : AV) (x15 : AV) (x16 : AV) (x17 : AV) : stepK Tryz.prog TryzA.ann R (.loop 38 (cAt Tryz.prog 38 [1, 1, 0, 1, 0, 0]) ⟨[(1, (.v x1)), (2, (.v x2)), (15, (.v x15)), (16, (.v x16)), (17, (.v x17))], m⟩) = xRound R (slices_EqualFunc_api_Frame_api_Frame_api_Frame_api_Frame_L0 R m x1 x2 x15 x16 x17) fun e m => .loop 38 (cAt Tryz.prog 38 [1, 1, 0, 1, 0, 0]) ⟨recut [(1, true), (2, true), (15, true), (16, true), (17, true)] e, mkeep m []⟩ := by kernel_rfl
/-- slices.EqualFunc[[][]byte,[][]byte,[]byte,[]byte] -/
noncomputable def slices_EqualFunc_byte_byte_byte_byte (R : Rec) (h : Heap) (x0 x1 x2 : AV) : Rs :=
  (aLenS (m0 h) x0).bind fun n1 =>
  (aLenS (m0 h) x1).bind fun n2 =>
  (xBin Tryz.prog false 3 .neq (mkInt (n1 : Nat)) (mkInt (n2 : Nat))).bind fun a3 =>
  xJoin ((boolv a3).bind fun t4 =>
  if t4 = true then
  some (.ret, [(6, (.v (.sc (.bool false))))], (m0 h))
  else
  retN [(0, (.v x0)), (1, (.v x1)), (2, (.v x2)), (14, (.v a3))] (m0 h)) (fun e5 m6 =>
  (aLenS m6 (vget e5 0)).bind fun n7 =>
  xBlock 0 (xLoop R (.loop 39 (cAt Tryz.prog 39 [1, 1, 0, 1, 0, 0]) ⟨[(1, (.v (vget e5 1))), (2, (.v (vget e5 2))), (15, (.v (vget e5 0))), (16, (.v (mkInt (n7 : Nat)))), (17, (.v (.sc (.int .i64 0))))], mkeep m6 []⟩) retN) (fun e8 m9 =>
  some (.ret, [(6, (.v (.sc (.bool true))))], m9)))
theorem slices_EqualFunc_byte_byte_byte_byte_eq (R : Rec) (h : Heap) (x0 x1 x2 : AV) : stepK Tryz.prog TryzA.ann R (.call 39 [x0, x1, x2] h) = (slices_EqualFunc_byte_byte_byte_byte R h x0 x1 x2).bind (fin Tryz.prog TryzA.ann 39 R) := by kernel_rfl
theorem slices_EqualFunc_byte_byte_byte_byte_fin (R : Rec) (l : Ai.Loc) (h : Heap) (s6 : SV) : fin Tryz.prog TryzA.ann 39 R (.ret, [(6, s6)], ⟨l, h, []⟩) = ((valOf s6).bind fun v => (some []).map (v :: ·)).map fun vs => .call (.ret (oneOrTup vs)) h := by kernel_rfl
noncomputable def slices_EqualFunc_byte_byte_byte_byte_L0 (R : Rec) (m : Mm) (x1 : AV) (x2 : AV) (x15 : AV) (x16 : AV) (x17 : AV) : Rs :=
  (xBin Tryz.prog false 3 .lss x17 x16).bind fun a1 =>
  xJoin ((boolv a1).bind fun t2 =>
  if t2 = true then
  retN [(1, (.v x1)), (2, (.v x2)), (15, (.v x15)), (16, (.v x16)), (17, (.v x17)), (18, (.v a1))] m
  else
  some (.exit 0, [(1, (.v x1)), (2, (.v x2)), (15, (.v x15)), (16, (.v x16)), (17, (.v x17)), (18, (.v a1))], m)) (fun e3 m4 =>
  xBlock 1 ((intv (vget e3 17)).bind fun p5 =>
  (aIndexS m4 1 p5.2 (vget e3 15)).bind fun s6 =>
  (aLoad false 1 m4 s6).bind fun a7 =>
  (intv (vget e3 17)).bind fun p8 =>
  (aIndexS m4 1 p8.2 (vget e3 1)).bind fun s9 =>
  (aLoad false 1 m4 s9).bind fun a10 =>
  (fnv (vget e3 2)).bind fun q11 =>
  xCallR R m4 q11.1 (q11.2.1 ++ [a7, a10] ++ q11.2.2) (fun v14 m15 => some (.pan v14, [], m15)) fun a12 m13 =>
  (aUn .not a12).bind fun a16 =>
  xJoin ((boolv a16).bind fun t17 =>
  if t17 = true then
  some (.ret, [(6, (.v (.sc (.bool false))))], m13)
  else
  retN [(1, (.v (vget e3 1))), (2, (.v (vget e3 2))), (15, (.v (vget e3 15))), (16, (.v (vget e3 16))), (17, (.v (vget e3 17))), (30, (.v a16))] m13) retN) (fun e18 m19 =>
  (xBin Tryz.prog false 3 .add (vget e18 17) (.sc (.int .i64 1))).bind fun a20 =>
  retN [(1, (.v (vget e18 1))), (2, (.v (vget e18 2))), (15, (.v (vget e18 15))), (16, (.v (vget e18 16))), (17, (.v a20))] m19))
noncomputable abbrev slices_EqualFunc_byte_byte_byte_byte_L0_t (x1 : AV) (x2 : AV) (x15 : AV) (x16 : AV) (x17 : AV) (m : Mm) : Task := .loop 39 (cAt Tryz.prog 39 [1, 1, 0, 1, 0, 0]) ⟨[(1, (.v x1)), (2, (.v x2)), (15, (.v x15)), (16, (.v x16)), (17, (.v x17))], m⟩
theorem slices_EqualFunc_byte_byte_byte_byte_L0_eq (R : Rec) (m : Mm) (x1 : AV) (x2 : AV) (x15 : AV) (x16 : AV) (x17 : AV) : stepK Tryz.prog TryzA.ann R (.loop 39 (cAt Tryz.prog 39 [1, 1, 0, 1, 0, 0]) ⟨[(1, (.v x1)), (2, (.v x2)), (15, (.v x15)), (16, (.v x16)), (17, (.v x17))], m⟩) = xRound R (slices_EqualFunc_byte_byte_byte_byte_L0 R m x1 x2 x15 x16 x17) fun e m => .loop 39 (cAt Tryz.prog 39 [1, 1, 0, 1, 0, 0]) ⟨recut [(1, true), (2, true), (15, true), (16, true), (17, true)] e, mkeep m []⟩ := by kernel_rfl
/-- flagon/flagonref00.CopyFrame -/
noncomputable def flagonref00_CopyFrame (R : Rec) (h : Heap) (x0 : AV) : Rs :=
  (cellsOf x0).bind fun cs1 =>
  let m2 := mset (m0 h) 0 cs1
  let m3 := mset m2 1 (zc Tryz.prog 40)
  (aLoad false 1 m3 (.l 0 2)).bind fun a4 =>
  xPureR R m3 29 [a4] (fun v6 => some (.pan v6, [], m3)) fun a5 =>
  (aStore false 1 m3 (.l 0 2) a5).bind fun m7 =>
  (aLoad false 1 m7 (.l 0 3)).bind fun a8 =>
  xPureR R m7 29 [a8] (fun v10 => some (.pan v10, [], m7)) fun a9 =>
  (aStore false 1 m7 (.l 0 3) a9).bind fun m11 =>
  (aLoad true 4 m11 (.l 0 0)).bind fun a12 =>
  (aStore true 4 m11 (.l 1 0) a12).bind fun m13 =>
  some (.ret, [(2, (.l 1 0))], m13)
theorem flagonref00_CopyFrame_eq (R : Rec) (h : Heap) (x0 : AV) : stepK Tryz.prog TryzA.ann R (.call 40 [x0] h) = (flagonref00_CopyFrame R h x0).bind (fin Tryz.prog TryzA.ann 40 R) := by kernel_rfl
theorem flagonref00_CopyFrame_fin (R : Rec) (l : Ai.Loc) (h : Heap) (s2 : SV) : fin Tryz.prog TryzA.ann 40 R (.ret, [(2, s2)], ⟨l, h, []⟩) = ((aLoad true 4 ⟨l, h, []⟩ s2).bind fun v => (some []).map (v :: ·)).map fun vs => .call (.ret (oneOrTup vs)) h := by kernel_rfl
/-- flagon/flagonref00.CopyBytes -/
noncomputable def flagonref00_CopyBytes (R : Rec) (h : Heap) (x0 : AV) : Rs :=
  (aAppend (m0 h) 1 1 .nils x0).bind fun r1 =>
  some (.ret, [(2, (.v r1.1))], r1.2)
theorem flagonref00_CopyBytes_eq (R : Rec) (h : Heap) (x0 : AV) : stepK Tryz.prog TryzA.ann R (.call 41 [x0] h) = (flagonref00_CopyBytes R h x0).bind (fin Tryz.prog TryzA.ann 41 R) := by kernel_rfl
theorem flagonref00_CopyBytes_fin (R : Rec) (l : Ai.Loc) (h : Heap) (s2 : SV) : fin Tryz.prog TryzA.ann 41 R (.ret, [(2, s2)], ⟨l, h, []⟩) = ((valOf s2).bind fun v => (some []).map (v :: ·)).map fun vs => .call (.ret (oneOrTup vs)) h := by kernel_rfl

end TryzF
