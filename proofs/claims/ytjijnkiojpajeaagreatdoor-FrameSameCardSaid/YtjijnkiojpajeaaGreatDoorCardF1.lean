/- FrameSame's card: for every pair of states flagonlaw14.FrameSame answers true, and each argument reads behind the call as it did; the listed variables (unicode.White_Space, strings.asciiSpace) hold at the call's beginning what the program's text lays, which the card ties. By an AI agent. No person has read it. -/
import Derived.Test.YtjijnkiojpajeaaGreatDoorS15
import Derived.Test.YtjijnkiojpajeaaGreatDoorFitF1
import Derived.Test.YtjijnkiojpajeaaGreatDoorAiRead
import Derived.Test.YtjijnkiojpajeaaGreatDoorCards
import Derived.Test.YtjijnkiojpajeaaGreatDoorTie
import Derived.WalkKit
import Derived.ProofKit
import Derived.OpenShut
import Derived.Deep.DeepHandedRow
import Derived.Deep.DeepWitnessRowRef
import Derived.Lib.LaidTab
import Derived.LaidMore
set_option linter.unusedVariables false
set_option maxRecDepth 100000
namespace Go.Proofs.YtjijnkiojpajeaaGreatDoor.FrameSame
open Go Go.Ai Go.ChangeShapes Go.WideShapes Go.ChangeAt Go.RowKit TryzF

theorem own : ownKnob Tryz.prog.godebug = none := by kernel_rfl
theorem laidOut : laidOutB Tryz.prog = true := by kernel_rfl
theorem gTab : Tryz.prog.globalNamed "strings.asciiSpace" = some 0 := by kernel_rfl
theorem gTabType : (Tryz.prog.globals[0]?).map (·.type) = some 180 := by kernel_rfl
theorem laidPlain (W : World) : laidMetH Tryz.prog Rows.frameSameRow.laid W = laidMet Tryz.prog Rows.frameSameRow.laid W := rfl
theorem laid_tail {P : Program} {W : World} {x : String × DataW Unit} {r : List (String × DataW Unit)} (h : laidMet P (x :: r) W) : laidMet P r W := by
  obtain ⟨ps, ⟨g', t', cs, fuel, p, q, _, _, _, _, h1, rfl⟩, h2, h3⟩ := h
  exact ⟨q, h1, (List.nodup_append.1 h2).2.1, fun b off hb => h3 b off (List.mem_append_right _ hb)⟩
def space : List Int := [0, 0, 0, 0, 0, 0, 0, 0, 0, 1, 1, 1, 1, 1] ++ List.replicate 18 0 ++ [1] ++ List.replicate 223 0
theorem table {W : World} (h : laidMetH Tryz.prog Rows.frameSameRow.laid W) : Lib.TabIs Tryz.prog W "strings.asciiSpace" .u8 space :=
  Lib.tabIs_of_head (rest := []) gTab gTabType (n := 256) (by kernel_rfl) Tryz.underlying5 (by kernel_rfl) (by kernel_rfl) (laid_tail (x := ("unicode.White_Space", Rows.laid_unicode_White_Space)) h)
theorem gl0 : (Glob.gl 0 : Option (List Value)) = some (space.map fun z => Value.int .u8 z) := by kernel_rfl
theorem glOther (g : Nat) (h : g ≠ 0) : (Glob.gl g : Option (List Value)) = none := by
  cases g with
  | zero => exact absurd rfl h
  | succ n => rfl
theorem globs {W : World} (h : laidMetH Tryz.prog Rows.frameSameRow.laid W) : GlOk (c0 W) := by
  intro g us hg
  by_cases h0 : g = 0
  · subst h0
    rw [gl0] at hg
    cases hg
    have hc : ∀ j x, (space.map fun z => Value.int .u8 z)[j]? = some x → W.cell? ⟨0, j, none⟩ = some x := by
      intro j x hj
      rw [List.getElem?_map, Option.map_eq_some_iff] at hj
      obtain ⟨z, hz, rfl⟩ := hj
      obtain ⟨hlt, rfl⟩ := List.getElem?_eq_some_iff.1 hz
      have := (table h).cell gTab j hlt
      rw [this, List.getD_eq_getElem?_getD, hz]
      rfl
    refine ⟨c0_ok W 0 (block_of_cell (a := ⟨0, 0, none⟩) (hc 0 (.int .u8 0) rfl)), fun v hv => ?_, hc⟩
    obtain ⟨z, _, rfl⟩ := List.mem_map.1 hv
    rfl
  · rw [glOther g h0] at hg
    cases hg

section
variable {H : Type} {enc : TypeId × Value → H} {W : World}
theorem rU64 : Reads enc Tryz.prog (c0 W) 43 (fun a => ∃ n : Int, a = [w64 n]) := reads_int Tryz.underlying43
theorem rU8 : Reads enc Tryz.prog (c0 W) 5 (fun a => ∃ n : Int, a = [w8 n]) := reads_int Tryz.underlying5
theorem rInt : Reads enc Tryz.prog (c0 W) 3 (fun a => ∃ n : Int, a = [mkInt n]) := reads_int Tryz.underlying3
theorem rI64 : Reads enc Tryz.prog (c0 W) 2 (fun a => ∃ n : Int, a = [mkInt n]) := reads_int Tryz.underlying2
theorem rI8 : Reads enc Tryz.prog (c0 W) 25 (fun a => ∃ n : Int, a = [i8 n]) := reads_int Tryz.underlying25
theorem rWords : Reads enc Tryz.prog (c0 W) 23 (fun a => ∃ v, a = [v] ∧ ∃ l, Words l v) :=
  (reads_slice Tryz.underlying23 (size := 1) (by kernel_rfl) (of_decide_eq_true (by kernel_rfl)) (c0_ok W) rU64).mono fun a ⟨v, h1, h2⟩ => ⟨v, h1, h2.li fun c hc => hc⟩
theorem rBytes : Reads enc Tryz.prog (c0 W) 44 (fun a => ∃ v, a = [v] ∧ ∃ l, Bytes l v) :=
  (reads_slice Tryz.underlying44 (size := 1) (by kernel_rfl) (of_decide_eq_true (by kernel_rfl)) (c0_ok W) rU8).mono fun a ⟨v, h1, h2⟩ => ⟨v, h1, h2.li fun c hc => hc⟩
theorem rPages : Reads enc Tryz.prog (c0 W) 24 (fun a => ∃ v, a = [v] ∧ ∃ l, Pages l v) :=
  (reads_slice Tryz.underlying24 (size := 1) (by kernel_rfl) (of_decide_eq_true (by kernel_rfl)) (c0_ok W) rBytes).mono fun a ⟨v, h1, h2⟩ => ⟨v, h1, h2.li fun c ⟨v, h1, l, h2⟩ => ⟨l, v, h1, h2⟩⟩
theorem rFrame : Reads enc Tryz.prog (c0 W) 40 (fun a => ∃ f, FrameC a f) :=
  (reads_struct Tryz.underlying40 (total := 4) (by kernel_rfl) (.cons rInt rfl (sz := 1) (by kernel_rfl) rfl (.cons rInt rfl (sz := 1) (by kernel_rfl) rfl (.cons rWords rfl (sz := 1) (by kernel_rfl) rfl (.cons rWords rfl (sz := 1) (by kernel_rfl) rfl .nil))))).mono (by
    rintro a ⟨_, _, rfl, ⟨n, rfl⟩, _, _, rfl, ⟨m, rfl⟩, _, _, rfl, ⟨v, rfl, l, hl⟩, _, _, rfl, ⟨u, rfl, k, hk⟩, rfl⟩
    exact ⟨⟨n, m, l, k⟩, v, u, rfl, hl, hk⟩)
theorem rFrames : Reads enc Tryz.prog (c0 W) 22 (fun a => ∃ v, a = [v] ∧ ∃ l, Frames l v) :=
  (reads_slice Tryz.underlying22 (size := 4) (by kernel_rfl) (of_decide_eq_true (by kernel_rfl)) (c0_ok W) rFrame).mono fun a ⟨v, h1, h2⟩ => ⟨v, h1, h2.li fun c hc => hc⟩
theorem rState : Reads enc Tryz.prog (c0 W) 27 (fun a => ∃ s, StateC a s) :=
  (reads_struct Tryz.underlying27 (total := 8) (by kernel_rfl) (.cons rFrames rfl (sz := 1) (by kernel_rfl) rfl (.cons rWords rfl (sz := 1) (by kernel_rfl) rfl (.cons rPages rfl (sz := 1) (by kernel_rfl) rfl (.cons rInt rfl (sz := 1) (by kernel_rfl) rfl
    (.cons rI8 rfl (sz := 1) (by kernel_rfl) rfl (.cons rWords rfl (sz := 1) (by kernel_rfl) rfl (.cons rI8 rfl (sz := 1) (by kernel_rfl) rfl (.cons rI64 rfl (sz := 1) (by kernel_rfl) rfl .nil))))))))).mono (by
    rintro a ⟨_, _, rfl, ⟨fr, rfl, lf, hf⟩, _, _, rfl, ⟨gl, rfl, lg, hg⟩, _, _, rfl, ⟨pg, rfl, lp, hp⟩, _, _, rfl, ⟨n, rfl⟩, _, _, rfl, ⟨e, rfl⟩, _, _, rfl, ⟨rs, rfl, lr, hr⟩, _, _, rfl, ⟨t, rfl⟩, _, _, rfl, ⟨u, rfl⟩, rfl⟩
    exact ⟨⟨lf, lg, lp, n, e, lr, t, u⟩, fr, gl, pg, rs, rfl, hf, hg, hp, hr⟩)
end

/-- What the walk gives, for every argument and every world that holds the listed variables. -/
theorem contract (H : Type) (enc : TypeId × Value → H) (W : World) (base : Nat) (args : Array Value) (ds gs : List (DataW H)) (before : List MemPlace)
    (hval : ∀ (j : Nat) t v, Tryz.f3.params[j]? = some t → args[j]? = some v → Value.okWide Tryz.prog W .any base t v)
    (hW : DataW.Whole enc Tryz.prog Tryz.f3.params.toList Rows.frameSameSpec.vars false W args.toList ds gs before)
    (hz : (DataW.weightsEach Tryz.prog (Tryz.f3.params.toList ++ (OpenSpec.ofChange Rows.frameSameSpec).bare.plain.varTypes Tryz.prog) (ds ++ gs)).all (· ≤ reachBytes) = true)
    (hL : laidMetH Tryz.prog Rows.frameSameRow.laid W) :
    Calls Tryz.prog 3 args W fun e W' => ∃ v, e = .returned v ∧ Rows.frameSameSpec.post enc Tryz.prog Tryz.f3 false true false false W args v W' := by
  have hW' := hW
  obtain ⟨p, q, hA0, hV, rfl, hfz, hnd⟩ := hW
  have hA : DataW.TrodAll enc Tryz.prog W 0 (fun _ => true) true Tryz.f3.params.toList args.toList ds p := hA0
  rw [Tryz.params3] at hA hval hz
  obtain ⟨v0, v1, d0, d1, p0, p1, rfl, rfl, rfl, h0, h1⟩ := trodAll_two hA
  obtain ⟨rfl, rfl⟩ := trodVars_none hV
  simp only [List.append_nil] at hW' hz
  have z0 : (d0.weights Tryz.prog 27).all (· ≤ reachBytes) = true := List.all_eq_true.2 fun n hn => List.all_eq_true.1 hz n (DataW.weights_mem_each (j := 0) rfl rfl n hn)
  have z1 : (d1.weights Tryz.prog 27).all (· ≤ reachBytes) = true := List.all_eq_true.2 fun n hn => List.all_eq_true.1 hz n (DataW.weights_mem_each (j := 1) rfl rfl n hn)
  obtain ⟨ca, a1, a2, s, a3⟩ := agg_of (c := c0 W) Tryz.underlying27 rState (hval 0 27 v0 rfl rfl) h0 z0
  obtain ⟨cb, b1, b2, t, b3⟩ := agg_of (c := c0 W) Tryz.underlying27 rState (hval 1 27 v1 rfl rfl) h1 z1
  obtain ⟨h', hrun⟩ := FrameSame_ok a3 b3
  have walk := law_calls (us := [v0, v1]) ((arun_rec2 fit).call _ _ _ _ _ hrun).2 (globs hL) ⟨_, _, rfl, a1, _, _, rfl, b1, rfl⟩
  refine walk.mono fun e W' ⟨he, hb⟩ => ?_
  subst he
  exact ⟨_, rfl, law_post laidOut hW' hb rfl ⟨rfl, rfl, rfl⟩ rfl Tryz.underlying4 (by kernel_rfl)⟩
def zst : Value := .agg #[.slice none 0 0, .slice none 0 0, .slice none 0 0, .int .i64 0, .int .i8 0, .slice none 0 0, .int .i8 0, .int .i64 0]
theorem door_met (os : Os) (args : Array Value) : laidMetH Tryz.prog Rows.frameSameRow.laid ((World.doorLaid Tryz.prog 33 os).forCall (fun _ _ => 0) ⟨#[], args, []⟩).memory :=
  laidMetH_of_parts3 (fuel := 8) (laidMet_of_run' 8 (by kernel_rfl) (by kernel_rfl)) (by kernel_rfl) (by kernel_rfl)
theorem witness (os : Os) {H : Type} (enc : TypeId × Value → H) : ∃ (w : World) (tape : Tape) (i : Input), w.os = os ∧ (w.forCall tape i).Shaped Tryz.checked.prog ∧ i.vars = [] ∧ Input.okWide Tryz.checked.prog (w.forCall tape i) .any w.heap.size 3 i ∧
    (OpenSpec.ofChange Rows.frameSameSpec).preRow enc Tryz.checked.prog Tryz.f3 Rows.frameSameRow.domain false Rows.frameSameRow.laid (w.forCall tape i).memory i.args ∧ ({} : Assume).holds Tryz.checked.prog (lone (Frame.enter Tryz.checked.prog 3 i.args .normal) [] (w.forCall tape i)) :=
  witness_row_atRef (enc := enc) (C := Tryz.checked) false (World.doorLaid Tryz.prog 33 os) #[zst, zst] rfl (by kernel_rfl) (by kernel_rfl) (by kernel_rfl)
    (OpenSpec.preRow_of_cond (x := ([.agg [.nil, .nil, .nil, .lit (.int .i64 0), .lit (.int .i8 0), .nil, .lit (.int .i8 0), .lit (.int .i64 0)], .agg [.nil, .nil, .nil, .lit (.int .i64 0), .lit (.int .i8 0), .nil, .lit (.int .i8 0), .lit (.int .i64 0)]], [], [])) 8
      (by kernel_rfl) (by kernel_rfl) (fun k hk => by cases hk) (by kernel_rfl) (door_met os _))
theorem lifted (os : Os) (started : os.Started) (H : Type) (enc : TypeId × Value → H) (F : Stop.Interp) :
    ReturnsInHanded {} Tryz.checked os 3 .any ((OpenSpec.ofChange Rows.frameSameSpec).preRow enc Tryz.prog Tryz.f3 Rows.frameSameRow.domain false Rows.frameSameRow.laid) (((OpenSpec.ofChange Rows.frameSameSpec).at F).post enc Tryz.prog Tryz.f3 false true false false) := by
  refine returnsInHanded_of_row (C := Tryz.checked) (s := OpenSpec.ofChange Rows.frameSameSpec) own started (by kernel_rfl) Tryz.func3 (witness os enc) ?_
  intro W base args ds gs before hval hW _ _ hz hL _ _
  exact contract H enc W base args ds gs before hval hW hz hL
theorem said : Rows.FrameSameSaid :=
  OpenClaim.holds_of_cond 3 Tryz.f3 rfl rfl rfl rfl rfl rfl rfl ⟨rfl, rfl, rfl, rfl, rfl⟩ rfl rfl rfl rfl rfl (by kernel_rfl) Tryz.func3 (by kernel_rfl)
    (of_decide_eq_true (by kernel_rfl)) (by unfold Func.isWrapper; first | (rw [if_pos (by decide +kernel)]; kernel_rfl) | (rw [if_neg (by decide +kernel)]; exact ⟨rfl, rfl⟩))
    (fun os started H enc _ F => by rw [OpenClaim.pre_eq_preRow]; exact lifted os started H enc F)
theorem plain (f : FuncId) (fn : Func) (hf : Tryz.pinned.checked.prog.funcNamed "flagon/flagonlaw14.FrameSame" = some f) (hfn : Tryz.pinned.checked.prog.funcs[f]? = some fn) :
    true = Tryz.pinned.checked.prog.looks [] ∧ ∀ (j : Nat) t, fn.params[j]? = some t → Tryz.pinned.checked.prog.wantsStandIn t = false := by
  obtain rfl : f = 3 := Option.some.inj ((show Tryz.prog.funcNamed "flagon/flagonlaw14.FrameSame" = some 3 by kernel_rfl).symm.trans hf) |>.symm
  obtain rfl : fn = Tryz.f3 := (Option.some.inj (Tryz.func3.symm.trans hfn)).symm
  refine ⟨by kernel_rfl, fun j t ht => ?_⟩
  rw [Tryz.params3] at ht
  obtain rfl : t = 27 := by simpa using Array.mem_of_getElem? ht
  exact (show Tryz.prog.wantsStandIn 27 = false by kernel_rfl)
/-- The card. -/
theorem card : Rows.FrameSameCardSaid :=
  Claim7.holds_tied_plain_at .later [] _ _ _ _ said (fun _ h => by cases h) (by kernel_rfl) (fun _ h => by cases h) frameSame_row_tie rfl ⟨rfl, rfl⟩ (by kernel_rfl) rfl plain (by kernel_rfl)
#print axioms card
end Go.Proofs.YtjijnkiojpajeaaGreatDoor.FrameSame
