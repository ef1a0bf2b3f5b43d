/- The abstract interpreter: strings' iterators, deferred calls, and all operations together. -/
import Derived.Test.YtjijnkiojpajeaaGreatDoorAiOpsD
import Derived.Test.YtjijnkiojpajeaaGreatDoorAiOpsE
import Derived.Test.YtjijnkiojpajeaaGreatDoorAiOpsF
import Derived.Test.YtjijnkiojpajeaaGreatDoorAiOpsG
import Derived.Test.YtjijnkiojpajeaaGreatDoorAiOpsH
import Derived.Test.YtjijnkiojpajeaaGreatDoorAiOpsJ
import Derived.Test.YtjijnkiojpajeaaGreatDoorAiCall
set_option linter.unusedVariables false
set_option linter.unusedSimpArgs false
set_option linter.unusedSectionVars false
namespace Go.Ai
variable [Glob]
section
variable {P : Program} {rec : Rec} {X : Ctl} {p : Pl} {w : World} {m : Mm} {fl : Option Flag} {ρ : Ro} {a : Act} {o : Oper} {next : Act → World → Prop} {Q : Exit → Act → World → Prop} {r : OR}

theorem op_range (H : Hyp X p w m ρ a) {t : TypeId} {x : Operand} (ho : o.op = .range t x) (he : evalOp P rec fl ρ m o = some r) (hn : Out X p w m fl a o next Q r) : o.wp P a w next Q := by
  simp only [evalOp, ho] at he
  split at he
  · rename_i k hu
    simp only [Option.bind_eq_some_iff, Option.map_eq_some_iff] at he
    obtain ⟨v, hv, s, hs, rfl⟩ := he
    have hx := H.val hv
    have hvs : v = .sc (.string s) := by
      unfold strv at hs
      split at hs
      · cases hs; rfl
      · cases hs
    subst hvs
    simp only [VRel] at hx
    have hq := Quiet.alloc w (.stringIter s 0)
    have hle : (cx X p w m.hp).le (cx X (p.putL k w.heap.size) (w.alloc (.stringIter s 0)) m.hp) := (ext_newL hq (Nat.le_refl _)).le_same fun _ => rfl
    obtain ⟨h1, h2⟩ := H.r.newL hq (k := k) (Nat.le_refl _) (by simp) H.lt (.iter s 0) (heap_alloc_new w _)
    refine op_turns (v := .l k 0) (m' := { m with loc := aset m.loc k (.iter s 0) }) (u := .pointer (some ⟨w.heap.size, 0, none⟩)) H ?_ (ext_newL hq (Nat.le_refl _)) h2 h1 (.same fun _ h => h) (fun j hj => ?_) rfl ⟨w.heap.size, ?_, rfl⟩ hn
    · simp [execOp, ho, Instr.range, run_underlying hu, hx]
    · simp only [Pl.putL]
      rw [if_neg]
      rintro rfl
      simp [isSite, Nat.beq_refl] at hj
    · simp [Pl.putL]
  · cases he
theorem op_next (H : Hyp X p w m ρ a) {x : Operand} {s : Bool} (ho : o.op = .next x s) (he : evalOp P rec fl ρ m o = some r) (hn : Out X p w m fl a o next Q r) : o.wp P a w next Q := by
  cases s with
  | false => simp [evalOp, ho] at he
  | true =>
    simp only [evalOp, ho] at he
    have hx := H.ro x
    split at he
    · rename_i k e
      rw [e] at hx
      obtain ⟨b, hb, hxe⟩ := hx
      split at he
      · rename_i s pos hl
        have hloc := H.r.loc k b hb
        rw [hl] at hloc
        split at he
        · rename_i hpos
          cases he
          have ht : Turned w { w with heap := w.heap.setIfInBounds b (.stringIter s (pos + (Utf8.decode s pos).2)) } b := ⟨rfl, rfl, rfl, by simp, fun i hi => by simp [Array.getElem?_setIfInBounds]; intro e; exact absurd e.symm hi⟩
          have hbs := H.r.lsz k b hb
          obtain ⟨q1, q2, q3⟩ := H.r.setL hb ht (.iter s (pos + (Utf8.decode s pos).2)) (by simp [LocAt, hbs])
          refine op_turns (v := .v (.tup [mkBool true, mkInt pos, .sc (.int .i32 (Utf8.decode s pos).1)])) (m' := { m with loc := aset m.loc k (.iter s (pos + (Utf8.decode s pos).2)) }) (u := .tuple #[.bool true, goInt pos, .int .i32 (Utf8.decode s pos).1]) H ?_ q3 q2 q1 (.same fun _ h => h) (fun _ _ => rfl) rfl ?_ hn
          · have hg : w.heap[b]? = some (.stringIter s pos) := hloc
            simp [execOp, ho, Instr.next, hxe, getObj, Sem.run_bind, Sem.run, hg, hpos, setObj]
          · exact ⟨_, rfl, ⟨_, _, rfl, rfl, _, _, rfl, rfl, _, _, rfl, rfl, rfl⟩⟩
        · rename_i hpos
          cases he
          refine op_value (v := .v (.tup [mkBool false])) (u := .tuple #[.bool false]) (w' := w) H ?_ (Quiet.refl w) ⟨_, rfl, ⟨_, _, rfl, rfl, rfl⟩⟩ hn
          have hg : w.heap[b]? = some (.stringIter s pos) := hloc
          simp [execOp, ho, Instr.next, hxe, getObj, Sem.run_bind, Sem.run, hg, hpos]
      · cases he
    · cases he
theorem op_defer (H : Hyp X p w m ρ a) {c : Call} (ho : o.op = .defer c) (he : evalOp P rec fl ρ m o = some r) (hn : Out X p w m fl a o next Q r) : o.wp P a w next Q := by
  simp only [evalOp, ho, Option.bind_eq_some_iff] at he
  obtain ⟨_, _, args, hargs, he⟩ := he
  split at he
  · rename_i f hcal
    split at he
    · rename_i g first captured e
      cases he
      have hf := H.ro f
      rw [e] at hf
      obtain ⟨us, ks, hfe, hu, hk⟩ := hf
      have has := H.vals hargs
      unfold Oper.wp
      have hrun : (execOp a.eval o).run P w = .ok (.defer { target := .fn (.func g) ks.toArray, args := (us ++ c.args.toList.map a.eval).toArray }) w := by
        simp [execOp, ho, resolve, hcal, hfe, Deferred.ofValue]
      rw [hrun]
      have hq := Quiet.refl w
      have hle := (hq.ext p).le_same (X := X) (h := m.hp) fun _ => rfl
      exact hn p w _ undef (hq.ext p) hle (.same fun _ h => h) ⟨H.r.hp, H.r.hlt, H.r.loc, H.r.injh, H.r.injl, H.r.dis, H.r.hsz, H.r.lsz, H.r.muts, H.r.gl.mono hle⟩ ⟨us ++ c.args.toList.map a.eval, ks, a.defers, rfl, hu.append has, hk, H.df⟩ (fun _ _ => rfl) ⟨[], rfl, rfl⟩
    · cases he
  · cases he

/-- Each operation does what the abstract one says. -/
theorem evalOp_sound (H : Hyp X p w m ρ a) (hrec : RecOk P rec) (he : evalOp P rec fl ρ m o = some r) (hn : Out X p w m fl a o next Q r) : o.wp P a w next Q := by
  cases ho : o.op with
  | move x =>
    refine op_move (x := x) H ?_ (by simpa only [evalOp, ho] using he) hn
    simp [execOp, ho]
  | assign x =>
    refine op_move (x := x) H ?_ (by simpa only [evalOp, ho] using he) hn
    simp [execOp, ho]
  | pick c x y => exact op_pick H ho he hn
  | alloc e => exact op_alloc H ho he hn
  | box e x => exact op_box H ho he hn
  | build t ps => exact op_build H ho he hn
  | buildSlice t n ps => exact op_buildSlice H ho he hn
  | load t x => exact op_load H ho he hn
  | store t x y => exact op_store H ho he hn
  | nilCheck x => exact op_nilCheck H ho he hn
  | binOp op t x y t' => exact op_binOp H ho he hn
  | unOp op t x => exact op_unOp H ho he hn
  | convert t t' x => exact op_convert H ho he hn
  | makeInterface t x => exact op_makeInterface H ho he hn
  | makeFunc f fs cs =>
    cases f with
    | func f => exact op_makeFunc H ho he hn
    | _ => simp [evalOp, ho] at he
  | makeSlice t l c => exact op_makeSlice H ho he hn
  | slice t x lo hi mx => exact op_slice H ho he hn
  | fieldAddr t x f => exact op_fieldAddr H ho he hn
  | field t x f => exact op_field H ho he hn
  | indexAddr t x i => exact op_indexAddr H ho he hn
  | index t x i => exact op_index H ho he hn
  | range t x => exact op_range H ho he hn
  | next x s => exact op_next H ho he hn
  | typeAssert x u t ok => exact op_typeAssert H ho he hn
  | extract x i => exact op_extract H ho he hn
  | panic x => exact op_panic H ho he hn
  | call c =>
    simp only [evalOp, ho] at he
    split at he
    · rename_i b hcal
      exact op_builtin H ho hcal he hn
    · simp only [Option.bind_eq_some_iff] at he
      obtain ⟨q, hq, he⟩ := he
      exact op_call H hrec ho hq he hn
    · cases he
  | defer c => exact op_defer H ho he hn
  | _ => simp [evalOp, ho] at he
end
end Go.Ai
