/- A part of the proof (by an AI agent): FitF1. -/
import Derived.Test.YtjijnkiojpajeaaGreatDoorAiRec
import Derived.Test.YtjijnkiojpajeaaGreatDoorAnnF1
import Derived.Test.YtjijnkiojpajeaaGreatDoorProg
import Derived.KernelRfl
open Go Go.Ai Go.Proofs
namespace TryzF
theorem fitB : Tryz.prog.funcs.toList.all (fun fn => match fn.body with | some c => slotsOk fn.ntmps c | none => true) = true := by kernel_rfl
theorem fit : Fit Tryz.prog := ⟨by kernel_rfl, fun K fn c h hb => by
  have := List.all_eq_true.1 fitB fn (by rw [Array.getElem?_eq_some_iff] at h; obtain ⟨h1, rfl⟩ := h; simp)
  rw [hb] at this
  exact this⟩
end TryzF
