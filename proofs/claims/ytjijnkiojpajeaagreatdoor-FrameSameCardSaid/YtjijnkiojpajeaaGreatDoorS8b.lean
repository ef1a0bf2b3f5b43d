/- A part of the proof (by an AI agent): S8b. -/
import Derived.Test.YtjijnkiojpajeaaGreatDoorS8a
import Derived.Test.YtjijnkiojpajeaaGreatDoorAiSpec
import Derived.Test.YtjijnkiojpajeaaGreatDoorProg
import Derived.KernelRfl
set_option maxRecDepth 100000
set_option linter.unusedVariables false
open Go Go.Ai Go.Proofs
namespace TryzF
theorem check_no : ∃ h', arun Tryz.prog TryzA.ann (.call 16 [knownV, begunV 2 true] []) = some (.call (.ret (.tup [.sc (.int .i64 44), .sc (.int .i64 9)])) h') := runN_ret (n := 3000) (by kernel_rfl)
end TryzF
