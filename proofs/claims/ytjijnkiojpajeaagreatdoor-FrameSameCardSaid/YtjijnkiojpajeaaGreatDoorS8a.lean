/- A part of the proof (by an AI agent): S8a. -/
import Derived.Test.YtjijnkiojpajeaaGreatDoorAnnF1
import Derived.Test.YtjijnkiojpajeaaGreatDoorAiSpec
import Derived.Test.YtjijnkiojpajeaaGreatDoorProg
import Derived.KernelRfl
set_option maxRecDepth 100000
set_option linter.unusedVariables false
open Go Go.Ai Go.Proofs
namespace TryzF
def pg : List AV := repeatCells [.sc (.int .u8 0)] 4096
def knownV : AV := .agg [.snap false 2 1 [.sc (.string { data := #[] }), .sc (.string { data := #[119] })], .nils, .nils, .sc (.int .i64 1), .sc (.int .i64 2), .snap false 3 1 [.sc (.int .i64 0), .sc (.string { data := #[] }), .snap false 3 2 [.sc (.int .u8 24), .sc (.int .i64 5), .nils, .sc (.int .u8 6), .sc (.int .i64 0), .nils]], .nils, .nils]
def begunV (pc : Int) (b : Bool) : AV := .agg [.snap b 4 1 [.sc (.int .i64 0), .sc (.int .i64 pc), .nils, .nils], .nils, .snap b 1 1 [.snap b 1 4096 pg], .sc (.int .i64 0), .sc (.int .i8 1), .nils, .sc (.int .i8 0), .sc (.int .i64 0)]
theorem check_ok : ∃ h', arun Tryz.prog TryzA.ann (.call 16 [knownV, begunV 0 true] []) = some (.call (.ret (.tup [.sc (.int .i64 0), .sc (.int .i64 0)])) h') := runN_ret (n := 3000) (by kernel_rfl)
end TryzF
