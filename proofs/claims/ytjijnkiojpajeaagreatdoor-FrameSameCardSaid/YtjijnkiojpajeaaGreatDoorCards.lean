/-
  DERIVED. GIVEN WITH THE SEED: THE CARDS: each row of YtjijnkiojpajeaaGreatDoorRows.lean that lists a variable, with what it lists TIED to the program's text (the seventh form; the later family's looks); each row that meets fmt, with fmt's text TOLD by the authors' own Lean function (tested against real Go, not proved from fmt's source: count such statements apart). THE CARD IS WHAT COUNTS. Prove the row's statement (the work); the ties are given (YtjijnkiojpajeaaGreatDoorTie.lean); close each card by the builder's one call (the guide's Derived/Test/ToyasCard.lean, 'card_holds'). Laid BY PROGRAM, IN A SANDBOX (cutbox-door.mjs). By AI agents, Wed Nov 11 2026. No macro, syntax, notation, axiom, sorry.
-/
import Derived.Test.YtjijnkiojpajeaaGreatDoorRows
import GoSem.ClaimSeven
namespace Go.Proofs.YtjijnkiojpajeaaGreatDoor
namespace Rows

/-- THE TIED CARD OF 'flagonlaw14.FrameSame'. -/
def frameSameCard : Claim7 := { stood := { row := frameSameRow, standIns := [], harness := (true, "11f0dfdf481db83e6a6068e06862de48b9bed722c653ccf77877b5732d6e7502"), looks := true }, kinds := [], alts := [], laidByText := true, laidKinds := [.listed, .data], laidTests := true, laidLooks := .later }
def FrameSameCardSaid : Prop := Claim7.holds Tryz.pinned (.plain (OpenSpec.ofChange frameSameSpec)) frameSameCard

/-- THE SECOND FORM's CARD OF 'flagonlaw14.FrameSame'. -/
def frameSameUptoCard : Claim7 := { stood := { row := frameSameUptoRow, standIns := [], harness := (true, "11f0dfdf481db83e6a6068e06862de48b9bed722c653ccf77877b5732d6e7502"), looks := true }, kinds := [], alts := [], laidByText := true, laidKinds := [.listed, .data], laidTests := true, laidLooks := .later }
def FrameSameUptoCardSaid : Prop := Claim7.holds Tryz.pinned (.plain (OpenSpec.upto frameSameSpec)) frameSameUptoCard
end Rows
end Go.Proofs.YtjijnkiojpajeaaGreatDoor
