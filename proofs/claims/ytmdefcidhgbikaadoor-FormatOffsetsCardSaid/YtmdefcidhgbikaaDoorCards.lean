/-
  DERIVED. GIVEN WITH THE SEED: THE CARDS: each row of YtmdefcidhgbikaaDoorRows.lean that lists a variable, with what it lists TIED to the program's text (the seventh form; the later family's looks); each row that meets fmt, with fmt's text TOLD by the authors' own Lean function (tested against real Go, not proved from fmt's source: count such statements apart). THE CARD IS WHAT COUNTS. Prove the row's statement (the work); the ties are given (YtmdefcidhgbikaaDoorTie.lean); close each card by the builder's one call (the guide's Derived/Test/ToyasCard.lean, 'card_holds'). Laid BY PROGRAM, IN A SANDBOX (cutbox-door.mjs). By AI agents, Wed Nov 11 2026. No macro, syntax, notation, axiom, sorry.
-/
import Derived.Test.YtmdefcidhgbikaaDoorRows
import GoSem.ClaimSeven
namespace Go.Proofs.YtmdefcidhgbikaaDoor
namespace Rows

/-- THE TIED CARD OF 'provisionlaw16.FormatOffsets'. -/
def formatOffsetsCard : Claim7 := { stood := { row := formatOffsetsRow, standIns := [], harness := (true, "2d96cea41211934ca4022d9aa747ee2b70947384c6cdac6b453623ff386e5a30"), looks := false }, kinds := [], alts := [], laidByText := true, laidKinds := [.data, .data, .data, .data, .pinned], laidTests := true, laidLooks := .later }
def FormatOffsetsCardSaid : Prop := Claim7.holds Tryd.pinned (.plain (OpenSpec.ofChange formatOffsetsSpec)) formatOffsetsCard

/-- THE SECOND FORM's CARD OF 'provisionlaw16.FormatOffsets'. -/
def formatOffsetsUptoCard : Claim7 := { stood := { row := formatOffsetsUptoRow, standIns := [], harness := (true, "2d96cea41211934ca4022d9aa747ee2b70947384c6cdac6b453623ff386e5a30"), looks := false }, kinds := [], alts := [], laidByText := true, laidKinds := [.data, .data, .data, .data, .pinned], laidTests := true, laidLooks := .later }
def FormatOffsetsUptoCardSaid : Prop := Claim7.holds Tryd.pinned (.plain (OpenSpec.upto formatOffsetsSpec)) formatOffsetsUptoCard
end Rows
end Go.Proofs.YtmdefcidhgbikaaDoor
