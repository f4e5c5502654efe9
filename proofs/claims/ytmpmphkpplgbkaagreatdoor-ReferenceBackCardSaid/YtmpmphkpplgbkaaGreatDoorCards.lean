/-
  DERIVED. GIVEN WITH THE SEED: THE CARDS: each row of YtmpmphkpplgbkaaGreatDoorRows.lean that lists a variable, with what it lists TIED to the program's text (the seventh form; the later family's looks); each row that meets fmt, with fmt's text TOLD by the authors' own Lean function (tested against real Go, not proved from fmt's source: count such statements apart). THE CARD IS WHAT COUNTS. Prove the row's statement (the work); the ties are given (YtmpmphkpplgbkaaGreatDoorTie.lean); close each card by the builder's one call (the guide's Derived/Test/ToyasCard.lean, 'card_holds'). Laid BY PROGRAM, IN A SANDBOX (cutbox-door.mjs). By AI agents, Wed Nov 11 2026. No macro, syntax, notation, axiom, sorry.
-/
import Derived.Test.YtmpmphkpplgbkaaGreatDoorRows
import GoSem.ClaimSeven
namespace Go.Proofs.YtmpmphkpplgbkaaGreatDoor
namespace Rows

/-- THE TIED CARD OF 'provisionlaw17.ReferenceBack'. -/
def referenceBackCard : Claim7 := { stood := { row := referenceBackRow, standIns := [], harness := (true, "94d9c5975f4d722f2241f644e204ed97af1cb48c916cda4a6b0e9aedd05ba9b2"), looks := true }, kinds := [], alts := [], laidByText := true, laidKinds := [.data, .data, .data, .data, .sentinel, .sentinel, .pinned], laidTests := true, laidLooks := .later }
def ReferenceBackCardSaid : Prop := Claim7.holds Tryz.pinned (.plain (OpenSpec.ofChange referenceBackSpec)) referenceBackCard

/-- THE SECOND FORM's CARD OF 'provisionlaw17.ReferenceBack'. -/
def referenceBackUptoCard : Claim7 := { stood := { row := referenceBackUptoRow, standIns := [], harness := (true, "94d9c5975f4d722f2241f644e204ed97af1cb48c916cda4a6b0e9aedd05ba9b2"), looks := true }, kinds := [], alts := [], laidByText := true, laidKinds := [.data, .data, .data, .data, .sentinel, .sentinel, .pinned], laidTests := true, laidLooks := .later }
def ReferenceBackUptoCardSaid : Prop := Claim7.holds Tryz.pinned (.plain (OpenSpec.upto referenceBackSpec)) referenceBackUptoCard
end Rows
end Go.Proofs.YtmpmphkpplgbkaaGreatDoor
