/-
  DERIVED. GIVEN WITH THE SEED: THE CARDS: each row of YtmdefcidhgbikaaGreatDoorRows.lean that lists a variable, with what it lists TIED to the program's text (the seventh form; the later family's looks); each row that meets fmt, with fmt's text TOLD by the authors' own Lean function (tested against real Go, not proved from fmt's source: count such statements apart). THE CARD IS WHAT COUNTS. Prove the row's statement (the work); the ties are given (YtmdefcidhgbikaaGreatDoorTie.lean); close each card by the builder's one call (the guide's Derived/Test/ToyasCard.lean, 'card_holds'). Laid BY PROGRAM, IN A SANDBOX (cutbox-door.mjs). By AI agents, Wed Nov 11 2026. No macro, syntax, notation, axiom, sorry.
-/
import Derived.Test.YtmdefcidhgbikaaGreatDoorRows
import GoSem.ClaimSeven
namespace Go.Proofs.YtmdefcidhgbikaaGreatDoor
namespace Rows

/-- THE TIED CARD OF 'provisionlaw16.FormatTexts'. -/
def formatTextsCard : Claim7 := { stood := { row := formatTextsRow, standIns := [], harness := (true, "d91fedf7963d3043b6470b61f0fd070283bd66f9025905e16b6b6d1106cb905d"), looks := true }, kinds := [], alts := [], laidByText := true, laidKinds := [.data, .data, .data, .data, .pinned], laidTests := true, laidLooks := .later }
def FormatTextsCardSaid : Prop := Claim7.holds Tryz.pinned (.plain (OpenSpec.ofChange formatTextsSpec)) formatTextsCard

/-- THE TIED CARD OF 'provisionlaw16.FormatEqual'. -/
def formatEqualCard : Claim7 := { stood := { row := formatEqualRow, standIns := [], harness := (true, "d91fedf7963d3043b6470b61f0fd070283bd66f9025905e16b6b6d1106cb905d"), looks := true }, kinds := [], alts := [], laidByText := true, laidKinds := [.data, .data, .data, .data, .pinned], laidTests := true, laidLooks := .later }
def FormatEqualCardSaid : Prop := Claim7.holds Tryz.pinned (.plain (OpenSpec.ofChange formatEqualSpec)) formatEqualCard

/-- THE TIED CARD OF 'provisionlaw16.FormatLines'. -/
def formatLinesCard : Claim7 := { stood := { row := formatLinesRow, standIns := [], harness := (true, "d91fedf7963d3043b6470b61f0fd070283bd66f9025905e16b6b6d1106cb905d"), looks := true }, kinds := [], alts := [], laidByText := true, laidKinds := [.data, .data, .data, .data, .pinned], laidTests := true, laidLooks := .later }
def FormatLinesCardSaid : Prop := Claim7.holds Tryz.pinned (.plain (OpenSpec.ofChange formatLinesSpec)) formatLinesCard

/-- THE TIED CARD OF 'provisionlaw16.FormatBack'. -/
def formatBackCard : Claim7 := { stood := { row := formatBackRow, standIns := [], harness := (true, "d91fedf7963d3043b6470b61f0fd070283bd66f9025905e16b6b6d1106cb905d"), looks := true }, kinds := [], alts := [], laidByText := true, laidKinds := [.data, .data, .data, .data, .sentinel, .sentinel, .pinned], laidTests := true, laidLooks := .later }
def FormatBackCardSaid : Prop := Claim7.holds Tryz.pinned (.plain (OpenSpec.ofChange formatBackSpec)) formatBackCard

/-- THE SECOND FORM's CARD OF 'provisionlaw16.FormatTexts'. -/
def formatTextsUptoCard : Claim7 := { stood := { row := formatTextsUptoRow, standIns := [], harness := (true, "d91fedf7963d3043b6470b61f0fd070283bd66f9025905e16b6b6d1106cb905d"), looks := true }, kinds := [], alts := [], laidByText := true, laidKinds := [.data, .data, .data, .data, .pinned], laidTests := true, laidLooks := .later }
def FormatTextsUptoCardSaid : Prop := Claim7.holds Tryz.pinned (.plain (OpenSpec.upto formatTextsSpec)) formatTextsUptoCard

/-- THE SECOND FORM's CARD OF 'provisionlaw16.FormatEqual'. -/
def formatEqualUptoCard : Claim7 := { stood := { row := formatEqualUptoRow, standIns := [], harness := (true, "d91fedf7963d3043b6470b61f0fd070283bd66f9025905e16b6b6d1106cb905d"), looks := true }, kinds := [], alts := [], laidByText := true, laidKinds := [.data, .data, .data, .data, .pinned], laidTests := true, laidLooks := .later }
def FormatEqualUptoCardSaid : Prop := Claim7.holds Tryz.pinned (.plain (OpenSpec.upto formatEqualSpec)) formatEqualUptoCard

/-- THE SECOND FORM's CARD OF 'provisionlaw16.FormatLines'. -/
def formatLinesUptoCard : Claim7 := { stood := { row := formatLinesUptoRow, standIns := [], harness := (true, "d91fedf7963d3043b6470b61f0fd070283bd66f9025905e16b6b6d1106cb905d"), looks := true }, kinds := [], alts := [], laidByText := true, laidKinds := [.data, .data, .data, .data, .pinned], laidTests := true, laidLooks := .later }
def FormatLinesUptoCardSaid : Prop := Claim7.holds Tryz.pinned (.plain (OpenSpec.upto formatLinesSpec)) formatLinesUptoCard

/-- THE SECOND FORM's CARD OF 'provisionlaw16.FormatBack'. -/
def formatBackUptoCard : Claim7 := { stood := { row := formatBackUptoRow, standIns := [], harness := (true, "d91fedf7963d3043b6470b61f0fd070283bd66f9025905e16b6b6d1106cb905d"), looks := true }, kinds := [], alts := [], laidByText := true, laidKinds := [.data, .data, .data, .data, .sentinel, .sentinel, .pinned], laidTests := true, laidLooks := .later }
def FormatBackUptoCardSaid : Prop := Claim7.holds Tryz.pinned (.plain (OpenSpec.upto formatBackSpec)) formatBackUptoCard
end Rows
end Go.Proofs.YtmdefcidhgbikaaGreatDoor
