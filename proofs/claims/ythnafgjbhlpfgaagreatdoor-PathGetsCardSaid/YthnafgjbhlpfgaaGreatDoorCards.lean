/-
  DERIVED. GIVEN WITH THE SEED: THE CARDS: each row of YthnafgjbhlpfgaaGreatDoorRows.lean that lists a variable, with what it lists TIED to the program's text (the seventh form; the later family's looks); each row that meets fmt, with fmt's text TOLD by the authors' own Lean function (tested against real Go, not proved from fmt's source: count such statements apart). THE CARD IS WHAT COUNTS. Prove the row's statement (the work); the ties are given (YthnafgjbhlpfgaaGreatDoorTie.lean); close each card by the builder's one call (the guide's Derived/Test/ToyasCard.lean, 'card_holds'). Laid BY PROGRAM, IN A SANDBOX (cutbox-door.mjs). By AI agents, Wed Nov 11 2026. No macro, syntax, notation, axiom, sorry.
-/
import Derived.Test.YthnafgjbhlpfgaaGreatDoorRows
import GoSem.ClaimSeven
namespace Go.Proofs.YthnafgjbhlpfgaaGreatDoor
namespace Rows

/-- THE TIED CARD OF 'provisionlaw08.PathParses'. -/
def pathParsesCard : Claim7 := { stood := { row := pathParsesRow, standIns := [], harness := (true, "451ffc8997fdc299aee5e7cdba89e5e7b8502d05d2461ab5180c9367e8140895"), looks := true }, kinds := [], alts := [], laidByText := true, laidKinds := [.data, .data, .data, .data, .sentinel, .sentinel, .pinned], laidTests := true, laidLooks := .later }
def PathParsesCardSaid : Prop := Claim7.holds Tryz.pinned (.plain (OpenSpec.ofChange pathParsesSpec)) pathParsesCard

/-- THE TIED CARD OF 'provisionlaw08.PathGets'. -/
def pathGetsCard : Claim7 := { stood := { row := pathGetsRow, standIns := [], harness := (true, "451ffc8997fdc299aee5e7cdba89e5e7b8502d05d2461ab5180c9367e8140895"), looks := true }, kinds := [], alts := [], laidByText := true, laidKinds := [.data, .data, .data, .data, .sentinel, .sentinel, .pinned], laidTests := true, laidLooks := .later }
def PathGetsCardSaid : Prop := Claim7.holds Tryz.pinned (.plain (OpenSpec.ofChange pathGetsSpec)) pathGetsCard

/-- THE TIED CARD OF 'provisionlaw08.PathChecks'. -/
def pathChecksCard : Claim7 := { stood := { row := pathChecksRow, standIns := [], harness := (true, "451ffc8997fdc299aee5e7cdba89e5e7b8502d05d2461ab5180c9367e8140895"), looks := true }, kinds := [], alts := [], laidByText := true, laidKinds := [.data, .data, .data, .data, .sentinel, .sentinel, .pinned], laidTests := true, laidLooks := .later }
def PathChecksCardSaid : Prop := Claim7.holds Tryz.pinned (.plain (OpenSpec.ofChange pathChecksSpec)) pathChecksCard

/-- THE TIED CARD OF 'provisionlaw08.PathBack'. -/
def pathBackCard : Claim7 := { stood := { row := pathBackRow, standIns := [], harness := (true, "451ffc8997fdc299aee5e7cdba89e5e7b8502d05d2461ab5180c9367e8140895"), looks := true }, kinds := [], alts := [], laidByText := true, laidKinds := [.data, .data, .data, .data, .sentinel, .sentinel, .pinned], laidTests := true, laidLooks := .later }
def PathBackCardSaid : Prop := Claim7.holds Tryz.pinned (.plain (OpenSpec.ofChange pathBackSpec)) pathBackCard

/-- THE TIED CARD OF 'provisionlaw08.PathLeaves'. -/
def pathLeavesCard : Claim7 := { stood := { row := pathLeavesRow, standIns := [], harness := (true, "451ffc8997fdc299aee5e7cdba89e5e7b8502d05d2461ab5180c9367e8140895"), looks := true }, kinds := [], alts := [], laidByText := true, laidKinds := [.data, .data, .data, .data, .sentinel, .sentinel, .pinned], laidTests := true, laidLooks := .later }
def PathLeavesCardSaid : Prop := Claim7.holds Tryz.pinned (.plain (OpenSpec.ofChange pathLeavesSpec)) pathLeavesCard

/-- THE TIED CARD OF 'provisionlaw08.PathSetGet'. -/
def pathSetGetCard : Claim7 := { stood := { row := pathSetGetRow, standIns := [], harness := (true, "451ffc8997fdc299aee5e7cdba89e5e7b8502d05d2461ab5180c9367e8140895"), looks := true }, kinds := [], alts := [], laidByText := true, laidKinds := [.data, .data, .data, .data, .sentinel, .sentinel, .pinned], laidTests := true, laidLooks := .later }
def PathSetGetCardSaid : Prop := Claim7.holds Tryz.pinned (.plain (OpenSpec.ofChange pathSetGetSpec)) pathSetGetCard

/-- THE TIED CARD OF 'provisionlaw08.PathPatches'. -/
def pathPatchesCard : Claim7 := { stood := { row := pathPatchesRow, standIns := [], harness := (true, "451ffc8997fdc299aee5e7cdba89e5e7b8502d05d2461ab5180c9367e8140895"), looks := true }, kinds := [], alts := [], laidByText := true, laidKinds := [.data, .data, .data, .data, .sentinel, .sentinel, .pinned], laidTests := true, laidLooks := .later }
def PathPatchesCardSaid : Prop := Claim7.holds Tryz.pinned (.plain (OpenSpec.ofChange pathPatchesSpec)) pathPatchesCard

/-- THE TIED CARD OF 'provisionlaw08.PathDiffs'. -/
def pathDiffsCard : Claim7 := { stood := { row := pathDiffsRow, standIns := [], harness := (true, "451ffc8997fdc299aee5e7cdba89e5e7b8502d05d2461ab5180c9367e8140895"), looks := true }, kinds := [], alts := [], laidByText := true, laidKinds := [.data, .data, .data, .data, .sentinel, .sentinel, .pinned], laidTests := true, laidLooks := .later }
def PathDiffsCardSaid : Prop := Claim7.holds Tryz.pinned (.plain (OpenSpec.ofChange pathDiffsSpec)) pathDiffsCard

/-- THE SECOND FORM's CARD OF 'provisionlaw08.PathParses'. -/
def pathParsesUptoCard : Claim7 := { stood := { row := pathParsesUptoRow, standIns := [], harness := (true, "451ffc8997fdc299aee5e7cdba89e5e7b8502d05d2461ab5180c9367e8140895"), looks := true }, kinds := [], alts := [], laidByText := true, laidKinds := [.data, .data, .data, .data, .sentinel, .sentinel, .pinned], laidTests := true, laidLooks := .later }
def PathParsesUptoCardSaid : Prop := Claim7.holds Tryz.pinned (.plain (OpenSpec.upto pathParsesSpec)) pathParsesUptoCard

/-- THE SECOND FORM's CARD OF 'provisionlaw08.PathGets'. -/
def pathGetsUptoCard : Claim7 := { stood := { row := pathGetsUptoRow, standIns := [], harness := (true, "451ffc8997fdc299aee5e7cdba89e5e7b8502d05d2461ab5180c9367e8140895"), looks := true }, kinds := [], alts := [], laidByText := true, laidKinds := [.data, .data, .data, .data, .sentinel, .sentinel, .pinned], laidTests := true, laidLooks := .later }
def PathGetsUptoCardSaid : Prop := Claim7.holds Tryz.pinned (.plain (OpenSpec.upto pathGetsSpec)) pathGetsUptoCard

/-- THE SECOND FORM's CARD OF 'provisionlaw08.PathChecks'. -/
def pathChecksUptoCard : Claim7 := { stood := { row := pathChecksUptoRow, standIns := [], harness := (true, "451ffc8997fdc299aee5e7cdba89e5e7b8502d05d2461ab5180c9367e8140895"), looks := true }, kinds := [], alts := [], laidByText := true, laidKinds := [.data, .data, .data, .data, .sentinel, .sentinel, .pinned], laidTests := true, laidLooks := .later }
def PathChecksUptoCardSaid : Prop := Claim7.holds Tryz.pinned (.plain (OpenSpec.upto pathChecksSpec)) pathChecksUptoCard

/-- THE SECOND FORM's CARD OF 'provisionlaw08.PathBack'. -/
def pathBackUptoCard : Claim7 := { stood := { row := pathBackUptoRow, standIns := [], harness := (true, "451ffc8997fdc299aee5e7cdba89e5e7b8502d05d2461ab5180c9367e8140895"), looks := true }, kinds := [], alts := [], laidByText := true, laidKinds := [.data, .data, .data, .data, .sentinel, .sentinel, .pinned], laidTests := true, laidLooks := .later }
def PathBackUptoCardSaid : Prop := Claim7.holds Tryz.pinned (.plain (OpenSpec.upto pathBackSpec)) pathBackUptoCard

/-- THE SECOND FORM's CARD OF 'provisionlaw08.PathLeaves'. -/
def pathLeavesUptoCard : Claim7 := { stood := { row := pathLeavesUptoRow, standIns := [], harness := (true, "451ffc8997fdc299aee5e7cdba89e5e7b8502d05d2461ab5180c9367e8140895"), looks := true }, kinds := [], alts := [], laidByText := true, laidKinds := [.data, .data, .data, .data, .sentinel, .sentinel, .pinned], laidTests := true, laidLooks := .later }
def PathLeavesUptoCardSaid : Prop := Claim7.holds Tryz.pinned (.plain (OpenSpec.upto pathLeavesSpec)) pathLeavesUptoCard

/-- THE SECOND FORM's CARD OF 'provisionlaw08.PathSetGet'. -/
def pathSetGetUptoCard : Claim7 := { stood := { row := pathSetGetUptoRow, standIns := [], harness := (true, "451ffc8997fdc299aee5e7cdba89e5e7b8502d05d2461ab5180c9367e8140895"), looks := true }, kinds := [], alts := [], laidByText := true, laidKinds := [.data, .data, .data, .data, .sentinel, .sentinel, .pinned], laidTests := true, laidLooks := .later }
def PathSetGetUptoCardSaid : Prop := Claim7.holds Tryz.pinned (.plain (OpenSpec.upto pathSetGetSpec)) pathSetGetUptoCard

/-- THE SECOND FORM's CARD OF 'provisionlaw08.PathPatches'. -/
def pathPatchesUptoCard : Claim7 := { stood := { row := pathPatchesUptoRow, standIns := [], harness := (true, "451ffc8997fdc299aee5e7cdba89e5e7b8502d05d2461ab5180c9367e8140895"), looks := true }, kinds := [], alts := [], laidByText := true, laidKinds := [.data, .data, .data, .data, .sentinel, .sentinel, .pinned], laidTests := true, laidLooks := .later }
def PathPatchesUptoCardSaid : Prop := Claim7.holds Tryz.pinned (.plain (OpenSpec.upto pathPatchesSpec)) pathPatchesUptoCard

/-- THE SECOND FORM's CARD OF 'provisionlaw08.PathDiffs'. -/
def pathDiffsUptoCard : Claim7 := { stood := { row := pathDiffsUptoRow, standIns := [], harness := (true, "451ffc8997fdc299aee5e7cdba89e5e7b8502d05d2461ab5180c9367e8140895"), looks := true }, kinds := [], alts := [], laidByText := true, laidKinds := [.data, .data, .data, .data, .sentinel, .sentinel, .pinned], laidTests := true, laidLooks := .later }
def PathDiffsUptoCardSaid : Prop := Claim7.holds Tryz.pinned (.plain (OpenSpec.upto pathDiffsSpec)) pathDiffsUptoCard
end Rows
end Go.Proofs.YthnafgjbhlpfgaaGreatDoor
