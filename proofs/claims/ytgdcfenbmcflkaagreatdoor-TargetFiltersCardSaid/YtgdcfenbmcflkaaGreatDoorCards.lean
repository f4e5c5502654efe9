/-
  DERIVED. GIVEN WITH THE SEED: THE CARDS: each row of YtgdcfenbmcflkaaGreatDoorRows.lean that lists a variable, with what it lists TIED to the program's text (the seventh form; the later family's looks); each row that meets fmt, with fmt's text TOLD by the authors' own Lean function (tested against real Go, not proved from fmt's source: count such statements apart). THE CARD IS WHAT COUNTS. Prove the row's statement (the work); the ties are given (YtgdcfenbmcflkaaGreatDoorTie.lean); close each card by the builder's one call (the guide's Derived/Test/ToyasCard.lean, 'card_holds'). Laid BY PROGRAM, IN A SANDBOX (cutbox-door.mjs). By AI agents, Wed Nov 11 2026. No macro, syntax, notation, axiom, sorry.
-/
import Derived.Test.YtgdcfenbmcflkaaGreatDoorRows
import GoSem.ClaimSeven
namespace Go.Proofs.YtgdcfenbmcflkaaGreatDoor
namespace Rows

/-- THE TIED CARD OF 'provisionlaw42.TargetChecks'. -/
def targetChecksCard : Claim7 := { stood := { row := targetChecksRow, standIns := [], harness := (true, "99357bf8168b9c4a2e05de2c91d4d06e49f42f28cc09622ed32a8cb77ca1e573"), looks := true }, kinds := [], alts := [], laidByText := true, laidKinds := [.data, .data, .data, .data, .sentinel, .sentinel, .pinned], laidTests := true, laidLooks := .later }
def TargetChecksCardSaid : Prop := Claim7.holds Tryz.pinned (.plain (OpenSpec.ofChange targetChecksSpec)) targetChecksCard

/-- THE TIED CARD OF 'provisionlaw42.TargetSelects'. -/
def targetSelectsCard : Claim7 := { stood := { row := targetSelectsRow, standIns := [], harness := (true, "99357bf8168b9c4a2e05de2c91d4d06e49f42f28cc09622ed32a8cb77ca1e573"), looks := true }, kinds := [], alts := [], laidByText := true, laidKinds := [.data, .data, .data, .data, .sentinel, .sentinel, .pinned], laidTests := true, laidLooks := .later }
def TargetSelectsCardSaid : Prop := Claim7.holds Tryz.pinned (.plain (OpenSpec.ofChange targetSelectsSpec)) targetSelectsCard

/-- THE TIED CARD OF 'provisionlaw42.TargetCloses'. -/
def targetClosesCard : Claim7 := { stood := { row := targetClosesRow, standIns := [], harness := (true, "99357bf8168b9c4a2e05de2c91d4d06e49f42f28cc09622ed32a8cb77ca1e573"), looks := true }, kinds := [], alts := [], laidByText := true, laidKinds := [.data, .data, .data, .data, .sentinel, .sentinel, .pinned], laidTests := true, laidLooks := .later }
def TargetClosesCardSaid : Prop := Claim7.holds Tryz.pinned (.plain (OpenSpec.ofChange targetClosesSpec)) targetClosesCard

/-- THE TIED CARD OF 'provisionlaw42.TargetFilters'. -/
def targetFiltersCard : Claim7 := { stood := { row := targetFiltersRow, standIns := [], harness := (true, "99357bf8168b9c4a2e05de2c91d4d06e49f42f28cc09622ed32a8cb77ca1e573"), looks := true }, kinds := [], alts := [], laidByText := true, laidKinds := [.data, .data, .data, .data, .sentinel, .sentinel, .pinned], laidTests := true, laidLooks := .later }
def TargetFiltersCardSaid : Prop := Claim7.holds Tryz.pinned (.plain (OpenSpec.ofChange targetFiltersSpec)) targetFiltersCard

/-- THE TIED CARD OF 'provisionlaw42.TargetClosed'. -/
def targetClosedCard : Claim7 := { stood := { row := targetClosedRow, standIns := [], harness := (true, "99357bf8168b9c4a2e05de2c91d4d06e49f42f28cc09622ed32a8cb77ca1e573"), looks := true }, kinds := [], alts := [], laidByText := true, laidKinds := [.data, .data, .data, .data, .sentinel, .sentinel, .pinned], laidTests := true, laidLooks := .later }
def TargetClosedCardSaid : Prop := Claim7.holds Tryz.pinned (.plain (OpenSpec.ofChange targetClosedSpec)) targetClosedCard

/-- THE TIED CARD OF 'provisionlaw42.TargetMore'. -/
def targetMoreCard : Claim7 := { stood := { row := targetMoreRow, standIns := [], harness := (true, "99357bf8168b9c4a2e05de2c91d4d06e49f42f28cc09622ed32a8cb77ca1e573"), looks := true }, kinds := [], alts := [], laidByText := true, laidKinds := [.data, .data, .data, .data, .sentinel, .sentinel, .pinned], laidTests := true, laidLooks := .later }
def TargetMoreCardSaid : Prop := Claim7.holds Tryz.pinned (.plain (OpenSpec.ofChange targetMoreSpec)) targetMoreCard

/-- THE TIED CARD OF 'provisionlaw42.TargetWhole'. -/
def targetWholeCard : Claim7 := { stood := { row := targetWholeRow, standIns := [], harness := (true, "99357bf8168b9c4a2e05de2c91d4d06e49f42f28cc09622ed32a8cb77ca1e573"), looks := true }, kinds := [], alts := [], laidByText := true, laidKinds := [.data, .data, .data, .data, .sentinel, .sentinel, .pinned], laidTests := true, laidLooks := .later }
def TargetWholeCardSaid : Prop := Claim7.holds Tryz.pinned (.plain (OpenSpec.ofChange targetWholeSpec)) targetWholeCard

/-- THE SECOND FORM's CARD OF 'provisionlaw42.TargetChecks'. -/
def targetChecksUptoCard : Claim7 := { stood := { row := targetChecksUptoRow, standIns := [], harness := (true, "99357bf8168b9c4a2e05de2c91d4d06e49f42f28cc09622ed32a8cb77ca1e573"), looks := true }, kinds := [], alts := [], laidByText := true, laidKinds := [.data, .data, .data, .data, .sentinel, .sentinel, .pinned], laidTests := true, laidLooks := .later }
def TargetChecksUptoCardSaid : Prop := Claim7.holds Tryz.pinned (.plain (OpenSpec.upto targetChecksSpec)) targetChecksUptoCard

/-- THE SECOND FORM's CARD OF 'provisionlaw42.TargetSelects'. -/
def targetSelectsUptoCard : Claim7 := { stood := { row := targetSelectsUptoRow, standIns := [], harness := (true, "99357bf8168b9c4a2e05de2c91d4d06e49f42f28cc09622ed32a8cb77ca1e573"), looks := true }, kinds := [], alts := [], laidByText := true, laidKinds := [.data, .data, .data, .data, .sentinel, .sentinel, .pinned], laidTests := true, laidLooks := .later }
def TargetSelectsUptoCardSaid : Prop := Claim7.holds Tryz.pinned (.plain (OpenSpec.upto targetSelectsSpec)) targetSelectsUptoCard

/-- THE SECOND FORM's CARD OF 'provisionlaw42.TargetCloses'. -/
def targetClosesUptoCard : Claim7 := { stood := { row := targetClosesUptoRow, standIns := [], harness := (true, "99357bf8168b9c4a2e05de2c91d4d06e49f42f28cc09622ed32a8cb77ca1e573"), looks := true }, kinds := [], alts := [], laidByText := true, laidKinds := [.data, .data, .data, .data, .sentinel, .sentinel, .pinned], laidTests := true, laidLooks := .later }
def TargetClosesUptoCardSaid : Prop := Claim7.holds Tryz.pinned (.plain (OpenSpec.upto targetClosesSpec)) targetClosesUptoCard

/-- THE SECOND FORM's CARD OF 'provisionlaw42.TargetFilters'. -/
def targetFiltersUptoCard : Claim7 := { stood := { row := targetFiltersUptoRow, standIns := [], harness := (true, "99357bf8168b9c4a2e05de2c91d4d06e49f42f28cc09622ed32a8cb77ca1e573"), looks := true }, kinds := [], alts := [], laidByText := true, laidKinds := [.data, .data, .data, .data, .sentinel, .sentinel, .pinned], laidTests := true, laidLooks := .later }
def TargetFiltersUptoCardSaid : Prop := Claim7.holds Tryz.pinned (.plain (OpenSpec.upto targetFiltersSpec)) targetFiltersUptoCard

/-- THE SECOND FORM's CARD OF 'provisionlaw42.TargetClosed'. -/
def targetClosedUptoCard : Claim7 := { stood := { row := targetClosedUptoRow, standIns := [], harness := (true, "99357bf8168b9c4a2e05de2c91d4d06e49f42f28cc09622ed32a8cb77ca1e573"), looks := true }, kinds := [], alts := [], laidByText := true, laidKinds := [.data, .data, .data, .data, .sentinel, .sentinel, .pinned], laidTests := true, laidLooks := .later }
def TargetClosedUptoCardSaid : Prop := Claim7.holds Tryz.pinned (.plain (OpenSpec.upto targetClosedSpec)) targetClosedUptoCard

/-- THE SECOND FORM's CARD OF 'provisionlaw42.TargetMore'. -/
def targetMoreUptoCard : Claim7 := { stood := { row := targetMoreUptoRow, standIns := [], harness := (true, "99357bf8168b9c4a2e05de2c91d4d06e49f42f28cc09622ed32a8cb77ca1e573"), looks := true }, kinds := [], alts := [], laidByText := true, laidKinds := [.data, .data, .data, .data, .sentinel, .sentinel, .pinned], laidTests := true, laidLooks := .later }
def TargetMoreUptoCardSaid : Prop := Claim7.holds Tryz.pinned (.plain (OpenSpec.upto targetMoreSpec)) targetMoreUptoCard

/-- THE SECOND FORM's CARD OF 'provisionlaw42.TargetWhole'. -/
def targetWholeUptoCard : Claim7 := { stood := { row := targetWholeUptoRow, standIns := [], harness := (true, "99357bf8168b9c4a2e05de2c91d4d06e49f42f28cc09622ed32a8cb77ca1e573"), looks := true }, kinds := [], alts := [], laidByText := true, laidKinds := [.data, .data, .data, .data, .sentinel, .sentinel, .pinned], laidTests := true, laidLooks := .later }
def TargetWholeUptoCardSaid : Prop := Claim7.holds Tryz.pinned (.plain (OpenSpec.upto targetWholeSpec)) targetWholeUptoCard
end Rows
end Go.Proofs.YtgdcfenbmcflkaaGreatDoor
