/-
  DERIVED. GIVEN WITH THE SEED: THE CARDS: each row of YtijgdpmadidpaaaGreatDoorRows.lean that lists a variable, with what it lists TIED to the program's text (the seventh form; the later family's looks); each row that meets fmt, with fmt's text TOLD by the authors' own Lean function (tested against real Go, not proved from fmt's source: count such statements apart). THE CARD IS WHAT COUNTS. Prove the row's statement (the work); the ties are given (YtijgdpmadidpaaaGreatDoorTie.lean); close each card by the builder's one call (the guide's Derived/Test/ToyasCard.lean, 'card_holds'). Laid BY PROGRAM, IN A SANDBOX (cutbox-door.mjs). By AI agents, Wed Nov 11 2026. No macro, syntax, notation, axiom, sorry.
-/
import Derived.Test.YtijgdpmadidpaaaGreatDoorRows
import GoSem.ClaimSeven
namespace Go.Proofs.YtijgdpmadidpaaaGreatDoor
namespace Rows

/-- THE TIED CARD OF 'provisionlaw06.AddressChecks'. -/
def addressChecksCard : Claim7 := { stood := { row := addressChecksRow, standIns := [], harness := (true, "fe8bcb59c08a4a5a2904bc82327906f301a84a93ebf7a19114201362582cb761"), looks := true }, kinds := [], alts := [], laidByText := true, laidKinds := [.data, .data, .data, .data, .sentinel, .sentinel, .pinned], laidTests := true, laidLooks := .later }
def AddressChecksCardSaid : Prop := Claim7.holds Tryz.pinned (.plain (OpenSpec.ofChange addressChecksSpec)) addressChecksCard

/-- THE TIED CARD OF 'provisionlaw06.AddressParses'. -/
def addressParsesCard : Claim7 := { stood := { row := addressParsesRow, standIns := [], harness := (true, "fe8bcb59c08a4a5a2904bc82327906f301a84a93ebf7a19114201362582cb761"), looks := true }, kinds := [], alts := [], laidByText := true, laidKinds := [.data, .data, .data, .data, .sentinel, .sentinel, .pinned], laidTests := true, laidLooks := .later }
def AddressParsesCardSaid : Prop := Claim7.holds Tryz.pinned (.plain (OpenSpec.ofChange addressParsesSpec)) addressParsesCard

/-- THE TIED CARD OF 'provisionlaw06.AddressWithin'. -/
def addressWithinCard : Claim7 := { stood := { row := addressWithinRow, standIns := [], harness := (true, "fe8bcb59c08a4a5a2904bc82327906f301a84a93ebf7a19114201362582cb761"), looks := true }, kinds := [], alts := [], laidByText := true, laidKinds := [.data, .data, .data, .data, .sentinel, .sentinel, .pinned], laidTests := true, laidLooks := .later }
def AddressWithinCardSaid : Prop := Claim7.holds Tryz.pinned (.plain (OpenSpec.ofChange addressWithinSpec)) addressWithinCard

/-- THE TIED CARD OF 'provisionlaw06.AddressOrders'. -/
def addressOrdersCard : Claim7 := { stood := { row := addressOrdersRow, standIns := [], harness := (true, "fe8bcb59c08a4a5a2904bc82327906f301a84a93ebf7a19114201362582cb761"), looks := true }, kinds := [], alts := [], laidByText := true, laidKinds := [.data, .data, .data, .data, .sentinel, .sentinel, .pinned], laidTests := true, laidLooks := .later }
def AddressOrdersCardSaid : Prop := Claim7.holds Tryz.pinned (.plain (OpenSpec.ofChange addressOrdersSpec)) addressOrdersCard

/-- THE SECOND FORM's CARD OF 'provisionlaw06.AddressChecks'. -/
def addressChecksUptoCard : Claim7 := { stood := { row := addressChecksUptoRow, standIns := [], harness := (true, "fe8bcb59c08a4a5a2904bc82327906f301a84a93ebf7a19114201362582cb761"), looks := true }, kinds := [], alts := [], laidByText := true, laidKinds := [.data, .data, .data, .data, .sentinel, .sentinel, .pinned], laidTests := true, laidLooks := .later }
def AddressChecksUptoCardSaid : Prop := Claim7.holds Tryz.pinned (.plain (OpenSpec.upto addressChecksSpec)) addressChecksUptoCard

/-- THE SECOND FORM's CARD OF 'provisionlaw06.AddressParses'. -/
def addressParsesUptoCard : Claim7 := { stood := { row := addressParsesUptoRow, standIns := [], harness := (true, "fe8bcb59c08a4a5a2904bc82327906f301a84a93ebf7a19114201362582cb761"), looks := true }, kinds := [], alts := [], laidByText := true, laidKinds := [.data, .data, .data, .data, .sentinel, .sentinel, .pinned], laidTests := true, laidLooks := .later }
def AddressParsesUptoCardSaid : Prop := Claim7.holds Tryz.pinned (.plain (OpenSpec.upto addressParsesSpec)) addressParsesUptoCard

/-- THE SECOND FORM's CARD OF 'provisionlaw06.AddressWithin'. -/
def addressWithinUptoCard : Claim7 := { stood := { row := addressWithinUptoRow, standIns := [], harness := (true, "fe8bcb59c08a4a5a2904bc82327906f301a84a93ebf7a19114201362582cb761"), looks := true }, kinds := [], alts := [], laidByText := true, laidKinds := [.data, .data, .data, .data, .sentinel, .sentinel, .pinned], laidTests := true, laidLooks := .later }
def AddressWithinUptoCardSaid : Prop := Claim7.holds Tryz.pinned (.plain (OpenSpec.upto addressWithinSpec)) addressWithinUptoCard

/-- THE SECOND FORM's CARD OF 'provisionlaw06.AddressOrders'. -/
def addressOrdersUptoCard : Claim7 := { stood := { row := addressOrdersUptoRow, standIns := [], harness := (true, "fe8bcb59c08a4a5a2904bc82327906f301a84a93ebf7a19114201362582cb761"), looks := true }, kinds := [], alts := [], laidByText := true, laidKinds := [.data, .data, .data, .data, .sentinel, .sentinel, .pinned], laidTests := true, laidLooks := .later }
def AddressOrdersUptoCardSaid : Prop := Claim7.holds Tryz.pinned (.plain (OpenSpec.upto addressOrdersSpec)) addressOrdersUptoCard
end Rows
end Go.Proofs.YtijgdpmadidpaaaGreatDoor
