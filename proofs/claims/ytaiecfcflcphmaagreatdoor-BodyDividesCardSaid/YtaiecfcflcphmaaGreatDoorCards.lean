/-
  DERIVED. GIVEN WITH THE SEED: THE CARDS: each row of YtaiecfcflcphmaaGreatDoorRows.lean that lists a variable, with what it lists TIED to the program's text (the seventh form; the later family's looks); each row that meets fmt, with fmt's text TOLD by the authors' own Lean function (tested against real Go, not proved from fmt's source: count such statements apart). THE CARD IS WHAT COUNTS. Prove the row's statement (the work); the ties are given (YtaiecfcflcphmaaGreatDoorTie.lean); close each card by the builder's one call (the guide's Derived/Test/ToyasCard.lean, 'card_holds'). Laid BY PROGRAM, IN A SANDBOX (cutbox-door.mjs). By AI agents, Wed Nov 11 2026. No macro, syntax, notation, axiom, sorry.
-/
import Derived.Test.YtaiecfcflcphmaaGreatDoorRows
import GoSem.ClaimSeven
namespace Go.Proofs.YtaiecfcflcphmaaGreatDoor
namespace Rows

/-- THE TIED CARD OF 'provisionlaw15.BodyParses'. -/
def bodyParsesCard : Claim7 := { stood := { row := bodyParsesRow, standIns := [], harness := (true, "cb3f21d6fa072d70c56fc5ee6d8339d8f79f4d9a00741288262176cff4d0bdd9"), looks := true }, kinds := [], alts := [], laidByText := true, laidKinds := [.data, .data, .data, .data, .sentinel, .sentinel, .pinned], laidTests := true, laidLooks := .later }
def BodyParsesCardSaid : Prop := Claim7.holds Tryz.pinned (.plain (OpenSpec.ofChange bodyParsesSpec)) bodyParsesCard

/-- THE TIED CARD OF 'provisionlaw15.BodyChecks'. -/
def bodyChecksCard : Claim7 := { stood := { row := bodyChecksRow, standIns := [], harness := (true, "cb3f21d6fa072d70c56fc5ee6d8339d8f79f4d9a00741288262176cff4d0bdd9"), looks := true }, kinds := [], alts := [], laidByText := true, laidKinds := [.data, .data, .data, .data, .sentinel, .sentinel, .pinned], laidTests := true, laidLooks := .later }
def BodyChecksCardSaid : Prop := Claim7.holds Tryz.pinned (.plain (OpenSpec.ofChange bodyChecksSpec)) bodyChecksCard

/-- THE TIED CARD OF 'provisionlaw15.BodyFinds'. -/
def bodyFindsCard : Claim7 := { stood := { row := bodyFindsRow, standIns := [], harness := (true, "cb3f21d6fa072d70c56fc5ee6d8339d8f79f4d9a00741288262176cff4d0bdd9"), looks := true }, kinds := [], alts := [], laidByText := true, laidKinds := [.data, .data, .data, .data, .sentinel, .sentinel, .pinned], laidTests := true, laidLooks := .later }
def BodyFindsCardSaid : Prop := Claim7.holds Tryz.pinned (.plain (OpenSpec.ofChange bodyFindsSpec)) bodyFindsCard

/-- THE TIED CARD OF 'provisionlaw15.BodyWithout'. -/
def bodyWithoutCard : Claim7 := { stood := { row := bodyWithoutRow, standIns := [], harness := (true, "cb3f21d6fa072d70c56fc5ee6d8339d8f79f4d9a00741288262176cff4d0bdd9"), looks := true }, kinds := [], alts := [], laidByText := true, laidKinds := [.data, .data, .data, .data, .sentinel, .sentinel, .pinned], laidTests := true, laidLooks := .later }
def BodyWithoutCardSaid : Prop := Claim7.holds Tryz.pinned (.plain (OpenSpec.ofChange bodyWithoutSpec)) bodyWithoutCard

/-- THE TIED CARD OF 'provisionlaw15.BodyDivides'. -/
def bodyDividesCard : Claim7 := { stood := { row := bodyDividesRow, standIns := [], harness := (true, "cb3f21d6fa072d70c56fc5ee6d8339d8f79f4d9a00741288262176cff4d0bdd9"), looks := true }, kinds := [], alts := [], laidByText := true, laidKinds := [.data, .data, .data, .data, .sentinel, .sentinel, .pinned], laidTests := true, laidLooks := .later }
def BodyDividesCardSaid : Prop := Claim7.holds Tryz.pinned (.plain (OpenSpec.ofChange bodyDividesSpec)) bodyDividesCard

/-- THE TIED CARD OF 'provisionlaw15.BodyOffsets'. -/
def bodyOffsetsCard : Claim7 := { stood := { row := bodyOffsetsRow, standIns := [], harness := (true, "cb3f21d6fa072d70c56fc5ee6d8339d8f79f4d9a00741288262176cff4d0bdd9"), looks := true }, kinds := [], alts := [], laidByText := true, laidKinds := [.data, .data, .data, .data, .sentinel, .sentinel, .pinned], laidTests := true, laidLooks := .later }
def BodyOffsetsCardSaid : Prop := Claim7.holds Tryz.pinned (.plain (OpenSpec.ofChange bodyOffsetsSpec)) bodyOffsetsCard

/-- THE SECOND FORM's CARD OF 'provisionlaw15.BodyParses'. -/
def bodyParsesUptoCard : Claim7 := { stood := { row := bodyParsesUptoRow, standIns := [], harness := (true, "cb3f21d6fa072d70c56fc5ee6d8339d8f79f4d9a00741288262176cff4d0bdd9"), looks := true }, kinds := [], alts := [], laidByText := true, laidKinds := [.data, .data, .data, .data, .sentinel, .sentinel, .pinned], laidTests := true, laidLooks := .later }
def BodyParsesUptoCardSaid : Prop := Claim7.holds Tryz.pinned (.plain (OpenSpec.upto bodyParsesSpec)) bodyParsesUptoCard

/-- THE SECOND FORM's CARD OF 'provisionlaw15.BodyChecks'. -/
def bodyChecksUptoCard : Claim7 := { stood := { row := bodyChecksUptoRow, standIns := [], harness := (true, "cb3f21d6fa072d70c56fc5ee6d8339d8f79f4d9a00741288262176cff4d0bdd9"), looks := true }, kinds := [], alts := [], laidByText := true, laidKinds := [.data, .data, .data, .data, .sentinel, .sentinel, .pinned], laidTests := true, laidLooks := .later }
def BodyChecksUptoCardSaid : Prop := Claim7.holds Tryz.pinned (.plain (OpenSpec.upto bodyChecksSpec)) bodyChecksUptoCard

/-- THE SECOND FORM's CARD OF 'provisionlaw15.BodyFinds'. -/
def bodyFindsUptoCard : Claim7 := { stood := { row := bodyFindsUptoRow, standIns := [], harness := (true, "cb3f21d6fa072d70c56fc5ee6d8339d8f79f4d9a00741288262176cff4d0bdd9"), looks := true }, kinds := [], alts := [], laidByText := true, laidKinds := [.data, .data, .data, .data, .sentinel, .sentinel, .pinned], laidTests := true, laidLooks := .later }
def BodyFindsUptoCardSaid : Prop := Claim7.holds Tryz.pinned (.plain (OpenSpec.upto bodyFindsSpec)) bodyFindsUptoCard

/-- THE SECOND FORM's CARD OF 'provisionlaw15.BodyWithout'. -/
def bodyWithoutUptoCard : Claim7 := { stood := { row := bodyWithoutUptoRow, standIns := [], harness := (true, "cb3f21d6fa072d70c56fc5ee6d8339d8f79f4d9a00741288262176cff4d0bdd9"), looks := true }, kinds := [], alts := [], laidByText := true, laidKinds := [.data, .data, .data, .data, .sentinel, .sentinel, .pinned], laidTests := true, laidLooks := .later }
def BodyWithoutUptoCardSaid : Prop := Claim7.holds Tryz.pinned (.plain (OpenSpec.upto bodyWithoutSpec)) bodyWithoutUptoCard

/-- THE SECOND FORM's CARD OF 'provisionlaw15.BodyDivides'. -/
def bodyDividesUptoCard : Claim7 := { stood := { row := bodyDividesUptoRow, standIns := [], harness := (true, "cb3f21d6fa072d70c56fc5ee6d8339d8f79f4d9a00741288262176cff4d0bdd9"), looks := true }, kinds := [], alts := [], laidByText := true, laidKinds := [.data, .data, .data, .data, .sentinel, .sentinel, .pinned], laidTests := true, laidLooks := .later }
def BodyDividesUptoCardSaid : Prop := Claim7.holds Tryz.pinned (.plain (OpenSpec.upto bodyDividesSpec)) bodyDividesUptoCard

/-- THE SECOND FORM's CARD OF 'provisionlaw15.BodyOffsets'. -/
def bodyOffsetsUptoCard : Claim7 := { stood := { row := bodyOffsetsUptoRow, standIns := [], harness := (true, "cb3f21d6fa072d70c56fc5ee6d8339d8f79f4d9a00741288262176cff4d0bdd9"), looks := true }, kinds := [], alts := [], laidByText := true, laidKinds := [.data, .data, .data, .data, .sentinel, .sentinel, .pinned], laidTests := true, laidLooks := .later }
def BodyOffsetsUptoCardSaid : Prop := Claim7.holds Tryz.pinned (.plain (OpenSpec.upto bodyOffsetsSpec)) bodyOffsetsUptoCard
end Rows
end Go.Proofs.YtaiecfcflcphmaaGreatDoor
