/-
  DERIVED. GIVEN WITH THE SEED: THE CARDS: each row of YtihghalcmfpnaaaGreatDoorRows.lean that lists a variable, with what it lists TIED to the program's text (the seventh form; the later family's looks); each row that meets fmt, with fmt's text TOLD by the authors' own Lean function (tested against real Go, not proved from fmt's source: count such statements apart). THE CARD IS WHAT COUNTS. Prove the row's statement (the work); the ties are given (YtihghalcmfpnaaaGreatDoorTie.lean); close each card by the builder's one call (the guide's Derived/Test/ToyasCard.lean, 'card_holds'). Laid BY PROGRAM, IN A SANDBOX (cutbox-door.mjs). By AI agents, Wed Nov 11 2026. No macro, syntax, notation, axiom, sorry.
-/
import Derived.Test.YtihghalcmfpnaaaGreatDoorRows
import GoSem.ClaimSeven
namespace Go.Proofs.YtihghalcmfpnaaaGreatDoor
namespace Rows

/-- THE TIED CARD OF 'provisionlaw14.ExprChecks'. -/
def exprChecksCard : Claim7 := { stood := { row := exprChecksRow, standIns := [], harness := (true, "9236e82c3ed31db4be540d490748a570fdcc1a742e67627fda605cbfddb678bc"), looks := true }, kinds := [], alts := [], laidByText := true, laidKinds := [.data, .data, .data, .data, .sentinel, .sentinel, .pinned], laidTests := true, laidLooks := .later }
def ExprChecksCardSaid : Prop := Claim7.holds Tryz.pinned (.plain (OpenSpec.ofChange exprChecksSpec)) exprChecksCard

/-- THE TIED CARD OF 'provisionlaw14.ExprParses'. -/
def exprParsesCard : Claim7 := { stood := { row := exprParsesRow, standIns := [], harness := (true, "9236e82c3ed31db4be540d490748a570fdcc1a742e67627fda605cbfddb678bc"), looks := true }, kinds := [], alts := [], laidByText := true, laidKinds := [.data, .data, .data, .data, .sentinel, .sentinel, .pinned], laidTests := true, laidLooks := .later }
def ExprParsesCardSaid : Prop := Claim7.holds Tryz.pinned (.plain (OpenSpec.ofChange exprParsesSpec)) exprParsesCard

/-- THE TIED CARD OF 'provisionlaw14.ExprTemplates'. -/
def exprTemplatesCard : Claim7 := { stood := { row := exprTemplatesRow, standIns := [], harness := (true, "9236e82c3ed31db4be540d490748a570fdcc1a742e67627fda605cbfddb678bc"), looks := true }, kinds := [], alts := [], laidByText := true, laidKinds := [.data, .data, .data, .data, .sentinel, .sentinel, .pinned], laidTests := true, laidLooks := .later }
def ExprTemplatesCardSaid : Prop := Claim7.holds Tryz.pinned (.plain (OpenSpec.ofChange exprTemplatesSpec)) exprTemplatesCard

/-- THE TIED CARD OF 'provisionlaw14.ExprPrecedence'. -/
def exprPrecedenceCard : Claim7 := { stood := { row := exprPrecedenceRow, standIns := [], harness := (true, "9236e82c3ed31db4be540d490748a570fdcc1a742e67627fda605cbfddb678bc"), looks := true }, kinds := [], alts := [], laidByText := true, laidKinds := [.data, .data, .data, .data, .sentinel, .sentinel, .pinned], laidTests := true, laidLooks := .later }
def ExprPrecedenceCardSaid : Prop := Claim7.holds Tryz.pinned (.plain (OpenSpec.ofChange exprPrecedenceSpec)) exprPrecedenceCard

/-- THE TIED CARD OF 'provisionlaw14.ExprOffsets'. -/
def exprOffsetsCard : Claim7 := { stood := { row := exprOffsetsRow, standIns := [], harness := (true, "9236e82c3ed31db4be540d490748a570fdcc1a742e67627fda605cbfddb678bc"), looks := true }, kinds := [], alts := [], laidByText := true, laidKinds := [.data, .data, .data, .data, .sentinel, .sentinel, .pinned], laidTests := true, laidLooks := .later }
def ExprOffsetsCardSaid : Prop := Claim7.holds Tryz.pinned (.plain (OpenSpec.ofChange exprOffsetsSpec)) exprOffsetsCard

/-- THE TIED CARD OF 'provisionlaw14.ExprTokens'. -/
def exprTokensCard : Claim7 := { stood := { row := exprTokensRow, standIns := [], harness := (true, "9236e82c3ed31db4be540d490748a570fdcc1a742e67627fda605cbfddb678bc"), looks := true }, kinds := [], alts := [], laidByText := true, laidKinds := [.data, .data, .data, .data, .sentinel, .sentinel, .pinned], laidTests := true, laidLooks := .later }
def ExprTokensCardSaid : Prop := Claim7.holds Tryz.pinned (.plain (OpenSpec.ofChange exprTokensSpec)) exprTokensCard

/-- THE TIED CARD OF 'provisionlaw14.ExprReads'. -/
def exprReadsCard : Claim7 := { stood := { row := exprReadsRow, standIns := [], harness := (true, "9236e82c3ed31db4be540d490748a570fdcc1a742e67627fda605cbfddb678bc"), looks := true }, kinds := [], alts := [], laidByText := true, laidKinds := [.data, .data, .data, .data, .sentinel, .sentinel, .pinned], laidTests := true, laidLooks := .later }
def ExprReadsCardSaid : Prop := Claim7.holds Tryz.pinned (.plain (OpenSpec.ofChange exprReadsSpec)) exprReadsCard

/-- THE SECOND FORM's CARD OF 'provisionlaw14.ExprChecks'. -/
def exprChecksUptoCard : Claim7 := { stood := { row := exprChecksUptoRow, standIns := [], harness := (true, "9236e82c3ed31db4be540d490748a570fdcc1a742e67627fda605cbfddb678bc"), looks := true }, kinds := [], alts := [], laidByText := true, laidKinds := [.data, .data, .data, .data, .sentinel, .sentinel, .pinned], laidTests := true, laidLooks := .later }
def ExprChecksUptoCardSaid : Prop := Claim7.holds Tryz.pinned (.plain (OpenSpec.upto exprChecksSpec)) exprChecksUptoCard

/-- THE SECOND FORM's CARD OF 'provisionlaw14.ExprParses'. -/
def exprParsesUptoCard : Claim7 := { stood := { row := exprParsesUptoRow, standIns := [], harness := (true, "9236e82c3ed31db4be540d490748a570fdcc1a742e67627fda605cbfddb678bc"), looks := true }, kinds := [], alts := [], laidByText := true, laidKinds := [.data, .data, .data, .data, .sentinel, .sentinel, .pinned], laidTests := true, laidLooks := .later }
def ExprParsesUptoCardSaid : Prop := Claim7.holds Tryz.pinned (.plain (OpenSpec.upto exprParsesSpec)) exprParsesUptoCard

/-- THE SECOND FORM's CARD OF 'provisionlaw14.ExprTemplates'. -/
def exprTemplatesUptoCard : Claim7 := { stood := { row := exprTemplatesUptoRow, standIns := [], harness := (true, "9236e82c3ed31db4be540d490748a570fdcc1a742e67627fda605cbfddb678bc"), looks := true }, kinds := [], alts := [], laidByText := true, laidKinds := [.data, .data, .data, .data, .sentinel, .sentinel, .pinned], laidTests := true, laidLooks := .later }
def ExprTemplatesUptoCardSaid : Prop := Claim7.holds Tryz.pinned (.plain (OpenSpec.upto exprTemplatesSpec)) exprTemplatesUptoCard

/-- THE SECOND FORM's CARD OF 'provisionlaw14.ExprPrecedence'. -/
def exprPrecedenceUptoCard : Claim7 := { stood := { row := exprPrecedenceUptoRow, standIns := [], harness := (true, "9236e82c3ed31db4be540d490748a570fdcc1a742e67627fda605cbfddb678bc"), looks := true }, kinds := [], alts := [], laidByText := true, laidKinds := [.data, .data, .data, .data, .sentinel, .sentinel, .pinned], laidTests := true, laidLooks := .later }
def ExprPrecedenceUptoCardSaid : Prop := Claim7.holds Tryz.pinned (.plain (OpenSpec.upto exprPrecedenceSpec)) exprPrecedenceUptoCard

/-- THE SECOND FORM's CARD OF 'provisionlaw14.ExprOffsets'. -/
def exprOffsetsUptoCard : Claim7 := { stood := { row := exprOffsetsUptoRow, standIns := [], harness := (true, "9236e82c3ed31db4be540d490748a570fdcc1a742e67627fda605cbfddb678bc"), looks := true }, kinds := [], alts := [], laidByText := true, laidKinds := [.data, .data, .data, .data, .sentinel, .sentinel, .pinned], laidTests := true, laidLooks := .later }
def ExprOffsetsUptoCardSaid : Prop := Claim7.holds Tryz.pinned (.plain (OpenSpec.upto exprOffsetsSpec)) exprOffsetsUptoCard

/-- THE SECOND FORM's CARD OF 'provisionlaw14.ExprTokens'. -/
def exprTokensUptoCard : Claim7 := { stood := { row := exprTokensUptoRow, standIns := [], harness := (true, "9236e82c3ed31db4be540d490748a570fdcc1a742e67627fda605cbfddb678bc"), looks := true }, kinds := [], alts := [], laidByText := true, laidKinds := [.data, .data, .data, .data, .sentinel, .sentinel, .pinned], laidTests := true, laidLooks := .later }
def ExprTokensUptoCardSaid : Prop := Claim7.holds Tryz.pinned (.plain (OpenSpec.upto exprTokensSpec)) exprTokensUptoCard

/-- THE SECOND FORM's CARD OF 'provisionlaw14.ExprReads'. -/
def exprReadsUptoCard : Claim7 := { stood := { row := exprReadsUptoRow, standIns := [], harness := (true, "9236e82c3ed31db4be540d490748a570fdcc1a742e67627fda605cbfddb678bc"), looks := true }, kinds := [], alts := [], laidByText := true, laidKinds := [.data, .data, .data, .data, .sentinel, .sentinel, .pinned], laidTests := true, laidLooks := .later }
def ExprReadsUptoCardSaid : Prop := Claim7.holds Tryz.pinned (.plain (OpenSpec.upto exprReadsSpec)) exprReadsUptoCard
end Rows
end Go.Proofs.YtihghalcmfpnaaaGreatDoor
