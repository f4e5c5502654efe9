/-
  DERIVED. GIVEN WITH THE SEED: THE CARDS: each row of YtijgdpmadidpaaaDoorRows.lean that lists a variable, with what it lists TIED to the program's text (the seventh form; the later family's looks); each row that meets fmt, with fmt's text TOLD by the authors' own Lean function (tested against real Go, not proved from fmt's source: count such statements apart). THE CARD IS WHAT COUNTS. Prove the row's statement (the work); the ties are given (YtijgdpmadidpaaaDoorTie.lean); close each card by the builder's one call (the guide's Derived/Test/ToyasCard.lean, 'card_holds'). Laid BY PROGRAM, IN A SANDBOX (cutbox-door.mjs). By AI agents, Wed Nov 11 2026. No macro, syntax, notation, axiom, sorry.
-/
import Derived.Test.YtijgdpmadidpaaaDoorRows
import GoSem.ClaimSeven
namespace Go.Proofs.YtijgdpmadidpaaaDoor
namespace Rows

/-- THE TIED CARD OF 'provisionlaw06.AddressIdentifiers'. -/
def addressIdentifiersCard : Claim7 := { stood := { row := addressIdentifiersRow, standIns := [], harness := (true, "5ffd26a5a5e1f9b6cb96223a49fc9c92cbf07e3d9df3f8735769fbdc93b3bb0f"), looks := true }, kinds := [], alts := [], laidByText := true, laidKinds := [.data, .data, .data, .data, .sentinel, .sentinel, .pinned], laidTests := true, laidLooks := .later }
def AddressIdentifiersCardSaid : Prop := Claim7.holds Tryd.pinned (.plain (OpenSpec.ofChange addressIdentifiersSpec)) addressIdentifiersCard

/-- THE TIED CARD OF 'provisionlaw06.AddressTexts'. -/
def addressTextsCard : Claim7 := { stood := { row := addressTextsRow, standIns := [], harness := (true, "5ffd26a5a5e1f9b6cb96223a49fc9c92cbf07e3d9df3f8735769fbdc93b3bb0f"), looks := true }, kinds := [], alts := [], laidByText := true, laidKinds := [.data, .data, .data, .data, .sentinel, .sentinel, .pinned], laidTests := true, laidLooks := .later }
def AddressTextsCardSaid : Prop := Claim7.holds Tryd.pinned (.plain (OpenSpec.ofChange addressTextsSpec)) addressTextsCard

/-- THE TIED CARD OF 'provisionlaw06.AddressBack'. -/
def addressBackCard : Claim7 := { stood := { row := addressBackRow, standIns := [], harness := (true, "5ffd26a5a5e1f9b6cb96223a49fc9c92cbf07e3d9df3f8735769fbdc93b3bb0f"), looks := true }, kinds := [], alts := [], laidByText := true, laidKinds := [.data, .data, .data, .data, .sentinel, .sentinel, .pinned], laidTests := true, laidLooks := .later }
def AddressBackCardSaid : Prop := Claim7.holds Tryd.pinned (.plain (OpenSpec.ofChange addressBackSpec)) addressBackCard

/-- THE TIED CARD OF 'provisionlaw06.AddressOwn'. -/
def addressOwnCard : Claim7 := { stood := { row := addressOwnRow, standIns := [], harness := (true, "5ffd26a5a5e1f9b6cb96223a49fc9c92cbf07e3d9df3f8735769fbdc93b3bb0f"), looks := true }, kinds := [], alts := [], laidByText := true, laidKinds := [.data, .data, .data, .data, .sentinel, .sentinel, .pinned], laidTests := true, laidLooks := .later }
def AddressOwnCardSaid : Prop := Claim7.holds Tryd.pinned (.plain (OpenSpec.ofChange addressOwnSpec)) addressOwnCard

/-- THE SECOND FORM's CARD OF 'provisionlaw06.AddressIdentifiers'. -/
def addressIdentifiersUptoCard : Claim7 := { stood := { row := addressIdentifiersUptoRow, standIns := [], harness := (true, "5ffd26a5a5e1f9b6cb96223a49fc9c92cbf07e3d9df3f8735769fbdc93b3bb0f"), looks := true }, kinds := [], alts := [], laidByText := true, laidKinds := [.data, .data, .data, .data, .sentinel, .sentinel, .pinned], laidTests := true, laidLooks := .later }
def AddressIdentifiersUptoCardSaid : Prop := Claim7.holds Tryd.pinned (.plain (OpenSpec.upto addressIdentifiersSpec)) addressIdentifiersUptoCard

/-- THE SECOND FORM's CARD OF 'provisionlaw06.AddressTexts'. -/
def addressTextsUptoCard : Claim7 := { stood := { row := addressTextsUptoRow, standIns := [], harness := (true, "5ffd26a5a5e1f9b6cb96223a49fc9c92cbf07e3d9df3f8735769fbdc93b3bb0f"), looks := true }, kinds := [], alts := [], laidByText := true, laidKinds := [.data, .data, .data, .data, .sentinel, .sentinel, .pinned], laidTests := true, laidLooks := .later }
def AddressTextsUptoCardSaid : Prop := Claim7.holds Tryd.pinned (.plain (OpenSpec.upto addressTextsSpec)) addressTextsUptoCard

/-- THE SECOND FORM's CARD OF 'provisionlaw06.AddressBack'. -/
def addressBackUptoCard : Claim7 := { stood := { row := addressBackUptoRow, standIns := [], harness := (true, "5ffd26a5a5e1f9b6cb96223a49fc9c92cbf07e3d9df3f8735769fbdc93b3bb0f"), looks := true }, kinds := [], alts := [], laidByText := true, laidKinds := [.data, .data, .data, .data, .sentinel, .sentinel, .pinned], laidTests := true, laidLooks := .later }
def AddressBackUptoCardSaid : Prop := Claim7.holds Tryd.pinned (.plain (OpenSpec.upto addressBackSpec)) addressBackUptoCard

/-- THE SECOND FORM's CARD OF 'provisionlaw06.AddressOwn'. -/
def addressOwnUptoCard : Claim7 := { stood := { row := addressOwnUptoRow, standIns := [], harness := (true, "5ffd26a5a5e1f9b6cb96223a49fc9c92cbf07e3d9df3f8735769fbdc93b3bb0f"), looks := true }, kinds := [], alts := [], laidByText := true, laidKinds := [.data, .data, .data, .data, .sentinel, .sentinel, .pinned], laidTests := true, laidLooks := .later }
def AddressOwnUptoCardSaid : Prop := Claim7.holds Tryd.pinned (.plain (OpenSpec.upto addressOwnSpec)) addressOwnUptoCard
end Rows
end Go.Proofs.YtijgdpmadidpaaaDoor
