/-
  DERIVED. GIVEN WITH THE SEED: THE CARDS: each row of YtapfhipodpbflaaGreatDoorRows.lean that lists a variable, with what it lists TIED to the program's text (the seventh form; the later family's looks); each row that meets fmt, with fmt's text TOLD by the authors' own Lean function (tested against real Go, not proved from fmt's source: count such statements apart). THE CARD IS WHAT COUNTS. Prove the row's statement (the work); the ties are given (YtapfhipodpbflaaGreatDoorTie.lean); close each card by the builder's one call (the guide's Derived/Test/ToyasCard.lean, 'card_holds'). Laid BY PROGRAM, IN A SANDBOX (cutbox-door.mjs). By AI agents, Wed Nov 11 2026. No macro, syntax, notation, axiom, sorry.
-/
import Derived.Test.YtapfhipodpbflaaGreatDoorRows
import GoSem.ClaimSeven
namespace Go.Proofs.YtapfhipodpbflaaGreatDoor
namespace Rows

/-- THE TIED CARD OF 'provisionlaw46.ExplainReasons'. -/
def explainReasonsCard : Claim7 := { stood := { row := explainReasonsRow, standIns := [], harness := (true, "1a3e78115f2446678d69f6d6ca480d492a83e4018c4749898b1c13bed18acc10"), looks := true }, kinds := [], alts := [], laidByText := true, laidKinds := [.data, .data, .data, .data, .sentinel, .sentinel, .pinned], laidTests := true, laidLooks := .later }
def ExplainReasonsCardSaid : Prop := Claim7.holds Tryz.pinned (.plain (OpenSpec.ofChange explainReasonsSpec)) explainReasonsCard

/-- THE TIED CARD OF 'provisionlaw46.ExplainChanges'. -/
def explainChangesCard : Claim7 := { stood := { row := explainChangesRow, standIns := [], harness := (true, "1a3e78115f2446678d69f6d6ca480d492a83e4018c4749898b1c13bed18acc10"), looks := true }, kinds := [], alts := [], laidByText := true, laidKinds := [.data, .data, .data, .data, .sentinel, .sentinel, .pinned], laidTests := true, laidLooks := .later }
def ExplainChangesCardSaid : Prop := Claim7.holds Tryz.pinned (.plain (OpenSpec.ofChange explainChangesSpec)) explainChangesCard

/-- THE TIED CARD OF 'provisionlaw46.ExplainEnds'. -/
def explainEndsCard : Claim7 := { stood := { row := explainEndsRow, standIns := [], harness := (true, "1a3e78115f2446678d69f6d6ca480d492a83e4018c4749898b1c13bed18acc10"), looks := true }, kinds := [], alts := [], laidByText := true, laidKinds := [.data, .data, .data, .data, .sentinel, .sentinel, .pinned], laidTests := true, laidLooks := .later }
def ExplainEndsCardSaid : Prop := Claim7.holds Tryz.pinned (.plain (OpenSpec.ofChange explainEndsSpec)) explainEndsCard

/-- THE TIED CARD OF 'provisionlaw46.ExplainSecrets'. -/
def explainSecretsCard : Claim7 := { stood := { row := explainSecretsRow, standIns := [], harness := (true, "1a3e78115f2446678d69f6d6ca480d492a83e4018c4749898b1c13bed18acc10"), looks := true }, kinds := [], alts := [], laidByText := true, laidKinds := [.data, .data, .data, .data, .sentinel, .sentinel, .pinned], laidTests := true, laidLooks := .later }
def ExplainSecretsCardSaid : Prop := Claim7.holds Tryz.pinned (.plain (OpenSpec.ofChange explainSecretsSpec)) explainSecretsCard

/-- THE SECOND FORM's CARD OF 'provisionlaw46.ExplainReasons'. -/
def explainReasonsUptoCard : Claim7 := { stood := { row := explainReasonsUptoRow, standIns := [], harness := (true, "1a3e78115f2446678d69f6d6ca480d492a83e4018c4749898b1c13bed18acc10"), looks := true }, kinds := [], alts := [], laidByText := true, laidKinds := [.data, .data, .data, .data, .sentinel, .sentinel, .pinned], laidTests := true, laidLooks := .later }
def ExplainReasonsUptoCardSaid : Prop := Claim7.holds Tryz.pinned (.plain (OpenSpec.upto explainReasonsSpec)) explainReasonsUptoCard

/-- THE SECOND FORM's CARD OF 'provisionlaw46.ExplainChanges'. -/
def explainChangesUptoCard : Claim7 := { stood := { row := explainChangesUptoRow, standIns := [], harness := (true, "1a3e78115f2446678d69f6d6ca480d492a83e4018c4749898b1c13bed18acc10"), looks := true }, kinds := [], alts := [], laidByText := true, laidKinds := [.data, .data, .data, .data, .sentinel, .sentinel, .pinned], laidTests := true, laidLooks := .later }
def ExplainChangesUptoCardSaid : Prop := Claim7.holds Tryz.pinned (.plain (OpenSpec.upto explainChangesSpec)) explainChangesUptoCard

/-- THE SECOND FORM's CARD OF 'provisionlaw46.ExplainEnds'. -/
def explainEndsUptoCard : Claim7 := { stood := { row := explainEndsUptoRow, standIns := [], harness := (true, "1a3e78115f2446678d69f6d6ca480d492a83e4018c4749898b1c13bed18acc10"), looks := true }, kinds := [], alts := [], laidByText := true, laidKinds := [.data, .data, .data, .data, .sentinel, .sentinel, .pinned], laidTests := true, laidLooks := .later }
def ExplainEndsUptoCardSaid : Prop := Claim7.holds Tryz.pinned (.plain (OpenSpec.upto explainEndsSpec)) explainEndsUptoCard

/-- THE SECOND FORM's CARD OF 'provisionlaw46.ExplainSecrets'. -/
def explainSecretsUptoCard : Claim7 := { stood := { row := explainSecretsUptoRow, standIns := [], harness := (true, "1a3e78115f2446678d69f6d6ca480d492a83e4018c4749898b1c13bed18acc10"), looks := true }, kinds := [], alts := [], laidByText := true, laidKinds := [.data, .data, .data, .data, .sentinel, .sentinel, .pinned], laidTests := true, laidLooks := .later }
def ExplainSecretsUptoCardSaid : Prop := Claim7.holds Tryz.pinned (.plain (OpenSpec.upto explainSecretsSpec)) explainSecretsUptoCard
end Rows
end Go.Proofs.YtapfhipodpbflaaGreatDoor
