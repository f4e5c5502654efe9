/-
  DERIVED. GIVEN WITH THE SEED: THE CARDS: each row of YtdhapbkkniegoaaGreatDoorRows.lean that lists a variable, with what it lists TIED to the program's text (the seventh form; the later family's looks); each row that meets fmt, with fmt's text TOLD by the authors' own Lean function (tested against real Go, not proved from fmt's source: count such statements apart). THE CARD IS WHAT COUNTS. Prove the row's statement (the work); the ties are given (YtdhapbkkniegoaaGreatDoorTie.lean); close each card by the builder's one call (the guide's Derived/Test/ToyasCard.lean, 'card_holds'). Laid BY PROGRAM, IN A SANDBOX (cutbox-door.mjs). By AI agents, Wed Nov 11 2026. No macro, syntax, notation, axiom, sorry.
-/
import Derived.Test.YtdhapbkkniegoaaGreatDoorRows
import GoSem.ClaimSeven
namespace Go.Proofs.YtdhapbkkniegoaaGreatDoor
namespace Rows

/-- THE TIED CARD OF 'provisionlaw43.LifecyclePropagates'. -/
def lifecyclePropagatesCard : Claim7 := { stood := { row := lifecyclePropagatesRow, standIns := [], harness := (true, "dd525ed9fbd2d5b179079aaaf17b9fd2c5c566bcd359ff48d74fdfb3e9e0c1c2"), looks := true }, kinds := [], alts := [], laidByText := true, laidKinds := [.data, .data, .data, .data, .sentinel, .sentinel, .pinned], laidTests := true, laidLooks := .later }
def LifecyclePropagatesCardSaid : Prop := Claim7.holds Tryz.pinned (.plain (OpenSpec.ofChange lifecyclePropagatesSpec)) lifecyclePropagatesCard

/-- THE TIED CARD OF 'provisionlaw43.LifecycleFinds'. -/
def lifecycleFindsCard : Claim7 := { stood := { row := lifecycleFindsRow, standIns := [], harness := (true, "dd525ed9fbd2d5b179079aaaf17b9fd2c5c566bcd359ff48d74fdfb3e9e0c1c2"), looks := true }, kinds := [], alts := [], laidByText := true, laidKinds := [.data, .data, .data, .data, .sentinel, .sentinel, .pinned], laidTests := true, laidLooks := .later }
def LifecycleFindsCardSaid : Prop := Claim7.holds Tryz.pinned (.plain (OpenSpec.ofChange lifecycleFindsSpec)) lifecycleFindsCard

/-- THE TIED CARD OF 'provisionlaw43.LifecycleClosed'. -/
def lifecycleClosedCard : Claim7 := { stood := { row := lifecycleClosedRow, standIns := [], harness := (true, "dd525ed9fbd2d5b179079aaaf17b9fd2c5c566bcd359ff48d74fdfb3e9e0c1c2"), looks := true }, kinds := [], alts := [], laidByText := true, laidKinds := [.data, .data, .data, .data, .sentinel, .sentinel, .pinned], laidTests := true, laidLooks := .later }
def LifecycleClosedCardSaid : Prop := Claim7.holds Tryz.pinned (.plain (OpenSpec.ofChange lifecycleClosedSpec)) lifecycleClosedCard

/-- THE TIED CARD OF 'provisionlaw43.LifecycleLeast'. -/
def lifecycleLeastCard : Claim7 := { stood := { row := lifecycleLeastRow, standIns := [], harness := (true, "dd525ed9fbd2d5b179079aaaf17b9fd2c5c566bcd359ff48d74fdfb3e9e0c1c2"), looks := true }, kinds := [], alts := [], laidByText := true, laidKinds := [.data, .data, .data, .data, .sentinel, .sentinel, .pinned], laidTests := true, laidLooks := .later }
def LifecycleLeastCardSaid : Prop := Claim7.holds Tryz.pinned (.plain (OpenSpec.ofChange lifecycleLeastSpec)) lifecycleLeastCard

/-- THE TIED CARD OF 'provisionlaw43.LifecycleOrder'. -/
def lifecycleOrderCard : Claim7 := { stood := { row := lifecycleOrderRow, standIns := [], harness := (true, "dd525ed9fbd2d5b179079aaaf17b9fd2c5c566bcd359ff48d74fdfb3e9e0c1c2"), looks := true }, kinds := [], alts := [], laidByText := true, laidKinds := [.data, .data, .data, .data, .sentinel, .sentinel, .pinned], laidTests := true, laidLooks := .later }
def LifecycleOrderCardSaid : Prop := Claim7.holds Tryz.pinned (.plain (OpenSpec.ofChange lifecycleOrderSpec)) lifecycleOrderCard

/-- THE SECOND FORM's CARD OF 'provisionlaw43.LifecyclePropagates'. -/
def lifecyclePropagatesUptoCard : Claim7 := { stood := { row := lifecyclePropagatesUptoRow, standIns := [], harness := (true, "dd525ed9fbd2d5b179079aaaf17b9fd2c5c566bcd359ff48d74fdfb3e9e0c1c2"), looks := true }, kinds := [], alts := [], laidByText := true, laidKinds := [.data, .data, .data, .data, .sentinel, .sentinel, .pinned], laidTests := true, laidLooks := .later }
def LifecyclePropagatesUptoCardSaid : Prop := Claim7.holds Tryz.pinned (.plain (OpenSpec.upto lifecyclePropagatesSpec)) lifecyclePropagatesUptoCard

/-- THE SECOND FORM's CARD OF 'provisionlaw43.LifecycleFinds'. -/
def lifecycleFindsUptoCard : Claim7 := { stood := { row := lifecycleFindsUptoRow, standIns := [], harness := (true, "dd525ed9fbd2d5b179079aaaf17b9fd2c5c566bcd359ff48d74fdfb3e9e0c1c2"), looks := true }, kinds := [], alts := [], laidByText := true, laidKinds := [.data, .data, .data, .data, .sentinel, .sentinel, .pinned], laidTests := true, laidLooks := .later }
def LifecycleFindsUptoCardSaid : Prop := Claim7.holds Tryz.pinned (.plain (OpenSpec.upto lifecycleFindsSpec)) lifecycleFindsUptoCard

/-- THE SECOND FORM's CARD OF 'provisionlaw43.LifecycleClosed'. -/
def lifecycleClosedUptoCard : Claim7 := { stood := { row := lifecycleClosedUptoRow, standIns := [], harness := (true, "dd525ed9fbd2d5b179079aaaf17b9fd2c5c566bcd359ff48d74fdfb3e9e0c1c2"), looks := true }, kinds := [], alts := [], laidByText := true, laidKinds := [.data, .data, .data, .data, .sentinel, .sentinel, .pinned], laidTests := true, laidLooks := .later }
def LifecycleClosedUptoCardSaid : Prop := Claim7.holds Tryz.pinned (.plain (OpenSpec.upto lifecycleClosedSpec)) lifecycleClosedUptoCard

/-- THE SECOND FORM's CARD OF 'provisionlaw43.LifecycleLeast'. -/
def lifecycleLeastUptoCard : Claim7 := { stood := { row := lifecycleLeastUptoRow, standIns := [], harness := (true, "dd525ed9fbd2d5b179079aaaf17b9fd2c5c566bcd359ff48d74fdfb3e9e0c1c2"), looks := true }, kinds := [], alts := [], laidByText := true, laidKinds := [.data, .data, .data, .data, .sentinel, .sentinel, .pinned], laidTests := true, laidLooks := .later }
def LifecycleLeastUptoCardSaid : Prop := Claim7.holds Tryz.pinned (.plain (OpenSpec.upto lifecycleLeastSpec)) lifecycleLeastUptoCard

/-- THE SECOND FORM's CARD OF 'provisionlaw43.LifecycleOrder'. -/
def lifecycleOrderUptoCard : Claim7 := { stood := { row := lifecycleOrderUptoRow, standIns := [], harness := (true, "dd525ed9fbd2d5b179079aaaf17b9fd2c5c566bcd359ff48d74fdfb3e9e0c1c2"), looks := true }, kinds := [], alts := [], laidByText := true, laidKinds := [.data, .data, .data, .data, .sentinel, .sentinel, .pinned], laidTests := true, laidLooks := .later }
def LifecycleOrderUptoCardSaid : Prop := Claim7.holds Tryz.pinned (.plain (OpenSpec.upto lifecycleOrderSpec)) lifecycleOrderUptoCard
end Rows
end Go.Proofs.YtdhapbkkniegoaaGreatDoor
