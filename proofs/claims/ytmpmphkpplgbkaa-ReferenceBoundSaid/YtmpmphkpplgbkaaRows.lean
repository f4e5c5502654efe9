/-
  NARROWER THAN 'FOR EVERY INPUT', by the rows' own cells (each row's printed sentence says how): ReferenceLists: loops · ReferenceBound: loops · ReferenceParts: loops · ReferenceBodies: loops.
  DERIVED. THE GIVEN ROWS OF THIS SEAT. 5 by the template 'for every input the law returns true; each argument reads behind the call as it read before'; 0 by the template 'total and deterministic' (their statements: YtmpmphkpplgbkaaTotals.lean).
  GIVEN WITH THE SEED: the statements are not yours to turn. If you find one false, say at which input.
  Laid BY PROGRAM, IN A SANDBOX (cutbox-rows.mjs): the forced cells as the released guide's own fill.sh prints them over the translation f601b7e3ba89d98d… (all of the seat's roots in one cut). By AI agents, Wed Nov 11 2026. No macro, syntax, notation, axiom, sorry.
-/
import Derived.Test.YtmpmphkpplgbkaaChecked
import GoSem.Claim
import GoSem.ClaimJoined
import GoSem.ClaimMapViews
import Derived.JoinedTies
import Derived.KernelRfl
namespace Go.Proofs.Ytmpmphkpplgbkaa
/- THE CELL 'sum', in the pinned program and in every row, IS THE sha256 OF THE DUMP (.gsa) THAT YtmpmphkpplgbkaaProg.lean LOADS. Nothing in Lean hashes anything: it is a label: what it is worth is what the hold of that sum in a sandbox is worth. -/
noncomputable def Try.pinned : Pinned := { name := "ytmpmphkpplgbkaa", sum := "f601b7e3ba89d98d4ecf106f8e9016f5ae006afdcfc52faead2529ba99661b81", checked := Try.checked }
namespace Rows
def none {H : Type} : Left H := { results := [], args := [] }

/-- 'provisionlaw17.ReferenceLists': WHATEVER THE INPUT: true; the input reads as it did. -/
def referenceListsSpec : ChangeSpec := { name := "referenceLists", fn := fun _ => fun
  | [d] => { results := [.lit (.bool true)], args := [d] }
  | _ => none }
def referenceListsRow : OpenClaim := { program := "ytmpmphkpplgbkaa", sum := "f601b7e3ba89d98d4ecf106f8e9016f5ae006afdcfc52faead2529ba99661b81", func := "provision/provisionlaw17.ReferenceLists", spec := "referenceLists", unfollowed := true, recurses := true, loops := true, apart := false }
def ReferenceListsSaid : Prop := referenceListsRow.holds Try.pinned (OpenSpec.ofChange referenceListsSpec)

/-- ITS FALSE NEIGHBOUR: 'it returns false'. Refute it at one input. -/
def referenceListsWrong : ChangeSpec := { name := "referenceLists", fn := fun _ => fun
  | [d] => { results := [.lit (.bool false)], args := [d] }
  | _ => none }
def ReferenceListsWrongFalsely : Prop := referenceListsRow.holds Try.pinned (OpenSpec.ofChange referenceListsWrong)

/-- 'provisionlaw17.ReferenceTexts': WHATEVER THE INPUT: true; the input reads as it did. -/
def referenceTextsSpec : ChangeSpec := { name := "referenceTexts", fn := fun _ => fun
  | [d1, d2] => { results := [.lit (.bool true)], args := [d1, d2] }
  | _ => none }
def referenceTextsRow : OpenClaim := { program := "ytmpmphkpplgbkaa", sum := "f601b7e3ba89d98d4ecf106f8e9016f5ae006afdcfc52faead2529ba99661b81", func := "provision/provisionlaw17.ReferenceTexts", spec := "referenceTexts", unfollowed := true, recurses := true, apart := false }
def ReferenceTextsSaid : Prop := referenceTextsRow.holds Try.pinned (OpenSpec.ofChange referenceTextsSpec)

/-- ITS FALSE NEIGHBOUR: 'it returns false'. Refute it at one input. -/
def referenceTextsWrong : ChangeSpec := { name := "referenceTexts", fn := fun _ => fun
  | [d1, d2] => { results := [.lit (.bool false)], args := [d1, d2] }
  | _ => none }
def ReferenceTextsWrongFalsely : Prop := referenceTextsRow.holds Try.pinned (OpenSpec.ofChange referenceTextsWrong)

/-- 'provisionlaw17.ReferenceBound': WHATEVER THE INPUT: true; the input reads as it did. -/
def referenceBoundSpec : ChangeSpec := { name := "referenceBound", fn := fun _ => fun
  | [d1, d2] => { results := [.lit (.bool true)], args := [d1, d2] }
  | _ => none }
def referenceBoundRow : OpenClaim := { program := "ytmpmphkpplgbkaa", sum := "f601b7e3ba89d98d4ecf106f8e9016f5ae006afdcfc52faead2529ba99661b81", func := "provision/provisionlaw17.ReferenceBound", spec := "referenceBound", unfollowed := true, recurses := true, loops := true, apart := false }
def ReferenceBoundSaid : Prop := referenceBoundRow.holds Try.pinned (OpenSpec.ofChange referenceBoundSpec)

/-- ITS FALSE NEIGHBOUR: 'it returns false'. Refute it at one input. -/
def referenceBoundWrong : ChangeSpec := { name := "referenceBound", fn := fun _ => fun
  | [d1, d2] => { results := [.lit (.bool false)], args := [d1, d2] }
  | _ => none }
def ReferenceBoundWrongFalsely : Prop := referenceBoundRow.holds Try.pinned (OpenSpec.ofChange referenceBoundWrong)

/-- 'provisionlaw17.ReferenceParts': WHATEVER THE INPUT: true; the input reads as it did. -/
def referencePartsSpec : ChangeSpec := { name := "referenceParts", fn := fun _ => fun
  | [d1, d2] => { results := [.lit (.bool true)], args := [d1, d2] }
  | _ => none }
def referencePartsRow : OpenClaim := { program := "ytmpmphkpplgbkaa", sum := "f601b7e3ba89d98d4ecf106f8e9016f5ae006afdcfc52faead2529ba99661b81", func := "provision/provisionlaw17.ReferenceParts", spec := "referenceParts", unfollowed := true, recurses := true, loops := true, apart := false }
def ReferencePartsSaid : Prop := referencePartsRow.holds Try.pinned (OpenSpec.ofChange referencePartsSpec)

/-- ITS FALSE NEIGHBOUR: 'it returns false'. Refute it at one input. -/
def referencePartsWrong : ChangeSpec := { name := "referenceParts", fn := fun _ => fun
  | [d1, d2] => { results := [.lit (.bool false)], args := [d1, d2] }
  | _ => none }
def ReferencePartsWrongFalsely : Prop := referencePartsRow.holds Try.pinned (OpenSpec.ofChange referencePartsWrong)

/-- 'provisionlaw17.ReferenceBodies': WHATEVER THE INPUT: true; the input reads as it did. -/
def referenceBodiesSpec : ChangeSpec := { name := "referenceBodies", fn := fun _ => fun
  | [d] => { results := [.lit (.bool true)], args := [d] }
  | _ => none }
def referenceBodiesRow : OpenClaim := { program := "ytmpmphkpplgbkaa", sum := "f601b7e3ba89d98d4ecf106f8e9016f5ae006afdcfc52faead2529ba99661b81", func := "provision/provisionlaw17.ReferenceBodies", spec := "referenceBodies", unfollowed := true, recurses := true, loops := true, apart := false }
def ReferenceBodiesSaid : Prop := referenceBodiesRow.holds Try.pinned (OpenSpec.ofChange referenceBodiesSpec)

/-- ITS FALSE NEIGHBOUR: 'it returns false'. Refute it at one input. -/
def referenceBodiesWrong : ChangeSpec := { name := "referenceBodies", fn := fun _ => fun
  | [d] => { results := [.lit (.bool false)], args := [d] }
  | _ => none }
def ReferenceBodiesWrongFalsely : Prop := referenceBodiesRow.holds Try.pinned (OpenSpec.ofChange referenceBodiesWrong)

/- THE SECOND FORM. 'bulk': how many values and letters a reading holds, each counted each time it is reached (what is shared counts as often as it is met; a slice's spare places count too). A statement '..UptoSaid' is the law's where the arguments, and the package variables that the reading takes, are together of bulk at most 1048576: NARROWER than '..Said'. Prove '..Said' where nothing that the law and all that it calls make is longer than what came in: it says more and counts as full. Else prove '..UptoSaid'. A law counts once. -/
mutual
def uptoBulk {H : Type} : DataW H → Nat
  | .lit (.string bytes) => bytes.length + 1
  | .lit _ => 1
  | .nil => 1
  | .ptr d => uptoBulk d + 1
  | .slice elems spare => uptoBulkAll elems + uptoBulkAll spare + 1
  | .agg parts => uptoBulkAll parts + 1
  | .iface _ d => uptoBulk d + 1
  | .map entries => uptoBulkEntries entries + 1
  | .held _ => 1
def uptoBulkAll {H : Type} : List (DataW H) → Nat
  | [] => 0
  | d :: r => uptoBulk d + uptoBulkAll r
def uptoBulkEntries {H : Type} : List (Lit × DataW H) → Nat
  | [] => 0
  | x :: r => uptoBulkEntry x + uptoBulkEntries r
def uptoBulkEntry {H : Type} : Lit × DataW H → Nat
  | (.string bytes, d) => bytes.length + uptoBulk d + 1
  | (_, d) => uptoBulk d + 1
 end
def uptoSmall : (H : Type) → List (DataW H) → Bool := fun _ ds => decide (uptoBulkAll ds ≤ 1048576)
def OpenSpec.upto (s : _root_.Go.ChangeSpec) : _root_.Go.OpenSpec := { _root_.Go.OpenSpec.ofChange s with cond := some uptoSmall }

/-- 'provisionlaw17.ReferenceLists', WHERE WHAT IT READS IS OF BULK AT MOST 1048576: true; the input reads as it did. -/
def referenceListsUptoRow : OpenClaim := { program := "ytmpmphkpplgbkaa", sum := "f601b7e3ba89d98d4ecf106f8e9016f5ae006afdcfc52faead2529ba99661b81", func := "provision/provisionlaw17.ReferenceLists", spec := "referenceLists", unfollowed := true, recurses := true, loops := true, apart := false, narrowed := true }
def ReferenceListsUptoSaid : Prop := referenceListsUptoRow.holds Try.pinned (OpenSpec.upto referenceListsSpec)

/-- 'provisionlaw17.ReferenceTexts', WHERE WHAT IT READS IS OF BULK AT MOST 1048576: true; the input reads as it did. -/
def referenceTextsUptoRow : OpenClaim := { program := "ytmpmphkpplgbkaa", sum := "f601b7e3ba89d98d4ecf106f8e9016f5ae006afdcfc52faead2529ba99661b81", func := "provision/provisionlaw17.ReferenceTexts", spec := "referenceTexts", unfollowed := true, recurses := true, apart := false, narrowed := true }
def ReferenceTextsUptoSaid : Prop := referenceTextsUptoRow.holds Try.pinned (OpenSpec.upto referenceTextsSpec)

/-- 'provisionlaw17.ReferenceBound', WHERE WHAT IT READS IS OF BULK AT MOST 1048576: true; the input reads as it did. -/
def referenceBoundUptoRow : OpenClaim := { program := "ytmpmphkpplgbkaa", sum := "f601b7e3ba89d98d4ecf106f8e9016f5ae006afdcfc52faead2529ba99661b81", func := "provision/provisionlaw17.ReferenceBound", spec := "referenceBound", unfollowed := true, recurses := true, loops := true, apart := false, narrowed := true }
def ReferenceBoundUptoSaid : Prop := referenceBoundUptoRow.holds Try.pinned (OpenSpec.upto referenceBoundSpec)

/-- 'provisionlaw17.ReferenceParts', WHERE WHAT IT READS IS OF BULK AT MOST 1048576: true; the input reads as it did. -/
def referencePartsUptoRow : OpenClaim := { program := "ytmpmphkpplgbkaa", sum := "f601b7e3ba89d98d4ecf106f8e9016f5ae006afdcfc52faead2529ba99661b81", func := "provision/provisionlaw17.ReferenceParts", spec := "referenceParts", unfollowed := true, recurses := true, loops := true, apart := false, narrowed := true }
def ReferencePartsUptoSaid : Prop := referencePartsUptoRow.holds Try.pinned (OpenSpec.upto referencePartsSpec)

/-- 'provisionlaw17.ReferenceBodies', WHERE WHAT IT READS IS OF BULK AT MOST 1048576: true; the input reads as it did. -/
def referenceBodiesUptoRow : OpenClaim := { program := "ytmpmphkpplgbkaa", sum := "f601b7e3ba89d98d4ecf106f8e9016f5ae006afdcfc52faead2529ba99661b81", func := "provision/provisionlaw17.ReferenceBodies", spec := "referenceBodies", unfollowed := true, recurses := true, loops := true, apart := false, narrowed := true }
def ReferenceBodiesUptoSaid : Prop := referenceBodiesUptoRow.holds Try.pinned (OpenSpec.upto referenceBodiesSpec)

end Rows
end Go.Proofs.Ytmpmphkpplgbkaa
