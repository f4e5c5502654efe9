/-
  No cell of these rows narrows 'for every input' (looked for: loops, veiled, ifaces, maps, wideKeys, modest, calm, conditions, laid).
  DERIVED. THE GIVEN ROWS OF THIS SEAT. 5 by the template 'for every input the law returns true; each argument reads behind the call as it read before'; 0 by the template 'total and deterministic' (their statements: YtknkppbifpgkkaaTotals.lean).
  GIVEN WITH THE SEED: the statements are not yours to turn. If you find one false, say at which input.
  Laid BY PROGRAM, IN A SANDBOX (cutbox-rows.mjs): the forced cells as the released guide's own fill.sh prints them over the translation 6fb2671bd5c543d5… (all of the seat's roots in one cut). By AI agents, Wed Nov 11 2026. No macro, syntax, notation, axiom, sorry.
-/
import Derived.Test.YtknkppbifpgkkaaChecked
import GoSem.Claim
import GoSem.ClaimJoined
import GoSem.ClaimMapViews
import Derived.JoinedTies
import Derived.KernelRfl
namespace Go.Proofs.Ytknkppbifpgkkaa
/- THE CELL 'sum', in the pinned program and in every row, IS THE sha256 OF THE DUMP (.gsa) THAT YtknkppbifpgkkaaProg.lean LOADS. Nothing in Lean hashes anything: it is a label: what it is worth is what the hold of that sum in a sandbox is worth. -/
noncomputable def Try.pinned : Pinned := { name := "ytknkppbifpgkkaa", sum := "6fb2671bd5c543d5fdb5b647750aaf780368aebe9ee30e66676211b67e7ecfe9", checked := Try.checked }
namespace Rows
def none {H : Type} : Left H := { results := [], args := [] }

/-- 'provisionlaw05.GlobChecks': WHATEVER THE INPUT: true; the input reads as it did. -/
def globChecksSpec : ChangeSpec := { name := "globChecks", fn := fun _ => fun
  | [d] => { results := [.lit (.bool true)], args := [d] }
  | _ => none }
def globChecksRow : OpenClaim := { program := "ytknkppbifpgkkaa", sum := "6fb2671bd5c543d5fdb5b647750aaf780368aebe9ee30e66676211b67e7ecfe9", func := "provision/provisionlaw05.GlobChecks", spec := "globChecks", inPlace := ["internal/bytealg.IndexByteString"], apart := false }
def GlobChecksSaid : Prop := globChecksRow.holds Try.pinned (OpenSpec.ofChange globChecksSpec)

/-- ITS FALSE NEIGHBOUR: 'it returns false'. Refute it at one input. -/
def globChecksWrong : ChangeSpec := { name := "globChecks", fn := fun _ => fun
  | [d] => { results := [.lit (.bool false)], args := [d] }
  | _ => none }
def GlobChecksWrongFalsely : Prop := globChecksRow.holds Try.pinned (OpenSpec.ofChange globChecksWrong)

/-- 'provisionlaw05.GlobMatches': WHATEVER THE INPUT: true; the input reads as it did. -/
def globMatchesSpec : ChangeSpec := { name := "globMatches", fn := fun _ => fun
  | [d1, d2] => { results := [.lit (.bool true)], args := [d1, d2] }
  | _ => none }
def globMatchesRow : OpenClaim := { program := "ytknkppbifpgkkaa", sum := "6fb2671bd5c543d5fdb5b647750aaf780368aebe9ee30e66676211b67e7ecfe9", func := "provision/provisionlaw05.GlobMatches", spec := "globMatches", inPlace := ["internal/bytealg.IndexByteString"], apart := false }
def GlobMatchesSaid : Prop := globMatchesRow.holds Try.pinned (OpenSpec.ofChange globMatchesSpec)

/-- ITS FALSE NEIGHBOUR: 'it returns false'. Refute it at one input. -/
def globMatchesWrong : ChangeSpec := { name := "globMatches", fn := fun _ => fun
  | [d1, d2] => { results := [.lit (.bool false)], args := [d1, d2] }
  | _ => none }
def GlobMatchesWrongFalsely : Prop := globMatchesRow.holds Try.pinned (OpenSpec.ofChange globMatchesWrong)

/-- 'provisionlaw05.GlobSplits': WHATEVER THE INPUT: true; the input reads as it did. -/
def globSplitsSpec : ChangeSpec := { name := "globSplits", fn := fun _ => fun
  | [d1, d2] => { results := [.lit (.bool true)], args := [d1, d2] }
  | _ => none }
def globSplitsRow : OpenClaim := { program := "ytknkppbifpgkkaa", sum := "6fb2671bd5c543d5fdb5b647750aaf780368aebe9ee30e66676211b67e7ecfe9", func := "provision/provisionlaw05.GlobSplits", spec := "globSplits", inPlace := ["internal/bytealg.IndexByteString"], recurses := true, apart := false }
def GlobSplitsSaid : Prop := globSplitsRow.holds Try.pinned (OpenSpec.ofChange globSplitsSpec)

/-- ITS FALSE NEIGHBOUR: 'it returns false'. Refute it at one input. -/
def globSplitsWrong : ChangeSpec := { name := "globSplits", fn := fun _ => fun
  | [d1, d2] => { results := [.lit (.bool false)], args := [d1, d2] }
  | _ => none }
def GlobSplitsWrongFalsely : Prop := globSplitsRow.holds Try.pinned (OpenSpec.ofChange globSplitsWrong)

/-- 'provisionlaw05.GlobLiterals': WHATEVER THE INPUT: true; the input reads as it did. -/
def globLiteralsSpec : ChangeSpec := { name := "globLiterals", fn := fun _ => fun
  | [d1, d2] => { results := [.lit (.bool true)], args := [d1, d2] }
  | _ => none }
def globLiteralsRow : OpenClaim := { program := "ytknkppbifpgkkaa", sum := "6fb2671bd5c543d5fdb5b647750aaf780368aebe9ee30e66676211b67e7ecfe9", func := "provision/provisionlaw05.GlobLiterals", spec := "globLiterals", inPlace := ["internal/bytealg.IndexByteString"], apart := false }
def GlobLiteralsSaid : Prop := globLiteralsRow.holds Try.pinned (OpenSpec.ofChange globLiteralsSpec)

/-- ITS FALSE NEIGHBOUR: 'it returns false'. Refute it at one input. -/
def globLiteralsWrong : ChangeSpec := { name := "globLiterals", fn := fun _ => fun
  | [d1, d2] => { results := [.lit (.bool false)], args := [d1, d2] }
  | _ => none }
def GlobLiteralsWrongFalsely : Prop := globLiteralsRow.holds Try.pinned (OpenSpec.ofChange globLiteralsWrong)

/-- 'provisionlaw05.GlobWidens': WHATEVER THE INPUT: true; the input reads as it did. -/
def globWidensSpec : ChangeSpec := { name := "globWidens", fn := fun _ => fun
  | [d1, d2] => { results := [.lit (.bool true)], args := [d1, d2] }
  | _ => none }
def globWidensRow : OpenClaim := { program := "ytknkppbifpgkkaa", sum := "6fb2671bd5c543d5fdb5b647750aaf780368aebe9ee30e66676211b67e7ecfe9", func := "provision/provisionlaw05.GlobWidens", spec := "globWidens", inPlace := ["internal/bytealg.IndexByteString"], apart := false }
def GlobWidensSaid : Prop := globWidensRow.holds Try.pinned (OpenSpec.ofChange globWidensSpec)

/-- ITS FALSE NEIGHBOUR: 'it returns false'. Refute it at one input. -/
def globWidensWrong : ChangeSpec := { name := "globWidens", fn := fun _ => fun
  | [d1, d2] => { results := [.lit (.bool false)], args := [d1, d2] }
  | _ => none }
def GlobWidensWrongFalsely : Prop := globWidensRow.holds Try.pinned (OpenSpec.ofChange globWidensWrong)

/- THE SECOND FORM. 'bulk': how many values and letters a reading holds, each counted each time it is reached (what is shared counts as often as it is met; a slice's spare places count too). A statement '..UptoSaid' is the law's where the arguments, and the package variables that the reading takes, are together of bulk at most 1048576: NARROWER than '..Said'. Prove '..Said' where nothing that the law and all that it calls make is longer than what came in: it says more and counts as full. Else prove '..UptoSaid'. A law counts once. -/
mutual
def uptoBulk {H : Type} : DataW H → Nat
  | .lit (.string bytes) => bytes.length + 1
  | .lit _ => 1
  | .nil => 1
  | .ptr d => uptoBulk d + 1
  | .slice elems spare => uptoBulkAll elems + uptoBulkAll spare + 1
  | .agg parts => uptoBulkAll parts + 1
  | .iface _ d => uptoBulk d + 1
  | .map entries => uptoBulkEntries entries + 1
  | .held _ => 1
def uptoBulkAll {H : Type} : List (DataW H) → Nat
  | [] => 0
  | d :: r => uptoBulk d + uptoBulkAll r
def uptoBulkEntries {H : Type} : List (Lit × DataW H) → Nat
  | [] => 0
  | x :: r => uptoBulkEntry x + uptoBulkEntries r
def uptoBulkEntry {H : Type} : Lit × DataW H → Nat
  | (.string bytes, d) => bytes.length + uptoBulk d + 1
  | (_, d) => uptoBulk d + 1
 end
def uptoSmall : (H : Type) → List (DataW H) → Bool := fun _ ds => decide (uptoBulkAll ds ≤ 1048576)
def OpenSpec.upto (s : _root_.Go.ChangeSpec) : _root_.Go.OpenSpec := { _root_.Go.OpenSpec.ofChange s with cond := some uptoSmall }

/-- 'provisionlaw05.GlobChecks', WHERE WHAT IT READS IS OF BULK AT MOST 1048576: true; the input reads as it did. -/
def globChecksUptoRow : OpenClaim := { program := "ytknkppbifpgkkaa", sum := "6fb2671bd5c543d5fdb5b647750aaf780368aebe9ee30e66676211b67e7ecfe9", func := "provision/provisionlaw05.GlobChecks", spec := "globChecks", inPlace := ["internal/bytealg.IndexByteString"], apart := false, narrowed := true }
def GlobChecksUptoSaid : Prop := globChecksUptoRow.holds Try.pinned (OpenSpec.upto globChecksSpec)

/-- 'provisionlaw05.GlobMatches', WHERE WHAT IT READS IS OF BULK AT MOST 1048576: true; the input reads as it did. -/
def globMatchesUptoRow : OpenClaim := { program := "ytknkppbifpgkkaa", sum := "6fb2671bd5c543d5fdb5b647750aaf780368aebe9ee30e66676211b67e7ecfe9", func := "provision/provisionlaw05.GlobMatches", spec := "globMatches", inPlace := ["internal/bytealg.IndexByteString"], apart := false, narrowed := true }
def GlobMatchesUptoSaid : Prop := globMatchesUptoRow.holds Try.pinned (OpenSpec.upto globMatchesSpec)

/-- 'provisionlaw05.GlobSplits', WHERE WHAT IT READS IS OF BULK AT MOST 1048576: true; the input reads as it did. -/
def globSplitsUptoRow : OpenClaim := { program := "ytknkppbifpgkkaa", sum := "6fb2671bd5c543d5fdb5b647750aaf780368aebe9ee30e66676211b67e7ecfe9", func := "provision/provisionlaw05.GlobSplits", spec := "globSplits", inPlace := ["internal/bytealg.IndexByteString"], recurses := true, apart := false, narrowed := true }
def GlobSplitsUptoSaid : Prop := globSplitsUptoRow.holds Try.pinned (OpenSpec.upto globSplitsSpec)

/-- 'provisionlaw05.GlobLiterals', WHERE WHAT IT READS IS OF BULK AT MOST 1048576: true; the input reads as it did. -/
def globLiteralsUptoRow : OpenClaim := { program := "ytknkppbifpgkkaa", sum := "6fb2671bd5c543d5fdb5b647750aaf780368aebe9ee30e66676211b67e7ecfe9", func := "provision/provisionlaw05.GlobLiterals", spec := "globLiterals", inPlace := ["internal/bytealg.IndexByteString"], apart := false, narrowed := true }
def GlobLiteralsUptoSaid : Prop := globLiteralsUptoRow.holds Try.pinned (OpenSpec.upto globLiteralsSpec)

/-- 'provisionlaw05.GlobWidens', WHERE WHAT IT READS IS OF BULK AT MOST 1048576: true; the input reads as it did. -/
def globWidensUptoRow : OpenClaim := { program := "ytknkppbifpgkkaa", sum := "6fb2671bd5c543d5fdb5b647750aaf780368aebe9ee30e66676211b67e7ecfe9", func := "provision/provisionlaw05.GlobWidens", spec := "globWidens", inPlace := ["internal/bytealg.IndexByteString"], apart := false, narrowed := true }
def GlobWidensUptoSaid : Prop := globWidensUptoRow.holds Try.pinned (OpenSpec.upto globWidensSpec)

end Rows
end Go.Proofs.Ytknkppbifpgkkaa
