/- The contract of the law GlobMatches, of all settled data of its parameters' types. -/
import Derived.Test.YtknkppbifpgkkaaGlobT
import Derived.Test.YtknkppbifpgkkaaAbW
set_option linter.unusedVariables false
set_option linter.unusedSimpArgs false
set_option linter.unnecessarySimpa false
namespace Go.Ab.Glob
open Go.Proofs Go.Ab

theorem matches_all (qs : List PV) (h : WTa tt [26, 9] qs) : PCalls Try.prog 4 qs (· = .p (.val (.bool true))) := by
  match qs, h with
  | [a, b], ⟨⟨n, h1, h2⟩, ⟨m, h3, h4⟩, _⟩ =>
    obtain ⟨s, h5, _⟩ := dec_str rfl h3
    obtain rfl := mk1_eq h5 h4
    cases n with
    | zero => exact h1.elim
    | succ n =>
      obtain ⟨l, h6, _, _⟩ := dec_list eS (fun _ => True) rfl h1 (fun x k1 k2 => by
        obtain ⟨y, k3, _⟩ := dec_str rfl k1
        exact ⟨y, mk1_eq k3 k2, trivial⟩)
      obtain rfl := mk1_eq h6 h2
      exact matches_row l s

end Go.Ab.Glob
