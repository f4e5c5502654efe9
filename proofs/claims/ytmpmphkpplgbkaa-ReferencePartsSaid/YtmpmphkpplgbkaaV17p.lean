/- The contract of the law ReferenceParts, of all settled data of its parameters' types. -/
import Derived.Test.YtmpmphkpplgbkaaP17p
set_option linter.unusedVariables false
set_option linter.unusedSimpArgs false
set_option linter.unnecessarySimpa false
namespace Go.Ab.R17
open Go.Proofs Go.Ab

theorem parts_all (qs : List PV) (h : WTa tt [31, 31] qs) : PCalls Try.prog 6 qs (· = .p (.val (.bool true))) := by
  match qs, h with
  | [a, b], ⟨⟨n, h1, h2⟩, ⟨m, h3, h4⟩, _⟩ =>
    obtain ⟨x, e1, a1⟩ := TExpr.dec n _ h1
    obtain rfl := mkA_eq e1 h2
    obtain ⟨y, e2, a2⟩ := TExpr.dec m _ h3
    obtain rfl := mkA_eq e2 h4
    obtain ⟨n, r, h5, rfl⟩ := ev_get (law_parts x y a1 a2)
    exact law17_ReferenceParts_ok n x y true h5

end Go.Ab.R17
