/- The contract of the law ReferenceBound, of all settled data of its parameters' types. -/
import Derived.Test.YtmpmphkpplgbkaaP17r
set_option linter.unusedVariables false
set_option linter.unusedSimpArgs false
set_option linter.unnecessarySimpa false
namespace Go.Ab.R17
open Go.Proofs Go.Ab

theorem bound_all (qs : List PV) (h : WTa tt [31, 9] qs) : PCalls Try.prog 5 qs (· = .p (.val (.bool true))) := by
  match qs, h with
  | [a, b], ⟨⟨n, h1, h2⟩, ⟨m, h3, h4⟩, _⟩ =>
    obtain ⟨x, e1, a1⟩ := TExpr.dec n _ h1
    obtain rfl := mkA_eq e1 h2
    obtain ⟨s, h5, _⟩ := dec_str rfl h3
    obtain rfl := mk1_eq h5 h4
    obtain ⟨n, r, h6, rfl⟩ := ev_get (law_bound x a1 s)
    exact law17_ReferenceBound_ok n x s true h6

end Go.Ab.R17
