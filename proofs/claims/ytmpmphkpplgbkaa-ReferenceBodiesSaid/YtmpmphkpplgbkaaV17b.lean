/- The contract of the law ReferenceBodies, of all settled data of its parameters' types. -/
import Derived.Test.YtmpmphkpplgbkaaP17i
set_option linter.unusedVariables false
set_option linter.unusedSimpArgs false
set_option linter.unnecessarySimpa false
namespace Go.Ab.R17
open Go.Proofs Go.Ab

theorem bodies_all (qs : List PV) (h : WTa tt [53] qs) : PCalls Try.prog 7 qs (· = .p (.val (.bool true))) := by
  match qs, h with
  | [a], ⟨⟨n, h1, h2⟩, _⟩ =>
    obtain ⟨x, e1, a1⟩ := TBody.dec n _ h1
    obtain rfl := mkA_eq e1 h2
    obtain ⟨n, r, h3, rfl⟩ := ev_get (law_bodies x a1)
    exact law17_ReferenceBodies_ok n x true h3

end Go.Ab.R17
