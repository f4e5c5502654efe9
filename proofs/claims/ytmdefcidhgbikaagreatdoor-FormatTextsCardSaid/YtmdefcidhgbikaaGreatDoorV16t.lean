/- FormatTexts: the law is fulfilled whatever it is handed. -/
import Derived.Test.YtmdefcidhgbikaaGreatDoorP16y
import Derived.Test.YtmdefcidhgbikaaGreatDoorTy
set_option linter.unusedVariables false
set_option linter.unusedSimpArgs false
set_option linter.unnecessarySimpa false
namespace Go.Ab.R06
open Go.Proofs Go.Ab Go.Ab.RB
theorem texts_all (qs : List PV) (h : WTa tt [31, 35] qs) : PCalls Tryz.prog 3 qs (· = .p (.val (.bool true))) := by
  match qs, h with
  | [a, b], ⟨⟨n, h1, h2⟩, ⟨m, k1, k2⟩, _⟩ =>
    obtain ⟨x, e1, b1⟩ := TExpr.dec n _ h1
    obtain rfl := mkA_eq e1 h2
    obtain ⟨y, e2, b2⟩ := TBody.dec m _ k1
    obtain rfl := mkA_eq e2 k2
    obtain ⟨n, r, hr, rfl⟩ := ev_get (texts_law b1 b2)
    exact law16_FormatTexts_ok n x y true hr
end Go.Ab.R06
