/- FormatEqual: the law is fulfilled whatever it is handed (the number of the array's type is that of this seat). -/
import Derived.Test.YtmdefcidhgbikaaGreatDoorP16f
import Derived.Test.YtmdefcidhgbikaaGreatDoorTy
set_option linter.unusedVariables false
set_option linter.unusedSimpArgs false
set_option linter.unnecessarySimpa false
namespace Go.Ab.R06
open Go.Proofs Go.Ab Go.Ab.RB
theorem equal_all (qs : List PV) (h : WTa tt [31, 31, 42] qs) : PCalls Tryz.prog 4 qs (· = .p (.val (.bool true))) := by
  match qs, h with
  | [a, b, c], ⟨⟨n, h1, h2⟩, ⟨m, k1, k2⟩, ⟨j, l1, l2⟩, _⟩ =>
    obtain ⟨x, e1, b1⟩ := TExpr.dec n _ h1
    obtain rfl := mkA_eq e1 h2
    obtain ⟨y, e2, b2⟩ := TExpr.dec m _ k1
    obtain rfl := mkA_eq e2 k2
    cases j with
    | zero => exact l1.elim
    | succ j =>
      obtain ⟨p, q, e3, w1, w2⟩ := wts_cons (dec_array rfl l1)
      obtain ⟨p', q', e4, w3, w4⟩ := wts_cons w2
      obtain ⟨u, e5, b3⟩ := TBody.dec j _ w1
      obtain ⟨v, e6, b4⟩ := TBody.dec j _ w3
      have w4 : q' = [] := w4
      have e7 : c.cells = [eL eTAttribute u.fAttrs, eL eTBlock u.fBlocks, eL eTAttribute v.fAttrs, eL eTBlock v.fBlocks] := by rw [e3, e4, w4, e5, e6]; rfl
      obtain rfl := mkA_eq e7 l2
      obtain ⟨n, r, hr, rfl⟩ := ev_get (equal_law (l := (u, v)) b1 b2 b3 b4)
      exact law16_FormatEqual_ok n x y (u, v) true hr
end Go.Ab.R06
