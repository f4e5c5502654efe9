/- The contract of the law ReferenceTexts, of all settled data of its parameters' types. -/
import Derived.Test.YtmpmphkpplgbkaaT17
import Derived.Test.YtmpmphkpplgbkaaAbW
set_option linter.unusedVariables false
set_option linter.unusedSimpArgs false
set_option linter.unnecessarySimpa false
namespace Go.Ab.R17
open Go.Proofs Go.Ab

theorem dec_ref {n : Nat} {cs : List PV} (h : WTf tt (n + 1) 36 cs) : ∃ r : TRef, cs = TRef.cs r ∧ r.fType.length ≤ maxW ∧ r.fName.length ≤ maxW := by
  have h0 := dec_struct rfl h
  obtain ⟨c1, q1, rfl, k1, h0⟩ := wts_cons h0
  obtain ⟨c2, q2, rfl, k2, h0⟩ := wts_cons h0
  obtain ⟨c3, q3, rfl, k3, h0⟩ := wts_cons h0
  obtain ⟨c4, q4, rfl, k4, h0⟩ := wts_cons h0
  have e : q4 = [] := h0
  subst e
  obtain ⟨x1, rfl, _⟩ := dec_i64 rfl k1
  obtain ⟨x2, rfl, b2⟩ := dec_str rfl k2
  obtain ⟨x3, rfl, b3⟩ := dec_str rfl k3
  obtain ⟨x4, rfl, _⟩ := dec_i64 rfl k4
  exact ⟨TRef.mk x1 x2 x3 x4, rfl, b2, b3⟩

theorem texts_all (qs : List PV) (h : WTa tt [36, 36] qs) : PCalls Try.prog 4 qs (· = .p (.val (.bool true))) := by
  match qs, h with
  | [a, b], ⟨⟨n, h1, h2⟩, ⟨m, h3, h4⟩, _⟩ =>
    cases n with
    | zero => exact h1.elim
    | succ n =>
      cases m with
      | zero => exact h3.elim
      | succ m =>
        obtain ⟨x, e1, a1, a2⟩ := dec_ref h1
        obtain ⟨y, e2, b1, b2⟩ := dec_ref h3
        obtain rfl := mkA_eq e1 h2
        obtain rfl := mkA_eq e2 h4
        have hm : maxW ≤ 1152921504606846976 := by decide
        exact law17_ReferenceTexts_ok 100 x y true (law_texts x y ⟨by omega, by omega⟩ ⟨by omega, by omega⟩)

end Go.Ab.R17
