/- The plain law of ReferenceTexts. -/
import Derived.Test.YtmpmphkpplgbkaaR17t
import Derived.Test.YtmpmphkpplgbkaaAbS
set_option linter.unusedVariables false
set_option linter.unusedSimpArgs false
set_option linter.unnecessarySimpa false
namespace Go.Ab.R17
open Go.Ab

theorem awake_some : law17_awake 100 = some true := by decide
theorem text_eq (r : TRef) (h : r.fType.length + r.fName.length ≤ 1000) : ∃ t, reference_Text r = some t ∧ ref17_Text r = some t := by
  unfold reference_Text ref17_Text
  by_cases h1 : r.fKind = 1
  · simp [h1, ck]; omega
  by_cases h2 : r.fKind = 2
  · simp [h2, ck]; omega
  by_cases h3 : r.fKind = 3
  · simp [h3, ck]; omega
  by_cases h4 : r.fKind = 4
  · simp [h4, ck]; omega
  by_cases h5 : r.fKind = 5
  · by_cases ht : r.fType = []
    · simp [h5, ht, ck]; omega
    · simp [h5, ht, ck]; omega
  by_cases h6 : r.fKind = 6
  · simp [h6, ck]; omega
  by_cases h7 : r.fKind = 7
  · simp [h7, ck]; omega
  by_cases h8 : r.fKind = 8
  · simp [h8, ck]; omega
  by_cases h9 : r.fKind = 9
  · simp [h9, ck]
  simp [h1, h2, h3, h4, h5, h6, h7, h8, h9, ck]

theorem same_eq (a b : TRef) : reference_Same a b = ref17_Same a b := rfl
theorem same_some (a b : TRef) : ∃ x, reference_Same a b = some x := by
  unfold reference_Same
  split
  · split <;> exact ⟨_, rfl⟩
  · exact ⟨_, rfl⟩
theorem same_self (a : TRef) : reference_Same a a = some true := by
  unfold reference_Same
  simp

theorem law_texts (a b : TRef) (ha : a.fType.length ≤ 1152921504606846976 ∧ a.fName.length ≤ 1152921504606846976) (hb : b.fType.length ≤ 1152921504606846976 ∧ b.fName.length ≤ 1152921504606846976) : law17_ReferenceTexts 100 a b = some true := by
  unfold law17_ReferenceTexts
  rw [ck_pos (inR_of (by omega) (by omega)), ck_pos (inR_of (by omega) (by omega)), ck_pos (inR_of (by omega) (by omega))]
  split
  · rw [awake_some]; rfl
  · rename_i h
    obtain ⟨t, h1, h2⟩ := text_eq a (by omega)
    obtain ⟨x, h3⟩ := same_some a b
    rw [h1, h2]
    simp only [bd_some, if_true, h3, ← same_eq, same_self, awake_some]
    simp
end Go.Ab.R17
