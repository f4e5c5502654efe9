/- Plain facts of chapter 16: the texts of literals. No program in sight. -/
import Derived.Test.YtmdefcidhgbikaaGreatDoorP16c
import Derived.Test.YtmdefcidhgbikaaGreatDoorR16t
import Derived.Lib.Replace
import Derived.Lib.CountLaws
set_option linter.unusedVariables false
set_option linter.unusedSimpArgs false
set_option linter.unnecessarySimpa false
namespace Go.Ab.R06
open Go.Ab Go.Ab.RB Go.Lib

/-! ### '${' is written '$${' -/
def escD : Bytes → Bytes
  | [] => []
  | b :: r => (if b = 36 ∧ r.head? = some 123 then [36, b] else [b]) ++ escD r
abbrev tO : Bytes := [36, 123]
abbrev tN : Bytes := [36, 36, 123]
theorem tO_pre (b : UInt8) (r : Bytes) : tO.isPrefixOf (b :: r) = true ↔ b = 36 ∧ r.head? = some 123 := by
  cases r with
  | nil => simp only [tO, List.isPrefixOf, Bool.and_false, List.head?_nil]; exact ⟨fun h => absurd h (by decide), fun h => by cases h.2⟩
  | cons c t =>
    simp only [tO, List.isPrefixOf, Bool.and_true, Bool.and_eq_true, beq_iff_eq, List.head?_cons, Option.some.injEq]
    exact ⟨fun h => ⟨h.1.symm, h.2.symm⟩, fun h => ⟨h.1.symm, h.2.symm⟩⟩
theorem escD_len : ∀ s : Bytes, s.length ≤ (escD s).length ∧ (escD s).length ≤ 2 * s.length
  | [] => by simp [escD]
  | b :: r => by
    have := escD_len r
    simp only [escD, List.length_append, List.length_cons]
    split <;> simp <;> omega
theorem replK : ∀ (n : Nat) (s : Bytes) (k : Nat), s.length ≤ n → count s tO ≤ k → replaceK tO tN k s = escD s
  | _, [], k, _, _ => by
    cases k with
    | zero => rfl
    | succ k => rfl
  | n + 1, b :: r, k, hn, hk => by
    simp only [List.length_cons] at hn
    by_cases hp : tO.isPrefixOf (b :: r) = true
    · obtain ⟨rfl, h2⟩ := (tO_pre b r).1 hp
      obtain ⟨t, rfl⟩ : ∃ t, r = 123 :: t := by
        cases r with
        | nil => cases h2
        | cons c t => simp at h2; subst h2; exact ⟨t, rfl⟩
      have hi : index (36 :: 123 :: t) tO = ((0 : Nat) : Int) := by simp only [index, hp, if_true]; rfl
      have hc := count_hit (sub := tO) (by decide) hi
      have hc : count (36 :: 123 :: t) tO = 1 + count t tO := by simpa [tO] using hc
      obtain ⟨k, rfl⟩ : ∃ j, k = j + 1 := ⟨k - 1, by omega⟩
      rw [replaceK_hit _ _ _ _ 0 hi]
      have ih := replK n t k (by simp only [List.length_cons] at hn; omega) (by omega)
      have hd : (36 :: 123 :: t : Bytes).drop (0 + tO.length) = t := by simp [tO]
      rw [hd, ih]
      have h123 : ¬ ((123 : UInt8) = 36 ∧ t.head? = some 123) := fun h => absurd h.1 (by decide)
      simp [escD, tN, h123]
    · have hp' : tO.isPrefixOf (b :: r) = false := Bool.eq_false_iff.2 hp
      have hne : ¬ (b = 36 ∧ r.head? = some 123) := fun h => hp ((tO_pre b r).2 h)
      have hx : index (b :: r) tO = if index r tO == -1 then -1 else index r tO + 1 := by simp [index, hp']
      have hge := index_ge r tO
      have he : escD (b :: r) = b :: escD r := by simp [escD, hne]
      by_cases hm : index r tO = -1
      · rw [hm] at hx
        have hx : index (b :: r) tO = -1 := by simpa using hx
        have ih := replK n r k (by omega) (by rw [count_miss hm]; omega)
        have h1 : replaceK tO tN k (b :: r) = b :: r := by
          cases k with
          | zero => rfl
          | succ k => rw [replaceK, hx]; rfl
        have h2 : replaceK tO tN k r = r := by
          cases k with
          | zero => rfl
          | succ k => rw [replaceK, hm]; rfl
        rw [h1, he, ← ih, h2]
      · obtain ⟨i, hi⟩ : ∃ i : Nat, index r tO = i := ⟨(index r tO).toNat, by omega⟩
        have hx : index (b :: r) tO = ((i + 1 : Nat) : Int) := by
          rw [hx, hi, if_neg (by rw [beq_iff_eq]; omega)]; omega
        have c1 := count_hit (sub := tO) (by decide) hx
        have c2 := count_hit (sub := tO) (by decide) hi
        have hd : (b :: r).drop (i + 1 + tO.length) = r.drop (i + tO.length) := by
          rw [show i + 1 + tO.length = (i + tO.length) + 1 by omega, List.drop_succ_cons]
        rw [hd] at c1
        obtain ⟨k, rfl⟩ : ∃ j, k = j + 1 := ⟨k - 1, by omega⟩
        have ih := replK n r (k + 1) (by omega) (by omega)
        rw [replaceK_hit _ _ _ _ (i + 1) hx, hd, he, ← ih, replaceK_hit _ _ _ _ i hi]
        simp
theorem replAll (s : Bytes) : replaceAll s tO tN = escD s := by
  unfold replaceAll replace
  rw [if_neg (by decide)]
  refine replK s.length s _ (Nat.le_refl _) ?_
  unfold replaceNum
  rw [if_pos (.inl (by decide))]
  exact Nat.le_refl _
theorem count_half : ∀ (n : Nat) (s : Bytes), s.length ≤ n → count s tO * 2 ≤ s.length
  | 0, s, h => by
    obtain rfl := List.eq_nil_of_length_eq_zero (by omega : s.length = 0)
    rw [count_miss rfl]; simp
  | n + 1, s, h => by
    by_cases hm : index s tO = -1
    · rw [count_miss hm]; omega
    · have hge := index_ge s tO
      obtain ⟨i, hi⟩ : ∃ i : Nat, index s tO = i := ⟨(index s tO).toNat, by omega⟩
      have hr := index_room s tO (by omega)
      have c := count_hit (sub := tO) (by decide) hi
      have hl : tO.length = 2 := rfl
      rw [hl] at hr c
      have ih := count_half n (s.drop (i + 2)) (by rw [List.length_drop]; omega)
      rw [List.length_drop] at ih
      omega
theorem escape_eq (s : Bytes) (hs : s.length ≤ 1000000) : strlit_Escape s = some (escD s) := by
  unfold strlit_Escape strings_ReplaceAll
  have h1 := count_half s.length s (Nat.le_refl _)
  have h2 : countB (str s) (str tO) = count s tO := by unfold countB; rw [str_list, str_list]
  rw [ck_pos ⟨by omega, by decide, by rw [h2]; simp only [List.length_cons, List.length_nil]; omega⟩]
  simp only [Option.bind_some]
  rw [replAll]
end Go.Ab.R06
