/- Plain facts of chapter 16: levels, signs, keys, lists. No program in sight. -/
import Derived.Test.YtmdefcidhgbikaaGreatDoorP16i
set_option linter.unusedVariables false
set_option linter.unusedSimpArgs false
set_option linter.unnecessarySimpa false
namespace Go.Ab.R06
open Go.Ab Go.Ab.RB Go.Lib

/-! ### Levels and signs -/
theorem flevel (e : TExpr) : format_level e = some (lvl e) := by
  obtain ⟨r, h⟩ : ∃ r, format_level e = some r := by
    unfold format_level
    repeat' (first | exact ⟨_, rfl⟩ | refine tp_ite (fun _ => ?_) (fun _ => ?_))
  unfold lvl; rw [h]; rfl
theorem rlevel {e : TExpr} (h : e.fKind = 7 → 3 ≤ e.fOp) : ref16_level e = some (lvl e) := by
  rw [← flevel]
  unfold ref16_level format_level
  by_cases h8 : e.fKind = 8
  · rw [if_pos h8, if_pos h8]
  by_cases h6 : e.fKind = 6
  · rw [if_neg h8, if_neg h8, if_pos h6, if_pos h6]
  by_cases h7 : e.fKind = 7
  · rw [if_neg h8, if_neg h8, if_neg h6, if_neg h6, if_pos h7, if_pos h7]
    have := h h7
    unfold ref16_binary
    by_cases a3 : e.fOp = 3
    · simp [a3]
    by_cases a4 : e.fOp = 4
    · simp [a4]
    by_cases a5 : e.fOp = 5
    · simp [a5]
    by_cases a6 : e.fOp = 6
    · simp [a6]
    by_cases a7 : e.fOp = 7
    · simp [a7]
    by_cases a8 : e.fOp = 8
    · simp [a8]
    by_cases a9 : e.fOp = 9
    · simp [a9]
    by_cases a10 : e.fOp = 10
    · simp [a10]
    by_cases a11 : e.fOp = 11
    · simp [a11]
    by_cases a12 : e.fOp = 12
    · simp [a12]
    · simp [a3, a4, a5, a6, a7, a8, a9, a10, a11, a12, show ¬ e.fOp ≤ 6 by omega, show ¬ e.fOp ≤ 10 by omega, show ¬ e.fOp ≤ 12 by omega]
  · rw [if_neg h8, if_neg h8, if_neg h6, if_neg h6, if_neg h7, if_neg h7]
theorem lvl_range (e : TExpr) : 0 ≤ lvl e ∧ lvl e ≤ 8 := by
  unfold lvl format_level
  repeat' split
  all_goals simp
theorem fsign {o : Int} (h0 : 0 ≤ o) (h1 : o < 16) : format_sign o = some (sgn o) := by
  obtain ⟨r, h⟩ : ∃ r, format_sign o = some r := by
    unfold format_sign
    rw [if_neg (by omega)]
    simp only [Option.bind_some]
    rw [if_neg (by rw [decide_eq_true_eq]; omega), ck_pos ⟨h0, h1⟩]
    exact ⟨_, rfl⟩
  unfold sgn; rw [h]; rfl
theorem rsign {o : Int} (h0 : 0 ≤ o) (h1 : o < 16) : ref16_sign o = some (sgn o) := by
  rw [← fsign h0 h1]
  unfold format_sign ref16_sign
  rw [if_neg (by omega)]
  simp only [Option.bind_some]
  rw [if_neg (by rw [decide_eq_true_eq]; omega), ck_pos ⟨h0, h1⟩, ck_pos ⟨h0, by show o < (16 : Int); exact h1⟩]
theorem sgn_len (o : Int) : (sgn o).length ≤ 2 := by
  unfold sgn format_sign
  by_cases h : o < 0
  · rw [if_pos h]; simp
  · rw [if_neg h]
    by_cases h1 : 16 ≤ o
    · simp [h1]
    · simp only [Option.bind_some]
      rw [if_neg (by rw [decide_eq_true_eq]; omega), ck_pos ⟨by omega, by omega⟩]
      obtain ⟨k, rfl⟩ : ∃ k : Nat, o = k := ⟨o.toNat, by omega⟩
      have hk : k < 16 := by omega
      rw [Option.getD_some, lat_nat]
      have : ∀ j : Fin 16, (([([] : Bytes), ([33] : Bytes), ([45] : Bytes), ([124, 124] : Bytes), ([38, 38] : Bytes), ([61, 61] : Bytes), ([33, 61] : Bytes), ([60] : Bytes), ([60, 61] : Bytes), ([62] : Bytes), ([62, 61] : Bytes), ([43] : Bytes), ([45] : Bytes), ([42] : Bytes), ([47] : Bytes), ([37] : Bytes)] : List Bytes).getD j.1 default).length ≤ 2 := by decide
      exact this ⟨k, hk⟩
/-! ### Keys -/
theorem bare_l1 (s : Bytes) (hs : s.length ≤ 1000000) : ∀ (k i : Nat), i + k = s.length → Ev2 (fun _ m => format_bare_l1 s m (i : Int)) (· = if allN (okAt s) i k then .inl () else .inr false) := by
  intro k
  induction k with
  | zero =>
    intro i hi
    refine ev_round ?_
    simp only [format_bare_l1]
    exact ev_ifF (by omega) (ev_some rfl)
  | succ k ih =>
    intro i hi
    have hb := letB_iff (s.getD i 0)
    have hd := digB_iff (s.getD i 0)
    have ho := or_let (s.getD i 0)
    refine ev_round ?_
    simp only [format_bare_l1, byt_nat]
    refine ev_ifT (by omega) (ev_ck (by omega) ?_)
    refine ev_to (!okAt s i) (ev_ck (by omega) ?_) ?_
    · refine ev_ite (fun h1 => ev_some ?_) (fun h1 => ?_)
      · symm; rw [Bool.not_eq_false', okAt_iff]; left; rw [hb]; omega
      · have rest : ¬ (97 ≤ iOr .u8 ((s.getD i 0).toNat : Int) 32 ∧ iOr .u8 ((s.getD i 0).toNat : Int) 32 ≤ 122) → Ev2 (fun _ _ => if (i : Int) = 0 then some true else ck ((0 : Int) ≤ (i : Int) ∧ (i : Int) < (s.length : Int)) <| if ((s.getD i 0).toNat : Int) < 48 then some true else ck ((0 : Int) ≤ (i : Int) ∧ (i : Int) < (s.length : Int)) <| some (decide (57 < ((s.getD i 0).toNat : Int)))) (· = !okAt s i) := by
          intro hn
          have hl : letB (s.getD i 0) = false := by
            rw [Bool.eq_false_iff]
            intro h
            rw [hb] at h
            rcases h with h | h | h
            · exact hn (ho.2 (.inl h))
            · exact hn (ho.2 (.inr h))
            · omega
          refine ev_ite (fun h2 => ev_some ?_) (fun h2 => ev_ck (by omega) (ev_ite (fun h3 => ev_some ?_) (fun h3 => ev_ck (by omega) (ev_some ?_))))
          · have : i = 0 := by omega
            subst this
            simp only [okAt, hl]; simp
          · have : digB (s.getD i 0) = false := by rw [Bool.eq_false_iff]; intro h; rw [hd] at h; omega
            simp only [okAt, hl, this]; simp
          · have hi0 : i ≠ 0 := by omega
            refine eqB ?_
            rw [decide_eq_true_eq, Bool.not_eq_true', Bool.eq_false_iff, ne_eq, okAt_iff, hl]
            constructor
            · intro h k; rcases k with k | k
              · cases k
              · rw [hd] at k; omega
            · intro h; have : ¬ (48 ≤ (s.getD i 0).toNat ∧ (s.getD i 0).toNat ≤ 57) := fun k => h (.inr ⟨hi0, hd.2 k⟩)
              omega
        refine ev_ite (fun h2 => rest (by omega)) (fun h2 => ev_ite (fun h3 => rest (by omega)) (fun h3 => ev_some ?_))
        symm; rw [Bool.not_eq_false', okAt_iff]; left
        rw [hb]
        have := ho.1 ⟨by omega, by omega⟩
        omega
    · cases hk : okAt s i with
      | false => exact ev_ifT rfl (ev_some (by simp only [allN, hk, Bool.false_and]; rfl))
      | true =>
        refine ev_ifF (by simp) (ev_ck (inR_of (by omega) (by omega)) ?_)
        simp only [allN, hk, Bool.true_and]
        exact nat_succ (P := fun j => Ev2 (fun _ m => format_bare_l1 s m j) _) (ih (i + 1) (by omega))
end Go.Ab.R06
