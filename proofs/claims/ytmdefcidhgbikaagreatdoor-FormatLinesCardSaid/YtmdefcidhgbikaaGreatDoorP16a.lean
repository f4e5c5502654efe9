/- Plain facts of chapter 16: what valid expressions and bodies are. No program in sight. -/
import Derived.Test.YtmdefcidhgbikaaGreatDoorP02r
import Derived.Test.YtmdefcidhgbikaaGreatDoorR16q
import Derived.Test.YtmdefcidhgbikaaGreatDoorDec16
set_option linter.unusedVariables false
set_option linter.unusedSimpArgs false
set_option linter.unnecessarySimpa false
namespace Go.Ab.R06
open Go.Ab Go.Ab.RB Go.Lib
theorem rletter (b : UInt8) : ref06_letter (b.toNat : Int) = some (letB b) := by
  simp only [ref06_letter]
  have h := letB_iff b
  generalize letB b = o at h ⊢
  have mk : ∀ x : Bool, (x = true ↔ (97 ≤ b.toNat ∧ b.toNat ≤ 122) ∨ (65 ≤ b.toNat ∧ b.toNat ≤ 90) ∨ b.toNat = 95) → some x = some o := fun x hx => congrArg some (eqB (by rw [hx, h]))
  repeat' split
  all_goals (simp only [Option.bind_some]; apply mk; first | (rw [decide_eq_true_eq]; omega) | (simp; omega))
theorem rident_l1 (s : Bytes) (hs : s.length ≤ 1000000) : ∀ (k i : Nat), i + k = s.length → Ev2 (fun _ m => ref06_Identifier_l1 s m (i : Int)) (· = if allN (fun j => idB (s.getD j 0)) i k then .inl () else .inr false) := by
  intro k
  induction k with
  | zero =>
    intro i hi
    refine ev_round ?_
    simp only [ref06_Identifier_l1]
    refine ev_ifF (by omega) (ev_some rfl)
  | succ k ih =>
    intro i hi
    refine ev_round ?_
    simp only [ref06_Identifier_l1]
    refine ev_ifT (by omega) ?_
    have hb : byt s i = ((s.getD i 0).toNat : Int) := byt_nat s i
    rw [hb]
    refine ev_to (!idB (s.getD i 0)) ?_ ?_
    · refine ev_ck (by omega) (ev_to _ (ev_const (rletter _) rfl) ?_)
      have h := digB_iff (s.getD i 0)
      simp only [idB]
      generalize s.getD i 0 = b at h ⊢
      cases hl : letB b with
      | true => exact ev_ifF (by simp) (ev_some (by simp))
      | false =>
        refine ev_ifT (by simp) (ev_ck (by omega) (ev_ite (fun h1 => ev_some ?_) (fun h1 => ev_ck (by omega) (ev_some ?_))))
        · have : digB b = false := by rw [← Bool.not_eq_true, h]; omega
          simp [this]
        · refine eqB ?_
          rw [decide_eq_true_eq, Bool.false_or, Bool.not_eq_true', ← Bool.not_eq_true, h]
          omega
    · cases hk : idB (s.getD i 0) with
      | false => exact ev_ifT rfl (ev_some (by simp only [allN, hk, Bool.false_and]; rfl))
      | true =>
        refine ev_ifF (by simp) (ev_ck (inR_of (by omega) (by omega)) ?_)
        have := ih (i + 1) (by omega)
        rw [Int.natCast_add, Int.natCast_one] at this
        simp only [allN, hk, Bool.true_and]
        exact this
theorem rident_ev (s : Bytes) (hs : s.length ≤ 1000000) : Ev2 (fun n _ => ref06_Identifier n s) (· = identB s) := by
  simp only [ref06_Identifier]
  have hi := identB_iff2 s
  refine ev_to (decide (s = []) || decide (64 < (s.length : Int)) || !letB (s.getD 0 0)) ?_ ?_
  · refine ev_ite (fun h => ev_some (by simp [h])) (fun h => ev_ite (fun h1 => ev_some (by simp [h1])) (fun h1 => ev_ck ?_ ?_))
    · have := List.length_pos_iff.2 h; omega
    · refine ev_to (letB (s.getD 0 0)) (ev_const (rletter _) rfl) (ev_some ?_)
      have : decide (64 < (s.length : Int)) = false := decide_eq_false h1
      simp [h, this]
  · refine ev_ite (fun h => ev_some (eqB ?_)) (fun h => ?_)
    · rw [hi]; simp at h ⊢; intro q1 q2 q3
      rcases h with (h | h) | h
      · exact absurd h q1
      · omega
      · rw [h] at q3; cases q3
    · have l := rident_l1 s hs s.length 0 (by omega)
      simp only [Bool.or_eq_true, decide_eq_true_eq, not_or] at h
      obtain ⟨⟨h1, h2⟩, h3⟩ := h
      have h3 : letB (s.getD 0 0) = true := by simpa using h3
      cases ha : allN (fun j => idB (s.getD j 0)) 0 s.length with
      | false =>
        rw [ha] at l hi
        refine ev_jnR false (ev_loop l) (eqB ?_)
        rw [hi]; simp
      | true =>
        rw [ha] at l hi
        refine ev_jnL () (ev_loop l) (ev_some (eqB ?_))
        rw [hi]; simp only [true_iff]
        exact ⟨h1, by omega, h3, trivial⟩
theorem ridentA (s : Bytes) : Ev2 (fun n _ => ref06_Identifier n s) (· = identB s) := by
  by_cases hs : s.length ≤ 1000000
  · exact rident_ev s hs
  · have hi : identB s = false := by
      cases h : identB s with
      | false => rfl
      | true => have := ((identB_iff s).1 h).2.1; omega
    have hne : s ≠ [] := fun h => by subst h; simp at hs
    simp only [ref06_Identifier, hi]
    exact ev_to true (ev_ifF hne (ev_ifT (by omega) (ev_some rfl))) (ev_ifT rfl (ev_some rfl))
theorem rvalidA (s : Bytes) : Ev2 (fun n _ => ref02_Valid n s) (· = (decide (s.length ≤ 4096) && validD s)) := by
  by_cases hs : s.length ≤ 1000000
  · exact rvalid_ev s hs
  · simp only [ref02_Valid]
    exact ev_ifT (by omega) (ev_some (by simp; omega))
section
variable {α β : Type}
theorem tp_ite {p : Prop} [Decidable p] {a b : Option α} (h1 : p → ∃ r, a = some r) (h2 : ¬p → ∃ r, b = some r) : ∃ r, (if p then a else b) = some r := by
  by_cases h : p
  · simpa only [if_pos h] using h1 h
  · simpa only [if_neg h] using h2 h
theorem tp_bind {g : Option β} {k : β → Option α} (h : ∃ r, g = some r) (hk : ∀ x, ∃ r, k x = some r) : ∃ r, g.bind k = some r := by
  obtain ⟨x, rfl⟩ := h
  exact hk x
theorem ev_tot {o : Option α} (h : ∃ r, o = some r) : Ev2 (fun _ _ => o) (fun r => o = some r) := by
  obtain ⟨r, hr⟩ := h
  exact ev_const hr hr
end
theorem t_res (s : Bytes) : ∃ r, ref14_Reserved s = some r := by unfold ref14_Reserved; repeat' (first | exact ⟨_, rfl⟩ | refine tp_bind ?_ (fun _ => ?_) | refine tp_ite (fun _ => ?_) (fun _ => ?_) | refine tp_ck (by decide) ?_)
def resB (s : Bytes) : Bool := (ref14_Reserved s).getD false
theorem rres (s : Bytes) : ref14_Reserved s = some (resB s) := by
  obtain ⟨r, h⟩ := t_res s
  unfold resB; rw [h]; rfl
theorem t_loop (k : Int) : ∃ r, ref14_loop k = some r := by unfold ref14_loop; repeat' (first | exact ⟨_, rfl⟩ | refine tp_bind ?_ (fun _ => ?_) | refine tp_ite (fun _ => ?_) (fun _ => ?_) | refine tp_ck (by decide) ?_)
theorem t_named (k : Int) : ∃ r, ref14_named k = some r := by unfold ref14_named; repeat' (first | exact ⟨_, rfl⟩ | exact t_loop _ | refine tp_bind ?_ (fun _ => ?_) | refine tp_ite (fun _ => ?_) (fun _ => ?_) | refine tp_ck (by decide) ?_)
theorem t_kids (k n : Int) : ∃ r, ref14_kids k n = some r := by unfold ref14_kids; repeat' (first | exact ⟨_, rfl⟩ | exact t_loop _ | exact t_named _ | refine tp_bind ?_ (fun _ => ?_) | refine tp_ite (fun _ => ?_) (fun _ => ?_) | refine tp_ck (by decide) ?_)
theorem t_zero (v : TValue) : ∃ r, ref14_zero v = some r := by unfold ref14_zero; repeat' (first | exact ⟨_, rfl⟩ | exact t_loop _ | exact t_named _ | exact t_kids _ _ | refine tp_bind ?_ (fun _ => ?_) | refine tp_ite (fun _ => ?_) (fun _ => ?_) | refine tp_ck (by decide) ?_)
theorem t_shaped (e : TExpr) : ∃ r, ref14_shaped e = some r := by unfold ref14_shaped; repeat' (first | exact ⟨_, rfl⟩ | exact t_loop _ | exact t_named _ | exact t_kids _ _ | exact t_zero _ | refine tp_bind ?_ (fun _ => ?_) | refine tp_ite (fun _ => ?_) (fun _ => ?_) | refine tp_ck (by decide) ?_)
theorem t_vshaped (v : TValue) : ∃ r, ref07_shaped v = some r := by unfold ref07_shaped; repeat' (first | exact ⟨_, rfl⟩ | exact t_loop _ | exact t_named _ | exact t_kids _ _ | exact t_zero _ | refine tp_bind ?_ (fun _ => ?_) | refine tp_ite (fun _ => ?_) (fun _ => ?_) | refine tp_ck (by decide) ?_)
theorem t_nvalid (n : Int) : ∃ r, ref01_Valid n = some r := by unfold ref01_Valid; repeat' (first | exact ⟨_, rfl⟩ | exact t_loop _ | exact t_named _ | exact t_kids _ _ | exact t_zero _ | refine tp_bind ?_ (fun _ => ?_) | refine tp_ite (fun _ => ?_) (fun _ => ?_) | refine tp_ck (by decide) ?_)
end Go.Ab.R06
