/- Equality of addresses, as the laws of chapter 06 say it. No program in sight. -/
import Derived.Test.YtijgdpmadidpaaaGreatDoorP02
import Derived.Test.YtijgdpmadidpaaaGreatDoorR06f
import Derived.Test.YtijgdpmadidpaaaGreatDoorM06
import Derived.Test.YtijgdpmadidpaaaGreatDoorAbW
set_option linter.unusedVariables false
set_option linter.unusedSimpArgs false
set_option linter.unnecessarySimpa false
namespace Go.Ab.R06
open Go.Proofs Go.Ab Go.Ab.RB

def addrEq (a b : TAddress) : Bool := decide (a = b)
theorem key_eq {a b : TKey} : a = b ↔ (a.fKind = b.fKind ∧ a.fNum = b.fNum ∧ a.fStr = b.fStr) := by
  cases a; cases b; simp
theorem step_eq {a b : TModuleStep} : a = b ↔ (a.fName = b.fName ∧ (a.fKey.fKind = b.fKey.fKind ∧ a.fKey.fNum = b.fKey.fNum ∧ a.fKey.fStr = b.fKey.fStr)) := by
  cases a; cases b; simp only [TModuleStep.mk.injEq, key_eq]
theorem addr_eq {a b : TAddress} : a = b ↔ (a.fModule = b.fModule ∧ a.fData = b.fData ∧ a.fType = b.fType ∧ a.fName = b.fName ∧ a.fKey = b.fKey) := by
  cases a; cases b; simp

theorem same_l1 (a b : TAddress) (hl : a.fModule.length = b.fModule.length) (hb : a.fModule.length ≤ 1000000) : ∀ (k i : Nat), i + k = a.fModule.length → Ev2 (fun _ m => law06_Same_l1 a b m (i : Int)) (· = if a.fModule.drop i = b.fModule.drop i then .inl () else .inr false) := by
  intro k
  induction k with
  | zero =>
    intro i hi
    refine ev_round ?_
    simp only [law06_Same_l1]
    refine ev_ifF (by omega) (ev_some ?_)
    rw [List.drop_of_length_le (by omega), List.drop_of_length_le (by omega), if_pos rfl]
  | succ k ih =>
    intro i hi
    refine ev_round ?_
    simp only [law06_Same_l1]
    have h1 : i < a.fModule.length := by omega
    have h2 : i < b.fModule.length := by omega
    refine ev_ifT (by omega) (ev_ck (by omega) (ev_ck (by omega) ?_))
    rw [lat_get _ _ h1, lat_get _ _ h2, List.drop_eq_getElem_cons h1, List.drop_eq_getElem_cons h2]
    have := ih (i + 1) (by omega)
    rw [Int.natCast_add, Int.natCast_one] at this
    refine ev_ite (fun h => ev_ck (inR_of (by omega) (by omega)) ?_) (fun h => ev_some ?_)
    · rw [← step_eq] at h
      refine ev_mono this fun r hr => ?_
      rw [hr]
      by_cases q : a.fModule.drop (i + 1) = b.fModule.drop (i + 1)
      · rw [if_pos q, if_pos (by rw [h, q])]
      · rw [if_neg q, if_neg (fun k => q (List.cons.inj k).2)]
    · rw [← step_eq] at h
      rw [if_neg (fun k => h (List.cons.inj k).1)]

theorem same_ev (a b : TAddress) (hb : a.fModule.length ≤ 1000000) : Ev2 (fun n _ => law06_Same n a b) (· = addrEq a b) := by
  simp only [law06_Same]
  unfold addrEq
  refine ev_to (decide (¬ (a.fModule.length = b.fModule.length ∧ a.fData = b.fData ∧ a.fType = b.fType ∧ a.fName = b.fName ∧ a.fKey = b.fKey))) ?_ ?_
  · refine ev_ite (fun h1 => ev_ite (fun h2 => ev_some ?_) (fun h2 => ev_ite (fun h3 => ev_ite (fun h4 => ev_some (eqB ?_)) (fun h4 => ev_some ?_)) (fun h3 => ev_some ?_))) (fun h1 => ev_some ?_)
    · symm; rw [decide_eq_true_eq]
      intro q; rw [q.2.1] at h2; simp at h2
    · have h1' : a.fModule.length = b.fModule.length := by omega
      have h2' : a.fData = b.fData := by simpa using h2
      rw [Bool.not_eq_true', decide_eq_false_iff_not, ← key_eq, decide_eq_true_eq]
      simp [h1', h2', h3, h4]
    · symm; rw [decide_eq_true_eq]; intro q; exact h4 q.2.2.2.1
    · symm; rw [decide_eq_true_eq]; intro q; exact h3 q.2.2.1
    · symm; rw [decide_eq_true_eq]; intro q; exact h1 (by have := q.1; omega)
  · refine ev_ite (fun h => ev_some ?_) (fun h => ?_)
    · symm; rw [decide_eq_false_iff_not]
      intro q
      have := of_decide_eq_true h
      subst q
      exact this ⟨rfl, rfl, rfl, rfl, rfl⟩
    · have h : a.fModule.length = b.fModule.length ∧ a.fData = b.fData ∧ a.fType = b.fType ∧ a.fName = b.fName ∧ a.fKey = b.fKey := by
        simpa only [decide_eq_true_eq, Decidable.not_not] using h
      have l := same_l1 a b h.1 hb a.fModule.length 0 (by omega)
      rw [List.drop_zero, List.drop_zero] at l
      by_cases q : a.fModule = b.fModule
      · rw [if_pos q] at l
        refine ev_jnL () (ev_loop l) (ev_some ?_)
        symm; rw [decide_eq_true_eq, addr_eq]; exact ⟨q, h.2⟩
      · rw [if_neg q] at l
        refine ev_jnR false (ev_loop l) ?_
        symm; rw [decide_eq_false_iff_not, addr_eq]; exact fun k => q k.1

end Go.Ab.R06
