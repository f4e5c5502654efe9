/- Plain facts of chapter 42: lists of short strings, the check of targets, few. No program in sight. -/
import Derived.Test.YtgdcfenbmcflkaaGreatDoorR42a
import Derived.Test.YtgdcfenbmcflkaaGreatDoorAbEv
import Derived.Test.YtgdcfenbmcflkaaGreatDoorM42
import Derived.Test.YtgdcfenbmcflkaaGreatDoorDec42
set_option linter.unusedVariables false
set_option linter.unusedSimpArgs false
set_option linter.unnecessarySimpa false
namespace Go.Ab.R06
open Go.Ab Go.Ab.RB Go.Lib

theorem ev_tp {α β : Type} {P : α → Prop} {g : Nat → Nat → Option β} {k : Nat → Nat → β → Option α} (x : β) (h : Ev2 g (· = x)) (hk : Ev2 (fun n m => k n m x) P) : Ev2 (fun n m => (g n m).bind (k n m)) P := ev_cut (· = x) h (fun _ e => by subst e; exact hk)
theorem maxW_42 : maxW ≤ 9000000000000000000 := by decide
/-- At most so many strings, of at most 300 bytes. -/
def shortP (l : List Bytes) (most : Int) : Bool := decide ((l.length : Int) ≤ most) && l.all fun s => decide (s.length ≤ 300)
theorem short_l1 (l : List Bytes) (hb : l.length ≤ maxW) : ∀ (k i : Nat), i + k = l.length → Ev2 (fun _ m => law42_short_l1 l m (i : Int)) (· = if ((l.drop i).all fun s => decide (s.length ≤ 300)) = true then .inl () else .inr false) := by
  have hW := maxW_42
  intro k
  induction k with
  | zero =>
    intro i hi
    refine ev_round ?_
    simp only [law42_short_l1]
    exact ev_ifF (by omega) (ev_some (by rw [List.drop_of_length_le (by omega)]; simp))
  | succ k ih =>
    intro i hi
    have h1 : i < l.length := by omega
    refine ev_round ?_
    simp only [law42_short_l1]
    refine ev_ifT (by omega) (ev_ck (by omega) ?_)
    rw [lat_get _ _ h1, List.drop_eq_getElem_cons h1, List.all_cons]
    refine ev_ite (fun h => ev_some (by rw [decide_eq_false (by omega)]; rfl)) (fun h => ev_ck (inR_of (by omega) (by omega)) ?_)
    have := ih (i + 1) (by omega)
    rw [Int.natCast_add, Int.natCast_one] at this
    refine ev_mono this fun r hr => ?_
    rw [hr, decide_eq_true (show l[i].length ≤ 300 by omega), Bool.true_and]
theorem short_ev (l : List Bytes) (most : Int) (hb : l.length ≤ maxW) : Ev2 (fun n _ => law42_short n l most) (· = shortP l most) := by
  simp only [law42_short]
  unfold shortP
  refine ev_ite (fun h => ev_some (by rw [decide_eq_false (by omega)]; rfl)) (fun h => ?_)
  rw [decide_eq_true (show (l.length : Int) ≤ most by omega), Bool.true_and]
  have l1 := short_l1 l hb l.length 0 (by omega)
  rw [List.drop_zero] at l1
  cases hq : l.all fun s => decide (s.length ≤ 300)
  · rw [if_neg (by simp [hq])] at l1
    exact ev_jnR false (ev_loop l1) rfl
  · rw [if_pos hq] at l1
    exact ev_jnL () (ev_loop l1) (ev_some rfl)
theorem shortP_len {l : List Bytes} {most : Int} (h : shortP l most = true) : (l.length : Int) ≤ most ∧ ∀ s ∈ l, s.length ≤ 300 := by
  unfold shortP at h
  rw [Bool.and_eq_true, decide_eq_true_eq, List.all_eq_true] at h
  exact ⟨h.1, fun s hs => by simpa using h.2 s hs⟩

/-- The first answer that is not 0. -/
def firstP (f : Bytes → Int) : List Bytes → Int
  | [] => 0
  | s :: r => if f s = 0 then firstP f r else f s
theorem tcheck_l1 (l : List Bytes) (hb : l.length ≤ 65536) (hs : ∀ s ∈ l, s.length ≤ 65536) : ∀ (k i : Nat), i + k = l.length → Ev2 (fun _ m => target_Check_l1 l m (i : Int)) (· = if firstP Glob.check (l.drop i) = 0 then .inl () else .inr (firstP Glob.check (l.drop i))) := by
  intro k
  induction k with
  | zero =>
    intro i hi
    refine ev_round ?_
    simp only [target_Check_l1]
    exact ev_ifF (by omega) (ev_some (by rw [List.drop_of_length_le (by omega)]; rfl))
  | succ k ih =>
    intro i hi
    have h1 : i < l.length := by omega
    refine ev_round ?_
    simp only [target_Check_l1]
    refine ev_ifT (by omega) (ev_ck (by omega) ?_)
    rw [lat_get _ _ h1, List.drop_eq_getElem_cons h1]
    refine ev_ck (hs _ (List.getElem_mem h1)) ?_
    refine ev_ite (fun h => ev_ck (inR_of (by omega) (by omega)) ?_) (fun h => ev_some ?_)
    · have := ih (i + 1) (by omega)
      rw [Int.natCast_add, Int.natCast_one] at this
      have e : firstP Glob.check (l[i] :: l.drop (i + 1)) = firstP Glob.check (l.drop (i + 1)) := if_pos h
      simp only [e]; exact this
    · have e : firstP Glob.check (l[i] :: l.drop (i + 1)) = Glob.check l[i] := if_neg h
      simp only [e, if_neg h]
def checkP (l : List Bytes) : Int := if 64 < (l.length : Int) then 14 else firstP Glob.check l
theorem tcheck_ev (l : List Bytes) (hs : ∀ s ∈ l, s.length ≤ 65536) : Ev2 (fun n _ => target_Check n l) (· = checkP l) := by
  simp only [target_Check]
  unfold checkP
  refine ev_ite (fun h => ev_some (by rw [if_pos h])) (fun h => ?_)
  rw [if_neg h]
  have l1 := tcheck_l1 l (by omega) hs l.length 0 (by omega)
  rw [List.drop_zero] at l1
  by_cases hq : firstP Glob.check l = 0
  · rw [if_pos hq] at l1
    exact ev_jnL () (ev_loop l1) (ev_some hq.symm)
  · rw [if_neg hq] at l1
    exact ev_jnR _ (ev_loop l1) rfl
theorem rcheck_l1 (l : List Bytes) (hb : l.length ≤ 65536) (hs : ∀ s ∈ l, s.length ≤ 65536) : ∀ (k i : Nat), i + k = l.length → Ev2 (fun _ m => ref42_Check_l1 l m (i : Int)) (· = if firstP Glob.check (l.drop i) = 0 then .inl () else .inr (firstP Glob.check (l.drop i))) := by
  intro k
  induction k with
  | zero =>
    intro i hi
    refine ev_round ?_
    simp only [ref42_Check_l1]
    exact ev_ifF (by omega) (ev_some (by rw [List.drop_of_length_le (by omega)]; rfl))
  | succ k ih =>
    intro i hi
    have h1 : i < l.length := by omega
    refine ev_round ?_
    simp only [ref42_Check_l1, ← Glob.check_eq]
    refine ev_ifT (by omega) (ev_ck (by omega) ?_)
    rw [lat_get _ _ h1, List.drop_eq_getElem_cons h1]
    refine ev_ck (hs _ (List.getElem_mem h1)) ?_
    refine ev_ite (fun h => ev_ck (inR_of (by omega) (by omega)) ?_) (fun h => ev_some ?_)
    · have := ih (i + 1) (by omega)
      rw [Int.natCast_add, Int.natCast_one] at this
      have e : firstP Glob.check (l[i] :: l.drop (i + 1)) = firstP Glob.check (l.drop (i + 1)) := if_pos h
      simp only [e]; exact this
    · have e : firstP Glob.check (l[i] :: l.drop (i + 1)) = Glob.check l[i] := if_neg h
      simp only [e, if_neg h]
theorem rcheck_ev (l : List Bytes) (hs : ∀ s ∈ l, s.length ≤ 65536) : Ev2 (fun n _ => ref42_Check n l) (· = checkP l) := by
  simp only [ref42_Check]
  unfold checkP
  refine ev_ite (fun h => ev_some (by rw [if_pos h])) (fun h => ?_)
  rw [if_neg h]
  have l1 := rcheck_l1 l (by omega) hs l.length 0 (by omega)
  rw [List.drop_zero] at l1
  by_cases hq : firstP Glob.check l = 0
  · rw [if_pos hq] at l1
    exact ev_jnL () (ev_loop l1) (ev_some hq.symm)
  · rw [if_neg hq] at l1
    exact ev_jnR _ (ev_loop l1) rfl

/-! ### few -/
def chgOk (c : TChange) : Bool := decide (c.fAddr.length ≤ 300) && shortP c.fDeps 10 && shortP c.fOldDeps 10
theorem few_l1 (l : List TChange) (hb : l.length ≤ 20) (hB : ∀ c ∈ l, TChange.Bd c) : ∀ (k i : Nat), i + k = l.length → Ev2 (fun n m => law42_few_l1 n l m (i : Int)) (· = if (l.drop i).all chgOk = true then .inl () else .inr false) := by
  have hW := maxW_42
  intro k
  induction k with
  | zero =>
    intro i hi
    refine ev_round ?_
    simp only [law42_few_l1]
    exact ev_ifF (by omega) (ev_some (by rw [List.drop_of_length_le (by omega)]; simp))
  | succ k ih =>
    intro i hi
    have h1 : i < l.length := by omega
    have hc := hB _ (List.getElem_mem h1)
    have d1 := hc.bDeps
    have d2 := hc.bOldDeps
    refine ev_round ?_
    simp only [law42_few_l1]
    refine ev_ifT (by omega) ?_
    rw [lat_get _ _ h1, List.drop_eq_getElem_cons h1, List.all_cons]
    refine ev_cut (· = !chgOk l[i]) (ev_ck (by omega) ?_) (fun x hx => ?_)
    · unfold chgOk
      refine ev_ite (fun h => ev_some (by rw [decide_eq_false (by omega)]; rfl)) (fun h => ev_ck (by omega) ?_)
      rw [decide_eq_true (show l[i].fAddr.length ≤ 300 by omega), Bool.true_and]
      refine ev_tp _ (short_ev l[i].fDeps 10 (by omega)) ?_
      cases shortP l[i].fDeps 10
      · exact ev_ifT rfl (ev_some rfl)
      · refine ev_ifF (by decide) (ev_ck (by omega) ?_)
        exact ev_tp _ (short_ev l[i].fOldDeps 10 (by omega)) (ev_some (by rw [Bool.true_and]))
    · subst hx
      cases hq : chgOk l[i]
      · exact ev_ifT rfl (ev_some rfl)
      · refine ev_ifF (by decide) (ev_ck (inR_of (by omega) (by omega)) ?_)
        have := ih (i + 1) (by omega)
        rw [Int.natCast_add, Int.natCast_one] at this
        exact this
def fewP (t : List Bytes) (l : List TChange) : Bool := shortP t 16 && decide (checkP t = 0) && decide (l.length ≤ 20) && l.all chgOk
theorem few_ev (t : List Bytes) (l : List TChange) (ht : t.length ≤ maxW) (hB : ∀ c ∈ l, TChange.Bd c) : Ev2 (fun n _ => law42_few n t l) (· = fewP t l) := by
  simp only [law42_few]
  unfold fewP
  refine ev_cut (· = !(shortP t 16 && decide (checkP t = 0) && decide (l.length ≤ 20))) ?_ (fun x hx => ?_)
  · refine ev_tp _ (short_ev t 16 ht) ?_
    cases hq : shortP t 16
    · exact ev_ifT rfl (ev_some rfl)
    · refine ev_ifF (by decide) (ev_tp _ (rcheck_ev t (fun s hs => by have := (shortP_len hq).2 s hs; omega)) ?_)
      refine ev_ite (fun h => ev_some ?_) (fun h => ev_some ?_)
      · rw [decide_eq_true h]
        by_cases h2 : l.length ≤ 20
        · rw [decide_eq_true h2, decide_eq_false (by omega)]; rfl
        · rw [decide_eq_false h2, decide_eq_true (by omega)]; rfl
      · rw [decide_eq_false h]; rfl
  · subst hx
    cases hq : (shortP t 16 && decide (checkP t = 0) && decide (l.length ≤ 20))
    · exact ev_ifT rfl (ev_some rfl)
    · refine ev_ifF (by decide) ?_
      rw [Bool.and_eq_true, decide_eq_true_eq] at hq
      have l1 := few_l1 l hq.2 hB l.length 0 (by omega)
      rw [List.drop_zero] at l1
      rw [Bool.true_and]
      cases hp : l.all chgOk
      · rw [if_neg (by simp [hp])] at l1
        exact ev_jnR false (ev_loop l1) rfl
      · rw [if_pos hp] at l1
        exact ev_jnL () (ev_loop l1) (ev_some rfl)
end Go.Ab.R06
