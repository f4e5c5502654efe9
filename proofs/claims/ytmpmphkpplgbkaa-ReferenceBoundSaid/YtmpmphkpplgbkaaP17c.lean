/- Plain facts of chapter 17: the checks of values and expressions end, whatever they say. -/
import Derived.Test.YtmpmphkpplgbkaaP17a
set_option linter.unusedVariables false
set_option linter.unusedSimpArgs false
set_option linter.unnecessarySimpa false
namespace Go.Ab.R17
open Go.Ab

theorem cont_eq (s : Bytes) (i lo hi : Int) (h : 0 ≤ i) : ref02_cont s i lo hi = some (decide (i < (s.length : Int) ∧ lo ≤ byt s i ∧ byt s i ≤ hi)) := by
  unfold ref02_cont
  by_cases h1 : i < (s.length : Int)
  · by_cases h2 : lo ≤ byt s i
    · simp [h1, h2, ck, h]
    · simp [h1, h2, ck, h]
  · simp [h1]

theorem decode_tot (s : Bytes) (hs : s.length ≤ maxW) (i : Int) (h0 : 0 ≤ i) (h1 : i < (s.length : Int)) : Ev2 (fun _ _ => ref02_Decode s i) (fun r => 0 ≤ r.2 ∧ i + r.2 ≤ (s.length : Int)) := by
  have hb := byt_range s i
  have q1 : inR (i + 1) := inR_succ ⟨h0, h1⟩ hs
  have q2 : inR (i + 2) := by rw [maxW_eq] at hs; exact inR_of (by omega) (by omega)
  have q3 : inR (i + 3) := by rw [maxW_eq] at hs; exact inR_of (by omega) (by omega)
  simp only [ref02_Decode]
  refine ev_cut (· = false) (ev_ite (fun h => by omega) (fun _ => ev_some (decide_eq_false (by omega)))) (fun t ht => ?_)
  subst ht
  refine ev_ifF (by simp) (ev_ck ⟨h0, h1⟩ (ev_ite (fun _ => ev_ck (inR_of (by omega) (by omega)) (ev_some ⟨by show (0 : Int) ≤ 1; omega, by show i + 1 ≤ _; omega⟩)) (fun _ => ?_)))
  refine ev_cut (fun t => t = true → i + 1 < (s.length : Int)) ?_ (fun t ht => ?_)
  · refine ev_ite (fun _ => ev_ite (fun _ => ev_ck q1 ?_) (fun _ => ev_some (fun h => by cases h))) (fun _ => ev_some (fun h => by cases h))
    rw [cont_eq _ _ _ _ (by omega)]
    simp only [bd_some]
    exact ev_some (fun h => (of_decide_eq_true h).1)
  refine ev_ite (fun h => ?_) (fun _ => ?_)
  · have := ht h
    exact ev_ck (iAnd_u8 _ _) (ev_ck (by omega) (ev_ck q1 (ev_ck ⟨by omega, by omega⟩ (ev_ck (iAnd_u8 _ _) (ev_some ⟨by show (0 : Int) ≤ 2; omega, by show i + 2 ≤ _; omega⟩)))))
  refine ev_cut (fun _ => True) (ev_ite (fun _ => ev_some trivial) (fun _ => ev_some trivial)) (fun lo _ => ?_)
  refine ev_cut (fun _ => True) (ev_ite (fun _ => ev_some trivial) (fun _ => ev_some trivial)) (fun hi _ => ?_)
  refine ev_cut (fun t => t = true → i + 2 < (s.length : Int)) ?_ (fun t ht => ?_)
  · refine ev_ite (fun _ => ev_ite (fun _ => ev_ck q1 ?_) (fun _ => ev_some (fun h => by cases h))) (fun _ => ev_some (fun h => by cases h))
    rw [cont_eq _ _ _ _ (by omega)]
    simp only [bd_some]
    refine ev_ite (fun _ => ev_ck q2 ?_) (fun _ => ev_some (fun h => by cases h))
    rw [cont_eq _ _ _ _ (by omega)]
    simp only [bd_some]
    exact ev_some (fun h => (of_decide_eq_true h).1)
  refine ev_ite (fun h => ?_) (fun _ => ?_)
  · have := ht h
    exact ev_ck (iAnd_u8 _ _) (ev_ck (by omega) (ev_ck q1 (ev_ck ⟨by omega, by omega⟩ (ev_ck (iAnd_u8 _ _) (ev_ck (by omega) (ev_ck q2 (ev_ck ⟨by omega, by omega⟩ (ev_ck (iAnd_u8 _ _) (ev_some ⟨by show (0 : Int) ≤ 3; omega, by show i + 3 ≤ _; omega⟩)))))))))
  refine ev_cut (fun _ => True) (ev_ite (fun _ => ev_some trivial) (fun _ => ev_some trivial)) (fun lo _ => ?_)
  refine ev_cut (fun _ => True) (ev_ite (fun _ => ev_some trivial) (fun _ => ev_some trivial)) (fun hi _ => ?_)
  refine ev_cut (fun t => t = true → i + 3 < (s.length : Int)) ?_ (fun t ht => ?_)
  · refine ev_ite (fun _ => ev_ite (fun _ => ev_ck q1 ?_) (fun _ => ev_some (fun h => by cases h))) (fun _ => ev_some (fun h => by cases h))
    rw [cont_eq _ _ _ _ (by omega)]
    simp only [bd_some]
    refine ev_ite (fun _ => ev_ck q2 ?_) (fun _ => ev_some (fun h => by cases h))
    rw [cont_eq _ _ _ _ (by omega)]
    simp only [bd_some]
    refine ev_ite (fun _ => ev_ck q3 ?_) (fun _ => ev_some (fun h => by cases h))
    rw [cont_eq _ _ _ _ (by omega)]
    simp only [bd_some]
    exact ev_some (fun h => (of_decide_eq_true h).1)
  refine ev_ite (fun h => ?_) (fun _ => ev_some ⟨by show (0 : Int) ≤ 0; omega, by show i + 0 ≤ _; omega⟩)
  have := ht h
  exact ev_ck (iAnd_u8 _ _) (ev_ck (by omega) (ev_ck q1 (ev_ck ⟨by omega, by omega⟩ (ev_ck (iAnd_u8 _ _) (ev_ck (by omega) (ev_ck q2 (ev_ck ⟨by omega, by omega⟩ (ev_ck (iAnd_u8 _ _) (ev_ck (by omega) (ev_ck q3 (ev_ck ⟨by omega, by omega⟩ (ev_ck (iAnd_u8 _ _) (ev_some ⟨by show (0 : Int) ≤ 4; omega, by show i + 4 ≤ _; omega⟩)))))))))))))

theorem valid_loop (s : Bytes) (hs : s.length ≤ maxW) : ∀ (k : Nat) (i : Int), 0 ≤ i → i ≤ (s.length : Int) → (s.length : Int) - i ≤ k → Ev2 (fun _ m => ref02_Valid_l1 s m i) (fun _ => True) := by
  intro k
  induction k with
  | zero =>
    intro i hi _ hk
    refine ev_round ?_
    simp only [ref02_Valid_l1]
    exact ev_ifF (by omega) (ev_some trivial)
  | succ k ih =>
    intro i hi _ hk
    refine ev_round ?_
    simp only [ref02_Valid_l1]
    refine ev_ite (fun h => ?_) (fun h => ev_some trivial)
    refine ev_cut _ (decode_tot s hs i hi h) (fun x hx => ?_)
    refine ev_ite (fun _ => ev_some trivial) (fun hne => ev_ck ?_ (ih _ (by omega) (by omega) (by omega)))
    exact inR_nat (by omega) hx.2 hs

theorem valid_tot (s : Bytes) (hs : s.length ≤ maxW) : Ev2 (fun n _ => ref02_Valid n s) (fun _ => True) := by
  simp only [ref02_Valid]
  refine ev_ite (fun _ => ev_some trivial) (fun _ => ?_)
  refine ev_jn (ev_mono (ev_loop (valid_loop s hs s.length 0 (by omega) (by omega) (by omega))) fun r _ => ?_)
  cases r with
  | inl x => exact ev_some trivial
  | inr y => trivial

theorem text_tot (s : Bytes) (hs : s.length ≤ maxW) : Ev2 (fun n _ => ref07_text n s) (fun _ => True) := by
  simp only [ref07_text]
  refine ev_ite (fun _ => ev_some trivial) (fun _ => ?_)
  refine ev_cut _ (valid_tot s hs) (fun x hx => ?_)
  exact ev_ite (fun _ => ev_some trivial) (fun _ => ev_some trivial)

theorem vshaped_tot (v : TValue) : ∃ b, ref07_shaped v = some b := by
  have h : Ev2 (fun _ _ => ref07_shaped v) (fun _ => True) := by
    simp only [ref07_shaped]
    repeat' (first | exact ev_some trivial | refine ev_cut (fun _ => True) ?_ (fun _ _ => ?_) | refine ev_ite (fun _ => ?_) (fun _ => ?_))
  obtain ⟨_, r, h, _⟩ := ev_get h
  exact ⟨r, h⟩

theorem keys_loop (v : TValue) (hv : BV v) : ∀ (k : Nat) (i : Int), 0 ≤ i → (v.fKeys.length : Int) - i ≤ k → Ev2 (fun n m => ref07_node_l1 n v m i) (fun _ => True) := by
  obtain ⟨hs, hi, hk, hks, hit⟩ := hv
  intro k
  induction k with
  | zero =>
    intro i hi hk
    refine ev_round ?_
    simp only [ref07_node_l1]
    exact ev_ifF (by omega) (ev_some trivial)
  | succ k ih =>
    intro i h0 hkk
    refine ev_round ?_
    simp only [ref07_node_l1]
    refine ev_ite (fun h => ev_ck ⟨h0, h⟩ ?_) (fun h => ev_some trivial)
    refine ev_cut _ (text_tot _ (hks _ (lat_mem ⟨h0, h⟩))) (fun x hx => ?_)
    refine ev_ite (fun _ => ?_) (fun _ => ev_some trivial)
    refine ev_cut (fun _ => True) ?_ (fun t _ => ?_)
    · refine ev_ite (fun hp => ev_ck (inR_nat (l := v.fKeys.length) (by omega) (by omega) hk) (ev_ck ⟨by omega, by omega⟩ (ev_ck ⟨h0, h⟩ (ev_some trivial)))) (fun _ => ev_some trivial)
    · exact ev_ite (fun _ => ev_some trivial) (fun _ => ev_ck (inR_succ ⟨h0, h⟩ hk) (ih _ (by omega) (by omega)))

theorem vnode_tot (v : TValue) (hv : BV v) : Ev2 (fun n _ => ref07_node n v) (fun _ => True) := by
  simp only [ref07_node]
  obtain ⟨b, hb⟩ := vshaped_tot v
  simp only [hb, bd_some]
  refine ev_ite (fun _ => ev_some trivial) (fun _ => ?_)
  refine ev_cut (fun _ => True) ?_ (fun t _ => ?_)
  · refine ev_ite (fun _ => ?_) (fun _ => ev_some trivial)
    refine ev_cut (fun _ => True) ?_ (fun t _ => ev_some trivial)
    simp only [ref01_Valid]
    repeat' (first | exact ev_some trivial | refine ev_cut (fun _ => True) ?_ (fun _ _ => ?_) | refine ev_ite (fun _ => ?_) (fun _ => ?_))
  · refine ev_ite (fun _ => ev_some trivial) (fun _ => ?_)
    refine ev_cut _ (text_tot _ (by cases hv; assumption)) (fun x hx => ?_)
    refine ev_ite (fun _ => ?_) (fun _ => ev_some trivial)
    refine ev_jn (ev_mono (ev_loop (keys_loop v hv v.fKeys.length 0 (by omega) (by omega))) fun r _ => ?_)
    cases r with
    | inl x => exact ev_some trivial
    | inr y => trivial

/-- The check of a value ends; the number of nodes that it tells is small. -/
theorem vcheck_tot (v : TValue) : BV v → ∀ level before, 0 ≤ level → 0 ≤ before → before ≤ 4096 → Ev2 (fun n _ => ref07_check n v level before) (fun r => 0 ≤ r.2 ∧ r.2 ≤ 4096) := by
  induction v using value_ind with
  | h v ih =>
  intro hv level before hl hb hb2
  have hv' := hv
  obtain ⟨hs, hi, hk, hks, hit⟩ := hv'
  refine ev_succ ?_
  simp only [ref07_check]
  refine ev_ite (fun _ => ev_some ⟨hb, hb2⟩) (fun hlev => ev_ite (fun _ => ev_some ⟨hb, hb2⟩) (fun hbe => ?_))
  refine ev_cut _ (vnode_tot v hv) (fun x _ => ?_)
  refine ev_ite (fun _ => ev_ck (inR_of (by omega) (by omega)) ?_) (fun _ => ev_some ⟨hb, hb2⟩)
  have loop : ∀ (k : Nat) (n16 i : Int), 0 ≤ i → 0 ≤ n16 → n16 ≤ 4096 → (v.fItems.length : Int) - i ≤ k → Ev2 (fun n m => ref07_check_l1 (ref07_check n) v level m n16 i) (fun r => match r with | .inl x => 0 ≤ x ∧ x ≤ 4096 | .inr y => 0 ≤ y.2 ∧ y.2 ≤ 4096) := by
    intro k
    induction k with
    | zero =>
      intro n16 i h0 h1 h2 h3
      refine ev_round ?_
      simp only [ref07_check_l1]
      exact ev_ifF (by omega) (ev_some ⟨h1, h2⟩)
    | succ k ihk =>
      intro n16 i h0 h1 h2 h3
      refine ev_round ?_
      simp only [ref07_check_l1]
      refine ev_ite (fun h => ev_ck ⟨h0, h⟩ (ev_ck (inR_of (by omega) (by omega)) ?_)) (fun h => ev_some ⟨h1, h2⟩)
      have hm := lat_mem (l := v.fItems) ⟨h0, h⟩
      refine ev_cut _ (ih _ hm (hit _ hm) (level + 1) n16 (by omega) h1 h2) (fun x hx => ?_)
      exact ev_ite (fun _ => ev_ck (inR_succ ⟨h0, h⟩ hi) (ihk _ _ (by omega) hx.1 hx.2 (by omega))) (fun _ => ev_some hx)
  refine ev_jn (ev_mono (ev_loop (loop v.fItems.length (before + 1) 0 (by omega) (by omega) (by omega) (by omega))) fun r hr => ?_)
  cases r with
  | inl x => exact ev_some hr
  | inr y => exact hr

theorem vCheck_tot (v : TValue) (hv : BV v) : Ev2 (fun n _ => ref07_Check n v) (fun _ => True) := by
  simp only [ref07_Check]
  exact ev_cut _ (vcheck_tot v hv 1 0 (by omega) (by omega) (by omega)) (fun x _ => ev_some trivial)

end Go.Ab.R17
