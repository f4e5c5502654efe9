/- Plain facts of chapter 06: identifiers. No program in sight. -/
import Derived.Test.YtijgdpmadidpaaaGreatDoorR06
import Derived.Test.YtijgdpmadidpaaaGreatDoorAbEv
set_option linter.unusedVariables false
set_option linter.unusedSimpArgs false
set_option linter.unnecessarySimpa false
namespace Go.Ab.R06
open Go.Ab Go.Ab.RB

/-! ### Rules beside those of AbEv -/
section
variable {α β : Type} {P : α → Prop}
theorem ev_to {g : Nat → Nat → Option β} {k : Nat → Nat → β → Option α} (x : β) (h : Ev2 g (· = x)) (hk : Ev2 (fun n m => k n m x) P) : Ev2 (fun n m => (g n m).bind (k n m)) P :=
  ev_cut (· = x) h fun y hy => by subst hy; exact hk
theorem ev_ifd {p : Prop} [Decidable p] {f g : Nat → Nat → Option α} {x y : α} (h1 : p → Ev2 f (· = x)) (h2 : ¬p → Ev2 g (· = y)) : Ev2 (fun n m => if p then f n m else g n m) (· = if p then x else y) :=
  ev_ite (fun h => by simpa only [if_pos h] using h1 h) (fun h => by simpa only [if_neg h] using h2 h)
end

/-! ### Identifiers -/
def letB (b : UInt8) : Bool := (decide (97 ≤ b.toNat) && decide (b.toNat ≤ 122)) || (decide (65 ≤ b.toNat) && decide (b.toNat ≤ 90)) || decide (b.toNat = 95)
def digB (b : UInt8) : Bool := decide (48 ≤ b.toNat) && decide (b.toNat ≤ 57)
def idB (b : UInt8) : Bool := letB b || digB b
def identB : Bytes → Bool
  | [] => false
  | b :: r => decide ((b :: r).length ≤ 64) && letB b && r.all idB

/-- What is asked of the byte at i. -/
def okAt (s : Bytes) (i : Nat) : Bool := letB (s.getD i 0) || (decide (i ≠ 0) && digB (s.getD i 0))

/-- A test that holds at k places from i on. -/
def allN (p : Nat → Bool) : Nat → Nat → Bool
  | _, 0 => true
  | i, k + 1 => p i && allN p (i + 1) k
theorem allN_iff (p : Nat → Bool) : ∀ (k i : Nat), allN p i k = true ↔ ∀ j, i ≤ j → j < i + k → p j = true
  | 0, i => by simp [allN]; intro j h1 h2; omega
  | k + 1, i => by
    rw [allN, Bool.and_eq_true, allN_iff p k (i + 1)]
    constructor
    · rintro ⟨h1, h2⟩ j h3 h4
      by_cases e : j = i
      · rw [e]; exact h1
      · exact h2 j (by omega) (by omega)
    · intro h
      exact ⟨h i (by omega) (by omega), fun j h1 h2 => h j (by omega) (by omega)⟩

theorem or32 : (List.range 256).all (fun n => (decide ((97 : Int) ≤ iOr .u8 (n : Int) 32) && decide (iOr .u8 (n : Int) 32 ≤ 122)) == ((decide (97 ≤ n) && decide (n ≤ 122)) || (decide (65 ≤ n) && decide (n ≤ 90)))) = true := by kernel_rfl
theorem or_let (b : UInt8) : (97 ≤ iOr .u8 ((b.toNat : Nat) : Int) 32 ∧ iOr .u8 ((b.toNat : Nat) : Int) 32 ≤ 122) ↔ ((97 ≤ b.toNat ∧ b.toNat ≤ 122) ∨ (65 ≤ b.toNat ∧ b.toNat ≤ 90)) := by
  have h := List.all_eq_true.1 or32 b.toNat (List.mem_range.2 b.toNat_lt)
  have h := eq_of_beq h
  rw [Bool.eq_iff_iff] at h
  simpa using h
theorem letB_iff (b : UInt8) : letB b = true ↔ (97 ≤ b.toNat ∧ b.toNat ≤ 122) ∨ (65 ≤ b.toNat ∧ b.toNat ≤ 90) ∨ b.toNat = 95 := by
  simp [letB, or_assoc]
theorem digB_iff (b : UInt8) : digB b = true ↔ 48 ≤ b.toNat ∧ b.toNat ≤ 57 := by simp [digB]
theorem eqB {a b : Bool} (h : a = true ↔ b = true) : a = b := Bool.eq_iff_iff.2 h
theorem okAt_iff (s : Bytes) (i : Nat) : okAt s i = true ↔ letB (s.getD i 0) = true ∨ (i ≠ 0 ∧ digB (s.getD i 0) = true) := by simp [okAt]

theorem ident_l1 (s : Bytes) (hs : s.length ≤ 1000000) : ∀ (k i : Nat), i + k = s.length → Ev2 (fun _ m => address_Identifier_l1 s m (i : Int)) (· = if allN (okAt s) i k then .inl () else .inr false) := by
  intro k
  induction k with
  | zero =>
    intro i hi
    refine ev_round ?_
    simp only [address_Identifier_l1]
    refine ev_ifF (by omega) (ev_some rfl)
  | succ k ih =>
    intro i hi
    refine ev_round ?_
    simp only [address_Identifier_l1]
    refine ev_ifT (by omega) (ev_ck (by omega) ?_)
    have hb : byt s i = ((s.getD i 0).toNat : Int) := byt_nat s i
    rw [hb]
    have hor := or_let (s.getD i 0)
    have hok := okAt_iff s i
    rw [letB_iff, digB_iff] at hok
    refine ev_to (!okAt s i) ?_ ?_
    · generalize s.getD i 0 = b at hor hok ⊢
      generalize okAt s i = o at hok ⊢
      generalize iOr .u8 ((b.toNat : Nat) : Int) 32 = v at hor ⊢
      have hT : (letB b = true) → o = true := fun h => hok.2 (.inl ((letB_iff b).1 h))
      have mk : ∀ x : Bool, (x = true ↔ ¬ (((97 ≤ b.toNat ∧ b.toNat ≤ 122) ∨ (65 ≤ b.toNat ∧ b.toNat ≤ 90) ∨ b.toNat = 95) ∨ (i ≠ 0 ∧ 48 ≤ b.toNat ∧ b.toNat ≤ 57))) → x = !o := fun x hx => eqB (by rw [hx, ← hok]; simp)
      refine ev_ck (by omega) (ev_ite (fun h => ev_some (mk _ ?_)) (fun h => ev_ite (fun h1 => ?_) (fun h1 => ev_ite (fun h2 => ?_) (fun h2 => ev_some (mk _ ?_)))))
      · simp; omega
      · refine ev_ite (fun h3 => ev_some (mk _ ?_)) (fun h3 => ev_ck (by omega) (ev_ite (fun h4 => ev_some (mk _ ?_)) (fun h4 => ev_ck (by omega) (ev_some (mk _ ?_)))))
        · simp; omega
        · simp; omega
        · rw [decide_eq_true_eq]; omega
      · refine ev_ite (fun h3 => ev_some (mk _ ?_)) (fun h3 => ev_ck (by omega) (ev_ite (fun h4 => ev_some (mk _ ?_)) (fun h4 => ev_ck (by omega) (ev_some (mk _ ?_)))))
        · simp; omega
        · simp; omega
        · rw [decide_eq_true_eq]; omega
      · simp; omega
    · cases hk : okAt s i with
      | false => exact ev_ifT (by simp) (ev_some (by simp [allN, hk]))
      | true =>
        refine ev_ifF (by simp) (ev_ck (inR_of (by omega) (by omega)) ?_)
        have := ih (i + 1) (by omega)
        rw [Int.natCast_add, Int.natCast_one] at this
        simpa [allN, hk] using this

theorem identB_iff (s : Bytes) : identB s = true ↔ s ≠ [] ∧ s.length ≤ 64 ∧ allN (okAt s) 0 s.length = true := by
  rw [allN_iff]
  cases s with
  | nil => simp [identB]
  | cons b r =>
    simp only [identB, Bool.and_eq_true, decide_eq_true_eq, List.all_eq_true]
    constructor
    · rintro ⟨⟨h1, h2⟩, h3⟩
      refine ⟨by simp, h1, fun j _ hj => ?_⟩
      rw [okAt_iff]
      cases j with
      | zero => exact .inl h2
      | succ j =>
        have hm : r.getD j 0 ∈ r := by
          rw [List.getD_eq_getElem?_getD, List.getElem?_eq_getElem (by simp at hj; omega)]
          exact List.getElem_mem _
        have := h3 _ hm
        simp only [idB, Bool.or_eq_true] at this
        rcases this with h | h
        · exact .inl h
        · exact .inr ⟨by omega, h⟩
    · rintro ⟨_, h1, h2⟩
      refine ⟨⟨h1, ?_⟩, fun x hx => ?_⟩
      · have := (okAt_iff _ _).1 (h2 0 (by omega) (by simp))
        simpa using this
      · obtain ⟨j, hj, rfl⟩ := List.getElem_of_mem hx
        have := (okAt_iff _ _).1 (h2 (j + 1) (by omega) (by simp; omega))
        rw [show (b :: r).getD (j + 1) 0 = r[j] by simp [hj]] at this
        simp only [idB, Bool.or_eq_true]
        rcases this with h | h
        · exact .inl h
        · exact .inr h.2

theorem ident_ev (s : Bytes) (hs : s.length ≤ 1000000) : Ev2 (fun n _ => address_Identifier n s) (· = identB s) := by
  simp only [address_Identifier]
  have h := ident_l1 s hs s.length 0 (by omega)
  have hi := identB_iff s
  cases ha : allN (okAt s) 0 s.length with
  | false =>
    rw [ha] at h hi
    refine ev_jnR false (ev_loop h) (eqB ?_)
    rw [hi]; simp
  | true =>
    rw [ha] at h hi
    refine ev_jnL () (ev_loop h) ?_
    refine ev_cut (· = identB s) (ev_ite (fun h => ev_some (eqB ?_)) (fun h => ev_some (eqB ?_))) (fun t ht => ev_some ht)
    · rw [hi]; simp [h]
    · rw [hi, decide_eq_true_eq]; simp [h]; omega

/-! ### The reference's -/
theorem rletter (b : UInt8) : ref06_letter (b.toNat : Int) = some (letB b) := by
  simp only [ref06_letter]
  have h := letB_iff b
  generalize letB b = o at h ⊢
  have mk : ∀ x : Bool, (x = true ↔ (97 ≤ b.toNat ∧ b.toNat ≤ 122) ∨ (65 ≤ b.toNat ∧ b.toNat ≤ 90) ∨ b.toNat = 95) → some x = some o := fun x hx => congrArg some (eqB (by rw [hx, h]))
  repeat' split
  all_goals (simp only [Option.bind_some]; apply mk; first | (rw [decide_eq_true_eq]; omega) | (simp; omega))

theorem rident_l1 (s : Bytes) (hs : s.length ≤ 1000000) : ∀ (k i : Nat), i + k = s.length → Ev2 (fun _ m => ref06_Identifier_l1 s m (i : Int)) (· = if allN (fun j => idB (s.getD j 0)) i k then .inl () else .inr false) := by
  intro k
  induction k with
  | zero =>
    intro i hi
    refine ev_round ?_
    simp only [ref06_Identifier_l1]
    refine ev_ifF (by omega) (ev_some rfl)
  | succ k ih =>
    intro i hi
    refine ev_round ?_
    simp only [ref06_Identifier_l1]
    refine ev_ifT (by omega) ?_
    have hb : byt s i = ((s.getD i 0).toNat : Int) := byt_nat s i
    rw [hb]
    refine ev_to (!idB (s.getD i 0)) ?_ ?_
    · refine ev_ck (by omega) (ev_to _ (ev_const (rletter _) rfl) ?_)
      have h := digB_iff (s.getD i 0)
      simp only [idB]
      generalize s.getD i 0 = b at h ⊢
      cases hl : letB b with
      | true => exact ev_ifF (by simp) (ev_some (by simp))
      | false =>
        refine ev_ifT (by simp) (ev_ck (by omega) (ev_ite (fun h1 => ev_some ?_) (fun h1 => ev_ck (by omega) (ev_some ?_))))
        · have : digB b = false := by rw [← Bool.not_eq_true, h]; omega
          simp [this]
        · refine eqB ?_
          rw [decide_eq_true_eq, Bool.false_or, Bool.not_eq_true', ← Bool.not_eq_true, h]
          omega
    · cases hk : idB (s.getD i 0) with
      | false => exact ev_ifT rfl (ev_some (by simp only [allN, hk, Bool.false_and]; rfl))
      | true =>
        refine ev_ifF (by simp) (ev_ck (inR_of (by omega) (by omega)) ?_)
        have := ih (i + 1) (by omega)
        rw [Int.natCast_add, Int.natCast_one] at this
        simp only [allN, hk, Bool.true_and]
        exact this

theorem identB_iff2 (s : Bytes) : identB s = true ↔ s ≠ [] ∧ s.length ≤ 64 ∧ letB (s.getD 0 0) = true ∧ allN (fun j => idB (s.getD j 0)) 0 s.length = true := by
  rw [identB_iff, allN_iff, allN_iff]
  constructor
  · rintro ⟨h1, h2, h3⟩
    have hl : 0 < s.length := List.length_pos_iff.2 h1
    refine ⟨h1, h2, ?_, fun j _ hj => ?_⟩
    · have := (okAt_iff s 0).1 (h3 0 (by omega) (by omega))
      simpa using this
    · have := (okAt_iff s j).1 (h3 j (by omega) hj)
      simp only [idB, Bool.or_eq_true]
      rcases this with h | h
      · exact .inl h
      · exact .inr h.2
  · rintro ⟨h1, h2, h3, h4⟩
    refine ⟨h1, h2, fun j _ hj => (okAt_iff s j).2 ?_⟩
    have := h4 j (by omega) hj
    simp only [idB, Bool.or_eq_true] at this
    by_cases e : j = 0
    · subst e; exact .inl h3
    · rcases this with h | h
      · exact .inl h
      · exact .inr ⟨e, h⟩

theorem rident_ev (s : Bytes) (hs : s.length ≤ 1000000) : Ev2 (fun n _ => ref06_Identifier n s) (· = identB s) := by
  simp only [ref06_Identifier]
  have hi := identB_iff2 s
  refine ev_to (decide (s = []) || decide (64 < (s.length : Int)) || !letB (s.getD 0 0)) ?_ ?_
  · refine ev_ite (fun h => ev_some (by simp [h])) (fun h => ev_ite (fun h1 => ev_some (by simp [h1])) (fun h1 => ev_ck ?_ ?_))
    · have := List.length_pos_iff.2 h; omega
    · refine ev_to (letB (s.getD 0 0)) (ev_const (rletter _) rfl) (ev_some ?_)
      have : decide (64 < (s.length : Int)) = false := decide_eq_false h1
      simp [h, this]
  · refine ev_ite (fun h => ev_some (eqB ?_)) (fun h => ?_)
    · rw [hi]; simp at h ⊢; intro q1 q2 q3
      rcases h with (h | h) | h
      · exact absurd h q1
      · omega
      · rw [h] at q3; cases q3
    · have l := rident_l1 s hs s.length 0 (by omega)
      simp only [Bool.or_eq_true, decide_eq_true_eq, not_or] at h
      obtain ⟨⟨h1, h2⟩, h3⟩ := h
      have h3 : letB (s.getD 0 0) = true := by simpa using h3
      cases ha : allN (fun j => idB (s.getD j 0)) 0 s.length with
      | false =>
        rw [ha] at l hi
        refine ev_jnR false (ev_loop l) (eqB ?_)
        rw [hi]; simp
      | true =>
        rw [ha] at l hi
        refine ev_jnL () (ev_loop l) (ev_some (eqB ?_))
        rw [hi]; simp only [true_iff]
        exact ⟨h1, by omega, h3, trivial⟩
end Go.Ab.R06
