/- Plain facts: comparisons that are total orders. No program in sight. -/
import Derived.Test.YtijgdpmadidpaaaGreatDoorAbA
import Derived.Lib.Bytealg
set_option linter.unusedVariables false
set_option linter.unusedSimpArgs false
set_option linter.unnecessarySimpa false
namespace Go.Ab
open Go.Lib

structure Cmp {α : Type} (c : α → α → Int) : Prop where
  rng : ∀ x y, c x y = -1 ∨ c x y = 0 ∨ c x y = 1
  anti : ∀ x y, c y x = -(c x y)
  eq0 : ∀ x y, c x y = 0 → x = y
  tr : ∀ x y z, c x y ≤ 0 → c y z ≤ 0 → c x z ≤ 0
theorem Cmp.self {α : Type} {c : α → α → Int} (h : Cmp c) (x : α) : c x x = 0 := by have := h.anti x x; omega
def ordI (a b : Int) : Int := if a < b then -1 else if b < a then 1 else 0
theorem ordI_good : Cmp ordI := by
  refine ⟨fun x y => ?_, fun x y => ?_, fun x y h => ?_, fun x y z h1 h2 => ?_⟩
  · unfold ordI; split
    · simp
    · split <;> simp
  · unfold ordI
    by_cases h : x < y
    · rw [if_neg (by omega), if_pos h, if_pos h]; rfl
    · by_cases h2 : y < x
      · rw [if_pos h2, if_neg h, if_pos h2]
      · rw [if_neg h2, if_neg h, if_neg h, if_neg h2]; rfl
  · unfold ordI at h
    by_cases h1 : x < y
    · rw [if_pos h1] at h; cases h
    · rw [if_neg h1] at h
      by_cases h2 : y < x
      · rw [if_pos h2] at h; cases h
      · omega
  · have k : ∀ a b, ordI a b ≤ 0 ↔ a ≤ b := fun a b => by
      unfold ordI
      by_cases h : a < b
      · rw [if_pos h]; constructor <;> intro _ <;> omega
      · rw [if_neg h]
        by_cases h2 : b < a
        · rw [if_pos h2]; constructor <;> intro _ <;> omega
        · rw [if_neg h2]; constructor <;> intro _ <;> omega
    rw [k] at *
    omega
theorem u8_tri (a b : UInt8) : (a < b ∧ ¬ b < a ∧ a ≠ b) ∨ (¬ a < b ∧ b < a ∧ a ≠ b) ∨ (¬ a < b ∧ ¬ b < a ∧ a = b) := by
  simp only [UInt8.lt_iff_toNat_lt]
  rcases Nat.lt_trichotomy a.toNat b.toNat with h | h | h
  · exact .inl ⟨h, by omega, fun e => by rw [e] at h; omega⟩
  · exact .inr (.inr ⟨by omega, by omega, UInt8.toNat_inj.1 h⟩)
  · exact .inr (.inl ⟨by omega, h, fun e => by rw [e] at h; omega⟩)
theorem bytes_rng : ∀ x y : List UInt8, compareBytes x y = -1 ∨ compareBytes x y = 0 ∨ compareBytes x y = 1
  | [], [] => .inr (.inl rfl)
  | [], _ :: _ => .inl rfl
  | _ :: _, [] => .inr (.inr rfl)
  | a :: x, b :: y => by
    simp only [compareBytes]
    split
    · exact .inl rfl
    · split
      · exact .inr (.inr rfl)
      · exact bytes_rng x y
theorem bytes_anti : ∀ x y : List UInt8, compareBytes y x = -(compareBytes x y)
  | [], [] => rfl
  | [], _ :: _ => rfl
  | _ :: _, [] => rfl
  | a :: x, b :: y => by
    simp only [compareBytes]
    rcases u8_tri a b with ⟨h1, h2, _⟩ | ⟨h1, h2, _⟩ | ⟨h1, h2, _⟩
    · rw [if_neg h2, if_pos h1, if_pos h1]; rfl
    · rw [if_pos h2, if_neg h1, if_pos h2]
    · rw [if_neg h2, if_neg h1, if_neg h1, if_neg h2]; exact bytes_anti x y
theorem bytes_eq0 : ∀ x y : List UInt8, compareBytes x y = 0 → x = y
  | [], [], _ => rfl
  | [], _ :: _, h => by cases h
  | _ :: _, [], h => by cases h
  | a :: x, b :: y, h => by
    simp only [compareBytes] at h
    rcases u8_tri a b with ⟨h1, h2, _⟩ | ⟨h1, h2, _⟩ | ⟨h1, h2, e⟩
    · rw [if_pos h1] at h; cases h
    · rw [if_neg h1, if_pos h2] at h; cases h
    · rw [if_neg h1, if_neg h2] at h; rw [e, bytes_eq0 x y h]
theorem bytes_tr : ∀ x y z : List UInt8, compareBytes x y ≤ 0 → compareBytes y z ≤ 0 → compareBytes x z ≤ 0
  | [], _, [], _, _ => by decide
  | [], _, _ :: _, _, _ => by simp [compareBytes]
  | _ :: _, [], _, h, _ => by simp [compareBytes] at h
  | _ :: _, _ :: _, [], _, h => by simp [compareBytes] at h
  | a :: x, b :: y, c :: z, h, k => by
    simp only [compareBytes] at h k ⊢
    rcases u8_tri a b with ⟨h1, h2, _⟩ | ⟨h1, h2, _⟩ | ⟨h1, h2, e⟩
    · rcases u8_tri b c with ⟨k1, k2, _⟩ | ⟨k1, k2, _⟩ | ⟨k1, k2, f⟩
      · have : a < c := by rw [UInt8.lt_iff_toNat_lt] at *; omega
        rw [if_pos this]; decide
      · rw [if_neg k1, if_pos k2] at k; exact absurd k (by decide)
      · rw [← f, if_pos h1]; decide
    · rw [if_neg h1, if_pos h2] at h; exact absurd h (by decide)
    · subst e
      rcases u8_tri a c with ⟨k1, k2, _⟩ | ⟨k1, k2, _⟩ | ⟨k1, k2, f⟩
      · rw [if_pos k1]; decide
      · rw [if_neg k1, if_pos k2] at k; exact absurd k (by decide)
      · rw [if_neg k1, if_neg k2] at k ⊢
        rw [if_neg h1, if_neg h2] at h
        exact bytes_tr x y z h k
theorem cmpB_good : Cmp compareBytes := ⟨bytes_rng, bytes_anti, bytes_eq0, bytes_tr⟩

/-- The first that is not 0. -/
def orI (a b : Int) : Int := if a = 0 then b else a
theorem Cmp.pair {α β : Type} {c : α → α → Int} {d : β → β → Int} (hc : Cmp c) (hd : Cmp d) : Cmp (fun x y : α × β => orI (c x.1 y.1) (d x.2 y.2)) := by
  refine ⟨fun x y => ?_, fun x y => ?_, fun x y h => ?_, fun x y z h1 h2 => ?_⟩
  · unfold orI; split
    · exact hd.rng _ _
    · exact hc.rng _ _
  · unfold orI
    have := hc.anti x.1 y.1
    have := hd.anti x.2 y.2
    by_cases h : c x.1 y.1 = 0
    · rw [if_pos (by omega), if_pos h]; omega
    · rw [if_neg (by omega), if_neg h]; omega
  · unfold orI at h
    by_cases q : c x.1 y.1 = 0
    · rw [if_pos q] at h
      exact Prod.ext (hc.eq0 _ _ q) (hd.eq0 _ _ h)
    · rw [if_neg q] at h; exact absurd h q
  · unfold orI at *
    by_cases q1 : c x.1 y.1 = 0
    · rw [if_pos q1] at h1
      have e1 := hc.eq0 _ _ q1
      rw [e1]
      by_cases q2 : c y.1 z.1 = 0
      · rw [if_pos q2] at h2 ⊢
        exact hd.tr _ _ _ h1 h2
      · rw [if_neg q2] at h2 ⊢; exact h2
    · rw [if_neg q1] at h1
      by_cases q2 : c y.1 z.1 = 0
      · have e2 := hc.eq0 _ _ q2
        rw [← e2, if_neg q1]; exact h1
      · rw [if_neg q2] at h2
        have h3 := hc.tr _ _ _ h1 h2
        have q3 : c x.1 z.1 ≠ 0 := fun q => by
          have e3 := hc.eq0 _ _ q
          rw [e3] at h1
          have := hc.anti y.1 z.1
          omega
        rw [if_neg q3]; exact h3
theorem Cmp.on {α β : Type} {c : β → β → Int} (hc : Cmp c) (f : α → β) (hf : ∀ x y, f x = f y → x = y) : Cmp (fun x y => c (f x) (f y)) :=
  ⟨fun _ _ => hc.rng _ _, fun _ _ => hc.anti _ _, fun _ _ h => hf _ _ (hc.eq0 _ _ h), fun _ _ _ => hc.tr _ _ _⟩
/-- Rows, one by one; a row that begins another one is less. -/
def cmpL {α : Type} (c : α → α → Int) : List α → List α → Int
  | [], [] => 0
  | [], _ :: _ => -1
  | _ :: _, [] => 1
  | a :: x, b :: y => orI (c a b) (cmpL c x y)
theorem cmpL_good {α : Type} {c : α → α → Int} (hc : Cmp c) : Cmp (cmpL c) := by
  refine ⟨fun x => ?_, fun x => ?_, fun x => ?_, fun x => ?_⟩
  · induction x with
    | nil => intro y; cases y <;> simp [cmpL]
    | cons a x ih =>
      intro y
      cases y with
      | nil => simp [cmpL]
      | cons b y =>
        simp only [cmpL, orI]
        split
        · exact ih y
        · exact hc.rng a b
  · induction x with
    | nil => intro y; cases y <;> simp [cmpL]
    | cons a x ih =>
      intro y
      cases y with
      | nil => simp [cmpL]
      | cons b y =>
        simp only [cmpL, orI]
        have := hc.anti a b
        have := ih y
        by_cases h : c a b = 0
        · rw [if_pos (by omega), if_pos h]; omega
        · rw [if_neg (by omega), if_neg h]; omega
  · induction x with
    | nil => intro y h; cases y with
      | nil => rfl
      | cons b y => simp [cmpL] at h
    | cons a x ih =>
      intro y h
      cases y with
      | nil => simp [cmpL] at h
      | cons b y =>
        simp only [cmpL, orI] at h
        by_cases q : c a b = 0
        · rw [if_pos q] at h; rw [hc.eq0 _ _ q, ih y h]
        · rw [if_neg q] at h; exact absurd h q
  · induction x with
    | nil => intro y z _ _; cases z <;> simp [cmpL]
    | cons a x ih =>
      intro y z h k
      cases y with
      | nil => simp [cmpL] at h
      | cons b y =>
        cases z with
        | nil => simp [cmpL] at k
        | cons d z =>
          simp only [cmpL, orI] at *
          by_cases q1 : c a b = 0
          · rw [if_pos q1] at h
            have e1 := hc.eq0 _ _ q1
            subst e1
            by_cases q2 : c a d = 0
            · rw [if_pos q2] at k ⊢; exact ih y z h k
            · rw [if_neg q2] at k ⊢; exact k
          · rw [if_neg q1] at h
            by_cases q2 : c b d = 0
            · have e2 := hc.eq0 _ _ q2
              subst e2
              rw [if_neg q1]; exact h
            · rw [if_neg q2] at k
              have h3 := hc.tr _ _ _ h k
              have q3 : c a d ≠ 0 := fun q => by
                have e3 := hc.eq0 _ _ q
                subst e3
                have := hc.anti a b
                omega
              rw [if_neg q3]; exact h3
end Go.Ab
