/- Plain: what the laws about literal patterns and about doubled asterisks say of what Match means. -/
import Derived.Test.YtknkppbifpgkkaaGlobP
set_option linter.unusedVariables false
set_option linter.unusedSimpArgs false
set_option linter.unnecessarySimpa false
namespace Go.Ab.Glob

theorem spl_plain : ∀ (p s : List UInt8), (∀ c ∈ p, c ≠ 42) → (Spl p s ↔ s = p)
  | [], s, _ => spl_nil s
  | c :: p, s, h => by
    rw [spl_lit (h c (by simp))]
    have ih := fun s => spl_plain p s fun x hx => h x (by simp [hx])
    constructor
    · rintro ⟨s', h1, h2⟩; rw [h1, (ih s').1 h2]
    · rintro rfl; exact ⟨p, rfl, (ih p).2 rfl⟩

/-- Two asterisks in each group; b: the byte before was an asterisk. -/
def drec : Bool → List UInt8 → List UInt8
  | _, [] => []
  | b, c :: p => if c = 42 then (if b then drec true p else 42 :: 42 :: drec true p) else c :: drec false p

/-- As the law's text builds it, of the first k bytes. -/
def dbl (l : List UInt8) : Nat → List UInt8
  | 0 => []
  | k + 1 => if star l k then (if 0 < k ∧ star l (k - 1) then dbl l k else dbl l k ++ [42, 42]) else dbl l k ++ [l.getD k 0]

theorem star_iff (l : List UInt8) (i : Nat) : star l i ↔ l.getD i 0 = 42 := byte_eq (l.getD i 0) 42

theorem dbl_drec (l : List UInt8) : ∀ k, k ≤ l.length → dbl l k ++ drec (decide (0 < k ∧ star l (k - 1))) (l.drop k) = drec false l := by
  intro k
  induction k with
  | zero => intro _; simp [dbl]
  | succ k ih =>
    intro hk
    have ih := ih (by omega)
    rw [drop_cons l k (by omega)] at ih
    rw [← ih]
    have hs := star_iff l k
    simp only [Nat.add_sub_cancel, dbl, drec]
    by_cases h : star l k
    · rw [if_pos h, if_pos (hs.1 h)]
      have e : decide (0 < k + 1 ∧ star l k) = true := decide_eq_true ⟨by omega, h⟩
      rw [e]
      by_cases h2 : 0 < k ∧ star l (k - 1)
      · rw [if_pos h2, decide_eq_true h2]; simp
      · rw [if_neg h2, decide_eq_false h2]; simp
    · rw [if_neg h, if_neg (fun e => h (hs.2 e))]
      have e : decide (0 < k + 1 ∧ star l k) = false := decide_eq_false fun e => h e.2
      rw [e]; simp

theorem dbl_all (l : List UInt8) : dbl l l.length = drec false l := by
  have := dbl_drec l l.length (Nat.le_refl _)
  rw [List.drop_length] at this
  simpa [drec] using this

theorem dbl_len (l : List UInt8) : ∀ k, (dbl l k).length ≤ 2 * k ∧ (0 < k → 0 < (dbl l k).length)
  | 0 => by simp [dbl]
  | k + 1 => by
    have ih := dbl_len l k
    simp only [dbl]
    split
    · split
      · rename_i h; exact ⟨by omega, fun _ => ih.2 h.1⟩
      · simp; omega
    · simp; omega

theorem rg_pre (l q : List UInt8) : ∀ k, (∀ j, j < k → l.getD j 0 = q.getD j 0) → rgN l k = rgN q k ∧ rgR l k = rgR q k ∧ rgM l k = rgM q k := by
  intro k
  induction k with
  | zero => intro _; exact ⟨rfl, rfl, rfl⟩
  | succ k ih =>
    intro h
    obtain ⟨h1, h2, h3⟩ := ih fun j hj => h j (by omega)
    have e : ∀ j, j ≤ k → (star l j ↔ star q j) := fun j hj => by unfold star; rw [h j (by omega)]
    simp only [rgN, rgR, rgM, h1, h2, h3, e k (Nat.le_refl _), e (k - 1) (by omega), and_self]

theorem getD_app (d e : List UInt8) (j : Nat) (h : j < d.length) : (d ++ e).getD j 0 = d.getD j 0 := by
  rw [List.getD_eq_getElem?_getD, List.getD_eq_getElem?_getD, List.getElem?_append_left h]
theorem getD_app2 (d e : List UInt8) (j : Nat) : (d ++ e).getD (d.length + j) 0 = e.getD j 0 := by
  rw [List.getD_eq_getElem?_getD, List.getD_eq_getElem?_getD, List.getElem?_append_right (by omega)]
  simp

theorem rg_dbl (l : List UInt8) : ∀ k, rgN (dbl l k) (dbl l k).length = rgN l k ∧ (0 < rgR (dbl l k) (dbl l k).length ↔ 0 < k ∧ star l (k - 1)) ∧ rgM (dbl l k) (dbl l k).length ≤ 2 := by
  intro k
  induction k with
  | zero => simp [dbl, rgN, rgR, rgM]
  | succ k ih =>
    obtain ⟨h1, h2, h3⟩ := ih
    generalize hd : dbl l k = d at h1 h2 h3
    have hR := rgR_pos d d.length
    simp only [dbl, hd, Nat.add_sub_cancel]
    by_cases h : star l k
    · rw [if_pos h]
      by_cases hp : 0 < k ∧ star l (k - 1)
      · rw [if_pos hp]
        refine ⟨?_, ?_, h3⟩
        · rw [h1]; simp only [rgN]; rw [if_pos h, if_pos hp]
        · rw [h2]; exact ⟨fun _ => ⟨by omega, h⟩, fun _ => hp⟩
      · rw [if_neg hp]
        have hz : rgR d d.length = 0 := by
          have : ¬ 0 < rgR d d.length := fun h5 => hp (h2.1 h5)
          omega
        have hno : ¬ (0 < d.length ∧ star d (d.length - 1)) := fun h5 => by
          have := hR.2.2.2 h5; omega
        have e0 := rg_pre (d ++ [42, 42]) d d.length fun j hj => getD_app _ _ j hj
        have s0 : star (d ++ [42, 42]) d.length := (star_iff _ _).2 (by have := getD_app2 d [42, 42] 0; simp)
        have s1 : star (d ++ [42, 42]) (d.length + 1) := (star_iff _ _).2 (by rw [getD_app2]; rfl)
        have hno' : ¬ (0 < d.length ∧ star (d ++ [42, 42]) (d.length - 1)) := fun h5 => hno ⟨h5.1, by
          have := h5.2
          unfold star at this ⊢
          rwa [getD_app _ _ _ (by omega)] at this⟩
        have hlen : (d ++ [42, 42]).length = d.length + 1 + 1 := by simp
        rw [hlen]
        generalize hq : d ++ [42, 42] = q at e0 s0 s1 hno'
        have n1 : rgN q (d.length + 1) = rgN l k + 1 := by
          show (if star q d.length then (if 0 < d.length ∧ star q (d.length - 1) then rgN q d.length else rgN q d.length + 1) else rgN q d.length) = _
          rw [if_pos s0, if_neg hno', e0.1, h1]
        have n2 : rgN q (d.length + 1 + 1) = rgN l k + 1 := by
          show (if star q (d.length + 1) then (if 0 < d.length + 1 ∧ star q (d.length + 1 - 1) then rgN q (d.length + 1) else rgN q (d.length + 1) + 1) else rgN q (d.length + 1)) = _
          rw [if_pos s1, if_pos ⟨by omega, s0⟩, n1]
        have r1 : rgR q (d.length + 1) = 1 := by
          show (if star q d.length then rgR q d.length + 1 else 0) = _
          rw [if_pos s0, e0.2.1, hz]; rfl
        have r2 : rgR q (d.length + 1 + 1) = 2 := by
          show (if star q (d.length + 1) then rgR q (d.length + 1) + 1 else 0) = _
          rw [if_pos s1, r1]; rfl
        have m1 : rgM q (d.length + 1) ≤ 2 := by
          show (if star q d.length then (if rgM q d.length < rgR q d.length + 1 then rgR q d.length + 1 else rgM q d.length) else rgM q d.length) ≤ _
          rw [if_pos s0]; split <;> omega
        have m2 : rgM q (d.length + 1 + 1) ≤ 2 := by
          show (if star q (d.length + 1) then (if rgM q (d.length + 1) < rgR q (d.length + 1) + 1 then rgR q (d.length + 1) + 1 else rgM q (d.length + 1)) else rgM q (d.length + 1)) ≤ _
          rw [if_pos s1]; split <;> omega
        refine ⟨?_, ?_, m2⟩
        · rw [n2]
          show _ = (if star l k then (if 0 < k ∧ star l (k - 1) then rgN l k else rgN l k + 1) else rgN l k)
          rw [if_pos h, if_neg hp]
        · rw [r2]; exact ⟨fun _ => ⟨by omega, h⟩, fun _ => by omega⟩
    · rw [if_neg h]
      have e0 := rg_pre (d ++ [l.getD k 0]) d d.length fun j hj => getD_app _ _ j hj
      have s0 : ¬ star (d ++ [l.getD k 0]) d.length := by
        have := getD_app2 d [l.getD k 0] 0
        rw [Nat.add_zero] at this
        intro h5
        rw [star_iff, this] at h5
        exact h ((star_iff _ _).2 (by simpa using h5))
      have hlen : (d ++ [l.getD k 0]).length = d.length + 1 := by simp
      rw [hlen]
      simp only [rgN, rgR, rgM]
      rw [if_neg s0, if_neg s0, if_neg s0, e0.1, h1, if_neg h, e0.2.2]
      exact ⟨rfl, ⟨fun h5 => absurd h5 (by omega), fun h5 => absurd h5.2 h⟩, h3⟩

theorem check_dbl (p : List UInt8) (hp : p.length ≤ 500) (h : check p = 0) : check (drec false p) = 0 := by
  rw [check_eq] at h ⊢
  unfold rcheck at h ⊢
  rw [← dbl_all]
  obtain ⟨h1, _, h3⟩ := rg_dbl p p.length
  have hl := dbl_len p p.length
  by_cases e1 : 1024 < (p.length : Int)
  · omega
  · rw [if_neg e1] at h
    by_cases e2 : 16 < rgN p p.length
    · rw [if_pos e2] at h; omega
    · rw [if_neg e2] at h
      by_cases e3 : (p.length : Int) = 0 ∨ 2 < rgM p p.length
      · rw [if_pos e3] at h; omega
      · rw [if_neg (by omega), h1, if_neg e2, if_neg]
        have := hl.2
        omega

theorem spl_true : ∀ (n : Nat) (p s : List UInt8), p.length ≤ n →
    (Spl p s → Spl (drec false p) s) ∧ (Spl p s → ∃ k, k ≤ s.length ∧ Spl (drec true p) (s.drop k))
  | 0, p, s, h => by
    obtain rfl : p = [] := List.length_eq_zero_iff.1 (by omega)
    exact ⟨id, fun h => ⟨0, Nat.zero_le _, by simpa [drec] using h⟩⟩
  | n + 1, [], s, h => ⟨id, fun h => ⟨0, Nat.zero_le _, by simpa [drec] using h⟩⟩
  | n + 1, c :: p, s, h => by
    simp only [List.length_cons] at h
    by_cases hc : c = 42
    · subst hc
      have hb : Spl (42 :: p) s → ∃ k, k ≤ s.length ∧ Spl (drec true p) (s.drop k) := by
        intro h1
        by_cases hp : p.head? = some 42
        · cases p with
          | nil => simp at hp
          | cons d q =>
            simp only [List.head?_cons, Option.some.injEq] at hp
            subst hp
            obtain ⟨k, h2, h3⟩ := (spl_two _ _).1 h1
            obtain ⟨k', h4, h5⟩ := (spl_true n q (s.drop k) (by simp only [List.length_cons] at h; omega)).2 h3
            simp only [List.length_drop] at h4
            exact ⟨k + k', by omega, by rw [List.drop_drop] at h5; simpa [drec] using h5⟩
        · obtain ⟨k, h2, _, h3⟩ := (spl_one _ _ hp).1 h1
          obtain ⟨k', h4, h5⟩ := (spl_true n p (s.drop k) (by omega)).2 h3
          simp only [List.length_drop] at h4
          exact ⟨k + k', by omega, by rw [List.drop_drop] at h5; exact h5⟩
      refine ⟨fun h1 => ?_, fun h1 => ?_⟩
      · have e : drec false (42 :: p) = 42 :: 42 :: drec true p := by simp [drec]
        rw [e]; exact (spl_two _ _).2 (hb h1)
      · have e : drec true (42 :: p) = drec true p := by simp [drec]
        rw [e]; exact hb h1
    · have e : ∀ b, drec b (c :: p) = c :: drec false p := fun b => by simp [drec, hc]
      have hb : Spl (c :: p) s → Spl (c :: drec false p) s := by
        intro h1
        obtain ⟨s', h2, h3⟩ := (spl_lit hc _ _).1 h1
        exact (spl_lit hc _ _).2 ⟨s', h2, (spl_true n p s' (by omega)).1 h3⟩
      rw [e, e]
      exact ⟨hb, fun h1 => ⟨0, Nat.zero_le _, by simpa using hb h1⟩⟩

theorem widens (p s : List UInt8) (hp : p.length ≤ 500) (h : matchL p s = true) : matchL (drec false p) s = true := by
  obtain ⟨h1, h2⟩ := (matchL_iff _ _).1 h
  exact (matchL_iff _ _).2 ⟨check_dbl p hp h1, (spl_true p.length p s (Nat.le_refl _)).1 h2⟩

end Go.Ab.Glob
