/- Plain: what package glob's matching means: the ways to divide a text among the parts of a pattern. -/
import Derived.Test.YtknkppbifpgkkaaGlobL
set_option linter.unusedVariables false
set_option linter.unusedSimpArgs false
set_option linter.unnecessarySimpa false
namespace Go.Ab.Glob

def nd (l : List UInt8) : Prop := ∀ x ∈ l, x ≠ 46

def Spl : List UInt8 → List UInt8 → Prop
  | [], s => s = []
  | [c], s => if c = 42 then nd s else s = [c]
  | c :: d :: p, s => if c = 42 then (if d = 42 then ∃ k, k ≤ s.length ∧ Spl p (s.drop k) else ∃ k, k ≤ s.length ∧ nd (s.take k) ∧ Spl (d :: p) (s.drop k)) else ∃ s', s = c :: s' ∧ Spl (d :: p) s'

theorem spl_nil (s : List UInt8) : Spl [] s ↔ s = [] := by simp [Spl]

theorem spl_lit {c : UInt8} (hc : c ≠ 42) (p s : List UInt8) : Spl (c :: p) s ↔ ∃ s', s = c :: s' ∧ Spl p s' := by
  cases p with
  | nil => simp [Spl, hc]
  | cons d p => simp [Spl, hc]

theorem spl_two (p s : List UInt8) : Spl (42 :: 42 :: p) s ↔ ∃ k, k ≤ s.length ∧ Spl p (s.drop k) := by simp [Spl]

theorem spl_one (p s : List UInt8) (hp : p.head? ≠ some 42) : Spl (42 :: p) s ↔ ∃ k, k ≤ s.length ∧ nd (s.take k) ∧ Spl p (s.drop k) := by
  cases p with
  | nil =>
    simp only [Spl, if_true]
    constructor
    · intro h; exact ⟨s.length, Nat.le_refl _, by simpa using h, by simp⟩
    · rintro ⟨k, hk, h, hd⟩
      have : s.take k = s := by
        have := List.take_append_drop k s
        rw [hd, List.append_nil] at this
        exact this
      rwa [this] at h
  | cons d p =>
    have hd : d ≠ 42 := fun e => hp (by simp [e])
    simp [Spl, hd]

theorem nd_iff (s : List UInt8) (j k : Nat) (hk : k ≤ s.length) : nd ((s.take k).drop j) ↔ ∀ i, j ≤ i → i < k → s.getD i 0 ≠ 46 := by
  constructor
  · intro h i h1 h2
    refine h _ ?_
    rw [List.mem_iff_getElem?]
    refine ⟨i - j, ?_⟩
    rw [List.getElem?_drop, show j + (i - j) = i by omega, List.getElem?_take_of_lt h2, List.getD_eq_getElem?_getD, List.getElem?_eq_getElem (by omega)]
    rfl
  · intro h x hx
    obtain ⟨i, hi⟩ := List.mem_iff_getElem?.1 hx
    rw [List.getElem?_drop] at hi
    have h2 : j + i < k := by
      by_cases e : j + i < k
      · exact e
      · rw [List.getElem?_eq_none (by simp; omega)] at hi; cases hi
    rw [List.getElem?_take_of_lt h2] at hi
    have := h (j + i) (by omega) h2
    rw [List.getD_eq_getElem?_getD, hi] at this
    exact this

theorem getD_set (r : List Bool) (n k : Nat) (hn : n < r.length) : (r.set n true).getD k false = if k = n then true else r.getD k false := by
  rw [List.getD_eq_getElem?_getD, List.getD_eq_getElem?_getD, List.getElem?_set]
  by_cases e : n = k
  · subst e; simp [hn]
  · rw [if_neg e, if_neg (fun h => e h.symm)]

theorem byte_eq (a b : UInt8) : ((a.toNat : Int) = (b.toNat : Int)) ↔ a = b := by
  rw [← UInt8.toNat_inj]; omega

theorem spr_iff (s : List UInt8) (dots : Bool) (r : List Bool) (hr : r.length = s.length + 1) : ∀ n, n ≤ s.length → ∀ k,
    ((spr s dots r n).getD k false = true ↔ if k ≤ n then ∃ j, j ≤ k ∧ r.getD j false = true ∧ (dots = true ∨ ∀ i, j ≤ i → i < k → s.getD i 0 ≠ 46) else r.getD k false = true) := by
  intro n
  induction n with
  | zero =>
    intro _ k
    simp only [spr]
    by_cases hk : k = 0
    · subst hk
      rw [if_pos (Nat.le_refl _)]
      constructor
      · intro h; exact ⟨0, Nat.le_refl _, h, .inr fun i _ h2 => by omega⟩
      · rintro ⟨j, hj, h, _⟩
        obtain rfl : j = 0 := by omega
        exact h
    · rw [if_neg (by omega)]
  | succ n ih =>
    intro hn k
    have ih := ih (by omega)
    have hl : (spr s dots r n).length = s.length + 1 := (spr_len _ _ _ _).trans hr
    have hin := ih n
    rw [if_pos (Nat.le_refl _)] at hin
    have h46 : (((s.getD n 0).toNat : Int) = 46) ↔ s.getD n 0 = 46 := byte_eq (s.getD n 0) 46
    have key : ((spr s dots r n).getD n false = true ∧ (dots = true ∨ ¬ ((s.getD n 0).toNat : Int) = 46)) ↔ ∃ j, j ≤ n ∧ r.getD j false = true ∧ (dots = true ∨ ∀ i, j ≤ i → i < n + 1 → s.getD i 0 ≠ 46) := by
      rw [hin, h46]
      constructor
      · rintro ⟨⟨j, h1, h2, h3⟩, h4⟩
        refine ⟨j, h1, h2, ?_⟩
        rcases h4 with h4 | h4
        · exact .inl h4
        · rcases h3 with h3 | h3
          · exact .inl h3
          · refine .inr fun i h5 h6 => ?_
            by_cases e : i = n
            · subst e; exact h4
            · exact h3 i h5 (by omega)
      · rintro ⟨j, h1, h2, h3⟩
        rcases h3 with h3 | h3
        · exact ⟨⟨j, h1, h2, .inl h3⟩, .inl h3⟩
        · exact ⟨⟨j, h1, h2, .inr fun i h5 h6 => h3 i h5 (by omega)⟩, .inr (h3 n h1 (by omega))⟩
    simp only [spr]
    by_cases hc : (spr s dots r n).getD n false = true ∧ (dots = true ∨ ¬ ((s.getD n 0).toNat : Int) = 46)
    · rw [if_pos hc, getD_set _ _ _ (by omega)]
      obtain ⟨j, h1, h2, h3⟩ := key.1 hc
      by_cases hk : k = n + 1
      · subst hk
        rw [if_pos rfl, if_pos (Nat.le_refl _)]
        exact ⟨fun _ => ⟨j, by omega, h2, h3⟩, fun _ => rfl⟩
      · rw [if_neg hk, ih k]
        by_cases hk2 : k ≤ n
        · rw [if_pos hk2, if_pos (by omega)]
        · rw [if_neg hk2, if_neg (by omega)]
    · rw [if_neg hc, ih k]
      by_cases hk : k = n + 1
      · subst hk
        rw [if_neg (by omega), if_pos (Nat.le_refl _)]
        constructor
        · intro h; exact ⟨n + 1, Nat.le_refl _, h, .inr fun i h5 h6 => by omega⟩
        · rintro ⟨j, h1, h2, h3⟩
          by_cases e : j = n + 1
          · subst e; exact h2
          · exact absurd (key.2 ⟨j, by omega, h2, h3⟩) hc
      · by_cases hk2 : k ≤ n
        · rw [if_pos hk2, if_pos (by omega)]
        · rw [if_neg hk2, if_neg (by omega)]

theorem nxt_iff (s : List UInt8) (c : UInt8) (r : List Bool) (hr : r.length = s.length + 1) : ∀ n, n ≤ s.length → ∀ k,
    ((nxt s c r n).getD k false = true ↔ ∃ j, j < n ∧ k = j + 1 ∧ r.getD j false = true ∧ s.getD j 0 = c) := by
  intro n
  induction n with
  | zero =>
    intro _ k
    simp only [nxt]
    constructor
    · intro h
      rw [List.getD_eq_getElem?_getD, List.getElem?_replicate] at h
      split at h <;> simp at h
    · rintro ⟨j, h, _⟩; omega
  | succ n ih =>
    intro hn k
    have ih := ih (by omega)
    have hl : (nxt s c r n).length = s.length + 1 := (nxt_len _ _ _ _).trans hr
    have hb := byte_eq (s.getD n 0) c
    simp only [nxt]
    by_cases hc : r.getD n false = true ∧ ((s.getD n 0).toNat : Int) = (c.toNat : Int)
    · rw [if_pos hc, getD_set _ _ _ (by omega)]
      by_cases hk : k = n + 1
      · subst hk
        rw [if_pos rfl]
        exact ⟨fun _ => ⟨n, by omega, rfl, hc.1, hb.1 hc.2⟩, fun _ => rfl⟩
      · rw [if_neg hk, ih k]
        constructor
        · rintro ⟨j, h1, h2⟩; exact ⟨j, by omega, h2⟩
        · rintro ⟨j, h1, h2, h3⟩; exact ⟨j, by omega, h2, h3⟩
    · rw [if_neg hc, ih k]
      constructor
      · rintro ⟨j, h1, h2⟩; exact ⟨j, by omega, h2⟩
      · rintro ⟨j, h1, h2, h3, h4⟩
        by_cases e : j = n
        · subst e; exact absurd ⟨h3, hb.2 h4⟩ hc
        · exact ⟨j, by omega, h2, h3, h4⟩

theorem som_iff (s : List UInt8) (c : UInt8) (r : List Bool) : ∀ n, (som s c r n = true ↔ ∃ j, j < n ∧ r.getD j false = true ∧ s.getD j 0 = c) := by
  intro n
  induction n with
  | zero => simp [som]
  | succ n ih =>
    have hb := byte_eq (s.getD n 0) c
    simp only [som]
    by_cases hc : r.getD n false = true ∧ ((s.getD n 0).toNat : Int) = (c.toNat : Int)
    · rw [if_pos hc]
      exact ⟨fun _ => ⟨n, by omega, hc.1, hb.1 hc.2⟩, fun _ => rfl⟩
    · rw [if_neg hc, ih]
      constructor
      · rintro ⟨j, h1, h2⟩; exact ⟨j, by omega, h2⟩
      · rintro ⟨j, h1, h3, h4⟩
        by_cases e : j = n
        · subst e; exact absurd ⟨h3, hb.2 h4⟩ hc
        · exact ⟨j, by omega, h3, h4⟩

/-- From a place that has been reached, the rest divides. -/
def Acc (p s : List UInt8) (r : List Bool) : Prop := ∃ k, k ≤ s.length ∧ r.getD k false = true ∧ Spl p (s.drop k)

theorem acc_nil (s : List UInt8) (r : List Bool) : Acc [] s r ↔ r.getD s.length false = true := by
  constructor
  · rintro ⟨k, h1, h2, h3⟩
    have := congrArg List.length ((spl_nil _).1 h3)
    simp only [List.length_drop, List.length_nil] at this
    obtain rfl : k = s.length := by omega
    exact h2
  · intro h; exact ⟨s.length, Nat.le_refl _, h, by simp [spl_nil]⟩

theorem drop_cons (s : List UInt8) (k : Nat) (h : k < s.length) : s.drop k = s.getD k 0 :: s.drop (k + 1) := by
  rw [List.drop_eq_getElem_cons h, List.getD_eq_getElem?_getD, List.getElem?_eq_getElem h]; rfl

theorem acc_lit {c : UInt8} (hc : c ≠ 42) (p s : List UInt8) (r : List Bool) (hr : r.length = s.length + 1) : Acc (c :: p) s r ↔ Acc p s (nxt s c r s.length) := by
  constructor
  · rintro ⟨k, h1, h2, h3⟩
    obtain ⟨s', h4, h5⟩ := (spl_lit hc _ _).1 h3
    have hk : k < s.length := by
      have := congrArg List.length h4
      simp only [List.length_drop, List.length_cons] at this
      omega
    rw [drop_cons s k hk] at h4
    injection h4 with e1 e2
    exact ⟨k + 1, by omega, (nxt_iff s c r hr _ (Nat.le_refl _) _).2 ⟨k, hk, rfl, h2, e1⟩, by rw [e2]; exact h5⟩
  · rintro ⟨k, h1, h2, h3⟩
    obtain ⟨j, h4, rfl, h5, h6⟩ := (nxt_iff s c r hr _ (Nat.le_refl _) _).1 h2
    exact ⟨j, by omega, h5, (spl_lit hc _ _).2 ⟨s.drop (j + 1), by rw [drop_cons s j h4, h6], h3⟩⟩

theorem acc_one (p s : List UInt8) (r : List Bool) (hr : r.length = s.length + 1) (hp : p.head? ≠ some 42) : Acc (42 :: p) s r ↔ Acc p s (spr s false r s.length) := by
  constructor
  · rintro ⟨k, h1, h2, h3⟩
    obtain ⟨n, h4, h5, h6⟩ := (spl_one _ _ hp).1 h3
    simp only [List.length_drop] at h4
    refine ⟨k + n, by omega, (spr_iff s false r hr _ (Nat.le_refl _) _).2 ?_, by rwa [List.drop_drop] at h6⟩
    rw [if_pos (by omega)]
    refine ⟨k, by omega, h2, .inr ((nd_iff s k (k + n) (by omega)).1 ?_)⟩
    rw [List.drop_take]
    rwa [show k + n - k = n by omega]
  · rintro ⟨k, h1, h2, h3⟩
    have h2 := (spr_iff s false r hr _ (Nat.le_refl _) _).1 h2
    rw [if_pos h1] at h2
    obtain ⟨j, h4, h5, h6⟩ := h2
    have h6 := h6.resolve_left (by simp)
    refine ⟨j, by omega, h5, (spl_one _ _ hp).2 ⟨k - j, by simp only [List.length_drop]; omega, ?_, ?_⟩⟩
    · rw [← List.drop_take]; exact (nd_iff s j k h1).2 h6
    · rw [List.drop_drop, show j + (k - j) = k by omega]; exact h3

theorem acc_two (p s : List UInt8) (r : List Bool) (hr : r.length = s.length + 1) : Acc (42 :: 42 :: p) s r ↔ Acc p s (spr s true r s.length) := by
  constructor
  · rintro ⟨k, h1, h2, h3⟩
    obtain ⟨n, h4, h6⟩ := (spl_two _ _).1 h3
    simp only [List.length_drop] at h4
    refine ⟨k + n, by omega, (spr_iff s true r hr _ (Nat.le_refl _) _).2 ?_, by rwa [List.drop_drop] at h6⟩
    rw [if_pos (by omega)]
    exact ⟨k, by omega, h2, .inl rfl⟩
  · rintro ⟨k, h1, h2, h3⟩
    have h2 := (spr_iff s true r hr _ (Nat.le_refl _) _).1 h2
    rw [if_pos h1] at h2
    obtain ⟨j, h4, h5, h6⟩ := h2
    refine ⟨j, by omega, h5, (spl_two _ _).2 ⟨k - j, by simp only [List.length_drop]; omega, ?_⟩⟩
    rw [List.drop_drop, show j + (k - j) = k by omega]; exact h3

theorem hasP_two (p : List UInt8) : hasP p [42, 42] = true ↔ ∃ p', p = 42 :: 42 :: p' := by
  rcases p with _ | ⟨a, _ | ⟨b, p⟩⟩ <;> simp [hasP]

theorem mg_acc (p s : List UInt8) : ∀ (f i : Nat) (r : List Bool), i ≤ p.length → p.length ≤ i + f → r.length = s.length + 1 →
    (((mg p s f i r).1 = p.length ∧ (mg p s f i r).2.getD s.length false = true) ↔ Acc (p.drop i) s r) := by
  intro f
  induction f with
  | zero =>
    intro i r h1 h2 hr
    obtain rfl : i = p.length := by omega
    rw [List.drop_length, acc_nil]
    simp [mg]
  | succ f ih =>
    intro i r h1 h2 hr
    by_cases hi : i < p.length
    · have hst : star p i ↔ p.getD i 0 = 42 := byte_eq (p.getD i 0) 42
      have hdr := drop_cons p i hi
      simp only [mg]
      rw [if_pos hi]
      by_cases ht : hasP (p.drop i) [42, 42] = true
      · rw [if_pos ht]
        obtain ⟨p', hp'⟩ := (hasP_two _).1 ht
        have hl := congrArg List.length hp'
        simp only [List.length_drop, List.length_cons] at hl
        have hd2 : p.drop (i + 2) = p' := by
          rw [← List.drop_drop, hp']; rfl
        rw [ih (i + 2) _ (by omega) (by omega) ((spr_len _ _ _ _).trans hr), hd2, hp', acc_two _ _ _ hr]
      · rw [if_neg ht]
        by_cases hs : star p i
        · rw [if_pos hs, ih (i + 1) _ (by omega) (by omega) ((spr_len _ _ _ _).trans hr), hdr, hst.1 hs, acc_one _ _ _ hr]
          intro hh
          refine ht ((hasP_two _).2 ?_)
          rw [hdr, hst.1 hs]
          cases hq : p.drop (i + 1) with
          | nil => rw [hq] at hh; simp at hh
          | cons a q => rw [hq] at hh; simp at hh; exact ⟨q, by rw [hh]⟩
        · rw [if_neg hs, hdr, acc_lit (fun e => hs (hst.2 e)) _ _ _ hr]
          by_cases hm : som s (p.getD i 0) r s.length = true
          · rw [if_pos hm, ih (i + 1) _ (by omega) (by omega) ((nxt_len _ _ _ _).trans hr)]
          · rw [if_neg hm]
            constructor
            · rintro ⟨h3, _⟩; simp only at h3; omega
            · rintro ⟨k, h3, h4, _⟩
              obtain ⟨j, h5, _, h6, h7⟩ := (nxt_iff s _ r hr _ (Nat.le_refl _) _).1 h4
              exact absurd ((som_iff s _ r _).2 ⟨j, h5, h6, h7⟩) hm
    · obtain rfl : i = p.length := by omega
      simp only [mg]
      rw [if_neg hi, List.drop_length, acc_nil]
      simp

/-- What Match means. -/
theorem matchL_iff (p s : List UInt8) : matchL p s = true ↔ check p = 0 ∧ Spl p s := by
  unfold matchL
  have hr : (ini s).length = s.length + 1 := by simp [ini]
  have h := mg_acc p s p.length 0 (ini s) (Nat.zero_le _) (by omega) hr
  have hacc : Acc (p.drop 0) s (ini s) ↔ Spl p s := by
    have hg : ∀ k, (ini s).getD k false = true ↔ k = 0 := by
      intro k
      unfold ini
      rw [getD_set _ _ _ (by simp)]
      by_cases e : k = 0
      · simp [e]
      · rw [if_neg e, List.getD_eq_getElem?_getD, List.getElem?_replicate]
        split <;> simp [e]
    constructor
    · rintro ⟨k, _, h2, h3⟩
      obtain rfl := (hg k).1 h2
      simpa using h3
    · intro h; exact ⟨0, Nat.zero_le _, (hg 0).2 rfl, by simpa using h⟩
  rw [hacc] at h
  rw [← h]
  by_cases hc : check p = 0
  · rw [if_pos hc]
    by_cases he : (mg p s p.length 0 (ini s)).1 = p.length
    · simp [hc, he]
    · simp [he]
  · rw [if_neg hc]
    simp [hc]

end Go.Ab.Glob
