set_option linter.unusedVariables false
set_option linter.unusedSimpArgs false
set_option linter.unnecessarySimpa false
/- Plain functions on lists that say what the functions of package glob, of its reference and of its laws compute, and what holds of them. -/
namespace Go.Ab.Glob

def star (l : List UInt8) (i : Nat) : Prop := ((l.getD i 0).toNat : Int) = 42
instance (l : List UInt8) (i : Nat) : Decidable (star l i) := inferInstanceAs (Decidable (_ = _))

def incLast (es : List Int) : List Int := es.set (es.length - 1) (es.getD (es.length - 1) 0 + 1)

/-- The lengths of the groups among the first k bytes. -/
def gr (l : List UInt8) : Nat → List Int
  | 0 => []
  | k + 1 => if star l k then (if 0 < k ∧ star l (k - 1) then incLast (gr l k) else gr l k ++ [1]) else gr l k

theorem incLast_length (es : List Int) : (incLast es).length = es.length := by simp [incLast]

theorem gr_len (l : List UInt8) : ∀ k, (gr l k).length ≤ k
  | 0 => by simp [gr]
  | k + 1 => by
    have := gr_len l k
    simp only [gr]
    split
    · split
      · rw [incLast_length]; omega
      · simp; omega
    · omega

theorem gr_bd (l : List UInt8) : ∀ k, ∀ x ∈ gr l k, 1 ≤ x ∧ x ≤ k
  | 0 => by simp [gr]
  | k + 1 => by
    intro x hx
    simp only [gr] at hx
    split at hx
    · split at hx
      · unfold incLast at hx
        rcases List.mem_or_eq_of_mem_set hx with h | h
        · have := gr_bd l k x h; omega
        · by_cases hl : (gr l k).length = 0
          · have : gr l k = [] := List.length_eq_zero_iff.1 hl
            rw [this] at hx; simp at hx
          · have hm : (gr l k).getD ((gr l k).length - 1) 0 ∈ gr l k := by
              rw [List.getD_eq_getElem?_getD, List.getElem?_eq_getElem (by omega)]
              exact List.getElem_mem _
            have := gr_bd l k _ hm; omega
      · rcases List.mem_append.1 hx with h | h
        · have := gr_bd l k x h; omega
        · simp at h; omega
    · have := gr_bd l k x hx; omega

theorem gr_ne (l : List UInt8) : ∀ k, 0 < k → star l (k - 1) → gr l k ≠ []
  | 0, h, _ => by omega
  | k + 1, _, hs => by
    simp only [Nat.add_sub_cancel] at hs
    simp only [gr, if_pos hs]
    split
    · rename_i h
      have := gr_ne l k h.1 h.2
      intro e
      have h2 := congrArg List.length e
      rw [incLast_length] at h2
      exact this (List.length_eq_zero_iff.1 h2)
    · simp

/-- The number of the groups among the first k bytes, the length of the longest, and the length of the one that is open. -/
def rgN (l : List UInt8) : Nat → Int
  | 0 => 0
  | k + 1 => if star l k then (if 0 < k ∧ star l (k - 1) then rgN l k else rgN l k + 1) else rgN l k
def rgR (l : List UInt8) : Nat → Int
  | 0 => 0
  | k + 1 => if star l k then rgR l k + 1 else 0
def rgM (l : List UInt8) : Nat → Int
  | 0 => 0
  | k + 1 => if star l k then (if rgM l k < rgR l k + 1 then rgR l k + 1 else rgM l k) else rgM l k

theorem rgR_pos (l : List UInt8) (k : Nat) : 0 ≤ rgR l k ∧ rgR l k ≤ k ∧ (0 < rgR l k ↔ 0 < k ∧ star l (k - 1)) := by
  induction k with
  | zero => simp [rgR]
  | succ k ih =>
    simp only [rgR, Nat.add_sub_cancel]
    split
    · rename_i h; refine ⟨by omega, by omega, ?_⟩; simp [h]; omega
    · rename_i h; simp [h]; omega

theorem rgN_bd (l : List UInt8) (k : Nat) : 0 ≤ rgN l k ∧ rgN l k ≤ k := by
  induction k with
  | zero => simp [rgN]
  | succ k ih => simp only [rgN]; split <;> (try split) <;> omega

theorem rgM_bd (l : List UInt8) (k : Nat) : 0 ≤ rgM l k ∧ rgM l k ≤ k := by
  induction k with
  | zero => simp [rgM]
  | succ k ih => have := rgR_pos l k; simp only [rgM]; split <;> (try split) <;> omega

theorem rgN_gr (l : List UInt8) (k : Nat) : ((gr l k).length : Int) = rgN l k := by
  induction k with
  | zero => rfl
  | succ k ih =>
    simp only [gr, rgN]
    split
    · split
      · rw [incLast_length]; exact ih
      · simp [ih]
    · exact ih

theorem getD_last (es : List Int) (x : Int) : (es ++ [x]).getD ((es ++ [x]).length - 1) 0 = x := by
  simp [List.getD_eq_getElem?_getD]

theorem incLast_snoc (es : List Int) (x : Int) : incLast (es ++ [x]) = es ++ [x + 1] := by
  unfold incLast
  rw [getD_last]
  simp

theorem gr_last (l : List UInt8) : ∀ k, 0 < k → star l (k - 1) → ∃ es, gr l k = es ++ [rgR l k]
  | 0, h, _ => by omega
  | k + 1, _, hs => by
    simp only [Nat.add_sub_cancel] at hs
    simp only [gr, rgR, if_pos hs]
    by_cases h : 0 < k ∧ star l (k - 1)
    · obtain ⟨es, he⟩ := gr_last l k h.1 h.2
      rw [if_pos h, he, incLast_snoc]
      exact ⟨es, rfl⟩
    · rw [if_neg h]
      have := (rgR_pos l k)
      have h0 : rgR l k = 0 := by
        have h1 : ¬ 0 < rgR l k := fun h2 => h (this.2.2.1 h2)
        omega
      rw [h0]
      exact ⟨gr l k, rfl⟩

theorem gr_most (l : List UInt8) (k : Nat) : (∀ m : Int, 0 ≤ m → ((∃ x ∈ gr l k, m < x) ↔ m < rgM l k)) := by
  induction k with
  | zero => intro m hm; simp [gr, rgM]; omega
  | succ k ih =>
    intro m hm
    have hR := rgR_pos l k
    simp only [gr, rgM]
    by_cases h : star l k
    · rw [if_pos h, if_pos h]
      by_cases h2 : 0 < k ∧ star l (k - 1)
      · obtain ⟨es, he⟩ := gr_last l k h2.1 h2.2
        rw [if_pos h2, he, incLast_snoc]
        have := ih m hm
        rw [he] at this
        constructor
        · rintro ⟨x, hx, hmx⟩
          rcases List.mem_append.1 hx with hx | hx
          · have h3 := this.1 ⟨x, List.mem_append.2 (.inl hx), hmx⟩
            split <;> omega
          · simp at hx; split <;> omega
        · intro hlt
          split at hlt
          · exact ⟨rgR l k + 1, by simp, hlt⟩
          · obtain ⟨x, hx, hmx⟩ := this.2 hlt
            rcases List.mem_append.1 hx with hx | hx
            · exact ⟨x, List.mem_append.2 (.inl hx), hmx⟩
            · simp at hx; exact ⟨rgR l k + 1, by simp, by omega⟩
      · rw [if_neg h2]
        have h0 : rgR l k = 0 := by
          have h1 : ¬ 0 < rgR l k := fun h3 => h2 (hR.2.2.1 h3)
          omega
        have := ih m hm
        constructor
        · rintro ⟨x, hx, hmx⟩
          rcases List.mem_append.1 hx with hx | hx
          · have h3 := this.1 ⟨x, hx, hmx⟩
            split <;> omega
          · simp at hx; split <;> omega
        · intro hlt
          split at hlt
          · exact ⟨1, by simp, by omega⟩
          · obtain ⟨x, hx, hmx⟩ := this.2 hlt
            exact ⟨x, List.mem_append.2 (.inl hx), hmx⟩
    · rw [if_neg h, if_neg h]
      exact ih m hm

/-- What Check answers. -/
def check (l : List UInt8) : Int :=
  if 1024 < (l.length : Int) then 3 else if 16 < ((gr l l.length).length : Int) then 14 else if (gr l l.length).any (fun x => decide (2 < x)) then 2 else if l = [] then 2 else 0

def rcheck (l : List UInt8) : Int :=
  if 1024 < (l.length : Int) then 3 else if 16 < rgN l l.length then 14 else if (l.length : Int) = 0 ∨ 2 < rgM l l.length then 2 else 0

theorem check_eq (l : List UInt8) : check l = rcheck l := by
  unfold check rcheck
  have h := gr_most l l.length 2 (by omega)
  rw [rgN_gr]
  split
  · rfl
  · split
    · rfl
    · by_cases h1 : (gr l l.length).any (fun x => decide (2 < x)) = true
      · rw [if_pos h1, if_pos]
        right
        obtain ⟨x, hx, hd⟩ := List.any_eq_true.1 h1
        exact h.1 ⟨x, hx, of_decide_eq_true hd⟩
      · rw [if_neg h1]
        have h2 : ¬ 2 < rgM l l.length := fun hlt => h1 (by
          obtain ⟨x, hx, hd⟩ := h.2 hlt
          exact List.any_eq_true.2 ⟨x, hx, decide_eq_true hd⟩)
        by_cases h3 : l = []
        · rw [if_pos h3, if_pos (.inl (by simp [h3]))]
        · rw [if_neg h3, if_neg]
          rintro (h4 | h4)
          · exact h3 (List.length_eq_zero_iff.1 (by omega))
          · exact h2 h4

/-! ### Matching -/
def spr (s : List UInt8) (dots : Bool) (r : List Bool) : Nat → List Bool
  | 0 => r
  | k + 1 => if (spr s dots r k).getD k false = true ∧ (dots = true ∨ ¬ ((s.getD k 0).toNat : Int) = 46) then (spr s dots r k).set (k + 1) true else spr s dots r k

theorem spr_len (s : List UInt8) (dots : Bool) (r : List Bool) (k : Nat) : (spr s dots r k).length = r.length := by
  induction k with
  | zero => rfl
  | succ k ih => simp only [spr]; split <;> simp [ih]

def nxt (s : List UInt8) (c : UInt8) (r : List Bool) : Nat → List Bool
  | 0 => List.replicate r.length false
  | k + 1 => if r.getD k false = true ∧ ((s.getD k 0).toNat : Int) = (c.toNat : Int) then (nxt s c r k).set (k + 1) true else nxt s c r k
def som (s : List UInt8) (c : UInt8) (r : List Bool) : Nat → Bool
  | 0 => false
  | k + 1 => if r.getD k false = true ∧ ((s.getD k 0).toNat : Int) = (c.toNat : Int) then true else som s c r k

theorem nxt_len (s : List UInt8) (c : UInt8) (r : List Bool) (k : Nat) : (nxt s c r k).length = r.length := by
  induction k with
  | zero => simp [nxt]
  | succ k ih => simp only [nxt]; split <;> simp [ih]

def hasP : List UInt8 → List UInt8 → Bool
  | _, [] => true
  | [], _ :: _ => false
  | a :: x, b :: y => decide (a = b) && hasP x y

theorem hasP_take : ∀ (s p : List UInt8), hasP s p = (decide (p.length ≤ s.length) && decide (s.take p.length = p))
  | s, [] => by simp [hasP]
  | [], _ :: _ => by simp [hasP]
  | a :: x, b :: y => by
    simp only [hasP, hasP_take x y, List.length_cons, List.take_succ_cons, List.cons.injEq, Nat.add_le_add_iff_right]
    by_cases h : a = b <;> simp [h]

/-- The loop of Match, of at most so many rounds: where it ends, and what has been reached. -/
def mg (p s : List UInt8) : Nat → Nat → List Bool → Nat × List Bool
  | 0, i, r => (i, r)
  | f + 1, i, r => if i < p.length then
      (if hasP (p.drop i) [42, 42] = true then mg p s f (i + 2) (spr s true r s.length)
       else if star p i then mg p s f (i + 1) (spr s false r s.length)
       else if som s (p.getD i 0) r s.length = true then mg p s f (i + 1) (nxt s (p.getD i 0) r s.length) else (i, nxt s (p.getD i 0) r s.length))
    else (i, r)

def ini (s : List UInt8) : List Bool := (List.replicate (s.length + 1) false).set 0 true

def matchL (p s : List UInt8) : Bool :=
  if check p = 0 then (if (mg p s p.length 0 (ini s)).1 = p.length then (mg p s p.length 0 (ini s)).2.getD s.length false else false) else false

def anyL (ps : List (List UInt8)) (s : List UInt8) : Bool := ps.any fun p => matchL p s

end Go.Ab.Glob
