/- Contracts of package glob and of the reference's Check, for further chapters (from the texts of chapter 05). -/
import Derived.Test.YtgdcfenbmcflkaaGreatDoorTy
import Derived.Test.YtgdcfenbmcflkaaGreatDoorAbGw
set_option linter.unusedVariables false
set_option linter.unusedSimpArgs false
set_option linter.unnecessarySimpa false
namespace Go.Ab.Glob

def star (l : List UInt8) (i : Nat) : Prop := ((l.getD i 0).toNat : Int) = 42
instance (l : List UInt8) (i : Nat) : Decidable (star l i) := inferInstanceAs (Decidable (_ = _))

def incLast (es : List Int) : List Int := es.set (es.length - 1) (es.getD (es.length - 1) 0 + 1)

/-- The lengths of the groups among the first k bytes. -/
def gr (l : List UInt8) : Nat → List Int
  | 0 => []
  | k + 1 => if star l k then (if 0 < k ∧ star l (k - 1) then incLast (gr l k) else gr l k ++ [1]) else gr l k

theorem incLast_length (es : List Int) : (incLast es).length = es.length := by simp [incLast]

theorem gr_len (l : List UInt8) : ∀ k, (gr l k).length ≤ k
  | 0 => by simp [gr]
  | k + 1 => by
    have := gr_len l k
    simp only [gr]
    split
    · split
      · rw [incLast_length]; omega
      · simp; omega
    · omega

theorem gr_bd (l : List UInt8) : ∀ k, ∀ x ∈ gr l k, 1 ≤ x ∧ x ≤ k
  | 0 => by simp [gr]
  | k + 1 => by
    intro x hx
    simp only [gr] at hx
    split at hx
    · split at hx
      · unfold incLast at hx
        rcases List.mem_or_eq_of_mem_set hx with h | h
        · have := gr_bd l k x h; omega
        · by_cases hl : (gr l k).length = 0
          · have : gr l k = [] := List.length_eq_zero_iff.1 hl
            rw [this] at hx; simp at hx
          · have hm : (gr l k).getD ((gr l k).length - 1) 0 ∈ gr l k := by
              rw [List.getD_eq_getElem?_getD, List.getElem?_eq_getElem (by omega)]
              exact List.getElem_mem _
            have := gr_bd l k _ hm; omega
      · rcases List.mem_append.1 hx with h | h
        · have := gr_bd l k x h; omega
        · simp at h; omega
    · have := gr_bd l k x hx; omega

theorem gr_ne (l : List UInt8) : ∀ k, 0 < k → star l (k - 1) → gr l k ≠ []
  | 0, h, _ => by omega
  | k + 1, _, hs => by
    simp only [Nat.add_sub_cancel] at hs
    simp only [gr, if_pos hs]
    split
    · rename_i h
      have := gr_ne l k h.1 h.2
      intro e
      have h2 := congrArg List.length e
      rw [incLast_length] at h2
      exact this (List.length_eq_zero_iff.1 h2)
    · simp

/-- The number of the groups among the first k bytes, the length of the longest, and the length of the one that is open. -/
def rgN (l : List UInt8) : Nat → Int
  | 0 => 0
  | k + 1 => if star l k then (if 0 < k ∧ star l (k - 1) then rgN l k else rgN l k + 1) else rgN l k
def rgR (l : List UInt8) : Nat → Int
  | 0 => 0
  | k + 1 => if star l k then rgR l k + 1 else 0
def rgM (l : List UInt8) : Nat → Int
  | 0 => 0
  | k + 1 => if star l k then (if rgM l k < rgR l k + 1 then rgR l k + 1 else rgM l k) else rgM l k

theorem rgR_pos (l : List UInt8) (k : Nat) : 0 ≤ rgR l k ∧ rgR l k ≤ k ∧ (0 < rgR l k ↔ 0 < k ∧ star l (k - 1)) := by
  induction k with
  | zero => simp [rgR]
  | succ k ih =>
    simp only [rgR, Nat.add_sub_cancel]
    split
    · rename_i h; refine ⟨by omega, by omega, ?_⟩; simp [h]; omega
    · rename_i h; simp [h]; omega

theorem rgN_bd (l : List UInt8) (k : Nat) : 0 ≤ rgN l k ∧ rgN l k ≤ k := by
  induction k with
  | zero => simp [rgN]
  | succ k ih => simp only [rgN]; split <;> (try split) <;> omega

theorem rgM_bd (l : List UInt8) (k : Nat) : 0 ≤ rgM l k ∧ rgM l k ≤ k := by
  induction k with
  | zero => simp [rgM]
  | succ k ih => have := rgR_pos l k; simp only [rgM]; split <;> (try split) <;> omega

theorem rgN_gr (l : List UInt8) (k : Nat) : ((gr l k).length : Int) = rgN l k := by
  induction k with
  | zero => rfl
  | succ k ih =>
    simp only [gr, rgN]
    split
    · split
      · rw [incLast_length]; exact ih
      · simp [ih]
    · exact ih

theorem getD_last (es : List Int) (x : Int) : (es ++ [x]).getD ((es ++ [x]).length - 1) 0 = x := by
  simp [List.getD_eq_getElem?_getD]

theorem incLast_snoc (es : List Int) (x : Int) : incLast (es ++ [x]) = es ++ [x + 1] := by
  unfold incLast
  rw [getD_last]
  simp

theorem gr_last (l : List UInt8) : ∀ k, 0 < k → star l (k - 1) → ∃ es, gr l k = es ++ [rgR l k]
  | 0, h, _ => by omega
  | k + 1, _, hs => by
    simp only [Nat.add_sub_cancel] at hs
    simp only [gr, rgR, if_pos hs]
    by_cases h : 0 < k ∧ star l (k - 1)
    · obtain ⟨es, he⟩ := gr_last l k h.1 h.2
      rw [if_pos h, he, incLast_snoc]
      exact ⟨es, rfl⟩
    · rw [if_neg h]
      have := (rgR_pos l k)
      have h0 : rgR l k = 0 := by
        have h1 : ¬ 0 < rgR l k := fun h2 => h (this.2.2.1 h2)
        omega
      rw [h0]
      exact ⟨gr l k, rfl⟩

theorem gr_most (l : List UInt8) (k : Nat) : (∀ m : Int, 0 ≤ m → ((∃ x ∈ gr l k, m < x) ↔ m < rgM l k)) := by
  induction k with
  | zero => intro m hm; simp [gr, rgM]; omega
  | succ k ih =>
    intro m hm
    have hR := rgR_pos l k
    simp only [gr, rgM]
    by_cases h : star l k
    · rw [if_pos h, if_pos h]
      by_cases h2 : 0 < k ∧ star l (k - 1)
      · obtain ⟨es, he⟩ := gr_last l k h2.1 h2.2
        rw [if_pos h2, he, incLast_snoc]
        have := ih m hm
        rw [he] at this
        constructor
        · rintro ⟨x, hx, hmx⟩
          rcases List.mem_append.1 hx with hx | hx
          · have h3 := this.1 ⟨x, List.mem_append.2 (.inl hx), hmx⟩
            split <;> omega
          · simp at hx; split <;> omega
        · intro hlt
          split at hlt
          · exact ⟨rgR l k + 1, by simp, hlt⟩
          · obtain ⟨x, hx, hmx⟩ := this.2 hlt
            rcases List.mem_append.1 hx with hx | hx
            · exact ⟨x, List.mem_append.2 (.inl hx), hmx⟩
            · simp at hx; exact ⟨rgR l k + 1, by simp, by omega⟩
      · rw [if_neg h2]
        have h0 : rgR l k = 0 := by
          have h1 : ¬ 0 < rgR l k := fun h3 => h2 (hR.2.2.1 h3)
          omega
        have := ih m hm
        constructor
        · rintro ⟨x, hx, hmx⟩
          rcases List.mem_append.1 hx with hx | hx
          · have h3 := this.1 ⟨x, hx, hmx⟩
            split <;> omega
          · simp at hx; split <;> omega
        · intro hlt
          split at hlt
          · exact ⟨1, by simp, by omega⟩
          · obtain ⟨x, hx, hmx⟩ := this.2 hlt
            exact ⟨x, List.mem_append.2 (.inl hx), hmx⟩
    · rw [if_neg h, if_neg h]
      exact ih m hm

/-- What Check answers. -/
def check (l : List UInt8) : Int :=
  if 1024 < (l.length : Int) then 3 else if 16 < ((gr l l.length).length : Int) then 14 else if (gr l l.length).any (fun x => decide (2 < x)) then 2 else if l = [] then 2 else 0

def rcheck (l : List UInt8) : Int :=
  if 1024 < (l.length : Int) then 3 else if 16 < rgN l l.length then 14 else if (l.length : Int) = 0 ∨ 2 < rgM l l.length then 2 else 0

theorem check_eq (l : List UInt8) : check l = rcheck l := by
  unfold check rcheck
  have h := gr_most l l.length 2 (by omega)
  rw [rgN_gr]
  split
  · rfl
  · split
    · rfl
    · by_cases h1 : (gr l l.length).any (fun x => decide (2 < x)) = true
      · rw [if_pos h1, if_pos]
        right
        obtain ⟨x, hx, hd⟩ := List.any_eq_true.1 h1
        exact h.1 ⟨x, hx, of_decide_eq_true hd⟩
      · rw [if_neg h1]
        have h2 : ¬ 2 < rgM l l.length := fun hlt => h1 (by
          obtain ⟨x, hx, hd⟩ := h.2 hlt
          exact List.any_eq_true.2 ⟨x, hx, decide_eq_true hd⟩)
        by_cases h3 : l = []
        · rw [if_pos h3, if_pos (.inl (by simp [h3]))]
        · rw [if_neg h3, if_neg]
          rintro (h4 | h4)
          · exact h3 (List.length_eq_zero_iff.1 (by omega))
          · exact h2 h4

/-! ### Matching -/
def spr (s : List UInt8) (dots : Bool) (r : List Bool) : Nat → List Bool
  | 0 => r
  | k + 1 => if (spr s dots r k).getD k false = true ∧ (dots = true ∨ ¬ ((s.getD k 0).toNat : Int) = 46) then (spr s dots r k).set (k + 1) true else spr s dots r k

theorem spr_len (s : List UInt8) (dots : Bool) (r : List Bool) (k : Nat) : (spr s dots r k).length = r.length := by
  induction k with
  | zero => rfl
  | succ k ih => simp only [spr]; split <;> simp [ih]

def nxt (s : List UInt8) (c : UInt8) (r : List Bool) : Nat → List Bool
  | 0 => List.replicate r.length false
  | k + 1 => if r.getD k false = true ∧ ((s.getD k 0).toNat : Int) = (c.toNat : Int) then (nxt s c r k).set (k + 1) true else nxt s c r k
def som (s : List UInt8) (c : UInt8) (r : List Bool) : Nat → Bool
  | 0 => false
  | k + 1 => if r.getD k false = true ∧ ((s.getD k 0).toNat : Int) = (c.toNat : Int) then true else som s c r k

theorem nxt_len (s : List UInt8) (c : UInt8) (r : List Bool) (k : Nat) : (nxt s c r k).length = r.length := by
  induction k with
  | zero => simp [nxt]
  | succ k ih => simp only [nxt]; split <;> simp [ih]

def hasP : List UInt8 → List UInt8 → Bool
  | _, [] => true
  | [], _ :: _ => false
  | a :: x, b :: y => decide (a = b) && hasP x y

theorem hasP_take : ∀ (s p : List UInt8), hasP s p = (decide (p.length ≤ s.length) && decide (s.take p.length = p))
  | s, [] => by simp [hasP]
  | [], _ :: _ => by simp [hasP]
  | a :: x, b :: y => by
    simp only [hasP, hasP_take x y, List.length_cons, List.take_succ_cons, List.cons.injEq, Nat.add_le_add_iff_right]
    by_cases h : a = b <;> simp [h]

/-- The loop of Match, of at most so many rounds: where it ends, and what has been reached. -/
def mg (p s : List UInt8) : Nat → Nat → List Bool → Nat × List Bool
  | 0, i, r => (i, r)
  | f + 1, i, r => if i < p.length then
      (if hasP (p.drop i) [42, 42] = true then mg p s f (i + 2) (spr s true r s.length)
       else if star p i then mg p s f (i + 1) (spr s false r s.length)
       else if som s (p.getD i 0) r s.length = true then mg p s f (i + 1) (nxt s (p.getD i 0) r s.length) else (i, nxt s (p.getD i 0) r s.length))
    else (i, r)

def ini (s : List UInt8) : List Bool := (List.replicate (s.length + 1) false).set 0 true

def matchL (p s : List UInt8) : Bool :=
  if check p = 0 then (if (mg p s p.length 0 (ini s)).1 = p.length then (mg p s p.length 0 (ini s)).2.getD s.length false else false) else false

def anyL (ps : List (List UInt8)) (s : List UInt8) : Bool := ps.any fun p => matchL p s

end Go.Ab.Glob

section
namespace Go.Ab.Glob
open Go.Proofs Go.Ab
attribute [local irreducible] awp rwpL OpOk PCalls OCalls AV.sub

def vI (n : Int) : PV := .val (.int .i64 n)
def vS (l : List UInt8) : PV := .val (.string (str l))
def vB (b : Bool) : PV := .val (.bool b)

def outAt : List Int → AV
  | [] => .p (.val (.slice none 0 0))
  | x :: r => .arr 33 1 0 (x :: r).length
def obAt : List Int → List (Nat × List AV)
  | [] => []
  | x :: r => [(33, ((x :: r).map vI).map .p)]

theorem vI_one (es : List Int) : (∀ x ∈ es.map vI, x.cells = [x]) ∧ (∀ x ∈ es.map vI, x.one = true) := by
  constructor <;> (intro x hx; obtain ⟨n, _, rfl⟩ := List.mem_map.1 hx; rfl)

set_option maxHeartbeats 1000000 in
theorem groups_ok (l : List UInt8) (hl : l.length ≤ 65536) : PCalls Tryz.prog 47 [vS l] (· = .p (.slice ((gr l l.length).map vI))) := by
  refine pbody good Tryz.func47 rfl rfl rfl fun w0 => ?_
  (repeat (first | refine awp_seq ?_ | refine awp_reg ?_ | refine rwpL_op rfl ?_ | refine rwpL_nil ?_ | refine ok_move rfl rfl rfl rfl ?_ | refine ok_assign rfl rfl rfl rfl ?_ | refine ok_cmp rfl rfl rfl rfl rfl rfl ?_ | refine ok_ar rfl rfl rfl rfl rfl rfl (by omega) ?_ | refine ok_lenS rfl rfl rfl rfl rfl rfl ?_ | refine ok_indexSn rfl rfl rfl rfl rfl rfl rfl (by omega) ?_ | refine ok_indexS rfl rfl rfl rfl rfl rfl rfl (by omega) ?_ | refine ok_cmpS rfl rfl rfl rfl rfl rfl ?_ | refine gd_tt rfl rfl rfl (by first | rfl | assumption | exact decide_eq_true (by first | assumption | omega) | exact nd_true (by first | assumption | omega)) ?_ | refine gd_ff rfl rfl rfl (by first | rfl | assumption | exact decide_eq_false (by first | assumption | omega) | exact nd_false (by first | assumption | omega)) ?_ | refine gd_tf rfl rfl rfl (by first | rfl | assumption | exact decide_eq_false (by first | assumption | omega) | exact nd_false (by first | assumption | omega)) rfl rfl ?_ | refine gd_ft rfl rfl rfl (by first | rfl | assumption | exact decide_eq_true (by first | assumption | omega) | exact nd_true (by first | assumption | omega)) rfl rfl ?_ | refine gd_none rfl rfl rfl rfl rfl ?_ | refine ok_pick_true rfl rfl rfl rfl (by first | rfl | assumption | exact decide_eq_true (by first | assumption | omega) | exact nd_true (by first | assumption | omega)) rfl ?_ | refine ok_pick_false rfl rfl rfl rfl (by first | rfl | assumption | exact decide_eq_false (by first | assumption | omega) | exact nd_false (by first | assumption | omega)) rfl ?_ | refine wp_ifT rfl (by first | rfl | assumption | exact decide_eq_true (by first | assumption | omega) | exact nd_true (by first | assumption | omega)) ?_ | refine wp_ifF rfl (by first | rfl | assumption | exact decide_eq_false (by first | assumption | omega) | exact nd_false (by first | assumption | omega)) ?_ | refine ok_not rfl rfl rfl rfl ?_ | refine ok_extract rfl rfl rfl rfl rfl ?_ | refine ok_sliceS rfl rfl rfl rfl rfl rfl rfl rfl (by omega) ?_ | refine ok_lenA rfl rfl rfl rfl rfl rfl ?_ | refine ok_lenM rfl rfl rfl rfl rfl rfl rfl ?_ | refine ok_lenV rfl rfl rfl rfl rfl rfl rfl ?_ | refine ok_indexAddrA1n rfl rfl rfl rfl rfl rfl rfl rfl rfl (by omega) ?_ | refine ok_indexAddrA1 rfl rfl rfl rfl rfl rfl rfl rfl rfl (by omega) ?_ | refine ok_indexAddrMn false rfl rfl rfl rfl rfl rfl rfl rfl rfl (by omega) (fun _ => rfl) ?_ | refine ok_indexAddrMn (0 : Int) rfl rfl rfl rfl rfl rfl rfl rfl rfl (by omega) (fun _ => rfl) ?_ | refine ok_indexAddrMn ([] : List UInt8) rfl rfl rfl rfl rfl rfl rfl rfl rfl (by omega) (fun _ => rfl) ?_ | refine ok_indexAddrM false rfl rfl rfl rfl rfl rfl rfl rfl rfl (by omega) (fun _ => rfl) ?_ | refine ok_indexAddrM (0 : Int) rfl rfl rfl rfl rfl rfl rfl rfl rfl (by omega) (fun _ => rfl) ?_ | refine ok_indexAddrM ([] : List UInt8) rfl rfl rfl rfl rfl rfl rfl rfl rfl (by omega) (fun _ => rfl) ?_ | refine ok_loadR1 rfl rfl rfl rfl rfl rfl rfl ?_ | refine ok_loadRA rfl rfl rfl rfl rfl rfl rfl ?_ | refine ok_loadM (0 : Int) rfl rfl rfl rfl rfl rfl rfl (by omega) ?_ | refine ok_loadM false rfl rfl rfl rfl rfl rfl rfl (by omega) ?_ | refine ok_storeM rfl rfl rfl rfl rfl rfl rfl rfl (by omega) ?_ | refine ok_fieldAddrR rfl rfl rfl rfl rfl rfl rfl rfl rfl ?_ | refine ok_fieldAddrP rfl rfl rfl rfl rfl rfl rfl rfl rfl ?_ | refine ok_buildSlice rfl rfl rfl rfl rfl rfl rfl rfl rfl rfl rfl rfl rfl ?_ | refine ok_max rfl rfl rfl rfl rfl ?_ | refine awp_scope ?_ | refine awp_label ?_ | refine thenQ_ret ?_ | refine thenQ_exit ?_ | refine blockQ_ret ?_ | refine blockQ_normal ?_ | refine blockQ_exit ?_ | refine blockQ_other rfl ?_ | refine noGoto_ret ?_ | refine noGoto_exit ?_ | refine noGoto_normal ?_ | refine awp_skip ?_ | refine awp_block ?_ | refine awp_ret ?_ | refine awp_exit ?_ | refine ok_concat rfl rfl rfl rfl rfl (by simp only [List.length_append, List.length_cons, List.length_nil] <;> omega) ?_))
  refine awp_loop (σ := Nat) (fun k => ⟨[(0, .p (.val (.string (str l)))), (3, outAt (gr l k)), (6, .p (.val (.int .i64 (l.length : Int)))), (7, .p (.val (.int .i64 (k : Int))))], obAt (gr l k)⟩)
    (fun k => k ≤ l.length) (fun k => l.length - k) 0 (Nat.zero_le _) (le_mk ⟨⟨_, rfl, AV.sub_refl _⟩, ⟨_, rfl, AV.sub_refl _⟩, ⟨_, rfl, AV.sub_refl _⟩, ⟨_, rfl, AV.sub_refl _⟩, trivial⟩ trivial) ?_
  intro k hk
  have hg := gr_len l k
  have hb := gr_bd l k
  have hne := gr_ne l k
  have hsuc : gr l (k + 1) = if star l k then (if 0 < k ∧ star l (k - 1) then incLast (gr l k) else gr l k ++ [1]) else gr l k := rfl
  have htn : ((k : Int) - 1).toNat = k - 1 := by omega
  generalize he : gr l k = es at *
  cases es with
  | nil =>
    (repeat' (first | refine ok_appendNA rfl rfl rfl rfl rfl rfl rfl rfl rfl rfl rfl (by intro y hy; simp at hy; subst hy; rfl) (Nat.le_of_ble_eq_true rfl) rfl rfl (Nat.le_of_ble_eq_true rfl) (Nat.le_of_ble_eq_true rfl) ?_ | refine awp_seq ?_ | refine awp_reg ?_ | refine rwpL_op rfl ?_ | refine rwpL_nil ?_ | refine ok_move rfl rfl rfl rfl ?_ | refine ok_assign rfl rfl rfl rfl ?_ | refine ok_cmp rfl rfl rfl rfl rfl rfl ?_ | refine ok_ar rfl rfl rfl rfl rfl rfl (by omega) ?_ | refine ok_lenS rfl rfl rfl rfl rfl rfl ?_ | refine ok_indexSn rfl rfl rfl rfl rfl rfl rfl (by omega) ?_ | refine ok_indexS rfl rfl rfl rfl rfl rfl rfl (by omega) ?_ | refine ok_cmpS rfl rfl rfl rfl rfl rfl ?_ | refine gd_tt rfl rfl rfl (by first | rfl | assumption | exact decide_eq_true (by first | assumption | omega) | exact nd_true (by first | assumption | omega)) ?_ | refine gd_ff rfl rfl rfl (by first | rfl | assumption | exact decide_eq_false (by first | assumption | omega) | exact nd_false (by first | assumption | omega)) ?_ | refine gd_tf rfl rfl rfl (by first | rfl | assumption | exact decide_eq_false (by first | assumption | omega) | exact nd_false (by first | assumption | omega)) rfl rfl ?_ | refine gd_ft rfl rfl rfl (by first | rfl | assumption | exact decide_eq_true (by first | assumption | omega) | exact nd_true (by first | assumption | omega)) rfl rfl ?_ | refine gd_none rfl rfl rfl rfl rfl ?_ | refine ok_pick_true rfl rfl rfl rfl (by first | rfl | assumption | exact decide_eq_true (by first | assumption | omega) | exact nd_true (by first | assumption | omega)) rfl ?_ | refine ok_pick_false rfl rfl rfl rfl (by first | rfl | assumption | exact decide_eq_false (by first | assumption | omega) | exact nd_false (by first | assumption | omega)) rfl ?_ | refine wp_ifT rfl (by first | rfl | assumption | exact decide_eq_true (by first | assumption | omega) | exact nd_true (by first | assumption | omega)) ?_ | refine wp_ifF rfl (by first | rfl | assumption | exact decide_eq_false (by first | assumption | omega) | exact nd_false (by first | assumption | omega)) ?_ | refine ok_not rfl rfl rfl rfl ?_ | refine ok_extract rfl rfl rfl rfl rfl ?_ | refine ok_sliceS rfl rfl rfl rfl rfl rfl rfl rfl (by omega) ?_ | refine ok_lenA rfl rfl rfl rfl rfl rfl ?_ | refine ok_lenM rfl rfl rfl rfl rfl rfl rfl ?_ | refine ok_lenV rfl rfl rfl rfl rfl rfl rfl ?_ | refine ok_indexAddrA1n rfl rfl rfl rfl rfl rfl rfl rfl rfl (by omega) ?_ | refine ok_indexAddrA1 rfl rfl rfl rfl rfl rfl rfl rfl rfl (by omega) ?_ | refine ok_indexAddrMn false rfl rfl rfl rfl rfl rfl rfl rfl rfl (by omega) (fun _ => rfl) ?_ | refine ok_indexAddrMn (0 : Int) rfl rfl rfl rfl rfl rfl rfl rfl rfl (by omega) (fun _ => rfl) ?_ | refine ok_indexAddrMn ([] : List UInt8) rfl rfl rfl rfl rfl rfl rfl rfl rfl (by omega) (fun _ => rfl) ?_ | refine ok_indexAddrM false rfl rfl rfl rfl rfl rfl rfl rfl rfl (by omega) (fun _ => rfl) ?_ | refine ok_indexAddrM (0 : Int) rfl rfl rfl rfl rfl rfl rfl rfl rfl (by omega) (fun _ => rfl) ?_ | refine ok_indexAddrM ([] : List UInt8) rfl rfl rfl rfl rfl rfl rfl rfl rfl (by omega) (fun _ => rfl) ?_ | refine ok_loadR1 rfl rfl rfl rfl rfl rfl rfl ?_ | refine ok_loadRA rfl rfl rfl rfl rfl rfl rfl ?_ | refine ok_loadM (0 : Int) rfl rfl rfl rfl rfl rfl rfl (by omega) ?_ | refine ok_loadM false rfl rfl rfl rfl rfl rfl rfl (by omega) ?_ | refine ok_storeM rfl rfl rfl rfl rfl rfl rfl rfl (by omega) ?_ | refine ok_fieldAddrR rfl rfl rfl rfl rfl rfl rfl rfl rfl ?_ | refine ok_fieldAddrP rfl rfl rfl rfl rfl rfl rfl rfl rfl ?_ | refine ok_buildSlice rfl rfl rfl rfl rfl rfl rfl rfl rfl rfl rfl rfl rfl ?_ | refine ok_max rfl rfl rfl rfl rfl ?_ | refine awp_scope ?_ | refine awp_label ?_ | refine thenQ_ret ?_ | refine thenQ_exit ?_ | refine blockQ_ret ?_ | refine blockQ_normal ?_ | refine blockQ_exit ?_ | refine blockQ_other rfl ?_ | refine noGoto_ret ?_ | refine noGoto_exit ?_ | refine noGoto_normal ?_ | refine awp_skip ?_ | refine awp_block ?_ | refine awp_ret ?_ | refine awp_exit ?_ | refine ok_concat rfl rfl rfl rfl rfl (by simp only [List.length_append, List.length_cons, List.length_nil] <;> omega) ?_ | refine gd_D rfl rfl rfl (fun h => ?_) (fun h => ?_) | refine gd_N rfl rfl rfl (fun h => ?_) (fun h => ?_) | refine gd_B rfl rfl rfl (fun h => ?_) (fun h => ?_) | refine wp_ifD rfl (fun h => ?_) (fun h => ?_) | refine wp_ifN rfl (fun h => ?_) (fun h => ?_) | refine wp_if rfl (fun h => ?_) (fun h => ?_)))
    · have hn := hsuc.trans (if_neg (show ¬ star l k by assumption))
      exact loop_next (k + 1) (by omega) (by omega) (le_mk ⟨⟨_, rfl, AV.sub_refl _⟩, ⟨_, rfl, AV.sub_of_eq (by rw [hn] <;> rfl)⟩, ⟨_, rfl, AV.sub_refl _⟩, ⟨_, rfl, sub_int (by omega)⟩, trivial⟩ (by rw [hn]; exact trivial))
    · rw [htn] at *
      exact absurd rfl (hne (by omega) (show star l (k - 1) by assumption))
    · rw [htn] at *
      have hn := (hsuc.trans (if_pos (show star l k by assumption))).trans (if_neg (fun h => absurd h.2 (by assumption)))
      exact loop_next (k + 1) (by omega) (by omega) (le_mk ⟨⟨_, rfl, AV.sub_refl _⟩, ⟨_, rfl, AV.sub_of_eq (by rw [hn] <;> rfl)⟩, ⟨_, rfl, AV.sub_refl _⟩, ⟨_, rfl, sub_int (by omega)⟩, trivial⟩ (by rw [hn]; exact ⟨⟨_, rfl, subL_refl _⟩, trivial⟩))
    · have hn := (hsuc.trans (if_pos (show star l k by assumption))).trans (if_neg (by omega))
      exact loop_next (k + 1) (by omega) (by omega) (le_mk ⟨⟨_, rfl, AV.sub_refl _⟩, ⟨_, rfl, AV.sub_of_eq (by rw [hn] <;> rfl)⟩, ⟨_, rfl, AV.sub_refl _⟩, ⟨_, rfl, sub_int (by omega)⟩, trivial⟩ (by rw [hn]; exact ⟨⟨_, rfl, subL_refl _⟩, trivial⟩))
    · obtain rfl : k = l.length := by omega
      refine ret_mk rfl ?_
      rw [he]
      exact AV.sub_nilv
  | cons x r =>
    have hp : 0 < (x :: r).length := Nat.zero_lt_succ _
    have hx : ∀ n : Int, 0 ≤ n → n < (x :: r).length → 1 ≤ (x :: r).getD n.toNat 0 ∧ (x :: r).getD n.toNat 0 ≤ k := by
      intro n h1 h2
      refine hb _ ?_
      rw [List.getD_eq_getElem?_getD, List.getElem?_eq_getElem (by omega)]
      exact List.getElem_mem _
    have hx1 := hx ((x :: r).length - 1) (by omega) (by omega)
    (repeat' (first | refine awp_freeze (c := .ret) 2 rfl rfl rfl (by simp) (vI_one _).1 (vI_one _).2 ?_ | refine ok_appendA rfl rfl rfl rfl rfl rfl rfl rfl rfl rfl rfl (by simp) rfl rfl (by intro y hy; simp at hy; subst hy; rfl) rfl rfl (by simp only [List.length_map, List.length_cons, List.length_nil]; show _ * 8 ≤ _; simp only [List.length_cons] at hg; omega) (by simp only [List.length_map, List.length_cons, List.length_nil]; simp only [List.length_cons] at hg; omega) ?_ | refine awp_seq ?_ | refine awp_reg ?_ | refine rwpL_op rfl ?_ | refine rwpL_nil ?_ | refine ok_move rfl rfl rfl rfl ?_ | refine ok_assign rfl rfl rfl rfl ?_ | refine ok_cmp rfl rfl rfl rfl rfl rfl ?_ | refine ok_ar rfl rfl rfl rfl rfl rfl (by omega) ?_ | refine ok_lenS rfl rfl rfl rfl rfl rfl ?_ | refine ok_indexSn rfl rfl rfl rfl rfl rfl rfl (by omega) ?_ | refine ok_indexS rfl rfl rfl rfl rfl rfl rfl (by omega) ?_ | refine ok_cmpS rfl rfl rfl rfl rfl rfl ?_ | refine gd_tt rfl rfl rfl (by first | rfl | assumption | exact decide_eq_true (by first | assumption | omega) | exact nd_true (by first | assumption | omega)) ?_ | refine gd_ff rfl rfl rfl (by first | rfl | assumption | exact decide_eq_false (by first | assumption | omega) | exact nd_false (by first | assumption | omega)) ?_ | refine gd_tf rfl rfl rfl (by first | rfl | assumption | exact decide_eq_false (by first | assumption | omega) | exact nd_false (by first | assumption | omega)) rfl rfl ?_ | refine gd_ft rfl rfl rfl (by first | rfl | assumption | exact decide_eq_true (by first | assumption | omega) | exact nd_true (by first | assumption | omega)) rfl rfl ?_ | refine gd_none rfl rfl rfl rfl rfl ?_ | refine ok_pick_true rfl rfl rfl rfl (by first | rfl | assumption | exact decide_eq_true (by first | assumption | omega) | exact nd_true (by first | assumption | omega)) rfl ?_ | refine ok_pick_false rfl rfl rfl rfl (by first | rfl | assumption | exact decide_eq_false (by first | assumption | omega) | exact nd_false (by first | assumption | omega)) rfl ?_ | refine wp_ifT rfl (by first | rfl | assumption | exact decide_eq_true (by first | assumption | omega) | exact nd_true (by first | assumption | omega)) ?_ | refine wp_ifF rfl (by first | rfl | assumption | exact decide_eq_false (by first | assumption | omega) | exact nd_false (by first | assumption | omega)) ?_ | refine ok_not rfl rfl rfl rfl ?_ | refine ok_extract rfl rfl rfl rfl rfl ?_ | refine ok_sliceS rfl rfl rfl rfl rfl rfl rfl rfl (by omega) ?_ | refine ok_lenA rfl rfl rfl rfl rfl rfl ?_ | refine ok_lenM rfl rfl rfl rfl rfl rfl rfl ?_ | refine ok_lenV rfl rfl rfl rfl rfl rfl rfl ?_ | refine ok_indexAddrA1n rfl rfl rfl rfl rfl rfl rfl rfl rfl (by omega) ?_ | refine ok_indexAddrA1 rfl rfl rfl rfl rfl rfl rfl rfl rfl (by omega) ?_ | refine ok_indexAddrMn false rfl rfl rfl rfl rfl rfl rfl rfl rfl (by omega) (fun _ => rfl) ?_ | refine ok_indexAddrMn (0 : Int) rfl rfl rfl rfl rfl rfl rfl rfl rfl (by omega) (fun _ => rfl) ?_ | refine ok_indexAddrMn ([] : List UInt8) rfl rfl rfl rfl rfl rfl rfl rfl rfl (by omega) (fun _ => rfl) ?_ | refine ok_indexAddrM false rfl rfl rfl rfl rfl rfl rfl rfl rfl (by omega) (fun _ => rfl) ?_ | refine ok_indexAddrM (0 : Int) rfl rfl rfl rfl rfl rfl rfl rfl rfl (by omega) (fun _ => rfl) ?_ | refine ok_indexAddrM ([] : List UInt8) rfl rfl rfl rfl rfl rfl rfl rfl rfl (by omega) (fun _ => rfl) ?_ | refine ok_loadR1 rfl rfl rfl rfl rfl rfl rfl ?_ | refine ok_loadRA rfl rfl rfl rfl rfl rfl rfl ?_ | refine ok_loadM (0 : Int) rfl rfl rfl rfl rfl rfl rfl (by omega) ?_ | refine ok_loadM false rfl rfl rfl rfl rfl rfl rfl (by omega) ?_ | refine ok_storeM rfl rfl rfl rfl rfl rfl rfl rfl (by omega) ?_ | refine ok_fieldAddrR rfl rfl rfl rfl rfl rfl rfl rfl rfl ?_ | refine ok_fieldAddrP rfl rfl rfl rfl rfl rfl rfl rfl rfl ?_ | refine ok_buildSlice rfl rfl rfl rfl rfl rfl rfl rfl rfl rfl rfl rfl rfl ?_ | refine ok_max rfl rfl rfl rfl rfl ?_ | refine awp_scope ?_ | refine awp_label ?_ | refine thenQ_ret ?_ | refine thenQ_exit ?_ | refine blockQ_ret ?_ | refine blockQ_normal ?_ | refine blockQ_exit ?_ | refine blockQ_other rfl ?_ | refine noGoto_ret ?_ | refine noGoto_exit ?_ | refine noGoto_normal ?_ | refine awp_skip ?_ | refine awp_block ?_ | refine awp_ret ?_ | refine awp_exit ?_ | refine ok_concat rfl rfl rfl rfl rfl (by simp only [List.length_append, List.length_cons, List.length_nil] <;> omega) ?_ | refine gd_D rfl rfl rfl (fun h => ?_) (fun h => ?_) | refine gd_N rfl rfl rfl (fun h => ?_) (fun h => ?_) | refine gd_B rfl rfl rfl (fun h => ?_) (fun h => ?_) | refine wp_ifD rfl (fun h => ?_) (fun h => ?_) | refine wp_ifN rfl (fun h => ?_) (fun h => ?_) | refine wp_if rfl (fun h => ?_) (fun h => ?_)))
    · have hn := hsuc.trans (if_neg (show ¬ star l k by assumption))
      exact loop_next (k + 1) (by omega) (by omega) (le_mk ⟨⟨_, rfl, AV.sub_refl _⟩, ⟨_, rfl, AV.sub_of_eq (by rw [hn] <;> rfl)⟩, ⟨_, rfl, AV.sub_refl _⟩, ⟨_, rfl, sub_int (by omega)⟩, trivial⟩ (by rw [hn]; exact ⟨⟨_, rfl, subL_refl _⟩, trivial⟩))
    · rw [htn] at *
      have hn := (hsuc.trans (if_pos (show star l k by assumption))).trans (if_pos ⟨by omega, show star l (k - 1) by assumption⟩)
      obtain ⟨y, q, hq⟩ : ∃ y q, incLast (x :: r) = y :: q := by
        cases hi : incLast (x :: r) with
        | nil => have := congrArg List.length hi; rw [incLast_length] at this; simp at this
        | cons y q => exact ⟨y, q, rfl⟩
      have hql : (y :: q).length = (x :: r).length := by rw [← hq, incLast_length]
      exact loop_next (k + 1) (by omega) (by omega) (le_mk ⟨⟨_, rfl, AV.sub_refl _⟩, ⟨_, rfl, AV.sub_of_eq (by rw [hn]; rw [hq]; simp only [outAt, hql])⟩, ⟨_, rfl, AV.sub_refl _⟩, ⟨_, rfl, sub_int (by omega)⟩, trivial⟩ (by rw [hn]; exact by rw [hq]; exact ⟨⟨_, rfl, subL_of_eq (by rw [← hq, incLast, show (((x :: r).length : Int) - 1).toNat = (x :: r).length - 1 by omega])⟩, trivial⟩))
    · rw [htn] at *
      have hn := (hsuc.trans (if_pos (show star l k by assumption))).trans (if_neg (fun h => absurd h.2 (by assumption)))
      exact loop_next (k + 1) (by omega) (by omega) (le_mk ⟨⟨_, rfl, AV.sub_refl _⟩, ⟨_, rfl, AV.sub_of_eq (by rw [hn]; simp [outAt])⟩, ⟨_, rfl, AV.sub_refl _⟩, ⟨_, rfl, sub_int (by omega)⟩, trivial⟩ (by rw [hn]; exact ⟨⟨_, rfl, subL_of_eq (by simp [vI])⟩, trivial⟩))
    · obtain rfl : k = l.length := by omega
      refine ret_mk rfl ?_
      rw [he]
      exact AV.sub_refl _

end Go.Ab.Glob
end

section
namespace Go.Ab.Glob
open Go.Proofs Go.Ab
attribute [local irreducible] awp rwpL OpOk PCalls OCalls AV.sub

set_option maxHeartbeats 1000000 in
theorem rgroups_ok (l : List UInt8) (hl : l.length ≤ 65536) : PCalls Tryz.prog 48 [vS l] (· = .tuple [.p (vI (rgN l l.length)), .p (vI (rgM l l.length))]) := by
  refine pbody good Tryz.func48 rfl rfl rfl fun w0 => ?_
  (repeat (first | refine awp_seq ?_ | refine awp_reg ?_ | refine rwpL_op rfl ?_ | refine rwpL_nil ?_ | refine ok_move rfl rfl rfl rfl ?_ | refine ok_assign rfl rfl rfl rfl ?_ | refine ok_cmp rfl rfl rfl rfl rfl rfl ?_ | refine ok_ar rfl rfl rfl rfl rfl rfl (by omega) ?_ | refine ok_lenS rfl rfl rfl rfl rfl rfl ?_ | refine ok_indexSn rfl rfl rfl rfl rfl rfl rfl (by omega) ?_ | refine ok_indexS rfl rfl rfl rfl rfl rfl rfl (by omega) ?_ | refine ok_cmpS rfl rfl rfl rfl rfl rfl ?_ | refine gd_tt rfl rfl rfl (by first | rfl | assumption | exact decide_eq_true (by first | assumption | omega) | exact nd_true (by first | assumption | omega)) ?_ | refine gd_ff rfl rfl rfl (by first | rfl | assumption | exact decide_eq_false (by first | assumption | omega) | exact nd_false (by first | assumption | omega)) ?_ | refine gd_tf rfl rfl rfl (by first | rfl | assumption | exact decide_eq_false (by first | assumption | omega) | exact nd_false (by first | assumption | omega)) rfl rfl ?_ | refine gd_ft rfl rfl rfl (by first | rfl | assumption | exact decide_eq_true (by first | assumption | omega) | exact nd_true (by first | assumption | omega)) rfl rfl ?_ | refine gd_none rfl rfl rfl rfl rfl ?_ | refine ok_pick_true rfl rfl rfl rfl (by first | rfl | assumption | exact decide_eq_true (by first | assumption | omega) | exact nd_true (by first | assumption | omega)) rfl ?_ | refine ok_pick_false rfl rfl rfl rfl (by first | rfl | assumption | exact decide_eq_false (by first | assumption | omega) | exact nd_false (by first | assumption | omega)) rfl ?_ | refine wp_ifT rfl (by first | rfl | assumption | exact decide_eq_true (by first | assumption | omega) | exact nd_true (by first | assumption | omega)) ?_ | refine wp_ifF rfl (by first | rfl | assumption | exact decide_eq_false (by first | assumption | omega) | exact nd_false (by first | assumption | omega)) ?_ | refine ok_not rfl rfl rfl rfl ?_ | refine ok_extract rfl rfl rfl rfl rfl ?_ | refine ok_sliceS rfl rfl rfl rfl rfl rfl rfl rfl (by omega) ?_ | refine ok_lenA rfl rfl rfl rfl rfl rfl ?_ | refine ok_lenM rfl rfl rfl rfl rfl rfl rfl ?_ | refine ok_lenV rfl rfl rfl rfl rfl rfl rfl ?_ | refine ok_indexAddrA1n rfl rfl rfl rfl rfl rfl rfl rfl rfl (by omega) ?_ | refine ok_indexAddrA1 rfl rfl rfl rfl rfl rfl rfl rfl rfl (by omega) ?_ | refine ok_indexAddrMn false rfl rfl rfl rfl rfl rfl rfl rfl rfl (by omega) (fun _ => rfl) ?_ | refine ok_indexAddrMn (0 : Int) rfl rfl rfl rfl rfl rfl rfl rfl rfl (by omega) (fun _ => rfl) ?_ | refine ok_indexAddrMn ([] : List UInt8) rfl rfl rfl rfl rfl rfl rfl rfl rfl (by omega) (fun _ => rfl) ?_ | refine ok_indexAddrM false rfl rfl rfl rfl rfl rfl rfl rfl rfl (by omega) (fun _ => rfl) ?_ | refine ok_indexAddrM (0 : Int) rfl rfl rfl rfl rfl rfl rfl rfl rfl (by omega) (fun _ => rfl) ?_ | refine ok_indexAddrM ([] : List UInt8) rfl rfl rfl rfl rfl rfl rfl rfl rfl (by omega) (fun _ => rfl) ?_ | refine ok_loadR1 rfl rfl rfl rfl rfl rfl rfl ?_ | refine ok_loadRA rfl rfl rfl rfl rfl rfl rfl ?_ | refine ok_loadM (0 : Int) rfl rfl rfl rfl rfl rfl rfl (by omega) ?_ | refine ok_loadM false rfl rfl rfl rfl rfl rfl rfl (by omega) ?_ | refine ok_storeM rfl rfl rfl rfl rfl rfl rfl rfl (by omega) ?_ | refine ok_fieldAddrR rfl rfl rfl rfl rfl rfl rfl rfl rfl ?_ | refine ok_fieldAddrP rfl rfl rfl rfl rfl rfl rfl rfl rfl ?_ | refine ok_buildSlice rfl rfl rfl rfl rfl rfl rfl rfl rfl rfl rfl rfl rfl ?_ | refine ok_max rfl rfl rfl rfl rfl ?_ | refine awp_scope ?_ | refine awp_label ?_ | refine thenQ_ret ?_ | refine thenQ_exit ?_ | refine blockQ_ret ?_ | refine blockQ_normal ?_ | refine blockQ_exit ?_ | refine blockQ_other rfl ?_ | refine noGoto_ret ?_ | refine noGoto_exit ?_ | refine noGoto_normal ?_ | refine awp_skip ?_ | refine awp_block ?_ | refine awp_ret ?_ | refine awp_exit ?_ | refine ok_concat rfl rfl rfl rfl rfl (by simp only [List.length_append, List.length_cons, List.length_nil] <;> omega) ?_))
  refine awp_loop (σ := Nat) (fun k => ⟨[(0, .p (.val (.string (str l)))), (4, .p (.val (.int .i64 (rgN l k)))), (5, .p (.val (.int .i64 (rgM l k)))), (6, .p (.val (.int .i64 (rgR l k)))), (7, .p (.val (.int .i64 (k : Int))))], []⟩)
    (fun k => k ≤ l.length) (fun k => l.length - k) 0 (Nat.zero_le _) (le_mk ⟨⟨_, rfl, AV.sub_refl _⟩, ⟨_, rfl, AV.sub_refl _⟩, ⟨_, rfl, AV.sub_refl _⟩, ⟨_, rfl, AV.sub_refl _⟩, ⟨_, rfl, AV.sub_refl _⟩, trivial⟩ trivial) ?_
  intro k hk
  have h1 := rgR_pos l k
  have h2 := rgN_bd l k
  have h3 := rgM_bd l k
  have hpos : (0 < rgR l k) ↔ 0 < k ∧ star l (k - 1) := h1.2.2
  have b1 : 0 ≤ rgR l k ∧ rgR l k ≤ k := ⟨h1.1, h1.2.1⟩
  clear h1
  have n1 : rgN l (k + 1) = if star l k then (if 0 < k ∧ star l (k - 1) then rgN l k else rgN l k + 1) else rgN l k := rfl
  have n2 : rgM l (k + 1) = if star l k then (if rgM l k < rgR l k + 1 then rgR l k + 1 else rgM l k) else rgM l k := rfl
  have n3 : rgR l (k + 1) = if star l k then rgR l k + 1 else 0 := rfl
  (repeat' (first | refine awp_seq ?_ | refine awp_reg ?_ | refine rwpL_op rfl ?_ | refine rwpL_nil ?_ | refine ok_move rfl rfl rfl rfl ?_ | refine ok_assign rfl rfl rfl rfl ?_ | refine ok_cmp rfl rfl rfl rfl rfl rfl ?_ | refine ok_ar rfl rfl rfl rfl rfl rfl (by omega) ?_ | refine ok_lenS rfl rfl rfl rfl rfl rfl ?_ | refine ok_indexSn rfl rfl rfl rfl rfl rfl rfl (by omega) ?_ | refine ok_indexS rfl rfl rfl rfl rfl rfl rfl (by omega) ?_ | refine ok_cmpS rfl rfl rfl rfl rfl rfl ?_ | refine gd_tt rfl rfl rfl (by first | rfl | assumption | exact decide_eq_true (by first | assumption | omega) | exact nd_true (by first | assumption | omega)) ?_ | refine gd_ff rfl rfl rfl (by first | rfl | assumption | exact decide_eq_false (by first | assumption | omega) | exact nd_false (by first | assumption | omega)) ?_ | refine gd_tf rfl rfl rfl (by first | rfl | assumption | exact decide_eq_false (by first | assumption | omega) | exact nd_false (by first | assumption | omega)) rfl rfl ?_ | refine gd_ft rfl rfl rfl (by first | rfl | assumption | exact decide_eq_true (by first | assumption | omega) | exact nd_true (by first | assumption | omega)) rfl rfl ?_ | refine gd_none rfl rfl rfl rfl rfl ?_ | refine ok_pick_true rfl rfl rfl rfl (by first | rfl | assumption | exact decide_eq_true (by first | assumption | omega) | exact nd_true (by first | assumption | omega)) rfl ?_ | refine ok_pick_false rfl rfl rfl rfl (by first | rfl | assumption | exact decide_eq_false (by first | assumption | omega) | exact nd_false (by first | assumption | omega)) rfl ?_ | refine wp_ifT rfl (by first | rfl | assumption | exact decide_eq_true (by first | assumption | omega) | exact nd_true (by first | assumption | omega)) ?_ | refine wp_ifF rfl (by first | rfl | assumption | exact decide_eq_false (by first | assumption | omega) | exact nd_false (by first | assumption | omega)) ?_ | refine ok_not rfl rfl rfl rfl ?_ | refine ok_extract rfl rfl rfl rfl rfl ?_ | refine ok_sliceS rfl rfl rfl rfl rfl rfl rfl rfl (by omega) ?_ | refine ok_lenA rfl rfl rfl rfl rfl rfl ?_ | refine ok_lenM rfl rfl rfl rfl rfl rfl rfl ?_ | refine ok_lenV rfl rfl rfl rfl rfl rfl rfl ?_ | refine ok_indexAddrA1n rfl rfl rfl rfl rfl rfl rfl rfl rfl (by omega) ?_ | refine ok_indexAddrA1 rfl rfl rfl rfl rfl rfl rfl rfl rfl (by omega) ?_ | refine ok_indexAddrMn false rfl rfl rfl rfl rfl rfl rfl rfl rfl (by omega) (fun _ => rfl) ?_ | refine ok_indexAddrMn (0 : Int) rfl rfl rfl rfl rfl rfl rfl rfl rfl (by omega) (fun _ => rfl) ?_ | refine ok_indexAddrMn ([] : List UInt8) rfl rfl rfl rfl rfl rfl rfl rfl rfl (by omega) (fun _ => rfl) ?_ | refine ok_indexAddrM false rfl rfl rfl rfl rfl rfl rfl rfl rfl (by omega) (fun _ => rfl) ?_ | refine ok_indexAddrM (0 : Int) rfl rfl rfl rfl rfl rfl rfl rfl rfl (by omega) (fun _ => rfl) ?_ | refine ok_indexAddrM ([] : List UInt8) rfl rfl rfl rfl rfl rfl rfl rfl rfl (by omega) (fun _ => rfl) ?_ | refine ok_loadR1 rfl rfl rfl rfl rfl rfl rfl ?_ | refine ok_loadRA rfl rfl rfl rfl rfl rfl rfl ?_ | refine ok_loadM (0 : Int) rfl rfl rfl rfl rfl rfl rfl (by omega) ?_ | refine ok_loadM false rfl rfl rfl rfl rfl rfl rfl (by omega) ?_ | refine ok_storeM rfl rfl rfl rfl rfl rfl rfl rfl (by omega) ?_ | refine ok_fieldAddrR rfl rfl rfl rfl rfl rfl rfl rfl rfl ?_ | refine ok_fieldAddrP rfl rfl rfl rfl rfl rfl rfl rfl rfl ?_ | refine ok_buildSlice rfl rfl rfl rfl rfl rfl rfl rfl rfl rfl rfl rfl rfl ?_ | refine ok_max rfl rfl rfl rfl rfl ?_ | refine awp_scope ?_ | refine awp_label ?_ | refine thenQ_ret ?_ | refine thenQ_exit ?_ | refine blockQ_ret ?_ | refine blockQ_normal ?_ | refine blockQ_exit ?_ | refine blockQ_other rfl ?_ | refine noGoto_ret ?_ | refine noGoto_exit ?_ | refine noGoto_normal ?_ | refine awp_skip ?_ | refine awp_block ?_ | refine awp_ret ?_ | refine awp_exit ?_ | refine ok_concat rfl rfl rfl rfl rfl (by simp only [List.length_append, List.length_cons, List.length_nil] <;> omega) ?_ | refine gd_D rfl rfl rfl (fun h => ?_) (fun h => ?_) | refine gd_N rfl rfl rfl (fun h => ?_) (fun h => ?_) | refine gd_B rfl rfl rfl (fun h => ?_) (fun h => ?_) | refine wp_ifD rfl (fun h => ?_) (fun h => ?_) | refine wp_ifN rfl (fun h => ?_) (fun h => ?_) | refine wp_if rfl (fun h => ?_) (fun h => ?_)))
  · have hs : ¬ star l k := by assumption
    rw [if_neg hs] at n1 n2 n3
    exact loop_next (k + 1) (by omega) (by omega) (le_mk ⟨⟨_, rfl, AV.sub_refl _⟩, ⟨_, rfl, sub_int n1.symm⟩, ⟨_, rfl, sub_int n2.symm⟩, ⟨_, rfl, sub_int n3.symm⟩, ⟨_, rfl, sub_int (by omega)⟩, trivial⟩ trivial)
  · have hs : star l k := by assumption
    rw [if_pos hs] at n1 n2 n3
    have h0 : rgR l k + 1 = 1 := by assumption
    rw [if_neg (fun h => by have := hpos.2 h; omega)] at n1
    exact loop_next (k + 1) (by omega) (by omega) (le_mk ⟨⟨_, rfl, AV.sub_refl _⟩, ⟨_, rfl, sub_int n1.symm⟩, ⟨_, rfl, sub_int n2.symm⟩, ⟨_, rfl, sub_int n3.symm⟩, ⟨_, rfl, sub_int (by omega)⟩, trivial⟩ trivial)
  · have hs : star l k := by assumption
    rw [if_pos hs] at n1 n2 n3
    have h0 : ¬ rgR l k + 1 = 1 := by assumption
    rw [if_pos (hpos.1 (by omega))] at n1
    exact loop_next (k + 1) (by omega) (by omega) (le_mk ⟨⟨_, rfl, AV.sub_refl _⟩, ⟨_, rfl, sub_int n1.symm⟩, ⟨_, rfl, sub_int n2.symm⟩, ⟨_, rfl, sub_int n3.symm⟩, ⟨_, rfl, sub_int (by omega)⟩, trivial⟩ trivial)
  · obtain rfl : k = l.length := by omega
    exact ret_mk rfl (AV.sub_refl _)

set_option maxHeartbeats 1000000 in
theorem rcheck_ok (l : List UInt8) (hl : l.length ≤ 65536) : PCalls Tryz.prog 29 [vS l] (· = .p (vI (rcheck l))) := by
  refine pbody good Tryz.func29 rfl rfl rfl fun w0 => ?_
  (repeat' (first | refine ok_callP (rgroups_ok l hl) rfl rfl rfl rfl ⟨AV.sub_refl _, trivial⟩ Tryz.call48 rfl ?_ | refine awp_seq ?_ | refine awp_reg ?_ | refine rwpL_op rfl ?_ | refine rwpL_nil ?_ | refine ok_move rfl rfl rfl rfl ?_ | refine ok_assign rfl rfl rfl rfl ?_ | refine ok_cmp rfl rfl rfl rfl rfl rfl ?_ | refine ok_ar rfl rfl rfl rfl rfl rfl (by omega) ?_ | refine ok_lenS rfl rfl rfl rfl rfl rfl ?_ | refine ok_indexSn rfl rfl rfl rfl rfl rfl rfl (by omega) ?_ | refine ok_indexS rfl rfl rfl rfl rfl rfl rfl (by omega) ?_ | refine ok_cmpS rfl rfl rfl rfl rfl rfl ?_ | refine gd_tt rfl rfl rfl (by first | rfl | assumption | exact decide_eq_true (by first | assumption | omega) | exact nd_true (by first | assumption | omega)) ?_ | refine gd_ff rfl rfl rfl (by first | rfl | assumption | exact decide_eq_false (by first | assumption | omega) | exact nd_false (by first | assumption | omega)) ?_ | refine gd_tf rfl rfl rfl (by first | rfl | assumption | exact decide_eq_false (by first | assumption | omega) | exact nd_false (by first | assumption | omega)) rfl rfl ?_ | refine gd_ft rfl rfl rfl (by first | rfl | assumption | exact decide_eq_true (by first | assumption | omega) | exact nd_true (by first | assumption | omega)) rfl rfl ?_ | refine gd_none rfl rfl rfl rfl rfl ?_ | refine ok_pick_true rfl rfl rfl rfl (by first | rfl | assumption | exact decide_eq_true (by first | assumption | omega) | exact nd_true (by first | assumption | omega)) rfl ?_ | refine ok_pick_false rfl rfl rfl rfl (by first | rfl | assumption | exact decide_eq_false (by first | assumption | omega) | exact nd_false (by first | assumption | omega)) rfl ?_ | refine wp_ifT rfl (by first | rfl | assumption | exact decide_eq_true (by first | assumption | omega) | exact nd_true (by first | assumption | omega)) ?_ | refine wp_ifF rfl (by first | rfl | assumption | exact decide_eq_false (by first | assumption | omega) | exact nd_false (by first | assumption | omega)) ?_ | refine ok_not rfl rfl rfl rfl ?_ | refine ok_extract rfl rfl rfl rfl rfl ?_ | refine ok_sliceS rfl rfl rfl rfl rfl rfl rfl rfl (by omega) ?_ | refine ok_lenA rfl rfl rfl rfl rfl rfl ?_ | refine ok_lenM rfl rfl rfl rfl rfl rfl rfl ?_ | refine ok_lenV rfl rfl rfl rfl rfl rfl rfl ?_ | refine ok_indexAddrA1n rfl rfl rfl rfl rfl rfl rfl rfl rfl (by omega) ?_ | refine ok_indexAddrA1 rfl rfl rfl rfl rfl rfl rfl rfl rfl (by omega) ?_ | refine ok_indexAddrMn false rfl rfl rfl rfl rfl rfl rfl rfl rfl (by omega) (fun _ => rfl) ?_ | refine ok_indexAddrMn (0 : Int) rfl rfl rfl rfl rfl rfl rfl rfl rfl (by omega) (fun _ => rfl) ?_ | refine ok_indexAddrMn ([] : List UInt8) rfl rfl rfl rfl rfl rfl rfl rfl rfl (by omega) (fun _ => rfl) ?_ | refine ok_indexAddrM false rfl rfl rfl rfl rfl rfl rfl rfl rfl (by omega) (fun _ => rfl) ?_ | refine ok_indexAddrM (0 : Int) rfl rfl rfl rfl rfl rfl rfl rfl rfl (by omega) (fun _ => rfl) ?_ | refine ok_indexAddrM ([] : List UInt8) rfl rfl rfl rfl rfl rfl rfl rfl rfl (by omega) (fun _ => rfl) ?_ | refine ok_loadR1 rfl rfl rfl rfl rfl rfl rfl ?_ | refine ok_loadRA rfl rfl rfl rfl rfl rfl rfl ?_ | refine ok_loadM (0 : Int) rfl rfl rfl rfl rfl rfl rfl (by omega) ?_ | refine ok_loadM false rfl rfl rfl rfl rfl rfl rfl (by omega) ?_ | refine ok_storeM rfl rfl rfl rfl rfl rfl rfl rfl (by omega) ?_ | refine ok_fieldAddrR rfl rfl rfl rfl rfl rfl rfl rfl rfl ?_ | refine ok_fieldAddrP rfl rfl rfl rfl rfl rfl rfl rfl rfl ?_ | refine ok_buildSlice rfl rfl rfl rfl rfl rfl rfl rfl rfl rfl rfl rfl rfl ?_ | refine ok_max rfl rfl rfl rfl rfl ?_ | refine awp_scope ?_ | refine awp_label ?_ | refine thenQ_ret ?_ | refine thenQ_exit ?_ | refine blockQ_ret ?_ | refine blockQ_normal ?_ | refine blockQ_exit ?_ | refine blockQ_other rfl ?_ | refine noGoto_ret ?_ | refine noGoto_exit ?_ | refine noGoto_normal ?_ | refine awp_skip ?_ | refine awp_block ?_ | refine awp_ret ?_ | refine awp_exit ?_ | refine ok_concat rfl rfl rfl rfl rfl (by simp only [List.length_append, List.length_cons, List.length_nil] <;> omega) ?_ | refine gd_D rfl rfl rfl (fun h => ?_) (fun h => ?_) | refine gd_N rfl rfl rfl (fun h => ?_) (fun h => ?_) | refine gd_B rfl rfl rfl (fun h => ?_) (fun h => ?_) | refine wp_ifD rfl (fun h => ?_) (fun h => ?_) | refine wp_ifN rfl (fun h => ?_) (fun h => ?_) | refine wp_if rfl (fun h => ?_) (fun h => ?_)))
  all_goals (refine ret_mk rfl ?_; refine sub_int ?_; unfold rcheck)
  · rw [if_pos (by assumption)]
  · rw [if_neg (by assumption), if_pos (by assumption)]
  · rw [if_neg (by assumption), if_neg (by assumption), if_pos (.inl (by assumption))]
  · rw [if_neg (by assumption), if_neg (by assumption), if_pos (.inr (by assumption))]
  · rw [if_neg (by assumption), if_neg (by assumption), if_neg (fun h => h.elim (by assumption) (by assumption))]

set_option maxHeartbeats 1000000 in
theorem check_ok (l : List UInt8) (hl : l.length ≤ 65536) : PCalls Tryz.prog 28 [vS l] (· = .p (vI (check l))) := by
  refine pbody good Tryz.func28 rfl rfl rfl fun w0 => ?_
  have hg := gr_len l l.length
  generalize hes : gr l l.length = es at hg
  have hc : check l = if 1024 < (l.length : Int) then 3 else if 16 < (es.length : Int) then 14 else if es.any (fun x => decide (2 < x)) then 2 else if l = [] then 2 else 0 := by rw [← hes]; rfl
  have hgo := groups_ok l hl
  rw [hes] at hgo
  (repeat' (first | refine ok_callP hgo rfl rfl rfl rfl ⟨AV.sub_refl _, trivial⟩ Tryz.call47 rfl ?_ | refine awp_seq ?_ | refine awp_reg ?_ | refine rwpL_op rfl ?_ | refine rwpL_nil ?_ | refine ok_move rfl rfl rfl rfl ?_ | refine ok_assign rfl rfl rfl rfl ?_ | refine ok_cmp rfl rfl rfl rfl rfl rfl ?_ | refine ok_ar rfl rfl rfl rfl rfl rfl (by omega) ?_ | refine ok_lenS rfl rfl rfl rfl rfl rfl ?_ | refine ok_indexSn rfl rfl rfl rfl rfl rfl rfl (by omega) ?_ | refine ok_indexS rfl rfl rfl rfl rfl rfl rfl (by omega) ?_ | refine ok_cmpS rfl rfl rfl rfl rfl rfl ?_ | refine gd_tt rfl rfl rfl (by first | rfl | assumption | exact decide_eq_true (by first | assumption | omega) | exact nd_true (by first | assumption | omega)) ?_ | refine gd_ff rfl rfl rfl (by first | rfl | assumption | exact decide_eq_false (by first | assumption | omega) | exact nd_false (by first | assumption | omega)) ?_ | refine gd_tf rfl rfl rfl (by first | rfl | assumption | exact decide_eq_false (by first | assumption | omega) | exact nd_false (by first | assumption | omega)) rfl rfl ?_ | refine gd_ft rfl rfl rfl (by first | rfl | assumption | exact decide_eq_true (by first | assumption | omega) | exact nd_true (by first | assumption | omega)) rfl rfl ?_ | refine gd_none rfl rfl rfl rfl rfl ?_ | refine ok_pick_true rfl rfl rfl rfl (by first | rfl | assumption | exact decide_eq_true (by first | assumption | omega) | exact nd_true (by first | assumption | omega)) rfl ?_ | refine ok_pick_false rfl rfl rfl rfl (by first | rfl | assumption | exact decide_eq_false (by first | assumption | omega) | exact nd_false (by first | assumption | omega)) rfl ?_ | refine wp_ifT rfl (by first | rfl | assumption | exact decide_eq_true (by first | assumption | omega) | exact nd_true (by first | assumption | omega)) ?_ | refine wp_ifF rfl (by first | rfl | assumption | exact decide_eq_false (by first | assumption | omega) | exact nd_false (by first | assumption | omega)) ?_ | refine ok_not rfl rfl rfl rfl ?_ | refine ok_extract rfl rfl rfl rfl rfl ?_ | refine ok_sliceS rfl rfl rfl rfl rfl rfl rfl rfl (by omega) ?_ | refine ok_lenA rfl rfl rfl rfl rfl rfl ?_ | refine ok_lenM rfl rfl rfl rfl rfl rfl rfl ?_ | refine ok_lenV rfl rfl rfl rfl rfl rfl rfl ?_ | refine ok_indexAddrA1n rfl rfl rfl rfl rfl rfl rfl rfl rfl (by omega) ?_ | refine ok_indexAddrA1 rfl rfl rfl rfl rfl rfl rfl rfl rfl (by omega) ?_ | refine ok_indexAddrMn false rfl rfl rfl rfl rfl rfl rfl rfl rfl (by omega) (fun _ => rfl) ?_ | refine ok_indexAddrMn (0 : Int) rfl rfl rfl rfl rfl rfl rfl rfl rfl (by omega) (fun _ => rfl) ?_ | refine ok_indexAddrMn ([] : List UInt8) rfl rfl rfl rfl rfl rfl rfl rfl rfl (by omega) (fun _ => rfl) ?_ | refine ok_indexAddrM false rfl rfl rfl rfl rfl rfl rfl rfl rfl (by omega) (fun _ => rfl) ?_ | refine ok_indexAddrM (0 : Int) rfl rfl rfl rfl rfl rfl rfl rfl rfl (by omega) (fun _ => rfl) ?_ | refine ok_indexAddrM ([] : List UInt8) rfl rfl rfl rfl rfl rfl rfl rfl rfl (by omega) (fun _ => rfl) ?_ | refine ok_loadR1 rfl rfl rfl rfl rfl rfl rfl ?_ | refine ok_loadRA rfl rfl rfl rfl rfl rfl rfl ?_ | refine ok_loadM (0 : Int) rfl rfl rfl rfl rfl rfl rfl (by omega) ?_ | refine ok_loadM false rfl rfl rfl rfl rfl rfl rfl (by omega) ?_ | refine ok_storeM rfl rfl rfl rfl rfl rfl rfl rfl (by omega) ?_ | refine ok_fieldAddrR rfl rfl rfl rfl rfl rfl rfl rfl rfl ?_ | refine ok_fieldAddrP rfl rfl rfl rfl rfl rfl rfl rfl rfl ?_ | refine ok_buildSlice rfl rfl rfl rfl rfl rfl rfl rfl rfl rfl rfl rfl rfl ?_ | refine ok_max rfl rfl rfl rfl rfl ?_ | refine awp_scope ?_ | refine awp_label ?_ | refine thenQ_ret ?_ | refine thenQ_exit ?_ | refine blockQ_ret ?_ | refine blockQ_normal ?_ | refine blockQ_exit ?_ | refine blockQ_other rfl ?_ | refine noGoto_ret ?_ | refine noGoto_exit ?_ | refine noGoto_normal ?_ | refine awp_skip ?_ | refine awp_block ?_ | refine awp_ret ?_ | refine awp_exit ?_ | refine ok_concat rfl rfl rfl rfl rfl (by simp only [List.length_append, List.length_cons, List.length_nil] <;> omega) ?_ | refine gd_D rfl rfl rfl (fun h => ?_) (fun h => ?_) | refine gd_N rfl rfl rfl (fun h => ?_) (fun h => ?_) | refine gd_B rfl rfl rfl (fun h => ?_) (fun h => ?_) | refine wp_ifD rfl (fun h => ?_) (fun h => ?_) | refine wp_ifN rfl (fun h => ?_) (fun h => ?_) | refine wp_if rfl (fun h => ?_) (fun h => ?_)))
  · refine ret_mk rfl ?_; refine sub_int ?_; rw [hc, if_pos (by assumption)]
  · refine ret_mk rfl ?_; refine sub_int ?_; rw [hc, if_neg (by assumption), if_pos (by assumption)]
  rw [if_neg (by assumption), if_neg (by assumption)] at hc
  refine awp_loop (σ := Nat) (fun k => ⟨[(0, .p (.val (.string (str l)))), (14, .p (.slice (es.map vI))), (15, .p (.val (.int .i64 (es.length : Int)))), (16, .p (.val (.int .i64 (k : Int))))], []⟩)
    (fun k => k ≤ es.length ∧ ∀ j, j < k → ¬ 2 < es.getD j 0) (fun k => es.length - k) 0 ⟨Nat.zero_le _, fun j h => absurd h (Nat.not_lt_zero j)⟩ (le_mk ⟨⟨_, rfl, AV.sub_refl _⟩, ⟨_, rfl, AV.sub_refl _⟩, ⟨_, rfl, AV.sub_refl _⟩, ⟨_, rfl, AV.sub_refl _⟩, trivial⟩ trivial) ?_
  rintro k ⟨hk, hj⟩
  (repeat' (first | refine awp_seq ?_ | refine awp_reg ?_ | refine rwpL_op rfl ?_ | refine rwpL_nil ?_ | refine ok_move rfl rfl rfl rfl ?_ | refine ok_assign rfl rfl rfl rfl ?_ | refine ok_cmp rfl rfl rfl rfl rfl rfl ?_ | refine ok_ar rfl rfl rfl rfl rfl rfl (by omega) ?_ | refine ok_lenS rfl rfl rfl rfl rfl rfl ?_ | refine ok_indexSn rfl rfl rfl rfl rfl rfl rfl (by omega) ?_ | refine ok_indexS rfl rfl rfl rfl rfl rfl rfl (by omega) ?_ | refine ok_cmpS rfl rfl rfl rfl rfl rfl ?_ | refine gd_tt rfl rfl rfl (by first | rfl | assumption | exact decide_eq_true (by first | assumption | omega) | exact nd_true (by first | assumption | omega)) ?_ | refine gd_ff rfl rfl rfl (by first | rfl | assumption | exact decide_eq_false (by first | assumption | omega) | exact nd_false (by first | assumption | omega)) ?_ | refine gd_tf rfl rfl rfl (by first | rfl | assumption | exact decide_eq_false (by first | assumption | omega) | exact nd_false (by first | assumption | omega)) rfl rfl ?_ | refine gd_ft rfl rfl rfl (by first | rfl | assumption | exact decide_eq_true (by first | assumption | omega) | exact nd_true (by first | assumption | omega)) rfl rfl ?_ | refine gd_none rfl rfl rfl rfl rfl ?_ | refine ok_pick_true rfl rfl rfl rfl (by first | rfl | assumption | exact decide_eq_true (by first | assumption | omega) | exact nd_true (by first | assumption | omega)) rfl ?_ | refine ok_pick_false rfl rfl rfl rfl (by first | rfl | assumption | exact decide_eq_false (by first | assumption | omega) | exact nd_false (by first | assumption | omega)) rfl ?_ | refine wp_ifT rfl (by first | rfl | assumption | exact decide_eq_true (by first | assumption | omega) | exact nd_true (by first | assumption | omega)) ?_ | refine wp_ifF rfl (by first | rfl | assumption | exact decide_eq_false (by first | assumption | omega) | exact nd_false (by first | assumption | omega)) ?_ | refine ok_not rfl rfl rfl rfl ?_ | refine ok_extract rfl rfl rfl rfl rfl ?_ | refine ok_sliceS rfl rfl rfl rfl rfl rfl rfl rfl (by omega) ?_ | refine ok_lenA rfl rfl rfl rfl rfl rfl ?_ | refine ok_lenM rfl rfl rfl rfl rfl rfl rfl ?_ | refine ok_lenV rfl rfl rfl rfl rfl rfl rfl ?_ | refine ok_indexAddrA1n rfl rfl rfl rfl rfl rfl rfl rfl rfl (by omega) ?_ | refine ok_indexAddrA1 rfl rfl rfl rfl rfl rfl rfl rfl rfl (by omega) ?_ | refine ok_indexAddrMn false rfl rfl rfl rfl rfl rfl rfl rfl rfl (by omega) (fun _ => rfl) ?_ | refine ok_indexAddrMn (0 : Int) rfl rfl rfl rfl rfl rfl rfl rfl rfl (by omega) (fun _ => rfl) ?_ | refine ok_indexAddrMn ([] : List UInt8) rfl rfl rfl rfl rfl rfl rfl rfl rfl (by omega) (fun _ => rfl) ?_ | refine ok_indexAddrM false rfl rfl rfl rfl rfl rfl rfl rfl rfl (by omega) (fun _ => rfl) ?_ | refine ok_indexAddrM (0 : Int) rfl rfl rfl rfl rfl rfl rfl rfl rfl (by omega) (fun _ => rfl) ?_ | refine ok_indexAddrM ([] : List UInt8) rfl rfl rfl rfl rfl rfl rfl rfl rfl (by omega) (fun _ => rfl) ?_ | refine ok_loadR1 rfl rfl rfl rfl rfl rfl rfl ?_ | refine ok_loadRA rfl rfl rfl rfl rfl rfl rfl ?_ | refine ok_loadM (0 : Int) rfl rfl rfl rfl rfl rfl rfl (by omega) ?_ | refine ok_loadM false rfl rfl rfl rfl rfl rfl rfl (by omega) ?_ | refine ok_storeM rfl rfl rfl rfl rfl rfl rfl rfl (by omega) ?_ | refine ok_fieldAddrR rfl rfl rfl rfl rfl rfl rfl rfl rfl ?_ | refine ok_fieldAddrP rfl rfl rfl rfl rfl rfl rfl rfl rfl ?_ | refine ok_buildSlice rfl rfl rfl rfl rfl rfl rfl rfl rfl rfl rfl rfl rfl ?_ | refine ok_max rfl rfl rfl rfl rfl ?_ | refine awp_scope ?_ | refine awp_label ?_ | refine thenQ_ret ?_ | refine thenQ_exit ?_ | refine blockQ_ret ?_ | refine blockQ_normal ?_ | refine blockQ_exit ?_ | refine blockQ_other rfl ?_ | refine noGoto_ret ?_ | refine noGoto_exit ?_ | refine noGoto_normal ?_ | refine awp_skip ?_ | refine awp_block ?_ | refine awp_ret ?_ | refine awp_exit ?_ | refine ok_concat rfl rfl rfl rfl rfl (by simp only [List.length_append, List.length_cons, List.length_nil] <;> omega) ?_ | refine gd_D rfl rfl rfl (fun h => ?_) (fun h => ?_) | refine gd_N rfl rfl rfl (fun h => ?_) (fun h => ?_) | refine gd_B rfl rfl rfl (fun h => ?_) (fun h => ?_) | refine wp_ifD rfl (fun h => ?_) (fun h => ?_) | refine wp_ifN rfl (fun h => ?_) (fun h => ?_) | refine wp_if rfl (fun h => ?_) (fun h => ?_)))
  · have h2 : 2 < es.getD k 0 := by assumption
    have h3 : es.any (fun x => decide (2 < x)) = true := List.any_eq_true.2 ⟨es.getD k 0, by rw [List.getD_eq_getElem?_getD, List.getElem?_eq_getElem (by omega)]; exact List.getElem_mem _, decide_eq_true h2⟩
    refine ret_mk rfl ?_; refine sub_int ?_; rw [hc, if_pos h3]
  · have h2 : ¬ 2 < es.getD k 0 := by assumption
    refine loop_next (k + 1) ?_ (by omega) (le_mk ⟨⟨_, rfl, AV.sub_refl _⟩, ⟨_, rfl, AV.sub_refl _⟩, ⟨_, rfl, AV.sub_refl _⟩, ⟨_, rfl, sub_int (by omega)⟩, trivial⟩ trivial)
    refine ⟨by omega, fun j h => ?_⟩
    by_cases e : j = k
    · subst e; exact h2
    · exact hj j (by omega)
  all_goals
    have h3 : ¬ es.any (fun x => decide (2 < x)) = true := fun h => by
      obtain ⟨x, hx, hd⟩ := List.any_eq_true.1 h
      obtain ⟨j, hjl, rfl⟩ := List.getElem_of_mem hx
      have := hj j (by omega)
      rw [List.getD_eq_getElem?_getD, List.getElem?_eq_getElem hjl] at this
      exact this (of_decide_eq_true hd)
    rw [if_neg h3] at hc
  · refine ret_mk rfl ?_; refine sub_int ?_; rw [hc, if_pos (by assumption)]
  · refine ret_mk rfl ?_; refine sub_int ?_; rw [hc, if_neg (by assumption)]

end Go.Ab.Glob
end

section
namespace Go.Ab.Glob
open Go.Proofs Go.Ab
attribute [local irreducible] awp rwpL OpOk PCalls OCalls AV.sub

def bsA (r : List Bool) : List AV := (r.map vB).map .p

set_option maxHeartbeats 1000000 in
theorem spread_ok (s : List UInt8) (dots : Bool) (r : List Bool) (hs : s.length ≤ 65536) (hr : r.length = s.length + 1) :
    OCalls Tryz.prog 69 [.arr M1 1 0 r.length, .p (vS s), .p (vB dots)] [(M1, (r.map vB).map .p)] (fun x y => x = .tuple [] ∧ y = [(M1, ((spr s dots r s.length).map vB).map .p)]) := by
  refine ocalls_of_body good [] [M1] Tryz.func69 rfl (Nat.le_of_ble_eq_true rfl) rfl rfl rfl fun w0 F => ?_
  (repeat (first | refine awp_seq ?_ | refine awp_reg ?_ | refine rwpL_op rfl ?_ | refine rwpL_nil ?_ | refine ok_move rfl rfl rfl rfl ?_ | refine ok_assign rfl rfl rfl rfl ?_ | refine ok_cmp rfl rfl rfl rfl rfl rfl ?_ | refine ok_ar rfl rfl rfl rfl rfl rfl (by omega) ?_ | refine ok_lenS rfl rfl rfl rfl rfl rfl ?_ | refine ok_indexSn rfl rfl rfl rfl rfl rfl rfl (by omega) ?_ | refine ok_indexS rfl rfl rfl rfl rfl rfl rfl (by omega) ?_ | refine ok_cmpS rfl rfl rfl rfl rfl rfl ?_ | refine gd_tt rfl rfl rfl (by first | rfl | assumption | exact decide_eq_true (by first | assumption | omega) | exact nd_true (by first | assumption | omega)) ?_ | refine gd_ff rfl rfl rfl (by first | rfl | assumption | exact decide_eq_false (by first | assumption | omega) | exact nd_false (by first | assumption | omega)) ?_ | refine gd_tf rfl rfl rfl (by first | rfl | assumption | exact decide_eq_false (by first | assumption | omega) | exact nd_false (by first | assumption | omega)) rfl rfl ?_ | refine gd_ft rfl rfl rfl (by first | rfl | assumption | exact decide_eq_true (by first | assumption | omega) | exact nd_true (by first | assumption | omega)) rfl rfl ?_ | refine gd_none rfl rfl rfl rfl rfl ?_ | refine ok_pick_true rfl rfl rfl rfl (by first | rfl | assumption | exact decide_eq_true (by first | assumption | omega) | exact nd_true (by first | assumption | omega)) rfl ?_ | refine ok_pick_false rfl rfl rfl rfl (by first | rfl | assumption | exact decide_eq_false (by first | assumption | omega) | exact nd_false (by first | assumption | omega)) rfl ?_ | refine wp_ifT rfl (by first | rfl | assumption | exact decide_eq_true (by first | assumption | omega) | exact nd_true (by first | assumption | omega)) ?_ | refine wp_ifF rfl (by first | rfl | assumption | exact decide_eq_false (by first | assumption | omega) | exact nd_false (by first | assumption | omega)) ?_ | refine ok_not rfl rfl rfl rfl ?_ | refine ok_extract rfl rfl rfl rfl rfl ?_ | refine ok_sliceS rfl rfl rfl rfl rfl rfl rfl rfl (by omega) ?_ | refine ok_lenA rfl rfl rfl rfl rfl rfl ?_ | refine ok_lenM rfl rfl rfl rfl rfl rfl rfl ?_ | refine ok_lenV rfl rfl rfl rfl rfl rfl rfl ?_ | refine ok_indexAddrA1n rfl rfl rfl rfl rfl rfl rfl rfl rfl (by omega) ?_ | refine ok_indexAddrA1 rfl rfl rfl rfl rfl rfl rfl rfl rfl (by omega) ?_ | refine ok_indexAddrMn false rfl rfl rfl rfl rfl rfl rfl rfl rfl (by omega) (fun _ => rfl) ?_ | refine ok_indexAddrMn (0 : Int) rfl rfl rfl rfl rfl rfl rfl rfl rfl (by omega) (fun _ => rfl) ?_ | refine ok_indexAddrMn ([] : List UInt8) rfl rfl rfl rfl rfl rfl rfl rfl rfl (by omega) (fun _ => rfl) ?_ | refine ok_indexAddrM false rfl rfl rfl rfl rfl rfl rfl rfl rfl (by omega) (fun _ => rfl) ?_ | refine ok_indexAddrM (0 : Int) rfl rfl rfl rfl rfl rfl rfl rfl rfl (by omega) (fun _ => rfl) ?_ | refine ok_indexAddrM ([] : List UInt8) rfl rfl rfl rfl rfl rfl rfl rfl rfl (by omega) (fun _ => rfl) ?_ | refine ok_loadR1 rfl rfl rfl rfl rfl rfl rfl ?_ | refine ok_loadRA rfl rfl rfl rfl rfl rfl rfl ?_ | refine ok_loadM (0 : Int) rfl rfl rfl rfl rfl rfl rfl (by omega) ?_ | refine ok_loadM false rfl rfl rfl rfl rfl rfl rfl (by omega) ?_ | refine ok_storeM rfl rfl rfl rfl rfl rfl rfl rfl (by omega) ?_ | refine ok_fieldAddrR rfl rfl rfl rfl rfl rfl rfl rfl rfl ?_ | refine ok_fieldAddrP rfl rfl rfl rfl rfl rfl rfl rfl rfl ?_ | refine ok_buildSlice rfl rfl rfl rfl rfl rfl rfl rfl rfl rfl rfl rfl rfl ?_ | refine ok_max rfl rfl rfl rfl rfl ?_ | refine awp_scope ?_ | refine awp_label ?_ | refine thenQ_ret ?_ | refine thenQ_exit ?_ | refine blockQ_ret ?_ | refine blockQ_normal ?_ | refine blockQ_exit ?_ | refine blockQ_other rfl ?_ | refine noGoto_ret ?_ | refine noGoto_exit ?_ | refine noGoto_normal ?_ | refine awp_skip ?_ | refine awp_block ?_ | refine awp_ret ?_ | refine awp_exit ?_ | refine ok_concat rfl rfl rfl rfl rfl (by simp only [List.length_append, List.length_cons, List.length_nil] <;> omega) ?_))
  refine awp_loop (σ := Nat) (fun k => ⟨[(0, .arr M1 1 0 r.length), (1, .p (.val (.string (str s)))), (2, .p (.val (.bool dots))), (8, .p (.val (.int .i64 (s.length : Int)))), (9, .p (.val (.int .i64 (k : Int))))], [(M1, ((spr s dots r k).map vB).map .p)]⟩)
    (fun k => k ≤ s.length) (fun k => s.length - k) 0 (Nat.zero_le _) (le_mk ⟨⟨_, rfl, AV.sub_refl _⟩, ⟨_, rfl, AV.sub_refl _⟩, ⟨_, rfl, AV.sub_refl _⟩, ⟨_, rfl, AV.sub_refl _⟩, ⟨_, rfl, AV.sub_refl _⟩, trivial⟩ ⟨⟨_, rfl, subL_refl _⟩, trivial⟩) ?_
  intro k hk
  have hl := spr_len s dots r k
  have hsuc : spr s dots r (k + 1) = if (spr s dots r k).getD k false = true ∧ (dots = true ∨ ¬ ((s.getD k 0).toNat : Int) = 46) then (spr s dots r k).set (k + 1) true else spr s dots r k := rfl
  generalize he : spr s dots r k = q at *
  (repeat' (first | refine awp_seq ?_ | refine awp_reg ?_ | refine rwpL_op rfl ?_ | refine rwpL_nil ?_ | refine ok_move rfl rfl rfl rfl ?_ | refine ok_assign rfl rfl rfl rfl ?_ | refine ok_cmp rfl rfl rfl rfl rfl rfl ?_ | refine ok_ar rfl rfl rfl rfl rfl rfl (by omega) ?_ | refine ok_lenS rfl rfl rfl rfl rfl rfl ?_ | refine ok_indexSn rfl rfl rfl rfl rfl rfl rfl (by omega) ?_ | refine ok_indexS rfl rfl rfl rfl rfl rfl rfl (by omega) ?_ | refine ok_cmpS rfl rfl rfl rfl rfl rfl ?_ | refine gd_tt rfl rfl rfl (by first | rfl | assumption | exact decide_eq_true (by first | assumption | omega) | exact nd_true (by first | assumption | omega)) ?_ | refine gd_ff rfl rfl rfl (by first | rfl | assumption | exact decide_eq_false (by first | assumption | omega) | exact nd_false (by first | assumption | omega)) ?_ | refine gd_tf rfl rfl rfl (by first | rfl | assumption | exact decide_eq_false (by first | assumption | omega) | exact nd_false (by first | assumption | omega)) rfl rfl ?_ | refine gd_ft rfl rfl rfl (by first | rfl | assumption | exact decide_eq_true (by first | assumption | omega) | exact nd_true (by first | assumption | omega)) rfl rfl ?_ | refine gd_none rfl rfl rfl rfl rfl ?_ | refine ok_pick_true rfl rfl rfl rfl (by first | rfl | assumption | exact decide_eq_true (by first | assumption | omega) | exact nd_true (by first | assumption | omega)) rfl ?_ | refine ok_pick_false rfl rfl rfl rfl (by first | rfl | assumption | exact decide_eq_false (by first | assumption | omega) | exact nd_false (by first | assumption | omega)) rfl ?_ | refine wp_ifT rfl (by first | rfl | assumption | exact decide_eq_true (by first | assumption | omega) | exact nd_true (by first | assumption | omega)) ?_ | refine wp_ifF rfl (by first | rfl | assumption | exact decide_eq_false (by first | assumption | omega) | exact nd_false (by first | assumption | omega)) ?_ | refine ok_not rfl rfl rfl rfl ?_ | refine ok_extract rfl rfl rfl rfl rfl ?_ | refine ok_sliceS rfl rfl rfl rfl rfl rfl rfl rfl (by omega) ?_ | refine ok_lenA rfl rfl rfl rfl rfl rfl ?_ | refine ok_lenM rfl rfl rfl rfl rfl rfl rfl ?_ | refine ok_lenV rfl rfl rfl rfl rfl rfl rfl ?_ | refine ok_indexAddrA1n rfl rfl rfl rfl rfl rfl rfl rfl rfl (by omega) ?_ | refine ok_indexAddrA1 rfl rfl rfl rfl rfl rfl rfl rfl rfl (by omega) ?_ | refine ok_indexAddrMn false rfl rfl rfl rfl rfl rfl rfl rfl rfl (by omega) (fun _ => rfl) ?_ | refine ok_indexAddrMn (0 : Int) rfl rfl rfl rfl rfl rfl rfl rfl rfl (by omega) (fun _ => rfl) ?_ | refine ok_indexAddrMn ([] : List UInt8) rfl rfl rfl rfl rfl rfl rfl rfl rfl (by omega) (fun _ => rfl) ?_ | refine ok_indexAddrM false rfl rfl rfl rfl rfl rfl rfl rfl rfl (by omega) (fun _ => rfl) ?_ | refine ok_indexAddrM (0 : Int) rfl rfl rfl rfl rfl rfl rfl rfl rfl (by omega) (fun _ => rfl) ?_ | refine ok_indexAddrM ([] : List UInt8) rfl rfl rfl rfl rfl rfl rfl rfl rfl (by omega) (fun _ => rfl) ?_ | refine ok_loadR1 rfl rfl rfl rfl rfl rfl rfl ?_ | refine ok_loadRA rfl rfl rfl rfl rfl rfl rfl ?_ | refine ok_loadM (0 : Int) rfl rfl rfl rfl rfl rfl rfl (by omega) ?_ | refine ok_loadM false rfl rfl rfl rfl rfl rfl rfl (by omega) ?_ | refine ok_storeM rfl rfl rfl rfl rfl rfl rfl rfl (by omega) ?_ | refine ok_fieldAddrR rfl rfl rfl rfl rfl rfl rfl rfl rfl ?_ | refine ok_fieldAddrP rfl rfl rfl rfl rfl rfl rfl rfl rfl ?_ | refine ok_buildSlice rfl rfl rfl rfl rfl rfl rfl rfl rfl rfl rfl rfl rfl ?_ | refine ok_max rfl rfl rfl rfl rfl ?_ | refine awp_scope ?_ | refine awp_label ?_ | refine thenQ_ret ?_ | refine thenQ_exit ?_ | refine blockQ_ret ?_ | refine blockQ_normal ?_ | refine blockQ_exit ?_ | refine blockQ_other rfl ?_ | refine noGoto_ret ?_ | refine noGoto_exit ?_ | refine noGoto_normal ?_ | refine awp_skip ?_ | refine awp_block ?_ | refine awp_ret ?_ | refine awp_exit ?_ | refine ok_concat rfl rfl rfl rfl rfl (by simp only [List.length_append, List.length_cons, List.length_nil] <;> omega) ?_ | refine gd_D rfl rfl rfl (fun h => ?_) (fun h => ?_) | refine gd_N rfl rfl rfl (fun h => ?_) (fun h => ?_) | refine gd_B rfl rfl rfl (fun h => ?_) (fun h => ?_) | refine wp_ifD rfl (fun h => ?_) (fun h => ?_) | refine wp_ifN rfl (fun h => ?_) (fun h => ?_) | refine wp_if rfl (fun h => ?_) (fun h => ?_)))
  · have hn := hsuc.trans (if_pos ⟨by assumption, .inl (by assumption)⟩)
    exact loop_next (k + 1) (by omega) (by omega) (le_mk ⟨⟨_, rfl, AV.sub_refl _⟩, ⟨_, rfl, AV.sub_refl _⟩, ⟨_, rfl, AV.sub_refl _⟩, ⟨_, rfl, AV.sub_refl _⟩, ⟨_, rfl, sub_int (by omega)⟩, trivial⟩ (by rw [hn]; exact ⟨⟨_, rfl, subL_of_eq (by rw [show ((k : Int) + 1).toNat = k + 1 by omega])⟩, trivial⟩))
  · have hn := hsuc.trans (if_pos ⟨by assumption, .inr (by assumption)⟩)
    exact loop_next (k + 1) (by omega) (by omega) (le_mk ⟨⟨_, rfl, AV.sub_refl _⟩, ⟨_, rfl, AV.sub_refl _⟩, ⟨_, rfl, AV.sub_refl _⟩, ⟨_, rfl, AV.sub_refl _⟩, ⟨_, rfl, sub_int (by omega)⟩, trivial⟩ (by rw [hn]; exact ⟨⟨_, rfl, subL_of_eq (by rw [show ((k : Int) + 1).toNat = k + 1 by omega])⟩, trivial⟩))
  · have hn := hsuc.trans (if_neg (fun h => h.2.elim (by simp [*]) (fun h => h (by assumption))))
    exact loop_next (k + 1) (by omega) (by omega) (le_mk ⟨⟨_, rfl, AV.sub_refl _⟩, ⟨_, rfl, AV.sub_refl _⟩, ⟨_, rfl, AV.sub_refl _⟩, ⟨_, rfl, AV.sub_refl _⟩, ⟨_, rfl, sub_int (by omega)⟩, trivial⟩ (by rw [hn]; exact ⟨⟨_, rfl, subL_of_eq rfl⟩, trivial⟩))
  · have hn := hsuc.trans (if_neg (fun h => by have := h.1; simp_all))
    exact loop_next (k + 1) (by omega) (by omega) (le_mk ⟨⟨_, rfl, AV.sub_refl _⟩, ⟨_, rfl, AV.sub_refl _⟩, ⟨_, rfl, AV.sub_refl _⟩, ⟨_, rfl, AV.sub_refl _⟩, ⟨_, rfl, sub_int (by omega)⟩, trivial⟩ (by rw [hn]; exact ⟨⟨_, rfl, subL_of_eq rfl⟩, trivial⟩))
  · obtain rfl : k = s.length := by omega
    rw [he]
    exact endO_mk rfl rfl rfl (mapO_cons rfl (mapA_go_p _) rfl) ⟨rfl, rfl⟩

set_option maxHeartbeats 1000000 in
theorem step_ok (s : List UInt8) (c : UInt8) (r : List Bool) (hs : s.length ≤ 65536) (hr : r.length = s.length + 1) :
    OCalls Tryz.prog 70 [.arr M1 1 0 r.length, .p (vS s), .p (.val (.int .u8 (c.toNat : Int)))] [(M1, (r.map vB).map .p)]
      (fun x y => x = .tuple [.arr (2 * M1) 1 0 r.length, .p (vB (som s c r s.length))] ∧ y = [(2 * M1, ((nxt s c r s.length).map vB).map .p), (M1, (r.map vB).map .p)]) := by
  refine ocalls_of_body good [13] [13, M1] Tryz.func70 rfl (Nat.le_of_ble_eq_true rfl) rfl rfl rfl fun w0 F => ?_
  (repeat (first | refine ok_makeO rfl rfl rfl rfl rfl rfl rfl rfl rfl rfl (by refine ⟨by omega, by omega, ?_⟩; show (1 : Int) * _ ≤ _; omega) (by repeat (first | exact demOb_nil _ | apply demOb_drop rfl | apply demOb_keep rfl (demL_p _ _) | apply demOb_keep rfl rfl)) ?_ | refine awp_seq ?_ | refine awp_reg ?_ | refine rwpL_op rfl ?_ | refine rwpL_nil ?_ | refine ok_move rfl rfl rfl rfl ?_ | refine ok_assign rfl rfl rfl rfl ?_ | refine ok_cmp rfl rfl rfl rfl rfl rfl ?_ | refine ok_ar rfl rfl rfl rfl rfl rfl (by omega) ?_ | refine ok_lenS rfl rfl rfl rfl rfl rfl ?_ | refine ok_indexSn rfl rfl rfl rfl rfl rfl rfl (by omega) ?_ | refine ok_indexS rfl rfl rfl rfl rfl rfl rfl (by omega) ?_ | refine ok_cmpS rfl rfl rfl rfl rfl rfl ?_ | refine gd_tt rfl rfl rfl (by first | rfl | assumption | exact decide_eq_true (by first | assumption | omega) | exact nd_true (by first | assumption | omega)) ?_ | refine gd_ff rfl rfl rfl (by first | rfl | assumption | exact decide_eq_false (by first | assumption | omega) | exact nd_false (by first | assumption | omega)) ?_ | refine gd_tf rfl rfl rfl (by first | rfl | assumption | exact decide_eq_false (by first | assumption | omega) | exact nd_false (by first | assumption | omega)) rfl rfl ?_ | refine gd_ft rfl rfl rfl (by first | rfl | assumption | exact decide_eq_true (by first | assumption | omega) | exact nd_true (by first | assumption | omega)) rfl rfl ?_ | refine gd_none rfl rfl rfl rfl rfl ?_ | refine ok_pick_true rfl rfl rfl rfl (by first | rfl | assumption | exact decide_eq_true (by first | assumption | omega) | exact nd_true (by first | assumption | omega)) rfl ?_ | refine ok_pick_false rfl rfl rfl rfl (by first | rfl | assumption | exact decide_eq_false (by first | assumption | omega) | exact nd_false (by first | assumption | omega)) rfl ?_ | refine wp_ifT rfl (by first | rfl | assumption | exact decide_eq_true (by first | assumption | omega) | exact nd_true (by first | assumption | omega)) ?_ | refine wp_ifF rfl (by first | rfl | assumption | exact decide_eq_false (by first | assumption | omega) | exact nd_false (by first | assumption | omega)) ?_ | refine ok_not rfl rfl rfl rfl ?_ | refine ok_extract rfl rfl rfl rfl rfl ?_ | refine ok_sliceS rfl rfl rfl rfl rfl rfl rfl rfl (by omega) ?_ | refine ok_lenA rfl rfl rfl rfl rfl rfl ?_ | refine ok_lenM rfl rfl rfl rfl rfl rfl rfl ?_ | refine ok_lenV rfl rfl rfl rfl rfl rfl rfl ?_ | refine ok_indexAddrA1n rfl rfl rfl rfl rfl rfl rfl rfl rfl (by omega) ?_ | refine ok_indexAddrA1 rfl rfl rfl rfl rfl rfl rfl rfl rfl (by omega) ?_ | refine ok_indexAddrMn false rfl rfl rfl rfl rfl rfl rfl rfl rfl (by omega) (fun _ => rfl) ?_ | refine ok_indexAddrMn (0 : Int) rfl rfl rfl rfl rfl rfl rfl rfl rfl (by omega) (fun _ => rfl) ?_ | refine ok_indexAddrMn ([] : List UInt8) rfl rfl rfl rfl rfl rfl rfl rfl rfl (by omega) (fun _ => rfl) ?_ | refine ok_indexAddrM false rfl rfl rfl rfl rfl rfl rfl rfl rfl (by omega) (fun _ => rfl) ?_ | refine ok_indexAddrM (0 : Int) rfl rfl rfl rfl rfl rfl rfl rfl rfl (by omega) (fun _ => rfl) ?_ | refine ok_indexAddrM ([] : List UInt8) rfl rfl rfl rfl rfl rfl rfl rfl rfl (by omega) (fun _ => rfl) ?_ | refine ok_loadR1 rfl rfl rfl rfl rfl rfl rfl ?_ | refine ok_loadRA rfl rfl rfl rfl rfl rfl rfl ?_ | refine ok_loadM (0 : Int) rfl rfl rfl rfl rfl rfl rfl (by omega) ?_ | refine ok_loadM false rfl rfl rfl rfl rfl rfl rfl (by omega) ?_ | refine ok_storeM rfl rfl rfl rfl rfl rfl rfl rfl (by omega) ?_ | refine ok_fieldAddrR rfl rfl rfl rfl rfl rfl rfl rfl rfl ?_ | refine ok_fieldAddrP rfl rfl rfl rfl rfl rfl rfl rfl rfl ?_ | refine ok_buildSlice rfl rfl rfl rfl rfl rfl rfl rfl rfl rfl rfl rfl rfl ?_ | refine ok_max rfl rfl rfl rfl rfl ?_ | refine awp_scope ?_ | refine awp_label ?_ | refine thenQ_ret ?_ | refine thenQ_exit ?_ | refine blockQ_ret ?_ | refine blockQ_normal ?_ | refine blockQ_exit ?_ | refine blockQ_other rfl ?_ | refine noGoto_ret ?_ | refine noGoto_exit ?_ | refine noGoto_normal ?_ | refine awp_skip ?_ | refine awp_block ?_ | refine awp_ret ?_ | refine awp_exit ?_ | refine ok_concat rfl rfl rfl rfl rfl (by simp only [List.length_append, List.length_cons, List.length_nil] <;> omega) ?_))
  refine awp_loop (σ := Nat) (fun k => ⟨[(0, .arr M1 1 0 r.length), (1, .p (.val (.string (str s)))), (2, .p (.val (.int .u8 (c.toNat : Int)))), (8, .arr 13 1 0 r.length), (9, .p (.val (.bool (som s c r k)))), (15, .p (.val (.int .i64 (s.length : Int)))), (16, .p (.val (.int .i64 (k : Int))))],
      [(13, ((nxt s c r k).map vB).map .p), (M1, (r.map vB).map .p)]⟩)
    (fun k => k ≤ s.length) (fun k => s.length - k) 0 (Nat.zero_le _) ?_ ?_
  · refine le_mk ⟨⟨_, rfl, AV.sub_refl _⟩, ⟨_, rfl, AV.sub_refl _⟩, ⟨_, rfl, AV.sub_refl _⟩, ⟨_, rfl, AV.sub_refl _⟩, ⟨_, rfl, AV.sub_refl _⟩, ⟨_, rfl, AV.sub_refl _⟩, ⟨_, rfl, AV.sub_refl _⟩, trivial⟩ ⟨⟨_, rfl, subL_of_eq ?_⟩, ⟨_, rfl, subL_refl _⟩, trivial⟩
    simp [nxt, vB]
  intro k hk
  have hl := nxt_len s c r k
  have n1 : nxt s c r (k + 1) = if r.getD k false = true ∧ ((s.getD k 0).toNat : Int) = (c.toNat : Int) then (nxt s c r k).set (k + 1) true else nxt s c r k := rfl
  have n2 : som s c r (k + 1) = if r.getD k false = true ∧ ((s.getD k 0).toNat : Int) = (c.toNat : Int) then true else som s c r k := rfl
  generalize he : nxt s c r k = q at *
  generalize he2 : som s c r k = b at *
  (repeat' (first | refine awp_seq ?_ | refine awp_reg ?_ | refine rwpL_op rfl ?_ | refine rwpL_nil ?_ | refine ok_move rfl rfl rfl rfl ?_ | refine ok_assign rfl rfl rfl rfl ?_ | refine ok_cmp rfl rfl rfl rfl rfl rfl ?_ | refine ok_ar rfl rfl rfl rfl rfl rfl (by omega) ?_ | refine ok_lenS rfl rfl rfl rfl rfl rfl ?_ | refine ok_indexSn rfl rfl rfl rfl rfl rfl rfl (by omega) ?_ | refine ok_indexS rfl rfl rfl rfl rfl rfl rfl (by omega) ?_ | refine ok_cmpS rfl rfl rfl rfl rfl rfl ?_ | refine gd_tt rfl rfl rfl (by first | rfl | assumption | exact decide_eq_true (by first | assumption | omega) | exact nd_true (by first | assumption | omega)) ?_ | refine gd_ff rfl rfl rfl (by first | rfl | assumption | exact decide_eq_false (by first | assumption | omega) | exact nd_false (by first | assumption | omega)) ?_ | refine gd_tf rfl rfl rfl (by first | rfl | assumption | exact decide_eq_false (by first | assumption | omega) | exact nd_false (by first | assumption | omega)) rfl rfl ?_ | refine gd_ft rfl rfl rfl (by first | rfl | assumption | exact decide_eq_true (by first | assumption | omega) | exact nd_true (by first | assumption | omega)) rfl rfl ?_ | refine gd_none rfl rfl rfl rfl rfl ?_ | refine ok_pick_true rfl rfl rfl rfl (by first | rfl | assumption | exact decide_eq_true (by first | assumption | omega) | exact nd_true (by first | assumption | omega)) rfl ?_ | refine ok_pick_false rfl rfl rfl rfl (by first | rfl | assumption | exact decide_eq_false (by first | assumption | omega) | exact nd_false (by first | assumption | omega)) rfl ?_ | refine wp_ifT rfl (by first | rfl | assumption | exact decide_eq_true (by first | assumption | omega) | exact nd_true (by first | assumption | omega)) ?_ | refine wp_ifF rfl (by first | rfl | assumption | exact decide_eq_false (by first | assumption | omega) | exact nd_false (by first | assumption | omega)) ?_ | refine ok_not rfl rfl rfl rfl ?_ | refine ok_extract rfl rfl rfl rfl rfl ?_ | refine ok_sliceS rfl rfl rfl rfl rfl rfl rfl rfl (by omega) ?_ | refine ok_lenA rfl rfl rfl rfl rfl rfl ?_ | refine ok_lenM rfl rfl rfl rfl rfl rfl rfl ?_ | refine ok_lenV rfl rfl rfl rfl rfl rfl rfl ?_ | refine ok_indexAddrA1n rfl rfl rfl rfl rfl rfl rfl rfl rfl (by omega) ?_ | refine ok_indexAddrA1 rfl rfl rfl rfl rfl rfl rfl rfl rfl (by omega) ?_ | refine ok_indexAddrMn false rfl rfl rfl rfl rfl rfl rfl rfl rfl (by omega) (fun _ => rfl) ?_ | refine ok_indexAddrMn (0 : Int) rfl rfl rfl rfl rfl rfl rfl rfl rfl (by omega) (fun _ => rfl) ?_ | refine ok_indexAddrMn ([] : List UInt8) rfl rfl rfl rfl rfl rfl rfl rfl rfl (by omega) (fun _ => rfl) ?_ | refine ok_indexAddrM false rfl rfl rfl rfl rfl rfl rfl rfl rfl (by omega) (fun _ => rfl) ?_ | refine ok_indexAddrM (0 : Int) rfl rfl rfl rfl rfl rfl rfl rfl rfl (by omega) (fun _ => rfl) ?_ | refine ok_indexAddrM ([] : List UInt8) rfl rfl rfl rfl rfl rfl rfl rfl rfl (by omega) (fun _ => rfl) ?_ | refine ok_loadR1 rfl rfl rfl rfl rfl rfl rfl ?_ | refine ok_loadRA rfl rfl rfl rfl rfl rfl rfl ?_ | refine ok_loadM (0 : Int) rfl rfl rfl rfl rfl rfl rfl (by omega) ?_ | refine ok_loadM false rfl rfl rfl rfl rfl rfl rfl (by omega) ?_ | refine ok_storeM rfl rfl rfl rfl rfl rfl rfl rfl (by omega) ?_ | refine ok_fieldAddrR rfl rfl rfl rfl rfl rfl rfl rfl rfl ?_ | refine ok_fieldAddrP rfl rfl rfl rfl rfl rfl rfl rfl rfl ?_ | refine ok_buildSlice rfl rfl rfl rfl rfl rfl rfl rfl rfl rfl rfl rfl rfl ?_ | refine ok_max rfl rfl rfl rfl rfl ?_ | refine awp_scope ?_ | refine awp_label ?_ | refine thenQ_ret ?_ | refine thenQ_exit ?_ | refine blockQ_ret ?_ | refine blockQ_normal ?_ | refine blockQ_exit ?_ | refine blockQ_other rfl ?_ | refine noGoto_ret ?_ | refine noGoto_exit ?_ | refine noGoto_normal ?_ | refine awp_skip ?_ | refine awp_block ?_ | refine awp_ret ?_ | refine awp_exit ?_ | refine ok_concat rfl rfl rfl rfl rfl (by simp only [List.length_append, List.length_cons, List.length_nil] <;> omega) ?_ | refine gd_D rfl rfl rfl (fun h => ?_) (fun h => ?_) | refine gd_N rfl rfl rfl (fun h => ?_) (fun h => ?_) | refine gd_B rfl rfl rfl (fun h => ?_) (fun h => ?_) | refine wp_ifD rfl (fun h => ?_) (fun h => ?_) | refine wp_ifN rfl (fun h => ?_) (fun h => ?_) | refine wp_if rfl (fun h => ?_) (fun h => ?_)))
  · rw [if_pos ⟨by assumption, by assumption⟩] at n1 n2
    exact loop_next (k + 1) (by omega) (by omega) (le_mk ⟨⟨_, rfl, AV.sub_refl _⟩, ⟨_, rfl, AV.sub_refl _⟩, ⟨_, rfl, AV.sub_refl _⟩, ⟨_, rfl, AV.sub_refl _⟩, ⟨_, rfl, sub_bool (by rw [n2])⟩, ⟨_, rfl, AV.sub_refl _⟩, ⟨_, rfl, sub_int (by omega)⟩, trivial⟩ (by rw [n1]; exact ⟨⟨_, rfl, subL_of_eq (by rw [show ((k : Int) + 1).toNat = k + 1 by omega])⟩, ⟨_, rfl, subL_refl _⟩, trivial⟩))
  · rw [if_neg (fun h => absurd h.2 (by assumption))] at n1 n2
    exact loop_next (k + 1) (by omega) (by omega) (le_mk ⟨⟨_, rfl, AV.sub_refl _⟩, ⟨_, rfl, AV.sub_refl _⟩, ⟨_, rfl, AV.sub_refl _⟩, ⟨_, rfl, AV.sub_refl _⟩, ⟨_, rfl, sub_bool (by rw [n2])⟩, ⟨_, rfl, AV.sub_refl _⟩, ⟨_, rfl, sub_int (by omega)⟩, trivial⟩ (by rw [n1]; exact ⟨⟨_, rfl, subL_of_eq rfl⟩, ⟨_, rfl, subL_refl _⟩, trivial⟩))
  · rw [if_neg (fun h => by have := h.1; simp_all)] at n1 n2
    exact loop_next (k + 1) (by omega) (by omega) (le_mk ⟨⟨_, rfl, AV.sub_refl _⟩, ⟨_, rfl, AV.sub_refl _⟩, ⟨_, rfl, AV.sub_refl _⟩, ⟨_, rfl, AV.sub_refl _⟩, ⟨_, rfl, sub_bool (by rw [n2])⟩, ⟨_, rfl, AV.sub_refl _⟩, ⟨_, rfl, sub_int (by omega)⟩, trivial⟩ (by rw [n1]; exact ⟨⟨_, rfl, subL_of_eq rfl⟩, ⟨_, rfl, subL_refl _⟩, trivial⟩))
  · obtain rfl : k = s.length := by omega
    rw [he, he2]
    exact retO_mk rfl rfl rfl (mapO_cons rfl (mapA_go_p _) (mapO_cons rfl (mapA_go_p _) rfl)) ⟨rfl, rfl⟩

end Go.Ab.Glob
end

section
namespace Go.Ab.Glob
open Go.Proofs Go.Ab
attribute [local irreducible] awp rwpL OpOk PCalls OCalls AV.sub
theorem hp1_ok (s p : List UInt8) (hs : s.length ≤ 65536) (hp : p.length ≤ 65536) : PCalls Tryz.prog 91 [vS s, vS p] (· = .p (vB (hasP s p))) := by
  refine pbody good Tryz.func91 rfl rfl rfl fun w0 => ?_
  have he := hasP_take s p
  (repeat' (first | refine awp_seq ?_ | refine awp_reg ?_ | refine rwpL_op rfl ?_ | refine rwpL_nil ?_ | refine ok_move rfl rfl rfl rfl ?_ | refine ok_assign rfl rfl rfl rfl ?_ | refine ok_cmp rfl rfl rfl rfl rfl rfl ?_ | refine ok_ar rfl rfl rfl rfl rfl rfl (by omega) ?_ | refine ok_lenS rfl rfl rfl rfl rfl rfl ?_ | refine ok_indexSn rfl rfl rfl rfl rfl rfl rfl (by omega) ?_ | refine ok_indexS rfl rfl rfl rfl rfl rfl rfl (by omega) ?_ | refine ok_cmpS rfl rfl rfl rfl rfl rfl ?_ | refine gd_tt rfl rfl rfl (by first | rfl | assumption | exact decide_eq_true (by first | assumption | omega) | exact nd_true (by first | assumption | omega)) ?_ | refine gd_ff rfl rfl rfl (by first | rfl | assumption | exact decide_eq_false (by first | assumption | omega) | exact nd_false (by first | assumption | omega)) ?_ | refine gd_tf rfl rfl rfl (by first | rfl | assumption | exact decide_eq_false (by first | assumption | omega) | exact nd_false (by first | assumption | omega)) rfl rfl ?_ | refine gd_ft rfl rfl rfl (by first | rfl | assumption | exact decide_eq_true (by first | assumption | omega) | exact nd_true (by first | assumption | omega)) rfl rfl ?_ | refine gd_none rfl rfl rfl rfl rfl ?_ | refine ok_pick_true rfl rfl rfl rfl (by first | rfl | assumption | exact decide_eq_true (by first | assumption | omega) | exact nd_true (by first | assumption | omega)) rfl ?_ | refine ok_pick_false rfl rfl rfl rfl (by first | rfl | assumption | exact decide_eq_false (by first | assumption | omega) | exact nd_false (by first | assumption | omega)) rfl ?_ | refine wp_ifT rfl (by first | rfl | assumption | exact decide_eq_true (by first | assumption | omega) | exact nd_true (by first | assumption | omega)) ?_ | refine wp_ifF rfl (by first | rfl | assumption | exact decide_eq_false (by first | assumption | omega) | exact nd_false (by first | assumption | omega)) ?_ | refine ok_not rfl rfl rfl rfl ?_ | refine ok_extract rfl rfl rfl rfl rfl ?_ | refine ok_sliceS rfl rfl rfl rfl rfl rfl rfl rfl (by omega) ?_ | refine ok_lenA rfl rfl rfl rfl rfl rfl ?_ | refine ok_lenM rfl rfl rfl rfl rfl rfl rfl ?_ | refine ok_lenV rfl rfl rfl rfl rfl rfl rfl ?_ | refine ok_indexAddrA1n rfl rfl rfl rfl rfl rfl rfl rfl rfl (by omega) ?_ | refine ok_indexAddrA1 rfl rfl rfl rfl rfl rfl rfl rfl rfl (by omega) ?_ | refine ok_indexAddrMn false rfl rfl rfl rfl rfl rfl rfl rfl rfl (by omega) (fun _ => rfl) ?_ | refine ok_indexAddrMn (0 : Int) rfl rfl rfl rfl rfl rfl rfl rfl rfl (by omega) (fun _ => rfl) ?_ | refine ok_indexAddrMn ([] : List UInt8) rfl rfl rfl rfl rfl rfl rfl rfl rfl (by omega) (fun _ => rfl) ?_ | refine ok_indexAddrM false rfl rfl rfl rfl rfl rfl rfl rfl rfl (by omega) (fun _ => rfl) ?_ | refine ok_indexAddrM (0 : Int) rfl rfl rfl rfl rfl rfl rfl rfl rfl (by omega) (fun _ => rfl) ?_ | refine ok_indexAddrM ([] : List UInt8) rfl rfl rfl rfl rfl rfl rfl rfl rfl (by omega) (fun _ => rfl) ?_ | refine ok_loadR1 rfl rfl rfl rfl rfl rfl rfl ?_ | refine ok_loadRA rfl rfl rfl rfl rfl rfl rfl ?_ | refine ok_loadM (0 : Int) rfl rfl rfl rfl rfl rfl rfl (by omega) ?_ | refine ok_loadM false rfl rfl rfl rfl rfl rfl rfl (by omega) ?_ | refine ok_storeM rfl rfl rfl rfl rfl rfl rfl rfl (by omega) ?_ | refine ok_fieldAddrR rfl rfl rfl rfl rfl rfl rfl rfl rfl ?_ | refine ok_fieldAddrP rfl rfl rfl rfl rfl rfl rfl rfl rfl ?_ | refine ok_buildSlice rfl rfl rfl rfl rfl rfl rfl rfl rfl rfl rfl rfl rfl ?_ | refine ok_max rfl rfl rfl rfl rfl ?_ | refine awp_scope ?_ | refine awp_label ?_ | refine thenQ_ret ?_ | refine thenQ_exit ?_ | refine blockQ_ret ?_ | refine blockQ_normal ?_ | refine blockQ_exit ?_ | refine blockQ_other rfl ?_ | refine noGoto_ret ?_ | refine noGoto_exit ?_ | refine noGoto_normal ?_ | refine awp_skip ?_ | refine awp_block ?_ | refine awp_ret ?_ | refine awp_exit ?_ | refine ok_concat rfl rfl rfl rfl rfl (by simp only [List.length_append, List.length_cons, List.length_nil] <;> omega) ?_ | refine gd_D rfl rfl rfl (fun h => ?_) (fun h => ?_) | refine gd_N rfl rfl rfl (fun h => ?_) (fun h => ?_) | refine gd_B rfl rfl rfl (fun h => ?_) (fun h => ?_) | refine wp_ifD rfl (fun h => ?_) (fun h => ?_) | refine wp_ifN rfl (fun h => ?_) (fun h => ?_) | refine wp_if rfl (fun h => ?_) (fun h => ?_)))
  · refine ret_mk rfl ?_; refine sub_bool ?_
    rw [he, decide_eq_true (show p.length ≤ s.length by omega), Bool.true_and]
    rw [show ((p.length : Int).toNat) = p.length from rfl]
    simp
  · refine ret_mk rfl ?_; refine sub_bool ?_
    rw [he, decide_eq_false (show ¬ p.length ≤ s.length by omega), Bool.false_and]

theorem hp_ok (s p : List UInt8) (hs : s.length ≤ 65536) (hp : p.length ≤ 65536) : PCalls Tryz.prog 68 [vS s, vS p] (· = .p (vB (hasP s p))) := by
  refine pbody good Tryz.func68 rfl rfl rfl fun w0 => ?_
  (repeat' (first | refine ok_callP (hp1_ok s p hs hp) rfl rfl rfl rfl ⟨AV.sub_refl _, AV.sub_refl _, trivial⟩ Tryz.call91 rfl ?_ | refine awp_seq ?_ | refine awp_reg ?_ | refine rwpL_op rfl ?_ | refine rwpL_nil ?_ | refine ok_move rfl rfl rfl rfl ?_ | refine ok_assign rfl rfl rfl rfl ?_ | refine ok_cmp rfl rfl rfl rfl rfl rfl ?_ | refine ok_ar rfl rfl rfl rfl rfl rfl (by omega) ?_ | refine ok_lenS rfl rfl rfl rfl rfl rfl ?_ | refine ok_indexSn rfl rfl rfl rfl rfl rfl rfl (by omega) ?_ | refine ok_indexS rfl rfl rfl rfl rfl rfl rfl (by omega) ?_ | refine ok_cmpS rfl rfl rfl rfl rfl rfl ?_ | refine gd_tt rfl rfl rfl (by first | rfl | assumption | exact decide_eq_true (by first | assumption | omega) | exact nd_true (by first | assumption | omega)) ?_ | refine gd_ff rfl rfl rfl (by first | rfl | assumption | exact decide_eq_false (by first | assumption | omega) | exact nd_false (by first | assumption | omega)) ?_ | refine gd_tf rfl rfl rfl (by first | rfl | assumption | exact decide_eq_false (by first | assumption | omega) | exact nd_false (by first | assumption | omega)) rfl rfl ?_ | refine gd_ft rfl rfl rfl (by first | rfl | assumption | exact decide_eq_true (by first | assumption | omega) | exact nd_true (by first | assumption | omega)) rfl rfl ?_ | refine gd_none rfl rfl rfl rfl rfl ?_ | refine ok_pick_true rfl rfl rfl rfl (by first | rfl | assumption | exact decide_eq_true (by first | assumption | omega) | exact nd_true (by first | assumption | omega)) rfl ?_ | refine ok_pick_false rfl rfl rfl rfl (by first | rfl | assumption | exact decide_eq_false (by first | assumption | omega) | exact nd_false (by first | assumption | omega)) rfl ?_ | refine wp_ifT rfl (by first | rfl | assumption | exact decide_eq_true (by first | assumption | omega) | exact nd_true (by first | assumption | omega)) ?_ | refine wp_ifF rfl (by first | rfl | assumption | exact decide_eq_false (by first | assumption | omega) | exact nd_false (by first | assumption | omega)) ?_ | refine ok_not rfl rfl rfl rfl ?_ | refine ok_extract rfl rfl rfl rfl rfl ?_ | refine ok_sliceS rfl rfl rfl rfl rfl rfl rfl rfl (by omega) ?_ | refine ok_lenA rfl rfl rfl rfl rfl rfl ?_ | refine ok_lenM rfl rfl rfl rfl rfl rfl rfl ?_ | refine ok_lenV rfl rfl rfl rfl rfl rfl rfl ?_ | refine ok_indexAddrA1n rfl rfl rfl rfl rfl rfl rfl rfl rfl (by omega) ?_ | refine ok_indexAddrA1 rfl rfl rfl rfl rfl rfl rfl rfl rfl (by omega) ?_ | refine ok_indexAddrMn false rfl rfl rfl rfl rfl rfl rfl rfl rfl (by omega) (fun _ => rfl) ?_ | refine ok_indexAddrMn (0 : Int) rfl rfl rfl rfl rfl rfl rfl rfl rfl (by omega) (fun _ => rfl) ?_ | refine ok_indexAddrMn ([] : List UInt8) rfl rfl rfl rfl rfl rfl rfl rfl rfl (by omega) (fun _ => rfl) ?_ | refine ok_indexAddrM false rfl rfl rfl rfl rfl rfl rfl rfl rfl (by omega) (fun _ => rfl) ?_ | refine ok_indexAddrM (0 : Int) rfl rfl rfl rfl rfl rfl rfl rfl rfl (by omega) (fun _ => rfl) ?_ | refine ok_indexAddrM ([] : List UInt8) rfl rfl rfl rfl rfl rfl rfl rfl rfl (by omega) (fun _ => rfl) ?_ | refine ok_loadR1 rfl rfl rfl rfl rfl rfl rfl ?_ | refine ok_loadRA rfl rfl rfl rfl rfl rfl rfl ?_ | refine ok_loadM (0 : Int) rfl rfl rfl rfl rfl rfl rfl (by omega) ?_ | refine ok_loadM false rfl rfl rfl rfl rfl rfl rfl (by omega) ?_ | refine ok_storeM rfl rfl rfl rfl rfl rfl rfl rfl (by omega) ?_ | refine ok_fieldAddrR rfl rfl rfl rfl rfl rfl rfl rfl rfl ?_ | refine ok_fieldAddrP rfl rfl rfl rfl rfl rfl rfl rfl rfl ?_ | refine ok_buildSlice rfl rfl rfl rfl rfl rfl rfl rfl rfl rfl rfl rfl rfl ?_ | refine ok_max rfl rfl rfl rfl rfl ?_ | refine awp_scope ?_ | refine awp_label ?_ | refine thenQ_ret ?_ | refine thenQ_exit ?_ | refine blockQ_ret ?_ | refine blockQ_normal ?_ | refine blockQ_exit ?_ | refine blockQ_other rfl ?_ | refine noGoto_ret ?_ | refine noGoto_exit ?_ | refine noGoto_normal ?_ | refine awp_skip ?_ | refine awp_block ?_ | refine awp_ret ?_ | refine awp_exit ?_ | refine ok_concat rfl rfl rfl rfl rfl (by simp only [List.length_append, List.length_cons, List.length_nil] <;> omega) ?_ | refine gd_D rfl rfl rfl (fun h => ?_) (fun h => ?_) | refine gd_N rfl rfl rfl (fun h => ?_) (fun h => ?_) | refine gd_B rfl rfl rfl (fun h => ?_) (fun h => ?_) | refine wp_ifD rfl (fun h => ?_) (fun h => ?_) | refine wp_ifN rfl (fun h => ?_) (fun h => ?_) | refine wp_if rfl (fun h => ?_) (fun h => ?_)))
  exact ret_mk rfl (AV.sub_refl _)
end Go.Ab.Glob
end

section
namespace Go.Ab.Glob
open Go.Proofs Go.Ab
attribute [local irreducible] awp rwpL OpOk PCalls OCalls AV.sub

theorem ok_makeM {C : Cx} {o : Oper} {K : AS → Prop} {sl : List (Nat × AV)} {ob ob' : List (Nat × List AV)} {d : Nat} {α : Type} (f : α → PV) (b0 : α) {t e : Nat} {x y : Operand} {i ie : TI} {k k' : IntKind} {n : Int} {z : Value} (ho : o.op = .makeSlice t x y) (hd : o.dst = some d) (hn : Nat.blt d C.n = true)
    (hi : look C.tt t = some i) (hik : i.k = .slice e) (hie : look C.tt e = some ie) (hs1 : ie.size = 1) (hz : ie.zero = [z]) (hf : f b0 = .val z) (hx : evo sl x = some (.p (.val (.int k n)))) (hy : evo sl y = some (.p (.val (.int k' n))))
    (hb : 0 ≤ n ∧ n ≤ 9223372036854775807 ∧ (ie.bytes : Int) * n ≤ 281474976710656) (hdo : demOb (fun i => Nat.beq i d) ob = ob')
    (hK : K ⟨(d, .arr d 1 0 n.toNat) :: (demS (fun i => Nat.beq i d) ⟨sl, ob⟩).sl, (d, ((List.replicate n.toNat b0).map f).map .p) :: ob'⟩) : OpOk C o K ⟨sl, ob⟩ :=
  ok_makeO ho hd hn hi hik hie hs1 hz hx hy hb hdo (by rw [List.map_replicate, hf] at hK; exact hK)

theorem mg_len (p s : List UInt8) : ∀ (f i : Nat) (r : List Bool), (mg p s f i r).2.length = r.length := by
  intro f
  induction f with
  | zero => intro i r; rfl
  | succ f ih =>
    intro i r
    simp only [mg]
    split
    · split
      · rw [ih, spr_len]
      · split
        · rw [ih, spr_len]
        · split
          · rw [ih, nxt_len]
          · rw [nxt_len]
    · rfl

theorem mg_more (p s : List UInt8) : ∀ (f g i : Nat) (r : List Bool), p.length ≤ i + f → f ≤ g → mg p s g i r = mg p s f i r := by
  intro f
  induction f with
  | zero =>
    intro g i r h _
    cases g with
    | zero => rfl
    | succ g => simp only [mg]; rw [if_neg (by omega)]
  | succ f ih =>
    intro g i r h hg
    obtain ⟨g, rfl⟩ : ∃ g', g = g' + 1 := ⟨g - 1, by omega⟩
    simp only [mg]
    by_cases hi : i < p.length
    · rw [if_pos hi, if_pos hi]
      rw [ih g (i + 2) _ (by omega) (by omega), ih g (i + 1) _ (by omega) (by omega), ih g (i + 1) _ (by omega) (by omega)]
    · rw [if_neg hi, if_neg hi]

/-- One round. -/
theorem mg_step (p s : List UInt8) (i : Nat) (r : List Bool) (hi : i < p.length) : mg p s p.length i r =
    (if hasP (p.drop i) [42, 42] = true then mg p s p.length (i + 2) (spr s true r s.length)
       else if star p i then mg p s p.length (i + 1) (spr s false r s.length)
       else if som s (p.getD i 0) r s.length = true then mg p s p.length (i + 1) (nxt s (p.getD i 0) r s.length) else (i, nxt s (p.getD i 0) r s.length)) := by
  obtain ⟨f, hf⟩ : ∃ f, p.length = f + 1 := ⟨p.length - 1, by omega⟩
  have h1 := mg_more p s f (f + 1) (i + 2) (spr s true r s.length) (by omega) (by omega)
  have h2 := mg_more p s f (f + 1) (i + 1) (spr s false r s.length)
  have h3 := mg_more p s f (f + 1) (i + 1) (nxt s (p.getD i 0) r s.length)
  by_cases hi0 : i + 1 + f < p.length
  · omega
  · rw [hf] at hi ⊢
    conv => lhs; rw [mg]
    rw [if_pos (by rw [hf]; exact hi), h1, h2 (by omega) (by omega), h3 (by omega) (by omega)]

theorem mg_end (p s : List UInt8) (i : Nat) (r : List Bool) (hi : ¬ i < p.length) : mg p s p.length i r = (i, r) := by
  cases hp : p.length with
  | zero => rfl
  | succ f => rw [mg, if_neg hi]

theorem hasP2_lt (p : List UInt8) (i : Nat) (h : hasP (p.drop i) [42, 42] = true) : i + 2 ≤ p.length := by
  rw [hasP_take] at h
  simp only [Bool.and_eq_true, decide_eq_true_eq, List.length_cons, List.length_nil, List.length_drop] at h
  omega

set_option maxHeartbeats 2000000 in
theorem match_ok (p s : List UInt8) (hp : p.length ≤ 65536) (hs : s.length ≤ 32768) : PCalls Tryz.prog 49 [vS p, vS s] (· = .p (vB (matchL p s))) := by
  refine pbody good Tryz.func49 rfl rfl rfl fun w0 => ?_
  have hmd : matchL p s = if check p = 0 then (if (mg p s p.length 0 (ini s)).1 = p.length then (mg p s p.length 0 (ini s)).2.getD s.length false else false) else false := rfl
  generalize hR : mg p s p.length 0 (ini s) = R at hmd
  (repeat' (first | refine ok_callP (check_ok p hp) rfl rfl rfl rfl ⟨AV.sub_refl _, trivial⟩ Tryz.call28 rfl ?_ | refine ok_makeM vB false rfl rfl rfl rfl rfl rfl rfl rfl rfl rfl rfl (by refine ⟨by omega, by omega, ?_⟩; show (1 : Int) * _ ≤ _; omega) (by repeat (first | exact demOb_nil _ | apply demOb_drop rfl | apply demOb_keep rfl (demL_p _ _) | apply demOb_keep rfl rfl)) ?_ | refine ok_storeM rfl rfl rfl rfl rfl rfl rfl rfl (by rw [List.length_replicate]; omega) ?_ | refine awp_seq ?_ | refine awp_reg ?_ | refine rwpL_op rfl ?_ | refine rwpL_nil ?_ | refine ok_move rfl rfl rfl rfl ?_ | refine ok_assign rfl rfl rfl rfl ?_ | refine ok_cmp rfl rfl rfl rfl rfl rfl ?_ | refine ok_ar rfl rfl rfl rfl rfl rfl (by omega) ?_ | refine ok_lenS rfl rfl rfl rfl rfl rfl ?_ | refine ok_indexSn rfl rfl rfl rfl rfl rfl rfl (by omega) ?_ | refine ok_indexS rfl rfl rfl rfl rfl rfl rfl (by omega) ?_ | refine ok_cmpS rfl rfl rfl rfl rfl rfl ?_ | refine gd_tt rfl rfl rfl (by first | rfl | assumption | exact decide_eq_true (by first | assumption | omega) | exact nd_true (by first | assumption | omega)) ?_ | refine gd_ff rfl rfl rfl (by first | rfl | assumption | exact decide_eq_false (by first | assumption | omega) | exact nd_false (by first | assumption | omega)) ?_ | refine gd_tf rfl rfl rfl (by first | rfl | assumption | exact decide_eq_false (by first | assumption | omega) | exact nd_false (by first | assumption | omega)) rfl rfl ?_ | refine gd_ft rfl rfl rfl (by first | rfl | assumption | exact decide_eq_true (by first | assumption | omega) | exact nd_true (by first | assumption | omega)) rfl rfl ?_ | refine gd_none rfl rfl rfl rfl rfl ?_ | refine ok_pick_true rfl rfl rfl rfl (by first | rfl | assumption | exact decide_eq_true (by first | assumption | omega) | exact nd_true (by first | assumption | omega)) rfl ?_ | refine ok_pick_false rfl rfl rfl rfl (by first | rfl | assumption | exact decide_eq_false (by first | assumption | omega) | exact nd_false (by first | assumption | omega)) rfl ?_ | refine wp_ifT rfl (by first | rfl | assumption | exact decide_eq_true (by first | assumption | omega) | exact nd_true (by first | assumption | omega)) ?_ | refine wp_ifF rfl (by first | rfl | assumption | exact decide_eq_false (by first | assumption | omega) | exact nd_false (by first | assumption | omega)) ?_ | refine ok_not rfl rfl rfl rfl ?_ | refine ok_extract rfl rfl rfl rfl rfl ?_ | refine ok_sliceS rfl rfl rfl rfl rfl rfl rfl rfl (by omega) ?_ | refine ok_lenA rfl rfl rfl rfl rfl rfl ?_ | refine ok_lenM rfl rfl rfl rfl rfl rfl rfl ?_ | refine ok_lenV rfl rfl rfl rfl rfl rfl rfl ?_ | refine ok_indexAddrA1n rfl rfl rfl rfl rfl rfl rfl rfl rfl (by omega) ?_ | refine ok_indexAddrA1 rfl rfl rfl rfl rfl rfl rfl rfl rfl (by omega) ?_ | refine ok_indexAddrMn false rfl rfl rfl rfl rfl rfl rfl rfl rfl (by omega) (fun _ => rfl) ?_ | refine ok_indexAddrMn (0 : Int) rfl rfl rfl rfl rfl rfl rfl rfl rfl (by omega) (fun _ => rfl) ?_ | refine ok_indexAddrMn ([] : List UInt8) rfl rfl rfl rfl rfl rfl rfl rfl rfl (by omega) (fun _ => rfl) ?_ | refine ok_indexAddrM false rfl rfl rfl rfl rfl rfl rfl rfl rfl (by omega) (fun _ => rfl) ?_ | refine ok_indexAddrM (0 : Int) rfl rfl rfl rfl rfl rfl rfl rfl rfl (by omega) (fun _ => rfl) ?_ | refine ok_indexAddrM ([] : List UInt8) rfl rfl rfl rfl rfl rfl rfl rfl rfl (by omega) (fun _ => rfl) ?_ | refine ok_loadR1 rfl rfl rfl rfl rfl rfl rfl ?_ | refine ok_loadRA rfl rfl rfl rfl rfl rfl rfl ?_ | refine ok_loadM (0 : Int) rfl rfl rfl rfl rfl rfl rfl (by omega) ?_ | refine ok_loadM false rfl rfl rfl rfl rfl rfl rfl (by omega) ?_ | refine ok_storeM rfl rfl rfl rfl rfl rfl rfl rfl (by omega) ?_ | refine ok_fieldAddrR rfl rfl rfl rfl rfl rfl rfl rfl rfl ?_ | refine ok_fieldAddrP rfl rfl rfl rfl rfl rfl rfl rfl rfl ?_ | refine ok_buildSlice rfl rfl rfl rfl rfl rfl rfl rfl rfl rfl rfl rfl rfl ?_ | refine ok_max rfl rfl rfl rfl rfl ?_ | refine awp_scope ?_ | refine awp_label ?_ | refine thenQ_ret ?_ | refine thenQ_exit ?_ | refine blockQ_ret ?_ | refine blockQ_normal ?_ | refine blockQ_exit ?_ | refine blockQ_other rfl ?_ | refine noGoto_ret ?_ | refine noGoto_exit ?_ | refine noGoto_normal ?_ | refine awp_skip ?_ | refine awp_block ?_ | refine awp_ret ?_ | refine awp_exit ?_ | refine ok_concat rfl rfl rfl rfl rfl (by simp only [List.length_append, List.length_cons, List.length_nil] <;> omega) ?_ | refine gd_D rfl rfl rfl (fun h => ?_) (fun h => ?_) | refine gd_N rfl rfl rfl (fun h => ?_) (fun h => ?_) | refine gd_B rfl rfl rfl (fun h => ?_) (fun h => ?_) | refine wp_ifD rfl (fun h => ?_) (fun h => ?_) | refine wp_ifN rfl (fun h => ?_) (fun h => ?_) | refine wp_if rfl (fun h => ?_) (fun h => ?_)))
  · refine ret_mk rfl ?_; refine sub_bool ?_
    rw [hmd, if_neg (by assumption)]
  rw [if_pos (by assumption)] at hmd
  refine awp_loop (σ := Nat × Nat × List Bool) (fun q => ⟨[(0, .p (.val (.string (str p)))), (1, .p (.val (.string (str s)))), (5, .arr q.1 1 0 q.2.2.length), (6, .p (.val (.int .i64 (q.2.1 : Int))))], [(q.1, (q.2.2.map vB).map .p)]⟩)
    (fun q => (q.1 = 15 ∨ q.1 = 5000 ∨ q.1 = 6000) ∧ q.2.1 ≤ p.length ∧ q.2.2.length = s.length + 1 ∧ mg p s p.length q.2.1 q.2.2 = R) (fun q => p.length - q.2.1) (15, 0, ini s) ⟨.inl rfl, Nat.zero_le _, by simp [ini], hR⟩ ?_ ?_
  · refine le_mk ⟨⟨_, rfl, AV.sub_refl _⟩, ⟨_, rfl, AV.sub_refl _⟩, ⟨_, rfl, AV.sub_of_eq ?_⟩, ⟨_, rfl, AV.sub_refl _⟩, trivial⟩ ⟨⟨_, rfl, subL_of_eq ?_⟩, trivial⟩
    · simp [ini]
    · simp [ini]
  rintro ⟨id, i, r⟩ ⟨hid, hi, hr, hm⟩
  dsimp only at hid hi hr hm ⊢
  have hst := mg_step p s i r
  have hen := mg_end p s i r
  have hlt2 := hasP2_lt p i
  have hl1 : ∀ dots, (spr s dots r s.length).length = s.length + 1 := fun dots => (spr_len _ _ _ _).trans hr
  have hl2 : ∀ c, (nxt s c r s.length).length = s.length + 1 := fun c => (nxt_len _ _ _ _).trans hr
  have hpre := hp_ok (p.drop i) [42, 42] (by simp; omega) (by simp)
  by_cases hip : i < p.length
  · have hst := hst hip
    clear hen
    rcases hid with rfl | rfl | rfl
    all_goals
      (repeat' (first | refine ok_callP hpre rfl rfl rfl rfl ⟨sub_str (by simp), AV.sub_refl _, trivial⟩ Tryz.call68 rfl ?_ | refine ok_callOP [15] 5000 5010 (spread_ok s true r (by omega) hr) rfl rfl rfl rfl rfl ⟨AV.sub_refl _, AV.sub_refl _, AV.sub_refl _, trivial⟩ rfl (mapO_cons rfl (mapA_go_p _) rfl) ⟨⟨_, rfl, subL_refl _⟩, trivial⟩ rfl rfl rfl rfl rfl Tryz.call69 rfl (mapO_cons rfl (mapA_go_p _) rfl) ?_ | refine ok_callOP [15] 5000 5010 (spread_ok s false r (by omega) hr) rfl rfl rfl rfl rfl ⟨AV.sub_refl _, AV.sub_refl _, AV.sub_refl _, trivial⟩ rfl (mapO_cons rfl (mapA_go_p _) rfl) ⟨⟨_, rfl, subL_refl _⟩, trivial⟩ rfl rfl rfl rfl rfl Tryz.call69 rfl (mapO_cons rfl (mapA_go_p _) rfl) ?_ | refine ok_callOP [15] 5000 5010 (step_ok s (p.getD i 0) r (by omega) hr) rfl rfl rfl rfl rfl ⟨AV.sub_refl _, AV.sub_refl _, AV.sub_refl _, trivial⟩ rfl (mapO_cons rfl (mapA_go_p _) rfl) ⟨⟨_, rfl, subL_refl _⟩, trivial⟩ rfl rfl rfl rfl rfl Tryz.call70 rfl (mapO_cons rfl (mapA_go_p _) (mapO_cons rfl (mapA_go_p _) rfl)) ?_ | refine ok_callOP [5000] 6000 6010 (spread_ok s true r (by omega) hr) rfl rfl rfl rfl rfl ⟨AV.sub_refl _, AV.sub_refl _, AV.sub_refl _, trivial⟩ rfl (mapO_cons rfl (mapA_go_p _) rfl) ⟨⟨_, rfl, subL_refl _⟩, trivial⟩ rfl rfl rfl rfl rfl Tryz.call69 rfl (mapO_cons rfl (mapA_go_p _) rfl) ?_ | refine ok_callOP [5000] 6000 6010 (spread_ok s false r (by omega) hr) rfl rfl rfl rfl rfl ⟨AV.sub_refl _, AV.sub_refl _, AV.sub_refl _, trivial⟩ rfl (mapO_cons rfl (mapA_go_p _) rfl) ⟨⟨_, rfl, subL_refl _⟩, trivial⟩ rfl rfl rfl rfl rfl Tryz.call69 rfl (mapO_cons rfl (mapA_go_p _) rfl) ?_ | refine ok_callOP [5000] 6000 6010 (step_ok s (p.getD i 0) r (by omega) hr) rfl rfl rfl rfl rfl ⟨AV.sub_refl _, AV.sub_refl _, AV.sub_refl _, trivial⟩ rfl (mapO_cons rfl (mapA_go_p _) rfl) ⟨⟨_, rfl, subL_refl _⟩, trivial⟩ rfl rfl rfl rfl rfl Tryz.call70 rfl (mapO_cons rfl (mapA_go_p _) (mapO_cons rfl (mapA_go_p _) rfl)) ?_ | refine ok_callOP [6000] 5000 5010 (spread_ok s true r (by omega) hr) rfl rfl rfl rfl rfl ⟨AV.sub_refl _, AV.sub_refl _, AV.sub_refl _, trivial⟩ rfl (mapO_cons rfl (mapA_go_p _) rfl) ⟨⟨_, rfl, subL_refl _⟩, trivial⟩ rfl rfl rfl rfl rfl Tryz.call69 rfl (mapO_cons rfl (mapA_go_p _) rfl) ?_ | refine ok_callOP [6000] 5000 5010 (spread_ok s false r (by omega) hr) rfl rfl rfl rfl rfl ⟨AV.sub_refl _, AV.sub_refl _, AV.sub_refl _, trivial⟩ rfl (mapO_cons rfl (mapA_go_p _) rfl) ⟨⟨_, rfl, subL_refl _⟩, trivial⟩ rfl rfl rfl rfl rfl Tryz.call69 rfl (mapO_cons rfl (mapA_go_p _) rfl) ?_ | refine ok_callOP [6000] 5000 5010 (step_ok s (p.getD i 0) r (by omega) hr) rfl rfl rfl rfl rfl ⟨AV.sub_refl _, AV.sub_refl _, AV.sub_refl _, trivial⟩ rfl (mapO_cons rfl (mapA_go_p _) rfl) ⟨⟨_, rfl, subL_refl _⟩, trivial⟩ rfl rfl rfl rfl rfl Tryz.call70 rfl (mapO_cons rfl (mapA_go_p _) (mapO_cons rfl (mapA_go_p _) rfl)) ?_ | refine awp_seq ?_ | refine awp_reg ?_ | refine rwpL_op rfl ?_ | refine rwpL_nil ?_ | refine ok_move rfl rfl rfl rfl ?_ | refine ok_assign rfl rfl rfl rfl ?_ | refine ok_cmp rfl rfl rfl rfl rfl rfl ?_ | refine ok_ar rfl rfl rfl rfl rfl rfl (by omega) ?_ | refine ok_lenS rfl rfl rfl rfl rfl rfl ?_ | refine ok_indexSn rfl rfl rfl rfl rfl rfl rfl (by omega) ?_ | refine ok_indexS rfl rfl rfl rfl rfl rfl rfl (by omega) ?_ | refine ok_cmpS rfl rfl rfl rfl rfl rfl ?_ | refine gd_tt rfl rfl rfl (by first | rfl | assumption | exact decide_eq_true (by first | assumption | omega) | exact nd_true (by first | assumption | omega)) ?_ | refine gd_ff rfl rfl rfl (by first | rfl | assumption | exact decide_eq_false (by first | assumption | omega) | exact nd_false (by first | assumption | omega)) ?_ | refine gd_tf rfl rfl rfl (by first | rfl | assumption | exact decide_eq_false (by first | assumption | omega) | exact nd_false (by first | assumption | omega)) rfl rfl ?_ | refine gd_ft rfl rfl rfl (by first | rfl | assumption | exact decide_eq_true (by first | assumption | omega) | exact nd_true (by first | assumption | omega)) rfl rfl ?_ | refine gd_none rfl rfl rfl rfl rfl ?_ | refine ok_pick_true rfl rfl rfl rfl (by first | rfl | assumption | exact decide_eq_true (by first | assumption | omega) | exact nd_true (by first | assumption | omega)) rfl ?_ | refine ok_pick_false rfl rfl rfl rfl (by first | rfl | assumption | exact decide_eq_false (by first | assumption | omega) | exact nd_false (by first | assumption | omega)) rfl ?_ | refine wp_ifT rfl (by first | rfl | assumption | exact decide_eq_true (by first | assumption | omega) | exact nd_true (by first | assumption | omega)) ?_ | refine wp_ifF rfl (by first | rfl | assumption | exact decide_eq_false (by first | assumption | omega) | exact nd_false (by first | assumption | omega)) ?_ | refine ok_not rfl rfl rfl rfl ?_ | refine ok_extract rfl rfl rfl rfl rfl ?_ | refine ok_sliceS rfl rfl rfl rfl rfl rfl rfl rfl (by omega) ?_ | refine ok_lenA rfl rfl rfl rfl rfl rfl ?_ | refine ok_lenM rfl rfl rfl rfl rfl rfl rfl ?_ | refine ok_lenV rfl rfl rfl rfl rfl rfl rfl ?_ | refine ok_indexAddrA1n rfl rfl rfl rfl rfl rfl rfl rfl rfl (by omega) ?_ | refine ok_indexAddrA1 rfl rfl rfl rfl rfl rfl rfl rfl rfl (by omega) ?_ | refine ok_indexAddrMn false rfl rfl rfl rfl rfl rfl rfl rfl rfl (by omega) (fun _ => rfl) ?_ | refine ok_indexAddrMn (0 : Int) rfl rfl rfl rfl rfl rfl rfl rfl rfl (by omega) (fun _ => rfl) ?_ | refine ok_indexAddrMn ([] : List UInt8) rfl rfl rfl rfl rfl rfl rfl rfl rfl (by omega) (fun _ => rfl) ?_ | refine ok_indexAddrM false rfl rfl rfl rfl rfl rfl rfl rfl rfl (by omega) (fun _ => rfl) ?_ | refine ok_indexAddrM (0 : Int) rfl rfl rfl rfl rfl rfl rfl rfl rfl (by omega) (fun _ => rfl) ?_ | refine ok_indexAddrM ([] : List UInt8) rfl rfl rfl rfl rfl rfl rfl rfl rfl (by omega) (fun _ => rfl) ?_ | refine ok_loadR1 rfl rfl rfl rfl rfl rfl rfl ?_ | refine ok_loadRA rfl rfl rfl rfl rfl rfl rfl ?_ | refine ok_loadM (0 : Int) rfl rfl rfl rfl rfl rfl rfl (by omega) ?_ | refine ok_loadM false rfl rfl rfl rfl rfl rfl rfl (by omega) ?_ | refine ok_storeM rfl rfl rfl rfl rfl rfl rfl rfl (by omega) ?_ | refine ok_fieldAddrR rfl rfl rfl rfl rfl rfl rfl rfl rfl ?_ | refine ok_fieldAddrP rfl rfl rfl rfl rfl rfl rfl rfl rfl ?_ | refine ok_buildSlice rfl rfl rfl rfl rfl rfl rfl rfl rfl rfl rfl rfl rfl ?_ | refine ok_max rfl rfl rfl rfl rfl ?_ | refine awp_scope ?_ | refine awp_label ?_ | refine thenQ_ret ?_ | refine thenQ_exit ?_ | refine blockQ_ret ?_ | refine blockQ_normal ?_ | refine blockQ_exit ?_ | refine blockQ_other rfl ?_ | refine noGoto_ret ?_ | refine noGoto_exit ?_ | refine noGoto_normal ?_ | refine awp_skip ?_ | refine awp_block ?_ | refine awp_ret ?_ | refine awp_exit ?_ | refine ok_concat rfl rfl rfl rfl rfl (by simp only [List.length_append, List.length_cons, List.length_nil] <;> omega) ?_ | refine gd_D rfl rfl rfl (fun h => ?_) (fun h => ?_) | refine gd_N rfl rfl rfl (fun h => ?_) (fun h => ?_) | refine gd_B rfl rfl rfl (fun h => ?_) (fun h => ?_) | refine wp_ifD rfl (fun h => ?_) (fun h => ?_) | refine wp_ifN rfl (fun h => ?_) (fun h => ?_) | refine wp_if rfl (fun h => ?_) (fun h => ?_)))
    · refine loop_next (k := (15, i, r)) (15, i + 2, spr s true r s.length) ?_ ?_ (le_mk ?_ ?_)
      · have h2 := hlt2 (by assumption)
        rw [if_pos (by assumption)] at hst; exact ⟨.inl rfl, h2, hl1 _, hst.symm.trans hm⟩
      · dsimp only; omega
      · refine ⟨⟨_, rfl, AV.sub_refl _⟩, ⟨_, rfl, AV.sub_refl _⟩, ⟨_, rfl, AV.sub_of_eq ?_⟩, ⟨_, rfl, sub_int ?_⟩, trivial⟩
        · dsimp only; rw [hl1, hr] <;> rfl
        · dsimp only; omega
      · exact ⟨⟨_, rfl, subL_refl _⟩, trivial⟩
    · refine loop_next (k := (15, i, r)) (15, i + 1, spr s false r s.length) ?_ ?_ (le_mk ?_ ?_)
      · rename_i hf
        rw [if_neg (by rw [hf]; exact Bool.false_ne_true), if_pos (show star p i from h)] at hst; exact ⟨.inl rfl, hip, hl1 _, hst.symm.trans hm⟩
      · dsimp only; omega
      · refine ⟨⟨_, rfl, AV.sub_refl _⟩, ⟨_, rfl, AV.sub_refl _⟩, ⟨_, rfl, AV.sub_of_eq ?_⟩, ⟨_, rfl, sub_int ?_⟩, trivial⟩
        · dsimp only; rw [hl1, hr] <;> rfl
        · dsimp only; omega
      · exact ⟨⟨_, rfl, subL_refl _⟩, trivial⟩
    · refine ret_mk rfl ?_; refine sub_bool ?_
      rename_i hf hs
      rw [if_neg (by rw [hf]; exact Bool.false_ne_true), if_neg (show ¬ star p i from hs), if_neg (by intro h9; rw [h9] at h; exact Bool.false_ne_true h)] at hst
      rw [hmd, if_neg (by rw [← hm, hst]; dsimp only; omega)]
    · refine loop_next (k := (15, i, r)) (5000, i + 1, nxt s (p.getD i 0) r s.length) ?_ ?_ (le_mk ?_ ?_)
      · rename_i hf hs
        rw [if_neg (by rw [hf]; exact Bool.false_ne_true), if_neg (show ¬ star p i from hs), if_pos (by revert h; cases som s (p.getD i 0) r s.length <;> simp)] at hst; exact ⟨.inr (.inl rfl), hip, hl2 _, hst.symm.trans hm⟩
      · dsimp only; omega
      · refine ⟨⟨_, rfl, AV.sub_refl _⟩, ⟨_, rfl, AV.sub_refl _⟩, ⟨_, rfl, AV.sub_of_eq ?_⟩, ⟨_, rfl, sub_int ?_⟩, trivial⟩
        · dsimp only; rw [hl2, hr] <;> rfl
        · dsimp only; omega
      · exact ⟨⟨_, rfl, subL_refl _⟩, trivial⟩
    · refine loop_next (k := (5000, i, r)) (5000, i + 2, spr s true r s.length) ?_ ?_ (le_mk ?_ ?_)
      · have h2 := hlt2 (by assumption)
        rw [if_pos (by assumption)] at hst; exact ⟨.inr (.inl rfl), h2, hl1 _, hst.symm.trans hm⟩
      · dsimp only; omega
      · refine ⟨⟨_, rfl, AV.sub_refl _⟩, ⟨_, rfl, AV.sub_refl _⟩, ⟨_, rfl, AV.sub_of_eq ?_⟩, ⟨_, rfl, sub_int ?_⟩, trivial⟩
        · dsimp only; rw [hl1, hr] <;> rfl
        · dsimp only; omega
      · exact ⟨⟨_, rfl, subL_refl _⟩, trivial⟩
    · refine loop_next (k := (5000, i, r)) (5000, i + 1, spr s false r s.length) ?_ ?_ (le_mk ?_ ?_)
      · rename_i hf
        rw [if_neg (by rw [hf]; exact Bool.false_ne_true), if_pos (show star p i from h)] at hst; exact ⟨.inr (.inl rfl), hip, hl1 _, hst.symm.trans hm⟩
      · dsimp only; omega
      · refine ⟨⟨_, rfl, AV.sub_refl _⟩, ⟨_, rfl, AV.sub_refl _⟩, ⟨_, rfl, AV.sub_of_eq ?_⟩, ⟨_, rfl, sub_int ?_⟩, trivial⟩
        · dsimp only; rw [hl1, hr] <;> rfl
        · dsimp only; omega
      · exact ⟨⟨_, rfl, subL_refl _⟩, trivial⟩
    · refine ret_mk rfl ?_; refine sub_bool ?_
      rename_i hf hs
      rw [if_neg (by rw [hf]; exact Bool.false_ne_true), if_neg (show ¬ star p i from hs), if_neg (by intro h9; rw [h9] at h; exact Bool.false_ne_true h)] at hst
      rw [hmd, if_neg (by rw [← hm, hst]; dsimp only; omega)]
    · refine loop_next (k := (5000, i, r)) (6000, i + 1, nxt s (p.getD i 0) r s.length) ?_ ?_ (le_mk ?_ ?_)
      · rename_i hf hs
        rw [if_neg (by rw [hf]; exact Bool.false_ne_true), if_neg (show ¬ star p i from hs), if_pos (by revert h; cases som s (p.getD i 0) r s.length <;> simp)] at hst; exact ⟨.inr (.inr rfl), hip, hl2 _, hst.symm.trans hm⟩
      · dsimp only; omega
      · refine ⟨⟨_, rfl, AV.sub_refl _⟩, ⟨_, rfl, AV.sub_refl _⟩, ⟨_, rfl, AV.sub_of_eq ?_⟩, ⟨_, rfl, sub_int ?_⟩, trivial⟩
        · dsimp only; rw [hl2, hr] <;> rfl
        · dsimp only; omega
      · exact ⟨⟨_, rfl, subL_refl _⟩, trivial⟩
    · refine loop_next (k := (6000, i, r)) (6000, i + 2, spr s true r s.length) ?_ ?_ (le_mk ?_ ?_)
      · have h2 := hlt2 (by assumption)
        rw [if_pos (by assumption)] at hst; exact ⟨.inr (.inr rfl), h2, hl1 _, hst.symm.trans hm⟩
      · dsimp only; omega
      · refine ⟨⟨_, rfl, AV.sub_refl _⟩, ⟨_, rfl, AV.sub_refl _⟩, ⟨_, rfl, AV.sub_of_eq ?_⟩, ⟨_, rfl, sub_int ?_⟩, trivial⟩
        · dsimp only; rw [hl1, hr] <;> rfl
        · dsimp only; omega
      · exact ⟨⟨_, rfl, subL_refl _⟩, trivial⟩
    · refine loop_next (k := (6000, i, r)) (6000, i + 1, spr s false r s.length) ?_ ?_ (le_mk ?_ ?_)
      · rename_i hf
        rw [if_neg (by rw [hf]; exact Bool.false_ne_true), if_pos (show star p i from h)] at hst; exact ⟨.inr (.inr rfl), hip, hl1 _, hst.symm.trans hm⟩
      · dsimp only; omega
      · refine ⟨⟨_, rfl, AV.sub_refl _⟩, ⟨_, rfl, AV.sub_refl _⟩, ⟨_, rfl, AV.sub_of_eq ?_⟩, ⟨_, rfl, sub_int ?_⟩, trivial⟩
        · dsimp only; rw [hl1, hr] <;> rfl
        · dsimp only; omega
      · exact ⟨⟨_, rfl, subL_refl _⟩, trivial⟩
    · refine ret_mk rfl ?_; refine sub_bool ?_
      rename_i hf hs
      rw [if_neg (by rw [hf]; exact Bool.false_ne_true), if_neg (show ¬ star p i from hs), if_neg (by intro h9; rw [h9] at h; exact Bool.false_ne_true h)] at hst
      rw [hmd, if_neg (by rw [← hm, hst]; dsimp only; omega)]
    · refine loop_next (k := (6000, i, r)) (5000, i + 1, nxt s (p.getD i 0) r s.length) ?_ ?_ (le_mk ?_ ?_)
      · rename_i hf hs
        rw [if_neg (by rw [hf]; exact Bool.false_ne_true), if_neg (show ¬ star p i from hs), if_pos (by revert h; cases som s (p.getD i 0) r s.length <;> simp)] at hst; exact ⟨.inr (.inl rfl), hip, hl2 _, hst.symm.trans hm⟩
      · dsimp only; omega
      · refine ⟨⟨_, rfl, AV.sub_refl _⟩, ⟨_, rfl, AV.sub_refl _⟩, ⟨_, rfl, AV.sub_of_eq ?_⟩, ⟨_, rfl, sub_int ?_⟩, trivial⟩
        · dsimp only; rw [hl2, hr] <;> rfl
        · dsimp only; omega
      · exact ⟨⟨_, rfl, subL_refl _⟩, trivial⟩
  · have hen := hen hip
    have hR1 : R = (i, r) := hm.symm.trans hen
    rcases hid with rfl | rfl | rfl
    all_goals
      (repeat' (first | refine awp_seq ?_ | refine awp_reg ?_ | refine rwpL_op rfl ?_ | refine rwpL_nil ?_ | refine ok_move rfl rfl rfl rfl ?_ | refine ok_assign rfl rfl rfl rfl ?_ | refine ok_cmp rfl rfl rfl rfl rfl rfl ?_ | refine ok_ar rfl rfl rfl rfl rfl rfl (by omega) ?_ | refine ok_lenS rfl rfl rfl rfl rfl rfl ?_ | refine ok_indexSn rfl rfl rfl rfl rfl rfl rfl (by omega) ?_ | refine ok_indexS rfl rfl rfl rfl rfl rfl rfl (by omega) ?_ | refine ok_cmpS rfl rfl rfl rfl rfl rfl ?_ | refine gd_tt rfl rfl rfl (by first | rfl | assumption | exact decide_eq_true (by first | assumption | omega) | exact nd_true (by first | assumption | omega)) ?_ | refine gd_ff rfl rfl rfl (by first | rfl | assumption | exact decide_eq_false (by first | assumption | omega) | exact nd_false (by first | assumption | omega)) ?_ | refine gd_tf rfl rfl rfl (by first | rfl | assumption | exact decide_eq_false (by first | assumption | omega) | exact nd_false (by first | assumption | omega)) rfl rfl ?_ | refine gd_ft rfl rfl rfl (by first | rfl | assumption | exact decide_eq_true (by first | assumption | omega) | exact nd_true (by first | assumption | omega)) rfl rfl ?_ | refine gd_none rfl rfl rfl rfl rfl ?_ | refine ok_pick_true rfl rfl rfl rfl (by first | rfl | assumption | exact decide_eq_true (by first | assumption | omega) | exact nd_true (by first | assumption | omega)) rfl ?_ | refine ok_pick_false rfl rfl rfl rfl (by first | rfl | assumption | exact decide_eq_false (by first | assumption | omega) | exact nd_false (by first | assumption | omega)) rfl ?_ | refine wp_ifT rfl (by first | rfl | assumption | exact decide_eq_true (by first | assumption | omega) | exact nd_true (by first | assumption | omega)) ?_ | refine wp_ifF rfl (by first | rfl | assumption | exact decide_eq_false (by first | assumption | omega) | exact nd_false (by first | assumption | omega)) ?_ | refine ok_not rfl rfl rfl rfl ?_ | refine ok_extract rfl rfl rfl rfl rfl ?_ | refine ok_sliceS rfl rfl rfl rfl rfl rfl rfl rfl (by omega) ?_ | refine ok_lenA rfl rfl rfl rfl rfl rfl ?_ | refine ok_lenM rfl rfl rfl rfl rfl rfl rfl ?_ | refine ok_lenV rfl rfl rfl rfl rfl rfl rfl ?_ | refine ok_indexAddrA1n rfl rfl rfl rfl rfl rfl rfl rfl rfl (by omega) ?_ | refine ok_indexAddrA1 rfl rfl rfl rfl rfl rfl rfl rfl rfl (by omega) ?_ | refine ok_indexAddrMn false rfl rfl rfl rfl rfl rfl rfl rfl rfl (by omega) (fun _ => rfl) ?_ | refine ok_indexAddrMn (0 : Int) rfl rfl rfl rfl rfl rfl rfl rfl rfl (by omega) (fun _ => rfl) ?_ | refine ok_indexAddrMn ([] : List UInt8) rfl rfl rfl rfl rfl rfl rfl rfl rfl (by omega) (fun _ => rfl) ?_ | refine ok_indexAddrM false rfl rfl rfl rfl rfl rfl rfl rfl rfl (by omega) (fun _ => rfl) ?_ | refine ok_indexAddrM (0 : Int) rfl rfl rfl rfl rfl rfl rfl rfl rfl (by omega) (fun _ => rfl) ?_ | refine ok_indexAddrM ([] : List UInt8) rfl rfl rfl rfl rfl rfl rfl rfl rfl (by omega) (fun _ => rfl) ?_ | refine ok_loadR1 rfl rfl rfl rfl rfl rfl rfl ?_ | refine ok_loadRA rfl rfl rfl rfl rfl rfl rfl ?_ | refine ok_loadM (0 : Int) rfl rfl rfl rfl rfl rfl rfl (by omega) ?_ | refine ok_loadM false rfl rfl rfl rfl rfl rfl rfl (by omega) ?_ | refine ok_storeM rfl rfl rfl rfl rfl rfl rfl rfl (by omega) ?_ | refine ok_fieldAddrR rfl rfl rfl rfl rfl rfl rfl rfl rfl ?_ | refine ok_fieldAddrP rfl rfl rfl rfl rfl rfl rfl rfl rfl ?_ | refine ok_buildSlice rfl rfl rfl rfl rfl rfl rfl rfl rfl rfl rfl rfl rfl ?_ | refine ok_max rfl rfl rfl rfl rfl ?_ | refine awp_scope ?_ | refine awp_label ?_ | refine thenQ_ret ?_ | refine thenQ_exit ?_ | refine blockQ_ret ?_ | refine blockQ_normal ?_ | refine blockQ_exit ?_ | refine blockQ_other rfl ?_ | refine noGoto_ret ?_ | refine noGoto_exit ?_ | refine noGoto_normal ?_ | refine awp_skip ?_ | refine awp_block ?_ | refine awp_ret ?_ | refine awp_exit ?_ | refine ok_concat rfl rfl rfl rfl rfl (by simp only [List.length_append, List.length_cons, List.length_nil] <;> omega) ?_ | refine gd_D rfl rfl rfl (fun h => ?_) (fun h => ?_) | refine gd_N rfl rfl rfl (fun h => ?_) (fun h => ?_) | refine gd_B rfl rfl rfl (fun h => ?_) (fun h => ?_) | refine wp_ifD rfl (fun h => ?_) (fun h => ?_) | refine wp_ifN rfl (fun h => ?_) (fun h => ?_) | refine wp_if rfl (fun h => ?_) (fun h => ?_)))
    all_goals
      refine ret_mk rfl ?_; refine sub_bool ?_
      rw [hmd, hR1]; dsimp only; rw [if_pos (by omega)]

end Go.Ab.Glob
end
