/- Texts of the proof, one behind the other. No statement is proved here. -/
import Derived.Test.YtgdcfenbmcflkaaGreatDoorZ42Aa
import Derived.Test.YtgdcfenbmcflkaaGreatDoorZ42Ab
import Derived.Test.YtgdcfenbmcflkaaGreatDoorZ42Ac
section
set_option linter.unusedVariables false
set_option linter.unusedSimpArgs false
set_option linter.unnecessarySimpa false
namespace Go.Ab.Glob
def star (l : List UInt8) (i : Nat) : Prop := ((l.getD i 0).toNat : Int) = 42
instance (l : List UInt8) (i : Nat) : Decidable (star l i) := inferInstanceAs (Decidable (_ = _))
def incLast (es : List Int) : List Int := es.set (es.length - 1) (es.getD (es.length - 1) 0 + 1)
def gr (l : List UInt8) : Nat → List Int
 | 0 => []
 | k + 1 => if star l k then (if 0 < k ∧ star l (k - 1) then incLast (gr l k) else gr l k ++ [1]) else gr l k
theorem incLast_length (es : List Int) : (incLast es).length = es.length := by simp [incLast]
theorem gr_len (l : List UInt8) : ∀ k, (gr l k).length ≤ k
 | 0 => by simp [gr]
 | k + 1 => by
  have := gr_len l k
  simp only [gr]
  split
  ·split
   ·rw [incLast_length]; omega
   ·simp; omega
  ·omega
theorem gr_bd (l : List UInt8) : ∀ k, ∀ x ∈ gr l k, 1 ≤ x ∧ x ≤ k
 | 0 => by simp [gr]
 | k + 1 => by
  intro x hx
  simp only [gr] at hx
  split at hx
  ·split at hx
   ·unfold incLast at hx
    rcases List.mem_or_eq_of_mem_set hx with h | h
    ·have := gr_bd l k x h; omega
    ·by_cases hl : (gr l k).length = 0
     ·have : gr l k = [] := List.length_eq_zero_iff.1 hl
      rw [this] at hx; simp at hx
     ·have hm : (gr l k).getD ((gr l k).length - 1) 0 ∈ gr l k := by
       rw [List.getD_eq_getElem?_getD, List.getElem?_eq_getElem (by omega)]
       exact List.getElem_mem _
      have := gr_bd l k _ hm; omega
   ·rcases List.mem_append.1 hx with h | h
    ·have := gr_bd l k x h; omega
    ·simp at h; omega
  ·have := gr_bd l k x hx; omega
theorem gr_ne (l : List UInt8) : ∀ k, 0 < k → star l (k - 1) → gr l k ≠ []
 | 0, h, _ => by omega
 | k + 1, _, hs => by
  simp only [Nat.add_sub_cancel] at hs
  simp only [gr, if_pos hs]
  split
  ·rename_i h
   have := gr_ne l k h.1 h.2
   intro e
   have h2 := congrArg List.length e
   rw [incLast_length] at h2
   exact this (List.length_eq_zero_iff.1 h2)
  ·simp
def rgN (l : List UInt8) : Nat → Int
 | 0 => 0
 | k + 1 => if star l k then (if 0 < k ∧ star l (k - 1) then rgN l k else rgN l k + 1) else rgN l k
def rgR (l : List UInt8) : Nat → Int
 | 0 => 0
 | k + 1 => if star l k then rgR l k + 1 else 0
def rgM (l : List UInt8) : Nat → Int
 | 0 => 0
 | k + 1 => if star l k then (if rgM l k < rgR l k + 1 then rgR l k + 1 else rgM l k) else rgM l k
theorem rgR_pos (l : List UInt8) (k : Nat) : 0 ≤ rgR l k ∧ rgR l k ≤ k ∧ (0 < rgR l k ↔ 0 < k ∧ star l (k - 1)) := by
 induction k with
 | zero => simp [rgR]
 | succ k ih =>
  simp only [rgR, Nat.add_sub_cancel]
  split
  ·rename_i h; refine ⟨by omega, by omega, ?_⟩; simp [h]; omega
  ·rename_i h; simp [h]; omega
theorem rgN_bd (l : List UInt8) (k : Nat) : 0 ≤ rgN l k ∧ rgN l k ≤ k := by
 induction k with
 | zero => simp [rgN]
 | succ k ih => simp only [rgN]; split <;> (try split) <;> omega
theorem rgM_bd (l : List UInt8) (k : Nat) : 0 ≤ rgM l k ∧ rgM l k ≤ k := by
 induction k with
 | zero => simp [rgM]
 | succ k ih => have := rgR_pos l k; simp only [rgM]; split <;> (try split) <;> omega
theorem rgN_gr (l : List UInt8) (k : Nat) : ((gr l k).length : Int) = rgN l k := by
 induction k with
 | zero => rfl
 | succ k ih =>
  simp only [gr, rgN]
  split
  ·split
   ·rw [incLast_length]; exact ih
   ·simp [ih]
  ·exact ih
theorem getD_last (es : List Int) (x : Int) : (es ++ [x]).getD ((es ++ [x]).length - 1) 0 = x := by
 simp [List.getD_eq_getElem?_getD]
theorem incLast_snoc (es : List Int) (x : Int) : incLast (es ++ [x]) = es ++ [x + 1] := by
 unfold incLast
 rw [getD_last]
 simp
theorem gr_last (l : List UInt8) : ∀ k, 0 < k → star l (k - 1) → ∃ es, gr l k = es ++ [rgR l k]
 | 0, h, _ => by omega
 | k + 1, _, hs => by
  simp only [Nat.add_sub_cancel] at hs
  simp only [gr, rgR, if_pos hs]
  by_cases h : 0 < k ∧ star l (k - 1)
  ·obtain ⟨es, he⟩ := gr_last l k h.1 h.2
   rw [if_pos h, he, incLast_snoc]
   exact ⟨es, rfl⟩
  ·rw [if_neg h]
   have := (rgR_pos l k)
   have h0 : rgR l k = 0 := by
    have h1 : ¬ 0 < rgR l k := fun h2 => h (this.2.2.1 h2)
    omega
   rw [h0]
   exact ⟨gr l k, rfl⟩
theorem gr_most (l : List UInt8) (k : Nat) : (∀ m : Int, 0 ≤ m → ((∃ x ∈ gr l k, m < x) ↔ m < rgM l k)) := by
 induction k with
 | zero => intro m hm; simp [gr, rgM]; omega
 | succ k ih =>
  intro m hm
  have hR := rgR_pos l k
  simp only [gr, rgM]
  by_cases h : star l k
  ·rw [if_pos h, if_pos h]
   by_cases h2 : 0 < k ∧ star l (k - 1)
   ·obtain ⟨es, he⟩ := gr_last l k h2.1 h2.2
    rw [if_pos h2, he, incLast_snoc]
    have := ih m hm
    rw [he] at this
    constructor
    ·rintro ⟨x, hx, hmx⟩
     rcases List.mem_append.1 hx with hx | hx
     ·have h3 := this.1 ⟨x, List.mem_append.2 (.inl hx), hmx⟩
      split <;> omega
     ·simp at hx; split <;> omega
    ·intro hlt
     split at hlt
     ·exact ⟨rgR l k + 1, by simp, hlt⟩
     ·obtain ⟨x, hx, hmx⟩ := this.2 hlt
      rcases List.mem_append.1 hx with hx | hx
      ·exact ⟨x, List.mem_append.2 (.inl hx), hmx⟩
      ·simp at hx; exact ⟨rgR l k + 1, by simp, by omega⟩
   ·rw [if_neg h2]
    have h0 : rgR l k = 0 := by
     have h1 : ¬ 0 < rgR l k := fun h3 => h2 (hR.2.2.1 h3)
     omega
    have := ih m hm
    constructor
    ·rintro ⟨x, hx, hmx⟩
     rcases List.mem_append.1 hx with hx | hx
     ·have h3 := this.1 ⟨x, hx, hmx⟩
      split <;> omega
     ·simp at hx; split <;> omega
    ·intro hlt
     split at hlt
     ·exact ⟨1, by simp, by omega⟩
     ·obtain ⟨x, hx, hmx⟩ := this.2 hlt
      exact ⟨x, List.mem_append.2 (.inl hx), hmx⟩
  ·rw [if_neg h, if_neg h]
   exact ih m hm
def check (l : List UInt8) : Int :=
 if 1024 < (l.length : Int) then 3 else if 16 < ((gr l l.length).length : Int) then 14 else if (gr l l.length).any (fun x => decide (2 < x)) then 2 else if l = [] then 2 else 0
def rcheck (l : List UInt8) : Int :=
 if 1024 < (l.length : Int) then 3 else if 16 < rgN l l.length then 14 else if (l.length : Int) = 0 ∨ 2 < rgM l l.length then 2 else 0
theorem check_eq (l : List UInt8) : check l = rcheck l := by
 unfold check rcheck
 have h := gr_most l l.length 2 (by omega)
 rw [rgN_gr]
 split
 ·rfl
 ·split
  ·rfl
  ·by_cases h1 : (gr l l.length).any (fun x => decide (2 < x)) = true
   ·rw [if_pos h1, if_pos]
    right
    obtain ⟨x, hx, hd⟩ := List.any_eq_true.1 h1
    exact h.1 ⟨x, hx, of_decide_eq_true hd⟩
   ·rw [if_neg h1]
    have h2 : ¬ 2 < rgM l l.length := fun hlt => h1 (by
     obtain ⟨x, hx, hd⟩ := h.2 hlt
     exact List.any_eq_true.2 ⟨x, hx, decide_eq_true hd⟩)
    by_cases h3 : l = []
    ·rw [if_pos h3, if_pos (.inl (by simp [h3]))]
    ·rw [if_neg h3, if_neg]
     rintro (h4 | h4)
     ·exact h3 (List.length_eq_zero_iff.1 (by omega))
     ·exact h2 h4
def spr (s : List UInt8) (hG : Bool) (r : List Bool) : Nat → List Bool
 | 0 => r
 | k + 1 => if (spr s hG r k).getD k false = true ∧ (hG = true ∨ ¬ ((s.getD k 0).toNat : Int) = 46) then (spr s hG r k).set (k + 1) true else spr s hG r k
theorem spr_len (s : List UInt8) (hG : Bool) (r : List Bool) (k : Nat) : (spr s hG r k).length = r.length := by
 induction k with
 | zero => rfl
 | succ k ih => simp only [spr]; split <;> simp [ih]
def nxt (s : List UInt8) (c : UInt8) (r : List Bool) : Nat → List Bool
 | 0 => List.replicate r.length false
 | k + 1 => if r.getD k false = true ∧ ((s.getD k 0).toNat : Int) = (c.toNat : Int) then (nxt s c r k).set (k + 1) true else nxt s c r k
def som (s : List UInt8) (c : UInt8) (r : List Bool) : Nat → Bool
 | 0 => false
 | k + 1 => if r.getD k false = true ∧ ((s.getD k 0).toNat : Int) = (c.toNat : Int) then true else som s c r k
theorem nxt_len (s : List UInt8) (c : UInt8) (r : List Bool) (k : Nat) : (nxt s c r k).length = r.length := by
 induction k with
 | zero => simp [nxt]
 | succ k ih => simp only [nxt]; split <;> simp [ih]
def hasP : List UInt8 → List UInt8 → Bool
 | _, [] => true
 | [], _ :: _ => false
 | a :: x, b :: y => decide (a = b) && hasP x y
theorem hasP_take : ∀ (s p : List UInt8), hasP s p = (decide (p.length ≤ s.length) && decide (s.take p.length = p))
 | s, [] => by simp [hasP]
 | [], _ :: _ => by simp [hasP]
 | a :: x, b :: y => by
  simp only [hasP, hasP_take x y, List.length_cons, List.take_succ_cons, List.cons.injEq, Nat.add_le_add_iff_right]
  by_cases h : a = b <;> simp [h]
def mg (p s : List UInt8) : Nat → Nat → List Bool → Nat × List Bool
 | 0, i, r => (i, r)
 | f + 1, i, r => if i < p.length then
   (if hasP (p.drop i) [42, 42] = true then mg p s f (i + 2) (spr s true r s.length)
    else if star p i then mg p s f (i + 1) (spr s false r s.length)
    else if som s (p.getD i 0) r s.length = true then mg p s f (i + 1) (nxt s (p.getD i 0) r s.length) else (i, nxt s (p.getD i 0) r s.length))
  else (i, r)
def ini (s : List UInt8) : List Bool := (List.replicate (s.length + 1) false).set 0 true
def matchL (p s : List UInt8) : Bool :=
 if check p = 0 then (if (mg p s p.length 0 (ini s)).1 = p.length then (mg p s p.length 0 (ini s)).2.getD s.length false else false) else false
def anyL (ps : List (List UInt8)) (s : List UInt8) : Bool := ps.any fun p => matchL p s
end Go.Ab.Glob
section
namespace Go.Ab.Glob
open Go.Proofs Go.Ab
attribute [local irreducible] awp d9 aU aF bO AV.sub
def vI (n : Int) : PV := .val (.int .i64 n)
def vS (l : List UInt8) : PV := .val (.string (str l))
def vB (b : Bool) : PV := .val (.bool b)
def outAt : List Int → AV
 | [] => .p (.val (.slice none 0 0))
 | x :: r => .arr 33 1 0 (x :: r).length
def obAt : List Int → List (Nat × List AV)
 | [] => []
 | x :: r => [(33, ((x :: r).map vI).map .p)]
theorem vI_one (es : List Int) : (∀ x ∈ es.map vI, x.cells = [x]) ∧ (∀ x ∈ es.map vI, x.one = true) := by
 constructor <;> (intro x hx; obtain ⟨n, _, rfl⟩ := List.mem_map.1 hx; rfl)
set_option maxHeartbeats 1000000 in
theorem groups_ok (l : List UInt8) (hl : l.length ≤ 65536) : aF Tryz.prog 47 [vS l] (· = .p (.slice ((gr l l.length).map vI))) := by
 refine rq good Tryz.func47 rfl rfl rfl fun w0 => ?_
 (repeat (first | refine bE ?_ | refine b5 ?_ | refine aV rfl ?_ | refine bA ?_ | refine aR rfl rfl rfl rfl ?_ | refine bp rfl rfl rfl rfl ?_ | refine gC rfl rfl rfl rfl rfl rfl ?_ | refine eV rfl rfl rfl rfl rfl rfl (by omega) ?_ | refine fw rfl rfl rfl rfl rfl rfl ?_ | refine de rfl rfl rfl rfl rfl rfl rfl (by omega) ?_ | refine dk rfl rfl rfl rfl rfl rfl rfl (by omega) ?_ | refine cE rfl rfl rfl rfl rfl rfl ?_ | refine jQ rfl rfl rfl (by first | rfl | assumption | exact decide_eq_true (by first | assumption | omega) | exact aP (by first | assumption | omega)) ?_ | refine jB rfl rfl rfl (by first | rfl | assumption | exact decide_eq_false (by first | assumption | omega) | exact aE (by first | assumption | omega)) ?_ | refine jJ rfl rfl rfl (by first | rfl | assumption | exact decide_eq_false (by first | assumption | omega) | exact aE (by first | assumption | omega)) rfl rfl ?_ | refine jT rfl rfl rfl (by first | rfl | assumption | exact decide_eq_true (by first | assumption | omega) | exact aP (by first | assumption | omega)) rfl rfl ?_ | refine fG rfl rfl rfl rfl rfl ?_ | refine cn rfl rfl rfl rfl (by first | rfl | assumption | exact decide_eq_true (by first | assumption | omega) | exact aP (by first | assumption | omega)) rfl ?_ | refine bY rfl rfl rfl rfl (by first | rfl | assumption | exact decide_eq_false (by first | assumption | omega) | exact aE (by first | assumption | omega)) rfl ?_ | refine gV rfl (by first | rfl | assumption | exact decide_eq_true (by first | assumption | omega) | exact aP (by first | assumption | omega)) ?_ | refine gQ rfl (by first | rfl | assumption | exact decide_eq_false (by first | assumption | omega) | exact aE (by first | assumption | omega)) ?_ | refine gD rfl rfl rfl rfl ?_ | refine cB rfl rfl rfl rfl rfl ?_ | refine dH rfl rfl rfl rfl rfl rfl rfl rfl (by omega) ?_ | refine fp rfl rfl rfl rfl rfl rfl ?_ | refine fq rfl rfl rfl rfl rfl rfl rfl ?_ | refine fv rfl rfl rfl rfl rfl rfl rfl ?_ | refine bF rfl rfl rfl rfl rfl rfl rfl rfl rfl (by omega) ?_ | refine aW rfl rfl rfl rfl rfl rfl rfl rfl rfl (by omega) ?_ | refine ao false rfl rfl rfl rfl rfl rfl rfl rfl rfl (by omega) (fun _ => rfl) ?_ | refine ao (0 : Int) rfl rfl rfl rfl rfl rfl rfl rfl rfl (by omega) (fun _ => rfl) ?_ | refine ao ([] : List UInt8) rfl rfl rfl rfl rfl rfl rfl rfl rfl (by omega) (fun _ => rfl) ?_ | refine au false rfl rfl rfl rfl rfl rfl rfl rfl rfl (by omega) (fun _ => rfl) ?_ | refine au (0 : Int) rfl rfl rfl rfl rfl rfl rfl rfl rfl (by omega) (fun _ => rfl) ?_ | refine au ([] : List UInt8) rfl rfl rfl rfl rfl rfl rfl rfl rfl (by omega) (fun _ => rfl) ?_ | refine dF rfl rfl rfl rfl rfl rfl rfl ?_ | refine dC rfl rfl rfl rfl rfl rfl rfl ?_ | refine bw (0 : Int) rfl rfl rfl rfl rfl rfl rfl (by omega) ?_ | refine bw false rfl rfl rfl rfl rfl rfl rfl (by omega) ?_ | refine db rfl rfl rfl rfl rfl rfl rfl rfl (by omega) ?_ | refine bX rfl rfl rfl rfl rfl rfl rfl rfl rfl ?_ | refine ah rfl rfl rfl rfl rfl rfl rfl rfl rfl ?_ | refine bW rfl rfl rfl rfl rfl rfl rfl rfl rfl rfl rfl rfl rfl ?_ | refine gI rfl rfl rfl rfl rfl ?_ | refine dD ?_ | refine dB ?_ | refine aL ?_ | refine aG ?_ | refine aH ?_ | refine ak ?_ | refine aw ?_ | refine ar rfl ?_ | refine noGoto_ret ?_ | refine noGoto_exit ?_ | refine noGoto_normal ?_ | refine cZ ?_ | refine dI ?_ | refine cY ?_ | refine d8 ?_ | refine b9 rfl rfl rfl rfl rfl (by simp only [List.length_append, List.length_cons, List.length_nil] <;> omega) ?_))
 refine lz (σ := Nat) (fun k => ⟨[(0, .p (.val (.string (str l)))), (3, outAt (gr l k)), (6, .p (.val (.int .i64 (l.length : Int)))), (7, .p (.val (.int .i64 (k : Int))))], obAt (gr l k)⟩)
  (fun k => k ≤ l.length) (fun k => l.length - k) 0 (Nat.zero_le _) (cj ⟨⟨_, rfl, AV.sub_refl _⟩, ⟨_, rfl, AV.sub_refl _⟩, ⟨_, rfl, AV.sub_refl _⟩, ⟨_, rfl, AV.sub_refl _⟩, trivial⟩ trivial) ?_
 intro k hk
 have hg := gr_len l k
 have hb := gr_bd l k
 have hne := gr_ne l k
 have hsuc : gr l (k + 1) = if star l k then (if 0 < k ∧ star l (k - 1) then incLast (gr l k) else gr l k ++ [1]) else gr l k := rfl
 have htn : ((k : Int) - 1).toNat = k - 1 := by omega
 generalize he : gr l k = es at *
 cases es with
 | nil =>
  (repeat' (first | refine uA rfl rfl rfl rfl rfl rfl rfl rfl rfl rfl rfl (by intro y hy; simp at hy; subst hy; rfl) (Nat.le_of_ble_eq_true rfl) rfl rfl (Nat.le_of_ble_eq_true rfl) (Nat.le_of_ble_eq_true rfl) ?_ | refine bE ?_ | refine b5 ?_ | refine aV rfl ?_ | refine bA ?_ | refine aR rfl rfl rfl rfl ?_ | refine bp rfl rfl rfl rfl ?_ | refine gC rfl rfl rfl rfl rfl rfl ?_ | refine eV rfl rfl rfl rfl rfl rfl (by omega) ?_ | refine fw rfl rfl rfl rfl rfl rfl ?_ | refine de rfl rfl rfl rfl rfl rfl rfl (by omega) ?_ | refine dk rfl rfl rfl rfl rfl rfl rfl (by omega) ?_ | refine cE rfl rfl rfl rfl rfl rfl ?_ | refine jQ rfl rfl rfl (by first | rfl | assumption | exact decide_eq_true (by first | assumption | omega) | exact aP (by first | assumption | omega)) ?_ | refine jB rfl rfl rfl (by first | rfl | assumption | exact decide_eq_false (by first | assumption | omega) | exact aE (by first | assumption | omega)) ?_ | refine jJ rfl rfl rfl (by first | rfl | assumption | exact decide_eq_false (by first | assumption | omega) | exact aE (by first | assumption | omega)) rfl rfl ?_ | refine jT rfl rfl rfl (by first | rfl | assumption | exact decide_eq_true (by first | assumption | omega) | exact aP (by first | assumption | omega)) rfl rfl ?_ | refine fG rfl rfl rfl rfl rfl ?_ | refine cn rfl rfl rfl rfl (by first | rfl | assumption | exact decide_eq_true (by first | assumption | omega) | exact aP (by first | assumption | omega)) rfl ?_ | refine bY rfl rfl rfl rfl (by first | rfl | assumption | exact decide_eq_false (by first | assumption | omega) | exact aE (by first | assumption | omega)) rfl ?_ | refine gV rfl (by first | rfl | assumption | exact decide_eq_true (by first | assumption | omega) | exact aP (by first | assumption | omega)) ?_ | refine gQ rfl (by first | rfl | assumption | exact decide_eq_false (by first | assumption | omega) | exact aE (by first | assumption | omega)) ?_ | refine gD rfl rfl rfl rfl ?_ | refine cB rfl rfl rfl rfl rfl ?_ | refine dH rfl rfl rfl rfl rfl rfl rfl rfl (by omega) ?_ | refine fp rfl rfl rfl rfl rfl rfl ?_ | refine fq rfl rfl rfl rfl rfl rfl rfl ?_ | refine fv rfl rfl rfl rfl rfl rfl rfl ?_ | refine bF rfl rfl rfl rfl rfl rfl rfl rfl rfl (by omega) ?_ | refine aW rfl rfl rfl rfl rfl rfl rfl rfl rfl (by omega) ?_ | refine ao false rfl rfl rfl rfl rfl rfl rfl rfl rfl (by omega) (fun _ => rfl) ?_ | refine ao (0 : Int) rfl rfl rfl rfl rfl rfl rfl rfl rfl (by omega) (fun _ => rfl) ?_ | refine ao ([] : List UInt8) rfl rfl rfl rfl rfl rfl rfl rfl rfl (by omega) (fun _ => rfl) ?_ | refine au false rfl rfl rfl rfl rfl rfl rfl rfl rfl (by omega) (fun _ => rfl) ?_ | refine au (0 : Int) rfl rfl rfl rfl rfl rfl rfl rfl rfl (by omega) (fun _ => rfl) ?_ | refine au ([] : List UInt8) rfl rfl rfl rfl rfl rfl rfl rfl rfl (by omega) (fun _ => rfl) ?_ | refine dF rfl rfl rfl rfl rfl rfl rfl ?_ | refine dC rfl rfl rfl rfl rfl rfl rfl ?_ | refine bw (0 : Int) rfl rfl rfl rfl rfl rfl rfl (by omega) ?_ | refine bw false rfl rfl rfl rfl rfl rfl rfl (by omega) ?_ | refine db rfl rfl rfl rfl rfl rfl rfl rfl (by omega) ?_ | refine bX rfl rfl rfl rfl rfl rfl rfl rfl rfl ?_ | refine ah rfl rfl rfl rfl rfl rfl rfl rfl rfl ?_ | refine bW rfl rfl rfl rfl rfl rfl rfl rfl rfl rfl rfl rfl rfl ?_ | refine gI rfl rfl rfl rfl rfl ?_ | refine dD ?_ | refine dB ?_ | refine aL ?_ | refine aG ?_ | refine aH ?_ | refine ak ?_ | refine aw ?_ | refine ar rfl ?_ | refine noGoto_ret ?_ | refine noGoto_exit ?_ | refine noGoto_normal ?_ | refine cZ ?_ | refine dI ?_ | refine cY ?_ | refine d8 ?_ | refine b9 rfl rfl rfl rfl rfl (by simp only [List.length_append, List.length_cons, List.length_nil] <;> omega) ?_ | refine pb rfl rfl rfl (fun h => ?_) (fun h => ?_) | refine gd_N rfl rfl rfl (fun h => ?_) (fun h => ?_) | refine pS rfl rfl rfl (fun h => ?_) (fun h => ?_) | refine jk rfl (fun h => ?_) (fun h => ?_) | refine js rfl (fun h => ?_) (fun h => ?_) | refine gT rfl (fun h => ?_) (fun h => ?_)))
  ·have hn := hsuc.trans (if_neg (show ¬ star l k by assumption))
   exact co (k + 1) (by omega) (by omega) (cj ⟨⟨_, rfl, AV.sub_refl _⟩, ⟨_, rfl, AV.sub_of_eq (by rw [hn] <;> rfl)⟩, ⟨_, rfl, AV.sub_refl _⟩, ⟨_, rfl, bT (by omega)⟩, trivial⟩ (by rw [hn]; exact trivial))
  ·rw [htn] at *
   exact absurd rfl (hne (by omega) (show star l (k - 1) by assumption))
  ·rw [htn] at *
   have hn := (hsuc.trans (if_pos (show star l k by assumption))).trans (if_neg (fun h => absurd h.2 (by assumption)))
   exact co (k + 1) (by omega) (by omega) (cj ⟨⟨_, rfl, AV.sub_refl _⟩, ⟨_, rfl, AV.sub_of_eq (by rw [hn] <;> rfl)⟩, ⟨_, rfl, AV.sub_refl _⟩, ⟨_, rfl, bT (by omega)⟩, trivial⟩ (by rw [hn]; exact ⟨⟨_, rfl, ap _⟩, trivial⟩))
  ·have hn := (hsuc.trans (if_pos (show star l k by assumption))).trans (if_neg (by omega))
   exact co (k + 1) (by omega) (by omega) (cj ⟨⟨_, rfl, AV.sub_refl _⟩, ⟨_, rfl, AV.sub_of_eq (by rw [hn] <;> rfl)⟩, ⟨_, rfl, AV.sub_refl _⟩, ⟨_, rfl, bT (by omega)⟩, trivial⟩ (by rw [hn]; exact ⟨⟨_, rfl, ap _⟩, trivial⟩))
  ·obtain rfl : k = l.length := by omega
   refine gP rfl ?_
   rw [he]
   exact AV.sub_nilv
 | cons x r =>
  have hp : 0 < (x :: r).length := Nat.zero_lt_succ _
  have hx : ∀ n : Int, 0 ≤ n → n < (x :: r).length → 1 ≤ (x :: r).getD n.toNat 0 ∧ (x :: r).getD n.toNat 0 ≤ k := by
   intro n h1 h2
   refine hb _ ?_
   rw [List.getD_eq_getElem?_getD, List.getElem?_eq_getElem (by omega)]
   exact List.getElem_mem _
  have hx1 := hx ((x :: r).length - 1) (by omega) (by omega)
  (repeat' (first | refine vu (c := .ret) 2 rfl rfl rfl (by simp) (vI_one _).1 (vI_one _).2 ?_ | refine vb rfl rfl rfl rfl rfl rfl rfl rfl rfl rfl rfl (by simp) rfl rfl (by intro y hy; simp at hy; subst hy; rfl) rfl rfl (by simp only [List.length_map, List.length_cons, List.length_nil]; show _ * 8 ≤ _; simp only [List.length_cons] at hg; omega) (by simp only [List.length_map, List.length_cons, List.length_nil]; simp only [List.length_cons] at hg; omega) ?_ | refine bE ?_ | refine b5 ?_ | refine aV rfl ?_ | refine bA ?_ | refine aR rfl rfl rfl rfl ?_ | refine bp rfl rfl rfl rfl ?_ | refine gC rfl rfl rfl rfl rfl rfl ?_ | refine eV rfl rfl rfl rfl rfl rfl (by omega) ?_ | refine fw rfl rfl rfl rfl rfl rfl ?_ | refine de rfl rfl rfl rfl rfl rfl rfl (by omega) ?_ | refine dk rfl rfl rfl rfl rfl rfl rfl (by omega) ?_ | refine cE rfl rfl rfl rfl rfl rfl ?_ | refine jQ rfl rfl rfl (by first | rfl | assumption | exact decide_eq_true (by first | assumption | omega) | exact aP (by first | assumption | omega)) ?_ | refine jB rfl rfl rfl (by first | rfl | assumption | exact decide_eq_false (by first | assumption | omega) | exact aE (by first | assumption | omega)) ?_ | refine jJ rfl rfl rfl (by first | rfl | assumption | exact decide_eq_false (by first | assumption | omega) | exact aE (by first | assumption | omega)) rfl rfl ?_ | refine jT rfl rfl rfl (by first | rfl | assumption | exact decide_eq_true (by first | assumption | omega) | exact aP (by first | assumption | omega)) rfl rfl ?_ | refine fG rfl rfl rfl rfl rfl ?_ | refine cn rfl rfl rfl rfl (by first | rfl | assumption | exact decide_eq_true (by first | assumption | omega) | exact aP (by first | assumption | omega)) rfl ?_ | refine bY rfl rfl rfl rfl (by first | rfl | assumption | exact decide_eq_false (by first | assumption | omega) | exact aE (by first | assumption | omega)) rfl ?_ | refine gV rfl (by first | rfl | assumption | exact decide_eq_true (by first | assumption | omega) | exact aP (by first | assumption | omega)) ?_ | refine gQ rfl (by first | rfl | assumption | exact decide_eq_false (by first | assumption | omega) | exact aE (by first | assumption | omega)) ?_ | refine gD rfl rfl rfl rfl ?_ | refine cB rfl rfl rfl rfl rfl ?_ | refine dH rfl rfl rfl rfl rfl rfl rfl rfl (by omega) ?_ | refine fp rfl rfl rfl rfl rfl rfl ?_ | refine fq rfl rfl rfl rfl rfl rfl rfl ?_ | refine fv rfl rfl rfl rfl rfl rfl rfl ?_ | refine bF rfl rfl rfl rfl rfl rfl rfl rfl rfl (by omega) ?_ | refine aW rfl rfl rfl rfl rfl rfl rfl rfl rfl (by omega) ?_ | refine ao false rfl rfl rfl rfl rfl rfl rfl rfl rfl (by omega) (fun _ => rfl) ?_ | refine ao (0 : Int) rfl rfl rfl rfl rfl rfl rfl rfl rfl (by omega) (fun _ => rfl) ?_ | refine ao ([] : List UInt8) rfl rfl rfl rfl rfl rfl rfl rfl rfl (by omega) (fun _ => rfl) ?_ | refine au false rfl rfl rfl rfl rfl rfl rfl rfl rfl (by omega) (fun _ => rfl) ?_ | refine au (0 : Int) rfl rfl rfl rfl rfl rfl rfl rfl rfl (by omega) (fun _ => rfl) ?_ | refine au ([] : List UInt8) rfl rfl rfl rfl rfl rfl rfl rfl rfl (by omega) (fun _ => rfl) ?_ | refine dF rfl rfl rfl rfl rfl rfl rfl ?_ | refine dC rfl rfl rfl rfl rfl rfl rfl ?_ | refine bw (0 : Int) rfl rfl rfl rfl rfl rfl rfl (by omega) ?_ | refine bw false rfl rfl rfl rfl rfl rfl rfl (by omega) ?_ | refine db rfl rfl rfl rfl rfl rfl rfl rfl (by omega) ?_ | refine bX rfl rfl rfl rfl rfl rfl rfl rfl rfl ?_ | refine ah rfl rfl rfl rfl rfl rfl rfl rfl rfl ?_ | refine bW rfl rfl rfl rfl rfl rfl rfl rfl rfl rfl rfl rfl rfl ?_ | refine gI rfl rfl rfl rfl rfl ?_ | refine dD ?_ | refine dB ?_ | refine aL ?_ | refine aG ?_ | refine aH ?_ | refine ak ?_ | refine aw ?_ | refine ar rfl ?_ | refine noGoto_ret ?_ | refine noGoto_exit ?_ | refine noGoto_normal ?_ | refine cZ ?_ | refine dI ?_ | refine cY ?_ | refine d8 ?_ | refine b9 rfl rfl rfl rfl rfl (by simp only [List.length_append, List.length_cons, List.length_nil] <;> omega) ?_ | refine pb rfl rfl rfl (fun h => ?_) (fun h => ?_) | refine gd_N rfl rfl rfl (fun h => ?_) (fun h => ?_) | refine pS rfl rfl rfl (fun h => ?_) (fun h => ?_) | refine jk rfl (fun h => ?_) (fun h => ?_) | refine js rfl (fun h => ?_) (fun h => ?_) | refine gT rfl (fun h => ?_) (fun h => ?_)))
  ·have hn := hsuc.trans (if_neg (show ¬ star l k by assumption))
   exact co (k + 1) (by omega) (by omega) (cj ⟨⟨_, rfl, AV.sub_refl _⟩, ⟨_, rfl, AV.sub_of_eq (by rw [hn] <;> rfl)⟩, ⟨_, rfl, AV.sub_refl _⟩, ⟨_, rfl, bT (by omega)⟩, trivial⟩ (by rw [hn]; exact ⟨⟨_, rfl, ap _⟩, trivial⟩))
  ·rw [htn] at *
   have hn := (hsuc.trans (if_pos (show star l k by assumption))).trans (if_pos ⟨by omega, show star l (k - 1) by assumption⟩)
   obtain ⟨y, q, hq⟩ : ∃ y q, incLast (x :: r) = y :: q := by
    cases hi : incLast (x :: r) with
    | nil => have := congrArg List.length hi; rw [incLast_length] at this; simp at this
    | cons y q => exact ⟨y, q, rfl⟩
   have hql : (y :: q).length = (x :: r).length := by rw [← hq, incLast_length]
   exact co (k + 1) (by omega) (by omega) (cj ⟨⟨_, rfl, AV.sub_refl _⟩, ⟨_, rfl, AV.sub_of_eq (by rw [hn]; rw [hq]; simp only [outAt, hql])⟩, ⟨_, rfl, AV.sub_refl _⟩, ⟨_, rfl, bT (by omega)⟩, trivial⟩ (by rw [hn]; exact by rw [hq]; exact ⟨⟨_, rfl, fk (by rw [← hq, incLast, show (((x :: r).length : Int) - 1).toNat = (x :: r).length - 1 by omega])⟩, trivial⟩))
  ·rw [htn] at *
   have hn := (hsuc.trans (if_pos (show star l k by assumption))).trans (if_neg (fun h => absurd h.2 (by assumption)))
   exact co (k + 1) (by omega) (by omega) (cj ⟨⟨_, rfl, AV.sub_refl _⟩, ⟨_, rfl, AV.sub_of_eq (by rw [hn]; simp [outAt])⟩, ⟨_, rfl, AV.sub_refl _⟩, ⟨_, rfl, bT (by omega)⟩, trivial⟩ (by rw [hn]; exact ⟨⟨_, rfl, fk (by simp [vI])⟩, trivial⟩))
  ·obtain rfl : k = l.length := by omega
   refine gP rfl ?_
   rw [he]
   exact AV.sub_refl _
end Go.Ab.Glob
end
section
namespace Go.Ab.Glob
open Go.Proofs Go.Ab
attribute [local irreducible] awp d9 aU aF bO AV.sub
set_option maxHeartbeats 1000000 in
theorem rgroups_ok (l : List UInt8) (hl : l.length ≤ 65536) : aF Tryz.prog 48 [vS l] (· = .tuple [.p (vI (rgN l l.length)), .p (vI (rgM l l.length))]) := by
 refine rq good Tryz.func48 rfl rfl rfl fun w0 => ?_
 (repeat (first | refine bE ?_ | refine b5 ?_ | refine aV rfl ?_ | refine bA ?_ | refine aR rfl rfl rfl rfl ?_ | refine bp rfl rfl rfl rfl ?_ | refine gC rfl rfl rfl rfl rfl rfl ?_ | refine eV rfl rfl rfl rfl rfl rfl (by omega) ?_ | refine fw rfl rfl rfl rfl rfl rfl ?_ | refine de rfl rfl rfl rfl rfl rfl rfl (by omega) ?_ | refine dk rfl rfl rfl rfl rfl rfl rfl (by omega) ?_ | refine cE rfl rfl rfl rfl rfl rfl ?_ | refine jQ rfl rfl rfl (by first | rfl | assumption | exact decide_eq_true (by first | assumption | omega) | exact aP (by first | assumption | omega)) ?_ | refine jB rfl rfl rfl (by first | rfl | assumption | exact decide_eq_false (by first | assumption | omega) | exact aE (by first | assumption | omega)) ?_ | refine jJ rfl rfl rfl (by first | rfl | assumption | exact decide_eq_false (by first | assumption | omega) | exact aE (by first | assumption | omega)) rfl rfl ?_ | refine jT rfl rfl rfl (by first | rfl | assumption | exact decide_eq_true (by first | assumption | omega) | exact aP (by first | assumption | omega)) rfl rfl ?_ | refine fG rfl rfl rfl rfl rfl ?_ | refine cn rfl rfl rfl rfl (by first | rfl | assumption | exact decide_eq_true (by first | assumption | omega) | exact aP (by first | assumption | omega)) rfl ?_ | refine bY rfl rfl rfl rfl (by first | rfl | assumption | exact decide_eq_false (by first | assumption | omega) | exact aE (by first | assumption | omega)) rfl ?_ | refine gV rfl (by first | rfl | assumption | exact decide_eq_true (by first | assumption | omega) | exact aP (by first | assumption | omega)) ?_ | refine gQ rfl (by first | rfl | assumption | exact decide_eq_false (by first | assumption | omega) | exact aE (by first | assumption | omega)) ?_ | refine gD rfl rfl rfl rfl ?_ | refine cB rfl rfl rfl rfl rfl ?_ | refine dH rfl rfl rfl rfl rfl rfl rfl rfl (by omega) ?_ | refine fp rfl rfl rfl rfl rfl rfl ?_ | refine fq rfl rfl rfl rfl rfl rfl rfl ?_ | refine fv rfl rfl rfl rfl rfl rfl rfl ?_ | refine bF rfl rfl rfl rfl rfl rfl rfl rfl rfl (by omega) ?_ | refine aW rfl rfl rfl rfl rfl rfl rfl rfl rfl (by omega) ?_ | refine ao false rfl rfl rfl rfl rfl rfl rfl rfl rfl (by omega) (fun _ => rfl) ?_ | refine ao (0 : Int) rfl rfl rfl rfl rfl rfl rfl rfl rfl (by omega) (fun _ => rfl) ?_ | refine ao ([] : List UInt8) rfl rfl rfl rfl rfl rfl rfl rfl rfl (by omega) (fun _ => rfl) ?_ | refine au false rfl rfl rfl rfl rfl rfl rfl rfl rfl (by omega) (fun _ => rfl) ?_ | refine au (0 : Int) rfl rfl rfl rfl rfl rfl rfl rfl rfl (by omega) (fun _ => rfl) ?_ | refine au ([] : List UInt8) rfl rfl rfl rfl rfl rfl rfl rfl rfl (by omega) (fun _ => rfl) ?_ | refine dF rfl rfl rfl rfl rfl rfl rfl ?_ | refine dC rfl rfl rfl rfl rfl rfl rfl ?_ | refine bw (0 : Int) rfl rfl rfl rfl rfl rfl rfl (by omega) ?_ | refine bw false rfl rfl rfl rfl rfl rfl rfl (by omega) ?_ | refine db rfl rfl rfl rfl rfl rfl rfl rfl (by omega) ?_ | refine bX rfl rfl rfl rfl rfl rfl rfl rfl rfl ?_ | refine ah rfl rfl rfl rfl rfl rfl rfl rfl rfl ?_ | refine bW rfl rfl rfl rfl rfl rfl rfl rfl rfl rfl rfl rfl rfl ?_ | refine gI rfl rfl rfl rfl rfl ?_ | refine dD ?_ | refine dB ?_ | refine aL ?_ | refine aG ?_ | refine aH ?_ | refine ak ?_ | refine aw ?_ | refine ar rfl ?_ | refine noGoto_ret ?_ | refine noGoto_exit ?_ | refine noGoto_normal ?_ | refine cZ ?_ | refine dI ?_ | refine cY ?_ | refine d8 ?_ | refine b9 rfl rfl rfl rfl rfl (by simp only [List.length_append, List.length_cons, List.length_nil] <;> omega) ?_))
 refine lz (σ := Nat) (fun k => ⟨[(0, .p (.val (.string (str l)))), (4, .p (.val (.int .i64 (rgN l k)))), (5, .p (.val (.int .i64 (rgM l k)))), (6, .p (.val (.int .i64 (rgR l k)))), (7, .p (.val (.int .i64 (k : Int))))], []⟩)
  (fun k => k ≤ l.length) (fun k => l.length - k) 0 (Nat.zero_le _) (cj ⟨⟨_, rfl, AV.sub_refl _⟩, ⟨_, rfl, AV.sub_refl _⟩, ⟨_, rfl, AV.sub_refl _⟩, ⟨_, rfl, AV.sub_refl _⟩, ⟨_, rfl, AV.sub_refl _⟩, trivial⟩ trivial) ?_
 intro k hk
 have h1 := rgR_pos l k
 have h2 := rgN_bd l k
 have h3 := rgM_bd l k
 have hpos : (0 < rgR l k) ↔ 0 < k ∧ star l (k - 1) := h1.2.2
 have b1 : 0 ≤ rgR l k ∧ rgR l k ≤ k := ⟨h1.1, h1.2.1⟩
 clear h1
 have n1 : rgN l (k + 1) = if star l k then (if 0 < k ∧ star l (k - 1) then rgN l k else rgN l k + 1) else rgN l k := rfl
 have n2 : rgM l (k + 1) = if star l k then (if rgM l k < rgR l k + 1 then rgR l k + 1 else rgM l k) else rgM l k := rfl
 have n3 : rgR l (k + 1) = if star l k then rgR l k + 1 else 0 := rfl
 (repeat' (first | refine bE ?_ | refine b5 ?_ | refine aV rfl ?_ | refine bA ?_ | refine aR rfl rfl rfl rfl ?_ | refine bp rfl rfl rfl rfl ?_ | refine gC rfl rfl rfl rfl rfl rfl ?_ | refine eV rfl rfl rfl rfl rfl rfl (by omega) ?_ | refine fw rfl rfl rfl rfl rfl rfl ?_ | refine de rfl rfl rfl rfl rfl rfl rfl (by omega) ?_ | refine dk rfl rfl rfl rfl rfl rfl rfl (by omega) ?_ | refine cE rfl rfl rfl rfl rfl rfl ?_ | refine jQ rfl rfl rfl (by first | rfl | assumption | exact decide_eq_true (by first | assumption | omega) | exact aP (by first | assumption | omega)) ?_ | refine jB rfl rfl rfl (by first | rfl | assumption | exact decide_eq_false (by first | assumption | omega) | exact aE (by first | assumption | omega)) ?_ | refine jJ rfl rfl rfl (by first | rfl | assumption | exact decide_eq_false (by first | assumption | omega) | exact aE (by first | assumption | omega)) rfl rfl ?_ | refine jT rfl rfl rfl (by first | rfl | assumption | exact decide_eq_true (by first | assumption | omega) | exact aP (by first | assumption | omega)) rfl rfl ?_ | refine fG rfl rfl rfl rfl rfl ?_ | refine cn rfl rfl rfl rfl (by first | rfl | assumption | exact decide_eq_true (by first | assumption | omega) | exact aP (by first | assumption | omega)) rfl ?_ | refine bY rfl rfl rfl rfl (by first | rfl | assumption | exact decide_eq_false (by first | assumption | omega) | exact aE (by first | assumption | omega)) rfl ?_ | refine gV rfl (by first | rfl | assumption | exact decide_eq_true (by first | assumption | omega) | exact aP (by first | assumption | omega)) ?_ | refine gQ rfl (by first | rfl | assumption | exact decide_eq_false (by first | assumption | omega) | exact aE (by first | assumption | omega)) ?_ | refine gD rfl rfl rfl rfl ?_ | refine cB rfl rfl rfl rfl rfl ?_ | refine dH rfl rfl rfl rfl rfl rfl rfl rfl (by omega) ?_ | refine fp rfl rfl rfl rfl rfl rfl ?_ | refine fq rfl rfl rfl rfl rfl rfl rfl ?_ | refine fv rfl rfl rfl rfl rfl rfl rfl ?_ | refine bF rfl rfl rfl rfl rfl rfl rfl rfl rfl (by omega) ?_ | refine aW rfl rfl rfl rfl rfl rfl rfl rfl rfl (by omega) ?_ | refine ao false rfl rfl rfl rfl rfl rfl rfl rfl rfl (by omega) (fun _ => rfl) ?_ | refine ao (0 : Int) rfl rfl rfl rfl rfl rfl rfl rfl rfl (by omega) (fun _ => rfl) ?_ | refine ao ([] : List UInt8) rfl rfl rfl rfl rfl rfl rfl rfl rfl (by omega) (fun _ => rfl) ?_ | refine au false rfl rfl rfl rfl rfl rfl rfl rfl rfl (by omega) (fun _ => rfl) ?_ | refine au (0 : Int) rfl rfl rfl rfl rfl rfl rfl rfl rfl (by omega) (fun _ => rfl) ?_ | refine au ([] : List UInt8) rfl rfl rfl rfl rfl rfl rfl rfl rfl (by omega) (fun _ => rfl) ?_ | refine dF rfl rfl rfl rfl rfl rfl rfl ?_ | refine dC rfl rfl rfl rfl rfl rfl rfl ?_ | refine bw (0 : Int) rfl rfl rfl rfl rfl rfl rfl (by omega) ?_ | refine bw false rfl rfl rfl rfl rfl rfl rfl (by omega) ?_ | refine db rfl rfl rfl rfl rfl rfl rfl rfl (by omega) ?_ | refine bX rfl rfl rfl rfl rfl rfl rfl rfl rfl ?_ | refine ah rfl rfl rfl rfl rfl rfl rfl rfl rfl ?_ | refine bW rfl rfl rfl rfl rfl rfl rfl rfl rfl rfl rfl rfl rfl ?_ | refine gI rfl rfl rfl rfl rfl ?_ | refine dD ?_ | refine dB ?_ | refine aL ?_ | refine aG ?_ | refine aH ?_ | refine ak ?_ | refine aw ?_ | refine ar rfl ?_ | refine noGoto_ret ?_ | refine noGoto_exit ?_ | refine noGoto_normal ?_ | refine cZ ?_ | refine dI ?_ | refine cY ?_ | refine d8 ?_ | refine b9 rfl rfl rfl rfl rfl (by simp only [List.length_append, List.length_cons, List.length_nil] <;> omega) ?_ | refine pb rfl rfl rfl (fun h => ?_) (fun h => ?_) | refine gd_N rfl rfl rfl (fun h => ?_) (fun h => ?_) | refine pS rfl rfl rfl (fun h => ?_) (fun h => ?_) | refine jk rfl (fun h => ?_) (fun h => ?_) | refine js rfl (fun h => ?_) (fun h => ?_) | refine gT rfl (fun h => ?_) (fun h => ?_)))
 ·have hs : ¬ star l k := by assumption
  rw [if_neg hs] at n1 n2 n3
  exact co (k + 1) (by omega) (by omega) (cj ⟨⟨_, rfl, AV.sub_refl _⟩, ⟨_, rfl, bT n1.symm⟩, ⟨_, rfl, bT n2.symm⟩, ⟨_, rfl, bT n3.symm⟩, ⟨_, rfl, bT (by omega)⟩, trivial⟩ trivial)
 ·have hs : star l k := by assumption
  rw [if_pos hs] at n1 n2 n3
  have h0 : rgR l k + 1 = 1 := by assumption
  rw [if_neg (fun h => by have := hpos.2 h; omega)] at n1
  exact co (k + 1) (by omega) (by omega) (cj ⟨⟨_, rfl, AV.sub_refl _⟩, ⟨_, rfl, bT n1.symm⟩, ⟨_, rfl, bT n2.symm⟩, ⟨_, rfl, bT n3.symm⟩, ⟨_, rfl, bT (by omega)⟩, trivial⟩ trivial)
 ·have hs : star l k := by assumption
  rw [if_pos hs] at n1 n2 n3
  have h0 : ¬ rgR l k + 1 = 1 := by assumption
  rw [if_pos (hpos.1 (by omega))] at n1
  exact co (k + 1) (by omega) (by omega) (cj ⟨⟨_, rfl, AV.sub_refl _⟩, ⟨_, rfl, bT n1.symm⟩, ⟨_, rfl, bT n2.symm⟩, ⟨_, rfl, bT n3.symm⟩, ⟨_, rfl, bT (by omega)⟩, trivial⟩ trivial)
 ·obtain rfl : k = l.length := by omega
  exact gP rfl (AV.sub_refl _)
set_option maxHeartbeats 1000000 in
theorem rcheck_ok (l : List UInt8) (hl : l.length ≤ 65536) : aF Tryz.prog 29 [vS l] (· = .p (vI (rcheck l))) := by
 refine rq good Tryz.func29 rfl rfl rfl fun w0 => ?_
 (repeat' (first | refine bj (rgroups_ok l hl) rfl rfl rfl rfl ⟨AV.sub_refl _, trivial⟩ Tryz.call48 rfl ?_ | refine bE ?_ | refine b5 ?_ | refine aV rfl ?_ | refine bA ?_ | refine aR rfl rfl rfl rfl ?_ | refine bp rfl rfl rfl rfl ?_ | refine gC rfl rfl rfl rfl rfl rfl ?_ | refine eV rfl rfl rfl rfl rfl rfl (by omega) ?_ | refine fw rfl rfl rfl rfl rfl rfl ?_ | refine de rfl rfl rfl rfl rfl rfl rfl (by omega) ?_ | refine dk rfl rfl rfl rfl rfl rfl rfl (by omega) ?_ | refine cE rfl rfl rfl rfl rfl rfl ?_ | refine jQ rfl rfl rfl (by first | rfl | assumption | exact decide_eq_true (by first | assumption | omega) | exact aP (by first | assumption | omega)) ?_ | refine jB rfl rfl rfl (by first | rfl | assumption | exact decide_eq_false (by first | assumption | omega) | exact aE (by first | assumption | omega)) ?_ | refine jJ rfl rfl rfl (by first | rfl | assumption | exact decide_eq_false (by first | assumption | omega) | exact aE (by first | assumption | omega)) rfl rfl ?_ | refine jT rfl rfl rfl (by first | rfl | assumption | exact decide_eq_true (by first | assumption | omega) | exact aP (by first | assumption | omega)) rfl rfl ?_ | refine fG rfl rfl rfl rfl rfl ?_ | refine cn rfl rfl rfl rfl (by first | rfl | assumption | exact decide_eq_true (by first | assumption | omega) | exact aP (by first | assumption | omega)) rfl ?_ | refine bY rfl rfl rfl rfl (by first | rfl | assumption | exact decide_eq_false (by first | assumption | omega) | exact aE (by first | assumption | omega)) rfl ?_ | refine gV rfl (by first | rfl | assumption | exact decide_eq_true (by first | assumption | omega) | exact aP (by first | assumption | omega)) ?_ | refine gQ rfl (by first | rfl | assumption | exact decide_eq_false (by first | assumption | omega) | exact aE (by first | assumption | omega)) ?_ | refine gD rfl rfl rfl rfl ?_ | refine cB rfl rfl rfl rfl rfl ?_ | refine dH rfl rfl rfl rfl rfl rfl rfl rfl (by omega) ?_ | refine fp rfl rfl rfl rfl rfl rfl ?_ | refine fq rfl rfl rfl rfl rfl rfl rfl ?_ | refine fv rfl rfl rfl rfl rfl rfl rfl ?_ | refine bF rfl rfl rfl rfl rfl rfl rfl rfl rfl (by omega) ?_ | refine aW rfl rfl rfl rfl rfl rfl rfl rfl rfl (by omega) ?_ | refine ao false rfl rfl rfl rfl rfl rfl rfl rfl rfl (by omega) (fun _ => rfl) ?_ | refine ao (0 : Int) rfl rfl rfl rfl rfl rfl rfl rfl rfl (by omega) (fun _ => rfl) ?_ | refine ao ([] : List UInt8) rfl rfl rfl rfl rfl rfl rfl rfl rfl (by omega) (fun _ => rfl) ?_ | refine au false rfl rfl rfl rfl rfl rfl rfl rfl rfl (by omega) (fun _ => rfl) ?_ | refine au (0 : Int) rfl rfl rfl rfl rfl rfl rfl rfl rfl (by omega) (fun _ => rfl) ?_ | refine au ([] : List UInt8) rfl rfl rfl rfl rfl rfl rfl rfl rfl (by omega) (fun _ => rfl) ?_ | refine dF rfl rfl rfl rfl rfl rfl rfl ?_ | refine dC rfl rfl rfl rfl rfl rfl rfl ?_ | refine bw (0 : Int) rfl rfl rfl rfl rfl rfl rfl (by omega) ?_ | refine bw false rfl rfl rfl rfl rfl rfl rfl (by omega) ?_ | refine db rfl rfl rfl rfl rfl rfl rfl rfl (by omega) ?_ | refine bX rfl rfl rfl rfl rfl rfl rfl rfl rfl ?_ | refine ah rfl rfl rfl rfl rfl rfl rfl rfl rfl ?_ | refine bW rfl rfl rfl rfl rfl rfl rfl rfl rfl rfl rfl rfl rfl ?_ | refine gI rfl rfl rfl rfl rfl ?_ | refine dD ?_ | refine dB ?_ | refine aL ?_ | refine aG ?_ | refine aH ?_ | refine ak ?_ | refine aw ?_ | refine ar rfl ?_ | refine noGoto_ret ?_ | refine noGoto_exit ?_ | refine noGoto_normal ?_ | refine cZ ?_ | refine dI ?_ | refine cY ?_ | refine d8 ?_ | refine b9 rfl rfl rfl rfl rfl (by simp only [List.length_append, List.length_cons, List.length_nil] <;> omega) ?_ | refine pb rfl rfl rfl (fun h => ?_) (fun h => ?_) | refine gd_N rfl rfl rfl (fun h => ?_) (fun h => ?_) | refine pS rfl rfl rfl (fun h => ?_) (fun h => ?_) | refine jk rfl (fun h => ?_) (fun h => ?_) | refine js rfl (fun h => ?_) (fun h => ?_) | refine gT rfl (fun h => ?_) (fun h => ?_)))
 all_goals (refine gP rfl ?_; refine bT ?_; unfold rcheck)
 ·rw [if_pos (by assumption)]
 ·rw [if_neg (by assumption), if_pos (by assumption)]
 ·rw [if_neg (by assumption), if_neg (by assumption), if_pos (.inl (by assumption))]
 ·rw [if_neg (by assumption), if_neg (by assumption), if_pos (.inr (by assumption))]
 ·rw [if_neg (by assumption), if_neg (by assumption), if_neg (fun h => h.elim (by assumption) (by assumption))]
set_option maxHeartbeats 1000000 in
theorem check_ok (l : List UInt8) (hl : l.length ≤ 65536) : aF Tryz.prog 28 [vS l] (· = .p (vI (check l))) := by
 refine rq good Tryz.func28 rfl rfl rfl fun w0 => ?_
 have hg := gr_len l l.length
 generalize hes : gr l l.length = es at hg
 have hc : check l = if 1024 < (l.length : Int) then 3 else if 16 < (es.length : Int) then 14 else if es.any (fun x => decide (2 < x)) then 2 else if l = [] then 2 else 0 := by rw [← hes]; rfl
 have hgo := groups_ok l hl
 rw [hes] at hgo
 (repeat' (first | refine bj hgo rfl rfl rfl rfl ⟨AV.sub_refl _, trivial⟩ Tryz.call47 rfl ?_ | refine bE ?_ | refine b5 ?_ | refine aV rfl ?_ | refine bA ?_ | refine aR rfl rfl rfl rfl ?_ | refine bp rfl rfl rfl rfl ?_ | refine gC rfl rfl rfl rfl rfl rfl ?_ | refine eV rfl rfl rfl rfl rfl rfl (by omega) ?_ | refine fw rfl rfl rfl rfl rfl rfl ?_ | refine de rfl rfl rfl rfl rfl rfl rfl (by omega) ?_ | refine dk rfl rfl rfl rfl rfl rfl rfl (by omega) ?_ | refine cE rfl rfl rfl rfl rfl rfl ?_ | refine jQ rfl rfl rfl (by first | rfl | assumption | exact decide_eq_true (by first | assumption | omega) | exact aP (by first | assumption | omega)) ?_ | refine jB rfl rfl rfl (by first | rfl | assumption | exact decide_eq_false (by first | assumption | omega) | exact aE (by first | assumption | omega)) ?_ | refine jJ rfl rfl rfl (by first | rfl | assumption | exact decide_eq_false (by first | assumption | omega) | exact aE (by first | assumption | omega)) rfl rfl ?_ | refine jT rfl rfl rfl (by first | rfl | assumption | exact decide_eq_true (by first | assumption | omega) | exact aP (by first | assumption | omega)) rfl rfl ?_ | refine fG rfl rfl rfl rfl rfl ?_ | refine cn rfl rfl rfl rfl (by first | rfl | assumption | exact decide_eq_true (by first | assumption | omega) | exact aP (by first | assumption | omega)) rfl ?_ | refine bY rfl rfl rfl rfl (by first | rfl | assumption | exact decide_eq_false (by first | assumption | omega) | exact aE (by first | assumption | omega)) rfl ?_ | refine gV rfl (by first | rfl | assumption | exact decide_eq_true (by first | assumption | omega) | exact aP (by first | assumption | omega)) ?_ | refine gQ rfl (by first | rfl | assumption | exact decide_eq_false (by first | assumption | omega) | exact aE (by first | assumption | omega)) ?_ | refine gD rfl rfl rfl rfl ?_ | refine cB rfl rfl rfl rfl rfl ?_ | refine dH rfl rfl rfl rfl rfl rfl rfl rfl (by omega) ?_ | refine fp rfl rfl rfl rfl rfl rfl ?_ | refine fq rfl rfl rfl rfl rfl rfl rfl ?_ | refine fv rfl rfl rfl rfl rfl rfl rfl ?_ | refine bF rfl rfl rfl rfl rfl rfl rfl rfl rfl (by omega) ?_ | refine aW rfl rfl rfl rfl rfl rfl rfl rfl rfl (by omega) ?_ | refine ao false rfl rfl rfl rfl rfl rfl rfl rfl rfl (by omega) (fun _ => rfl) ?_ | refine ao (0 : Int) rfl rfl rfl rfl rfl rfl rfl rfl rfl (by omega) (fun _ => rfl) ?_ | refine ao ([] : List UInt8) rfl rfl rfl rfl rfl rfl rfl rfl rfl (by omega) (fun _ => rfl) ?_ | refine au false rfl rfl rfl rfl rfl rfl rfl rfl rfl (by omega) (fun _ => rfl) ?_ | refine au (0 : Int) rfl rfl rfl rfl rfl rfl rfl rfl rfl (by omega) (fun _ => rfl) ?_ | refine au ([] : List UInt8) rfl rfl rfl rfl rfl rfl rfl rfl rfl (by omega) (fun _ => rfl) ?_ | refine dF rfl rfl rfl rfl rfl rfl rfl ?_ | refine dC rfl rfl rfl rfl rfl rfl rfl ?_ | refine bw (0 : Int) rfl rfl rfl rfl rfl rfl rfl (by omega) ?_ | refine bw false rfl rfl rfl rfl rfl rfl rfl (by omega) ?_ | refine db rfl rfl rfl rfl rfl rfl rfl rfl (by omega) ?_ | refine bX rfl rfl rfl rfl rfl rfl rfl rfl rfl ?_ | refine ah rfl rfl rfl rfl rfl rfl rfl rfl rfl ?_ | refine bW rfl rfl rfl rfl rfl rfl rfl rfl rfl rfl rfl rfl rfl ?_ | refine gI rfl rfl rfl rfl rfl ?_ | refine dD ?_ | refine dB ?_ | refine aL ?_ | refine aG ?_ | refine aH ?_ | refine ak ?_ | refine aw ?_ | refine ar rfl ?_ | refine noGoto_ret ?_ | refine noGoto_exit ?_ | refine noGoto_normal ?_ | refine cZ ?_ | refine dI ?_ | refine cY ?_ | refine d8 ?_ | refine b9 rfl rfl rfl rfl rfl (by simp only [List.length_append, List.length_cons, List.length_nil] <;> omega) ?_ | refine pb rfl rfl rfl (fun h => ?_) (fun h => ?_) | refine gd_N rfl rfl rfl (fun h => ?_) (fun h => ?_) | refine pS rfl rfl rfl (fun h => ?_) (fun h => ?_) | refine jk rfl (fun h => ?_) (fun h => ?_) | refine js rfl (fun h => ?_) (fun h => ?_) | refine gT rfl (fun h => ?_) (fun h => ?_)))
 ·refine gP rfl ?_; refine bT ?_; rw [hc, if_pos (by assumption)]
 ·refine gP rfl ?_; refine bT ?_; rw [hc, if_neg (by assumption), if_pos (by assumption)]
 rw [if_neg (by assumption), if_neg (by assumption)] at hc
 refine lz (σ := Nat) (fun k => ⟨[(0, .p (.val (.string (str l)))), (14, .p (.slice (es.map vI))), (15, .p (.val (.int .i64 (es.length : Int)))), (16, .p (.val (.int .i64 (k : Int))))], []⟩)
  (fun k => k ≤ es.length ∧ ∀ j, j < k → ¬ 2 < es.getD j 0) (fun k => es.length - k) 0 ⟨Nat.zero_le _, fun j h => absurd h (Nat.not_lt_zero j)⟩ (cj ⟨⟨_, rfl, AV.sub_refl _⟩, ⟨_, rfl, AV.sub_refl _⟩, ⟨_, rfl, AV.sub_refl _⟩, ⟨_, rfl, AV.sub_refl _⟩, trivial⟩ trivial) ?_
 rintro k ⟨hk, hj⟩
 (repeat' (first | refine bE ?_ | refine b5 ?_ | refine aV rfl ?_ | refine bA ?_ | refine aR rfl rfl rfl rfl ?_ | refine bp rfl rfl rfl rfl ?_ | refine gC rfl rfl rfl rfl rfl rfl ?_ | refine eV rfl rfl rfl rfl rfl rfl (by omega) ?_ | refine fw rfl rfl rfl rfl rfl rfl ?_ | refine de rfl rfl rfl rfl rfl rfl rfl (by omega) ?_ | refine dk rfl rfl rfl rfl rfl rfl rfl (by omega) ?_ | refine cE rfl rfl rfl rfl rfl rfl ?_ | refine jQ rfl rfl rfl (by first | rfl | assumption | exact decide_eq_true (by first | assumption | omega) | exact aP (by first | assumption | omega)) ?_ | refine jB rfl rfl rfl (by first | rfl | assumption | exact decide_eq_false (by first | assumption | omega) | exact aE (by first | assumption | omega)) ?_ | refine jJ rfl rfl rfl (by first | rfl | assumption | exact decide_eq_false (by first | assumption | omega) | exact aE (by first | assumption | omega)) rfl rfl ?_ | refine jT rfl rfl rfl (by first | rfl | assumption | exact decide_eq_true (by first | assumption | omega) | exact aP (by first | assumption | omega)) rfl rfl ?_ | refine fG rfl rfl rfl rfl rfl ?_ | refine cn rfl rfl rfl rfl (by first | rfl | assumption | exact decide_eq_true (by first | assumption | omega) | exact aP (by first | assumption | omega)) rfl ?_ | refine bY rfl rfl rfl rfl (by first | rfl | assumption | exact decide_eq_false (by first | assumption | omega) | exact aE (by first | assumption | omega)) rfl ?_ | refine gV rfl (by first | rfl | assumption | exact decide_eq_true (by first | assumption | omega) | exact aP (by first | assumption | omega)) ?_ | refine gQ rfl (by first | rfl | assumption | exact decide_eq_false (by first | assumption | omega) | exact aE (by first | assumption | omega)) ?_ | refine gD rfl rfl rfl rfl ?_ | refine cB rfl rfl rfl rfl rfl ?_ | refine dH rfl rfl rfl rfl rfl rfl rfl rfl (by omega) ?_ | refine fp rfl rfl rfl rfl rfl rfl ?_ | refine fq rfl rfl rfl rfl rfl rfl rfl ?_ | refine fv rfl rfl rfl rfl rfl rfl rfl ?_ | refine bF rfl rfl rfl rfl rfl rfl rfl rfl rfl (by omega) ?_ | refine aW rfl rfl rfl rfl rfl rfl rfl rfl rfl (by omega) ?_ | refine ao false rfl rfl rfl rfl rfl rfl rfl rfl rfl (by omega) (fun _ => rfl) ?_ | refine ao (0 : Int) rfl rfl rfl rfl rfl rfl rfl rfl rfl (by omega) (fun _ => rfl) ?_ | refine ao ([] : List UInt8) rfl rfl rfl rfl rfl rfl rfl rfl rfl (by omega) (fun _ => rfl) ?_ | refine au false rfl rfl rfl rfl rfl rfl rfl rfl rfl (by omega) (fun _ => rfl) ?_ | refine au (0 : Int) rfl rfl rfl rfl rfl rfl rfl rfl rfl (by omega) (fun _ => rfl) ?_ | refine au ([] : List UInt8) rfl rfl rfl rfl rfl rfl rfl rfl rfl (by omega) (fun _ => rfl) ?_ | refine dF rfl rfl rfl rfl rfl rfl rfl ?_ | refine dC rfl rfl rfl rfl rfl rfl rfl ?_ | refine bw (0 : Int) rfl rfl rfl rfl rfl rfl rfl (by omega) ?_ | refine bw false rfl rfl rfl rfl rfl rfl rfl (by omega) ?_ | refine db rfl rfl rfl rfl rfl rfl rfl rfl (by omega) ?_ | refine bX rfl rfl rfl rfl rfl rfl rfl rfl rfl ?_ | refine ah rfl rfl rfl rfl rfl rfl rfl rfl rfl ?_ | refine bW rfl rfl rfl rfl rfl rfl rfl rfl rfl rfl rfl rfl rfl ?_ | refine gI rfl rfl rfl rfl rfl ?_ | refine dD ?_ | refine dB ?_ | refine aL ?_ | refine aG ?_ | refine aH ?_ | refine ak ?_ | refine aw ?_ | refine ar rfl ?_ | refine noGoto_ret ?_ | refine noGoto_exit ?_ | refine noGoto_normal ?_ | refine cZ ?_ | refine dI ?_ | refine cY ?_ | refine d8 ?_ | refine b9 rfl rfl rfl rfl rfl (by simp only [List.length_append, List.length_cons, List.length_nil] <;> omega) ?_ | refine pb rfl rfl rfl (fun h => ?_) (fun h => ?_) | refine gd_N rfl rfl rfl (fun h => ?_) (fun h => ?_) | refine pS rfl rfl rfl (fun h => ?_) (fun h => ?_) | refine jk rfl (fun h => ?_) (fun h => ?_) | refine js rfl (fun h => ?_) (fun h => ?_) | refine gT rfl (fun h => ?_) (fun h => ?_)))
 ·have h2 : 2 < es.getD k 0 := by assumption
  have h3 : es.any (fun x => decide (2 < x)) = true := List.any_eq_true.2 ⟨es.getD k 0, by rw [List.getD_eq_getElem?_getD, List.getElem?_eq_getElem (by omega)]; exact List.getElem_mem _, decide_eq_true h2⟩
  refine gP rfl ?_; refine bT ?_; rw [hc, if_pos h3]
 ·have h2 : ¬ 2 < es.getD k 0 := by assumption
  refine co (k + 1) ?_ (by omega) (cj ⟨⟨_, rfl, AV.sub_refl _⟩, ⟨_, rfl, AV.sub_refl _⟩, ⟨_, rfl, AV.sub_refl _⟩, ⟨_, rfl, bT (by omega)⟩, trivial⟩ trivial)
  refine ⟨by omega, fun j h => ?_⟩
  by_cases e : j = k
  ·subst e; exact h2
  ·exact hj j (by omega)
 all_goals
  have h3 : ¬ es.any (fun x => decide (2 < x)) = true := fun h => by
   obtain ⟨x, hx, hd⟩ := List.any_eq_true.1 h
   obtain ⟨j, hjl, rfl⟩ := List.getElem_of_mem hx
   have := hj j (by omega)
   rw [List.getD_eq_getElem?_getD, List.getElem?_eq_getElem hjl] at this
   exact this (of_decide_eq_true hd)
  rw [if_neg h3] at hc
 ·refine gP rfl ?_; refine bT ?_; rw [hc, if_pos (by assumption)]
 ·refine gP rfl ?_; refine bT ?_; rw [hc, if_neg (by assumption)]
end Go.Ab.Glob
end
section
namespace Go.Ab.Glob
open Go.Proofs Go.Ab
attribute [local irreducible] awp d9 aU aF bO AV.sub
set_option maxHeartbeats 1000000 in
theorem spread_ok (s : List UInt8) (hG : Bool) (r : List Bool) (hs : s.length ≤ 65536) (hr : r.length = s.length + 1) :
  bO Tryz.prog 69 [.arr M1 1 0 r.length, .p (vS s), .p (vB hG)] [(M1, (r.map vB).map .p)] (fun x y => x = .tuple [] ∧ y = [(M1, ((spr s hG r s.length).map vB).map .p)]) := by
 refine mN good [] [M1] Tryz.func69 rfl (Nat.le_of_ble_eq_true rfl) rfl rfl rfl fun w0 F => ?_
 (repeat (first | refine bE ?_ | refine b5 ?_ | refine aV rfl ?_ | refine bA ?_ | refine aR rfl rfl rfl rfl ?_ | refine bp rfl rfl rfl rfl ?_ | refine gC rfl rfl rfl rfl rfl rfl ?_ | refine eV rfl rfl rfl rfl rfl rfl (by omega) ?_ | refine fw rfl rfl rfl rfl rfl rfl ?_ | refine de rfl rfl rfl rfl rfl rfl rfl (by omega) ?_ | refine dk rfl rfl rfl rfl rfl rfl rfl (by omega) ?_ | refine cE rfl rfl rfl rfl rfl rfl ?_ | refine jQ rfl rfl rfl (by first | rfl | assumption | exact decide_eq_true (by first | assumption | omega) | exact aP (by first | assumption | omega)) ?_ | refine jB rfl rfl rfl (by first | rfl | assumption | exact decide_eq_false (by first | assumption | omega) | exact aE (by first | assumption | omega)) ?_ | refine jJ rfl rfl rfl (by first | rfl | assumption | exact decide_eq_false (by first | assumption | omega) | exact aE (by first | assumption | omega)) rfl rfl ?_ | refine jT rfl rfl rfl (by first | rfl | assumption | exact decide_eq_true (by first | assumption | omega) | exact aP (by first | assumption | omega)) rfl rfl ?_ | refine fG rfl rfl rfl rfl rfl ?_ | refine cn rfl rfl rfl rfl (by first | rfl | assumption | exact decide_eq_true (by first | assumption | omega) | exact aP (by first | assumption | omega)) rfl ?_ | refine bY rfl rfl rfl rfl (by first | rfl | assumption | exact decide_eq_false (by first | assumption | omega) | exact aE (by first | assumption | omega)) rfl ?_ | refine gV rfl (by first | rfl | assumption | exact decide_eq_true (by first | assumption | omega) | exact aP (by first | assumption | omega)) ?_ | refine gQ rfl (by first | rfl | assumption | exact decide_eq_false (by first | assumption | omega) | exact aE (by first | assumption | omega)) ?_ | refine gD rfl rfl rfl rfl ?_ | refine cB rfl rfl rfl rfl rfl ?_ | refine dH rfl rfl rfl rfl rfl rfl rfl rfl (by omega) ?_ | refine fp rfl rfl rfl rfl rfl rfl ?_ | refine fq rfl rfl rfl rfl rfl rfl rfl ?_ | refine fv rfl rfl rfl rfl rfl rfl rfl ?_ | refine bF rfl rfl rfl rfl rfl rfl rfl rfl rfl (by omega) ?_ | refine aW rfl rfl rfl rfl rfl rfl rfl rfl rfl (by omega) ?_ | refine ao false rfl rfl rfl rfl rfl rfl rfl rfl rfl (by omega) (fun _ => rfl) ?_ | refine ao (0 : Int) rfl rfl rfl rfl rfl rfl rfl rfl rfl (by omega) (fun _ => rfl) ?_ | refine ao ([] : List UInt8) rfl rfl rfl rfl rfl rfl rfl rfl rfl (by omega) (fun _ => rfl) ?_ | refine au false rfl rfl rfl rfl rfl rfl rfl rfl rfl (by omega) (fun _ => rfl) ?_ | refine au (0 : Int) rfl rfl rfl rfl rfl rfl rfl rfl rfl (by omega) (fun _ => rfl) ?_ | refine au ([] : List UInt8) rfl rfl rfl rfl rfl rfl rfl rfl rfl (by omega) (fun _ => rfl) ?_ | refine dF rfl rfl rfl rfl rfl rfl rfl ?_ | refine dC rfl rfl rfl rfl rfl rfl rfl ?_ | refine bw (0 : Int) rfl rfl rfl rfl rfl rfl rfl (by omega) ?_ | refine bw false rfl rfl rfl rfl rfl rfl rfl (by omega) ?_ | refine db rfl rfl rfl rfl rfl rfl rfl rfl (by omega) ?_ | refine bX rfl rfl rfl rfl rfl rfl rfl rfl rfl ?_ | refine ah rfl rfl rfl rfl rfl rfl rfl rfl rfl ?_ | refine bW rfl rfl rfl rfl rfl rfl rfl rfl rfl rfl rfl rfl rfl ?_ | refine gI rfl rfl rfl rfl rfl ?_ | refine dD ?_ | refine dB ?_ | refine aL ?_ | refine aG ?_ | refine aH ?_ | refine ak ?_ | refine aw ?_ | refine ar rfl ?_ | refine noGoto_ret ?_ | refine noGoto_exit ?_ | refine noGoto_normal ?_ | refine cZ ?_ | refine dI ?_ | refine cY ?_ | refine d8 ?_ | refine b9 rfl rfl rfl rfl rfl (by simp only [List.length_append, List.length_cons, List.length_nil] <;> omega) ?_))
 refine lz (σ := Nat) (fun k => ⟨[(0, .arr M1 1 0 r.length), (1, .p (.val (.string (str s)))), (2, .p (.val (.bool hG))), (8, .p (.val (.int .i64 (s.length : Int)))), (9, .p (.val (.int .i64 (k : Int))))], [(M1, ((spr s hG r k).map vB).map .p)]⟩)
  (fun k => k ≤ s.length) (fun k => s.length - k) 0 (Nat.zero_le _) (cj ⟨⟨_, rfl, AV.sub_refl _⟩, ⟨_, rfl, AV.sub_refl _⟩, ⟨_, rfl, AV.sub_refl _⟩, ⟨_, rfl, AV.sub_refl _⟩, ⟨_, rfl, AV.sub_refl _⟩, trivial⟩ ⟨⟨_, rfl, ap _⟩, trivial⟩) ?_
 intro k hk
 have hl := spr_len s hG r k
 have hsuc : spr s hG r (k + 1) = if (spr s hG r k).getD k false = true ∧ (hG = true ∨ ¬ ((s.getD k 0).toNat : Int) = 46) then (spr s hG r k).set (k + 1) true else spr s hG r k := rfl
 generalize he : spr s hG r k = q at *
 (repeat' (first | refine bE ?_ | refine b5 ?_ | refine aV rfl ?_ | refine bA ?_ | refine aR rfl rfl rfl rfl ?_ | refine bp rfl rfl rfl rfl ?_ | refine gC rfl rfl rfl rfl rfl rfl ?_ | refine eV rfl rfl rfl rfl rfl rfl (by omega) ?_ | refine fw rfl rfl rfl rfl rfl rfl ?_ | refine de rfl rfl rfl rfl rfl rfl rfl (by omega) ?_ | refine dk rfl rfl rfl rfl rfl rfl rfl (by omega) ?_ | refine cE rfl rfl rfl rfl rfl rfl ?_ | refine jQ rfl rfl rfl (by first | rfl | assumption | exact decide_eq_true (by first | assumption | omega) | exact aP (by first | assumption | omega)) ?_ | refine jB rfl rfl rfl (by first | rfl | assumption | exact decide_eq_false (by first | assumption | omega) | exact aE (by first | assumption | omega)) ?_ | refine jJ rfl rfl rfl (by first | rfl | assumption | exact decide_eq_false (by first | assumption | omega) | exact aE (by first | assumption | omega)) rfl rfl ?_ | refine jT rfl rfl rfl (by first | rfl | assumption | exact decide_eq_true (by first | assumption | omega) | exact aP (by first | assumption | omega)) rfl rfl ?_ | refine fG rfl rfl rfl rfl rfl ?_ | refine cn rfl rfl rfl rfl (by first | rfl | assumption | exact decide_eq_true (by first | assumption | omega) | exact aP (by first | assumption | omega)) rfl ?_ | refine bY rfl rfl rfl rfl (by first | rfl | assumption | exact decide_eq_false (by first | assumption | omega) | exact aE (by first | assumption | omega)) rfl ?_ | refine gV rfl (by first | rfl | assumption | exact decide_eq_true (by first | assumption | omega) | exact aP (by first | assumption | omega)) ?_ | refine gQ rfl (by first | rfl | assumption | exact decide_eq_false (by first | assumption | omega) | exact aE (by first | assumption | omega)) ?_ | refine gD rfl rfl rfl rfl ?_ | refine cB rfl rfl rfl rfl rfl ?_ | refine dH rfl rfl rfl rfl rfl rfl rfl rfl (by omega) ?_ | refine fp rfl rfl rfl rfl rfl rfl ?_ | refine fq rfl rfl rfl rfl rfl rfl rfl ?_ | refine fv rfl rfl rfl rfl rfl rfl rfl ?_ | refine bF rfl rfl rfl rfl rfl rfl rfl rfl rfl (by omega) ?_ | refine aW rfl rfl rfl rfl rfl rfl rfl rfl rfl (by omega) ?_ | refine ao false rfl rfl rfl rfl rfl rfl rfl rfl rfl (by omega) (fun _ => rfl) ?_ | refine ao (0 : Int) rfl rfl rfl rfl rfl rfl rfl rfl rfl (by omega) (fun _ => rfl) ?_ | refine ao ([] : List UInt8) rfl rfl rfl rfl rfl rfl rfl rfl rfl (by omega) (fun _ => rfl) ?_ | refine au false rfl rfl rfl rfl rfl rfl rfl rfl rfl (by omega) (fun _ => rfl) ?_ | refine au (0 : Int) rfl rfl rfl rfl rfl rfl rfl rfl rfl (by omega) (fun _ => rfl) ?_ | refine au ([] : List UInt8) rfl rfl rfl rfl rfl rfl rfl rfl rfl (by omega) (fun _ => rfl) ?_ | refine dF rfl rfl rfl rfl rfl rfl rfl ?_ | refine dC rfl rfl rfl rfl rfl rfl rfl ?_ | refine bw (0 : Int) rfl rfl rfl rfl rfl rfl rfl (by omega) ?_ | refine bw false rfl rfl rfl rfl rfl rfl rfl (by omega) ?_ | refine db rfl rfl rfl rfl rfl rfl rfl rfl (by omega) ?_ | refine bX rfl rfl rfl rfl rfl rfl rfl rfl rfl ?_ | refine ah rfl rfl rfl rfl rfl rfl rfl rfl rfl ?_ | refine bW rfl rfl rfl rfl rfl rfl rfl rfl rfl rfl rfl rfl rfl ?_ | refine gI rfl rfl rfl rfl rfl ?_ | refine dD ?_ | refine dB ?_ | refine aL ?_ | refine aG ?_ | refine aH ?_ | refine ak ?_ | refine aw ?_ | refine ar rfl ?_ | refine noGoto_ret ?_ | refine noGoto_exit ?_ | refine noGoto_normal ?_ | refine cZ ?_ | refine dI ?_ | refine cY ?_ | refine d8 ?_ | refine b9 rfl rfl rfl rfl rfl (by simp only [List.length_append, List.length_cons, List.length_nil] <;> omega) ?_ | refine pb rfl rfl rfl (fun h => ?_) (fun h => ?_) | refine gd_N rfl rfl rfl (fun h => ?_) (fun h => ?_) | refine pS rfl rfl rfl (fun h => ?_) (fun h => ?_) | refine jk rfl (fun h => ?_) (fun h => ?_) | refine js rfl (fun h => ?_) (fun h => ?_) | refine gT rfl (fun h => ?_) (fun h => ?_)))
 ·have hn := hsuc.trans (if_pos ⟨by assumption, .inl (by assumption)⟩)
  exact co (k + 1) (by omega) (by omega) (cj ⟨⟨_, rfl, AV.sub_refl _⟩, ⟨_, rfl, AV.sub_refl _⟩, ⟨_, rfl, AV.sub_refl _⟩, ⟨_, rfl, AV.sub_refl _⟩, ⟨_, rfl, bT (by omega)⟩, trivial⟩ (by rw [hn]; exact ⟨⟨_, rfl, fk (by rw [show ((k : Int) + 1).toNat = k + 1 by omega])⟩, trivial⟩))
 ·have hn := hsuc.trans (if_pos ⟨by assumption, .inr (by assumption)⟩)
  exact co (k + 1) (by omega) (by omega) (cj ⟨⟨_, rfl, AV.sub_refl _⟩, ⟨_, rfl, AV.sub_refl _⟩, ⟨_, rfl, AV.sub_refl _⟩, ⟨_, rfl, AV.sub_refl _⟩, ⟨_, rfl, bT (by omega)⟩, trivial⟩ (by rw [hn]; exact ⟨⟨_, rfl, fk (by rw [show ((k : Int) + 1).toNat = k + 1 by omega])⟩, trivial⟩))
 ·have hn := hsuc.trans (if_neg (fun h => h.2.elim (by simp [*]) (fun h => h (by assumption))))
  exact co (k + 1) (by omega) (by omega) (cj ⟨⟨_, rfl, AV.sub_refl _⟩, ⟨_, rfl, AV.sub_refl _⟩, ⟨_, rfl, AV.sub_refl _⟩, ⟨_, rfl, AV.sub_refl _⟩, ⟨_, rfl, bT (by omega)⟩, trivial⟩ (by rw [hn]; exact ⟨⟨_, rfl, fk rfl⟩, trivial⟩))
 ·have hn := hsuc.trans (if_neg (fun h => by have := h.1; simp_all))
  exact co (k + 1) (by omega) (by omega) (cj ⟨⟨_, rfl, AV.sub_refl _⟩, ⟨_, rfl, AV.sub_refl _⟩, ⟨_, rfl, AV.sub_refl _⟩, ⟨_, rfl, AV.sub_refl _⟩, ⟨_, rfl, bT (by omega)⟩, trivial⟩ (by rw [hn]; exact ⟨⟨_, rfl, fk rfl⟩, trivial⟩))
 ·obtain rfl : k = s.length := by omega
  rw [he]
  exact zT rfl rfl rfl (aJ rfl (aM _) rfl) ⟨rfl, rfl⟩
set_option maxHeartbeats 1000000 in
theorem step_ok (s : List UInt8) (c : UInt8) (r : List Bool) (hs : s.length ≤ 65536) (hr : r.length = s.length + 1) :
  bO Tryz.prog 70 [.arr M1 1 0 r.length, .p (vS s), .p (.val (.int .u8 (c.toNat : Int)))] [(M1, (r.map vB).map .p)]
   (fun x y => x = .tuple [.arr (2 * M1) 1 0 r.length, .p (vB (som s c r s.length))] ∧ y = [(2 * M1, ((nxt s c r s.length).map vB).map .p), (M1, (r.map vB).map .p)]) := by
 refine mN good [13] [13, M1] Tryz.func70 rfl (Nat.le_of_ble_eq_true rfl) rfl rfl rfl fun w0 F => ?_
 (repeat (first | refine ux rfl rfl rfl rfl rfl rfl rfl rfl rfl rfl (by refine ⟨by omega, by omega, ?_⟩; show (1 : Int) * _ ≤ _; omega) (by repeat (first | exact iI _ | apply demOb_drop rfl | apply dw rfl (lT _ _) | apply dw rfl rfl)) ?_ | refine bE ?_ | refine b5 ?_ | refine aV rfl ?_ | refine bA ?_ | refine aR rfl rfl rfl rfl ?_ | refine bp rfl rfl rfl rfl ?_ | refine gC rfl rfl rfl rfl rfl rfl ?_ | refine eV rfl rfl rfl rfl rfl rfl (by omega) ?_ | refine fw rfl rfl rfl rfl rfl rfl ?_ | refine de rfl rfl rfl rfl rfl rfl rfl (by omega) ?_ | refine dk rfl rfl rfl rfl rfl rfl rfl (by omega) ?_ | refine cE rfl rfl rfl rfl rfl rfl ?_ | refine jQ rfl rfl rfl (by first | rfl | assumption | exact decide_eq_true (by first | assumption | omega) | exact aP (by first | assumption | omega)) ?_ | refine jB rfl rfl rfl (by first | rfl | assumption | exact decide_eq_false (by first | assumption | omega) | exact aE (by first | assumption | omega)) ?_ | refine jJ rfl rfl rfl (by first | rfl | assumption | exact decide_eq_false (by first | assumption | omega) | exact aE (by first | assumption | omega)) rfl rfl ?_ | refine jT rfl rfl rfl (by first | rfl | assumption | exact decide_eq_true (by first | assumption | omega) | exact aP (by first | assumption | omega)) rfl rfl ?_ | refine fG rfl rfl rfl rfl rfl ?_ | refine cn rfl rfl rfl rfl (by first | rfl | assumption | exact decide_eq_true (by first | assumption | omega) | exact aP (by first | assumption | omega)) rfl ?_ | refine bY rfl rfl rfl rfl (by first | rfl | assumption | exact decide_eq_false (by first | assumption | omega) | exact aE (by first | assumption | omega)) rfl ?_ | refine gV rfl (by first | rfl | assumption | exact decide_eq_true (by first | assumption | omega) | exact aP (by first | assumption | omega)) ?_ | refine gQ rfl (by first | rfl | assumption | exact decide_eq_false (by first | assumption | omega) | exact aE (by first | assumption | omega)) ?_ | refine gD rfl rfl rfl rfl ?_ | refine cB rfl rfl rfl rfl rfl ?_ | refine dH rfl rfl rfl rfl rfl rfl rfl rfl (by omega) ?_ | refine fp rfl rfl rfl rfl rfl rfl ?_ | refine fq rfl rfl rfl rfl rfl rfl rfl ?_ | refine fv rfl rfl rfl rfl rfl rfl rfl ?_ | refine bF rfl rfl rfl rfl rfl rfl rfl rfl rfl (by omega) ?_ | refine aW rfl rfl rfl rfl rfl rfl rfl rfl rfl (by omega) ?_ | refine ao false rfl rfl rfl rfl rfl rfl rfl rfl rfl (by omega) (fun _ => rfl) ?_ | refine ao (0 : Int) rfl rfl rfl rfl rfl rfl rfl rfl rfl (by omega) (fun _ => rfl) ?_ | refine ao ([] : List UInt8) rfl rfl rfl rfl rfl rfl rfl rfl rfl (by omega) (fun _ => rfl) ?_ | refine au false rfl rfl rfl rfl rfl rfl rfl rfl rfl (by omega) (fun _ => rfl) ?_ | refine au (0 : Int) rfl rfl rfl rfl rfl rfl rfl rfl rfl (by omega) (fun _ => rfl) ?_ | refine au ([] : List UInt8) rfl rfl rfl rfl rfl rfl rfl rfl rfl (by omega) (fun _ => rfl) ?_ | refine dF rfl rfl rfl rfl rfl rfl rfl ?_ | refine dC rfl rfl rfl rfl rfl rfl rfl ?_ | refine bw (0 : Int) rfl rfl rfl rfl rfl rfl rfl (by omega) ?_ | refine bw false rfl rfl rfl rfl rfl rfl rfl (by omega) ?_ | refine db rfl rfl rfl rfl rfl rfl rfl rfl (by omega) ?_ | refine bX rfl rfl rfl rfl rfl rfl rfl rfl rfl ?_ | refine ah rfl rfl rfl rfl rfl rfl rfl rfl rfl ?_ | refine bW rfl rfl rfl rfl rfl rfl rfl rfl rfl rfl rfl rfl rfl ?_ | refine gI rfl rfl rfl rfl rfl ?_ | refine dD ?_ | refine dB ?_ | refine aL ?_ | refine aG ?_ | refine aH ?_ | refine ak ?_ | refine aw ?_ | refine ar rfl ?_ | refine noGoto_ret ?_ | refine noGoto_exit ?_ | refine noGoto_normal ?_ | refine cZ ?_ | refine dI ?_ | refine cY ?_ | refine d8 ?_ | refine b9 rfl rfl rfl rfl rfl (by simp only [List.length_append, List.length_cons, List.length_nil] <;> omega) ?_))
 refine lz (σ := Nat) (fun k => ⟨[(0, .arr M1 1 0 r.length), (1, .p (.val (.string (str s)))), (2, .p (.val (.int .u8 (c.toNat : Int)))), (8, .arr 13 1 0 r.length), (9, .p (.val (.bool (som s c r k)))), (15, .p (.val (.int .i64 (s.length : Int)))), (16, .p (.val (.int .i64 (k : Int))))],
   [(13, ((nxt s c r k).map vB).map .p), (M1, (r.map vB).map .p)]⟩)
  (fun k => k ≤ s.length) (fun k => s.length - k) 0 (Nat.zero_le _) ?_ ?_
 ·refine cj ⟨⟨_, rfl, AV.sub_refl _⟩, ⟨_, rfl, AV.sub_refl _⟩, ⟨_, rfl, AV.sub_refl _⟩, ⟨_, rfl, AV.sub_refl _⟩, ⟨_, rfl, AV.sub_refl _⟩, ⟨_, rfl, AV.sub_refl _⟩, ⟨_, rfl, AV.sub_refl _⟩, trivial⟩ ⟨⟨_, rfl, fk ?_⟩, ⟨_, rfl, ap _⟩, trivial⟩
  simp [nxt, vB]
 intro k hk
 have hl := nxt_len s c r k
 have n1 : nxt s c r (k + 1) = if r.getD k false = true ∧ ((s.getD k 0).toNat : Int) = (c.toNat : Int) then (nxt s c r k).set (k + 1) true else nxt s c r k := rfl
 have n2 : som s c r (k + 1) = if r.getD k false = true ∧ ((s.getD k 0).toNat : Int) = (c.toNat : Int) then true else som s c r k := rfl
 generalize he : nxt s c r k = q at *
 generalize he2 : som s c r k = b at *
 (repeat' (first | refine bE ?_ | refine b5 ?_ | refine aV rfl ?_ | refine bA ?_ | refine aR rfl rfl rfl rfl ?_ | refine bp rfl rfl rfl rfl ?_ | refine gC rfl rfl rfl rfl rfl rfl ?_ | refine eV rfl rfl rfl rfl rfl rfl (by omega) ?_ | refine fw rfl rfl rfl rfl rfl rfl ?_ | refine de rfl rfl rfl rfl rfl rfl rfl (by omega) ?_ | refine dk rfl rfl rfl rfl rfl rfl rfl (by omega) ?_ | refine cE rfl rfl rfl rfl rfl rfl ?_ | refine jQ rfl rfl rfl (by first | rfl | assumption | exact decide_eq_true (by first | assumption | omega) | exact aP (by first | assumption | omega)) ?_ | refine jB rfl rfl rfl (by first | rfl | assumption | exact decide_eq_false (by first | assumption | omega) | exact aE (by first | assumption | omega)) ?_ | refine jJ rfl rfl rfl (by first | rfl | assumption | exact decide_eq_false (by first | assumption | omega) | exact aE (by first | assumption | omega)) rfl rfl ?_ | refine jT rfl rfl rfl (by first | rfl | assumption | exact decide_eq_true (by first | assumption | omega) | exact aP (by first | assumption | omega)) rfl rfl ?_ | refine fG rfl rfl rfl rfl rfl ?_ | refine cn rfl rfl rfl rfl (by first | rfl | assumption | exact decide_eq_true (by first | assumption | omega) | exact aP (by first | assumption | omega)) rfl ?_ | refine bY rfl rfl rfl rfl (by first | rfl | assumption | exact decide_eq_false (by first | assumption | omega) | exact aE (by first | assumption | omega)) rfl ?_ | refine gV rfl (by first | rfl | assumption | exact decide_eq_true (by first | assumption | omega) | exact aP (by first | assumption | omega)) ?_ | refine gQ rfl (by first | rfl | assumption | exact decide_eq_false (by first | assumption | omega) | exact aE (by first | assumption | omega)) ?_ | refine gD rfl rfl rfl rfl ?_ | refine cB rfl rfl rfl rfl rfl ?_ | refine dH rfl rfl rfl rfl rfl rfl rfl rfl (by omega) ?_ | refine fp rfl rfl rfl rfl rfl rfl ?_ | refine fq rfl rfl rfl rfl rfl rfl rfl ?_ | refine fv rfl rfl rfl rfl rfl rfl rfl ?_ | refine bF rfl rfl rfl rfl rfl rfl rfl rfl rfl (by omega) ?_ | refine aW rfl rfl rfl rfl rfl rfl rfl rfl rfl (by omega) ?_ | refine ao false rfl rfl rfl rfl rfl rfl rfl rfl rfl (by omega) (fun _ => rfl) ?_ | refine ao (0 : Int) rfl rfl rfl rfl rfl rfl rfl rfl rfl (by omega) (fun _ => rfl) ?_ | refine ao ([] : List UInt8) rfl rfl rfl rfl rfl rfl rfl rfl rfl (by omega) (fun _ => rfl) ?_ | refine au false rfl rfl rfl rfl rfl rfl rfl rfl rfl (by omega) (fun _ => rfl) ?_ | refine au (0 : Int) rfl rfl rfl rfl rfl rfl rfl rfl rfl (by omega) (fun _ => rfl) ?_ | refine au ([] : List UInt8) rfl rfl rfl rfl rfl rfl rfl rfl rfl (by omega) (fun _ => rfl) ?_ | refine dF rfl rfl rfl rfl rfl rfl rfl ?_ | refine dC rfl rfl rfl rfl rfl rfl rfl ?_ | refine bw (0 : Int) rfl rfl rfl rfl rfl rfl rfl (by omega) ?_ | refine bw false rfl rfl rfl rfl rfl rfl rfl (by omega) ?_ | refine db rfl rfl rfl rfl rfl rfl rfl rfl (by omega) ?_ | refine bX rfl rfl rfl rfl rfl rfl rfl rfl rfl ?_ | refine ah rfl rfl rfl rfl rfl rfl rfl rfl rfl ?_ | refine bW rfl rfl rfl rfl rfl rfl rfl rfl rfl rfl rfl rfl rfl ?_ | refine gI rfl rfl rfl rfl rfl ?_ | refine dD ?_ | refine dB ?_ | refine aL ?_ | refine aG ?_ | refine aH ?_ | refine ak ?_ | refine aw ?_ | refine ar rfl ?_ | refine noGoto_ret ?_ | refine noGoto_exit ?_ | refine noGoto_normal ?_ | refine cZ ?_ | refine dI ?_ | refine cY ?_ | refine d8 ?_ | refine b9 rfl rfl rfl rfl rfl (by simp only [List.length_append, List.length_cons, List.length_nil] <;> omega) ?_ | refine pb rfl rfl rfl (fun h => ?_) (fun h => ?_) | refine gd_N rfl rfl rfl (fun h => ?_) (fun h => ?_) | refine pS rfl rfl rfl (fun h => ?_) (fun h => ?_) | refine jk rfl (fun h => ?_) (fun h => ?_) | refine js rfl (fun h => ?_) (fun h => ?_) | refine gT rfl (fun h => ?_) (fun h => ?_)))
 ·rw [if_pos ⟨by assumption, by assumption⟩] at n1 n2
  exact co (k + 1) (by omega) (by omega) (cj ⟨⟨_, rfl, AV.sub_refl _⟩, ⟨_, rfl, AV.sub_refl _⟩, ⟨_, rfl, AV.sub_refl _⟩, ⟨_, rfl, AV.sub_refl _⟩, ⟨_, rfl, io (by rw [n2])⟩, ⟨_, rfl, AV.sub_refl _⟩, ⟨_, rfl, bT (by omega)⟩, trivial⟩ (by rw [n1]; exact ⟨⟨_, rfl, fk (by rw [show ((k : Int) + 1).toNat = k + 1 by omega])⟩, ⟨_, rfl, ap _⟩, trivial⟩))
 ·rw [if_neg (fun h => absurd h.2 (by assumption))] at n1 n2
  exact co (k + 1) (by omega) (by omega) (cj ⟨⟨_, rfl, AV.sub_refl _⟩, ⟨_, rfl, AV.sub_refl _⟩, ⟨_, rfl, AV.sub_refl _⟩, ⟨_, rfl, AV.sub_refl _⟩, ⟨_, rfl, io (by rw [n2])⟩, ⟨_, rfl, AV.sub_refl _⟩, ⟨_, rfl, bT (by omega)⟩, trivial⟩ (by rw [n1]; exact ⟨⟨_, rfl, fk rfl⟩, ⟨_, rfl, ap _⟩, trivial⟩))
 ·rw [if_neg (fun h => by have := h.1; simp_all)] at n1 n2
  exact co (k + 1) (by omega) (by omega) (cj ⟨⟨_, rfl, AV.sub_refl _⟩, ⟨_, rfl, AV.sub_refl _⟩, ⟨_, rfl, AV.sub_refl _⟩, ⟨_, rfl, AV.sub_refl _⟩, ⟨_, rfl, io (by rw [n2])⟩, ⟨_, rfl, AV.sub_refl _⟩, ⟨_, rfl, bT (by omega)⟩, trivial⟩ (by rw [n1]; exact ⟨⟨_, rfl, fk rfl⟩, ⟨_, rfl, ap _⟩, trivial⟩))
 ·obtain rfl : k = s.length := by omega
  rw [he, he2]
  exact AL rfl rfl rfl (aJ rfl (aM _) (aJ rfl (aM _) rfl)) ⟨rfl, rfl⟩
end Go.Ab.Glob
end
section
namespace Go.Ab.Glob
open Go.Proofs Go.Ab
attribute [local irreducible] awp d9 aU aF bO AV.sub
theorem hp1_ok (s p : List UInt8) (hs : s.length ≤ 65536) (hp : p.length ≤ 65536) : aF Tryz.prog 91 [vS s, vS p] (· = .p (vB (hasP s p))) := by
 refine rq good Tryz.func91 rfl rfl rfl fun w0 => ?_
 have he := hasP_take s p
 (repeat' (first | refine bE ?_ | refine b5 ?_ | refine aV rfl ?_ | refine bA ?_ | refine aR rfl rfl rfl rfl ?_ | refine bp rfl rfl rfl rfl ?_ | refine gC rfl rfl rfl rfl rfl rfl ?_ | refine eV rfl rfl rfl rfl rfl rfl (by omega) ?_ | refine fw rfl rfl rfl rfl rfl rfl ?_ | refine de rfl rfl rfl rfl rfl rfl rfl (by omega) ?_ | refine dk rfl rfl rfl rfl rfl rfl rfl (by omega) ?_ | refine cE rfl rfl rfl rfl rfl rfl ?_ | refine jQ rfl rfl rfl (by first | rfl | assumption | exact decide_eq_true (by first | assumption | omega) | exact aP (by first | assumption | omega)) ?_ | refine jB rfl rfl rfl (by first | rfl | assumption | exact decide_eq_false (by first | assumption | omega) | exact aE (by first | assumption | omega)) ?_ | refine jJ rfl rfl rfl (by first | rfl | assumption | exact decide_eq_false (by first | assumption | omega) | exact aE (by first | assumption | omega)) rfl rfl ?_ | refine jT rfl rfl rfl (by first | rfl | assumption | exact decide_eq_true (by first | assumption | omega) | exact aP (by first | assumption | omega)) rfl rfl ?_ | refine fG rfl rfl rfl rfl rfl ?_ | refine cn rfl rfl rfl rfl (by first | rfl | assumption | exact decide_eq_true (by first | assumption | omega) | exact aP (by first | assumption | omega)) rfl ?_ | refine bY rfl rfl rfl rfl (by first | rfl | assumption | exact decide_eq_false (by first | assumption | omega) | exact aE (by first | assumption | omega)) rfl ?_ | refine gV rfl (by first | rfl | assumption | exact decide_eq_true (by first | assumption | omega) | exact aP (by first | assumption | omega)) ?_ | refine gQ rfl (by first | rfl | assumption | exact decide_eq_false (by first | assumption | omega) | exact aE (by first | assumption | omega)) ?_ | refine gD rfl rfl rfl rfl ?_ | refine cB rfl rfl rfl rfl rfl ?_ | refine dH rfl rfl rfl rfl rfl rfl rfl rfl (by omega) ?_ | refine fp rfl rfl rfl rfl rfl rfl ?_ | refine fq rfl rfl rfl rfl rfl rfl rfl ?_ | refine fv rfl rfl rfl rfl rfl rfl rfl ?_ | refine bF rfl rfl rfl rfl rfl rfl rfl rfl rfl (by omega) ?_ | refine aW rfl rfl rfl rfl rfl rfl rfl rfl rfl (by omega) ?_ | refine ao false rfl rfl rfl rfl rfl rfl rfl rfl rfl (by omega) (fun _ => rfl) ?_ | refine ao (0 : Int) rfl rfl rfl rfl rfl rfl rfl rfl rfl (by omega) (fun _ => rfl) ?_ | refine ao ([] : List UInt8) rfl rfl rfl rfl rfl rfl rfl rfl rfl (by omega) (fun _ => rfl) ?_ | refine au false rfl rfl rfl rfl rfl rfl rfl rfl rfl (by omega) (fun _ => rfl) ?_ | refine au (0 : Int) rfl rfl rfl rfl rfl rfl rfl rfl rfl (by omega) (fun _ => rfl) ?_ | refine au ([] : List UInt8) rfl rfl rfl rfl rfl rfl rfl rfl rfl (by omega) (fun _ => rfl) ?_ | refine dF rfl rfl rfl rfl rfl rfl rfl ?_ | refine dC rfl rfl rfl rfl rfl rfl rfl ?_ | refine bw (0 : Int) rfl rfl rfl rfl rfl rfl rfl (by omega) ?_ | refine bw false rfl rfl rfl rfl rfl rfl rfl (by omega) ?_ | refine db rfl rfl rfl rfl rfl rfl rfl rfl (by omega) ?_ | refine bX rfl rfl rfl rfl rfl rfl rfl rfl rfl ?_ | refine ah rfl rfl rfl rfl rfl rfl rfl rfl rfl ?_ | refine bW rfl rfl rfl rfl rfl rfl rfl rfl rfl rfl rfl rfl rfl ?_ | refine gI rfl rfl rfl rfl rfl ?_ | refine dD ?_ | refine dB ?_ | refine aL ?_ | refine aG ?_ | refine aH ?_ | refine ak ?_ | refine aw ?_ | refine ar rfl ?_ | refine noGoto_ret ?_ | refine noGoto_exit ?_ | refine noGoto_normal ?_ | refine cZ ?_ | refine dI ?_ | refine cY ?_ | refine d8 ?_ | refine b9 rfl rfl rfl rfl rfl (by simp only [List.length_append, List.length_cons, List.length_nil] <;> omega) ?_ | refine pb rfl rfl rfl (fun h => ?_) (fun h => ?_) | refine gd_N rfl rfl rfl (fun h => ?_) (fun h => ?_) | refine pS rfl rfl rfl (fun h => ?_) (fun h => ?_) | refine jk rfl (fun h => ?_) (fun h => ?_) | refine js rfl (fun h => ?_) (fun h => ?_) | refine gT rfl (fun h => ?_) (fun h => ?_)))
 ·refine gP rfl ?_; refine io ?_
  rw [he, decide_eq_true (show p.length ≤ s.length by omega), Bool.true_and]
  rw [show ((p.length : Int).toNat) = p.length from rfl]
  simp
 ·refine gP rfl ?_; refine io ?_
  rw [he, decide_eq_false (show ¬ p.length ≤ s.length by omega), Bool.false_and]
theorem hp_ok (s p : List UInt8) (hs : s.length ≤ 65536) (hp : p.length ≤ 65536) : aF Tryz.prog 68 [vS s, vS p] (· = .p (vB (hasP s p))) := by
 refine rq good Tryz.func68 rfl rfl rfl fun w0 => ?_
 (repeat' (first | refine bj (hp1_ok s p hs hp) rfl rfl rfl rfl ⟨AV.sub_refl _, AV.sub_refl _, trivial⟩ Tryz.call91 rfl ?_ | refine bE ?_ | refine b5 ?_ | refine aV rfl ?_ | refine bA ?_ | refine aR rfl rfl rfl rfl ?_ | refine bp rfl rfl rfl rfl ?_ | refine gC rfl rfl rfl rfl rfl rfl ?_ | refine eV rfl rfl rfl rfl rfl rfl (by omega) ?_ | refine fw rfl rfl rfl rfl rfl rfl ?_ | refine de rfl rfl rfl rfl rfl rfl rfl (by omega) ?_ | refine dk rfl rfl rfl rfl rfl rfl rfl (by omega) ?_ | refine cE rfl rfl rfl rfl rfl rfl ?_ | refine jQ rfl rfl rfl (by first | rfl | assumption | exact decide_eq_true (by first | assumption | omega) | exact aP (by first | assumption | omega)) ?_ | refine jB rfl rfl rfl (by first | rfl | assumption | exact decide_eq_false (by first | assumption | omega) | exact aE (by first | assumption | omega)) ?_ | refine jJ rfl rfl rfl (by first | rfl | assumption | exact decide_eq_false (by first | assumption | omega) | exact aE (by first | assumption | omega)) rfl rfl ?_ | refine jT rfl rfl rfl (by first | rfl | assumption | exact decide_eq_true (by first | assumption | omega) | exact aP (by first | assumption | omega)) rfl rfl ?_ | refine fG rfl rfl rfl rfl rfl ?_ | refine cn rfl rfl rfl rfl (by first | rfl | assumption | exact decide_eq_true (by first | assumption | omega) | exact aP (by first | assumption | omega)) rfl ?_ | refine bY rfl rfl rfl rfl (by first | rfl | assumption | exact decide_eq_false (by first | assumption | omega) | exact aE (by first | assumption | omega)) rfl ?_ | refine gV rfl (by first | rfl | assumption | exact decide_eq_true (by first | assumption | omega) | exact aP (by first | assumption | omega)) ?_ | refine gQ rfl (by first | rfl | assumption | exact decide_eq_false (by first | assumption | omega) | exact aE (by first | assumption | omega)) ?_ | refine gD rfl rfl rfl rfl ?_ | refine cB rfl rfl rfl rfl rfl ?_ | refine dH rfl rfl rfl rfl rfl rfl rfl rfl (by omega) ?_ | refine fp rfl rfl rfl rfl rfl rfl ?_ | refine fq rfl rfl rfl rfl rfl rfl rfl ?_ | refine fv rfl rfl rfl rfl rfl rfl rfl ?_ | refine bF rfl rfl rfl rfl rfl rfl rfl rfl rfl (by omega) ?_ | refine aW rfl rfl rfl rfl rfl rfl rfl rfl rfl (by omega) ?_ | refine ao false rfl rfl rfl rfl rfl rfl rfl rfl rfl (by omega) (fun _ => rfl) ?_ | refine ao (0 : Int) rfl rfl rfl rfl rfl rfl rfl rfl rfl (by omega) (fun _ => rfl) ?_ | refine ao ([] : List UInt8) rfl rfl rfl rfl rfl rfl rfl rfl rfl (by omega) (fun _ => rfl) ?_ | refine au false rfl rfl rfl rfl rfl rfl rfl rfl rfl (by omega) (fun _ => rfl) ?_ | refine au (0 : Int) rfl rfl rfl rfl rfl rfl rfl rfl rfl (by omega) (fun _ => rfl) ?_ | refine au ([] : List UInt8) rfl rfl rfl rfl rfl rfl rfl rfl rfl (by omega) (fun _ => rfl) ?_ | refine dF rfl rfl rfl rfl rfl rfl rfl ?_ | refine dC rfl rfl rfl rfl rfl rfl rfl ?_ | refine bw (0 : Int) rfl rfl rfl rfl rfl rfl rfl (by omega) ?_ | refine bw false rfl rfl rfl rfl rfl rfl rfl (by omega) ?_ | refine db rfl rfl rfl rfl rfl rfl rfl rfl (by omega) ?_ | refine bX rfl rfl rfl rfl rfl rfl rfl rfl rfl ?_ | refine ah rfl rfl rfl rfl rfl rfl rfl rfl rfl ?_ | refine bW rfl rfl rfl rfl rfl rfl rfl rfl rfl rfl rfl rfl rfl ?_ | refine gI rfl rfl rfl rfl rfl ?_ | refine dD ?_ | refine dB ?_ | refine aL ?_ | refine aG ?_ | refine aH ?_ | refine ak ?_ | refine aw ?_ | refine ar rfl ?_ | refine noGoto_ret ?_ | refine noGoto_exit ?_ | refine noGoto_normal ?_ | refine cZ ?_ | refine dI ?_ | refine cY ?_ | refine d8 ?_ | refine b9 rfl rfl rfl rfl rfl (by simp only [List.length_append, List.length_cons, List.length_nil] <;> omega) ?_ | refine pb rfl rfl rfl (fun h => ?_) (fun h => ?_) | refine gd_N rfl rfl rfl (fun h => ?_) (fun h => ?_) | refine pS rfl rfl rfl (fun h => ?_) (fun h => ?_) | refine jk rfl (fun h => ?_) (fun h => ?_) | refine js rfl (fun h => ?_) (fun h => ?_) | refine gT rfl (fun h => ?_) (fun h => ?_)))
 exact gP rfl (AV.sub_refl _)
end Go.Ab.Glob
end
section
namespace Go.Ab.Glob
open Go.Proofs Go.Ab
attribute [local irreducible] awp d9 aU aF bO AV.sub
theorem ok_makeM {C : Cx} {o : Oper} {K : AS → Prop} {sl : List (Nat × AV)} {ob ob' : List (Nat × List AV)} {d : Nat} {α : Type} (f : α → PV) (b0 : α) {t e : Nat} {x y : Operand} {i ie : TI} {k k' : IntKind} {n : Int} {z : Value} (ho : o.op = .makeSlice t x y) (hd : o.dst = some d) (hn : Nat.blt d C.n = true)
  (hi : look C.tt t = some i) (hik : i.k = .slice e) (hie : look C.tt e = some ie) (hs1 : ie.size = 1) (hz : ie.zero = [z]) (hf : f b0 = .val z) (hx : evo sl x = some (.p (.val (.int k n)))) (hy : evo sl y = some (.p (.val (.int k' n))))
  (hb : 0 ≤ n ∧ n ≤ 9223372036854775807 ∧ (ie.bytes : Int) * n ≤ 281474976710656) (hdo : kM (fun i => Nat.beq i d) ob = ob')
  (hK : K ⟨(d, .arr d 1 0 n.toNat) :: (cv (fun i => Nat.beq i d) ⟨sl, ob⟩).sl, (d, ((List.replicate n.toNat b0).map f).map .p) :: ob'⟩) : aU C o K ⟨sl, ob⟩ :=
 ux ho hd hn hi hik hie hs1 hz hx hy hb hdo (by rw [List.map_replicate, hf] at hK; exact hK)
theorem mg_more (p s : List UInt8) : ∀ (f g i : Nat) (r : List Bool), p.length ≤ i + f → f ≤ g → mg p s g i r = mg p s f i r := by
 intro f
 induction f with
 | zero =>
  intro g i r h _
  cases g with
  | zero => rfl
  | succ g => simp only [mg]; rw [if_neg (by omega)]
 | succ f ih =>
  intro g i r h hg
  obtain ⟨g, rfl⟩ : ∃ g', g = g' + 1 := ⟨g - 1, by omega⟩
  simp only [mg]
  by_cases hi : i < p.length
  ·rw [if_pos hi, if_pos hi]
   rw [ih g (i + 2) _ (by omega) (by omega), ih g (i + 1) _ (by omega) (by omega), ih g (i + 1) _ (by omega) (by omega)]
  ·rw [if_neg hi, if_neg hi]
theorem mg_step (p s : List UInt8) (i : Nat) (r : List Bool) (hi : i < p.length) : mg p s p.length i r =
  (if hasP (p.drop i) [42, 42] = true then mg p s p.length (i + 2) (spr s true r s.length)
    else if star p i then mg p s p.length (i + 1) (spr s false r s.length)
    else if som s (p.getD i 0) r s.length = true then mg p s p.length (i + 1) (nxt s (p.getD i 0) r s.length) else (i, nxt s (p.getD i 0) r s.length)) := by
 obtain ⟨f, hf⟩ : ∃ f, p.length = f + 1 := ⟨p.length - 1, by omega⟩
 have h1 := mg_more p s f (f + 1) (i + 2) (spr s true r s.length) (by omega) (by omega)
 have h2 := mg_more p s f (f + 1) (i + 1) (spr s false r s.length)
 have h3 := mg_more p s f (f + 1) (i + 1) (nxt s (p.getD i 0) r s.length)
 by_cases hi0 : i + 1 + f < p.length
 ·omega
 ·rw [hf] at hi ⊢
  conv => lhs; rw [mg]
  rw [if_pos (by rw [hf]; exact hi), h1, h2 (by omega) (by omega), h3 (by omega) (by omega)]
theorem mg_end (p s : List UInt8) (i : Nat) (r : List Bool) (hi : ¬ i < p.length) : mg p s p.length i r = (i, r) := by
 cases hp : p.length with
 | zero => rfl
 | succ f => rw [mg, if_neg hi]
theorem hasP2_lt (p : List UInt8) (i : Nat) (h : hasP (p.drop i) [42, 42] = true) : i + 2 ≤ p.length := by
 rw [hasP_take] at h
 simp only [Bool.and_eq_true, decide_eq_true_eq, List.length_cons, List.length_nil, List.length_drop] at h
 omega
set_option maxHeartbeats 2000000 in
theorem match_ok (p s : List UInt8) (hp : p.length ≤ 65536) (hs : s.length ≤ 32768) : aF Tryz.prog 49 [vS p, vS s] (· = .p (vB (matchL p s))) := by
 refine rq good Tryz.func49 rfl rfl rfl fun w0 => ?_
 have hmd : matchL p s = if check p = 0 then (if (mg p s p.length 0 (ini s)).1 = p.length then (mg p s p.length 0 (ini s)).2.getD s.length false else false) else false := rfl
 generalize hR : mg p s p.length 0 (ini s) = R at hmd
 (repeat' (first | refine bj (check_ok p hp) rfl rfl rfl rfl ⟨AV.sub_refl _, trivial⟩ Tryz.call28 rfl ?_ | refine ok_makeM vB false rfl rfl rfl rfl rfl rfl rfl rfl rfl rfl rfl (by refine ⟨by omega, by omega, ?_⟩; show (1 : Int) * _ ≤ _; omega) (by repeat (first | exact iI _ | apply demOb_drop rfl | apply dw rfl (lT _ _) | apply dw rfl rfl)) ?_ | refine db rfl rfl rfl rfl rfl rfl rfl rfl (by rw [List.length_replicate]; omega) ?_ | refine bE ?_ | refine b5 ?_ | refine aV rfl ?_ | refine bA ?_ | refine aR rfl rfl rfl rfl ?_ | refine bp rfl rfl rfl rfl ?_ | refine gC rfl rfl rfl rfl rfl rfl ?_ | refine eV rfl rfl rfl rfl rfl rfl (by omega) ?_ | refine fw rfl rfl rfl rfl rfl rfl ?_ | refine de rfl rfl rfl rfl rfl rfl rfl (by omega) ?_ | refine dk rfl rfl rfl rfl rfl rfl rfl (by omega) ?_ | refine cE rfl rfl rfl rfl rfl rfl ?_ | refine jQ rfl rfl rfl (by first | rfl | assumption | exact decide_eq_true (by first | assumption | omega) | exact aP (by first | assumption | omega)) ?_ | refine jB rfl rfl rfl (by first | rfl | assumption | exact decide_eq_false (by first | assumption | omega) | exact aE (by first | assumption | omega)) ?_ | refine jJ rfl rfl rfl (by first | rfl | assumption | exact decide_eq_false (by first | assumption | omega) | exact aE (by first | assumption | omega)) rfl rfl ?_ | refine jT rfl rfl rfl (by first | rfl | assumption | exact decide_eq_true (by first | assumption | omega) | exact aP (by first | assumption | omega)) rfl rfl ?_ | refine fG rfl rfl rfl rfl rfl ?_ | refine cn rfl rfl rfl rfl (by first | rfl | assumption | exact decide_eq_true (by first | assumption | omega) | exact aP (by first | assumption | omega)) rfl ?_ | refine bY rfl rfl rfl rfl (by first | rfl | assumption | exact decide_eq_false (by first | assumption | omega) | exact aE (by first | assumption | omega)) rfl ?_ | refine gV rfl (by first | rfl | assumption | exact decide_eq_true (by first | assumption | omega) | exact aP (by first | assumption | omega)) ?_ | refine gQ rfl (by first | rfl | assumption | exact decide_eq_false (by first | assumption | omega) | exact aE (by first | assumption | omega)) ?_ | refine gD rfl rfl rfl rfl ?_ | refine cB rfl rfl rfl rfl rfl ?_ | refine dH rfl rfl rfl rfl rfl rfl rfl rfl (by omega) ?_ | refine fp rfl rfl rfl rfl rfl rfl ?_ | refine fq rfl rfl rfl rfl rfl rfl rfl ?_ | refine fv rfl rfl rfl rfl rfl rfl rfl ?_ | refine bF rfl rfl rfl rfl rfl rfl rfl rfl rfl (by omega) ?_ | refine aW rfl rfl rfl rfl rfl rfl rfl rfl rfl (by omega) ?_ | refine ao false rfl rfl rfl rfl rfl rfl rfl rfl rfl (by omega) (fun _ => rfl) ?_ | refine ao (0 : Int) rfl rfl rfl rfl rfl rfl rfl rfl rfl (by omega) (fun _ => rfl) ?_ | refine ao ([] : List UInt8) rfl rfl rfl rfl rfl rfl rfl rfl rfl (by omega) (fun _ => rfl) ?_ | refine au false rfl rfl rfl rfl rfl rfl rfl rfl rfl (by omega) (fun _ => rfl) ?_ | refine au (0 : Int) rfl rfl rfl rfl rfl rfl rfl rfl rfl (by omega) (fun _ => rfl) ?_ | refine au ([] : List UInt8) rfl rfl rfl rfl rfl rfl rfl rfl rfl (by omega) (fun _ => rfl) ?_ | refine dF rfl rfl rfl rfl rfl rfl rfl ?_ | refine dC rfl rfl rfl rfl rfl rfl rfl ?_ | refine bw (0 : Int) rfl rfl rfl rfl rfl rfl rfl (by omega) ?_ | refine bw false rfl rfl rfl rfl rfl rfl rfl (by omega) ?_ | refine db rfl rfl rfl rfl rfl rfl rfl rfl (by omega) ?_ | refine bX rfl rfl rfl rfl rfl rfl rfl rfl rfl ?_ | refine ah rfl rfl rfl rfl rfl rfl rfl rfl rfl ?_ | refine bW rfl rfl rfl rfl rfl rfl rfl rfl rfl rfl rfl rfl rfl ?_ | refine gI rfl rfl rfl rfl rfl ?_ | refine dD ?_ | refine dB ?_ | refine aL ?_ | refine aG ?_ | refine aH ?_ | refine ak ?_ | refine aw ?_ | refine ar rfl ?_ | refine noGoto_ret ?_ | refine noGoto_exit ?_ | refine noGoto_normal ?_ | refine cZ ?_ | refine dI ?_ | refine cY ?_ | refine d8 ?_ | refine b9 rfl rfl rfl rfl rfl (by simp only [List.length_append, List.length_cons, List.length_nil] <;> omega) ?_ | refine pb rfl rfl rfl (fun h => ?_) (fun h => ?_) | refine gd_N rfl rfl rfl (fun h => ?_) (fun h => ?_) | refine pS rfl rfl rfl (fun h => ?_) (fun h => ?_) | refine jk rfl (fun h => ?_) (fun h => ?_) | refine js rfl (fun h => ?_) (fun h => ?_) | refine gT rfl (fun h => ?_) (fun h => ?_)))
 ·refine gP rfl ?_; refine io ?_
  rw [hmd, if_neg (by assumption)]
 rw [if_pos (by assumption)] at hmd
 refine lz (σ := Nat × Nat × List Bool) (fun q => ⟨[(0, .p (.val (.string (str p)))), (1, .p (.val (.string (str s)))), (5, .arr q.1 1 0 q.2.2.length), (6, .p (.val (.int .i64 (q.2.1 : Int))))], [(q.1, (q.2.2.map vB).map .p)]⟩)
  (fun q => (q.1 = 15 ∨ q.1 = 5000 ∨ q.1 = 6000) ∧ q.2.1 ≤ p.length ∧ q.2.2.length = s.length + 1 ∧ mg p s p.length q.2.1 q.2.2 = R) (fun q => p.length - q.2.1) (15, 0, ini s) ⟨.inl rfl, Nat.zero_le _, by simp [ini], hR⟩ ?_ ?_
 ·refine cj ⟨⟨_, rfl, AV.sub_refl _⟩, ⟨_, rfl, AV.sub_refl _⟩, ⟨_, rfl, AV.sub_of_eq ?_⟩, ⟨_, rfl, AV.sub_refl _⟩, trivial⟩ ⟨⟨_, rfl, fk ?_⟩, trivial⟩
  ·simp [ini]
  ·simp [ini]
 rintro ⟨id, i, r⟩ ⟨hid, hi, hr, hm⟩
 dsimp only at hid hi hr hm ⊢
 have hst := mg_step p s i r
 have hen := mg_end p s i r
 have hlt2 := hasP2_lt p i
 have hl1 : ∀ hG, (spr s hG r s.length).length = s.length + 1 := fun hG => (spr_len _ _ _ _).trans hr
 have hl2 : ∀ c, (nxt s c r s.length).length = s.length + 1 := fun c => (nxt_len _ _ _ _).trans hr
 have hpre := hp_ok (p.drop i) [42, 42] (by simp; omega) (by simp)
 by_cases hip : i < p.length
 ·have hst := hst hip
  clear hen
  rcases hid with rfl | rfl | rfl
  all_goals
   (repeat' (first | refine bj hpre rfl rfl rfl rfl ⟨zM (by simp), AV.sub_refl _, trivial⟩ Tryz.call68 rfl ?_ | refine hC [15] 5000 5010 (spread_ok s true r (by omega) hr) rfl rfl rfl rfl rfl ⟨AV.sub_refl _, AV.sub_refl _, AV.sub_refl _, trivial⟩ rfl (aJ rfl (aM _) rfl) ⟨⟨_, rfl, ap _⟩, trivial⟩ rfl rfl rfl rfl rfl Tryz.call69 rfl (aJ rfl (aM _) rfl) ?_ | refine hC [15] 5000 5010 (spread_ok s false r (by omega) hr) rfl rfl rfl rfl rfl ⟨AV.sub_refl _, AV.sub_refl _, AV.sub_refl _, trivial⟩ rfl (aJ rfl (aM _) rfl) ⟨⟨_, rfl, ap _⟩, trivial⟩ rfl rfl rfl rfl rfl Tryz.call69 rfl (aJ rfl (aM _) rfl) ?_ | refine hC [15] 5000 5010 (step_ok s (p.getD i 0) r (by omega) hr) rfl rfl rfl rfl rfl ⟨AV.sub_refl _, AV.sub_refl _, AV.sub_refl _, trivial⟩ rfl (aJ rfl (aM _) rfl) ⟨⟨_, rfl, ap _⟩, trivial⟩ rfl rfl rfl rfl rfl Tryz.call70 rfl (aJ rfl (aM _) (aJ rfl (aM _) rfl)) ?_ | refine hC [5000] 6000 6010 (spread_ok s true r (by omega) hr) rfl rfl rfl rfl rfl ⟨AV.sub_refl _, AV.sub_refl _, AV.sub_refl _, trivial⟩ rfl (aJ rfl (aM _) rfl) ⟨⟨_, rfl, ap _⟩, trivial⟩ rfl rfl rfl rfl rfl Tryz.call69 rfl (aJ rfl (aM _) rfl) ?_ | refine hC [5000] 6000 6010 (spread_ok s false r (by omega) hr) rfl rfl rfl rfl rfl ⟨AV.sub_refl _, AV.sub_refl _, AV.sub_refl _, trivial⟩ rfl (aJ rfl (aM _) rfl) ⟨⟨_, rfl, ap _⟩, trivial⟩ rfl rfl rfl rfl rfl Tryz.call69 rfl (aJ rfl (aM _) rfl) ?_ | refine hC [5000] 6000 6010 (step_ok s (p.getD i 0) r (by omega) hr) rfl rfl rfl rfl rfl ⟨AV.sub_refl _, AV.sub_refl _, AV.sub_refl _, trivial⟩ rfl (aJ rfl (aM _) rfl) ⟨⟨_, rfl, ap _⟩, trivial⟩ rfl rfl rfl rfl rfl Tryz.call70 rfl (aJ rfl (aM _) (aJ rfl (aM _) rfl)) ?_ | refine hC [6000] 5000 5010 (spread_ok s true r (by omega) hr) rfl rfl rfl rfl rfl ⟨AV.sub_refl _, AV.sub_refl _, AV.sub_refl _, trivial⟩ rfl (aJ rfl (aM _) rfl) ⟨⟨_, rfl, ap _⟩, trivial⟩ rfl rfl rfl rfl rfl Tryz.call69 rfl (aJ rfl (aM _) rfl) ?_ | refine hC [6000] 5000 5010 (spread_ok s false r (by omega) hr) rfl rfl rfl rfl rfl ⟨AV.sub_refl _, AV.sub_refl _, AV.sub_refl _, trivial⟩ rfl (aJ rfl (aM _) rfl) ⟨⟨_, rfl, ap _⟩, trivial⟩ rfl rfl rfl rfl rfl Tryz.call69 rfl (aJ rfl (aM _) rfl) ?_ | refine hC [6000] 5000 5010 (step_ok s (p.getD i 0) r (by omega) hr) rfl rfl rfl rfl rfl ⟨AV.sub_refl _, AV.sub_refl _, AV.sub_refl _, trivial⟩ rfl (aJ rfl (aM _) rfl) ⟨⟨_, rfl, ap _⟩, trivial⟩ rfl rfl rfl rfl rfl Tryz.call70 rfl (aJ rfl (aM _) (aJ rfl (aM _) rfl)) ?_ | refine bE ?_ | refine b5 ?_ | refine aV rfl ?_ | refine bA ?_ | refine aR rfl rfl rfl rfl ?_ | refine bp rfl rfl rfl rfl ?_ | refine gC rfl rfl rfl rfl rfl rfl ?_ | refine eV rfl rfl rfl rfl rfl rfl (by omega) ?_ | refine fw rfl rfl rfl rfl rfl rfl ?_ | refine de rfl rfl rfl rfl rfl rfl rfl (by omega) ?_ | refine dk rfl rfl rfl rfl rfl rfl rfl (by omega) ?_ | refine cE rfl rfl rfl rfl rfl rfl ?_ | refine jQ rfl rfl rfl (by first | rfl | assumption | exact decide_eq_true (by first | assumption | omega) | exact aP (by first | assumption | omega)) ?_ | refine jB rfl rfl rfl (by first | rfl | assumption | exact decide_eq_false (by first | assumption | omega) | exact aE (by first | assumption | omega)) ?_ | refine jJ rfl rfl rfl (by first | rfl | assumption | exact decide_eq_false (by first | assumption | omega) | exact aE (by first | assumption | omega)) rfl rfl ?_ | refine jT rfl rfl rfl (by first | rfl | assumption | exact decide_eq_true (by first | assumption | omega) | exact aP (by first | assumption | omega)) rfl rfl ?_ | refine fG rfl rfl rfl rfl rfl ?_ | refine cn rfl rfl rfl rfl (by first | rfl | assumption | exact decide_eq_true (by first | assumption | omega) | exact aP (by first | assumption | omega)) rfl ?_ | refine bY rfl rfl rfl rfl (by first | rfl | assumption | exact decide_eq_false (by first | assumption | omega) | exact aE (by first | assumption | omega)) rfl ?_ | refine gV rfl (by first | rfl | assumption | exact decide_eq_true (by first | assumption | omega) | exact aP (by first | assumption | omega)) ?_ | refine gQ rfl (by first | rfl | assumption | exact decide_eq_false (by first | assumption | omega) | exact aE (by first | assumption | omega)) ?_ | refine gD rfl rfl rfl rfl ?_ | refine cB rfl rfl rfl rfl rfl ?_ | refine dH rfl rfl rfl rfl rfl rfl rfl rfl (by omega) ?_ | refine fp rfl rfl rfl rfl rfl rfl ?_ | refine fq rfl rfl rfl rfl rfl rfl rfl ?_ | refine fv rfl rfl rfl rfl rfl rfl rfl ?_ | refine bF rfl rfl rfl rfl rfl rfl rfl rfl rfl (by omega) ?_ | refine aW rfl rfl rfl rfl rfl rfl rfl rfl rfl (by omega) ?_ | refine ao false rfl rfl rfl rfl rfl rfl rfl rfl rfl (by omega) (fun _ => rfl) ?_ | refine ao (0 : Int) rfl rfl rfl rfl rfl rfl rfl rfl rfl (by omega) (fun _ => rfl) ?_ | refine ao ([] : List UInt8) rfl rfl rfl rfl rfl rfl rfl rfl rfl (by omega) (fun _ => rfl) ?_ | refine au false rfl rfl rfl rfl rfl rfl rfl rfl rfl (by omega) (fun _ => rfl) ?_ | refine au (0 : Int) rfl rfl rfl rfl rfl rfl rfl rfl rfl (by omega) (fun _ => rfl) ?_ | refine au ([] : List UInt8) rfl rfl rfl rfl rfl rfl rfl rfl rfl (by omega) (fun _ => rfl) ?_ | refine dF rfl rfl rfl rfl rfl rfl rfl ?_ | refine dC rfl rfl rfl rfl rfl rfl rfl ?_ | refine bw (0 : Int) rfl rfl rfl rfl rfl rfl rfl (by omega) ?_ | refine bw false rfl rfl rfl rfl rfl rfl rfl (by omega) ?_ | refine db rfl rfl rfl rfl rfl rfl rfl rfl (by omega) ?_ | refine bX rfl rfl rfl rfl rfl rfl rfl rfl rfl ?_ | refine ah rfl rfl rfl rfl rfl rfl rfl rfl rfl ?_ | refine bW rfl rfl rfl rfl rfl rfl rfl rfl rfl rfl rfl rfl rfl ?_ | refine gI rfl rfl rfl rfl rfl ?_ | refine dD ?_ | refine dB ?_ | refine aL ?_ | refine aG ?_ | refine aH ?_ | refine ak ?_ | refine aw ?_ | refine ar rfl ?_ | refine noGoto_ret ?_ | refine noGoto_exit ?_ | refine noGoto_normal ?_ | refine cZ ?_ | refine dI ?_ | refine cY ?_ | refine d8 ?_ | refine b9 rfl rfl rfl rfl rfl (by simp only [List.length_append, List.length_cons, List.length_nil] <;> omega) ?_ | refine pb rfl rfl rfl (fun h => ?_) (fun h => ?_) | refine gd_N rfl rfl rfl (fun h => ?_) (fun h => ?_) | refine pS rfl rfl rfl (fun h => ?_) (fun h => ?_) | refine jk rfl (fun h => ?_) (fun h => ?_) | refine js rfl (fun h => ?_) (fun h => ?_) | refine gT rfl (fun h => ?_) (fun h => ?_)))
  ·refine co (k := (15, i, r)) (15, i + 2, spr s true r s.length) ?_ ?_ (cj ?_ ?_)
   ·have h2 := hlt2 (by assumption)
    rw [if_pos (by assumption)] at hst; exact ⟨.inl rfl, h2, hl1 _, hst.symm.trans hm⟩
   ·dsimp only; omega
   ·refine ⟨⟨_, rfl, AV.sub_refl _⟩, ⟨_, rfl, AV.sub_refl _⟩, ⟨_, rfl, AV.sub_of_eq ?_⟩, ⟨_, rfl, bT ?_⟩, trivial⟩
    ·dsimp only; rw [hl1, hr] <;> rfl
    ·dsimp only; omega
   ·exact ⟨⟨_, rfl, ap _⟩, trivial⟩
  ·refine co (k := (15, i, r)) (15, i + 1, spr s false r s.length) ?_ ?_ (cj ?_ ?_)
   ·rename_i hf
    rw [if_neg (by rw [hf]; exact Bool.false_ne_true), if_pos (show star p i from h)] at hst; exact ⟨.inl rfl, hip, hl1 _, hst.symm.trans hm⟩
   ·dsimp only; omega
   ·refine ⟨⟨_, rfl, AV.sub_refl _⟩, ⟨_, rfl, AV.sub_refl _⟩, ⟨_, rfl, AV.sub_of_eq ?_⟩, ⟨_, rfl, bT ?_⟩, trivial⟩
    ·dsimp only; rw [hl1, hr] <;> rfl
    ·dsimp only; omega
   ·exact ⟨⟨_, rfl, ap _⟩, trivial⟩
  ·refine gP rfl ?_; refine io ?_
   rename_i hf hs
   rw [if_neg (by rw [hf]; exact Bool.false_ne_true), if_neg (show ¬ star p i from hs), if_neg (by intro h9; rw [h9] at h; exact Bool.false_ne_true h)] at hst
   rw [hmd, if_neg (by rw [← hm, hst]; dsimp only; omega)]
  ·refine co (k := (15, i, r)) (5000, i + 1, nxt s (p.getD i 0) r s.length) ?_ ?_ (cj ?_ ?_)
   ·rename_i hf hs
    rw [if_neg (by rw [hf]; exact Bool.false_ne_true), if_neg (show ¬ star p i from hs), if_pos (by revert h; cases som s (p.getD i 0) r s.length <;> simp)] at hst; exact ⟨.inr (.inl rfl), hip, hl2 _, hst.symm.trans hm⟩
   ·dsimp only; omega
   ·refine ⟨⟨_, rfl, AV.sub_refl _⟩, ⟨_, rfl, AV.sub_refl _⟩, ⟨_, rfl, AV.sub_of_eq ?_⟩, ⟨_, rfl, bT ?_⟩, trivial⟩
    ·dsimp only; rw [hl2, hr] <;> rfl
    ·dsimp only; omega
   ·exact ⟨⟨_, rfl, ap _⟩, trivial⟩
  ·refine co (k := (5000, i, r)) (5000, i + 2, spr s true r s.length) ?_ ?_ (cj ?_ ?_)
   ·have h2 := hlt2 (by assumption)
    rw [if_pos (by assumption)] at hst; exact ⟨.inr (.inl rfl), h2, hl1 _, hst.symm.trans hm⟩
   ·dsimp only; omega
   ·refine ⟨⟨_, rfl, AV.sub_refl _⟩, ⟨_, rfl, AV.sub_refl _⟩, ⟨_, rfl, AV.sub_of_eq ?_⟩, ⟨_, rfl, bT ?_⟩, trivial⟩
    ·dsimp only; rw [hl1, hr] <;> rfl
    ·dsimp only; omega
   ·exact ⟨⟨_, rfl, ap _⟩, trivial⟩
  ·refine co (k := (5000, i, r)) (5000, i + 1, spr s false r s.length) ?_ ?_ (cj ?_ ?_)
   ·rename_i hf
    rw [if_neg (by rw [hf]; exact Bool.false_ne_true), if_pos (show star p i from h)] at hst; exact ⟨.inr (.inl rfl), hip, hl1 _, hst.symm.trans hm⟩
   ·dsimp only; omega
   ·refine ⟨⟨_, rfl, AV.sub_refl _⟩, ⟨_, rfl, AV.sub_refl _⟩, ⟨_, rfl, AV.sub_of_eq ?_⟩, ⟨_, rfl, bT ?_⟩, trivial⟩
    ·dsimp only; rw [hl1, hr] <;> rfl
    ·dsimp only; omega
   ·exact ⟨⟨_, rfl, ap _⟩, trivial⟩
  ·refine gP rfl ?_; refine io ?_
   rename_i hf hs
   rw [if_neg (by rw [hf]; exact Bool.false_ne_true), if_neg (show ¬ star p i from hs), if_neg (by intro h9; rw [h9] at h; exact Bool.false_ne_true h)] at hst
   rw [hmd, if_neg (by rw [← hm, hst]; dsimp only; omega)]
  ·refine co (k := (5000, i, r)) (6000, i + 1, nxt s (p.getD i 0) r s.length) ?_ ?_ (cj ?_ ?_)
   ·rename_i hf hs
    rw [if_neg (by rw [hf]; exact Bool.false_ne_true), if_neg (show ¬ star p i from hs), if_pos (by revert h; cases som s (p.getD i 0) r s.length <;> simp)] at hst; exact ⟨.inr (.inr rfl), hip, hl2 _, hst.symm.trans hm⟩
   ·dsimp only; omega
   ·refine ⟨⟨_, rfl, AV.sub_refl _⟩, ⟨_, rfl, AV.sub_refl _⟩, ⟨_, rfl, AV.sub_of_eq ?_⟩, ⟨_, rfl, bT ?_⟩, trivial⟩
    ·dsimp only; rw [hl2, hr] <;> rfl
    ·dsimp only; omega
   ·exact ⟨⟨_, rfl, ap _⟩, trivial⟩
  ·refine co (k := (6000, i, r)) (6000, i + 2, spr s true r s.length) ?_ ?_ (cj ?_ ?_)
   ·have h2 := hlt2 (by assumption)
    rw [if_pos (by assumption)] at hst; exact ⟨.inr (.inr rfl), h2, hl1 _, hst.symm.trans hm⟩
   ·dsimp only; omega
   ·refine ⟨⟨_, rfl, AV.sub_refl _⟩, ⟨_, rfl, AV.sub_refl _⟩, ⟨_, rfl, AV.sub_of_eq ?_⟩, ⟨_, rfl, bT ?_⟩, trivial⟩
    ·dsimp only; rw [hl1, hr] <;> rfl
    ·dsimp only; omega
   ·exact ⟨⟨_, rfl, ap _⟩, trivial⟩
  ·refine co (k := (6000, i, r)) (6000, i + 1, spr s false r s.length) ?_ ?_ (cj ?_ ?_)
   ·rename_i hf
    rw [if_neg (by rw [hf]; exact Bool.false_ne_true), if_pos (show star p i from h)] at hst; exact ⟨.inr (.inr rfl), hip, hl1 _, hst.symm.trans hm⟩
   ·dsimp only; omega
   ·refine ⟨⟨_, rfl, AV.sub_refl _⟩, ⟨_, rfl, AV.sub_refl _⟩, ⟨_, rfl, AV.sub_of_eq ?_⟩, ⟨_, rfl, bT ?_⟩, trivial⟩
    ·dsimp only; rw [hl1, hr] <;> rfl
    ·dsimp only; omega
   ·exact ⟨⟨_, rfl, ap _⟩, trivial⟩
  ·refine gP rfl ?_; refine io ?_
   rename_i hf hs
   rw [if_neg (by rw [hf]; exact Bool.false_ne_true), if_neg (show ¬ star p i from hs), if_neg (by intro h9; rw [h9] at h; exact Bool.false_ne_true h)] at hst
   rw [hmd, if_neg (by rw [← hm, hst]; dsimp only; omega)]
  ·refine co (k := (6000, i, r)) (5000, i + 1, nxt s (p.getD i 0) r s.length) ?_ ?_ (cj ?_ ?_)
   ·rename_i hf hs
    rw [if_neg (by rw [hf]; exact Bool.false_ne_true), if_neg (show ¬ star p i from hs), if_pos (by revert h; cases som s (p.getD i 0) r s.length <;> simp)] at hst; exact ⟨.inr (.inl rfl), hip, hl2 _, hst.symm.trans hm⟩
   ·dsimp only; omega
   ·refine ⟨⟨_, rfl, AV.sub_refl _⟩, ⟨_, rfl, AV.sub_refl _⟩, ⟨_, rfl, AV.sub_of_eq ?_⟩, ⟨_, rfl, bT ?_⟩, trivial⟩
    ·dsimp only; rw [hl2, hr] <;> rfl
    ·dsimp only; omega
   ·exact ⟨⟨_, rfl, ap _⟩, trivial⟩
 ·have hen := hen hip
  have hR1 : R = (i, r) := hm.symm.trans hen
  rcases hid with rfl | rfl | rfl
  all_goals
   (repeat' (first | refine bE ?_ | refine b5 ?_ | refine aV rfl ?_ | refine bA ?_ | refine aR rfl rfl rfl rfl ?_ | refine bp rfl rfl rfl rfl ?_ | refine gC rfl rfl rfl rfl rfl rfl ?_ | refine eV rfl rfl rfl rfl rfl rfl (by omega) ?_ | refine fw rfl rfl rfl rfl rfl rfl ?_ | refine de rfl rfl rfl rfl rfl rfl rfl (by omega) ?_ | refine dk rfl rfl rfl rfl rfl rfl rfl (by omega) ?_ | refine cE rfl rfl rfl rfl rfl rfl ?_ | refine jQ rfl rfl rfl (by first | rfl | assumption | exact decide_eq_true (by first | assumption | omega) | exact aP (by first | assumption | omega)) ?_ | refine jB rfl rfl rfl (by first | rfl | assumption | exact decide_eq_false (by first | assumption | omega) | exact aE (by first | assumption | omega)) ?_ | refine jJ rfl rfl rfl (by first | rfl | assumption | exact decide_eq_false (by first | assumption | omega) | exact aE (by first | assumption | omega)) rfl rfl ?_ | refine jT rfl rfl rfl (by first | rfl | assumption | exact decide_eq_true (by first | assumption | omega) | exact aP (by first | assumption | omega)) rfl rfl ?_ | refine fG rfl rfl rfl rfl rfl ?_ | refine cn rfl rfl rfl rfl (by first | rfl | assumption | exact decide_eq_true (by first | assumption | omega) | exact aP (by first | assumption | omega)) rfl ?_ | refine bY rfl rfl rfl rfl (by first | rfl | assumption | exact decide_eq_false (by first | assumption | omega) | exact aE (by first | assumption | omega)) rfl ?_ | refine gV rfl (by first | rfl | assumption | exact decide_eq_true (by first | assumption | omega) | exact aP (by first | assumption | omega)) ?_ | refine gQ rfl (by first | rfl | assumption | exact decide_eq_false (by first | assumption | omega) | exact aE (by first | assumption | omega)) ?_ | refine gD rfl rfl rfl rfl ?_ | refine cB rfl rfl rfl rfl rfl ?_ | refine dH rfl rfl rfl rfl rfl rfl rfl rfl (by omega) ?_ | refine fp rfl rfl rfl rfl rfl rfl ?_ | refine fq rfl rfl rfl rfl rfl rfl rfl ?_ | refine fv rfl rfl rfl rfl rfl rfl rfl ?_ | refine bF rfl rfl rfl rfl rfl rfl rfl rfl rfl (by omega) ?_ | refine aW rfl rfl rfl rfl rfl rfl rfl rfl rfl (by omega) ?_ | refine ao false rfl rfl rfl rfl rfl rfl rfl rfl rfl (by omega) (fun _ => rfl) ?_ | refine ao (0 : Int) rfl rfl rfl rfl rfl rfl rfl rfl rfl (by omega) (fun _ => rfl) ?_ | refine ao ([] : List UInt8) rfl rfl rfl rfl rfl rfl rfl rfl rfl (by omega) (fun _ => rfl) ?_ | refine au false rfl rfl rfl rfl rfl rfl rfl rfl rfl (by omega) (fun _ => rfl) ?_ | refine au (0 : Int) rfl rfl rfl rfl rfl rfl rfl rfl rfl (by omega) (fun _ => rfl) ?_ | refine au ([] : List UInt8) rfl rfl rfl rfl rfl rfl rfl rfl rfl (by omega) (fun _ => rfl) ?_ | refine dF rfl rfl rfl rfl rfl rfl rfl ?_ | refine dC rfl rfl rfl rfl rfl rfl rfl ?_ | refine bw (0 : Int) rfl rfl rfl rfl rfl rfl rfl (by omega) ?_ | refine bw false rfl rfl rfl rfl rfl rfl rfl (by omega) ?_ | refine db rfl rfl rfl rfl rfl rfl rfl rfl (by omega) ?_ | refine bX rfl rfl rfl rfl rfl rfl rfl rfl rfl ?_ | refine ah rfl rfl rfl rfl rfl rfl rfl rfl rfl ?_ | refine bW rfl rfl rfl rfl rfl rfl rfl rfl rfl rfl rfl rfl rfl ?_ | refine gI rfl rfl rfl rfl rfl ?_ | refine dD ?_ | refine dB ?_ | refine aL ?_ | refine aG ?_ | refine aH ?_ | refine ak ?_ | refine aw ?_ | refine ar rfl ?_ | refine noGoto_ret ?_ | refine noGoto_exit ?_ | refine noGoto_normal ?_ | refine cZ ?_ | refine dI ?_ | refine cY ?_ | refine d8 ?_ | refine b9 rfl rfl rfl rfl rfl (by simp only [List.length_append, List.length_cons, List.length_nil] <;> omega) ?_ | refine pb rfl rfl rfl (fun h => ?_) (fun h => ?_) | refine gd_N rfl rfl rfl (fun h => ?_) (fun h => ?_) | refine pS rfl rfl rfl (fun h => ?_) (fun h => ?_) | refine jk rfl (fun h => ?_) (fun h => ?_) | refine js rfl (fun h => ?_) (fun h => ?_) | refine gT rfl (fun h => ?_) (fun h => ?_)))
  all_goals
   refine gP rfl ?_; refine io ?_
   rw [hmd, hR1]; dsimp only; rw [if_pos (by omega)]
end Go.Ab.Glob
end
end
section
set_option linter.unusedVariables false
set_option linter.unusedSimpArgs false
set_option linter.unnecessarySimpa false
namespace Go.Ab.R06
open Go.Proofs Go.Ab Go.Ab.RB
attribute [local irreducible] awp d9 aU aF bO AV.sub M dU
def bP (s7 : Bytes) : Nat → Int → Option (Unit ⊕ Bool)
 | 0, _ => none
 | m + 1, t16 =>
 if t16 < (s7.length : Int) then
  (
    ck ((0 : Int) ≤ t16 ∧ t16 < (s7.length : Int)) <|
    if byt s7 t16 < 48 then
     some true
    else
     ck ((0 : Int) ≤ t16 ∧ t16 < (s7.length : Int)) <|
     some (decide (57 < byt s7 t16))
   : Option Bool).bind fun t21 =>
  if t21 = true then
   some (.inr false)
  else
   ck (inR (t16 + 1)) <|
   bP s7 m (t16 + 1)
 else
  some (.inl ())
def dT (n : Nat) (s_0 : Bytes) : Option Bool :=
 jn (
   (
     if 0 < (s_0.length : Int) then
      ck ((0 : Int) ≤ 0 ∧ 0 < (s_0.length : Int)) <|
      some (decide (byt s_0 0 = 45))
     else
      some false
    : Option Bool).bind fun t3 =>
   if t3 = true then
    ck ((0 : Int) ≤ 1 ∧ 1 ≤ (s_0.length : Int) ∧ (s_0.length : Int) ≤ (s_0.length : Int)) <|
    if sub s_0 1 (s_0.length : Int) = ([48] : Bytes) then
     some (.inr false)
    else
     some (.inl (sub s_0 1 (s_0.length : Int)))
   else
    some (.inl s_0)
  : Option (Bytes ⊕ Bool)) fun s7 =>
 jn (bP s7 n 0) fun q31 =>
 (
   if s7 = ([] : Bytes) then
    some false
   else
    ck ((0 : Int) ≤ 0 ∧ 0 < (s7.length : Int)) <|
    if byt s7 0 = 48 then
     some (decide ((s7.length : Int) = 1))
    else
     some true
  : Option Bool).bind fun t28 =>
 some t28
set_option maxHeartbeats 4000000 in
theorem nA (n : Nat) (s_0 : Bytes) (r : Bool) (h0 : dT n s_0 = some r) : aF Tryz.prog 123 [eS s_0] (· = .p (eB r)) := by
 unfold dT at h0
 refine bG good Tryz.func123 rfl rfl rfl fun w0 => mP (fun v : Bool => .p (eB v)) ?_
 refine nx 5 rfl ?_
 obtain ⟨o34, h1, hL0, hR0⟩ := eH h0
 refine kX (fun v35 : Bytes => o34 = .inl v35) (fun v35 => ⟨[(0, .p (eS v35))], []⟩) (fun v35 hv => ?_) ?_
 ·have h0 := hL0 _ hv
  refine nx 5 rfl (oLs rfl ?_)
  refine nx 3 rfl ?_
  obtain ⟨o36, h1, hL0, hR0⟩ := eH h0
  refine kEx 0 (fun v37 : Unit => o36 = .inl v37) (fun v37 => ⟨[(0, .p (eS v35))], []⟩) (fun v37 hv => ?_) ?_
  ·have h0 := hL0 _ hv
   refine nx 2 rfl (bd h0 fun o38 h1 h0 => ?_)
   refine kN o38 (fun v39 => ⟨[(2, .p (eB v39))], []⟩) ?_ ?_
   ·exact nx 2 rfl (mQ (oi h0) rfl (sr))
   refine nx 2 rfl (oS rfl rfl ?_)
   refine nx 1 rfl (fN [33, 34] h1 rfl (fun c25 h1 => ?_) fun c25 h1 => ?_)
   ·exact nx 11 rfl (eX _ (oi h1).symm (gE rfl rfl))
   refine nx 1 rfl (oI h1 rfl fun hk26 h1 => ?_)
   refine nx 2 rfl (fN [37, 38] h1 rfl (fun c27 h1 => ?_) fun c27 h1 => ?_)
   ·refine nx 1 rfl (oLs rfl ?_)
    exact nx 5 rfl (eX _ (oi h1).symm (gE rfl rfl))
   exact nx 7 rfl (eX _ (oi h1).symm (gE rfl rfl))
  refine lG (fun (q40 : Int) => ⟨[(0, .p (eS v35)), (17, .p (eI (v35.length : Int))), (18, .p (eI q40))], []⟩) (fun m (q40 : Int) => bP v35 m q40) (fun _ => rfl) 0 h1 (gE rfl rfl) ?_
  rintro m t16 h1
  replace h1 : bP v35 (m + 1) t16 = some o36 := h1
  rw [bP] at h1
  refine nx 5 rfl (fD [19] h1 rfl (fun c17 h1 => ?_) fun c17 h1 => ?_)
  ·refine nx 10 rfl (bd h1 fun o41 h2 h1 => ?_)
   refine kN o41 (fun v42 => ⟨[(0, .p (eS v35)), (17, .p (eI (v35.length : Int))), (18, .p (eI t16)), (30, .p (eB v42))], []⟩) ?_ ?_
   ·refine nx 1 rfl (fB [30] h1 rfl (fun c22 h1 => ?_) fun c22 h1 => ?_)
    ·exact nx 6 rfl (mQ (hR0 _ (oi h1).symm) rfl (sr))
    refine nx 3 rfl (oA h1 rfl rfl fun hk23 h1 => ?_)
    exact nx 2 rfl (eX (t16 + 1) h1 (gE rfl rfl))
   refine nx 3 rfl (oI h2 rfl fun hk18 h2 => ?_)
   refine nx 2 rfl (fD [24, 25] h2 rfl (fun c19 h2 => ?_) fun c19 h2 => ?_)
   ·exact nx 6 rfl (eX _ (oi h2).symm (gE rfl rfl))
   refine nx 2 rfl (oI h2 rfl fun hk20 h2 => ?_)
   exact nx 3 rfl (eX _ (oi h2).symm (gE rfl rfl))
  exact nx 2 rfl (eXi _ (oi h1).symm (gE rfl rfl))
 refine nx 1 rfl (bd h1 fun o43 h2 h1 => ?_)
 refine kN o43 (fun v44 => ⟨[(0, .p (eS s_0)), (11, .p (eB v44))], []⟩) ?_ ?_
 ·refine nx 1 rfl (fB [11] h1 rfl (fun c4 h1 => ?_) fun c4 h1 => ?_)
  ·refine nx 4 rfl (oP h1 rfl rfl rfl fun hk5 h1 => ?_)
   refine nx 5 rfl (oS rfl rfl ?_)
   refine nx 1 rfl (fD [15] h1 rfl (fun c6 h1 => ?_) fun c6 h1 => ?_)
   ·exact nx 6 rfl (mQ (hR0 _ (oi h1).symm) rfl (sr))
   exact nx 2 rfl (eX _ (oi h1).symm (gE rfl rfl))
  exact nx 2 rfl (eX _ (oi h1).symm (gE rfl rfl))
 refine nx 2 rfl (oLs rfl ?_)
 refine nx 2 rfl (fD [6, 7] h2 rfl (fun c1 h2 => ?_) fun c1 h2 => ?_)
 ·refine nx 1 rfl (oI h2 rfl fun hk2 h2 => ?_)
  exact nx 3 rfl (eX _ (oi h2).symm (gE rfl rfl))
 exact nx 5 rfl (eX _ (oi h2).symm (gE rfl rfl))
def iR (n_0 : Int) : Option Bool :=
 (
   if (-9007199254740992) ≤ n_0 then
    some (decide (n_0 ≤ 9007199254740992))
   else
    some false
  : Option Bool).bind fun t2 =>
 some t2
set_option maxHeartbeats 4000000 in
theorem qD (n_0 : Int) (r : Bool) (h0 : iR n_0 = some r) : aF Tryz.prog 125 [eI n_0] (· = .p (eB r)) := by
 unfold iR at h0
 refine bG good Tryz.func125 rfl rfl rfl fun w0 => mP (fun v : Bool => .p (eB v)) ?_
 refine nx 5 rfl (bd h0 fun o4 h1 h0 => ?_)
 refine kN o4 (fun v5 => ⟨[(2, .p (eB v5))], []⟩) ?_ ?_
 ·exact nx 2 rfl (mQ (oi h0) rfl (sr))
 refine nx 4 rfl (fD [4, 5] h1 rfl (fun c1 h1 => ?_) fun c1 h1 => ?_)
 ·exact nx 5 rfl (eX _ (oi h1).symm (gE rfl rfl))
 exact nx 5 rfl (eX _ (oi h1).symm (gE rfl rfl))
def fI (n : Nat) (s_0 : Bytes) : Option (Int × Int) :=
 (dT n s_0).bind fun r1 =>
 if (!r1) = true then
  some (0, 2)
 else
  (g6 s_0 10 64).bind fun r4 =>
  (
    if r4.2 = true then
     some true
    else
     (iR r4.1).bind fun r7 =>
     some (!r7)
   : Option Bool).bind fun t9 =>
  if t9 = true then
   some (0, 5)
  else
   some (r4.1, 0)
set_option maxHeartbeats 4000000 in
theorem qE (n : Nat) (s_0 : Bytes) (r : Int × Int) (h0 : fI n s_0 = some r) : aF Tryz.prog 98 [eS s_0] (· = .tuple [.p (eI r.1), .p (eI r.2)]) := by
 unfold fI at h0
 refine bG good Tryz.func98 rfl rfl rfl fun w0 => mP (fun v : Int × Int => .tuple [.p (eI v.1), .p (eI v.2)]) ?_
 refine nx 9 rfl (bd h0 fun r1 e2 h0 => ?_)
 refine oK (nA _ s_0 _ e2) rfl ⟨sr, trivial⟩ Tryz.call123 rfl (nx 2 rfl ?_)
 refine fB [8] h0 rfl (fun c3 h0 => ?_) fun c3 h0 => ?_
 ·exact nx 7 rfl (mQ (oi h0) rfl (bV ⟨sr, sr, trivial⟩))
 refine nx 5 rfl (bd h0 fun r4 e5 h0 => ?_)
 refine oK (nF s_0 10 64 _ e5) rfl ⟨sr, sr, sr, trivial⟩ Tryz.call124 (wY (qi rfl (qi (Br _) vN))) (nx 8 rfl ?_)
 refine bd h0 fun o12 h1 h0 => kN o12 (fun v13 => ⟨[(4, .p (eI r4.1)), (20, .p (eB v13))], []⟩) ?_ ?_
 ·refine nx 1 rfl (fB [20] h0 rfl (fun c10 h0 => ?_) fun c10 h0 => ?_)
  ·exact nx 7 rfl (mQ (oi h0) rfl (bV ⟨sr, sr, trivial⟩))
  exact nx 9 rfl (mQ (oi h0) rfl (bV ⟨sr, sr, trivial⟩))
 refine nx 2 rfl (mO rfl (BM rfl rfl rfl rfl rfl rfl (.inr ⟨rfl, rfl⟩) ?_))
 refine nx 1 rfl (fB [15, 16] h1 rfl (fun c6 h1 => ?_) fun c6 h1 => ?_)
 ·exact nx 5 rfl (eX _ (oi h1).symm (gE rfl rfl))
 refine nx 1 rfl (bd h1 fun r7 e8 h1 => ?_)
 refine oK (qD r4.1 _ e8) rfl ⟨sr, trivial⟩ Tryz.call125 rfl (nx 3 rfl ?_)
 exact eX _ (oi h1).symm (gE rfl rfl)
def cS (s_0 : Bytes) : Nat → Int → (List UInt8) → Option (List UInt8)
 | 0, _, _ => none
 | m + 1, t37, f38 =>
 if t37 < (s_0.length : Int) then
  ck ((0 : Int) ≤ t37 ∧ t37 < (s_0.length : Int)) <|
  (
    if byt s_0 t37 = 10 then
     (ba (aD.mk f38) ([92, 110] : Bytes)).bind fun r42 =>
     some r42.2.2.fbuf
    else
     if byt s_0 t37 = 13 then
      (ba (aD.mk f38) ([92, 114] : Bytes)).bind fun r45 =>
      some r45.2.2.fbuf
     else
      if byt s_0 t37 = 9 then
       (ba (aD.mk f38) ([92, 116] : Bytes)).bind fun r48 =>
       some r48.2.2.fbuf
      else
       (
         if byt s_0 t37 = 34 then
          some true
         else
          some (decide (byt s_0 t37 = 92))
        : Option Bool).bind fun t51 =>
       if t51 = true then
        (bI (aD.mk f38) 92).bind fun r53 =>
        (bI (aD.mk r53.2.fbuf) (byt s_0 t37)).bind fun r55 =>
        some r55.2.fbuf
       else
        (
          if byt s_0 t37 < 32 then
           some true
          else
           some (decide (byt s_0 t37 = 127))
         : Option Bool).bind fun t58 =>
        if t58 = true then
         ck (inR (byt s_0 t37)) <|
         (gO (byt s_0 t37) 16).bind fun r61 =>
         ck (([92, 117, 123] : Bytes).length + r61.length ≤ 9223372036854775807) <|
         ck ((([92, 117, 123] : Bytes) ++ r61).length + ([125] : Bytes).length ≤ 9223372036854775807) <|
         (ba (aD.mk f38) ((([92, 117, 123] : Bytes) ++ r61) ++ ([125] : Bytes))).bind fun r65 =>
         some r65.2.2.fbuf
        else
         (bI (aD.mk f38) (byt s_0 t37)).bind fun r67 =>
         some r67.2.fbuf
   : Option (List UInt8)).bind fun f69 =>
  ck (inR (t37 + 1)) <|
  cS s_0 m (t37 + 1) f69
 else
  some f38
def eQ (n : Nat) (s_0 : Bytes) : Option Bytes :=
 (bI (aD.mk []) 34).bind fun r1 =>
 (cS s_0 n 0 r1.2.fbuf).bind fun f73 =>
 (bI (aD.mk f73) 34).bind fun r74 =>
 (dl (aD.mk r74.2.fbuf)).bind fun r76 =>
 some r76.1
set_option maxHeartbeats 4000000 in
theorem lY (n : Nat) (s_0 : Bytes) (r : Bytes) (h0 : eQ n s_0 = some r) : aF Tryz.prog 96 [eS s_0] (· = .p (eS r)) := by
 unfold eQ at h0
 refine bG good Tryz.func96 rfl rfl rfl fun w0 => mP (fun v : Bytes => .p (eS v)) ?_
 refine nx 6 rfl (mO rfl (pN rfl rfl rfl rfl rfl rfl rfl ?_))
 refine nx 3 rfl (bd h0 fun r1 e2 h0 => ?_)
 refine mO rfl (bo [3] [890000] 101000 101001 (cR (aD.mk []) 34 _ e2) rfl rfl rfl rfl rfl ⟨sr, sr, trivial⟩ rfl rfl ⟨⟨_, rfl, ⟨sr, AV.sub_nilvec _ _ _, trivial⟩⟩, trivial⟩ rfl rfl rfl rfl rfl rfl rfl rfl Tryz.call120 rfl rfl ?_)
 refine nx 5 rfl (oLs rfl ?_)
 refine nx 3 rfl (bd h0 fun o82 h1 h0 => ?_)
 refine kE 0 o82 (fun v83 => ⟨[(3, .ptr 3 0)], [(3, [.bptr 110 2 3, .vec 108000 1 (5 + 1) (v83.map eU)])]⟩) ?_ ?_
 ·refine nx 3 rfl (bd h0 fun r74 e75 h0 => ?_)
  refine mO rfl (bo [3] [108000] 116000 116001 (cR (aD.mk o82) 34 _ e75) rfl rfl rfl rfl rfl ⟨sr, sr, trivial⟩ rfl rfl ⟨⟨_, rfl, ⟨sr, sr, trivial⟩⟩, trivial⟩ rfl rfl rfl rfl rfl rfl rfl rfl Tryz.call120 rfl rfl ?_)
  refine nx 3 rfl (bd h0 fun r76 e77 h0 => ?_)
  refine mO rfl (bo [3] [116000] 117000 117000 (fA (aD.mk r74.2.fbuf) _ e77) rfl rfl rfl rfl rfl ⟨sr, trivial⟩ rfl rfl ⟨⟨_, rfl, ⟨sr, sr, trivial⟩⟩, trivial⟩ rfl rfl rfl rfl rfl rfl rfl rfl Tryz.call80 rfl rfl ?_)
  exact nx 3 rfl (mQ (oi h0) rfl (sr))
 refine lG (fun (q84 : Int × (List UInt8)) => ⟨[(0, .p (eS s_0)), (3, .ptr 3 0), (8, .p (eI (s_0.length : Int))), (9, .p (eI q84.1))], [(3, [.bptr 110 2 3, .vec 108000 1 (5 + 1) (q84.2.map eU)])]⟩) (fun m (q84 : Int × (List UInt8)) => cS s_0 m q84.1 q84.2) (fun _ => rfl) (0, r1.2.fbuf) h1 (bC (bz 101000 108000 rfl rfl rfl rfl rfl) (gE rfl rfl)) ?_
 rintro m ⟨t37, f38⟩ h1
 replace h1 : cS s_0 (m + 1) t37 f38 = some o82 := h1
 rw [cS] at h1
 refine nx 5 rfl (fD [10] h1 rfl (fun c39 h1 => ?_) fun c39 h1 => ?_)
 ·refine nx 13 rfl (oI h1 rfl fun hk40 h1 => ?_)
  refine nx 2 rfl (bd h1 fun o85 h2 h1 => ?_)
  refine kN o85 (fun v86 => ⟨[(0, .p (eS s_0)), (3, .ptr 3 0), (8, .p (eI (s_0.length : Int))), (9, .p (eI t37))], [(3, [.bptr 110 2 3, .vec 115000 1 (5 + 1) (v86.map eU)])]⟩) ?_ ?_
  ·refine nx 2 rfl (oA h1 rfl rfl fun hk70 h1 => ?_)
   exact nx 2 rfl (eX (t37 + 1, o85) h1 (bC (bz 115000 108000 rfl rfl rfl rfl rfl) (gE rfl rfl)))
  refine nx 7 rfl (fD [17, 19] h2 rfl (fun c41 h2 => ?_) fun c41 h2 => ?_)
  ·refine nx 2 rfl (bd h2 fun r42 e43 h2 => ?_)
   refine mO rfl (bo [3] [108000] 109000 109001 (bM (aD.mk f38) ([92, 110] : Bytes) _ e43) rfl rfl rfl rfl rfl ⟨sr, sr, trivial⟩ rfl rfl ⟨⟨_, rfl, ⟨sr, sr, trivial⟩⟩, trivial⟩ rfl rfl rfl rfl rfl rfl rfl rfl Tryz.call78 rfl rfl ?_)
   exact nx 1 rfl (eX _ (oi h2).symm (bC (bz 109000 115000 rfl rfl rfl rfl rfl) (gE rfl rfl)))
  refine nx 7 rfl (fD [21, 23] h2 rfl (fun c44 h2 => ?_) fun c44 h2 => ?_)
  ·refine nx 2 rfl (bd h2 fun r45 e46 h2 => ?_)
   refine mO rfl (bo [3] [108000] 110000 110001 (bM (aD.mk f38) ([92, 114] : Bytes) _ e46) rfl rfl rfl rfl rfl ⟨sr, sr, trivial⟩ rfl rfl ⟨⟨_, rfl, ⟨sr, sr, trivial⟩⟩, trivial⟩ rfl rfl rfl rfl rfl rfl rfl rfl Tryz.call78 rfl rfl ?_)
   exact nx 1 rfl (eX _ (oi h2).symm (bC (bz 110000 115000 rfl rfl rfl rfl rfl) (gE rfl rfl)))
  refine nx 7 rfl (fD [25, 27] h2 rfl (fun c47 h2 => ?_) fun c47 h2 => ?_)
  ·refine nx 2 rfl (bd h2 fun r48 e49 h2 => ?_)
   refine mO rfl (bo [3] [108000] 111000 111001 (bM (aD.mk f38) ([92, 116] : Bytes) _ e49) rfl rfl rfl rfl rfl ⟨sr, sr, trivial⟩ rfl rfl ⟨⟨_, rfl, ⟨sr, sr, trivial⟩⟩, trivial⟩ rfl rfl rfl rfl rfl rfl rfl rfl Tryz.call78 rfl rfl ?_)
   exact nx 1 rfl (eX _ (oi h2).symm (bC (bz 111000 115000 rfl rfl rfl rfl rfl) (gE rfl rfl)))
  refine nx 2 rfl (bd h2 fun o87 h3 h2 => ?_)
  refine kN o87 (fun v88 => ⟨[(0, .p (eS s_0)), (3, .ptr 3 0), (5, .p (eK .u8 (byt s_0 t37))), (8, .p (eI (s_0.length : Int))), (9, .p (eI t37)), (29, .p (eB v88))], [(3, [.bptr 110 2 3, .vec 108000 1 (5 + 1) (f38.map eU)])]⟩) ?_ ?_
  ·refine nx 1 rfl (fB [29] h2 rfl (fun c52 h2 => ?_) fun c52 h2 => ?_)
   ·refine nx 3 rfl (bd h2 fun r53 e54 h2 => ?_)
    refine mO rfl (bo [3] [108000] 112000 112001 (cR (aD.mk f38) 92 _ e54) rfl rfl rfl rfl rfl ⟨sr, sr, trivial⟩ rfl rfl ⟨⟨_, rfl, ⟨sr, sr, trivial⟩⟩, trivial⟩ rfl rfl rfl rfl rfl rfl rfl rfl Tryz.call120 rfl rfl ?_)
    refine nx 3 rfl (bd h2 fun r55 e56 h2 => ?_)
    refine mO rfl (bo [3] [112000] 113000 113001 (cR (aD.mk r53.2.fbuf) (byt s_0 t37) _ e56) rfl rfl rfl rfl rfl ⟨sr, sr, trivial⟩ rfl rfl ⟨⟨_, rfl, ⟨sr, sr, trivial⟩⟩, trivial⟩ rfl rfl rfl rfl rfl rfl rfl rfl Tryz.call120 rfl rfl ?_)
    exact nx 1 rfl (eX _ (oi h2).symm (bC (bz 113000 115000 rfl rfl rfl rfl rfl) (gE rfl rfl)))
   refine nx 2 rfl (bd h2 fun o89 h3 h2 => ?_)
   refine kN o89 (fun v90 => ⟨[(0, .p (eS s_0)), (3, .ptr 3 0), (5, .p (eK .u8 (byt s_0 t37))), (8, .p (eI (s_0.length : Int))), (9, .p (eI t37)), (39, .p (eB v90))], [(3, [.bptr 110 2 3, .vec 108000 1 (5 + 1) (f38.map eU)])]⟩) ?_ ?_
   ·refine nx 1 rfl (fB [39] h2 rfl (fun c59 h2 => ?_) fun c59 h2 => ?_)
    ·refine nx 3 rfl (cc' h2 fun hk60 h2 => ?_)
     refine mO rfl (vc rfl rfl rfl rfl rfl rfl rfl rfl (zS hk60) ?_)
     refine bd h2 fun r61 e62 h2 => oK (mz (byt s_0 t37) 16 _ e62) rfl ⟨sr, sr, trivial⟩ Tryz.call121 rfl (oC h2 rfl fun hk63 h2 => ?_)
     refine oC h2 rfl fun hk64 h2 => bd h2 fun r65 e66 h2 => mO rfl (bo [3] [108000] 114000 114001 (bM (aD.mk f38) ((([92, 117, 123] : Bytes) ++ r61) ++ ([125] : Bytes)) _ e66) rfl rfl rfl rfl rfl ⟨sr, sr, trivial⟩ rfl rfl ⟨⟨_, rfl, ⟨sr, sr, trivial⟩⟩, trivial⟩ rfl rfl rfl rfl rfl rfl rfl rfl Tryz.call78 rfl rfl ?_)
     exact nx 1 rfl (eX _ (oi h2).symm (bC (bz 114000 115000 rfl rfl rfl rfl rfl) (gE rfl rfl)))
    refine nx 3 rfl (bd h2 fun r67 e68 h2 => ?_)
    refine mO rfl (bo [3] [108000] 115000 115001 (cR (aD.mk f38) (byt s_0 t37) _ e68) rfl rfl rfl rfl rfl ⟨sr, sr, trivial⟩ rfl rfl ⟨⟨_, rfl, ⟨sr, sr, trivial⟩⟩, trivial⟩ rfl rfl rfl rfl rfl rfl rfl rfl Tryz.call120 rfl rfl ?_)
    exact nx 1 rfl (eX _ (oi h2).symm (gE rfl rfl))
   refine nx 4 rfl (fD [41, 42] h3 rfl (fun c57 h3 => ?_) fun c57 h3 => ?_)
   ·exact nx 5 rfl (eX _ (oi h3).symm (gE rfl rfl))
   exact nx 5 rfl (eX _ (oi h3).symm (gE rfl rfl))
  refine nx 4 rfl (fD [31, 32] h3 rfl (fun c50 h3 => ?_) fun c50 h3 => ?_)
  ·exact nx 5 rfl (eX _ (oi h3).symm (gE rfl rfl))
  exact nx 5 rfl (eX _ (oi h3).symm (gE rfl rfl))
 exact nx 2 rfl (eXi _ (oi h1).symm (gE rfl rfl))
def bK (s_0 : Bytes) : Nat → Int → Int → Option (Int × Int)
 | 0, _, _ => none
 | m + 1, n11, i12 =>
 (
   if i12 < (s_0.length : Int) then
    some (decide (i12 < 6))
   else
    some false
  : Option Bool).bind fun t14 =>
 if t14 = true then
  ck ((0 : Int) ≤ i12 ∧ i12 < (s_0.length : Int)) <|
  (strings_IndexByte ([48, 49, 50, 51, 52, 53, 54, 55, 56, 57, 97, 98, 99, 100, 101, 102] : Bytes) (byt s_0 i12)).bind fun r17 =>
  if r17 < 0 then
   some (n11, i12)
  else
   ck (inR (i12 + 1)) <|
   bK s_0 m (IntKind.wrap .i32 ((IntKind.wrap .i32 (16 * n11)) + (IntKind.wrap .i32 (r17)))) (i12 + 1)
 else
  some (n11, i12)
def cQ (n : Nat) (s_0 : Bytes) : Option (Int × Int × Int) :=
 (bK s_0 n 0 0).bind fun q39 =>
 if q39.2 = (s_0.length : Int) then
  some (0, 0, 40)
 else
  (
    ck ((0 : Int) ≤ q39.2 ∧ q39.2 < (s_0.length : Int)) <|
    if byt s_0 q39.2 = 125 then
     if q39.2 = 0 then
      some true
     else
      if 1 < q39.2 then
       ck ((0 : Int) ≤ 0 ∧ 0 < (s_0.length : Int)) <|
       if byt s_0 0 = 48 then
        some true
       else
        (dm q39.1).bind fun r32 =>
        some (!r32)
      else
       (dm q39.1).bind fun r34 =>
       some (!r34)
    else
     some true
   : Option Bool).bind fun t36 =>
  if t36 = true then
   some (0, 0, 2)
  else
   ck (inR (q39.2 + 1)) <|
   some (q39.1, q39.2 + 1, 0)
set_option maxHeartbeats 4000000 in
theorem mf (n : Nat) (s_0 : Bytes) (r : Int × Int × Int) (h0 : cQ n s_0 = some r) : aF Tryz.prog 138 [eS s_0] (· = .tuple [.p (eK .i32 r.1), .p (eI r.2.1), .p (eI r.2.2)]) := by
 unfold cQ at h0
 refine bG good Tryz.func138 rfl rfl rfl fun w0 => mP (fun v : Int × Int × Int => .tuple [.p (eK .i32 v.1), .p (eI v.2.1), .p (eI v.2.2)]) ?_
 refine nx 13 rfl (bd h0 fun o42 h1 h0 => ?_)
 refine kE 0 o42 (fun v43 => ⟨[(0, .p (eS s_0)), (5, .p (eK .i32 v43.1)), (6, .p (eI v43.2))], []⟩) ?_ ?_
 ·refine nx 6 rfl (oLs rfl ?_)
  refine nx 2 rfl (fD [32] h0 rfl (fun c25 h0 => ?_) fun c25 h0 => ?_)
  ·exact nx 8 rfl (mQ (oi h0) rfl (bV ⟨sr, sr, sr, trivial⟩))
  refine nx 4 rfl (bd h0 fun o44 h1 h0 => ?_)
  refine kN o44 (fun v45 => ⟨[(5, .p (eK .i32 o42.1)), (6, .p (eI o42.2)), (54, .p (eB v45))], []⟩) ?_ ?_
  ·refine nx 1 rfl (fB [54] h0 rfl (fun c37 h0 => ?_) fun c37 h0 => ?_)
   ·exact nx 8 rfl (mQ (oi h0) rfl (bV ⟨sr, sr, sr, trivial⟩))
   refine nx 6 rfl (oA h0 rfl rfl fun hk38 h0 => ?_)
   exact nx 5 rfl (mQ (oi h0) rfl (bV ⟨sr, sr, sr, trivial⟩))
  refine nx 3 rfl (oI h1 rfl fun hk26 h1 => ?_)
  refine nx 2 rfl (fN [36, 37] h1 rfl (fun c27 h1 => ?_) fun c27 h1 => ?_)
  ·refine nx 4 rfl (fD [39, 40, 41] h1 rfl (fun c28 h1 => ?_) fun c28 h1 => ?_)
   ·exact nx 14 rfl (eX _ (oi h1).symm (gE rfl rfl))
   refine nx 3 rfl (fD [43, 44] h1 rfl (fun c29 h1 => ?_) fun c29 h1 => ?_)
   ·refine nx 1 rfl (oI h1 rfl fun hk30 h1 => ?_)
    refine nx 4 rfl (fD [47, 48, 49, 50] h1 rfl (fun c31 h1 => ?_) fun c31 h1 => ?_)
    ·exact nx 5 rfl (eX _ (oi h1).symm (gE rfl rfl))
    refine nx 1 rfl (bd h1 fun r32 e33 h1 => ?_)
    refine oK (ia o42.1 _ e33) rfl ⟨sr, trivial⟩ Tryz.call134 rfl (nx 3 rfl ?_)
    exact eX _ (oi h1).symm (gE rfl rfl)
   refine nx 7 rfl (bd h1 fun r34 e35 h1 => ?_)
   refine oK (ia o42.1 _ e35) rfl ⟨sr, trivial⟩ Tryz.call134 rfl (nx 3 rfl ?_)
   exact eX _ (oi h1).symm (gE rfl rfl)
  exact nx 18 rfl (eX _ (oi h1).symm (gE rfl rfl))
 refine lG (fun (q46 : Int × Int) => ⟨[(0, .p (eS s_0)), (5, .p (eK .i32 q46.1)), (6, .p (eI q46.2))], []⟩) (fun m (q46 : Int × Int) => bK s_0 m q46.1 q46.2) (fun _ => rfl) (0, 0) h1 (gE rfl rfl) ?_
 rintro m ⟨n11, i12⟩ h1
 replace h1 : bK s_0 (m + 1) n11 i12 = some o42 := h1
 rw [bK] at h1
 refine nx 2 rfl (bd h1 fun o47 h2 h1 => ?_)
 refine kN o47 (fun v48 => ⟨[(0, .p (eS s_0)), (5, .p (eK .i32 n11)), (6, .p (eI i12)), (15, .p (eB v48))], []⟩) ?_ ?_
 ·refine nx 1 rfl (fB [15] h1 rfl (fun c15 h1 => ?_) fun c15 h1 => ?_)
  ·refine nx 8 rfl (oI h1 rfl fun hk16 h1 => ?_)
   refine bd h1 fun r17 e18 h1 => oK (jO ([48, 49, 50, 51, 52, 53, 54, 55, 56, 57, 97, 98, 99, 100, 101, 102] : Bytes) (byt s_0 i12) _ e18) rfl ⟨sr, sr, trivial⟩ Tryz.call97 rfl (nx 8 rfl ?_)
   refine fD [23] h1 rfl (fun c19 h1 => ?_) fun c19 h1 => ?_
   ·exact nx 2 rfl (eXi _ (oi h1).symm (gE rfl rfl))
   refine nx 12 rfl (oA h1 rfl rfl fun hk20 h1 => ?_)
   exact nx 2 rfl (eX (IntKind.wrap .i32 ((IntKind.wrap .i32 (16 * n11)) + (IntKind.wrap .i32 (r17))), i12 + 1) h1 (gE rfl rfl))
  exact nx 2 rfl (eXi _ (oi h1).symm (gE rfl rfl))
 refine nx 3 rfl (oLs rfl ?_)
 refine nx 2 rfl (fD [11, 12] h2 rfl (fun c13 h2 => ?_) fun c13 h2 => ?_)
 ·exact nx 4 rfl (eX _ (oi h2).symm (gE rfl rfl))
 exact nx 4 rfl (eX _ (oi h2).symm (gE rfl rfl))
def eY (n : Nat) (s_0 : Bytes) : Option (Int × Int × Int) :=
 if s_0 = ([] : Bytes) then
  some (0, 0, 40)
 else
  ck ((0 : Int) ≤ 0 ∧ 0 < (s_0.length : Int)) <|
  if byt s_0 0 = 110 then
   some (10, 1, 0)
  else
   if byt s_0 0 = 114 then
    some (13, 1, 0)
   else
    if byt s_0 0 = 116 then
     some (9, 1, 0)
    else
     (
       if byt s_0 0 = 34 then
        some true
       else
        some (decide (byt s_0 0 = 92))
      : Option Bool).bind fun t7 =>
     if t7 = true then
      ck ((0 : Int) ≤ 0 ∧ 0 < (s_0.length : Int)) <|
      some (IntKind.wrap .i32 (byt s_0 0), 1, 0)
     else
      if byt s_0 0 = 117 then
       if (s_0.length : Int) = 1 then
        some (0, 0, 40)
       else
        ck ((0 : Int) ≤ 1 ∧ 1 < (s_0.length : Int)) <|
        if byt s_0 1 = 123 then
         ck ((0 : Int) ≤ 2 ∧ 2 ≤ (s_0.length : Int) ∧ (s_0.length : Int) ≤ (s_0.length : Int)) <|
         (cQ n (sub s_0 2 (s_0.length : Int))).bind fun r15 =>
         ck (inR (r15.2.1 + 2)) <|
         some (r15.1, r15.2.1 + 2, r15.2.2)
        else
         some (0, 0, 2)
      else
       some (0, 0, 2)
set_option maxHeartbeats 4000000 in
theorem pz (n : Nat) (s_0 : Bytes) (r : Int × Int × Int) (h0 : eY n s_0 = some r) : aF Tryz.prog 117 [eS s_0] (· = .tuple [.p (eK .i32 r.1), .p (eI r.2.1), .p (eI r.2.2)]) := by
 unfold eY at h0
 refine bG good Tryz.func117 rfl rfl rfl fun w0 => mP (fun v : Int × Int × Int => .tuple [.p (eK .i32 v.1), .p (eI v.2.1), .p (eI v.2.2)]) ?_
 refine nx 10 rfl (oS rfl rfl ?_)
 refine nx 1 rfl (fD [9] h0 rfl (fun c1 h0 => ?_) fun c1 h0 => ?_)
 ·exact nx 8 rfl (mQ (oi h0) rfl (bV ⟨sr, sr, sr, trivial⟩))
 refine nx 6 rfl (oI h0 rfl fun hk2 h0 => ?_)
 refine nx 7 rfl (fD [12, 13] h0 rfl (fun c3 h0 => ?_) fun c3 h0 => ?_)
 ·exact nx 8 rfl (mQ (oi h0) rfl (bV ⟨sr, sr, sr, trivial⟩))
 refine nx 6 rfl (fD [14, 15] h0 rfl (fun c4 h0 => ?_) fun c4 h0 => ?_)
 ·exact nx 8 rfl (mQ (oi h0) rfl (bV ⟨sr, sr, sr, trivial⟩))
 refine nx 6 rfl (fD [16, 17] h0 rfl (fun c5 h0 => ?_) fun c5 h0 => ?_)
 ·exact nx 8 rfl (mQ (oi h0) rfl (bV ⟨sr, sr, sr, trivial⟩))
 refine nx 2 rfl (bd h0 fun o19 h1 h0 => ?_)
 refine kN o19 (fun v20 => ⟨[(0, .p (eS s_0)), (11, .p (eK .u8 (byt s_0 0))), (18, .p (eB v20))], []⟩) ?_ ?_
 ·refine nx 1 rfl (fB [18] h0 rfl (fun c8 h0 => ?_) fun c8 h0 => ?_)
  ·refine nx 4 rfl (oI h0 rfl fun hk9 h0 => ?_)
   exact nx 6 rfl (mQ (oi h0) rfl (bV ⟨sr, sr, sr, trivial⟩))
  refine nx 6 rfl (fD [24, 25] h0 rfl (fun c10 h0 => ?_) fun c10 h0 => ?_)
  ·refine nx 5 rfl (oLs rfl ?_)
   refine nx 2 rfl (fD [28] h0 rfl (fun c11 h0 => ?_) fun c11 h0 => ?_)
   ·exact nx 8 rfl (mQ (oi h0) rfl (bV ⟨sr, sr, sr, trivial⟩))
   refine nx 6 rfl (oI h0 rfl fun hk12 h0 => ?_)
   refine nx 2 rfl (fN [31] h0 rfl (fun c13 h0 => ?_) fun c13 h0 => ?_)
   ·refine nx 5 rfl (oP h0 rfl rfl rfl fun hk14 h0 => ?_)
    refine bd h0 fun r15 e16 h0 => oK (mf _ (sub s_0 2 (s_0.length : Int)) _ e16) rfl ⟨sr, trivial⟩ Tryz.call138 rfl (nx 12 rfl ?_)
    refine oA h0 rfl rfl fun hk17 h0 => nx 5 rfl (mG (gE (t := ⟨[(2, .p (eK .i32 r15.1)), (3, .p (eI (r15.2.1 + 2))), (4, .p (eI r15.2.2))], []⟩) rfl rfl) ?_)
    exact nx 1 rfl (mQ (oi h0) rfl (bV ⟨sr, sr, sr, trivial⟩))
   exact nx 8 rfl (mQ (oi h0) rfl (bV ⟨sr, sr, sr, trivial⟩))
  exact nx 9 rfl (mQ (oi h0) rfl (bV ⟨sr, sr, sr, trivial⟩))
 refine nx 5 rfl (fD [18, 19] h1 rfl (fun c6 h1 => ?_) fun c6 h1 => ?_)
 ·exact nx 2 rfl (eX _ (oi h1).symm (gE rfl rfl))
 exact nx 5 rfl (eX _ (oi h1).symm (gE rfl rfl))
def cM (n : Nat) (s_0 : Bytes) : Nat → Int → (List UInt8) → Option ((Int × (List UInt8)) ⊕ (Bytes × Int × Int))
 | 0, _, _ => none
 | m + 1, at31, f32 =>
 (
   if at31 < (s_0.length : Int) then
    ck ((0 : Int) ≤ at31 ∧ at31 < (s_0.length : Int)) <|
    some (!decide (byt s_0 at31 = 34))
   else
    some false
  : Option Bool).bind fun t35 =>
 if t35 = true then
  ck ((0 : Int) ≤ at31 ∧ at31 ≤ (s_0.length : Int) ∧ (s_0.length : Int) ≤ (s_0.length : Int)) <|
  (dc (sub s_0 at31 (s_0.length : Int))).bind fun r38 =>
  jn (
    if r38.1 = 92 then
     ck (inR (at31 + 1)) <|
     ck ((0 : Int) ≤ at31 + 1 ∧ at31 + 1 ≤ (s_0.length : Int) ∧ (s_0.length : Int) ≤ (s_0.length : Int)) <|
     (eY n (sub s_0 (at31 + 1) (s_0.length : Int))).bind fun r43 =>
     if r43.2.2 = 0 then
      ck (inR (r43.2.1 + 1)) <|
      some (.inl (r43.1, r43.2.1 + 1))
     else
      some (.inr (.inr (([] : Bytes), 0, r43.2.2)))
    else
     (
       if r38.1 = 65533 then
        if r38.2 = 1 then
         some true
        else
         if r38.1 < 32 then
          some true
         else
          some (decide (r38.1 = 127))
       else
        if r38.1 < 32 then
         some true
        else
         some (decide (r38.1 = 127))
      : Option Bool).bind fun t51 =>
     if t51 = true then
      some (.inr (.inr (([] : Bytes), 0, 2)))
     else
      some (.inl (r38.1, r38.2))
   : Option ((Int × Int) ⊕ ((Int × (List UInt8)) ⊕ (Bytes × Int × Int)))) fun q71 =>
  (du (aD.mk f32) q71.1).bind fun r55 =>
  ck (inR (at31 + q71.2)) <|
  cM n s_0 m (at31 + q71.2) r55.2.2.fbuf
 else
  some (.inl (at31, f32))
def em (n : Nat) (s_0 : Bytes) : Option (Bytes × Int × Int) :=
 if s_0 = ([] : Bytes) then
  some (([] : Bytes), 0, 40)
 else
  ck ((0 : Int) ≤ 0 ∧ 0 < (s_0.length : Int)) <|
  if byt s_0 0 = 34 then
   jn (cM n s_0 n 1 []) fun q69 =>
   if q69.1 = (s_0.length : Int) then
    some (([] : Bytes), 0, 40)
   else
    (ib (aD.mk q69.2)).bind fun r63 =>
    if 4096 < r63.1 then
     some (([] : Bytes), 0, 3)
    else
     (dl (aD.mk r63.2.fbuf)).bind fun r66 =>
     ck (inR (q69.1 + 1)) <|
     some (r66.1, q69.1 + 1, 0)
  else
   some (([] : Bytes), 0, 2)
set_option maxHeartbeats 4000000 in
theorem oZ (n : Nat) (s_0 : Bytes) (r : Bytes × Int × Int) (h0 : em n s_0 = some r) : aF Tryz.prog 95 [eS s_0] (· = .tuple [.p (eS r.1), .p (eI r.2.1), .p (eI r.2.2)]) := by
 unfold em at h0
 refine bG good Tryz.func95 rfl rfl rfl fun w0 => mP (fun v : Bytes × Int × Int => .tuple [.p (eS v.1), .p (eI v.2.1), .p (eI v.2.2)]) ?_
 refine nx 10 rfl (oS rfl rfl ?_)
 refine nx 1 rfl (fD [13] h0 rfl (fun c1 h0 => ?_) fun c1 h0 => ?_)
 ·exact nx 8 rfl (mQ (oi h0) rfl (bV ⟨sr, sr, sr, trivial⟩))
 refine nx 6 rfl (oI h0 rfl fun hk2 h0 => ?_)
 refine nx 2 rfl (fN [16] h0 rfl (fun c3 h0 => ?_) fun c3 h0 => ?_)
 ·refine nx 4 rfl (mO rfl (pN rfl rfl rfl rfl rfl rfl rfl ?_))
  refine nx 7 rfl ?_
  obtain ⟨o73, h1, hL0, hR0⟩ := eH h0
  refine kEx 0 (fun v74 : Int × (List UInt8) => o73 = .inl v74) (fun v74 => ⟨[(0, .p (eS s_0)), (5, .ptr 5 0), (6, .p (eI v74.1))], [(5, [.bptr 110 2 5, .vec 101000 1 (5 + 1) (v74.2.map eU)])]⟩) (fun v74 hv => ?_) ?_
  ·have h0 := hL0 _ hv
   refine nx 6 rfl (oLs rfl ?_)
   refine nx 2 rfl (fD [73] h0 rfl (fun c62 h0 => ?_) fun c62 h0 => ?_)
   ·exact nx 8 rfl (mQ (oi h0) rfl (bV ⟨sr, sr, sr, trivial⟩))
   refine nx 5 rfl (bd h0 fun r63 e64 h0 => ?_)
   refine mO rfl (bo [5] [101000] 103000 103001 (lC (aD.mk v74.2) _ e64) rfl rfl rfl rfl rfl ⟨sr, trivial⟩ rfl rfl ⟨⟨_, rfl, ⟨sr, sr, trivial⟩⟩, trivial⟩ rfl rfl rfl rfl rfl rfl rfl rfl Tryz.call119 rfl rfl ?_)
   refine nx 2 rfl (fD [75] h0 rfl (fun c65 h0 => ?_) fun c65 h0 => ?_)
   ·exact nx 8 rfl (mQ (oi h0) rfl (bV ⟨sr, sr, sr, trivial⟩))
   refine nx 4 rfl (bd h0 fun r66 e67 h0 => ?_)
   refine mO rfl (bo [5] [103000] 104000 104000 (fA (aD.mk r63.2.fbuf) _ e67) rfl rfl rfl rfl rfl ⟨sr, trivial⟩ rfl rfl ⟨⟨_, rfl, ⟨sr, sr, trivial⟩⟩, trivial⟩ rfl rfl rfl rfl rfl rfl rfl rfl Tryz.call80 rfl rfl ?_)
   refine nx 1 rfl (oA h0 rfl rfl fun hk68 h0 => ?_)
   exact nx 5 rfl (mQ (oi h0) rfl (bV ⟨sr, sr, sr, trivial⟩))
  refine lG (fun (q75 : Int × (List UInt8)) => ⟨[(0, .p (eS s_0)), (5, .ptr 5 0), (6, .p (eI q75.1))], [(5, [.bptr 110 2 5, .vec 101000 1 (5 + 1) (q75.2.map eU)])]⟩) (fun m (q75 : Int × (List UInt8)) => cM n s_0 m q75.1 q75.2) (fun _ => rfl) (1, []) h1 (b7 (cj ⟨er rfl, er rfl, er rfl, trivial⟩ ⟨⟨_, rfl, ⟨sr, AV.sub_nilvec _ _ _, trivial⟩⟩, trivial⟩)) ?_
  rintro m ⟨at31, f32⟩ h1
  replace h1 : cM n s_0 (m + 1) at31 f32 = some o73 := h1
  rw [cM] at h1
  refine nx 2 rfl (bd h1 fun o76 h2 h1 => ?_)
  refine kN o76 (fun v77 => ⟨[(0, .p (eS s_0)), (5, .ptr 5 0), (6, .p (eI at31)), (26, .p (eB v77))], [(5, [.bptr 110 2 5, .vec 101000 1 (5 + 1) (f32.map eU)])]⟩) ?_ ?_
  ·refine nx 1 rfl (fB [26] h1 rfl (fun c36 h1 => ?_) fun c36 h1 => ?_)
   ·refine nx 7 rfl (oP h1 rfl rfl rfl fun hk37 h1 => ?_)
    refine bd h1 fun r38 e39 h1 => oK (iC (sub s_0 at31 (s_0.length : Int)) _ e39) rfl ⟨sr, trivial⟩ Tryz.call116 rfl (nx 7 rfl ?_)
    obtain ⟨o78, h2, hL1, hR1⟩ := eH h1
    refine kX (fun v79 : Int × Int => o78 = .inl v79) (fun v79 => ⟨[(0, .p (eS s_0)), (5, .ptr 5 0), (6, .p (eI at31)), (7, .p (eK .i32 v79.1)), (8, .p (eI v79.2))], [(5, [.bptr 110 2 5, .vec 101000 1 (5 + 1) (f32.map eU)])]⟩) (fun v79 hv => ?_) ?_
    ·have h1 := hL1 _ hv
     refine nx 4 rfl (bd h1 fun r55 e56 h1 => ?_)
     refine mO rfl (bo [5] [101000] 102000 102001 (jX (aD.mk f32) v79.1 _ e56) rfl rfl rfl rfl rfl ⟨sr, sr, trivial⟩ rfl rfl ⟨⟨_, rfl, ⟨sr, sr, trivial⟩⟩, trivial⟩ rfl rfl rfl rfl rfl rfl rfl rfl Tryz.call118 rfl rfl ?_)
     refine nx 4 rfl (oA h1 rfl rfl fun hk57 h1 => ?_)
     exact nx 2 rfl (eX (at31 + v79.2, r55.2.2.fbuf) h1 (bC (bz 102000 101000 rfl rfl rfl rfl rfl) (gE rfl rfl)))
    refine nx 5 rfl (fD [35] h2 rfl (fun c40 h2 => ?_) fun c40 h2 => ?_)
    ·refine nx 5 rfl (oA h2 rfl rfl fun hk41 h2 => ?_)
     refine oP h2 rfl rfl rfl fun hk42 h2 => bd h2 fun r43 e44 h2 => oK (pz _ (sub s_0 (at31 + 1) (s_0.length : Int)) _ e44) rfl ⟨sr, trivial⟩ Tryz.call117 rfl (nx 14 rfl ?_)
     refine fN [46] h2 rfl (fun c45 h2 => ?_) fun c45 h2 => ?_
     ·refine nx 5 rfl (oA h2 rfl rfl fun hk46 h2 => ?_)
      exact nx 3 rfl (eX _ (oi h2).symm (gE rfl rfl))
     refine nx 8 rfl (mG (gE (t := ⟨[(2, .p (eS ([] : Bytes))), (3, .p (eI 0)), (4, .p (eI r43.2.2))], []⟩) rfl rfl) ?_)
     exact nx 1 rfl (mQ (hR0 _ (hR1 _ (oi h2).symm).symm) rfl (bV ⟨sr, sr, sr, trivial⟩))
    refine nx 2 rfl (bd h2 fun o80 h3 h2 => ?_)
    refine kN o80 (fun v81 => ⟨[(0, .p (eS s_0)), (5, .ptr 5 0), (6, .p (eI at31)), (7, .p (eK .i32 r38.1)), (8, .p (eI r38.2)), (64, .p (eB v81))], [(5, [.bptr 110 2 5, .vec 101000 1 (5 + 1) (f32.map eU)])]⟩) ?_ ?_
    ·refine nx 1 rfl (fB [64] h2 rfl (fun c52 h2 => ?_) fun c52 h2 => ?_)
     ·exact nx 8 rfl (mQ (hR0 _ (hR1 _ (oi h2).symm).symm) rfl (bV ⟨sr, sr, sr, trivial⟩))
     exact nx 2 rfl (eX _ (oi h2).symm (gE rfl rfl))
    refine nx 4 rfl (fD [52, 53] h3 rfl (fun c47 h3 => ?_) fun c47 h3 => ?_)
    ·refine nx 4 rfl (fD [55, 56, 57] h3 rfl (fun c48 h3 => ?_) fun c48 h3 => ?_)
     ·exact nx 8 rfl (eX _ (oi h3).symm (gE rfl rfl))
     refine nx 4 rfl (fD [59, 60, 61] h3 rfl (fun c49 h3 => ?_) fun c49 h3 => ?_)
     ·exact nx 4 rfl (eX _ (oi h3).symm (gE rfl rfl))
     exact nx 4 rfl (eX _ (oi h3).symm (gE rfl rfl))
    refine nx 8 rfl (fD [59, 60, 61] h3 rfl (fun c50 h3 => ?_) fun c50 h3 => ?_)
    ·exact nx 4 rfl (eX _ (oi h3).symm (gE rfl rfl))
    exact nx 4 rfl (eX _ (oi h3).symm (gE rfl rfl))
   exact nx 2 rfl (eXi _ (oi h1).symm (gE rfl rfl))
  refine nx 3 rfl (oLs rfl ?_)
  refine nx 2 rfl (fD [20, 21] h2 rfl (fun c33 h2 => ?_) fun c33 h2 => ?_)
  ·refine nx 2 rfl (oI h2 rfl fun hk34 h2 => ?_)
   exact nx 3 rfl (eX _ (oi h2).symm (gE rfl rfl))
  exact nx 6 rfl (eX _ (oi h2).symm (gE rfl rfl))
 exact nx 8 rfl (mQ (oi h0) rfl (bV ⟨sr, sr, sr, trivial⟩))
def iT (s_0 : Bytes) : Option Bool :=
 (
   if (s_0.length : Int) ≤ 4096 then
    (eh s_0).bind fun r2 =>
    some r2
   else
    some false
  : Option Bool).bind fun t4 =>
 some t4
set_option maxHeartbeats 4000000 in
theorem qC (s_0 : Bytes) (r : Bool) (h0 : iT s_0 = some r) : aF Tryz.prog 126 [eS s_0] (· = .p (eB r)) := by
 unfold iT at h0
 refine bG good Tryz.func126 rfl rfl rfl fun w0 => mP (fun v : Bool => .p (eB v)) ?_
 refine nx 5 rfl (bd h0 fun o6 h1 h0 => ?_)
 refine kN o6 (fun v7 => ⟨[(2, .p (eB v7))], []⟩) ?_ ?_
 ·exact nx 2 rfl (mQ (oi h0) rfl (sr))
 refine nx 2 rfl (oLs rfl ?_)
 refine nx 2 rfl (fD [5, 6] h1 rfl (fun c1 h1 => ?_) fun c1 h1 => ?_)
 ·refine nx 1 rfl (bd h1 fun r2 e3 h1 => ?_)
  refine oK (j5 s_0 _ e3) rfl ⟨sr, trivial⟩ Tryz.call144 rfl (nx 3 rfl ?_)
  exact eX _ (oi h1).symm (gE rfl rfl)
 exact nx 5 rfl (eX _ (oi h1).symm (gE rfl rfl))
end Go.Ab.R06
end
section
set_option linter.unusedVariables false
set_option linter.unusedSimpArgs false
set_option linter.unnecessarySimpa false
namespace Go.Ab.R06
open Go.Proofs Go.Ab Go.Ab.RB
attribute [local irreducible] awp d9 aU aF bO AV.sub M dU
def ec (r_0 : aB) (s_1 : Bytes) : Option (Bool × aB) :=
 (strings_CutPrefix r_0.frest s_1).bind fun r1 =>
 some (r1.2, (aB.mk r1.1 r_0.fbad))
set_option maxHeartbeats 4000000 in
theorem gG (r_0 : aB) (s_1 : Bytes) (r : Bool × aB) (h0 : ec r_0 s_1 = some r) : bO Tryz.prog 71 [.ptr 1000000 0, .p (eS s_1)] [(1000000, [.p (eS r_0.frest), .p (eB r_0.fbad)])] (fun x y => x = .p (eB r.1) ∧ y = [(1000000, [.p (eS r.2.frest), .p (eB r.2.fbad)])]) := by
 unfold ec at h0
 refine ga good [] [1000000] Tryz.func71 rfl rfl rfl rfl rfl fun w0 F => mPo (fun v : Bool × aB => .p (eB v.1)) (fun v => [(1000000, [.p (eS v.2.frest), .p (eB v.2.fbad)])]) ?_
 refine nx 11 rfl (bd h0 fun r1 e2 h0 => ?_)
 refine oK (jD r_0.frest s_1 _ e2) rfl ⟨sr, sr, trivial⟩ Tryz.call92 rfl (nx 20 rfl ?_)
 exact mQo (oi h0) (bv _) rfl rfl rfl rfl (sr) ⟨⟨_, rfl, ⟨sr, sr, trivial⟩⟩, trivial⟩
def bJ (s_0 : Bytes) : Nat → Int → Option (Unit ⊕ Bool)
 | 0, _ => none
 | m + 1, t19 =>
 if t19 < (s_0.length : Int) then
  ck ((0 : Int) ≤ t19 ∧ t19 < (s_0.length : Int)) <|
  (
    ck ((0 : Int) ≤ t19 ∧ t19 < (s_0.length : Int)) <|
    if byt s_0 t19 = 95 then
     some false
    else
     if iOr .u8 (byt s_0 t19) 32 < 97 then
      if t19 = 0 then
       some true
      else
       ck ((0 : Int) ≤ t19 ∧ t19 < (s_0.length : Int)) <|
       if byt s_0 t19 < 48 then
        some true
       else
        ck ((0 : Int) ≤ t19 ∧ t19 < (s_0.length : Int)) <|
        some (decide (57 < byt s_0 t19))
     else
      if 122 < iOr .u8 (byt s_0 t19) 32 then
       if t19 = 0 then
        some true
       else
        ck ((0 : Int) ≤ t19 ∧ t19 < (s_0.length : Int)) <|
        if byt s_0 t19 < 48 then
         some true
        else
         ck ((0 : Int) ≤ t19 ∧ t19 < (s_0.length : Int)) <|
         some (decide (57 < byt s_0 t19))
      else
       some false
   : Option Bool).bind fun t34 =>
  if t34 = true then
   some (.inr false)
  else
   ck (inR (t19 + 1)) <|
   bJ s_0 m (t19 + 1)
 else
  some (.inl ())
def cm (n : Nat) (s_0 : Bytes) : Option Bool :=
 jn (bJ s_0 n 0) fun q40 =>
 (
   if s_0 = ([] : Bytes) then
    some false
   else
    some (decide ((s_0.length : Int) ≤ 64))
  : Option Bool).bind fun t39 =>
 some t39
set_option maxHeartbeats 4000000 in
theorem fx (n : Nat) (s_0 : Bytes) (r : Bool) (h0 : cm n s_0 = some r) : aF Tryz.prog 94 [eS s_0] (· = .p (eB r)) := by
 unfold cm at h0
 refine bG good Tryz.func94 rfl rfl rfl fun w0 => mP (fun v : Bool => .p (eB v)) ?_
 refine nx 8 rfl (oLs rfl ?_)
 refine nx 3 rfl ?_
 obtain ⟨o43, h1, hL0, hR0⟩ := eH h0
 refine kEx 0 (fun v44 : Unit => o43 = .inl v44) (fun v44 => ⟨[(0, .p (eS s_0))], []⟩) (fun v44 hv => ?_) ?_
 ·have h0 := hL0 _ hv
  refine nx 2 rfl (bd h0 fun o45 h1 h0 => ?_)
  refine kN o45 (fun v46 => ⟨[(2, .p (eB v46))], []⟩) ?_ ?_
  ·exact nx 2 rfl (mQ (oi h0) rfl (sr))
  refine nx 2 rfl (oS rfl rfl ?_)
  refine nx 1 rfl (fN [44, 45] h1 rfl (fun c38 h1 => ?_) fun c38 h1 => ?_)
  ·exact nx 6 rfl (eX _ (oi h1).symm (gE rfl rfl))
  refine nx 1 rfl (oLs rfl ?_)
  exact nx 4 rfl (eX _ (oi h1).symm (gE rfl rfl))
 refine lG (fun (q47 : Int) => ⟨[(0, .p (eS s_0)), (6, .p (eI (s_0.length : Int))), (7, .p (eI q47))], []⟩) (fun m (q47 : Int) => bJ s_0 m q47) (fun _ => rfl) 0 h1 (gE rfl rfl) ?_
 rintro m t19 h1
 replace h1 : bJ s_0 (m + 1) t19 = some o43 := h1
 rw [bJ] at h1
 refine nx 5 rfl (fD [8] h1 rfl (fun c20 h1 => ?_) fun c20 h1 => ?_)
 ·refine nx 13 rfl (oI h1 rfl fun hk21 h1 => ?_)
  refine nx 4 rfl (bd h1 fun o48 h2 h1 => ?_)
  refine kN o48 (fun v49 => ⟨[(0, .p (eS s_0)), (6, .p (eI (s_0.length : Int))), (7, .p (eI t19)), (41, .p (eB v49))], []⟩) ?_ ?_
  ·refine nx 1 rfl (fB [41] h1 rfl (fun c35 h1 => ?_) fun c35 h1 => ?_)
   ·exact nx 6 rfl (mQ (hR0 _ (oi h1).symm) rfl (sr))
   refine nx 3 rfl (oA h1 rfl rfl fun hk36 h1 => ?_)
   exact nx 2 rfl (eX (t19 + 1) h1 (gE rfl rfl))
  refine nx 3 rfl (oI h2 rfl fun hk22 h2 => ?_)
  refine nx 2 rfl (fN [17, 18] h2 rfl (fun c23 h2 => ?_) fun c23 h2 => ?_)
  ·exact nx 24 rfl (eX _ (oi h2).symm (gE rfl rfl))
  refine nx 3 rfl (fD [20, 21] h2 rfl (fun c24 h2 => ?_) fun c24 h2 => ?_)
  ·refine nx 8 rfl (fD [28, 29] h2 rfl (fun c25 h2 => ?_) fun c25 h2 => ?_)
   ·exact nx 13 rfl (eX _ (oi h2).symm (gE rfl rfl))
   refine nx 2 rfl (oI h2 rfl fun hk26 h2 => ?_)
   refine nx 3 rfl (fD [33, 34, 35] h2 rfl (fun c27 h2 => ?_) fun c27 h2 => ?_)
   ·exact nx 7 rfl (eX _ (oi h2).symm (gE rfl rfl))
   refine nx 2 rfl (oI h2 rfl fun hk28 h2 => ?_)
   exact nx 4 rfl (eX _ (oi h2).symm (gE rfl rfl))
  refine nx 5 rfl (fD [23, 24, 25, 26] h2 rfl (fun c29 h2 => ?_) fun c29 h2 => ?_)
  ·refine nx 3 rfl (fD [28, 29] h2 rfl (fun c30 h2 => ?_) fun c30 h2 => ?_)
   ·exact nx 13 rfl (eX _ (oi h2).symm (gE rfl rfl))
   refine nx 2 rfl (oI h2 rfl fun hk31 h2 => ?_)
   refine nx 3 rfl (fD [33, 34, 35] h2 rfl (fun c32 h2 => ?_) fun c32 h2 => ?_)
   ·exact nx 7 rfl (eX _ (oi h2).symm (gE rfl rfl))
   refine nx 2 rfl (oI h2 rfl fun hk33 h2 => ?_)
   exact nx 4 rfl (eX _ (oi h2).symm (gE rfl rfl))
  exact nx 16 rfl (eX _ (oi h2).symm (gE rfl rfl))
 exact nx 2 rfl (eXi _ (oi h1).symm (gE rfl rfl))
def cp (n : Nat) (r_0 : aB) : Option (Bytes × aB) :=
 (strings_IndexAny r_0.frest ([46, 91] : Bytes)).bind fun r1 =>
 (
   if r1 < 0 then
    some (r_0.frest.length : Int)
   else
    some r1
  : Option Int).bind fun n4 =>
 ck ((0 : Int) ≤ 0 ∧ 0 ≤ n4 ∧ n4 ≤ (r_0.frest.length : Int)) <|
 ck ((0 : Int) ≤ n4 ∧ n4 ≤ (r_0.frest.length : Int) ∧ (r_0.frest.length : Int) ≤ (r_0.frest.length : Int)) <|
 (
   if r_0.fbad = true then
    some true
   else
    (cm n (sub r_0.frest 0 n4)).bind fun r8 =>
    some (!r8)
  : Option Bool).bind fun f10 =>
 some (sub r_0.frest 0 n4, (aB.mk (sub r_0.frest n4 (r_0.frest.length : Int)) f10))
set_option maxHeartbeats 4000000 in
theorem gt (n : Nat) (r_0 : aB) (r : Bytes × aB) (h0 : cp n r_0 = some r) : bO Tryz.prog 74 [.ptr 1000000 0] [(1000000, [.p (eS r_0.frest), .p (eB r_0.fbad)])] (fun x y => x = .p (eS r.1) ∧ y = [(1000000, [.p (eS r.2.frest), .p (eB r.2.fbad)])]) := by
 unfold cp at h0
 refine ga good [] [1000000] Tryz.func74 rfl rfl rfl rfl rfl fun w0 F => mPo (fun v : Bytes × aB => .p (eS v.1)) (fun v => [(1000000, [.p (eS v.2.frest), .p (eB v.2.fbad)])]) ?_
 refine nx 10 rfl (bd h0 fun r1 e2 h0 => ?_)
 refine oK (nr r_0.frest ([46, 91] : Bytes) _ e2) rfl ⟨sr, sr, trivial⟩ Tryz.call93 rfl (nx 3 rfl ?_)
 refine bd h0 fun o13 h1 h0 => kN o13 (fun v14 => ⟨[(0, .ptr 1000000 0), (3, .p (eI v14))], [(1000000, [.p (eS r_0.frest), .p (eB r_0.fbad)])]⟩) ?_ ?_
 ·refine nx 8 rfl (oP h0 rfl rfl rfl fun hk5 h0 => ?_)
  refine nx 10 rfl (oP h0 rfl rfl rfl fun hk6 h0 => ?_)
  refine nx 5 rfl (bd h0 fun o15 h1 h0 => ?_)
  refine kN o15 (fun v16 => ⟨[(4, .p (eS (sub r_0.frest 0 o13)))], [(1000000, [.p (eS (sub r_0.frest o13 (r_0.frest.length : Int))), .p (eB v16)])]⟩) ?_ ?_
  ·exact nx 7 rfl (mQo (oi h0) (bv _) rfl rfl rfl rfl (sr) ⟨⟨_, rfl, ⟨sr, sr, trivial⟩⟩, trivial⟩)
  refine nx 7 rfl (fB [36, 37] h1 rfl (fun c7 h1 => ?_) fun c7 h1 => ?_)
  ·exact nx 8 rfl (eX _ (oi h1).symm (gE rfl rfl))
  refine nx 1 rfl (bd h1 fun r8 e9 h1 => ?_)
  refine oK (fx _ (sub r_0.frest 0 o13) _ e9) rfl ⟨sr, trivial⟩ Tryz.call94 rfl (nx 6 rfl ?_)
  exact eX _ (oi h1).symm (gE rfl rfl)
 refine nx 5 rfl (fD [11] h1 rfl (fun c3 h1 => ?_) fun c3 h1 => ?_)
 ·refine nx 6 rfl (oLs rfl ?_)
  exact nx 2 rfl (eX _ (oi h1).symm (gE rfl rfl))
 exact nx 2 rfl (eX _ (oi h1).symm (gE rfl rfl))
def dv (r_0 : aB) (s_1 : Bytes) : Option aB :=
 (strings_CutPrefix r_0.frest s_1).bind fun r1 =>
 if r_0.fbad = true then
  some (aB.mk r1.1 true)
 else
  some (aB.mk r1.1 (!r1.2))
set_option maxHeartbeats 4000000 in
theorem gu (r_0 : aB) (s_1 : Bytes) (r : aB) (h0 : dv r_0 s_1 = some r) : bO Tryz.prog 73 [.ptr 1000000 0, .p (eS s_1)] [(1000000, [.p (eS r_0.frest), .p (eB r_0.fbad)])] (fun x y => x = .tuple [] ∧ y = [(1000000, [.p (eS r.frest), .p (eB r.fbad)])]) := by
 unfold dv at h0
 refine ga good [] [1000000] Tryz.func73 rfl rfl rfl rfl rfl fun w0 F => mPo (fun v : aB => .tuple []) (fun v => [(1000000, [.p (eS v.frest), .p (eB v.fbad)])]) ?_
 refine nx 7 rfl (bd h0 fun r1 e2 h0 => ?_)
 refine oK (jD r_0.frest s_1 _ e2) rfl ⟨sr, sr, trivial⟩ Tryz.call92 rfl (nx 21 rfl ?_)
 refine fB [23, 24] h0 rfl (fun c3 h0 => ?_) fun c3 h0 => ?_
 ·exact nx 7 rfl (za (oi h0) (bv _) rfl rfl rfl rfl (sr) ⟨⟨_, rfl, ⟨sr, sr, trivial⟩⟩, trivial⟩)
 exact nx 7 rfl (za (oi h0) (bv _) rfl rfl rfl rfl (sr) ⟨⟨_, rfl, ⟨sr, sr, trivial⟩⟩, trivial⟩)
def cP (n : Nat) (r_0 : aB) : Option (ea × aB) :=
 (
   if r_0.fbad = true then
    some (true, r_0.frest, r_0.fbad)
   else
    (ec r_0 ([91] : Bytes)).bind fun r2 =>
    some (!r2.1, r2.2.frest, r2.2.fbad)
  : Option (Bool × Bytes × Bool)).bind fun q35 =>
 if q35.1 = true then
  some ((ea.mk 0 0 ([] : Bytes)), (aB.mk q35.2.1 q35.2.2))
 else
  jn (
    (strings_HasPrefix q35.2.1 ([34] : Bytes)).bind fun r8 =>
    if r8 = true then
     (em n q35.2.1).bind fun r11 =>
     (
       if r11.2.2 = 0 then
        (eQ n r11.1).bind fun r14 =>
        ck ((0 : Int) ≤ 0 ∧ 0 ≤ r11.2.1 ∧ r11.2.1 ≤ (q35.2.1.length : Int)) <|
        some (!decide (r14 = sub q35.2.1 0 r11.2.1))
       else
        some true
      : Option Bool).bind fun t17 =>
     if t17 = true then
      some (.inr ((ea.mk 0 0 ([] : Bytes)), (aB.mk q35.2.1 true)))
     else
      ck ((0 : Int) ≤ r11.2.1 ∧ r11.2.1 ≤ (q35.2.1.length : Int) ∧ (q35.2.1.length : Int) ≤ (q35.2.1.length : Int)) <|
      some (.inl (2, 0, r11.1, sub q35.2.1 r11.2.1 (q35.2.1.length : Int), q35.2.2))
    else
     (strings_IndexByte q35.2.1 93).bind fun r20 =>
     ck ((0 : Int) ≤ 0 ∧ 0 ≤ (if r20 < 0 then 0 else r20) ∧ (if r20 < 0 then 0 else r20) ≤ (q35.2.1.length : Int)) <|
     (fI n (sub q35.2.1 0 (if r20 < 0 then 0 else r20))).bind fun r23 =>
     (
       if r23.2 = 0 then
        some (decide (r23.1 < 0))
       else
        some true
      : Option Bool).bind fun f26 =>
     ck ((0 : Int) ≤ (if r20 < 0 then 0 else r20) ∧ (if r20 < 0 then 0 else r20) ≤ (q35.2.1.length : Int) ∧ (q35.2.1.length : Int) ≤ (q35.2.1.length : Int)) <|
     some (.inl (1, r23.1, ([] : Bytes), sub q35.2.1 (if r20 < 0 then 0 else r20) (q35.2.1.length : Int), f26))
   : Option ((Int × Int × Bytes × Bytes × Bool) ⊕ (ea × aB))) fun q36 =>
  (dv (aB.mk q36.2.2.2.1 q36.2.2.2.2) ([93] : Bytes)).bind fun r33 =>
  some ((ea.mk q36.1 q36.2.1 q36.2.2.1), r33)
set_option maxHeartbeats 4000000 in
theorem jb (n : Nat) (r_0 : aB) (r : ea × aB) (h0 : cP n r_0 = some r) : bO Tryz.prog 75 [.ptr 1000000 0] [(1000000, [.p (eS r_0.frest), .p (eB r_0.fbad)])] (fun x y => x = .p (.agg (ea.cs r.1)) ∧ y = [(1000000, [.p (eS r.2.frest), .p (eB r.2.fbad)])]) := by
 unfold cP at h0
 refine ga good [] [1000000] Tryz.func75 rfl rfl rfl rfl rfl fun w0 F => mPo (fun v : ea × aB => .p (.agg (ea.cs v.1))) (fun v => [(1000000, [.p (eS v.2.frest), .p (eB v.2.fbad)])]) ?_
 refine nx 6 rfl (bd h0 fun o39 h1 h0 => ?_)
 refine kN o39 (fun v40 => ⟨[(0, .ptr 1000000 0), (2, .ptr 2 0), (18, .p (eB v40.1))], [(2, [.p (eI 0), .p (eI 0), .p (eS ([] : Bytes))]), (1000000, [.p (eS v40.2.1), .p (eB v40.2.2)])]⟩) ?_ ?_
 ·refine nx 1 rfl (fB [18] h0 rfl (fun c7 h0 => ?_) fun c7 h0 => ?_)
  ·exact nx 7 rfl (mQo (oi h0) (bv _) rfl rfl rfl rfl (sr) ⟨⟨_, rfl, ⟨sr, sr, trivial⟩⟩, trivial⟩)
  refine nx 7 rfl ?_
  obtain ⟨o41, h1, hL0, hR0⟩ := eH h0
  refine kX (fun v42 : Int × Int × Bytes × Bytes × Bool => o41 = .inl v42) (fun v42 => ⟨[(0, .ptr 1000000 0), (2, .ptr 2 0), (3, .ptr 3 0)], [(2, [.p (eI 0), .p (eI 0), .p (eS ([] : Bytes))]), (3, [.p (eI v42.1), .p (eI v42.2.1), .p (eS v42.2.2.1)]), (1000000, [.p (eS v42.2.2.2.1), .p (eB v42.2.2.2.2)])]⟩) (fun v42 hv => ?_) ?_
  ·have h0 := hL0 _ hv
   refine nx 4 rfl (bd h0 fun r33 e34 h0 => ?_)
   refine mO rfl (bo [1000000] [] 102000 102000 (gu (aB.mk v42.2.2.2.1 v42.2.2.2.2) ([93] : Bytes) _ e34) rfl rfl rfl rfl rfl ⟨sr, sr, trivial⟩ rfl rfl ⟨⟨_, rfl, ⟨sr, sr, trivial⟩⟩, trivial⟩ rfl rfl rfl rfl rfl rfl rfl rfl Tryz.call73 rfl rfl ?_)
   exact nx 7 rfl (mQo (oi h0) (bv _) rfl rfl rfl rfl (sr) ⟨⟨_, rfl, ⟨sr, sr, trivial⟩⟩, trivial⟩)
  refine nx 6 rfl (bd h1 fun r8 e9 h1 => ?_)
  refine oK (mC o39.2.1 ([34] : Bytes) _ e9) rfl ⟨sr, sr, trivial⟩ Tryz.call68 rfl (nx 1 rfl ?_)
  refine fB [24] h1 rfl (fun c10 h1 => ?_) fun c10 h1 => ?_
  ·refine nx 7 rfl (bd h1 fun r11 e12 h1 => ?_)
   refine oK (oZ _ o39.2.1 _ e12) rfl ⟨sr, trivial⟩ Tryz.call95 rfl (nx 10 rfl ?_)
   refine bd h1 fun o43 h2 h1 => kN o43 (fun v44 => ⟨[(0, .ptr 1000000 0), (2, .ptr 2 0), (3, .ptr 3 0), (4, .p (eS r11.1)), (5, .p (eI r11.2.1)), (46, .p (eB v44))], [(2, [.p (eI 0), .p (eI 0), .p (eS ([] : Bytes))]), (3, [.p (eI 0), .p (eI 0), .p (eS ([] : Bytes))]), (1000000, [.p (eS o39.2.1), .p (eB o39.2.2)])]⟩) ?_ ?_
   ·refine nx 1 rfl (fB [46] h1 rfl (fun c18 h1 => ?_) fun c18 h1 => ?_)
    ·exact nx 14 rfl (mQo (hR0 _ (oi h1).symm) (bv _) rfl rfl rfl rfl (sr) ⟨⟨_, rfl, ⟨sr, sr, trivial⟩⟩, trivial⟩)
    refine nx 15 rfl (oP h1 rfl rfl rfl fun hk19 h1 => ?_)
    exact nx 4 rfl (eX _ (oi h1).symm (gE rfl rfl))
   refine fN (p := r11.2.2 = 0) [] h2 rfl (fun c13 h2 => ?_) fun c13 h2 => ?_
   ·refine bd h2 fun r14 e15 h2 => cc' h2 fun hk16 h2 => mD [(0, .ptr 1000000 0), (2, .ptr 2 0), (3, .ptr 3 0), (4, .p (eS r11.1)), (5, .p (eI r11.2.1)), (6, .p (eI r11.2.2))] rfl ⟨rfl, rfl, rfl, rfl, rfl, rfl, trivial⟩ rfl (dR 1 rfl ?_)
    refine dL (aE c13) rfl (dR 2 rfl ?_)
    refine dq (.p (eS r14)) [36,37] rfl (fun _ e _ q => aZ (bj (lY _ r11.1 _ e15) rfl rfl rfl (ay (e _ _ rfl) bm) ⟨sr, trivial⟩ Tryz.call96 rfl q) rfl rfl (e _ _ rfl) (rfl)) rfl (dR 5 rfl ?_)
    refine dq (.p (eS (sub o39.2.1 0 r11.2.1))) [36,42,43] rfl (fun _ e _ q => aZ (su (a := o39.2.1) (l := 0) (h := r11.2.1) rfl rfl rfl rfl rfl (e _ _ rfl) rfl (ir (e _ _ rfl)) hk16 q) rfl rfl (e _ _ rfl) (rfl)) rfl (dq (.p (eB (!decide (r14 = sub o39.2.1 0 r11.2.1)))) [36,38,44] rfl (fun _ e _ q => aZ (cE rfl rfl rfl (e _ _ rfl) (e _ _ rfl) rfl q) rfl rfl (e _ _ rfl) (rfl)) rfl ?_)
    refine dR 1 rfl (dE rfl ?_)
    exact nx 1 rfl (eX _ (oi h2).symm (gE rfl rfl))
   refine mD [(0, .ptr 1000000 0), (2, .ptr 2 0), (3, .ptr 3 0), (4, .p (eS r11.1)), (5, .p (eI r11.2.1)), (6, .p (eI r11.2.2))] rfl ⟨rfl, rfl, rfl, rfl, rfl, rfl, trivial⟩ rfl (dR 1 rfl ?_)
   refine dL (aP c13) rfl (dR 11 rfl ?_)
   refine dE rfl (nx 1 rfl ?_)
   exact eX _ (oi h2).symm (gE rfl rfl)
  refine nx 7 rfl (bd h1 fun r20 e21 h1 => ?_)
  refine oK (jO o39.2.1 93 _ e21) rfl ⟨sr, sr, trivial⟩ Tryz.call97 rfl (mO rfl (gI rfl rfl rfl rfl rfl ?_))
  refine nx 9 rfl (oP h1 rfl rfl rfl fun hk22 h1 => ?_)
  refine bd h1 fun r23 e24 h1 => oK (qE _ (sub o39.2.1 0 (if r20 < 0 then 0 else r20)) _ e24) rfl ⟨sr, trivial⟩ Tryz.call98 rfl (nx 7 rfl ?_)
  refine bd h1 fun o45 h2 h1 => kN o45 (fun v46 => ⟨[(0, .ptr 1000000 0), (2, .ptr 2 0), (3, .ptr 3 0), (7, .p (eI (if r20 < 0 then 0 else r20))), (8, .p (eI r23.1))], [(2, [.p (eI 0), .p (eI 0), .p (eS ([] : Bytes))]), (3, [.p (eI 0), .p (eI 0), .p (eS ([] : Bytes))]), (1000000, [.p (eS o39.2.1), .p (eB v46)])]⟩) ?_ ?_
  ·refine nx 14 rfl (oP h1 rfl rfl rfl fun hk27 h1 => ?_)
   exact nx 4 rfl (eX _ (oi h1).symm (gE rfl rfl))
  refine nx 5 rfl (fN [80, 81] h2 rfl (fun c25 h2 => ?_) fun c25 h2 => ?_)
  ·exact nx 7 rfl (eX _ (oi h2).symm (gE rfl rfl))
  exact nx 7 rfl (eX _ (oi h2).symm (gE rfl rfl))
 refine nx 6 rfl (fB [13, 14] h1 rfl (fun c1 h1 => ?_) fun c1 h1 => ?_)
 ·exact nx 5 rfl (eX _ (oi h1).symm (gE rfl rfl))
 refine nx 1 rfl (bd h1 fun r2 e3 h1 => ?_)
 refine mO rfl (bo [1000000] [] 101000 101000 (gG r_0 ([91] : Bytes) _ e3) rfl rfl rfl rfl rfl ⟨sr, sr, trivial⟩ rfl rfl ⟨⟨_, rfl, ⟨sr, sr, trivial⟩⟩, trivial⟩ rfl rfl rfl rfl rfl rfl rfl rfl Tryz.call71 rfl rfl ?_)
 exact nx 3 rfl (eX _ (oi h1).symm (gE rfl rfl))
def cW (n : Nat) (r_0 : aB) : Option (aj × aB) :=
 (cp n r_0).bind fun r1 =>
 (cP n r1.2).bind fun r3 =>
 some ((aj.mk r1.1 r3.1), r3.2)
set_option maxHeartbeats 4000000 in
theorem lO (n : Nat) (r_0 : aB) (r : aj × aB) (h0 : cW n r_0 = some r) : bO Tryz.prog 72 [.ptr 1000000 0] [(1000000, [.p (eS r_0.frest), .p (eB r_0.fbad)])] (fun x y => x = .p (.agg (aj.cs r.1)) ∧ y = [(1000000, [.p (eS r.2.frest), .p (eB r.2.fbad)])]) := by
 unfold cW at h0
 refine ga good [] [1000000] Tryz.func72 rfl rfl rfl rfl rfl fun w0 F => mPo (fun v : aj × aB => .p (.agg (aj.cs v.1))) (fun v => [(1000000, [.p (eS v.2.frest), .p (eB v.2.fbad)])]) ?_
 refine nx 7 rfl (bd h0 fun r1 e2 h0 => ?_)
 refine mO rfl (bo [1000000] [] 101000 101000 (gt _ r_0 _ e2) rfl rfl rfl rfl rfl ⟨sr, trivial⟩ rfl rfl ⟨⟨_, rfl, ⟨sr, sr, trivial⟩⟩, trivial⟩ rfl rfl rfl rfl rfl rfl rfl rfl Tryz.call74 rfl rfl ?_)
 refine nx 7 rfl (bd h0 fun r3 e4 h0 => ?_)
 refine mO rfl (bo [1000000] [] 102000 102000 (jb _ r1.2 _ e4) rfl rfl rfl rfl rfl ⟨sr, trivial⟩ rfl rfl ⟨⟨_, rfl, ⟨sr, sr, trivial⟩⟩, trivial⟩ rfl rfl rfl rfl rfl rfl rfl rfl Tryz.call75 rfl rfl ?_)
 exact nx 9 rfl (mQo (oi h0) (bv _) rfl rfl rfl rfl (sr) ⟨⟨_, rfl, ⟨sr, sr, trivial⟩⟩, trivial⟩)
def d4 (n : Nat) (s_0 : Bytes) : Option Bool :=
 (
   if s_0 = ([109, 111, 100, 117, 108, 101] : Bytes) then
    some true
   else
    if s_0 = ([100, 97, 116, 97] : Bytes) then
     some true
    else
     if s_0 = ([118, 97, 114] : Bytes) then
      some true
     else
      if s_0 = ([108, 111, 99, 97, 108] : Bytes) then
       some true
      else
       if s_0 = ([101, 97, 99, 104] : Bytes) then
        some true
       else
        if s_0 = ([99, 111, 117, 110, 116] : Bytes) then
         some true
        else
         if s_0 = ([114, 101, 109, 111, 116, 101] : Bytes) then
          some true
         else
          if s_0 = ([111, 117, 116, 112, 117, 116] : Bytes) then
           some true
          else
           if s_0 = ([112, 97, 116, 104] : Bytes) then
            some true
           else
            if s_0 = ([115, 101, 108, 102] : Bytes) then
             some true
            else
             some (decide (s_0 = ([99, 104, 97, 110, 103, 101] : Bytes)))
  : Option Bool).bind fun t11 =>
 if t11 = true then
  some false
 else
  (cm n s_0).bind fun r13 =>
  some r13
set_option maxHeartbeats 4000000 in
theorem lZ (n : Nat) (s_0 : Bytes) (r : Bool) (h0 : d4 n s_0 = some r) : aF Tryz.prog 76 [eS s_0] (· = .p (eB r)) := by
 unfold d4 at h0
 refine bG good Tryz.func76 rfl rfl rfl fun w0 => mP (fun v : Bool => .p (eB v)) ?_
 refine nx 11 rfl (bd h0 fun o16 h1 h0 => ?_)
 refine kN o16 (fun v17 => ⟨[(0, .p (eS s_0)), (4, .p (eB v17))], []⟩) ?_ ?_
 ·refine nx 1 rfl (fB [4] h0 rfl (fun c12 h0 => ?_) fun c12 h0 => ?_)
  ·exact nx 6 rfl (mQ (oi h0) rfl (sr))
  refine nx 5 rfl (bd h0 fun r13 e14 h0 => ?_)
  refine oK (fx _ s_0 _ e14) rfl ⟨sr, trivial⟩ Tryz.call94 rfl (nx 3 rfl ?_)
  exact mQ (oi h0) rfl (sr)
 refine nx 2 rfl (oS rfl rfl ?_)
 refine nx 2 rfl (fD [4, 5] h1 rfl (fun c1 h1 => ?_) fun c1 h1 => ?_)
 ·exact nx 2 rfl (eX _ (oi h1).symm (gE rfl rfl))
 refine nx 3 rfl (oS rfl rfl ?_)
 refine nx 2 rfl (fD [4, 6] h1 rfl (fun c2 h1 => ?_) fun c2 h1 => ?_)
 ·exact nx 2 rfl (eX _ (oi h1).symm (gE rfl rfl))
 refine nx 3 rfl (oS rfl rfl ?_)
 refine nx 2 rfl (fD [4, 7] h1 rfl (fun c3 h1 => ?_) fun c3 h1 => ?_)
 ·exact nx 2 rfl (eX _ (oi h1).symm (gE rfl rfl))
 refine nx 3 rfl (oS rfl rfl ?_)
 refine nx 2 rfl (fD [4, 8] h1 rfl (fun c4 h1 => ?_) fun c4 h1 => ?_)
 ·exact nx 2 rfl (eX _ (oi h1).symm (gE rfl rfl))
 refine nx 3 rfl (oS rfl rfl ?_)
 refine nx 2 rfl (fD [4, 9] h1 rfl (fun c5 h1 => ?_) fun c5 h1 => ?_)
 ·exact nx 2 rfl (eX _ (oi h1).symm (gE rfl rfl))
 refine nx 3 rfl (oS rfl rfl ?_)
 refine nx 2 rfl (fD [4, 10] h1 rfl (fun c6 h1 => ?_) fun c6 h1 => ?_)
 ·exact nx 2 rfl (eX _ (oi h1).symm (gE rfl rfl))
 refine nx 3 rfl (oS rfl rfl ?_)
 refine nx 2 rfl (fD [4, 11] h1 rfl (fun c7 h1 => ?_) fun c7 h1 => ?_)
 ·exact nx 2 rfl (eX _ (oi h1).symm (gE rfl rfl))
 refine nx 3 rfl (oS rfl rfl ?_)
 refine nx 2 rfl (fD [4, 12] h1 rfl (fun c8 h1 => ?_) fun c8 h1 => ?_)
 ·exact nx 2 rfl (eX _ (oi h1).symm (gE rfl rfl))
 refine nx 3 rfl (oS rfl rfl ?_)
 refine nx 2 rfl (fD [4, 13] h1 rfl (fun c9 h1 => ?_) fun c9 h1 => ?_)
 ·exact nx 2 rfl (eX _ (oi h1).symm (gE rfl rfl))
 refine nx 3 rfl (oS rfl rfl ?_)
 refine nx 2 rfl (fD [4, 14] h1 rfl (fun c10 h1 => ?_) fun c10 h1 => ?_)
 ·exact nx 2 rfl (eX _ (oi h1).symm (gE rfl rfl))
 refine nx 2 rfl (oS rfl rfl ?_)
 exact nx 2 rfl (eX _ (oi h1).symm (gE rfl rfl))
def cU (n : Nat) : Nat → (List aj) → Bytes → Bool → Option ((List aj) × Bytes × Bool)
 | 0, _, _, _ => none
 | m + 1, f16, f17, f18 =>
 (
   if (!f18) = true then
    (ec (aB.mk f17 f18) ([109, 111, 100, 117, 108, 101, 46] : Bytes)).bind fun r20 =>
    some (r20.1, r20.2.frest, r20.2.fbad)
   else
    some (false, f17, f18)
  : Option (Bool × Bytes × Bool)).bind fun q55 =>
 if q55.1 = true then
  (cW n (aB.mk q55.2.1 q55.2.2)).bind fun r26 =>
  ck ((f16.length + [r26.1].length) * 48 ≤ 140737488355328) <|
  (dv r26.2 ([46] : Bytes)).bind fun r29 =>
  cU n m (f16 ++ [r26.1]) r29.frest r29.fbad
 else
  some (f16, q55.2.1, q55.2.2)
def fh (n : Nat) (s_0 : Bytes) : Option (aK × Int) :=
 (cU n n [] s_0 false).bind fun q54 =>
 (ec (aB.mk q54.2.1 q54.2.2) ([100, 97, 116, 97, 46] : Bytes)).bind fun r37 =>
 (cp n r37.2).bind fun r39 =>
 (dv r39.2 ([46] : Bytes)).bind fun r41 =>
 (cp n r41).bind fun r43 =>
 (cP n r43.2).bind fun r45 =>
 (
   if r45.2.fbad = true then
    some true
   else
    if r45.2.frest = ([] : Bytes) then
     (d4 n r39.1).bind fun r49 =>
     some (!r49)
    else
     some true
  : Option Bool).bind fun t51 =>
 if t51 = true then
  some ((aK.mk [] false ([] : Bytes) ([] : Bytes) (ea.mk 0 0 ([] : Bytes))), 2)
 else
  if 16 < (q54.1.length : Int) then
   some ((aK.mk [] false ([] : Bytes) ([] : Bytes) (ea.mk 0 0 ([] : Bytes))), 4)
  else
   some ((aK.mk q54.1 r37.1 r39.1 r43.1 r45.1), 0)
set_option maxHeartbeats 4000000 in
theorem pT (n : Nat) (s_0 : Bytes) (r : aK × Int) (h0 : fh n s_0 = some r) : aF Tryz.prog 50 [eS s_0] (· = .tuple [.p (.agg (aK.cs r.1)), .p (eI r.2)]) := by
 unfold fh at h0
 refine bG good Tryz.func50 rfl rfl rfl fun w0 => mP (fun v : aK × Int => .tuple [.p (.agg (aK.cs v.1)), .p (eI v.2)]) ?_
 refine nx 18 rfl (bd h0 fun o57 h1 h0 => ?_)
 refine kE 0 o57 (fun v58 => ⟨[(2, .ptr 2 0), (4, .ptr 8 0), (5, .ptr 5 0)], [(2, [.p (.val (.slice none 0 0)), .p (eB false), .p (eS ([] : Bytes)), .p (eS ([] : Bytes)), .p (eI 0), .p (eI 0), .p (eS ([] : Bytes))]), (5, [.vec 23 4 0 (v58.1.map aI), .p (eB false), .p (eS ([] : Bytes)), .p (eS ([] : Bytes)), .p (eI 0), .p (eI 0), .p (eS ([] : Bytes))]), (8, [.p (eS v58.2.1), .p (eB v58.2.2)])]⟩) ?_ ?_
 ·refine nx 4 rfl (bd h0 fun r37 e38 h0 => ?_)
  refine mO rfl (bo [8] [] 107000 107000 (gG (aB.mk o57.2.1 o57.2.2) ([100, 97, 116, 97, 46] : Bytes) _ e38) rfl rfl rfl rfl rfl ⟨sr, sr, trivial⟩ rfl rfl ⟨⟨_, rfl, ⟨sr, sr, trivial⟩⟩, trivial⟩ rfl rfl rfl rfl rfl rfl rfl rfl Tryz.call71 rfl rfl ?_)
  refine nx 6 rfl (bd h0 fun r39 e40 h0 => ?_)
  refine mO rfl (bo [8] [] 108000 108000 (gt _ r37.2 _ e40) rfl rfl rfl rfl rfl ⟨sr, trivial⟩ rfl rfl ⟨⟨_, rfl, ⟨sr, sr, trivial⟩⟩, trivial⟩ rfl rfl rfl rfl rfl rfl rfl rfl Tryz.call74 rfl rfl ?_)
  refine nx 6 rfl (bd h0 fun r41 e42 h0 => ?_)
  refine mO rfl (bo [8] [] 109000 109000 (gu r39.2 ([46] : Bytes) _ e42) rfl rfl rfl rfl rfl ⟨sr, sr, trivial⟩ rfl rfl ⟨⟨_, rfl, ⟨sr, sr, trivial⟩⟩, trivial⟩ rfl rfl rfl rfl rfl rfl rfl rfl Tryz.call73 rfl rfl ?_)
  refine nx 4 rfl (bd h0 fun r43 e44 h0 => ?_)
  refine mO rfl (bo [8] [] 110000 110000 (gt _ r41 _ e44) rfl rfl rfl rfl rfl ⟨sr, trivial⟩ rfl rfl ⟨⟨_, rfl, ⟨sr, sr, trivial⟩⟩, trivial⟩ rfl rfl rfl rfl rfl rfl rfl rfl Tryz.call74 rfl rfl ?_)
  refine nx 6 rfl (bd h0 fun r45 e46 h0 => ?_)
  refine mO rfl (bo [8] [] 111000 111000 (jb _ r43.2 _ e46) rfl rfl rfl rfl rfl ⟨sr, trivial⟩ rfl rfl ⟨⟨_, rfl, ⟨sr, sr, trivial⟩⟩, trivial⟩ rfl rfl rfl rfl rfl rfl rfl rfl Tryz.call75 rfl rfl ?_)
  refine nx 5 rfl (bd h0 fun o59 h1 h0 => ?_)
  refine kN o59 (fun v60 => ⟨[(2, .ptr 2 0), (5, .ptr 5 0), (57, .p (eB v60))], [(2, [.p (.val (.slice none 0 0)), .p (eB false), .p (eS ([] : Bytes)), .p (eS ([] : Bytes)), .p (eI 0), .p (eI 0), .p (eS ([] : Bytes))]), (5, [.vec 23 4 0 (o57.1.map aI), .p (eB r37.1), .p (eS r39.1), .p (eS r43.1), .p (eI r45.1.fKind), .p (eI r45.1.fNum), .p (eS r45.1.fStr)])]⟩) ?_ ?_
  ·refine nx 1 rfl (fB [57] h0 rfl (fun c52 h0 => ?_) fun c52 h0 => ?_)
   ·exact nx 8 rfl (mQ (oi h0) rfl (bV ⟨pA ⟨.inr ⟨rfl, rfl⟩, .inl rfl, .inl rfl, .inl rfl, .inl rfl, .inl rfl, .inl rfl, trivial⟩, sr, trivial⟩))
   refine nx 7 rfl (oLl (f := aI) rfl rfl ?_)
   refine nx 2 rfl (fD [62] h0 rfl (fun c53 h0 => ?_) fun c53 h0 => ?_)
   ·exact nx 8 rfl (mQ (oi h0) rfl (bV ⟨pA ⟨.inr ⟨rfl, rfl⟩, .inl rfl, .inl rfl, .inl rfl, .inl rfl, .inl rfl, .inl rfl, trivial⟩, sr, trivial⟩))
   exact nx 9 rfl (mQ (oi h0) rfl (bV ⟨zy ⟨AV.sub_vec _ _ _ _, sr, sr, sr, sr, sr, sr, trivial⟩, sr, trivial⟩))
  refine nx 6 rfl (fB [44, 45] h1 rfl (fun c47 h1 => ?_) fun c47 h1 => ?_)
  ·exact nx 13 rfl (eX _ (oi h1).symm (gE rfl rfl))
  refine nx 4 rfl (oS rfl rfl ?_)
  refine nx 2 rfl (fN [50, 51, 52] h1 rfl (fun c48 h1 => ?_) fun c48 h1 => ?_)
  ·refine nx 2 rfl (bd h1 fun r49 e50 h1 => ?_)
   refine oK (lZ _ r39.1 _ e50) rfl ⟨sr, trivial⟩ Tryz.call76 rfl (nx 3 rfl ?_)
   exact eX _ (oi h1).symm (gE rfl rfl)
  exact nx 6 rfl (eX _ (oi h1).symm (gE rfl rfl))
 refine lG (fun (q61 : (List aj) × Bytes × Bool) => ⟨[(2, .ptr 2 0), (4, .ptr 8 0), (5, .ptr 5 0)], [(2, [.p (.val (.slice none 0 0)), .p (eB false), .p (eS ([] : Bytes)), .p (eS ([] : Bytes)), .p (eI 0), .p (eI 0), .p (eS ([] : Bytes))]), (5, [.vec 23 4 0 (q61.1.map aI), .p (eB false), .p (eS ([] : Bytes)), .p (eS ([] : Bytes)), .p (eI 0), .p (eI 0), .p (eS ([] : Bytes))]), (8, [.p (eS q61.2.1), .p (eB q61.2.2)])]⟩) (fun m (q61 : (List aj) × Bytes × Bool) => cU n m q61.1 q61.2.1 q61.2.2) (fun _ => rfl) ([], s_0, false) h1 (b7 (cj ⟨er rfl, er rfl, er rfl, trivial⟩ ⟨⟨_, rfl, ⟨sr, sr, sr, sr, sr, sr, sr, trivial⟩⟩, ⟨_, rfl, ⟨AV.sub_nilvec _ _ _, sr, sr, sr, sr, sr, sr, trivial⟩⟩, ⟨_, rfl, ⟨sr, sr, trivial⟩⟩, trivial⟩)) ?_
 rintro m ⟨f16, f17, f18⟩ h1
 replace h1 : cU n (m + 1) f16 f17 f18 = some o57 := h1
 rw [cU] at h1
 refine nx 2 rfl (bd h1 fun o62 h2 h1 => ?_)
 refine kN o62 (fun v63 => ⟨[(2, .ptr 2 0), (4, .ptr 8 0), (5, .ptr 5 0), (17, .p (eB v63.1))], [(2, [.p (.val (.slice none 0 0)), .p (eB false), .p (eS ([] : Bytes)), .p (eS ([] : Bytes)), .p (eI 0), .p (eI 0), .p (eS ([] : Bytes))]), (5, [.vec 23 4 0 (f16.map aI), .p (eB false), .p (eS ([] : Bytes)), .p (eS ([] : Bytes)), .p (eI 0), .p (eI 0), .p (eS ([] : Bytes))]), (8, [.p (eS v63.2.1), .p (eB v63.2.2)])]⟩) ?_ ?_
 ·refine nx 1 rfl (fB [17] h1 rfl (fun c25 h1 => ?_) fun c25 h1 => ?_)
  ·refine nx 4 rfl (bd h1 fun r26 e27 h1 => ?_)
   refine cc' h1 fun hk28 h1 => mG (gE (t := ⟨[(2, .ptr 2 0), (4, .ptr 8 0), (5, .ptr 5 0)], [(2, [.p (.val (.slice none 0 0)), .p (eB false), .p (eS ([] : Bytes)), .p (eS ([] : Bytes)), .p (eI 0), .p (eI 0), .p (eS ([] : Bytes))]), (5, [.vec 23 4 0 (f16.map aI), .p (eB false), .p (eS ([] : Bytes)), .p (eS ([] : Bytes)), .p (eI 0), .p (eI 0), .p (eS ([] : Bytes))]), (8, [.p (eS o62.2.1), .p (eB o62.2.2)])]⟩) rfl rfl) (mS ⟨3, [3, 5, 7], (by4 (.some (fy [] 105000 105000)) (.some fun i => Nat.beq i 23 || Nat.beq i 23) .none .none), (fun _ => [(2, .ptr 2 0), (4, .ptr 8 0), (5, .ptr 5 0)]), (by4 ([(2, [.p (.val (.slice none 0 0)), .p (eB false), .p (eS ([] : Bytes)), .p (eS ([] : Bytes)), .p (eI 0), .p (eI 0), .p (eS ([] : Bytes))]), (5, [.vec 23 4 0 (f16.map aI), .p (eB false), .p (eS ([] : Bytes)), .p (eS ([] : Bytes)), .p (eI 0), .p (eI 0), .p (eS ([] : Bytes))]), (8, [.p (eS o62.2.1), .p (eB o62.2.2)])]) ([(8, [.p (eS r26.2.frest), .p (eB r26.2.fbad)]), (2, [.p (.val (.slice none 0 0)), .p (eB false), .p (eS ([] : Bytes)), .p (eS ([] : Bytes)), .p (eI 0), .p (eI 0), .p (eS ([] : Bytes))]), (5, [.vec 23 4 0 (f16.map aI), .p (eB false), .p (eS ([] : Bytes)), .p (eS ([] : Bytes)), .p (eI 0), .p (eI 0), .p (eS ([] : Bytes))])]) ([(8, [.p (eS r26.2.frest), .p (eB r26.2.fbad)]), (2, [.p (.val (.slice none 0 0)), .p (eB false), .p (eS ([] : Bytes)), .p (eS ([] : Bytes)), .p (eI 0), .p (eI 0), .p (eS ([] : Bytes))]), (5, [.p (eL aI f16), .p (eB false), .p (eS ([] : Bytes)), .p (eS ([] : Bytes)), .p (eI 0), .p (eI 0), .p (eS ([] : Bytes))])]) ([(5, [.vec 23 4 0 ((f16 ++ [r26.1]).map aI), .p (eB false), .p (eS ([] : Bytes)), .p (eS ([] : Bytes)), .p (eI 0), .p (eI 0), .p (eS ([] : Bytes))]), (8, [.p (eS r26.2.frest), .p (eB r26.2.fbad)]), (2, [.p (.val (.slice none 0 0)), .p (eB false), .p (eS ([] : Bytes)), .p (eS ([] : Bytes)), .p (eI 0), .p (eI 0), .p (eS ([] : Bytes))]), (5, [.p (eL aI f16), .p (eB false), .p (eS ([] : Bytes)), .p (eS ([] : Bytes)), .p (eI 0), .p (eI 0), .p (eS ([] : Bytes))])]))⟩ rfl rfl rfl ⟨rfl, rfl, rfl, trivial⟩ (lt3 ⟨rfl, rfl, rfl, trivial⟩ ⟨rfl, rfl, rfl, trivial⟩ ⟨rfl, rfl, rfl, trivial⟩) rfl rfl rfl rfl ?_)
   refine az (fun _ => .ptr 5 0) rfl rfl rfl (iY rfl rfl rfl (fun _ => rfl)) (lt3 rfl rfl rfl) (al rfl (af [(5, _)] ⟨.inl rfl, trivial⟩ (fun sl hsl K hK => ae rfl (ah rfl rfl rfl rfl rfl rfl rfl rfl (hsl _ _ rfl) hK)) (af [(5, _)] ⟨.inl rfl, trivial⟩ (fun sl hsl K hK => ae rfl (ah rfl rfl rfl rfl rfl rfl rfl rfl (hsl _ _ rfl) hK)) (af [(5, _)] ⟨.inl rfl, trivial⟩ (fun sl hsl K hK => ae rfl (ah rfl rfl rfl rfl rfl rfl rfl rfl (hsl _ _ rfl) hK)) aA)))) (az (by4 (.vec 23 4 0 (f16.map aI)) (.vec 23 4 0 (f16.map aI)) (.p (eL aI f16)) (.p (eL aI f16))) rfl rfl rfl (iY rfl rfl rfl (fun _ => rfl)) (lt3 rfl rfl rfl) (al rfl (al rfl (af [(18, _)] ⟨.inr ⟨0, _, rfl, rfl, rfl⟩, trivial⟩ (fun sl hsl K hK => ae rfl (bB rfl rfl rfl rfl rfl (hsl _ _ rfl) rfl rfl hK)) (af [(18, _)] ⟨.inr ⟨0, _, rfl, rfl, rfl⟩, trivial⟩ (fun sl hsl K hK => ae rfl (bB rfl rfl rfl rfl rfl (hsl _ _ rfl) rfl rfl hK)) aA)))) ?_)
   refine az (fun _ => .ptr 8 0) rfl rfl rfl (iY rfl rfl rfl (fun _ => rfl)) (lt3 rfl rfl rfl) (al rfl (al rfl (al rfl (af [(4, _)] ⟨.inl rfl, trivial⟩ (fun sl hsl K hK => ae rfl (aR rfl rfl rfl (hsl _ _ rfl) hK)) aA)))) (fO (fun _ => .p (.agg (aj.cs r26.1))) [(20, _)] rfl ⟨.inr ⟨2, _, rfl, rfl, rfl⟩, trivial⟩ rfl rfl (pD rfl rfl (fun _ => rfl)) (lt3 (fun h => absurd h (by decide)) (fun _ => rfl) (fun _ => rfl)) (fun sl hsl K hK => ae rfl (bo [8] [] 105000 105000 (lO _ (aB.mk o62.2.1 o62.2.2) _ e27) rfl rfl rfl (ay (hsl _ _ rfl) bm) rfl ⟨sr, trivial⟩ rfl rfl ⟨⟨_, rfl, ⟨sr, sr, trivial⟩⟩, trivial⟩ rfl rfl rfl rfl rfl rfl rfl rfl Tryz.call72 rfl rfl hK)) ?_)
   refine az (fun _ => .p (eL aI [r26.1])) rfl rfl rfl (iY rfl rfl rfl (fun _ => rfl)) (lt3 rfl rfl rfl) (al rfl (al rfl (af [(21, _)] ⟨.inr ⟨3, _, rfl, rfl, rfl⟩, trivial⟩ (fun sl hsl K hK => ae rfl (bN aI [r26.1] rfl rfl rfl rfl rfl rfl (nR (hsl _ _ rfl) rfl pL) rfl rfl rfl rfl rfl rfl (by first | rfl | (simp only [List.map_cons, List.map_nil, aj.agg_eq]; done) | (simp only [List.map_cons, List.map_nil, aj.agg_eq]; rfl)) hK)) (al rfl aA)))) (fO (fun _ => .vec 23 4 0 ((f16 ++ [r26.1]).map aI)) [(19, _), (22, _)] rfl ⟨.inr ⟨1, _, rfl, rfl, rfl⟩, .inr ⟨4, _, rfl, rfl, rfl⟩, trivial⟩ rfl rfl (d5 rfl (fun _ => rfl)) (lt3 (fun h => absurd h (by decide)) (fun h => absurd h (by decide)) (fun _ => rfl)) (fun sl hsl K hK => ae rfl (fL aI f16 [r26.1] rfl rfl rfl rfl rfl rfl rfl rfl (hsl _ _ rfl) rfl rfl (hsl _ _ rfl) rfl (fun x => congrArg List.length (aj.cells_eq x)) rfl rfl rfl rfl hk28 hK)) ?_)
   refine az (fun _ => .ptr 5 0) rfl rfl rfl (iY rfl rfl rfl (fun _ => rfl)) (lt3 rfl rfl rfl) (al rfl (af [(5, _)] ⟨.inl rfl, trivial⟩ (fun sl hsl K hK => ae rfl (ah rfl rfl rfl rfl rfl rfl rfl rfl (hsl _ _ rfl) hK)) (al rfl (al rfl aA)))) (ik [(23, _), (24, _)] rfl ⟨.inr ⟨5, _, rfl, rfl, rfl⟩, .inr ⟨6, _, rfl, rfl, rfl⟩, trivial⟩ rfl (fun sl hsl K hK => ae rfl (gX rfl rfl rfl (hsl _ _ rfl) (hsl _ _ rfl) rfl rfl rfl (Nat.le_of_ble_eq_true rfl) hK)) ?_)
   refine kQ (nx 3 rfl ?_)
   refine bd h1 fun r29 e30 h1 => mO rfl (bo [8] [] 106000 106000 (gu r26.2 ([46] : Bytes) _ e30) rfl rfl rfl rfl rfl ⟨sr, sr, trivial⟩ rfl rfl ⟨⟨_, rfl, ⟨sr, sr, trivial⟩⟩, trivial⟩ rfl rfl rfl rfl rfl rfl rfl rfl Tryz.call73 rfl rfl ?_)
   exact nx 1 rfl (eX (f16 ++ [r26.1], r29.frest, r29.fbad) h1 (gE rfl rfl))
  exact nx 2 rfl (eXi _ (oi h1).symm (gE rfl rfl))
 refine nx 7 rfl (fB [13, 14] h2 rfl (fun c19 h2 => ?_) fun c19 h2 => ?_)
 ·refine nx 1 rfl (bd h2 fun r20 e21 h2 => ?_)
  refine mO rfl (bo [8] [] 104000 104000 (gG (aB.mk f17 f18) ([109, 111, 100, 117, 108, 101, 46] : Bytes) _ e21) rfl rfl rfl rfl rfl ⟨sr, sr, trivial⟩ rfl rfl ⟨⟨_, rfl, ⟨sr, sr, trivial⟩⟩, trivial⟩ rfl rfl rfl rfl rfl rfl rfl rfl Tryz.call71 rfl rfl ?_)
  exact nx 2 rfl (eX _ (oi h2).symm (gE rfl rfl))
 exact nx 4 rfl (eX _ (oi h2).symm (gE rfl rfl))
def fV (k_0 : ea) : Option Bool :=
 if k_0.fKind = 0 then
  some (decide (k_0.fKind = 0 ∧ k_0.fNum = 0 ∧ k_0.fStr = ([] : Bytes)))
 else
  if k_0.fKind = 1 then
   (
     if 0 ≤ k_0.fNum then
      if k_0.fNum ≤ 9007199254740992 then
       some (decide (k_0.fStr = ([] : Bytes)))
      else
       some false
     else
      some false
    : Option Bool).bind fun t5 =>
   some t5
  else
   if k_0.fKind = 2 then
    (
      if k_0.fNum = 0 then
       (iT k_0.fStr).bind fun r8 =>
       some r8
      else
       some false
     : Option Bool).bind fun t10 =>
    some t10
   else
    some false
set_option maxHeartbeats 4000000 in
theorem ji (k_0 : ea) (r : Bool) (h0 : fV k_0 = some r) : aF Tryz.prog 99 [.agg (ea.cs k_0)] (· = .p (eB r)) := by
 unfold fV at h0
 refine bG good Tryz.func99 rfl rfl rfl fun w0 => mP (fun v : Bool => .p (eB v)) ?_
 refine nx 17 rfl (fD [5, 6] h0 rfl (fun c1 h0 => ?_) fun c1 h0 => ?_)
 ·refine nx 5 rfl (mO rfl (A5 (k_0.fKind = 0 ∧ k_0.fNum = 0 ∧ k_0.fStr = ([] : Bytes)) rfl rfl rfl rfl rfl rfl rfl (by kernel_rfl) rfl rfl (.inl ⟨rfl, rfl⟩) ?_))
  exact nx 3 rfl (mQ (oi h0) rfl (sr))
 refine nx 6 rfl (fD [10, 11] h0 rfl (fun c2 h0 => ?_) fun c2 h0 => ?_)
 ·refine nx 2 rfl (bd h0 fun o13 h1 h0 => ?_)
  refine kN o13 (fun v14 => ⟨[(2, .p (eB v14))], []⟩) ?_ ?_
  ·exact nx 2 rfl (mQ (oi h0) rfl (sr))
  refine nx 5 rfl (fD [14, 15] h1 rfl (fun c3 h1 => ?_) fun c3 h1 => ?_)
  ·refine nx 5 rfl (fD [18, 19, 20] h1 rfl (fun c4 h1 => ?_) fun c4 h1 => ?_)
   ·refine nx 2 rfl (oS rfl rfl ?_)
    exact nx 3 rfl (eX _ (oi h1).symm (gE rfl rfl))
   exact nx 6 rfl (eX _ (oi h1).symm (gE rfl rfl))
  exact nx 11 rfl (eX _ (oi h1).symm (gE rfl rfl))
 refine nx 6 rfl (fD [25, 26] h0 rfl (fun c6 h0 => ?_) fun c6 h0 => ?_)
 ·refine nx 2 rfl (bd h0 fun o15 h1 h0 => ?_)
  refine kN o15 (fun v16 => ⟨[(2, .p (eB v16))], []⟩) ?_ ?_
  ·exact nx 2 rfl (mQ (oi h0) rfl (sr))
  refine nx 5 rfl (fD [29, 30] h1 rfl (fun c7 h1 => ?_) fun c7 h1 => ?_)
  ·refine nx 2 rfl (bd h1 fun r8 e9 h1 => ?_)
   refine oK (qC k_0.fStr _ e9) rfl ⟨sr, trivial⟩ Tryz.call126 rfl (nx 3 rfl ?_)
   exact eX _ (oi h1).symm (gE rfl rfl)
  exact nx 6 rfl (eX _ (oi h1).symm (gE rfl rfl))
 exact nx 7 rfl (mQ (oi h0) rfl (sr))
def cI (n : Nat) (a_0 : aK) : Nat → Int → Option (Unit ⊕ Int)
 | 0, _ => none
 | m + 1, t12 =>
 if t12 < (a_0.fModule.length : Int) then
  ck ((0 : Int) ≤ t12 ∧ t12 < (a_0.fModule.length : Int)) <|
  (cm n ((lat a_0.fModule t12).fName)).bind fun r15 =>
  if (!r15) = true then
   some (.inr 7)
  else
   (fV ((lat a_0.fModule t12).fKey)).bind fun r18 =>
   if (!r18) = true then
    some (.inr 1)
   else
    ck (inR (t12 + 1)) <|
    cI n a_0 m (t12 + 1)
 else
  some (.inl ())
def fc (n : Nat) (a_0 : aK) : Option Int :=
 if 16 < (a_0.fModule.length : Int) then
  some 4
 else
  jn (cI n a_0 n 0) fun q33 =>
  (
    (d4 n a_0.fType).bind fun r23 =>
    if (!r23) = true then
     some true
    else
     (cm n a_0.fName).bind fun r26 =>
     some (!r26)
   : Option Bool).bind fun t28 =>
  if t28 = true then
   some 7
  else
   (fV a_0.fKey).bind fun r30 =>
   if (!r30) = true then
    some 1
   else
    some 0
set_option maxHeartbeats 4000000 in
theorem pq (n : Nat) (a_0 : aK) (r : Int) (h0 : fc n a_0 = some r) : aF Tryz.prog 77 [.agg (aK.cs a_0)] (· = .p (eI r)) := by
 unfold fc at h0
 refine bG good Tryz.func77 rfl rfl rfl fun w0 => mP (fun v : Int => .p (eI v)) ?_
 refine nx 10 rfl (oLl (f := aI) rfl rfl ?_)
 refine nx 2 rfl (fD [8] h0 rfl (fun c1 h0 => ?_) fun c1 h0 => ?_)
 ·exact nx 6 rfl (mQ (oi h0) rfl (sr))
 refine nx 7 rfl (oLl (f := aI) rfl rfl ?_)
 refine nx 3 rfl ?_
 obtain ⟨o35, h1, hL0, hR0⟩ := eH h0
 refine kEx 0 (fun v36 : Unit => o35 = .inl v36) (fun v36 => ⟨[(1, .ptr 1 0)], [(1, (aK.cs a_0).map .p)]⟩) (fun v36 hv => ?_) ?_
 ·have h0 := hL0 _ hv
  refine nx 3 rfl (bd h0 fun o37 h1 h0 => ?_)
  refine kN o37 (fun v38 => ⟨[(1, .ptr 1 0), (34, .p (eB v38))], [(1, (aK.cs a_0).map .p)]⟩) ?_ ?_
  ·refine nx 1 rfl (fB [34] h0 rfl (fun c29 h0 => ?_) fun c29 h0 => ?_)
   ·exact nx 6 rfl (mQ (oi h0) rfl (sr))
   refine nx 7 rfl (bd h0 fun r30 e31 h0 => ?_)
   refine oK (ji a_0.fKey _ e31) rfl ⟨sr, trivial⟩ Tryz.call99 rfl (nx 2 rfl ?_)
   refine fB [38] h0 rfl (fun c32 h0 => ?_) fun c32 h0 => ?_
   ·exact nx 6 rfl (mQ (oi h0) rfl (sr))
   exact nx 7 rfl (mQ (oi h0) rfl (sr))
  refine nx 3 rfl (bd h1 fun r23 e24 h1 => ?_)
  refine oK (lZ _ a_0.fType _ e24) rfl ⟨sr, trivial⟩ Tryz.call76 rfl (nx 2 rfl ?_)
  refine fB [28, 29] h1 rfl (fun c25 h1 => ?_) fun c25 h1 => ?_
  ·exact nx 6 rfl (eX _ (oi h1).symm (gE rfl rfl))
  refine nx 2 rfl (bd h1 fun r26 e27 h1 => ?_)
  refine oK (fx _ a_0.fName _ e27) rfl ⟨sr, trivial⟩ Tryz.call94 rfl (nx 3 rfl ?_)
  exact eX _ (oi h1).symm (gE rfl rfl)
 refine lG (fun (q39 : Int) => ⟨[(1, .ptr 1 0), (10, .p (eL aI a_0.fModule)), (11, .p (eI (a_0.fModule.length : Int))), (12, .p (eI q39))], [(1, (aK.cs a_0).map .p)]⟩) (fun m (q39 : Int) => cI n a_0 m q39) (fun _ => rfl) 0 h1 (gE rfl rfl) ?_
 rintro m t12 h1
 replace h1 : cI n a_0 (m + 1) t12 = some o35 := h1
 rw [cI] at h1
 refine nx 5 rfl (fD [13] h1 rfl (fun c13 h1 => ?_) fun c13 h1 => ?_)
 ·refine nx 6 rfl (oE h1 aj.cells_eq rfl rfl (fun _ => rfl) fun hk14 h1 => ?_)
  refine nx 9 rfl (bd h1 fun r15 e16 h1 => ?_)
  refine oK (fx _ ((lat a_0.fModule t12).fName) _ e16) rfl ⟨sr, trivial⟩ Tryz.call94 rfl (nx 2 rfl ?_)
  refine fB [19] h1 rfl (fun c17 h1 => ?_) fun c17 h1 => ?_
  ·exact nx 6 rfl (mQ (hR0 _ (oi h1).symm) rfl (sr))
  refine nx 6 rfl (bd h1 fun r18 e19 h1 => ?_)
  refine oK (ji ((lat a_0.fModule t12).fKey) _ e19) rfl ⟨sr, trivial⟩ Tryz.call99 rfl (nx 2 rfl ?_)
  refine fB [23] h1 rfl (fun c20 h1 => ?_) fun c20 h1 => ?_
  ·exact nx 6 rfl (mQ (hR0 _ (oi h1).symm) rfl (sr))
  refine nx 3 rfl (oA h1 rfl rfl fun hk21 h1 => ?_)
  exact nx 2 rfl (eX (t12 + 1) h1 (gE rfl rfl))
 exact nx 2 rfl (eXi _ (oi h1).symm (gE rfl rfl))
def im (n_0 : Int) : Option Bytes :=
 (strconv_Itoa n_0).bind fun r1 =>
 some r1
set_option maxHeartbeats 4000000 in
theorem pk (n_0 : Int) (r : Bytes) (h0 : im n_0 = some r) : aF Tryz.prog 101 [eI n_0] (· = .p (eS r)) := by
 unfold im at h0
 refine bG good Tryz.func101 rfl rfl rfl fun w0 => mP (fun v : Bytes => .p (eS v)) ?_
 refine nx 7 rfl (bd h0 fun r1 e2 h0 => ?_)
 refine oK (qB n_0 _ e2) rfl ⟨sr, trivial⟩ Tryz.call128 rfl (nx 3 rfl ?_)
 exact mQ (oi h0) rfl (sr)
def da (n : Nat) (k_0 : ea) : Option Bytes :=
 (
   (fV k_0).bind fun r1 =>
   if (!r1) = true then
    some true
   else
    some (decide (k_0.fKind = 0))
  : Option Bool).bind fun t4 =>
 if t4 = true then
  some ([] : Bytes)
 else
  if k_0.fKind = 1 then
   (im k_0.fNum).bind fun r7 =>
   ck (([91] : Bytes).length + r7.length ≤ 9223372036854775807) <|
   ck ((([91] : Bytes) ++ r7).length + ([93] : Bytes).length ≤ 9223372036854775807) <|
   some ((([91] : Bytes) ++ r7) ++ ([93] : Bytes))
  else
   (eQ n k_0.fStr).bind fun r11 =>
   ck (([91] : Bytes).length + r11.length ≤ 9223372036854775807) <|
   ck ((([91] : Bytes) ++ r11).length + ([93] : Bytes).length ≤ 9223372036854775807) <|
   some ((([91] : Bytes) ++ r11) ++ ([93] : Bytes))
set_option maxHeartbeats 4000000 in
theorem jN (n : Nat) (k_0 : ea) (r : Bytes) (h0 : da n k_0 = some r) : aF Tryz.prog 79 [.agg (ea.cs k_0)] (· = .p (eS r)) := by
 unfold da at h0
 refine bG good Tryz.func79 rfl rfl rfl fun w0 => mP (fun v : Bytes => .p (eS v)) ?_
 refine nx 8 rfl (bd h0 fun o16 h1 h0 => ?_)
 refine kN o16 (fun v17 => ⟨[(1, .ptr 1 0), (3, .p (eB v17))], [(1, (ea.cs k_0).map .p)]⟩) ?_ ?_
 ·refine nx 1 rfl (fB [3] h0 rfl (fun c5 h0 => ?_) fun c5 h0 => ?_)
  ·exact nx 6 rfl (mQ (oi h0) rfl (sr))
  refine nx 8 rfl (fD [12, 15] h0 rfl (fun c6 h0 => ?_) fun c6 h0 => ?_)
  ·refine nx 5 rfl (bd h0 fun r7 e8 h0 => ?_)
   refine oK (pk k_0.fNum _ e8) rfl ⟨sr, trivial⟩ Tryz.call101 rfl (oC h0 rfl fun hk9 h0 => ?_)
   exact oC h0 rfl fun hk10 h0 => nx 3 rfl (mQ (oi h0) rfl (sr))
  refine nx 6 rfl (bd h0 fun r11 e12 h0 => ?_)
  refine oK (lY _ k_0.fStr _ e12) rfl ⟨sr, trivial⟩ Tryz.call96 rfl (oC h0 rfl fun hk13 h0 => ?_)
  exact oC h0 rfl fun hk14 h0 => nx 3 rfl (mQ (oi h0) rfl (sr))
 refine nx 2 rfl (bd h1 fun r1 e2 h1 => ?_)
 refine oK (ji k_0 _ e2) rfl ⟨sr, trivial⟩ Tryz.call99 rfl (nx 2 rfl ?_)
 refine fB [6, 7] h1 rfl (fun c3 h1 => ?_) fun c3 h1 => ?_
 ·exact nx 6 rfl (eX _ (oi h1).symm (gE rfl rfl))
 exact nx 6 rfl (eX _ (oi h1).symm (gE rfl rfl))
def cx (n : Nat) (a_0 : aK) : Nat → Int → (List UInt8) → Option (List UInt8)
 | 0, _, _ => none
 | m + 1, t16, f17 =>
 if t16 < (a_0.fModule.length : Int) then
  ck ((0 : Int) ≤ t16 ∧ t16 < (a_0.fModule.length : Int)) <|
  ck (([109, 111, 100, 117, 108, 101, 46] : Bytes).length + ((lat a_0.fModule t16).fName).length ≤ 9223372036854775807) <|
  (da n ((lat a_0.fModule t16).fKey)).bind fun r21 =>
  ck ((([109, 111, 100, 117, 108, 101, 46] : Bytes) ++ ((lat a_0.fModule t16).fName)).length + r21.length ≤ 9223372036854775807) <|
  ck (((([109, 111, 100, 117, 108, 101, 46] : Bytes) ++ ((lat a_0.fModule t16).fName)) ++ r21).length + ([46] : Bytes).length ≤ 9223372036854775807) <|
  (ba (aD.mk f17) (((([109, 111, 100, 117, 108, 101, 46] : Bytes) ++ ((lat a_0.fModule t16).fName)) ++ r21) ++ ([46] : Bytes))).bind fun r25 =>
  ck (inR (t16 + 1)) <|
  cx n a_0 m (t16 + 1) r25.2.2.fbuf
 else
  some f17
def eF (n : Nat) (a_0 : aK) : Option Bytes :=
 (fc n a_0).bind fun r1 =>
 if r1 = 0 then
  (cx n a_0 n 0 []).bind fun f30 =>
  (
    if a_0.fData = true then
     (ba (aD.mk f30) ([100, 97, 116, 97, 46] : Bytes)).bind fun r32 =>
     some r32.2.2.fbuf
    else
     some f30
   : Option (List UInt8)).bind fun f34 =>
  ck (a_0.fType.length + ([46] : Bytes).length ≤ 9223372036854775807) <|
  ck ((a_0.fType ++ ([46] : Bytes)).length + a_0.fName.length ≤ 9223372036854775807) <|
  (da n a_0.fKey).bind fun r37 =>
  ck (((a_0.fType ++ ([46] : Bytes)) ++ a_0.fName).length + r37.length ≤ 9223372036854775807) <|
  (ba (aD.mk f34) (((a_0.fType ++ ([46] : Bytes)) ++ a_0.fName) ++ r37)).bind fun r40 =>
  (dl (aD.mk r40.2.2.fbuf)).bind fun r42 =>
  some r42.1
 else
  some ([] : Bytes)
set_option maxHeartbeats 4000000 in
theorem oe (n : Nat) (a_0 : aK) (r : Bytes) (h0 : eF n a_0 = some r) : aF Tryz.prog 51 [.agg (aK.cs a_0)] (· = .p (eS r)) := by
 unfold eF at h0
 refine bG good Tryz.func51 rfl rfl rfl fun w0 => mP (fun v : Bytes => .p (eS v)) ?_
 refine nx 9 rfl (bd h0 fun r1 e2 h0 => ?_)
 refine oK (pq _ a_0 _ e2) rfl ⟨sr, trivial⟩ Tryz.call77 rfl (nx 2 rfl ?_)
 refine fN [8] h0 rfl (fun c3 h0 => ?_) fun c3 h0 => ?_
 ·refine nx 4 rfl (mO rfl (pN rfl rfl rfl rfl rfl rfl rfl ?_))
  refine nx 6 rfl (oLl (f := aI) rfl rfl ?_)
  refine nx 3 rfl (bd h0 fun o46 h1 h0 => ?_)
  refine kE 0 o46 (fun v47 => ⟨[(1, .ptr 1 0), (3, .ptr 3 0)], [(1, (aK.cs a_0).map .p), (3, [.bptr 110 2 3, .vec 101000 1 (5 + 1) (v47.map eU)])]⟩) ?_ ?_
  ·refine nx 2 rfl (bd h0 fun o48 h1 h0 => ?_)
   refine kN o48 (fun v49 => ⟨[(1, .ptr 1 0), (3, .ptr 3 0)], [(1, (aK.cs a_0).map .p), (3, [.bptr 110 2 3, .vec 103000 1 (5 + 1) (v49.map eU)])]⟩) ?_ ?_
   ·refine nx 2 rfl (cc' h0 fun hk35 h0 => ?_)
    refine cc' h0 fun hk36 h0 => bd h0 fun r37 e38 h0 => cc' h0 fun hk39 h0 => bd h0 fun r40 e41 h0 => mG (gE (t := ⟨[(1, .ptr 1 0), (3, .ptr 3 0)], [(1, (aK.cs a_0).map .p), (3, [.bptr 110 2 3, .vec 103000 1 (5 + 1) (o48.map eU)])]⟩) rfl rfl) (mS ⟨1, [10], (by2 (.some (fy [103000] 104000 104001)) .none), (fun _ => [(1, .ptr 1 0), (3, .ptr 3 0)]), (by2 ([(1, [.p (eL aI a_0.fModule), .p (eB a_0.fData), .p (eS a_0.fType), .p (eS a_0.fName), .p (eI a_0.fKey.fKind), .p (eI a_0.fKey.fNum), .p (eS a_0.fKey.fStr)]), (3, [.bptr 110 2 3, .vec 103000 1 (5 + 1) (o48.map eU)])]) ([(3, [.bptr 110 2 3, .vec 104000 1 (5 + 1) (r40.2.2.fbuf.map eU)]), (1, [.p (eL aI a_0.fModule), .p (eB a_0.fData), .p (eS a_0.fType), .p (eS a_0.fName), .p (eI a_0.fKey.fKind), .p (eI a_0.fKey.fNum), .p (eS a_0.fKey.fStr)])]))⟩ rfl rfl rfl ⟨rfl, rfl, trivial⟩ (lt1 ⟨rfl, rfl, trivial⟩) rfl rfl rfl rfl ?_)
    refine az (fun _ => .ptr 1 2) rfl rfl rfl (d5 rfl (fun _ => rfl)) (lt1 rfl) (af [(1, _)] ⟨.inl rfl, trivial⟩ (fun sl hsl K hK => ae rfl (ah rfl rfl rfl rfl rfl rfl rfl rfl (hsl _ _ rfl) hK)) (af [(1, _)] ⟨.inl rfl, trivial⟩ (fun sl hsl K hK => ae rfl (ah rfl rfl rfl rfl rfl rfl rfl rfl (hsl _ _ rfl) hK)) aA)) (az (fun _ => .p (eS a_0.fType)) rfl rfl rfl (d5 rfl (fun _ => rfl)) (lt1 rfl) (af [(29, _)] ⟨.inr ⟨0, _, rfl, rfl, rfl⟩, trivial⟩ (fun sl hsl K hK => ae rfl (bB rfl rfl rfl rfl rfl (hsl _ _ rfl) rfl rfl hK)) (af [(29, _)] ⟨.inr ⟨0, _, rfl, rfl, rfl⟩, trivial⟩ (fun sl hsl K hK => ae rfl (bB rfl rfl rfl rfl rfl (hsl _ _ rfl) rfl rfl hK)) aA)) ?_)
    refine az (fun _ => .p (eS (a_0.fType ++ ([46] : Bytes)))) rfl rfl rfl (d5 rfl (fun _ => rfl)) (lt1 rfl) (af [(30, _)] ⟨.inr ⟨1, _, rfl, rfl, rfl⟩, trivial⟩ (fun sl hsl K hK => ae rfl (b9 rfl rfl rfl (hsl _ _ rfl) rfl hk35 hK)) (af [(30, _)] ⟨.inr ⟨1, _, rfl, rfl, rfl⟩, trivial⟩ (fun sl hsl K hK => ae rfl (b9 rfl rfl rfl (hsl _ _ rfl) rfl hk35 hK)) aA)) (az (fun _ => .ptr 1 3) rfl rfl rfl (d5 rfl (fun _ => rfl)) (lt1 rfl) (af [(1, _)] ⟨.inl rfl, trivial⟩ (fun sl hsl K hK => ae rfl (ah rfl rfl rfl rfl rfl rfl rfl rfl (hsl _ _ rfl) hK)) (af [(1, _)] ⟨.inl rfl, trivial⟩ (fun sl hsl K hK => ae rfl (ah rfl rfl rfl rfl rfl rfl rfl rfl (hsl _ _ rfl) hK)) aA)) ?_)
    refine az (fun _ => .p (eS a_0.fName)) rfl rfl rfl (d5 rfl (fun _ => rfl)) (lt1 rfl) (af [(32, _)] ⟨.inr ⟨3, _, rfl, rfl, rfl⟩, trivial⟩ (fun sl hsl K hK => ae rfl (bB rfl rfl rfl rfl rfl (hsl _ _ rfl) rfl rfl hK)) (af [(32, _)] ⟨.inr ⟨3, _, rfl, rfl, rfl⟩, trivial⟩ (fun sl hsl K hK => ae rfl (bB rfl rfl rfl rfl rfl (hsl _ _ rfl) rfl rfl hK)) aA)) (az (fun _ => .p (eS ((a_0.fType ++ ([46] : Bytes)) ++ a_0.fName))) rfl rfl rfl (d5 rfl (fun _ => rfl)) (lt1 rfl) (af [(31, _), (33, _)] ⟨.inr ⟨2, _, rfl, rfl, rfl⟩, .inr ⟨4, _, rfl, rfl, rfl⟩, trivial⟩ (fun sl hsl K hK => ae rfl (b9 rfl rfl rfl (hsl _ _ rfl) (hsl _ _ rfl) hk36 hK)) (af [(31, _), (33, _)] ⟨.inr ⟨2, _, rfl, rfl, rfl⟩, .inr ⟨4, _, rfl, rfl, rfl⟩, trivial⟩ (fun sl hsl K hK => ae rfl (b9 rfl rfl rfl (hsl _ _ rfl) (hsl _ _ rfl) hk36 hK)) aA)) ?_)
    refine az (fun _ => .ptr 1 4) rfl rfl rfl (d5 rfl (fun _ => rfl)) (lt1 rfl) (af [(1, _)] ⟨.inl rfl, trivial⟩ (fun sl hsl K hK => ae rfl (ah rfl rfl rfl rfl rfl rfl rfl rfl (hsl _ _ rfl) hK)) (af [(1, _)] ⟨.inl rfl, trivial⟩ (fun sl hsl K hK => ae rfl (ah rfl rfl rfl rfl rfl rfl rfl rfl (hsl _ _ rfl) hK)) aA)) (az (fun _ => .p (.agg (ea.cs a_0.fKey))) rfl rfl rfl (d5 rfl (fun _ => rfl)) (lt1 rfl) (af [(35, _)] ⟨.inr ⟨6, _, rfl, rfl, rfl⟩, trivial⟩ (fun sl hsl K hK => ae rfl (gx rfl rfl rfl rfl rfl (hsl _ _ rfl) rfl rfl rfl hK)) (af [(35, _)] ⟨.inr ⟨6, _, rfl, rfl, rfl⟩, trivial⟩ (fun sl hsl K hK => ae rfl (gx rfl rfl rfl rfl rfl (hsl _ _ rfl) rfl rfl rfl hK)) aA)) ?_)
    refine az (fun _ => .p (eS r37)) rfl rfl rfl (d5 rfl (fun _ => rfl)) (lt1 rfl) (al rfl (af [(36, _)] ⟨.inr ⟨7, _, rfl, rfl, rfl⟩, trivial⟩ (fun sl hsl K hK => ae rfl (bj (jN _ a_0.fKey _ e38) rfl rfl rfl (ay (hsl _ _ rfl) bm) ⟨sr, trivial⟩ Tryz.call79 rfl hK)) aA)) (az (fun _ => .p (eS (((a_0.fType ++ ([46] : Bytes)) ++ a_0.fName) ++ r37))) rfl rfl rfl (d5 rfl (fun _ => rfl)) (lt1 rfl) (al rfl (af [(34, _), (37, _)] ⟨.inr ⟨5, _, rfl, rfl, rfl⟩, .inr ⟨8, _, rfl, rfl, rfl⟩, trivial⟩ (fun sl hsl K hK => ae rfl (b9 rfl rfl rfl (hsl _ _ rfl) (hsl _ _ rfl) hk39 hK)) aA)) ?_)
    refine fO (fun _ => .tuple [.p (eI r40.1), .p (eE r40.2.1)]) [(3, _), (38, _)] rfl ⟨.inl rfl, .inr ⟨9, _, rfl, rfl, rfl⟩, trivial⟩ rfl rfl (fun _ => rfl) (lt1 (fun h => absurd h (by decide))) (fun sl hsl K hK => ae rfl (bo [3] [103000] 104000 104001 (bM (aD.mk o48) (((a_0.fType ++ ([46] : Bytes)) ++ a_0.fName) ++ r37) _ e41) rfl rfl rfl (ay (hsl _ _ rfl) (ay (hsl _ _ rfl) bm)) rfl ⟨sr, sr, trivial⟩ rfl rfl ⟨⟨_, rfl, ⟨sr, sr, trivial⟩⟩, trivial⟩ rfl rfl rfl rfl rfl rfl rfl rfl Tryz.call78 rfl rfl hK)) (kQ ?_)
    refine nx 3 rfl (bd h0 fun r42 e43 h0 => ?_)
    refine mO rfl (bo [3] [104000] 105000 105000 (fA (aD.mk r40.2.2.fbuf) _ e43) rfl rfl rfl rfl rfl ⟨sr, trivial⟩ rfl rfl ⟨⟨_, rfl, ⟨sr, sr, trivial⟩⟩, trivial⟩ rfl rfl rfl rfl rfl rfl rfl rfl Tryz.call80 rfl rfl ?_)
    exact nx 3 rfl (mQ (oi h0) rfl (sr))
   refine nx 5 rfl (fB [27] h1 rfl (fun c31 h1 => ?_) fun c31 h1 => ?_)
   ·refine nx 2 rfl (bd h1 fun r32 e33 h1 => ?_)
    refine mO rfl (bo [3] [101000] 103000 103001 (bM (aD.mk o46) ([100, 97, 116, 97, 46] : Bytes) _ e33) rfl rfl rfl rfl rfl ⟨sr, sr, trivial⟩ rfl rfl ⟨⟨_, rfl, ⟨sr, sr, trivial⟩⟩, trivial⟩ rfl rfl rfl rfl rfl rfl rfl rfl Tryz.call78 rfl rfl ?_)
    exact nx 1 rfl (eX _ (oi h1).symm (gE rfl rfl))
   exact nx 2 rfl (eX _ (oi h1).symm (bC (bz 101000 103000 rfl rfl rfl rfl rfl) (gE rfl rfl)))
  refine lG (fun (q50 : Int × (List UInt8)) => ⟨[(1, .ptr 1 0), (3, .ptr 3 0), (10, .p (eL aI a_0.fModule)), (11, .p (eI (a_0.fModule.length : Int))), (12, .p (eI q50.1))], [(1, (aK.cs a_0).map .p), (3, [.bptr 110 2 3, .vec 101000 1 (5 + 1) (q50.2.map eU)])]⟩) (fun m (q50 : Int × (List UInt8)) => cx n a_0 m q50.1 q50.2) (fun _ => rfl) (0, []) h1 (b7 (cj ⟨er rfl, er rfl, er rfl, er rfl, er rfl, trivial⟩ ⟨⟨_, rfl, ⟨sr, sr, sr, sr, sr, sr, sr, trivial⟩⟩, ⟨_, rfl, ⟨sr, AV.sub_nilvec _ _ _, trivial⟩⟩, trivial⟩)) ?_
  rintro m ⟨t16, f17⟩ h1
  replace h1 : cx n a_0 (m + 1) t16 f17 = some o46 := h1
  rw [cx] at h1
  refine nx 5 rfl (fD [13] h1 rfl (fun c18 h1 => ?_) fun c18 h1 => ?_)
  ·refine nx 6 rfl (oE h1 aj.cells_eq rfl rfl (fun _ => rfl) fun hk19 h1 => ?_)
   refine nx 4 rfl (cc' h1 fun hk20 h1 => ?_)
   refine bd h1 fun r21 e22 h1 => cc' h1 fun hk23 h1 => cc' h1 fun hk24 h1 => bd h1 fun r25 e26 h1 => mG (gE (t := ⟨[(1, .ptr 1 0), (3, .ptr 3 0), (5, .ptr 5 0), (10, .p (eL aI a_0.fModule)), (11, .p (eI (a_0.fModule.length : Int))), (12, .p (eI t16))], [(1, (aK.cs a_0).map .p), (3, [.bptr 110 2 3, .vec 101000 1 (5 + 1) (f17.map eU)]), (5, (aj.cs (lat a_0.fModule t16)).map .p)]⟩) rfl rfl) (mS ⟨1, [8], (by2 (.some (fy [101000] 102000 102001)) .none), (fun _ => [(1, .ptr 1 0), (3, .ptr 3 0), (5, .ptr 5 0), (10, .p (eL aI a_0.fModule)), (11, .p (eI (a_0.fModule.length : Int))), (12, .p (eI t16))]), (by2 ([(1, [.p (eL aI a_0.fModule), .p (eB a_0.fData), .p (eS a_0.fType), .p (eS a_0.fName), .p (eI a_0.fKey.fKind), .p (eI a_0.fKey.fNum), .p (eS a_0.fKey.fStr)]), (3, [.bptr 110 2 3, .vec 101000 1 (5 + 1) (f17.map eU)]), (5, [.p (eS ((lat a_0.fModule t16).fName)), .p (eI (((lat a_0.fModule t16).fKey).fKind)), .p (eI (((lat a_0.fModule t16).fKey).fNum)), .p (eS (((lat a_0.fModule t16).fKey).fStr))])]) ([(3, [.bptr 110 2 3, .vec 102000 1 (5 + 1) (r25.2.2.fbuf.map eU)]), (1, [.p (eL aI a_0.fModule), .p (eB a_0.fData), .p (eS a_0.fType), .p (eS a_0.fName), .p (eI a_0.fKey.fKind), .p (eI a_0.fKey.fNum), .p (eS a_0.fKey.fStr)]), (5, [.p (eS ((lat a_0.fModule t16).fName)), .p (eI (((lat a_0.fModule t16).fKey).fKind)), .p (eI (((lat a_0.fModule t16).fKey).fNum)), .p (eS (((lat a_0.fModule t16).fKey).fStr))])]))⟩ rfl rfl rfl ⟨rfl, rfl, rfl, rfl, rfl, rfl, trivial⟩ (lt1 ⟨rfl, rfl, rfl, rfl, rfl, rfl, trivial⟩) rfl rfl rfl rfl ?_)
   refine az (fun _ => .ptr 5 0) rfl rfl rfl (d5 rfl (fun _ => rfl)) (lt1 rfl) (af [(5, _)] ⟨.inl rfl, trivial⟩ (fun sl hsl K hK => ae rfl (ah rfl rfl rfl rfl rfl rfl rfl rfl (hsl _ _ rfl) hK)) (af [(5, _)] ⟨.inl rfl, trivial⟩ (fun sl hsl K hK => ae rfl (ah rfl rfl rfl rfl rfl rfl rfl rfl (hsl _ _ rfl) hK)) aA)) (az (fun _ => .p (eS ((lat a_0.fModule t16).fName))) rfl rfl rfl (d5 rfl (fun _ => rfl)) (lt1 rfl) (af [(16, _)] ⟨.inr ⟨0, _, rfl, rfl, rfl⟩, trivial⟩ (fun sl hsl K hK => ae rfl (bB rfl rfl rfl rfl rfl (hsl _ _ rfl) rfl rfl hK)) (af [(16, _)] ⟨.inr ⟨0, _, rfl, rfl, rfl⟩, trivial⟩ (fun sl hsl K hK => ae rfl (bB rfl rfl rfl rfl rfl (hsl _ _ rfl) rfl rfl hK)) aA)) ?_)
   refine az (fun _ => .p (eS (([109, 111, 100, 117, 108, 101, 46] : Bytes) ++ ((lat a_0.fModule t16).fName)))) rfl rfl rfl (d5 rfl (fun _ => rfl)) (lt1 rfl) (af [(17, _)] ⟨.inr ⟨1, _, rfl, rfl, rfl⟩, trivial⟩ (fun sl hsl K hK => ae rfl (b9 rfl rfl rfl rfl (hsl _ _ rfl) hk20 hK)) (af [(17, _)] ⟨.inr ⟨1, _, rfl, rfl, rfl⟩, trivial⟩ (fun sl hsl K hK => ae rfl (b9 rfl rfl rfl rfl (hsl _ _ rfl) hk20 hK)) aA)) (az (fun _ => .ptr 5 1) rfl rfl rfl (d5 rfl (fun _ => rfl)) (lt1 rfl) (af [(5, _)] ⟨.inl rfl, trivial⟩ (fun sl hsl K hK => ae rfl (ah rfl rfl rfl rfl rfl rfl rfl rfl (hsl _ _ rfl) hK)) (af [(5, _)] ⟨.inl rfl, trivial⟩ (fun sl hsl K hK => ae rfl (ah rfl rfl rfl rfl rfl rfl rfl rfl (hsl _ _ rfl) hK)) aA)) ?_)
   refine az (fun _ => .p (.agg (ea.cs ((lat a_0.fModule t16).fKey)))) rfl rfl rfl (d5 rfl (fun _ => rfl)) (lt1 rfl) (af [(19, _)] ⟨.inr ⟨3, _, rfl, rfl, rfl⟩, trivial⟩ (fun sl hsl K hK => ae rfl (gx rfl rfl rfl rfl rfl (hsl _ _ rfl) rfl rfl rfl hK)) (af [(19, _)] ⟨.inr ⟨3, _, rfl, rfl, rfl⟩, trivial⟩ (fun sl hsl K hK => ae rfl (gx rfl rfl rfl rfl rfl (hsl _ _ rfl) rfl rfl rfl hK)) aA)) (az (fun _ => .p (eS r21)) rfl rfl rfl (d5 rfl (fun _ => rfl)) (lt1 rfl) (al rfl (af [(20, _)] ⟨.inr ⟨4, _, rfl, rfl, rfl⟩, trivial⟩ (fun sl hsl K hK => ae rfl (bj (jN _ ((lat a_0.fModule t16).fKey) _ e22) rfl rfl rfl (ay (hsl _ _ rfl) bm) ⟨sr, trivial⟩ Tryz.call79 rfl hK)) aA)) ?_)
   refine az (fun _ => .p (eS ((([109, 111, 100, 117, 108, 101, 46] : Bytes) ++ ((lat a_0.fModule t16).fName)) ++ r21))) rfl rfl rfl (d5 rfl (fun _ => rfl)) (lt1 rfl) (af [(18, _), (21, _)] ⟨.inr ⟨2, _, rfl, rfl, rfl⟩, .inr ⟨5, _, rfl, rfl, rfl⟩, trivial⟩ (fun sl hsl K hK => ae rfl (b9 rfl rfl rfl (hsl _ _ rfl) (hsl _ _ rfl) hk23 hK)) (af [(18, _), (21, _)] ⟨.inr ⟨2, _, rfl, rfl, rfl⟩, .inr ⟨5, _, rfl, rfl, rfl⟩, trivial⟩ (fun sl hsl K hK => ae rfl (b9 rfl rfl rfl (hsl _ _ rfl) (hsl _ _ rfl) hk23 hK)) aA)) (az (fun _ => .p (eS (((([109, 111, 100, 117, 108, 101, 46] : Bytes) ++ ((lat a_0.fModule t16).fName)) ++ r21) ++ ([46] : Bytes)))) rfl rfl rfl (d5 rfl (fun _ => rfl)) (lt1 rfl) (al rfl (af [(22, _)] ⟨.inr ⟨6, _, rfl, rfl, rfl⟩, trivial⟩ (fun sl hsl K hK => ae rfl (b9 rfl rfl rfl (hsl _ _ rfl) rfl hk24 hK)) aA)) ?_)
   refine fO (fun _ => .tuple [.p (eI r25.1), .p (eE r25.2.1)]) [(3, _), (23, _)] rfl ⟨.inl rfl, .inr ⟨7, _, rfl, rfl, rfl⟩, trivial⟩ rfl rfl (fun _ => rfl) (lt1 (fun h => absurd h (by decide))) (fun sl hsl K hK => ae rfl (bo [3] [101000] 102000 102001 (bM (aD.mk f17) (((([109, 111, 100, 117, 108, 101, 46] : Bytes) ++ ((lat a_0.fModule t16).fName)) ++ r21) ++ ([46] : Bytes)) _ e26) rfl rfl rfl (ay (hsl _ _ rfl) (ay (hsl _ _ rfl) bm)) rfl ⟨sr, sr, trivial⟩ rfl rfl ⟨⟨_, rfl, ⟨sr, sr, trivial⟩⟩, trivial⟩ rfl rfl rfl rfl rfl rfl rfl rfl Tryz.call78 rfl rfl hK)) (kQ ?_)
   refine nx 2 rfl (oA h1 rfl rfl fun hk27 h1 => ?_)
   exact nx 2 rfl (eX (t16 + 1, r25.2.2.fbuf) h1 (bC (bz 102000 101000 rfl rfl rfl rfl rfl) (gE rfl rfl)))
  exact nx 2 rfl (eXi _ (oi h1).symm (gE rfl rfl))
 exact nx 6 rfl (mQ (oi h0) rfl (sr))
def dx : Nat → Option Unit
 | 0 => none
 | m + 1 =>
 if 0 < (([] : List aj).length : Int) then
  ck ((0 : Int) ≤ 0 ∧ 0 < (([] : List aj).length : Int)) <|
  none
 else
  some ()
def cw (a_0 : aK) : Nat → Int → (List aj) → Option (List aj)
 | 0, _, _ => none
 | m + 1, t10, l11 =>
 if t10 < (a_0.fModule.length : Int) then
  ck ((0 : Int) ≤ t10 ∧ t10 < (l11.length : Int)) <|
  ck (inR (t10 + 1)) <|
  cw a_0 m (t10 + 1) (l11.set t10.toNat (aj.mk ((lat l11 t10).fName) (ea.mk 0 0 ([] : Bytes))))
 else
  some l11
def eC (n : Nat) (a_0 : aK) : Option aK :=
 if a_0.fModule.isEmpty = true then
  (dx n ).bind fun q18 =>
  some (aK.mk ([] : List aj) a_0.fData a_0.fType a_0.fName (ea.mk 0 0 ([] : Bytes)))
 else
  ck (a_0.fModule.length * 48 ≤ 140737488355328) <|
  (cw a_0 n 0 a_0.fModule).bind fun l17 =>
  some (aK.mk l17 a_0.fData a_0.fType a_0.fName (ea.mk 0 0 ([] : Bytes)))
set_option maxHeartbeats 4000000 in
theorem oU (n : Nat) (a_0 : aK) (r : aK) (h0 : eC n a_0 = some r) : aF Tryz.prog 52 [.agg (aK.cs a_0)] (· = .p (.agg (aK.cs r))) := by
 unfold eC at h0
 refine bG good Tryz.func52 rfl rfl rfl fun w0 => mP (fun v : aK => .p (.agg (aK.cs v))) ?_
 refine nx 21 rfl (wE (b := a_0.fModule.isEmpty) (fun c1 => ?_) (fun c1 => ?_))
 ·replace h0 := x9 c1 h0
  refine mO rfl (bj (fR a_0.fModule c1) rfl rfl rfl rfl ⟨sr, trivial⟩ Tryz.call81 rfl ?_)
  refine nx 8 rfl (oLl (f := aI) rfl rfl ?_)
  refine nx 3 rfl (bd h0 fun o20 h1 h0 => ?_)
  refine kE 0 o20 (fun v21 => ⟨[(2, .ptr 2 0), (3, .ptr 3 0)], [(2, [.p (.val (.slice none 0 0)), .p (eB false), .p (eS ([] : Bytes)), .p (eS ([] : Bytes)), .p (eI 0), .p (eI 0), .p (eS ([] : Bytes))]), (3, [.p (eL aI ([] : List aj)), .p (eB a_0.fData), .p (eS a_0.fType), .p (eS a_0.fName), .p (eI 0), .p (eI 0), .p (eS ([] : Bytes))])]⟩) ?_ ?_
  ·exact nx 7 rfl (mQ (oi h0) rfl (sr))
  refine lG (fun (q22 : Unit) => ⟨[(2, .ptr 2 0), (3, .ptr 3 0), (14, .p (eI (([] : List aj).length : Int))), (15, .p (eI 0))], [(2, [.p (.val (.slice none 0 0)), .p (eB false), .p (eS ([] : Bytes)), .p (eS ([] : Bytes)), .p (eI 0), .p (eI 0), .p (eS ([] : Bytes))]), (3, [.p (eL aI ([] : List aj)), .p (eB a_0.fData), .p (eS a_0.fType), .p (eS a_0.fName), .p (eI 0), .p (eI 0), .p (eS ([] : Bytes))])]⟩) (fun m (q22 : Unit) => dx m ) (fun _ => rfl) () h1 (gE rfl rfl) ?_
  rintro m _ h1
  replace h1 : dx (m + 1)  = some o20 := h1
  rw [dx] at h1
  refine nx 5 rfl (fD [16] h1 rfl (fun c3 h1 => ?_) fun c3 h1 => ?_)
  ·refine nx 14 rfl (oE h1 aj.cells_eq rfl rfl (fun _ => rfl) fun hk4 h1 => ?_)
   refine nx 1 rfl ?_
   cases h1
  exact nx 2 rfl (eXi _ (oi h1).symm (gE rfl rfl))
 replace h0 := yw c1 h0
 refine cc' h0 fun hk2 h0 => mO rfl (bo [] [] 101000 101001 (fP a_0.fModule c1 hk2) rfl rfl rfl rfl rfl ⟨sr, trivial⟩ rfl rfl trivial rfl rfl rfl rfl rfl rfl rfl rfl Tryz.call81 rfl (aJ rfl (aM _) rfl) ?_)
 refine nx 12 rfl (bd h0 fun o23 h1 h0 => ?_)
 refine kE 0 o23 (fun v24 => ⟨[(2, .ptr 2 0), (3, .ptr 3 0)], [(2, [.p (.val (.slice none 0 0)), .p (eB false), .p (eS ([] : Bytes)), .p (eS ([] : Bytes)), .p (eI 0), .p (eI 0), .p (eS ([] : Bytes))]), (3, [.arr 101000 4 0 v24.length, .p (eB a_0.fData), .p (eS a_0.fType), .p (eS a_0.fName), .p (eI 0), .p (eI 0), .p (eS ([] : Bytes))]), (101000, ic aI v24)]⟩) ?_ ?_
 ·refine nx 3 rfl (mG (nI (sl' := [(2, .ptr 2 0), (3, .ptr 3 0)]) (ob' := [(2, [.p (.val (.slice none 0 0)), .p (eB false), .p (eS ([] : Bytes)), .p (eS ([] : Bytes)), .p (eI 0), .p (eI 0), .p (eS ([] : Bytes))]), (3, [.p (eL aI o23), .p (eB a_0.fData), .p (eS a_0.fType), .p (eS a_0.fName), .p (eI 0), .p (eI 0), .p (eS ([] : Bytes))])]) 101000 4 aI o23 rfl rfl rfl (fun x => ⟨congrArg List.length (aj.cells_eq x), by rw [aj.cells_eq]; rfl⟩) ⟨⟨_, rfl, .inl rfl⟩, ⟨_, rfl, .inl rfl⟩, trivial⟩ ⟨⟨rfl, _, rfl, ⟨.inl rfl, .inl rfl, .inl rfl, .inl rfl, .inl rfl, .inl rfl, .inl rfl, trivial⟩⟩, ⟨rfl, _, rfl, ⟨.inr ⟨(by simp), rfl⟩, .inl rfl, .inl rfl, .inl rfl, .inl rfl, .inl rfl, .inl rfl, trivial⟩⟩, trivial⟩) ?_)
  exact nx 4 rfl (mQ (oi h0) rfl (sr))
 refine lG (fun (q25 : Int × (List aj)) => ⟨[(2, .ptr 2 0), (3, .ptr 3 0), (14, .p (eI (a_0.fModule.length : Int))), (15, .p (eI q25.1))], [(2, [.p (.val (.slice none 0 0)), .p (eB false), .p (eS ([] : Bytes)), .p (eS ([] : Bytes)), .p (eI 0), .p (eI 0), .p (eS ([] : Bytes))]), (3, [.arr 101000 4 0 q25.2.length, .p (eB a_0.fData), .p (eS a_0.fType), .p (eS a_0.fName), .p (eI 0), .p (eI 0), .p (eS ([] : Bytes))]), (101000, ic aI q25.2)]⟩) (fun m (q25 : Int × (List aj)) => cw a_0 m q25.1 q25.2) (fun _ => rfl) (0, a_0.fModule) h1 (b7 (cj ⟨er rfl, er rfl, er rfl, er rfl, trivial⟩ ⟨⟨_, rfl, ⟨sr, sr, sr, sr, sr, sr, sr, trivial⟩⟩, ⟨_, rfl, ⟨AV.sub_of_eq (congrArg (AV.arr 101000 4 0) (by simp)), sr, sr, sr, sr, sr, sr, trivial⟩⟩, ⟨_, rfl, ap _⟩, trivial⟩)) ?_
 rintro m ⟨t10, l11⟩ h1
 replace h1 : cw a_0 (m + 1) t10 l11 = some o23 := h1
 rw [cw] at h1
 refine nx 5 rfl (fD [16] h1 rfl (fun c12 h1 => ?_) fun c12 h1 => ?_)
 ·refine nx 14 rfl (cc' h1 fun hk13 h1 => ?_)
  refine mO rfl (il rfl rfl rfl rfl rfl rfl rfl rfl rfl hk13 ?_)
  refine nx 1 rfl (mO rfl (se aI aj.cs l11 (aj.mk ((lat l11 t10).fName) (ea.mk 0 0 ([] : Bytes))) [eI 0, eI 0, eS ([] : Bytes)] rfl rfl rfl rfl rfl rfl rfl rfl rfl rfl hk13 aj.cells_eq (fun _ => rfl) rfl ?_))
  refine nx 2 rfl (oA h1 rfl rfl fun hk14 h1 => ?_)
  exact nx 2 rfl (eX (t10 + 1, l11.set t10.toNat (aj.mk ((lat l11 t10).fName) (ea.mk 0 0 ([] : Bytes)))) h1 (b7 (cj ⟨er rfl, er rfl, er rfl, er rfl, trivial⟩ ⟨⟨_, rfl, ⟨sr, sr, sr, sr, sr, sr, sr, trivial⟩⟩, ⟨_, rfl, ⟨AV.sub_of_eq (congrArg (AV.arr 101000 4 0) (by simp)), sr, sr, sr, sr, sr, sr, trivial⟩⟩, ⟨_, rfl, ap _⟩, trivial⟩)))
 exact nx 2 rfl (eXi _ (oi h1).symm (b7 (cj ⟨er rfl, er rfl, trivial⟩ ⟨⟨_, rfl, ⟨sr, sr, sr, sr, sr, sr, sr, trivial⟩⟩, ⟨_, rfl, ⟨AV.sub_of_eq (congrArg (AV.arr 101000 4 0) (by simp)), sr, sr, sr, sr, sr, sr, trivial⟩⟩, ⟨_, rfl, ap _⟩, trivial⟩)))
def d7 (n : Nat) (s_0 : Bytes) : Option (Bytes × Int) :=
 (fh n s_0).bind fun r1 =>
 if r1.2 = 0 then
  (eC n r1.1).bind fun r4 =>
  (eF n r4).bind fun r6 =>
  some (r6, 0)
 else
  some (([] : Bytes), r1.2)
set_option maxHeartbeats 4000000 in
theorem kJ (n : Nat) (s_0 : Bytes) (r : Bytes × Int) (h0 : d7 n s_0 = some r) : aF Tryz.prog 32 [eS s_0] (· = .tuple [.p (eS r.1), .p (eI r.2)]) := by
 unfold d7 at h0
 refine bG good Tryz.func32 rfl rfl rfl fun w0 => mP (fun v : Bytes × Int => .tuple [.p (eS v.1), .p (eI v.2)]) ?_
 refine nx 8 rfl (bd h0 fun r1 e2 h0 => ?_)
 refine oK (pT _ s_0 _ e2) rfl ⟨sr, trivial⟩ Tryz.call50 rfl (nx 13 rfl ?_)
 refine fN [12] h0 rfl (fun c3 h0 => ?_) fun c3 h0 => ?_
 ·refine nx 5 rfl (bd h0 fun r4 e5 h0 => ?_)
  refine oK (oU _ r1.1 _ e5) rfl ⟨sr, trivial⟩ Tryz.call52 rfl (bd h0 fun r6 e7 h0 => ?_)
  refine oK (oe _ r4 _ e7) rfl ⟨sr, trivial⟩ Tryz.call51 rfl (nx 4 rfl ?_)
  exact mQ (oi h0) rfl (bV ⟨sr, sr, trivial⟩)
 exact nx 8 rfl (mQ (oi h0) rfl (bV ⟨sr, sr, trivial⟩))
end Go.Ab.R06
end
section
set_option linter.unusedVariables false
set_option linter.unusedSimpArgs false
set_option linter.unnecessarySimpa false
namespace Go.Ab.R06
open Go.Proofs Go.Ab Go.Ab.RB
attribute [local irreducible] awp d9 aU aF bO AV.sub M dU
def eu (patterns_0 : List Bytes) (s_1 : Bytes) : Nat → Int → Option (Unit ⊕ Bool)
 | 0, _ => none
 | m + 1, t7 =>
 if t7 < (patterns_0.length : Int) then
  ck ((0 : Int) ≤ t7 ∧ t7 < (patterns_0.length : Int)) <|
  ck ((lat patterns_0 t7).length ≤ 65536 ∧ s_1.length ≤ 32768) <|
  if (Glob.matchL (lat patterns_0 t7) s_1) = true then
   some (.inr true)
  else
   ck (inR (t7 + 1)) <|
   eu patterns_0 s_1 m (t7 + 1)
 else
  some (.inl ())
def iM (n : Nat) (patterns_0 : List Bytes) (s_1 : Bytes) : Option Bool :=
 jn (eu patterns_0 s_1 n 0) fun q14 =>
 some false
set_option maxHeartbeats 4000000 in
theorem qd (n : Nat) (patterns_0 : List Bytes) (s_1 : Bytes) (r : Bool) (h0 : iM n patterns_0 s_1 = some r) : aF Tryz.prog 31 [eL eS patterns_0, eS s_1] (· = .p (eB r)) := by
 unfold iM at h0
 refine bG good Tryz.func31 rfl rfl rfl fun w0 => mP (fun v : Bool => .p (eB v)) ?_
 refine nx 8 rfl (oLl (f := eS) rfl rfl ?_)
 refine nx 3 rfl ?_
 obtain ⟨o15, h1, hL0, hR0⟩ := eH h0
 refine kEx 0 (fun v16 : Unit => o15 = .inl v16) (fun v16 => ⟨[], []⟩) (fun v16 hv => ?_) ?_
 ·have h0 := hL0 _ hv
  exact nx 6 rfl (mQ (oi h0) rfl (sr))
 refine lG (fun (q17 : Int) => ⟨[(1, .p (eS s_1)), (7, .p (eL eS patterns_0)), (8, .p (eI (patterns_0.length : Int))), (9, .p (eI q17))], []⟩) (fun m (q17 : Int) => eu patterns_0 s_1 m q17) (fun _ => rfl) 0 h1 (gE rfl rfl) ?_
 rintro m t7 h1
 replace h1 : eu patterns_0 s_1 (m + 1) t7 = some o15 := h1
 rw [eu] at h1
 refine nx 5 rfl (fD [10] h1 rfl (fun c8 h1 => ?_) fun c8 h1 => ?_)
 ·refine nx 6 rfl (oE h1 (fun _ => rfl) rfl rfl (fun _ => rfl) fun hk9 h1 => ?_)
  refine nx 7 rfl (cc' h1 fun hk10 h1 => ?_)
  refine oK (Glob.match_ok (lat patterns_0 t7) s_1 hk10.1 hk10.2) rfl ⟨sr, sr, trivial⟩ Tryz.call49 rfl (nx 1 rfl ?_)
  refine fB [15] h1 rfl (fun c11 h1 => ?_) fun c11 h1 => ?_
  ·exact nx 6 rfl (mQ (hR0 _ (oi h1).symm) rfl (sr))
  refine nx 3 rfl (oA h1 rfl rfl fun hk12 h1 => ?_)
  exact nx 2 rfl (eX (t7 + 1) h1 (gE rfl rfl))
 exact nx 2 rfl (eXi _ (oi h1).symm (gE rfl rfl))
end Go.Ab.R06
end
section
set_option linter.unusedVariables false
set_option linter.unusedSimpArgs false
set_option linter.unnecessarySimpa false
namespace Go.Ab.R06
open Go.Proofs Go.Ab Go.Ab.RB
attribute [local irreducible] awp d9 aU aF bO AV.sub M dU
def dK (l_0 : List Bytes) (in_1 : List (Bytes × Bool)) : Nat → (List Bytes) → Int → Option (List Bytes)
 | 0, _, _ => none
 | m + 1, out9, t10 =>
 if t10 < (l_0.length : Int) then
  (
    ck ((0 : Int) ≤ t10 ∧ t10 < (l_0.length : Int)) <|
    if ((bZ in_1 (lat l_0 t10)).getD false) = true then
     ck ((out9.length + [lat l_0 t10].length) * 16 ≤ 140737488355328) <|
     some (out9 ++ [lat l_0 t10])
    else
     some out9
   : Option (List Bytes)).bind fun out15 =>
  ck (inR (t10 + 1)) <|
  dK l_0 in_1 m out15 (t10 + 1)
 else
  some out9
def gq (n : Nat) (l_0 : List Bytes) (in_1 : List (Bytes × Bool)) : Option (List Bytes) :=
 (dK l_0 in_1 n [] 0).bind fun out19 =>
 some out19
set_option maxHeartbeats 4000000 in
theorem nN (n : Nat) (l_0 : List Bytes) (in_1 : List (Bytes × Bool)) (r : (List Bytes)) (h0 : gq n l_0 in_1 = some r) : bO Tryz.prog 57 [.p (eL eS l_0), .mp 900000 (in_1.map fun p : Bytes × Bool => (p.1, eB p.2))] [] (fun x y => x = .p (eL eS r) ∧ y = []) := by
 unfold gq at h0
 refine ga good [] [] Tryz.func57 rfl rfl rfl rfl rfl fun w0 F => mPo (fun v : (List Bytes) => .p (eL eS v)) (fun v => []) ?_
 refine nx 12 rfl (oLl (f := eS) rfl rfl ?_)
 refine nx 3 rfl (bd h0 fun o22 h1 h0 => ?_)
 refine kE 0 o22 (fun v23 => ⟨[(5, .vec 20 1 0 (v23.map eS))], []⟩) ?_ ?_
 ·exact nx 7 rfl (mQo (oi h0) (bv _) rfl rfl rfl rfl (sr) trivial)
 refine lG (fun (q24 : (List Bytes) × Int) => ⟨[(1, .mp 900000 (in_1.map fun p : Bytes × Bool => (p.1, eB p.2))), (5, .vec 20 1 0 (q24.1.map eS)), (8, .p (eL eS l_0)), (9, .p (eI (l_0.length : Int))), (10, .p (eI q24.2))], []⟩) (fun m (q24 : (List Bytes) × Int) => dK l_0 in_1 m q24.1 q24.2) (fun _ => rfl) ([], 0) h1 (b7 (cj ⟨er rfl, ⟨_, rfl, AV.sub_nilvec _ _ _⟩, er rfl, er rfl, er rfl, trivial⟩ trivial)) ?_
 rintro m ⟨out9, t10⟩ h1
 replace h1 : dK l_0 in_1 (m + 1) out9 t10 = some o22 := h1
 rw [dK] at h1
 refine nx 5 rfl (fD [11] h1 rfl (fun c11 h1 => ?_) fun c11 h1 => ?_)
 ·refine nx 3 rfl (bd h1 fun o25 h2 h1 => ?_)
  refine kN o25 (fun v26 => ⟨[(1, .mp 900000 (in_1.map fun p : Bytes × Bool => (p.1, eB p.2))), (5, .vec 20 1 0 (v26.map eS)), (8, .p (eL eS l_0)), (9, .p (eI (l_0.length : Int))), (10, .p (eI t10))], []⟩) ?_ ?_
  ·refine nx 2 rfl (oA h1 rfl rfl fun hk16 h1 => ?_)
   exact nx 2 rfl (eX (o25, t10 + 1) h1 (gE rfl rfl))
  refine nx 3 rfl (oE h2 (fun _ => rfl) rfl rfl (fun _ => rfl) fun hk12 h2 => ?_)
  refine nx 7 rfl (mO rfl (sj eB in_1 false rfl rfl rfl rfl rfl rfl rfl (by kernel_rfl) rfl rfl rfl ?_))
  refine nx 1 rfl (fB [16] h2 rfl (fun c13 h2 => ?_) fun c13 h2 => ?_)
  ·refine nx 4 rfl (mO rfl (bN eS [lat l_0 t10] rfl rfl rfl rfl rfl rfl rfl rfl rfl rfl rfl rfl rfl rfl ?_))
   refine cc' h2 fun hk14 h2 => mO rfl (fL eS out9 [lat l_0 t10] rfl rfl rfl rfl rfl rfl rfl rfl rfl rfl rfl rfl rfl (fun _ => rfl) rfl rfl rfl rfl hk14 ?_)
   exact nx 2 rfl (eX _ (oi h2).symm (gE rfl rfl))
  exact nx 2 rfl (eX _ (oi h2).symm (gE rfl rfl))
 exact nx 2 rfl (eXi _ (oi h1).symm (gE rfl rfl))
def dY (l_0 : List Bytes) : Nat → (List (Bytes × Bool)) → Int → Option (List (Bytes × Bool))
 | 0, _, _ => none
 | m + 1, out6, t7 =>
 if t7 < (l_0.length : Int) then
  ck ((0 : Int) ≤ t7 ∧ t7 < (l_0.length : Int)) <|
  ck (inR (t7 + 1)) <|
  dY l_0 m (gU out6 (lat l_0 t7) true) (t7 + 1)
 else
  some out6
def hQ (n : Nat) (l_0 : List Bytes) : Option (List (Bytes × Bool)) :=
 (dY l_0 n ([] : List (Bytes × Bool)) 0).bind fun out13 =>
 some out13
set_option maxHeartbeats 4000000 in
theorem oG (n : Nat) (l_0 : List Bytes) (r : (List (Bytes × Bool))) (h0 : hQ n l_0 = some r) : bO Tryz.prog 60 [.p (eL eS l_0)] [] (fun x y => x = .mp 2000000 (r.map fun p : Bytes × Bool => (p.1, eB p.2)) ∧ y = []) := by
 unfold hQ at h0
 refine ga good [800000] [] Tryz.func60 rfl rfl rfl rfl rfl fun w0 F => mPo (fun v : (List (Bytes × Bool)) => .mp 2000000 (v.map fun p : Bytes × Bool => (p.1, eB p.2))) (fun v => []) ?_
 refine nx 7 rfl (oLl (f := eS) rfl rfl ?_)
 refine mO rfl (tW rfl rfl rfl rfl rfl rfl rfl rfl ?_)
 refine nx 6 rfl (oLl (f := eS) rfl rfl ?_)
 refine nx 3 rfl (bd h0 fun o15 h1 h0 => ?_)
 refine kE 0 o15 (fun v16 => ⟨[(3, .mp 8 (v16.map fun p : Bytes × Bool => (p.1, eB p.2)))], []⟩) ?_ ?_
 ·exact nx 7 rfl (mQo (oi h0) (bC (bz 8 800000 rfl rfl rfl rfl rfl) (bv _)) rfl rfl rfl rfl (sr) trivial)
 refine lG (fun (q17 : (List (Bytes × Bool)) × Int) => ⟨[(3, .mp 8 (q17.1.map fun p : Bytes × Bool => (p.1, eB p.2))), (9, .p (eL eS l_0)), (10, .p (eI (l_0.length : Int))), (11, .p (eI q17.2))], []⟩) (fun m (q17 : (List (Bytes × Bool)) × Int) => dY l_0 m q17.1 q17.2) (fun _ => rfl) (([] : List (Bytes × Bool)), 0) h1 (gE rfl rfl) ?_
 rintro m ⟨out6, t7⟩ h1
 replace h1 : dY l_0 (m + 1) out6 t7 = some o15 := h1
 rw [dY] at h1
 refine nx 5 rfl (fD [12] h1 rfl (fun c8 h1 => ?_) fun c8 h1 => ?_)
 ·refine nx 6 rfl (oE h1 (fun _ => rfl) rfl rfl (fun _ => rfl) fun hk9 h1 => ?_)
  refine nx 6 rfl (mO rfl (tU eB out6 true rfl rfl rfl rfl rfl rfl rfl rfl rfl rfl rfl rfl ?_))
  refine nx 2 rfl (oA h1 rfl rfl fun hk10 h1 => ?_)
  exact nx 2 rfl (eX (gU out6 (lat l_0 t7) true, t7 + 1) h1 (gE rfl rfl))
 exact nx 2 rfl (eXi _ (oi h1).symm (gE rfl rfl))
def cJ (to_0 : List (Bytes × (List Bytes))) (todo39 : List Bytes) : Nat → (List (Bytes × Bool)) → (List Bytes) → Int → Option ((List (Bytes × Bool)) × (List Bytes))
 | 0, _, _, _ => none
 | m + 1, seen56, todo57, t58 =>
 if t58 < (((bZ to_0 (lat todo39 ((todo39.length : Int) - 1))).getD []).length : Int) then
  (
    ck ((0 : Int) ≤ t58 ∧ t58 < (((bZ to_0 (lat todo39 ((todo39.length : Int) - 1))).getD []).length : Int)) <|
    if (!((bZ seen56 (lat ((bZ to_0 (lat todo39 ((todo39.length : Int) - 1))).getD []) t58)).getD false)) = true then
     ck ((todo57.length + ([lat ((bZ to_0 (lat todo39 ((todo39.length : Int) - 1))).getD []) t58]).length) * 16 ≤ 140737488355328) <|
     some (gU seen56 (lat ((bZ to_0 (lat todo39 ((todo39.length : Int) - 1))).getD []) t58) true, todo57 ++ ([lat ((bZ to_0 (lat todo39 ((todo39.length : Int) - 1))).getD []) t58]))
    else
     some (seen56, todo57)
   : Option ((List (Bytes × Bool)) × (List Bytes))).bind fun q77 =>
  ck (inR (t58 + 1)) <|
  cJ to_0 todo39 m q77.1 q77.2 (t58 + 1)
 else
  some (seen56, todo57)
def cG (n : Nat) (to_0 : List (Bytes × (List Bytes))) : Nat → (List (Bytes × Bool)) → (List Bytes) → Option (List (Bytes × Bool))
 | 0, _, _ => none
 | m + 1, seen38, todo39 =>
 if 0 < (todo39.length : Int) then
  ck (inR ((todo39.length : Int) - 1)) <|
  ck ((0 : Int) ≤ (todo39.length : Int) - 1 ∧ (todo39.length : Int) - 1 < (todo39.length : Int)) <|
  ck (inR ((todo39.length : Int) - 1)) <|
  ck ((0 : Int) ≤ (todo39.length : Int) - 1 ∧ (todo39.length : Int) - 1 ≤ (todo39.length : Int)) <|
  (cJ to_0 todo39 n seen38 (todo39.take ((todo39.length : Int) - 1).toNat) 0).bind fun q76 =>
  cG n to_0 m q76.1 q76.2
 else
  some seen38
def fT (n : Nat) (to_0 : List (Bytes × (List Bytes))) (from_1 : List Bytes) : Option (List (Bytes × Bool)) :=
 (hQ n from_1).bind fun r1 =>
 ck (from_1.length * 16 ≤ 140737488355328) <|
 (cG n to_0 n r1 from_1).bind fun seen74 =>
 some seen74
set_option maxHeartbeats 4000000 in
theorem pK (n : Nat) (to_0 : List (Bytes × (List Bytes))) (from_1 : List Bytes) (r : (List (Bytes × Bool))) (h0 : fT n to_0 from_1 = some r) : bO Tryz.prog 58 [.mp 900000 (to_0.map fun p : Bytes × (List Bytes) => (p.1, (eL eS) p.2)), .p (eL eS from_1)] [] (fun x y => x = .mp 2000000 (r.map fun p : Bytes × Bool => (p.1, eB p.2)) ∧ y = []) := by
 unfold fT at h0
 refine ga good [800000] [] Tryz.func58 rfl rfl rfl rfl rfl fun w0 F => mPo (fun v : (List (Bytes × Bool)) => .mp 2000000 (v.map fun p : Bytes × Bool => (p.1, eB p.2))) (fun v => []) ?_
 refine nx 7 rfl (bd h0 fun r1 e2 h0 => ?_)
 refine mO rfl (bo [] [] 101000 101001 (oG _ from_1 _ e2) rfl rfl rfl rfl rfl ⟨sr, trivial⟩ rfl rfl trivial rfl rfl rfl rfl rfl rfl rfl rfl Tryz.call60 rfl rfl ?_)
 refine nx 5 rfl (cc' h0 fun hk3 h0 => ?_)
 refine mO rfl (bo [] [] 102000 102001 (jq from_1 hk3) rfl rfl rfl rfl rfl ⟨sr, trivial⟩ rfl rfl trivial rfl rfl rfl rfl rfl rfl rfl rfl Tryz.call65 rfl rfl ?_)
 refine nx 4 rfl (bd h0 fun o78 h1 h0 => ?_)
 refine kE 0 o78 (fun v79 => ⟨[(5, .mp 101000 (v79.map fun p : Bytes × Bool => (p.1, eB p.2)))], []⟩) ?_ ?_
 ·exact nx 7 rfl (mQo (oi h0) (bC (bz 101000 800000 rfl rfl rfl rfl rfl) (bv _)) rfl rfl rfl rfl (sr) trivial)
 refine lG (fun (q80 : (List (Bytes × Bool)) × (List Bytes)) => ⟨[(0, .mp 900000 (to_0.map fun p : Bytes × (List Bytes) => (p.1, (eL eS) p.2))), (5, .mp 101000 (q80.1.map fun p : Bytes × Bool => (p.1, eB p.2))), (6, .stk 102000 1 (q80.2.map eS))], []⟩) (fun m (q80 : (List (Bytes × Bool)) × (List Bytes)) => cG n to_0 m q80.1 q80.2) (fun _ => rfl) (r1, from_1) h1 (gE rfl rfl) ?_
 rintro m ⟨seen38, todo39⟩ h1
 replace h1 : cG n to_0 (m + 1) seen38 todo39 = some o78 := h1
 rw [cG] at h1
 refine nx 4 rfl (mO rfl (lA eS todo39 rfl rfl rfl rfl rfl rfl ?_))
 refine nx 2 rfl (fD [16] h1 rfl (fun c40 h1 => ?_) fun c40 h1 => ?_)
 ·refine nx 7 rfl (mO rfl (lA eS todo39 rfl rfl rfl rfl rfl rfl ?_))
  refine oA h1 rfl rfl fun hk41 h1 => cc' h1 fun hk42 h1 => mO rfl (mx eS todo39 rfl rfl rfl rfl rfl rfl rfl rfl rfl hk42 ?_)
  refine mO rfl (wX eS (fun _ => ⟨rfl, rfl⟩) todo39 6 rfl rfl rfl rfl rfl rfl rfl hk42 ?_)
  refine nx 6 rfl (mO rfl (lA eS todo39 rfl rfl rfl rfl rfl rfl ?_))
  refine oA h1 rfl rfl fun hk43 h1 => cc' h1 fun hk44 h1 => mO rfl (rM eS todo39 rfl rfl rfl rfl rfl rfl rfl rfl hk44 rfl ?_)
  refine nx 6 rfl (mO rfl (xk eS to_0 rfl rfl rfl rfl rfl rfl rfl (by kernel_rfl) rfl rfl ?_))
  refine oLl (f := eS) rfl rfl (nx 3 rfl ?_)
  refine bd h1 fun o81 h2 h1 => kE 2 o81 (fun v82 => ⟨[(0, .mp 900000 (to_0.map fun p : Bytes × (List Bytes) => (p.1, (eL eS) p.2))), (5, .mp 101000 (v82.1.map fun p : Bytes × Bool => (p.1, eB p.2))), (6, .stk 102000 1 (v82.2.map eS))], []⟩) ?_ ?_
  ·exact nx 1 rfl (eX (o81.1, o81.2) h1 (gE rfl rfl))
  refine lG (fun (q83 : (List (Bytes × Bool)) × (List Bytes) × Int) => ⟨[(0, .mp 900000 (to_0.map fun p : Bytes × (List Bytes) => (p.1, (eL eS) p.2))), (5, .mp 101000 (q83.1.map fun p : Bytes × Bool => (p.1, eB p.2))), (6, .stk 102000 1 (q83.2.1.map eS)), (30, .p (eL eS ((bZ to_0 (lat todo39 ((todo39.length : Int) - 1))).getD []))), (31, .p (eI (((bZ to_0 (lat todo39 ((todo39.length : Int) - 1))).getD []).length : Int))), (32, .p (eI q83.2.2))], []⟩) (fun m (q83 : (List (Bytes × Bool)) × (List Bytes) × Int) => cJ to_0 todo39 m q83.1 q83.2.1 q83.2.2) (fun _ => rfl) (seen38, todo39.take ((todo39.length : Int) - 1).toNat, 0) h2 (gE rfl rfl) ?_
  rintro m ⟨seen56, todo57, t58⟩ h2
  replace h2 : cJ to_0 todo39 (m + 1) seen56 todo57 t58 = some o81 := h2
  rw [cJ] at h2
  refine nx 5 rfl (fD [33] h2 rfl (fun c59 h2 => ?_) fun c59 h2 => ?_)
  ·refine nx 3 rfl (bd h2 fun o84 h3 h2 => ?_)
   refine kN o84 (fun v85 => ⟨[(0, .mp 900000 (to_0.map fun p : Bytes × (List Bytes) => (p.1, (eL eS) p.2))), (5, .mp 101000 (v85.1.map fun p : Bytes × Bool => (p.1, eB p.2))), (6, .stk 102000 1 (v85.2.map eS)), (30, .p (eL eS ((bZ to_0 (lat todo39 ((todo39.length : Int) - 1))).getD []))), (31, .p (eI (((bZ to_0 (lat todo39 ((todo39.length : Int) - 1))).getD []).length : Int))), (32, .p (eI t58))], []⟩) ?_ ?_
   ·refine nx 2 rfl (oA h2 rfl rfl fun hk66 h2 => ?_)
    exact nx 2 rfl (eX (o84.1, o84.2, t58 + 1) h2 (gE rfl rfl))
   refine nx 3 rfl (oE h3 (fun _ => rfl) rfl rfl (fun _ => rfl) fun hk60 h3 => ?_)
   refine nx 7 rfl (mO rfl (sj eB seen56 false rfl rfl rfl rfl rfl rfl rfl (by kernel_rfl) rfl rfl rfl ?_))
   refine nx 2 rfl (fB [39] h3 rfl (fun c61 h3 => ?_) fun c61 h3 => ?_)
   ·refine nx 5 rfl (mO rfl (tU eB seen56 true rfl rfl rfl rfl rfl rfl rfl rfl rfl rfl rfl rfl ?_))
    refine nx 4 rfl (mO rfl (bN eS [lat ((bZ to_0 (lat todo39 ((todo39.length : Int) - 1))).getD []) t58] rfl rfl rfl rfl rfl rfl rfl rfl rfl rfl rfl rfl rfl rfl ?_))
    refine cc' h3 fun hk62 h3 => mO rfl (ra eS (fun _ => ⟨rfl, rfl⟩) todo57 ([lat ((bZ to_0 (lat todo39 ((todo39.length : Int) - 1))).getD []) t58]) rfl rfl rfl rfl rfl rfl rfl rfl rfl rfl rfl rfl (Nat.zero_lt_succ _) rfl rfl rfl hk62 rfl rfl ?_)
    exact nx 2 rfl (eX _ (oi h3).symm (gE rfl rfl))
   exact nx 2 rfl (eX _ (oi h3).symm (gE rfl rfl))
  exact nx 2 rfl (eXi _ (oi h2).symm (gE rfl rfl))
 exact nx 2 rfl (eXi _ (oi h1).symm (gE rfl rfl))
def dJ (g_0 : aO) : Nat → (List (Bytes × List Bytes)) → Int → Option (List (Bytes × List Bytes))
 | 0, _, _ => none
 | m + 1, out7, t8 =>
 if t8 < (g_0.fEdges.length : Int) then
  ck ((0 : Int) ≤ t8 ∧ t8 < (g_0.fEdges.length : Int)) <|
  ck ((((bZ out7 ((lat g_0.fEdges t8).fFrom)).getD []).length + [(lat g_0.fEdges t8).fTo].length) * 16 ≤ 140737488355328) <|
  ck (inR (t8 + 1)) <|
  dJ g_0 m (gU out7 ((lat g_0.fEdges t8).fFrom) (((bZ out7 ((lat g_0.fEdges t8).fFrom)).getD []) ++ [(lat g_0.fEdges t8).fTo])) (t8 + 1)
 else
  some out7
def gR (n : Nat) (g_0 : aO) : Option (List (Bytes × (List Bytes))) :=
 (dJ g_0 n ([] : List (Bytes × List Bytes)) 0).bind fun out15 =>
 some out15
set_option maxHeartbeats 4000000 in
theorem rV (n : Nat) (g_0 : aO) (r : (List (Bytes × (List Bytes)))) (h0 : gR n g_0 = some r) : bO Tryz.prog 59 [.p (.agg (aO.cs g_0))] [] (fun x y => x = .mp 2000000 (r.map fun p : Bytes × (List Bytes) => (p.1, (eL eS) p.2)) ∧ y = []) := by
 unfold gR at h0
 refine ga good [800000] [] Tryz.func59 rfl rfl rfl rfl rfl fun w0 F => mPo (fun v : (List (Bytes × (List Bytes))) => .mp 2000000 (v.map fun p : Bytes × (List Bytes) => (p.1, (eL eS) p.2))) (fun v => []) ?_
 refine nx 9 rfl (oLl (f := eS) rfl rfl ?_)
 refine mO rfl (rf 1 0 rfl rfl rfl rfl rfl rfl rfl rfl ?_)
 refine nx 7 rfl (oLl (f := fQ) rfl rfl ?_)
 refine nx 3 rfl (bd h0 fun o17 h1 h0 => ?_)
 refine kE 0 o17 (fun v18 => ⟨[(3, .mpr 9 1 0 none (v18.map fun p : Bytes × List Bytes => (p.1, p.2.map eS)))], []⟩) ?_ ?_
 ·refine nx 6 rfl (mG (t := ⟨[(2, .mp 9 (o17.map fun p : Bytes × (List Bytes) => (p.1, (eL eS) p.2)))], []⟩) (b7 (cj ⟨⟨_, rfl, xi _ _ _ eS o17⟩, trivial⟩ trivial)) ?_)
  exact nx 1 rfl (mQo (oi h0) (bC (bz 9 800000 rfl rfl rfl rfl rfl) (bv _)) rfl rfl rfl rfl (sr) trivial)
 refine lG (fun (q19 : (List (Bytes × List Bytes)) × Int) => ⟨[(3, .mpr 9 1 0 none (q19.1.map fun p : Bytes × List Bytes => (p.1, p.2.map eS))), (11, .p (eL fQ g_0.fEdges)), (12, .p (eI (g_0.fEdges.length : Int))), (13, .p (eI q19.2))], []⟩) (fun m (q19 : (List (Bytes × List Bytes)) × Int) => dJ g_0 m q19.1 q19.2) (fun _ => rfl) (([] : List (Bytes × List Bytes)), 0) h1 (gE rfl rfl) ?_
 rintro m ⟨out7, t8⟩ h1
 replace h1 : dJ g_0 (m + 1) out7 t8 = some o17 := h1
 rw [dJ] at h1
 refine nx 5 rfl (fD [14] h1 rfl (fun c9 h1 => ?_) fun c9 h1 => ?_)
 ·refine nx 6 rfl (oE h1 b8.cells_eq rfl rfl (fun _ => rfl) fun hk10 h1 => ?_)
  refine nx 4 rfl (cc' h1 fun hk11 h1 => ?_)
  refine mG (gE (t := ⟨[(3, .mpr 9 1 0 none (out7.map fun p : Bytes × List Bytes => (p.1, p.2.map eS))), (5, .ptr 5 0), (11, .p (eL fQ g_0.fEdges)), (12, .p (eI (g_0.fEdges.length : Int))), (13, .p (eI t8))], [(5, (b8.cs (lat g_0.fEdges t8)).map .p)]⟩) rfl rfl) (mS ⟨3, [6, 10, 11], (by4 (.fn (tkA 9 23 (.mpr 9 1 0 (some ((lat g_0.fEdges t8).fFrom)) (out7.map fun p : Bytes × List Bytes => (p.1, p.2.map eS))))) (.some fun i => Nat.beq i 23 || Nat.beq i 27) (.fn (tkA 9 27 (.mpr 9 1 0 none ((gU out7 ((lat g_0.fEdges t8).fFrom) (((bZ out7 ((lat g_0.fEdges t8).fFrom)).getD []) ++ [(lat g_0.fEdges t8).fTo])).map fun p : Bytes × List Bytes => (p.1, p.2.map eS))))) .none), (by4 [(3, .mpr 9 1 0 none (out7.map fun p : Bytes × List Bytes => (p.1, p.2.map eS))), (5, .ptr 5 0), (11, .p (eL fQ g_0.fEdges)), (12, .p (eI (g_0.fEdges.length : Int))), (13, .p (eI t8))] [(3, .mpr 9 1 0 (some ((lat g_0.fEdges t8).fFrom)) (out7.map fun p : Bytes × List Bytes => (p.1, p.2.map eS))), (5, .ptr 5 0), (11, .p (eL fQ g_0.fEdges)), (12, .p (eI (g_0.fEdges.length : Int))), (13, .p (eI t8))] [(3, .mpr 9 1 0 (some ((lat g_0.fEdges t8).fFrom)) (out7.map fun p : Bytes × List Bytes => (p.1, p.2.map eS))), (5, .ptr 5 0), (11, .p (eL fQ g_0.fEdges)), (12, .p (eI (g_0.fEdges.length : Int))), (13, .p (eI t8))] ([(3, .mpr 9 1 0 none ((gU out7 ((lat g_0.fEdges t8).fFrom) (((bZ out7 ((lat g_0.fEdges t8).fFrom)).getD []) ++ [(lat g_0.fEdges t8).fTo])).map fun p : Bytes × List Bytes => (p.1, p.2.map eS))), (5, .ptr 5 0), (11, .p (eL fQ g_0.fEdges)), (12, .p (eI (g_0.fEdges.length : Int))), (13, .p (eI t8))])), (fun _ => [(5, [.p (eS ((lat g_0.fEdges t8).fFrom)), .p (eS ((lat g_0.fEdges t8).fTo))])])⟩ rfl rfl rfl ⟨rfl, rfl, rfl, rfl, rfl, trivial⟩ (lt3 ⟨rfl, rfl, rfl, rfl, rfl, trivial⟩ ⟨rfl, rfl, rfl, rfl, rfl, trivial⟩ ⟨rfl, rfl, rfl, rfl, rfl, trivial⟩) rfl rfl rfl rfl ?_)
  refine az (by4 (.mpr 9 1 0 none (out7.map fun p : Bytes × List Bytes => (p.1, p.2.map eS))) (.mpr 9 1 0 (some ((lat g_0.fEdges t8).fFrom)) (out7.map fun p : Bytes × List Bytes => (p.1, p.2.map eS))) (.mpr 9 1 0 (some ((lat g_0.fEdges t8).fFrom)) (out7.map fun p : Bytes × List Bytes => (p.1, p.2.map eS))) (.mpr 9 1 0 none ((gU out7 ((lat g_0.fEdges t8).fFrom) (((bZ out7 ((lat g_0.fEdges t8).fFrom)).getD []) ++ [(lat g_0.fEdges t8).fTo])).map fun p : Bytes × List Bytes => (p.1, p.2.map eS)))) rfl rfl rfl (iY rfl rfl rfl (fun _ => rfl)) (lt3 rfl rfl rfl) (al rfl (af [(3, _)] ⟨.inl rfl, trivial⟩ (fun sl hsl K hK => ae rfl (aR rfl rfl rfl (hsl _ _ rfl) hK)) (af [(3, _)] ⟨.inl rfl, trivial⟩ (fun sl hsl K hK => ae rfl (aR rfl rfl rfl (hsl _ _ rfl) hK)) (af [(3, _)] ⟨.inl rfl, trivial⟩ (fun sl hsl K hK => ae rfl (aR rfl rfl rfl (hsl _ _ rfl) hK)) aA)))) (az (fun _ => .ptr 5 0) rfl rfl rfl (iY rfl rfl rfl (fun _ => rfl)) (lt3 rfl rfl rfl) (al rfl (af [(5, _)] ⟨.inl rfl, trivial⟩ (fun sl hsl K hK => ae rfl (ah rfl rfl rfl rfl rfl rfl rfl rfl (hsl _ _ rfl) hK)) (af [(5, _)] ⟨.inl rfl, trivial⟩ (fun sl hsl K hK => ae rfl (ah rfl rfl rfl rfl rfl rfl rfl rfl (hsl _ _ rfl) hK)) (af [(5, _)] ⟨.inl rfl, trivial⟩ (fun sl hsl K hK => ae rfl (ah rfl rfl rfl rfl rfl rfl rfl rfl (hsl _ _ rfl) hK)) aA)))) ?_)
  refine az (fun _ => .p (eS ((lat g_0.fEdges t8).fFrom))) rfl rfl rfl (iY rfl rfl rfl (fun _ => rfl)) (lt3 rfl rfl rfl) (al rfl (af [(18, _)] ⟨.inr ⟨1, _, rfl, rfl, rfl⟩, trivial⟩ (fun sl hsl K hK => ae rfl (bB rfl rfl rfl rfl rfl (hsl _ _ rfl) rfl rfl hK)) (af [(18, _)] ⟨.inr ⟨1, _, rfl, rfl, rfl⟩, trivial⟩ (fun sl hsl K hK => ae rfl (bB rfl rfl rfl rfl rfl (hsl _ _ rfl) rfl rfl hK)) (af [(18, _)] ⟨.inr ⟨1, _, rfl, rfl, rfl⟩, trivial⟩ (fun sl hsl K hK => ae rfl (bB rfl rfl rfl rfl rfl (hsl _ _ rfl) rfl rfl hK)) aA)))) (az (by4 (.mpr 9 1 0 none (out7.map fun p : Bytes × List Bytes => (p.1, p.2.map eS))) (.mpr 9 1 0 (some ((lat g_0.fEdges t8).fFrom)) (out7.map fun p : Bytes × List Bytes => (p.1, p.2.map eS))) (.mpr 9 1 0 (some ((lat g_0.fEdges t8).fFrom)) (out7.map fun p : Bytes × List Bytes => (p.1, p.2.map eS))) (.mpr 9 1 0 none ((gU out7 ((lat g_0.fEdges t8).fFrom) (((bZ out7 ((lat g_0.fEdges t8).fFrom)).getD []) ++ [(lat g_0.fEdges t8).fTo])).map fun p : Bytes × List Bytes => (p.1, p.2.map eS)))) rfl rfl rfl (iY rfl rfl rfl (fun _ => rfl)) (lt3 rfl rfl rfl) (al rfl (al rfl (al rfl (af [(3, _)] ⟨.inl rfl, trivial⟩ (fun sl hsl K hK => ae rfl (aR rfl rfl rfl (hsl _ _ rfl) hK)) aA)))) ?_)
  refine az (fun _ => .ptr 5 0) rfl rfl rfl (iY rfl rfl rfl (fun _ => rfl)) (lt3 rfl rfl rfl) (al rfl (af [(5, _)] ⟨.inl rfl, trivial⟩ (fun sl hsl K hK => ae rfl (ah rfl rfl rfl rfl rfl rfl rfl rfl (hsl _ _ rfl) hK)) (af [(5, _)] ⟨.inl rfl, trivial⟩ (fun sl hsl K hK => ae rfl (ah rfl rfl rfl rfl rfl rfl rfl rfl (hsl _ _ rfl) hK)) (af [(5, _)] ⟨.inl rfl, trivial⟩ (fun sl hsl K hK => ae rfl (ah rfl rfl rfl rfl rfl rfl rfl rfl (hsl _ _ rfl) hK)) aA)))) (az (fun _ => .p (eS ((lat g_0.fEdges t8).fFrom))) rfl rfl rfl (iY rfl rfl rfl (fun _ => rfl)) (lt3 rfl rfl rfl) (al rfl (al rfl (al rfl (af [(21, _)] ⟨.inr ⟨4, _, rfl, rfl, rfl⟩, trivial⟩ (fun sl hsl K hK => ae rfl (bB rfl rfl rfl rfl rfl (hsl _ _ rfl) rfl rfl hK)) aA)))) ?_)
  refine fO (by4 (.vec 23 1 0 (((bZ out7 ((lat g_0.fEdges t8).fFrom)).getD []).map eS)) (.vec 23 1 0 (((bZ out7 ((lat g_0.fEdges t8).fFrom)).getD []).map eS)) (.p (eL eS ((bZ out7 ((lat g_0.fEdges t8).fFrom)).getD []))) (.p (eL eS ((bZ out7 ((lat g_0.fEdges t8).fFrom)).getD [])))) [(20, _), (22, _)] rfl ⟨.inr ⟨3, _, rfl, rfl, rfl⟩, .inr ⟨5, _, rfl, rfl, rfl⟩, trivial⟩ rfl rfl (pD rfl rfl (fun _ => rfl)) (lt3 (fun h => absurd h (by decide)) (fun _ => rfl) (fun _ => rfl)) (fun sl hsl K hK => ae rfl (vl eS out7 rfl rfl rfl rfl rfl rfl rfl (by kernel_rfl) (hsl _ _ rfl) (hsl _ _ rfl) rfl rfl rfl hK)) (az (fun _ => .ptr 5 1) rfl rfl rfl (iY rfl rfl rfl (fun _ => rfl)) (lt3 rfl rfl rfl) (al rfl (af [(5, _)] ⟨.inl rfl, trivial⟩ (fun sl hsl K hK => ae rfl (ah rfl rfl rfl rfl rfl rfl rfl rfl (hsl _ _ rfl) hK)) (af [(5, _)] ⟨.inl rfl, trivial⟩ (fun sl hsl K hK => ae rfl (ah rfl rfl rfl rfl rfl rfl rfl rfl (hsl _ _ rfl) hK)) (af [(5, _)] ⟨.inl rfl, trivial⟩ (fun sl hsl K hK => ae rfl (ah rfl rfl rfl rfl rfl rfl rfl rfl (hsl _ _ rfl) hK)) aA)))) ?_)
  refine az (fun _ => .p (eS ((lat g_0.fEdges t8).fTo))) rfl rfl rfl (iY rfl rfl rfl (fun _ => rfl)) (lt3 rfl rfl rfl) (al rfl (af [(24, _)] ⟨.inr ⟨7, _, rfl, rfl, rfl⟩, trivial⟩ (fun sl hsl K hK => ae rfl (bB rfl rfl rfl rfl rfl (hsl _ _ rfl) rfl rfl hK)) (af [(24, _)] ⟨.inr ⟨7, _, rfl, rfl, rfl⟩, trivial⟩ (fun sl hsl K hK => ae rfl (bB rfl rfl rfl rfl rfl (hsl _ _ rfl) rfl rfl hK)) (af [(24, _)] ⟨.inr ⟨7, _, rfl, rfl, rfl⟩, trivial⟩ (fun sl hsl K hK => ae rfl (bB rfl rfl rfl rfl rfl (hsl _ _ rfl) rfl rfl hK)) aA)))) (az (fun _ => .p (eL eS [(lat g_0.fEdges t8).fTo])) rfl rfl rfl (iY rfl rfl rfl (fun _ => rfl)) (lt3 rfl rfl rfl) (al rfl (al rfl (af [(25, _)] ⟨.inr ⟨8, _, rfl, rfl, rfl⟩, trivial⟩ (fun sl hsl K hK => ae rfl (bN eS [(lat g_0.fEdges t8).fTo] rfl rfl rfl rfl rfl rfl (nR (hsl _ _ rfl) rfl pL) rfl rfl rfl rfl rfl rfl rfl hK)) (af [(25, _)] ⟨.inr ⟨8, _, rfl, rfl, rfl⟩, trivial⟩ (fun sl hsl K hK => ae rfl (bN eS [(lat g_0.fEdges t8).fTo] rfl rfl rfl rfl rfl rfl (nR (hsl _ _ rfl) rfl pL) rfl rfl rfl rfl rfl rfl rfl hK)) aA)))) ?_)
  refine fO (by4 (.vec 27 1 0 ((((bZ out7 ((lat g_0.fEdges t8).fFrom)).getD []) ++ [(lat g_0.fEdges t8).fTo]).map eS)) (.vec 27 1 0 ((((bZ out7 ((lat g_0.fEdges t8).fFrom)).getD []) ++ [(lat g_0.fEdges t8).fTo]).map eS)) (.vec 27 1 0 ((((bZ out7 ((lat g_0.fEdges t8).fFrom)).getD []) ++ [(lat g_0.fEdges t8).fTo]).map eS)) (.p (eL eS (((bZ out7 ((lat g_0.fEdges t8).fFrom)).getD []) ++ [(lat g_0.fEdges t8).fTo])))) [(23, _), (26, _)] rfl ⟨.inr ⟨6, _, rfl, rfl, rfl⟩, .inr ⟨9, _, rfl, rfl, rfl⟩, trivial⟩ rfl rfl (d5 rfl (fun _ => rfl)) (lt3 (fun h => absurd h (by decide)) (fun h => absurd h (by decide)) (fun _ => rfl)) (fun sl hsl K hK => ae rfl (fL eS ((bZ out7 ((lat g_0.fEdges t8).fFrom)).getD []) [(lat g_0.fEdges t8).fTo] rfl rfl rfl rfl rfl rfl rfl rfl (hsl _ _ rfl) rfl rfl (hsl _ _ rfl) rfl (fun _ => rfl) rfl rfl rfl rfl hk11 hK)) (ik [(17, _), (19, _), (27, _)] rfl ⟨.inr ⟨0, _, rfl, rfl, rfl⟩, .inr ⟨2, _, rfl, rfl, rfl⟩, .inr ⟨10, _, rfl, rfl, rfl⟩, trivial⟩ rfl (fun sl hsl K hK => ae rfl (xK eS out7 (((bZ out7 ((lat g_0.fEdges t8).fFrom)).getD []) ++ [(lat g_0.fEdges t8).fTo]) rfl rfl rfl rfl rfl rfl (hsl _ _ rfl) (hsl _ _ rfl) (hsl _ _ rfl) rfl rfl rfl rfl hK)) ?_)
  refine kQ (nx 2 rfl ?_)
  exact oA h1 rfl rfl fun hk12 h1 => nx 2 rfl (eX (gU out7 ((lat g_0.fEdges t8).fFrom) (((bZ out7 ((lat g_0.fEdges t8).fFrom)).getD []) ++ [(lat g_0.fEdges t8).fTo]), t8 + 1) h1 (gE rfl rfl))
 exact nx 2 rfl (eXi _ (oi h1).symm (gE rfl rfl))
def gi (n : Nat) (g_0 : aO) (from_1 : List Bytes) : Option (List Bytes) :=
 (gR n g_0).bind fun r1 =>
 (hQ n from_1).bind fun r3 =>
 (gq n g_0.fNodes r3).bind fun r5 =>
 (fT n r1 r5).bind fun r7 =>
 (gq n g_0.fNodes r7).bind fun r9 =>
 some r9
set_option maxHeartbeats 4000000 in
theorem rk (n : Nat) (g_0 : aO) (from_1 : List Bytes) (r : (List Bytes)) (h0 : gi n g_0 from_1 = some r) : aF Tryz.prog 37 [.agg (aO.cs g_0), eL eS from_1] (· = .p (eL eS r)) := by
 unfold gi at h0
 refine bG good Tryz.func37 rfl rfl rfl fun w0 => mP (fun v : (List Bytes) => .p (eL eS v)) ?_
 refine nx 6 rfl (bd h0 fun r1 e2 h0 => ?_)
 refine bd h0 fun r3 e4 h0 => bd h0 fun r5 e6 h0 => bd h0 fun r7 e8 h0 => bd h0 fun r9 e10 h0 => mG (gE (t := ⟨[(1, .p (eL eS from_1)), (2, .ptr 2 0)], [(2, (aO.cs g_0).map .p)]⟩) rfl rfl) (mS ⟨5, [3, 7, 8, 9, 10], (by6 (.some (fy [] 101000 101001)) (.some (fy [] 102000 102001)) (.some (fy [102000] 103000 103000)) (.some (fy [101000] 104000 104001)) (.some (fy [104000] 105000 105000)) .none), (fun _ => [(1, .p (eL eS from_1)), (2, .ptr 2 0)]), (fun _ => [(2, [.p (eL eS g_0.fNodes), .p (eL fQ g_0.fEdges)])])⟩ rfl rfl rfl ⟨rfl, rfl, trivial⟩ (lt5 ⟨rfl, rfl, trivial⟩ ⟨rfl, rfl, trivial⟩ ⟨rfl, rfl, trivial⟩ ⟨rfl, rfl, trivial⟩ ⟨rfl, rfl, trivial⟩) rfl rfl rfl rfl ?_)
 refine az (fun _ => .ptr 2 0) rfl rfl rfl (mu rfl rfl rfl rfl rfl (fun _ => rfl)) (lt5 rfl rfl rfl rfl rfl) (af [(2, _)] ⟨.inl rfl, trivial⟩ (fun sl hsl K hK => ae rfl (ah rfl rfl rfl rfl rfl rfl rfl rfl (hsl _ _ rfl) hK)) (af [(2, _)] ⟨.inl rfl, trivial⟩ (fun sl hsl K hK => ae rfl (ah rfl rfl rfl rfl rfl rfl rfl rfl (hsl _ _ rfl) hK)) (af [(2, _)] ⟨.inl rfl, trivial⟩ (fun sl hsl K hK => ae rfl (ah rfl rfl rfl rfl rfl rfl rfl rfl (hsl _ _ rfl) hK)) (af [(2, _)] ⟨.inl rfl, trivial⟩ (fun sl hsl K hK => ae rfl (ah rfl rfl rfl rfl rfl rfl rfl rfl (hsl _ _ rfl) hK)) (af [(2, _)] ⟨.inl rfl, trivial⟩ (fun sl hsl K hK => ae rfl (ah rfl rfl rfl rfl rfl rfl rfl rfl (hsl _ _ rfl) hK)) (af [(2, _)] ⟨.inl rfl, trivial⟩ (fun sl hsl K hK => ae rfl (ah rfl rfl rfl rfl rfl rfl rfl rfl (hsl _ _ rfl) hK)) aA)))))) (az (fun _ => .p (eL eS g_0.fNodes)) rfl rfl rfl (mu rfl rfl rfl rfl rfl (fun _ => rfl)) (lt5 rfl rfl rfl rfl rfl) (al rfl (af [(5, _)] ⟨.inr ⟨0, _, rfl, rfl, rfl⟩, trivial⟩ (fun sl hsl K hK => ae rfl (bB rfl rfl rfl rfl rfl (hsl _ _ rfl) rfl rfl hK)) (af [(5, _)] ⟨.inr ⟨0, _, rfl, rfl, rfl⟩, trivial⟩ (fun sl hsl K hK => ae rfl (bB rfl rfl rfl rfl rfl (hsl _ _ rfl) rfl rfl hK)) (af [(5, _)] ⟨.inr ⟨0, _, rfl, rfl, rfl⟩, trivial⟩ (fun sl hsl K hK => ae rfl (bB rfl rfl rfl rfl rfl (hsl _ _ rfl) rfl rfl hK)) (af [(5, _)] ⟨.inr ⟨0, _, rfl, rfl, rfl⟩, trivial⟩ (fun sl hsl K hK => ae rfl (bB rfl rfl rfl rfl rfl (hsl _ _ rfl) rfl rfl hK)) (af [(5, _)] ⟨.inr ⟨0, _, rfl, rfl, rfl⟩, trivial⟩ (fun sl hsl K hK => ae rfl (bB rfl rfl rfl rfl rfl (hsl _ _ rfl) rfl rfl hK)) aA)))))) ?_)
 refine az (fun _ => .p (.agg (aO.cs g_0))) rfl rfl rfl (mu rfl rfl rfl rfl rfl (fun _ => rfl)) (lt5 rfl rfl rfl rfl rfl) (al rfl (al rfl (al rfl (al rfl (al rfl (af [(2, _)] ⟨.inl rfl, trivial⟩ (fun sl hsl K hK => ae rfl (gx rfl rfl rfl rfl rfl (hsl _ _ rfl) rfl rfl rfl hK)) aA)))))) (fO (by6 (.mp 101000 (r1.map fun p : Bytes × (List Bytes) => (p.1, (eL eS) p.2))) (.mp 101000 (r1.map fun p : Bytes × (List Bytes) => (p.1, (eL eS) p.2))) (.mp 101000 (r1.map fun p : Bytes × (List Bytes) => (p.1, (eL eS) p.2))) (.mp 101000 (r1.map fun p : Bytes × (List Bytes) => (p.1, (eL eS) p.2))) .undef .undef) [(7, _)] rfl ⟨.inr ⟨2, _, rfl, rfl, rfl⟩, trivial⟩ rfl rfl (BO rfl rfl rfl rfl (fun _ => rfl)) (lt5 (fun h => absurd h (by decide)) (fun _ => rfl) (fun _ => rfl) (fun _ => rfl) (fun _ => rfl)) (fun sl hsl K hK => ae rfl (bo [] [] 101000 101001 (rV _ g_0 _ e2) rfl rfl rfl (ay (hsl _ _ rfl) bm) rfl ⟨sr, trivial⟩ rfl rfl trivial rfl rfl rfl rfl rfl rfl rfl rfl Tryz.call59 rfl rfl hK)) ?_)
 refine az (fun _ => .ptr 2 0) rfl rfl rfl (mu rfl rfl rfl rfl rfl (fun _ => rfl)) (lt5 rfl rfl rfl rfl rfl) (af [(2, _)] ⟨.inl rfl, trivial⟩ (fun sl hsl K hK => ae rfl (ah rfl rfl rfl rfl rfl rfl rfl rfl (hsl _ _ rfl) hK)) (af [(2, _)] ⟨.inl rfl, trivial⟩ (fun sl hsl K hK => ae rfl (ah rfl rfl rfl rfl rfl rfl rfl rfl (hsl _ _ rfl) hK)) (af [(2, _)] ⟨.inl rfl, trivial⟩ (fun sl hsl K hK => ae rfl (ah rfl rfl rfl rfl rfl rfl rfl rfl (hsl _ _ rfl) hK)) (af [(2, _)] ⟨.inl rfl, trivial⟩ (fun sl hsl K hK => ae rfl (ah rfl rfl rfl rfl rfl rfl rfl rfl (hsl _ _ rfl) hK)) (af [(2, _)] ⟨.inl rfl, trivial⟩ (fun sl hsl K hK => ae rfl (ah rfl rfl rfl rfl rfl rfl rfl rfl (hsl _ _ rfl) hK)) (af [(2, _)] ⟨.inl rfl, trivial⟩ (fun sl hsl K hK => ae rfl (ah rfl rfl rfl rfl rfl rfl rfl rfl (hsl _ _ rfl) hK)) aA)))))) (az (fun _ => .p (eL eS g_0.fNodes)) rfl rfl rfl (mu rfl rfl rfl rfl rfl (fun _ => rfl)) (lt5 rfl rfl rfl rfl rfl) (al rfl (al rfl (al rfl (af [(9, _)] ⟨.inr ⟨4, _, rfl, rfl, rfl⟩, trivial⟩ (fun sl hsl K hK => ae rfl (bB rfl rfl rfl rfl rfl (hsl _ _ rfl) rfl rfl hK)) (af [(9, _)] ⟨.inr ⟨4, _, rfl, rfl, rfl⟩, trivial⟩ (fun sl hsl K hK => ae rfl (bB rfl rfl rfl rfl rfl (hsl _ _ rfl) rfl rfl hK)) (af [(9, _)] ⟨.inr ⟨4, _, rfl, rfl, rfl⟩, trivial⟩ (fun sl hsl K hK => ae rfl (bB rfl rfl rfl rfl rfl (hsl _ _ rfl) rfl rfl hK)) aA)))))) ?_)
 refine az (fun _ => .p (eL eS from_1)) rfl rfl rfl (mu rfl rfl rfl rfl rfl (fun _ => rfl)) (lt5 rfl rfl rfl rfl rfl) (al rfl (al rfl (al rfl (al rfl (af [(1, _)] ⟨.inl rfl, trivial⟩ (fun sl hsl K hK => ae rfl (aR rfl rfl rfl (hsl _ _ rfl) hK)) (af [(1, _)] ⟨.inl rfl, trivial⟩ (fun sl hsl K hK => ae rfl (aR rfl rfl rfl (hsl _ _ rfl) hK)) aA)))))) (fO (by6 (.mp 102000 (r3.map fun p : Bytes × Bool => (p.1, eB p.2))) (.mp 102000 (r3.map fun p : Bytes × Bool => (p.1, eB p.2))) (.mp 102000 (r3.map fun p : Bytes × Bool => (p.1, eB p.2))) .undef .undef .undef) [(11, _)] rfl ⟨.inr ⟨6, _, rfl, rfl, rfl⟩, trivial⟩ rfl rfl (iY rfl rfl rfl (fun _ => rfl)) (lt5 (fun h => absurd h (by decide)) (fun h => absurd h (by decide)) (fun _ => rfl) (fun _ => rfl) (fun _ => rfl)) (fun sl hsl K hK => ae rfl (bo [] [] 102000 102001 (oG _ from_1 _ e4) rfl rfl rfl (ay (hsl _ _ rfl) bm) rfl ⟨sr, trivial⟩ rfl rfl trivial rfl rfl rfl rfl rfl rfl rfl rfl Tryz.call60 rfl rfl hK)) ?_)
 refine fO (fun _ => .p (eL eS r5)) [(10, _), (12, _)] rfl ⟨.inr ⟨5, _, rfl, rfl, rfl⟩, .inr ⟨7, _, rfl, rfl, rfl⟩, trivial⟩ rfl rfl (pD rfl rfl (fun _ => rfl)) (lt5 (fun h => absurd h (by decide)) (fun h => absurd h (by decide)) (fun h => absurd h (by decide)) (fun _ => rfl) (fun _ => rfl)) (fun sl hsl K hK => ae rfl (bo [] [102000] 103000 103000 (nN _ g_0.fNodes r3 _ e6) rfl rfl rfl (ay (hsl _ _ rfl) (ay (hsl _ _ rfl) bm)) rfl ⟨sr, sr, trivial⟩ rfl rfl trivial rfl rfl rfl rfl rfl rfl rfl rfl Tryz.call57 rfl rfl hK)) (fO (by6 (.mp 104000 (r7.map fun p : Bytes × Bool => (p.1, eB p.2))) (.mp 104000 (r7.map fun p : Bytes × Bool => (p.1, eB p.2))) (.mp 104000 (r7.map fun p : Bytes × Bool => (p.1, eB p.2))) (.mp 104000 (r7.map fun p : Bytes × Bool => (p.1, eB p.2))) (.mp 104000 (r7.map fun p : Bytes × Bool => (p.1, eB p.2))) .undef) [(8, _), (13, _)] rfl ⟨.inr ⟨3, _, rfl, rfl, rfl⟩, .inr ⟨8, _, rfl, rfl, rfl⟩, trivial⟩ rfl rfl (d5 rfl (fun _ => rfl)) (lt5 (fun h => absurd h (by decide)) (fun h => absurd h (by decide)) (fun h => absurd h (by decide)) (fun h => absurd h (by decide)) (fun _ => rfl)) (fun sl hsl K hK => ae rfl (bo [] [101000] 104000 104001 (pK _ r1 r5 _ e8) rfl rfl rfl (ay (hsl _ _ rfl) (ay (hsl _ _ rfl) bm)) rfl ⟨sr, sr, trivial⟩ rfl rfl trivial rfl rfl rfl rfl rfl rfl rfl rfl Tryz.call58 rfl rfl hK)) ?_)
 refine fO (fun _ => .p (eL eS r9)) [(6, _), (14, _)] rfl ⟨.inr ⟨1, _, rfl, rfl, rfl⟩, .inr ⟨9, _, rfl, rfl, rfl⟩, trivial⟩ rfl rfl (fun _ => rfl) (lt5 (fun h => absurd h (by decide)) (fun h => absurd h (by decide)) (fun h => absurd h (by decide)) (fun h => absurd h (by decide)) (fun h => absurd h (by decide))) (fun sl hsl K hK => ae rfl (bo [] [104000] 105000 105000 (nN _ g_0.fNodes r7 _ e10) rfl rfl rfl (ay (hsl _ _ rfl) (ay (hsl _ _ rfl) bm)) rfl ⟨sr, sr, trivial⟩ rfl rfl trivial rfl rfl rfl rfl rfl rfl rfl rfl Tryz.call57 rfl rfl hK)) (az (fun _ => .p (eL eS r9)) rfl rfl rfl (mu rfl rfl rfl rfl rfl (fun _ => rfl)) (lt5 rfl rfl rfl rfl rfl) (af [(15, _)] ⟨.inr ⟨10, _, rfl, rfl, rfl⟩, trivial⟩ (fun sl hsl K hK => ae rfl (bp rfl rfl rfl (hsl _ _ rfl) hK)) (al rfl (al rfl (al rfl (al rfl (al rfl aA)))))) ?_)
 refine kQ (nx 2 rfl ?_)
 exact mQ (oi h0) rfl (sr)
end Go.Ab.R06
end
