/- Plain facts of the layers 1 and 2 (numbers, string literals), and of bytes. No program in sight. -/
import Derived.Test.YtijgdpmadidpaaaGreatDoorR02
import Derived.Test.YtijgdpmadidpaaaGreatDoorAbEv
import Derived.Lib.MapLaws
import Derived.Lib.ValidLaws
set_option linter.unusedVariables false
set_option linter.unusedSimpArgs false
set_option linter.unnecessarySimpa false
namespace Go.Ab.R06
open Go.Ab Go.Ab.RB

/-! ### Rules beside those of AbEv -/
section
variable {α β : Type} {P : α → Prop}
theorem ev_to {g : Nat → Nat → Option β} {k : Nat → Nat → β → Option α} (x : β) (h : Ev2 g (· = x)) (hk : Ev2 (fun n m => k n m x) P) : Ev2 (fun n m => (g n m).bind (k n m)) P :=
  ev_cut (· = x) h fun y hy => by subst hy; exact hk
theorem ev_ifd {p : Prop} [Decidable p] {f g : Nat → Nat → Option α} {x y : α} (h1 : p → Ev2 f (· = x)) (h2 : ¬p → Ev2 g (· = y)) : Ev2 (fun n m => if p then f n m else g n m) (· = if p then x else y) :=
  ev_ite (fun h => by simpa only [if_pos h] using h1 h) (fun h => by simpa only [if_neg h] using h2 h)
end
/-! ### Identifiers -/
def letB (b : UInt8) : Bool := (decide (97 ≤ b.toNat) && decide (b.toNat ≤ 122)) || (decide (65 ≤ b.toNat) && decide (b.toNat ≤ 90)) || decide (b.toNat = 95)
def digB (b : UInt8) : Bool := decide (48 ≤ b.toNat) && decide (b.toNat ≤ 57)
def idB (b : UInt8) : Bool := letB b || digB b
def identB : Bytes → Bool
  | [] => false
  | b :: r => decide ((b :: r).length ≤ 64) && letB b && r.all idB
/-- What is asked of the byte at i. -/
def okAt (s : Bytes) (i : Nat) : Bool := letB (s.getD i 0) || (decide (i ≠ 0) && digB (s.getD i 0))
/-- A test that holds at k places from i on. -/
def allN (p : Nat → Bool) : Nat → Nat → Bool
  | _, 0 => true
  | i, k + 1 => p i && allN p (i + 1) k
theorem allN_iff (p : Nat → Bool) : ∀ (k i : Nat), allN p i k = true ↔ ∀ j, i ≤ j → j < i + k → p j = true
  | 0, i => by simp [allN]; intro j h1 h2; omega
  | k + 1, i => by
    rw [allN, Bool.and_eq_true, allN_iff p k (i + 1)]
    constructor
    · rintro ⟨h1, h2⟩ j h3 h4
      by_cases e : j = i
      · rw [e]; exact h1
      · exact h2 j (by omega) (by omega)
    · intro h
      exact ⟨h i (by omega) (by omega), fun j h1 h2 => h j (by omega) (by omega)⟩
theorem or32 : (List.range 256).all (fun n => (decide ((97 : Int) ≤ iOr .u8 (n : Int) 32) && decide (iOr .u8 (n : Int) 32 ≤ 122)) == ((decide (97 ≤ n) && decide (n ≤ 122)) || (decide (65 ≤ n) && decide (n ≤ 90)))) = true := by kernel_rfl
theorem or_let (b : UInt8) : (97 ≤ iOr .u8 ((b.toNat : Nat) : Int) 32 ∧ iOr .u8 ((b.toNat : Nat) : Int) 32 ≤ 122) ↔ ((97 ≤ b.toNat ∧ b.toNat ≤ 122) ∨ (65 ≤ b.toNat ∧ b.toNat ≤ 90)) := by
  have h := List.all_eq_true.1 or32 b.toNat (List.mem_range.2 b.toNat_lt)
  have h := eq_of_beq h
  rw [Bool.eq_iff_iff] at h
  simpa using h
theorem letB_iff (b : UInt8) : letB b = true ↔ (97 ≤ b.toNat ∧ b.toNat ≤ 122) ∨ (65 ≤ b.toNat ∧ b.toNat ≤ 90) ∨ b.toNat = 95 := by
  simp [letB, or_assoc]
theorem digB_iff (b : UInt8) : digB b = true ↔ 48 ≤ b.toNat ∧ b.toNat ≤ 57 := by simp [digB]
theorem eqB {a b : Bool} (h : a = true ↔ b = true) : a = b := Bool.eq_iff_iff.2 h
theorem okAt_iff (s : Bytes) (i : Nat) : okAt s i = true ↔ letB (s.getD i 0) = true ∨ (i ≠ 0 ∧ digB (s.getD i 0) = true) := by simp [okAt]
theorem identB_iff (s : Bytes) : identB s = true ↔ s ≠ [] ∧ s.length ≤ 64 ∧ allN (okAt s) 0 s.length = true := by
  rw [allN_iff]
  cases s with
  | nil => simp [identB]
  | cons b r =>
    simp only [identB, Bool.and_eq_true, decide_eq_true_eq, List.all_eq_true]
    constructor
    · rintro ⟨⟨h1, h2⟩, h3⟩
      refine ⟨by simp, h1, fun j _ hj => ?_⟩
      rw [okAt_iff]
      cases j with
      | zero => exact .inl h2
      | succ j =>
        have hm : r.getD j 0 ∈ r := by
          rw [List.getD_eq_getElem?_getD, List.getElem?_eq_getElem (by simp at hj; omega)]
          exact List.getElem_mem _
        have := h3 _ hm
        simp only [idB, Bool.or_eq_true] at this
        rcases this with h | h
        · exact .inl h
        · exact .inr ⟨by omega, h⟩
    · rintro ⟨_, h1, h2⟩
      refine ⟨⟨h1, ?_⟩, fun x hx => ?_⟩
      · have := (okAt_iff _ _).1 (h2 0 (by omega) (by simp))
        simpa using this
      · obtain ⟨j, hj, rfl⟩ := List.getElem_of_mem hx
        have := (okAt_iff _ _).1 (h2 (j + 1) (by omega) (by simp; omega))
        rw [show (b :: r).getD (j + 1) 0 = r[j] by simp [hj]] at this
        simp only [idB, Bool.or_eq_true]
        rcases this with h | h
        · exact .inl h
        · exact .inr h.2
theorem identB_iff2 (s : Bytes) : identB s = true ↔ s ≠ [] ∧ s.length ≤ 64 ∧ letB (s.getD 0 0) = true ∧ allN (fun j => idB (s.getD j 0)) 0 s.length = true := by
  rw [identB_iff, allN_iff, allN_iff]
  constructor
  · rintro ⟨h1, h2, h3⟩
    have hl : 0 < s.length := List.length_pos_iff.2 h1
    refine ⟨h1, h2, ?_, fun j _ hj => ?_⟩
    · have := (okAt_iff s 0).1 (h3 0 (by omega) (by omega))
      simpa using this
    · have := (okAt_iff s j).1 (h3 j (by omega) hj)
      simp only [idB, Bool.or_eq_true]
      rcases this with h | h
      · exact .inl h
      · exact .inr h.2
  · rintro ⟨h1, h2, h3, h4⟩
    refine ⟨h1, h2, fun j _ hj => (okAt_iff s j).2 ?_⟩
    have := h4 j (by omega) hj
    simp only [idB, Bool.or_eq_true] at this
    by_cases e : j = 0
    · subst e; exact .inl h3
    · rcases this with h | h
      · exact .inl h
      · exact .inr ⟨e, h⟩
end Go.Ab.R06

namespace Go.Ab.R06
open Go.Ab Go.Ab.RB Go.Lib

/-! ### What digits spell -/
def decV (acc : Nat) (l : Bytes) : Nat := l.foldl (fun a b => a * 10 + (b.toNat - 48)) acc
theorem decV_nil (a : Nat) : decV a [] = a := rfl
theorem decV_cons (a : Nat) (b : UInt8) (l : Bytes) : decV a (b :: l) = decV (a * 10 + (b.toNat - 48)) l := by simp only [decV, List.foldl_cons]
theorem decV_append (a : Nat) (l m : Bytes) : decV a (l ++ m) = decV (decV a l) m := by simp [decV]
theorem decV_snoc (a : Nat) (l : Bytes) (b : UInt8) : decV a (l ++ [b]) = decV a l * 10 + (b.toNat - 48) := by rw [decV_append]; rfl
theorem decV_ge : ∀ (l : Bytes) (a : Nat), a ≤ decV a l
  | [], a => Nat.le_of_eq (decV_nil a).symm
  | b :: r, a => by
    rw [decV_cons]
    have := decV_ge r (a * 10 + (b.toNat - 48))
    generalize decV (a * 10 + (b.toNat - 48)) r = v at this ⊢
    omega

theorem all_dig {l : Bytes} (h : l.all digB = true) {b : UInt8} (hb : b ∈ l) : 48 ≤ b.toNat ∧ b.toNat ≤ 57 := (digB_iff b).1 (List.all_eq_true.1 h b hb)

theorem parseM : ∀ (l : Bytes) (acc : Nat), l.all digB = true → (decV acc l ≤ 18446744073709551615 → parseUintM 18446744073709551615 acc l = .ok (decV acc l)) ∧ (18446744073709551615 < decV acc l → acc ≤ 18446744073709551615 → parseUintM 18446744073709551615 acc l = .range)
  | [], acc, _ => by
    rw [decV_nil]
    exact ⟨fun _ => rfl, fun h h' => by omega⟩
  | b :: r, acc, h => by
    have hb := all_dig h List.mem_cons_self
    have hr : r.all digB = true := by simp only [List.all_cons, Bool.and_eq_true] at h; exact h.2
    rw [parseUintM, if_pos hb, decV_cons]
    have hg := decV_ge r (acc * 10 + (b.toNat - 48))
    have ih := parseM r (acc * 10 + (b.toNat - 48)) hr
    generalize decV (acc * 10 + (b.toNat - 48)) r = v at hg ih ⊢
    by_cases h1 : 1844674407370955162 ≤ acc
    · rw [if_pos h1]
      exact ⟨fun h2 => by omega, fun _ _ => rfl⟩
    · rw [if_neg h1]
      by_cases h2 : 18446744073709551615 < acc * 10 + (b.toNat - 48)
      · rw [if_pos h2]
        exact ⟨fun h3 => by omega, fun _ _ => rfl⟩
      · rw [if_neg h2]
        exact ⟨ih.1, fun h3 _ => ih.2 h3 (by omega)⟩

theorem parseB (l : Bytes) (hne : l ≠ []) (h : l.all digB = true) : parseUintB 64 l = if decV 0 l ≤ 18446744073709551615 then .ok (decV 0 l) else .range := by
  rw [parseUintB, if_neg hne]
  show parseUintM (2 ^ 64 - 1) 0 l = _
  rw [show (2 ^ 64 - 1 : Nat) = 18446744073709551615 from rfl]
  have := parseM l 0 h
  generalize decV 0 l = v at this ⊢
  by_cases q : v ≤ 18446744073709551615
  · rw [if_pos q]; exact this.1 q
  · rw [if_neg q]; exact this.2 (by omega) (by omega)

/-! ### The canonical form -/
/-- Digits without a zero ahead. -/
def canN (l : Bytes) : Bool := !l.isEmpty && l.all digB && (decide (l.getD 0 0 ≠ 48) || decide (l.length = 1))
theorem canN_iff (l : Bytes) : canN l = true ↔ l ≠ [] ∧ l.all digB = true ∧ (l.getD 0 0 ≠ 48 ∨ l.length = 1) := by
  simp [canN, and_assoc]
def negB (s : Bytes) : Bool := decide (0 < s.length) && decide (s.getD 0 0 = 45)
/-- The digits behind a sign. -/
def digits (s : Bytes) : Bytes := if negB s = true then s.drop 1 else s
def canP (s : Bytes) : Bool := !(negB s && decide (s.drop 1 = [48])) && canN (digits s)
def valP (s : Bytes) : Int := if negB s = true then -(decV 0 (digits s) : Int) else (decV 0 (digits s) : Int)
def maxN : Int := 9007199254740992
/-- number.Parse. -/
def numP (s : Bytes) : Int × Int := if canP s = true then (if -maxN ≤ valP s ∧ valP s ≤ maxN then (valP s, 0) else (0, 5)) else (0, 2)

theorem canon_l1 (s : Bytes) (hs : s.length ≤ 1000000) : ∀ (k i : Nat), i + k = s.length → Ev2 (fun _ m => number_canonical_l1 s m (i : Int)) (· = if allN (fun j => digB (s.getD j 0)) i k then .inl () else .inr false) := by
  intro k
  induction k with
  | zero =>
    intro i hi
    refine ev_round ?_
    simp only [number_canonical_l1]
    refine ev_ifF (by omega) (ev_some rfl)
  | succ k ih =>
    intro i hi
    refine ev_round ?_
    simp only [number_canonical_l1]
    refine ev_ifT (by omega) ?_
    have hb : byt s i = ((s.getD i 0).toNat : Int) := byt_nat s i
    rw [hb]
    refine ev_to (!digB (s.getD i 0)) ?_ ?_
    · have h := digB_iff (s.getD i 0)
      generalize s.getD i 0 = b at h ⊢
      refine ev_ck (by omega) (ev_ite (fun h1 => ev_some ?_) (fun h1 => ev_ck (by omega) (ev_some ?_)))
      · have : digB b = false := by rw [← Bool.not_eq_true, h]; omega
        simp [this]
      · refine eqB ?_
        rw [decide_eq_true_eq, Bool.not_eq_true', ← Bool.not_eq_true, h]
        omega
    · cases hk : digB (s.getD i 0) with
      | false => exact ev_ifT rfl (ev_some (by simp only [allN, hk, Bool.false_and]; rfl))
      | true =>
        refine ev_ifF (by simp) (ev_ck (inR_of (by omega) (by omega)) ?_)
        have := ih (i + 1) (by omega)
        rw [Int.natCast_add, Int.natCast_one] at this
        simp only [allN, hk, Bool.true_and]
        exact this
theorem allN_all (s : Bytes) (p : UInt8 → Bool) : allN (fun j => p (s.getD j 0)) 0 s.length = s.all p := by
  refine eqB ?_
  rw [allN_iff, List.all_eq_true]
  constructor
  · intro h x hx
    obtain ⟨j, hj, rfl⟩ := List.getElem_of_mem hx
    have := h j (by omega) (by omega)
    simpa [hj] using this
  · intro h j _ hj
    have hj : j < s.length := by omega
    have := h s[j] (List.getElem_mem hj)
    simpa [hj] using this

theorem canonical_ev (s : Bytes) (hs : s.length ≤ 1000000) : Ev2 (fun n _ => number_canonical n s) (· = canP s) := by
  simp only [number_canonical]
  have hb : byt s 0 = ((s.getD 0 0).toNat : Int) := byt_nat s 0
  have hneg : negB s = true ↔ 0 < s.length ∧ s.getD 0 0 = 45 := by simp [negB]
  have h45 : (s.getD 0 0).toNat = 45 ↔ s.getD 0 0 = 45 := ⟨fun h => UInt8.toNat_inj.1 h, fun h => by rw [h]; rfl⟩
  have body : ∀ t : Bytes, t.length ≤ 1000000 → Ev2 (fun n m => jn (number_canonical_l1 t n 0) fun q31 =>
      ((if t = ([] : Bytes) then some false else ck ((0 : Int) ≤ 0 ∧ 0 < (t.length : Int)) <| if byt t 0 = 48 then some (decide ((t.length : Int) = 1)) else some true) : Option Bool).bind fun t28 => some t28) (· = canN t) := by
    intro t ht
    have l := canon_l1 t ht t.length 0 (by omega)
    rw [allN_all] at l
    have hc := canN_iff t
    have hb' : byt t 0 = ((t.getD 0 0).toNat : Int) := byt_nat t 0
    have h48 : (t.getD 0 0).toNat = 48 ↔ t.getD 0 0 = 48 := ⟨fun h => UInt8.toNat_inj.1 h, fun h => by rw [h]; rfl⟩
    cases ha : t.all digB with
    | false =>
      rw [ha] at l hc
      refine ev_jnR false (ev_loop l) (eqB ?_)
      rw [hc]; simp
    | true =>
      rw [ha] at l hc
      refine ev_jnL () (ev_loop l) (ev_cut (· = canN t) ?_ (fun x hx => ev_some hx))
      refine ev_ite (fun h => ev_some (eqB ?_)) (fun h => ev_ck ?_ ?_)
      · rw [hc]; simp [h]
      · have := List.length_pos_iff.2 h; omega
      · rw [hb']
        refine ev_ite (fun h1 => ev_some (eqB ?_)) (fun h1 => ev_some (eqB ?_))
        · have h2 := h48.1 (by omega)
          rw [hc, decide_eq_true_eq]
          constructor
          · intro q; exact ⟨h, by simp, .inr (by omega)⟩
          · rintro ⟨_, _, q | q⟩
            · exact absurd h2 q
            · omega
        · rw [hc]; simp only [true_iff]
          exact ⟨h, by simp, .inl fun q => h1 (by have := h48.2 q; omega)⟩
  refine ev_jn (ev_to (negB s) ?_ ?_)
  · refine ev_ite (fun h => ev_ck (by omega) (ev_some (eqB ?_))) (fun h => ev_some (eqB ?_))
    · rw [hneg, hb, decide_eq_true_eq]
      constructor
      · intro q; exact ⟨by omega, h45.1 (by omega)⟩
      · rintro ⟨_, q⟩; have := h45.2 q; omega
    · rw [hneg]
      constructor
      · intro q; cases q
      · rintro ⟨q, _⟩; omega
  · rw [sub_from]
    show Ev2 (fun n m => if negB s = true then ck _ (if s.drop 1 = [48] then some (Sum.inr false) else some (Sum.inl (s.drop 1))) else some (Sum.inl s)) _
    refine ev_ite (fun h => ev_ck ?_ (ev_ite (fun h1 => ev_some ?_) (fun h1 => ev_some ?_))) (fun h => ev_some ?_)
    · have := hneg.1 h; omega
    · simp [canP, h, h1]
    · have e : canP s = canN (s.drop 1) := by unfold canP digits; rw [if_pos h, decide_eq_false h1]; simp
      rw [e]
      exact body _ (by simp; omega)
    · have e : canP s = canN s := by simp [canP, h, digits]
      rw [e]
      exact body _ hs

theorem nvalid (v : Int) : number_Valid v = some (decide (-maxN ≤ v ∧ v ≤ maxN)) := by
  simp only [number_Valid]
  by_cases h : (-9007199254740992 : Int) ≤ v
  · rw [if_pos h]
    by_cases h2 : v ≤ 9007199254740992
    · simp [h2, maxN, h]
    · simp [h2, maxN]
  · rw [if_neg h, Option.bind_some]
    refine congrArg some (eqB ?_)
    rw [decide_eq_true_eq]; unfold maxN
    constructor
    · intro q; cases q
    · intro q; exact absurd q.1 h

theorem canP_digits {s : Bytes} (h : canP s = true) : digits s ≠ [] ∧ (digits s).all digB = true := by
  simp only [canP, Bool.and_eq_true] at h
  have := (canN_iff _).1 h.2
  exact ⟨this.1, this.2.1⟩

theorem parseI (s : Bytes) (h : canP s = true) : parseIntB 64 s = if (if negB s = true then 9223372036854775808 < decV 0 (digits s) else 9223372036854775808 ≤ decV 0 (digits s)) then .range else .ok (valP s) := by
  obtain ⟨h1, h2⟩ := canP_digits h
  cases s with
  | nil => exact absurd (by simp [digits, negB]) h1
  | cons c r =>
    have e45 : c.toNat = 45 ↔ c = 45 := ⟨fun h => UInt8.toNat_inj.1 h, fun h => by rw [h]; rfl⟩
    have hneg : negB (c :: r) = decide (c = 45) := by simp [negB]
    have hd : (if c.toNat = 43 ∨ c.toNat = 45 then r else c :: r) = digits (c :: r) := by
      unfold digits
      rw [hneg]
      by_cases q : c = 45
      · rw [if_pos (.inr (e45.2 q)), if_pos (by simp [q])]; rfl
      · have e : digits (c :: r) = c :: r := by unfold digits; rw [hneg, if_neg (by simp [q])]
        have e2 : (if decide (c = 45) = true then List.drop 1 (c :: r) else c :: r) = c :: r := if_neg (by simp [q])
        rw [e2, if_neg]
        rintro (k | k)
        · rw [e] at h2
          have := all_dig h2 List.mem_cons_self
          omega
        · exact q (e45.1 k)
    have hp := parseB _ h1 h2
    unfold parseIntB
    simp only [hd, hp]
    rw [hneg]
    unfold valP
    rw [hneg]
    generalize decV 0 (digits (c :: r)) = v
    by_cases q : c = 45
    · subst q
      by_cases hv : v ≤ 18446744073709551615
      · simp only [hv, if_true]
        by_cases hw : 9223372036854775808 < v
        · simp [hw]
        · simp [hw]
      · simp only [hv, if_false]
        rw [if_pos]; simp; omega
    · have q' : ¬ c.toNat = 45 := fun k => q (e45.1 k)
      by_cases hv : v ≤ 18446744073709551615
      · simp only [hv, if_true]
        by_cases hw : 9223372036854775808 ≤ v
        · simp [q, q', hw]
        · simp [q, q', hw]
      · simp only [hv, if_false]
        rw [if_pos]; simp [q]; omega

theorem numparse_ev (s : Bytes) (hs : s.length ≤ 1000000) : Ev2 (fun n _ => number_Parse n s) (· = numP s) := by
  simp only [number_Parse]
  refine ev_to _ (canonical_ev s hs) ?_
  cases hc : canP s with
  | false => exact ev_ifT rfl (ev_some (by simp [numP, hc]))
  | true =>
    refine ev_ifF (by simp) ?_
    have hp : strconv_ParseInt s 10 64 = some (match parseIntB 64 s with | .ok v => (v, false) | .range => (intSat 64 s, true) | _ => (0, true)) := by
      unfold strconv_ParseInt
      exact ck_pos ⟨rfl, rfl, by omega⟩
    rw [parseI s hc] at hp
    have e : numP s = (if -maxN ≤ valP s ∧ valP s ≤ maxN then (valP s, 0) else (0, 5)) := by simp [numP, hc]
    rw [e]
    by_cases hr : (if negB s = true then 9223372036854775808 < decV 0 (digits s) else 9223372036854775808 ≤ decV 0 (digits s))
    · rw [if_pos hr] at hp
      refine ev_to _ (ev_const hp rfl) ?_
      refine ev_to true (ev_ifT rfl (ev_some rfl)) (ev_ifT rfl (ev_some ?_))
      rw [if_neg]
      unfold valP maxN
      cases hn : negB s with
      | true => rw [hn, if_pos rfl] at hr; rw [if_pos rfl]; omega
      | false => rw [hn, if_neg (by simp)] at hr; rw [if_neg (by simp)]; omega
    · rw [if_neg hr] at hp
      refine ev_to _ (ev_const hp rfl) ?_
      refine ev_to (!decide (-maxN ≤ valP s ∧ valP s ≤ maxN)) ?_ ?_
      · exact ev_ifF (by simp) (ev_to _ (ev_const (nvalid _) rfl) (ev_some rfl))
      · by_cases q : -maxN ≤ valP s ∧ valP s ≤ maxN
        · rw [if_pos q]
          exact ev_ifF (by simp [q]) (ev_some rfl)
        · rw [if_neg q]
          exact ev_ifT (by simp only [q, decide_false, Bool.not_false]) (ev_some rfl)

/-! ### What is written is read -/
theorem dec_val : ∀ (n u : Nat), u < n → decV 0 (decDigits u) = u ∧ (decDigits u).all digB = true ∧ decDigits u ≠ [] ∧ ((decDigits u).getD 0 0 ≠ 48 ∨ (decDigits u).length = 1) ∧ (1 ≤ u → (decDigits u).getD 0 0 ≠ 48) := by
  intro n
  induction n with
  | zero => intro u h; omega
  | succ n ih =>
    intro u hu
    have hdig : ∀ k, k < 10 → (UInt8.ofNat (48 + k)).toNat = 48 + k := fun k hk => by
      rw [UInt8.toNat_ofNat']; omega
    rw [decDigits]
    by_cases h : u < 10
    · rw [dif_pos h]
      have := hdig u h
      refine ⟨by rw [decV_cons, decV_nil, this]; omega, by simp only [List.all_cons, List.all_nil, Bool.and_true, digB_iff, this]; omega, by simp, .inr rfl, fun h1 => ?_⟩
      intro q
      have q' : (UInt8.ofNat (48 + u)) = 48 := q
      rw [q'] at this
      have : (48 : UInt8).toNat = 48 := rfl
      omega
    · rw [dif_neg h]
      obtain ⟨a1, a2, a3, a4, a5⟩ := ih (u / 10) (by omega)
      have hd := hdig (u % 10) (by omega)
      have hh : (decDigits (u / 10) ++ [UInt8.ofNat (48 + u % 10)]).getD 0 0 = (decDigits (u / 10)).getD 0 0 := by
        cases hx : decDigits (u / 10) with
        | nil => exact absurd hx a3
        | cons c r => rfl
      refine ⟨?_, ?_, by simp, ?_, ?_⟩
      · rw [decV_snoc, a1, hd]; omega
      · rw [List.all_append, a2]; simp only [List.all_cons, List.all_nil, Bool.and_true, Bool.true_and, digB_iff, hd]; omega
      · rw [hh]; exact .inl (a5 (by omega))
      · rw [hh]; exact fun _ => a5 (by omega)

theorem digits_back : ∀ (n : Nat) (l : Bytes), l.length ≤ n → canN l = true → decDigits (decV 0 l) = l ∧ (l.getD 0 0 ≠ 48 → 1 ≤ decV 0 l) := by
  intro n
  induction n with
  | zero => intro l hl h; have := ((canN_iff l).1 h).1; cases l <;> simp_all
  | succ n ih =>
    intro l hl h
    obtain ⟨h1, h2, h3⟩ := (canN_iff l).1 h
    have hof : ∀ b : UInt8, 48 ≤ b.toNat → UInt8.ofNat (48 + (b.toNat - 48)) = b := fun b hb => by
      rw [show 48 + (b.toNat - 48) = b.toNat by omega]; simp
    rcases List.eq_nil_or_concat l with rfl | ⟨m, b, rfl⟩
    · exact absurd rfl h1
    · simp only [List.concat_eq_append] at *
      have hb := all_dig h2 (b := b) (by simp)
      rw [decV_snoc]
      by_cases hm : m = []
      · subst hm
        rw [decV_nil, decDigits, dif_pos (by omega)]
        refine ⟨by simp [hof b hb.1], fun q => ?_⟩
        have q : b ≠ 48 := q
        have : b.toNat ≠ 48 := fun k => q (UInt8.toNat_inj.1 k)
        omega
      · have hcm : canN m = true := by
          rw [canN_iff]
          refine ⟨hm, ?_, ?_⟩
          · rw [List.all_append, Bool.and_eq_true] at h2; exact h2.1
          · rcases h3 with q | q
            · left
              cases m with
              | nil => exact absurd rfl hm
              | cons c r => exact q
            · cases m with
              | nil => exact absurd rfl hm
              | cons c r => simp at q
        obtain ⟨i1, i2⟩ := ih m (by simp at hl; omega) hcm
        have hne : m.getD 0 0 ≠ 48 := by
          rcases h3 with q | q
          · cases m with
            | nil => exact absurd rfl hm
            | cons c r => exact q
          · cases m with
            | nil => exact absurd rfl hm
            | cons c r => simp at q
        have hpos := i2 hne
        refine ⟨?_, fun _ => by omega⟩
        rw [decDigits, dif_neg (by omega)]
        rw [show (decV 0 m * 10 + (b.toNat - 48)) / 10 = decV 0 m by omega, show (decV 0 m * 10 + (b.toNat - 48)) % 10 = b.toNat - 48 by omega, i1, hof b hb.1]

/-- Parse of a number's text. -/
theorem numP_itoa (v : Int) (h0 : 0 ≤ v) (h1 : v ≤ maxN) : numP (itoa v) = (v, 0) := by
  obtain ⟨u, rfl⟩ : ∃ u : Nat, v = u := ⟨v.toNat, by omega⟩
  have e : itoa (u : Int) = decDigits u := by unfold itoa; rw [if_neg (by omega)]; simp
  obtain ⟨a1, a2, a3, a4, a5⟩ := dec_val (u + 1) u (by omega)
  have hn : negB (decDigits u) = false := by
    rw [← Bool.not_eq_true]
    intro q
    simp only [negB, Bool.and_eq_true, decide_eq_true_eq] at q
    have hm : (decDigits u).getD 0 0 ∈ decDigits u := by
      rw [List.getD_eq_getElem?_getD, List.getElem?_eq_getElem q.1]; exact List.getElem_mem _
    have := all_dig a2 hm
    rw [q.2] at this
    have : (45 : UInt8).toNat = 45 := rfl
    omega
  have hd : digits (decDigits u) = decDigits u := by simp [digits, hn]
  have hc : canP (decDigits u) = true := by
    simp only [canP, hn, hd, Bool.false_and, Bool.not_false, Bool.true_and]
    exact (canN_iff _).2 ⟨a3, a2, a4⟩
  have hv : valP (decDigits u) = u := by simp [valP, hn, hd, a1]
  rw [e, numP, if_pos hc, hv, if_pos ⟨by unfold maxN at *; omega, h1⟩]
/-- What Parse reads, and is not negative, is the number's text. -/
theorem itoa_numP (s : Bytes) (v : Int) (h : numP s = (v, 0)) (h0 : 0 ≤ v) : itoa v = s ∧ v ≤ maxN := by
  unfold numP at h
  split at h
  · rename_i hc
    split at h
    · rename_i hr
      have hv : valP s = v := congrArg Prod.fst h
      obtain ⟨h1, h2⟩ := canP_digits hc
      simp only [canP, Bool.and_eq_true] at hc
      have hb := (digits_back _ (digits s) (Nat.le_refl _) hc.2)
      have hcn := (canN_iff _).1 hc.2
      cases hn : negB s with
      | true =>
        exfalso
        have hv2 : valP s = -(decV 0 (digits s) : Int) := by simp [valP, hn]
        have hz : decV 0 (digits s) = 0 := by omega
        have : decDigits 0 = digits s := by rw [← hz]; exact hb.1
        rw [decDigits, dif_pos (by omega)] at this
        have hd : digits s = s.drop 1 := by simp [digits, hn]
        rw [hd] at this
        have h48 : s.drop 1 = [48] := this.symm
        simp [hn, h48] at hc
      | false =>
        have hd : digits s = s := by simp [digits, hn]
        have hv2 : valP s = (decV 0 s : Int) := by simp [valP, hn, hd]
        rw [hd] at hb
        refine ⟨?_, by rw [← hv]; exact hr.2⟩
        rw [← hv, hv2]
        unfold itoa
        rw [if_neg (by omega)]
        simpa using hb.1
    · have := congrArg Prod.snd h; simp at this
  · have := congrArg Prod.snd h; simp at this
end Go.Ab.R06

namespace Go.Ab.R06
open Go.Ab Go.Ab.RB Go.Lib

theorem wrap8 (x : Int) : IntKind.wrap .u8 x = x % 256 := by simp [IntKind.wrap, IntKind.bits, IntKind.signed]
theorem wrap32 (x : Int) : IntKind.wrap .u32 x = x % 4294967296 := by simp [IntKind.wrap, IntKind.bits, IntKind.signed]
theorem shr6 (x : Int) : iShr .i32 x 6 = x / 64 := by
  show x.fdiv (2 ^ 6) = x / 64
  rw [Int.fdiv_eq_ediv_of_nonneg _ (by decide)]; rfl
theorem shr12 (x : Int) : iShr .i32 x 12 = x / 4096 := by
  show x.fdiv (2 ^ 12) = x / 4096
  rw [Int.fdiv_eq_ediv_of_nonneg _ (by decide)]; rfl
theorem shr18 (x : Int) : iShr .i32 x 18 = x / 262144 := by
  show x.fdiv (2 ^ 18) = x / 262144
  rw [Int.fdiv_eq_ediv_of_nonneg _ (by decide)]; rfl
theorem t63 : (List.range 256).all (fun n => iAnd .u8 (n : Int) 63 == ((n % 64 : Nat) : Int)) = true := by kernel_rfl
theorem t128 : (List.range 64).all (fun n => iOr .u8 128 (n : Int) == ((128 + n : Nat) : Int)) = true := by kernel_rfl
theorem t192 : (List.range 32).all (fun n => iOr .u8 192 (n : Int) == ((192 + n : Nat) : Int)) = true := by kernel_rfl
theorem t224 : (List.range 16).all (fun n => iOr .u8 224 (n : Int) == ((224 + n : Nat) : Int)) = true := by kernel_rfl
theorem t240 : (List.range 8).all (fun n => iOr .u8 240 (n : Int) == ((240 + n : Nat) : Int)) = true := by kernel_rfl
theorem tab {f g : Nat → Int} {m : Nat} (h : (List.range m).all (fun n => f n == g n) = true) (n : Nat) (hn : n < m) : f n = g n := eq_of_beq (List.all_eq_true.1 h n (List.mem_range.2 hn))
theorem and63 (x : Int) : iAnd .u8 (IntKind.wrap .u8 x) 63 = x % 64 := by
  rw [wrap8]
  obtain ⟨n, hn⟩ : ∃ n : Nat, x % 256 = n := ⟨(x % 256).toNat, by omega⟩
  rw [hn, tab t63 n (by omega)]; omega
theorem or128 {x : Int} (h0 : 0 ≤ x) (h1 : x < 64) : iOr .u8 128 x = 128 + x := by
  obtain ⟨n, rfl⟩ : ∃ n : Nat, x = n := ⟨x.toNat, by omega⟩
  rw [tab t128 n (by omega)]; omega
theorem or192 {x : Int} (h0 : 0 ≤ x) (h1 : x < 32) : iOr .u8 192 x = 192 + x := by
  obtain ⟨n, rfl⟩ : ∃ n : Nat, x = n := ⟨x.toNat, by omega⟩
  rw [tab t192 n (by omega)]; omega
theorem or224 {x : Int} (h0 : 0 ≤ x) (h1 : x < 16) : iOr .u8 224 x = 224 + x := by
  obtain ⟨n, rfl⟩ : ∃ n : Nat, x = n := ⟨x.toNat, by omega⟩
  rw [tab t224 n (by omega)]; omega
theorem or240 {x : Int} (h0 : 0 ≤ x) (h1 : x < 8) : iOr .u8 240 x = 240 + x := by
  obtain ⟨n, rfl⟩ : ∃ n : Nat, x = n := ⟨x.toNat, by omega⟩
  rw [tab t240 n (by omega)]; omega

/-- A code point that stands for a character. -/
def runeOk (r : Int) : Prop := (0 ≤ r ∧ r < 55296) ∨ (57343 < r ∧ r ≤ 1114111)

theorem append_rune (p : Bytes) (r : Int) (h : runeOk r) (hp : p.length ≤ 100000000) : unicode_utf8_AppendRune p r = some (p ++ encodeRune r) := by
  have h0 : 0 ≤ r ∧ r ≤ 1114111 := by unfold runeOk at h; omega
  have hw : IntKind.wrap .u32 r = r := by rw [wrap32]; omega
  unfold unicode_utf8_AppendRune
  rw [hw]
  by_cases h1 : r ≤ 127
  · have hw8 : IntKind.wrap .u8 r = r := by rw [wrap8]; omega
    rw [if_pos h1, hw8, ck_pos (by omega), ck_pos (by simp; omega)]
    simp only [encodeRune, encodeRuneZ, if_pos (show 0 ≤ r ∧ r ≤ 127 from ⟨h0.1, h1⟩), List.map_cons, List.map_nil, u8]
  rw [if_neg h1]
  unfold unicode_utf8_appendRuneNonASCII
  rw [hw, and63, shr6, shr12, shr18, and63, and63]
  have o1 : iOr .u8 128 (r % 64) = 128 + r % 64 := or128 (by omega) (by omega)
  have o2 : iOr .u8 128 (r / 64 % 64) = 128 + r / 64 % 64 := or128 (by omega) (by omega)
  have o3 : iOr .u8 128 (r / 4096 % 64) = 128 + r / 4096 % 64 := or128 (by omega) (by omega)
  rw [o1, o2, o3]
  have n1 : ¬ (0 ≤ r ∧ r ≤ 127) := by omega
  by_cases h2 : r ≤ 2047
  · have hw8 : IntKind.wrap .u8 (r / 64) = r / 64 := by rw [wrap8]; omega
    rw [if_pos h2, hw8, or192 (by omega) (by omega), ck_pos (by omega), ck_pos (by omega), ck_pos (by omega), ck_pos (by simp; omega)]
    simp only [encodeRune, encodeRuneZ, if_neg n1, if_pos (show 128 ≤ r ∧ r ≤ 2047 by omega), List.map_cons, List.map_nil, u8, Option.bind_some]
  rw [if_neg h2]
  have n2 : ¬ (128 ≤ r ∧ r ≤ 2047) := by omega
  by_cases h3 : r < 55296 ∨ (57343 < r ∧ r ≤ 65535)
  · have hw8 : IntKind.wrap .u8 (r / 4096) = r / 4096 := by rw [wrap8]; omega
    have e : ((if r < 55296 then some true else if 57343 < r then some (decide (r ≤ 65535)) else some false) : Option Bool) = some true := by
      rcases h3 with q | q
      · rw [if_pos q]
      · rw [if_neg (by omega), if_pos q.1]; simp [q.2]
    rw [e, Option.bind_some, if_pos rfl, hw8, or224 (by omega) (by omega), ck_pos (by omega), ck_pos (by omega), ck_pos (by omega), ck_pos (by omega), ck_pos (by omega), ck_pos (by simp; omega)]
    simp only [encodeRune, encodeRuneZ, if_neg n1, if_neg n2, if_pos (show (2048 ≤ r ∧ r < 55296) ∨ (57343 < r ∧ r ≤ 65535) by omega), List.map_cons, List.map_nil, u8, Option.bind_some]
  · have h4 : 65535 < r := by unfold runeOk at h; omega
    have hw8 : IntKind.wrap .u8 (r / 262144) = r / 262144 := by rw [wrap8]; omega
    have e : ((if r < 55296 then some true else if 57343 < r then some (decide (r ≤ 65535)) else some false) : Option Bool) = some false := by
      rw [if_neg (by omega), if_pos (by omega)]; simp; omega
    have e2 : ((if 65535 < r then some (decide (r ≤ 1114111)) else some false) : Option Bool) = some true := by rw [if_pos h4]; simp; omega
    rw [e, Option.bind_some, if_neg (by simp), e2, Option.bind_some, if_pos rfl, hw8, or240 (by omega) (by omega), ck_pos (by omega), ck_pos (by omega), ck_pos (by omega), ck_pos (by omega), ck_pos (by omega), ck_pos (by omega), ck_pos (by omega), ck_pos (by simp; omega)]
    simp only [encodeRune, encodeRuneZ, if_neg n1, if_neg n2, if_neg (show ¬ ((2048 ≤ r ∧ r < 55296) ∨ (57343 < r ∧ r ≤ 65535)) by omega), if_pos (show 65536 ≤ r ∧ r ≤ 1114111 by omega), List.map_cons, List.map_nil, u8, Option.bind_some]

/-! ### What stands at the head of a text -/
theorem dec_str (l : Bytes) (h : l ≠ []) : decodeGo (str l) = decodeL l := by
  unfold decodeGo
  rw [if_neg]
  · rfl
  · rw [str_size]; intro q; exact h (List.length_eq_zero_iff.1 q)

theorem enc_len (r : Int) (h : runeOk r) : 1 ≤ (encodeRune r).length ∧ (encodeRune r).length ≤ 4 := by
  unfold encodeRune encodeRuneZ
  rw [List.length_map]
  repeat' split
  all_goals simp

theorem dec_enc (r : Int) (h : runeOk r) (t : Bytes) : decodeL (encodeRune r ++ t) = (r.toNat, (encodeRune r).length) := by
  have h0 : 0 ≤ r ∧ r ≤ 1114111 := by unfold runeOk at h; omega
  have hb : ∀ x : Int, 0 ≤ x → x < 256 → (x.toNat.toUInt8).toNat = x.toNat := fun x a b => by
    show (UInt8.ofNat x.toNat).toNat = _
    rw [UInt8.toNat_ofNat']; omega
  rw [decodeL_N]
  by_cases h1 : r ≤ 127
  · have e : encodeRune r = [r.toNat.toUInt8] := by simp only [encodeRune, encodeRuneZ, if_pos (show 0 ≤ r ∧ r ≤ 127 from ⟨h0.1, h1⟩), List.map_cons, List.map_nil]
    rw [e]
    have b0 := hb r (by omega) (by omega)
    simp only [List.cons_append, List.getD_cons_zero, b0]
    unfold decodeN
    rw [if_pos (by omega)]; rfl
  have n1 : ¬ (0 ≤ r ∧ r ≤ 127) := by omega
  by_cases h2 : r ≤ 2047
  · have e : encodeRune r = [(192 + r / 64).toNat.toUInt8, (128 + r % 64).toNat.toUInt8] := by
      simp only [encodeRune, encodeRuneZ, if_neg n1, if_pos (show 128 ≤ r ∧ r ≤ 2047 by omega), List.map_cons, List.map_nil]
    rw [e]
    have b0 := hb (192 + r / 64) (by omega) (by omega)
    have b1 := hb (128 + r % 64) (by omega) (by omega)
    simp only [List.cons_append, List.getD_cons_zero, List.getD_cons_succ, b0, b1, List.length_cons, List.nil_append]
    unfold decodeN
    rw [if_neg (by omega), if_pos (by omega), if_pos (by omega)]
    refine Prod.ext ?_ rfl
    show _ = r.toNat
    simp only; omega
  have n2 : ¬ (128 ≤ r ∧ r ≤ 2047) := by omega
  by_cases h3 : r < 55296 ∨ (57343 < r ∧ r ≤ 65535)
  · have e : encodeRune r = [(224 + r / 4096).toNat.toUInt8, (128 + r / 64 % 64).toNat.toUInt8, (128 + r % 64).toNat.toUInt8] := by
      simp only [encodeRune, encodeRuneZ, if_neg n1, if_neg n2, if_pos (show (2048 ≤ r ∧ r < 55296) ∨ (57343 < r ∧ r ≤ 65535) by omega), List.map_cons, List.map_nil]
    rw [e]
    have b0 := hb (224 + r / 4096) (by omega) (by omega)
    have b1 := hb (128 + r / 64 % 64) (by omega) (by omega)
    have b2 := hb (128 + r % 64) (by omega) (by omega)
    simp only [List.cons_append, List.getD_cons_zero, List.getD_cons_succ, b0, b1, b2, List.length_cons, List.nil_append]
    unfold decodeN
    rw [if_neg (by omega), if_neg (by omega), if_pos (by omega), if_pos (by omega)]
    refine Prod.ext ?_ rfl
    show _ = r.toNat
    simp only; omega
  · have h4 : 65535 < r := by unfold runeOk at h; omega
    have e : encodeRune r = [(240 + r / 262144).toNat.toUInt8, (128 + r / 4096 % 64).toNat.toUInt8, (128 + r / 64 % 64).toNat.toUInt8, (128 + r % 64).toNat.toUInt8] := by
      simp only [encodeRune, encodeRuneZ, if_neg n1, if_neg n2, if_neg (show ¬ ((2048 ≤ r ∧ r < 55296) ∨ (57343 < r ∧ r ≤ 65535)) by omega), if_pos (show 65536 ≤ r ∧ r ≤ 1114111 by omega), List.map_cons, List.map_nil]
    rw [e]
    have b0 := hb (240 + r / 262144) (by omega) (by omega)
    have b1 := hb (128 + r / 4096 % 64) (by omega) (by omega)
    have b2 := hb (128 + r / 64 % 64) (by omega) (by omega)
    have b3 := hb (128 + r % 64) (by omega) (by omega)
    simp only [List.cons_append, List.getD_cons_zero, List.getD_cons_succ, b0, b1, b2, b3, List.length_cons, List.nil_append]
    unfold decodeN
    rw [if_neg (by omega), if_neg (by omega), if_neg (by omega), if_pos (by omega), if_pos (by omega)]
    refine Prod.ext ?_ rfl
    show _ = r.toNat
    simp only; omega

theorem valid_enc (r : Int) (h : runeOk r) (t : Bytes) : validD (encodeRune r ++ t) = validD t := by
  have hl := enc_len r h
  have hne : encodeRune r ++ t ≠ [] := by
    intro q; rw [List.append_eq_nil_iff] at q; rw [q.1] at hl; simp at hl
  rw [validD_step _ hne, dec_enc r h t, if_neg]
  · simp
  · rintro ⟨a, b⟩
    have hr : r = 65533 := by omega
    subst hr
    simp [encodeRune, encodeRuneZ] at b

theorem dec_facts (l : Bytes) (h : l ≠ []) : 1 ≤ (decodeL l).2 ∧ (decodeL l).2 ≤ l.length ∧ (¬ ((decodeL l).1 = 65533 ∧ (decodeL l).2 = 1) → runeOk ((decodeL l).1 : Int) ∧ encodeRune ((decodeL l).1 : Int) = l.take (decodeL l).2) := by
  have hl : 0 < l.length := List.length_pos_iff.2 h
  have hd := decN l.length (l.getD 0 0).toNat (l.getD 1 0).toNat (l.getD 2 0).toNat (l.getD 3 0).toNat (by omega) (UInt8.toNat_lt _)
  rw [← decodeL_N] at hd
  refine ⟨hd.1, hd.2.1, fun q => ⟨?_, encode_decode l h q⟩⟩
  have := hd.2.2.2.2.2
  unfold runeOk; omega

theorem valid_take (l : Bytes) (h : l ≠ []) : validD l = true ↔ ¬ ((decodeL l).1 = 65533 ∧ (decodeL l).2 = 1) ∧ validD (l.drop (decodeL l).2) = true := by
  rw [validD_step l h]
  by_cases q : (decodeL l).1 = 65533 ∧ (decodeL l).2 = 1
  · simp [q]
  · simp [q]
end Go.Ab.R06

namespace Go.Ab.R06
open Go.Ab Go.Ab.RB Go.Lib

/-! ### A builder's functions -/
theorem wstr (f x : Bytes) (h : f.length + x.length ≤ 100000000) : strings_Builder_WriteString (TBuilder.mk f) x = some ((x.length : Int), false, TBuilder.mk (f ++ x)) := by
  unfold strings_Builder_WriteString strings_Builder_copyCheck
  rw [Option.bind_some, ck_pos (by simp only; omega)]
theorem wbyte (f : Bytes) (b : UInt8) (h : f.length ≤ 100000000) : strings_Builder_WriteByte (TBuilder.mk f) (b.toNat : Int) = some (false, TBuilder.mk (f ++ [b])) := by
  have := b.toNat_lt
  unfold strings_Builder_WriteByte strings_Builder_copyCheck
  rw [Option.bind_some, ck_pos (by omega), ck_pos (by simp; omega), u8_byt]
theorem wrune (f : Bytes) (r : Int) (hr : runeOk r) (h : f.length ≤ 10000000) : strings_Builder_WriteRune (TBuilder.mk f) r = some (((encodeRune r).length : Int), false, TBuilder.mk (f ++ encodeRune r)) := by
  have hl := enc_len r hr
  unfold strings_Builder_WriteRune strings_Builder_copyCheck
  rw [Option.bind_some, append_rune f r hr (by omega), Option.bind_some]
  have e : ((f ++ encodeRune r).length : Int) - (f.length : Int) = (encodeRune r).length := by rw [List.length_append]; omega
  rw [e, ck_pos (inR_of (by omega) (by omega))]
theorem bstr (f : Bytes) (h : f.length ≤ 1000000000) : strings_Builder_String (TBuilder.mk f) = some (f, TBuilder.mk f) := by
  unfold strings_Builder_String
  rw [ck_pos (by simp only; omega)]

/-! ### Quote -/
def escB (b : UInt8) : Bytes :=
  if b.toNat = 10 then [92, 110] else if b.toNat = 13 then [92, 114] else if b.toNat = 9 then [92, 116]
  else if b.toNat = 34 ∨ b.toNat = 92 then [92, b] else if b.toNat < 32 ∨ b.toNat = 127 then [92, 117, 123] ++ hexText b.toNat ++ [125] else [b]
def quoteP (s : Bytes) : Bytes := 34 :: (s.flatMap escB ++ [34])

theorem esc_n {b : UInt8} (h : b.toNat = 10) : escB b = [92, 110] := by unfold escB; rw [if_pos h]
theorem esc_r {b : UInt8} (h : b.toNat = 13) : escB b = [92, 114] := by unfold escB; rw [if_neg (by omega), if_pos h]
theorem esc_t {b : UInt8} (h : b.toNat = 9) : escB b = [92, 116] := by unfold escB; rw [if_neg (by omega), if_neg (by omega), if_pos h]
theorem esc_q {b : UInt8} (h : b.toNat = 34 ∨ b.toNat = 92) : escB b = [92, b] := by unfold escB; rw [if_neg (by omega), if_neg (by omega), if_neg (by omega), if_pos h]
theorem esc_u {b : UInt8} (h1 : b.toNat ≠ 10) (h2 : b.toNat ≠ 13) (h3 : b.toNat ≠ 9) (h : b.toNat < 32 ∨ b.toNat = 127) : escB b = [92, 117, 123] ++ hexText b.toNat ++ [125] := by
  unfold escB; rw [if_neg h1, if_neg h2, if_neg h3, if_neg (by omega), if_pos h]
theorem esc_b {b : UInt8} (h1 : b.toNat ≠ 34) (h2 : b.toNat ≠ 92) (h : ¬ (b.toNat < 32 ∨ b.toNat = 127)) : escB b = [b] := by
  unfold escB; rw [if_neg (by omega), if_neg (by omega), if_neg (by omega), if_neg (by omega), if_neg h]

theorem hexText_len (n : Nat) : 1 ≤ (hexText n).length ∧ (hexText n).length ≤ 2 := by
  unfold hexText; split <;> simp
theorem escB_len (b : UInt8) : 1 ≤ (escB b).length ∧ (escB b).length ≤ 6 := by
  have := hexText_len b.toNat
  unfold escB
  repeat' split
  all_goals (simp; try omega)
theorem flat_len (s : Bytes) : s.length ≤ (s.flatMap escB).length ∧ (s.flatMap escB).length ≤ 6 * s.length := by
  induction s with
  | nil => simp
  | cons b r ih => have := escB_len b; simp only [List.flatMap_cons, List.length_append, List.length_cons]; omega

theorem quote_l1 (s : Bytes) (hs : s.length ≤ 1000000) : ∀ (k i : Nat) (f : Bytes), i + k = s.length → f.length ≤ 6 * i + 1 → Ev2 (fun _ m => strlit_Quote_l1 s m (i : Int) f) (· = f ++ (s.drop i).flatMap escB) := by
  intro k
  induction k with
  | zero =>
    intro i f hi hf
    refine ev_round ?_
    simp only [strlit_Quote_l1]
    refine ev_ifF (by omega) (ev_some ?_)
    rw [List.drop_of_length_le (by omega)]; simp
  | succ k ih =>
    intro i f hi hf
    refine ev_round ?_
    simp only [strlit_Quote_l1]
    refine ev_ifT (by omega) (ev_ck (by omega) ?_)
    have hb : byt s i = ((s.getD i 0).toNat : Int) := byt_nat s i
    rw [hb]
    have hd : s.drop i = s.getD i 0 :: s.drop (i + 1) := by
      rw [List.getD_eq_getElem?_getD, List.getElem?_eq_getElem (by omega), Option.getD_some]
      exact List.drop_eq_getElem_cons (by omega)
    rw [hd, List.flatMap_cons]
    generalize s.getD i 0 = b
    have hbl := b.toNat_lt
    have he := escB_len b
    refine ev_to (f ++ escB b) ?_ ?_
    · refine ev_ite (fun h1 => ?_) (fun h1 => ev_ite (fun h2 => ?_) (fun h2 => ev_ite (fun h3 => ?_) (fun h3 => ?_)))
      · rw [esc_n (by omega)]
        exact ev_to _ (ev_const (wstr f [92, 110] (by simp only [List.length_cons, List.length_nil]; omega)) rfl) (ev_some rfl)
      · rw [esc_r (by omega)]
        exact ev_to _ (ev_const (wstr f [92, 114] (by simp only [List.length_cons, List.length_nil]; omega)) rfl) (ev_some rfl)
      · rw [esc_t (by omega)]
        exact ev_to _ (ev_const (wstr f [92, 116] (by simp only [List.length_cons, List.length_nil]; omega)) rfl) (ev_some rfl)
      refine ev_to (decide (b.toNat = 34 ∨ b.toNat = 92)) ?_ ?_
      · by_cases h : b.toNat = 34
        · exact ev_ifT (by omega) (ev_some (by simp [h]))
        · exact ev_ifF (by omega) (ev_some (eqB (by rw [decide_eq_true_eq, decide_eq_true_eq]; omega)))
      by_cases h4 : b.toNat = 34 ∨ b.toNat = 92
      · rw [esc_q h4]
        refine ev_ifT (by simp [h4]) ?_
        refine ev_to _ (ev_const (wbyte f 92 (by omega)) rfl) (ev_to _ (ev_const (wbyte (f ++ [92]) b (by simp only [List.length_append, List.length_cons, List.length_nil]; omega)) rfl) (ev_some ?_))
        simp
      refine ev_ifF (by simp only [decide_eq_true_eq]; exact h4) ?_
      refine ev_to (decide (b.toNat < 32 ∨ b.toNat = 127)) ?_ ?_
      · by_cases h : b.toNat < 32
        · exact ev_ifT (by omega) (ev_some (by simp [h]))
        · exact ev_ifF (by omega) (ev_some (eqB (by rw [decide_eq_true_eq, decide_eq_true_eq]; omega)))
      by_cases h5 : b.toNat < 32 ∨ b.toNat = 127
      · rw [esc_u (by omega) (by omega) (by omega) h5]
        refine ev_ifT (by simp [h5]) (ev_ck (inR_of (by omega) (by omega)) ?_)
        have hx : strconv_FormatInt (b.toNat : Int) 16 = some (hexText b.toNat) := by
          unfold strconv_FormatInt
          rw [ck_pos ⟨rfl, by omega, by omega⟩]; rfl
        have hxl := hexText_len b.toNat
        refine ev_to _ (ev_const hx rfl) (ev_ck (by simp only [List.length_cons, List.length_nil]; omega) (ev_ck (by simp only [List.length_append, List.length_cons, List.length_nil]; omega) ?_))
        exact ev_to _ (ev_const (wstr f _ (by simp only [List.length_append, List.length_cons, List.length_nil]; omega)) rfl) (ev_some (by simp))
      · rw [esc_b (by omega) (by omega) h5]
        refine ev_ifF (by simp only [decide_eq_true_eq]; exact h5) ?_
        exact ev_to _ (ev_const (wbyte f b (by omega)) rfl) (ev_some rfl)
    · refine ev_ck (inR_of (by omega) (by omega)) ?_
      have := ih (i + 1) (f ++ escB b) (by omega) (by rw [List.length_append]; omega)
      rw [Int.natCast_add, Int.natCast_one] at this
      simpa using this

theorem quote_ev (s : Bytes) (hs : s.length ≤ 1000000) : Ev2 (fun n _ => strlit_Quote n s) (· = quoteP s) := by
  simp only [strlit_Quote]
  have hf := flat_len s
  refine ev_to _ (ev_const (wbyte [] 34 (by simp)) rfl) ?_
  have l := quote_l1 s hs s.length 0 [34] (by omega) (by simp)
  rw [List.drop_zero] at l
  refine ev_to _ (ev_loop l) ?_
  refine ev_to _ (ev_const (wbyte _ 34 (by simp only [List.length_append, List.length_cons, List.length_nil]; omega)) rfl) (ev_to _ (ev_const (bstr _ (by simp only [List.length_append, List.length_cons, List.length_nil]; omega)) rfl) (ev_some ?_))
  simp [quoteP]

theorem sValid (s : Bytes) : strlit_Valid s = some (decide (s.length ≤ 4096) && validD s) := by
  unfold strlit_Valid
  by_cases h : (s.length : Int) ≤ 4096
  · have hv : unicode_utf8_ValidString s = some (validD s) := by unfold unicode_utf8_ValidString; exact ck_pos (by omega)
    rw [if_pos h, hv]
    simp; omega
  · rw [if_neg h]
    simp; intro q; omega
end Go.Ab.R06

namespace Go.Ab.R06
open Go.Ab Go.Ab.RB Go.Lib

/-! ### Hexadecimal digits -/
def hexD (b : UInt8) : Option Nat := if 48 ≤ b.toNat ∧ b.toNat ≤ 57 then some (b.toNat - 48) else if 97 ≤ b.toNat ∧ b.toNat ≤ 102 then some (b.toNat - 87) else none
def hexs : Bytes := [48, 49, 50, 51, 52, 53, 54, 55, 56, 57, 97, 98, 99, 100, 101, 102]
theorem hexT : (List.range 256).all (fun n => indexByte hexs (UInt8.ofNat n) == (match hexD (UInt8.ofNat n) with | some d => (d : Int) | none => -1)) = true := by kernel_rfl
theorem hex_index (b : UInt8) : indexByte hexs b = match hexD b with | some d => (d : Int) | none => -1 := by
  have := eq_of_beq (List.all_eq_true.1 hexT b.toNat (List.mem_range.2 b.toNat_lt))
  simpa using this
theorem hexD_lt {b : UInt8} {d : Nat} (h : hexD b = some d) : d < 16 := by
  unfold hexD at h
  split at h
  · cases h; omega
  · split at h
    · cases h; omega
    · cases h

/-- The value of the digits at the head, at most so many, and how many. -/
def hexRun : Nat → Bytes → Nat → Nat × Nat
  | 0, _, a => (a, 0)
  | _ + 1, [], a => (a, 0)
  | k + 1, b :: r, a => match hexD b with
    | some d => ((hexRun k r (16 * a + d)).1, (hexRun k r (16 * a + d)).2 + 1)
    | none => (a, 0)
theorem hexRun_le : ∀ (k : Nat) (l : Bytes) (a : Nat), (hexRun k l a).2 ≤ k ∧ (hexRun k l a).2 ≤ l.length
  | 0, _, _ => ⟨Nat.le_refl _, Nat.zero_le _⟩
  | _ + 1, [], _ => ⟨Nat.zero_le _, Nat.le_refl _⟩
  | k + 1, b :: r, a => by
    unfold hexRun
    cases hexD b with
    | none => exact ⟨Nat.zero_le _, Nat.zero_le _⟩
    | some d => have := hexRun_le k r (16 * a + d); simp only [List.length_cons]; omega

theorem i32_small (n : Int) (h0 : 0 ≤ n) (h1 : n < 2147483648) : IntKind.wrap .i32 n = n := by
  simp [IntKind.wrap, IntKind.bits, IntKind.signed]
  omega

theorem hex_l1 (s : Bytes) (hs : s.length ≤ 1000000) : ∀ (k i a : Nat), i + k = 6 → i ≤ s.length → a < 16 ^ i → Ev2 (fun _ m => strlit_hexadecimal_l1 s m (a : Int) (i : Int))
    (· = (((hexRun k (s.drop i) a).1 : Int), ((i + (hexRun k (s.drop i) a).2 : Nat) : Int))) := by
  intro k
  induction k with
  | zero =>
    intro i a hi hl ha
    refine ev_round ?_
    simp only [strlit_hexadecimal_l1]
    refine ev_to false ?_ (ev_ifF (by simp) (ev_some (by simp [hexRun])))
    exact ev_ite (fun h => ev_some (by simp; omega)) (fun h => ev_some rfl)
  | succ k ih =>
    intro i a hi hl ha
    refine ev_round ?_
    simp only [strlit_hexadecimal_l1]
    by_cases h : i < s.length
    · refine ev_to true (ev_ifT (by omega) (ev_some (by simp; omega))) (ev_ifT rfl (ev_ck (by omega) ?_))
      have hb : byt s i = ((s.getD i 0).toNat : Int) := byt_nat s i
      rw [hb]
      have hd : s.drop i = s.getD i 0 :: s.drop (i + 1) := by
        rw [List.getD_eq_getElem?_getD, List.getElem?_eq_getElem h, Option.getD_some]
        exact List.drop_eq_getElem_cons h
      rw [hd]
      generalize s.getD i 0 = b
      have hx : strings_IndexByte ([48, 49, 50, 51, 52, 53, 54, 55, 56, 57, 97, 98, 99, 100, 101, 102] : Bytes) (b.toNat : Int) = some (indexByte hexs b) := by
        unfold strings_IndexByte
        have : ((b.toNat : Int).toNat.toUInt8) = b := by simp
        rw [this]; rfl
      refine ev_to _ (ev_const hx rfl) ?_
      rw [hex_index]
      unfold hexRun
      cases hh : hexD b with
      | none => exact ev_ifT (by decide) (ev_some (by simp))
      | some d =>
        have hlt := hexD_lt hh
        have hp : 16 ^ i ≤ 16 ^ 5 := Nat.pow_le_pow_right (by decide) (by omega)
        have hp5 : (16 : Nat) ^ 5 = 1048576 := rfl
        refine ev_ifF (by simp) (ev_ck (inR_of (by omega) (by omega)) ?_)
        have e1 : IntKind.wrap .i32 (16 * (a : Int)) = 16 * (a : Int) := i32_small _ (by omega) (by omega)
        have e2 : IntKind.wrap .i32 (d : Int) = (d : Int) := i32_small _ (by omega) (by omega)
        have e3 : IntKind.wrap .i32 (16 * (a : Int) + (d : Int)) = ((16 * a + d : Nat) : Int) := by
          rw [i32_small _ (by omega) (by omega)]; omega
        rw [e1, e2, e3]
        have := ih (i + 1) (16 * a + d) (by omega) (by omega) (by rw [Nat.pow_succ]; omega)
        rw [show (((i + 1 : Nat)) : Int) = (i : Int) + 1 by omega] at this
        refine ev_mono this fun r hr => ?_
        rw [hr]
        refine Prod.ext rfl ?_
        show ((i + 1 + _ : Nat) : Int) = ((i + (_ + 1) : Nat) : Int)
        omega
    · refine ev_to false (ev_ifF (by omega) (ev_some rfl)) (ev_ifF (by simp) (ev_some ?_))
      rw [List.drop_of_length_le (by omega)]
      simp [hexRun]

/-- The digits and the brace of an escape. -/
def hexP (s : Bytes) : Int × Int × Int :=
  let h := hexRun 6 s 0
  if h.2 = s.length then (0, 0, 40)
  else if s.getD h.2 0 ≠ 125 ∨ h.2 = 0 ∨ (1 < h.2 ∧ s.getD 0 0 = 48) ∨ validRune (h.1 : Int) = false then (0, 0, 2)
  else ((h.1 : Int), ((h.2 + 1 : Nat) : Int), 0)

theorem u8nat {b : UInt8} {n : Nat} (hn : n < 256) : b.toNat = n ↔ b = UInt8.ofNat n := by
  constructor
  · intro h; apply UInt8.toNat_inj.1; rw [h, UInt8.toNat_ofNat']; omega
  · intro h; rw [h, UInt8.toNat_ofNat']; omega

theorem hexP_eq {s : Bytes} {v c : Nat} (h : hexRun 6 s 0 = (v, c)) : hexP s = if c = s.length then (0, 0, 40) else if s.getD c 0 ≠ 125 ∨ c = 0 ∨ (1 < c ∧ s.getD 0 0 = 48) ∨ validRune (v : Int) = false then (0, 0, 2) else ((v : Int), ((c + 1 : Nat) : Int), 0) := by
  unfold hexP; rw [h]

theorem hexP_ev (s : Bytes) (hs : s.length ≤ 1000000) : Ev2 (fun n _ => strlit_hexadecimal n s) (· = hexP s) := by
  simp only [strlit_hexadecimal]
  have l := hex_l1 s hs 6 0 0 rfl (Nat.zero_le _) (by decide)
  rw [List.drop_zero, Nat.zero_add] at l
  have hle := hexRun_le 6 s 0
  refine ev_to _ (ev_loop l) ?_
  obtain ⟨v, c, hh⟩ : ∃ v c, hexRun 6 s 0 = (v, c) := ⟨_, _, rfl⟩
  have hP := hexP_eq hh
  rw [hh] at hle ⊢
  simp only at hle ⊢
  refine ev_ite (fun h => ev_some ?_) (fun h => ?_)
  · rw [hP, if_pos (by omega)]
  rw [if_neg (show ¬ c = s.length by omega)] at hP
  have hb : byt s c = ((s.getD c 0).toNat : Int) := byt_nat s c
  have hb0 : byt s 0 = ((s.getD 0 0).toNat : Int) := byt_nat s 0
  have h125 : (s.getD c 0).toNat = 125 ↔ s.getD c 0 = 125 := u8nat (by decide)
  have h48 : (s.getD 0 0).toNat = 48 ↔ s.getD 0 0 = 48 := u8nat (by decide)
  have hv : unicode_utf8_ValidRune (v : Int) = some (validRune (v : Int)) := rfl
  have key : Ev2 (fun _ _ => (ck ((0 : Int) ≤ (c : Int) ∧ (c : Int) < (s.length : Int)) <|
    if byt s c = 125 then
     if (c : Int) = 0 then some true
     else
      if 1 < (c : Int) then
       ck ((0 : Int) ≤ 0 ∧ 0 < (s.length : Int)) <|
       if byt s 0 = 48 then some true
       else (unicode_utf8_ValidRune (v : Int)).bind fun r32 => some (!r32)
      else (unicode_utf8_ValidRune (v : Int)).bind fun r34 => some (!r34)
    else some true : Option Bool)) (· = decide (s.getD c 0 ≠ 125 ∨ c = 0 ∨ (1 < c ∧ s.getD 0 0 = 48) ∨ validRune (v : Int) = false)) := by
    refine ev_ck (by omega) ?_
    rw [hb, hb0]
    refine ev_ite (fun h1 => ev_ite (fun h2 => ev_some ?_) (fun h2 => ev_ite (fun h3 => ev_ck (by omega) (ev_ite (fun h4 => ev_some ?_) (fun h4 => ?_))) (fun h3 => ?_))) (fun h1 => ev_some ?_)
    · symm; rw [decide_eq_true_eq]; right; left; omega
    · symm; rw [decide_eq_true_eq]; right; right; left; exact ⟨by omega, h48.1 (by omega)⟩
    · have q1 : ¬ s.getD c 0 ≠ 125 := fun q => q (h125.1 (by omega))
      have q2 : ¬ (1 < c ∧ s.getD 0 0 = 48) := fun q => h4 (by have := h48.2 q.2; omega)
      refine ev_to _ (ev_const hv rfl) (ev_some (eqB ?_))
      rw [decide_eq_true_eq]
      have : ¬ c = 0 := by omega
      simp only [q1, q2, false_or, this, Bool.not_eq_true']
    · have q1 : ¬ s.getD c 0 ≠ 125 := fun q => q (h125.1 (by omega))
      refine ev_to _ (ev_const hv rfl) (ev_some (eqB ?_))
      rw [decide_eq_true_eq]
      have a1 : ¬ c = 0 := by omega
      have a2 : ¬ 1 < c := by omega
      simp only [q1, a1, a2, false_or, false_and, Bool.not_eq_true']
    · symm; rw [decide_eq_true_eq]; left; intro q; exact h1 (by have := h125.2 q; omega)
  refine ev_to _ key ?_
  refine ev_ite (fun h1 => ev_some ?_) (fun h1 => ev_ck (inR_of (by omega) (by omega)) (ev_some ?_))
  · rw [hP, if_pos (of_decide_eq_true h1)]
  · rw [hP, if_neg (fun q => h1 (decide_eq_true q))]
    refine Prod.ext rfl (Prod.ext ?_ rfl)
    show (c : Int) + 1 = ((c + 1 : Nat) : Int)
    omega

/-- An escape, behind its backslash: the code point, its length, the error. -/
def escP (s : Bytes) : Int × Int × Int := match s with
  | [] => (0, 0, 40)
  | b :: r => if b.toNat = 110 then (10, 1, 0) else if b.toNat = 114 then (13, 1, 0) else if b.toNat = 116 then (9, 1, 0)
    else if b.toNat = 34 ∨ b.toNat = 92 then ((b.toNat : Int), 1, 0)
    else if b.toNat = 117 then (match r with
      | [] => (0, 0, 40)
      | c :: t => if c.toNat = 123 then ((hexP t).1, (hexP t).2.1 + 2, (hexP t).2.2) else (0, 0, 2))
    else (0, 0, 2)

theorem escP_cons (b : UInt8) (r : Bytes) : escP (b :: r) = if b.toNat = 110 then (10, 1, 0) else if b.toNat = 114 then (13, 1, 0) else if b.toNat = 116 then (9, 1, 0)
    else if b.toNat = 34 ∨ b.toNat = 92 then ((b.toNat : Int), 1, 0)
    else if b.toNat = 117 then (match r with
      | [] => (0, 0, 40)
      | c :: t => if c.toNat = 123 then ((hexP t).1, (hexP t).2.1 + 2, (hexP t).2.2) else (0, 0, 2))
    else (0, 0, 2) := rfl

theorem hexP_le (s : Bytes) : 0 ≤ (hexP s).2.1 ∧ (hexP s).2.1 ≤ s.length ∧ ((hexP s).2.2 = 0 → runeOk (hexP s).1) ∧ 0 ≤ (hexP s).2.2 := by
  have hle := hexRun_le 6 s 0
  unfold hexP
  generalize hexRun 6 s 0 = h at hle ⊢
  obtain ⟨v, c⟩ := h
  simp only at hle ⊢
  split
  · simp <;> omega
  · split
    · simp <;> omega
    · rename_i h1 h2
      refine ⟨by simp only; omega, by simp only; omega, fun _ => ?_, by simp⟩
      have : validRune (v : Int) = true := by
        cases hv : validRune (v : Int) with
        | true => rfl
        | false => exact absurd (.inr (.inr (.inr hv))) h2
      simp only [validRune, decide_eq_true_eq] at this
      unfold runeOk; simp only; omega
theorem escP_le (s : Bytes) : 0 ≤ (escP s).2.1 ∧ (escP s).2.1 ≤ s.length + 1 ∧ ((escP s).2.2 = 0 → runeOk (escP s).1 ∧ (escP s).2.1 ≤ s.length) ∧ 0 ≤ (escP s).2.2 := by
  unfold escP
  split
  · simp
  · rename_i b r
    have hb := b.toNat_lt
    split
    · simp [runeOk] <;> omega
    split
    · simp [runeOk] <;> omega
    split
    · simp [runeOk] <;> omega
    split
    · simp [runeOk] <;> omega
    split
    · split
      · simp
      · rename_i c t
        have := hexP_le t
        split
        · refine ⟨by simp only; omega, by simp only [List.length_cons]; omega, fun q => ⟨this.2.2.1 q, by simp only [List.length_cons]; omega⟩, this.2.2.2⟩
        · simp <;> omega
    · simp <;> omega

theorem escP_ev (s : Bytes) (hs : s.length ≤ 1000000) : Ev2 (fun n _ => strlit_escape n s) (· = escP s) := by
  simp only [strlit_escape]
  cases s with
  | nil => exact ev_ifT rfl (ev_some rfl)
  | cons b r =>
    have hl : ((b :: r).length : Int) = (r.length : Int) + 1 := by simp
    refine ev_ifF (by simp) (ev_ck (by omega) ?_)
    have hb : byt (b :: r) 0 = (b.toNat : Int) := rfl
    have hbl := b.toNat_lt
    rw [hb]
    have hP := escP_cons b r
    refine ev_ite (fun h => ev_some (by rw [hP, if_pos (by omega)])) (fun h1 => ?_)
    rw [if_neg (show ¬ b.toNat = 110 by omega)] at hP
    refine ev_ite (fun h => ev_some (by rw [hP, if_pos (by omega)])) (fun h2 => ?_)
    rw [if_neg (show ¬ b.toNat = 114 by omega)] at hP
    refine ev_ite (fun h => ev_some (by rw [hP, if_pos (by omega)])) (fun h3 => ?_)
    rw [if_neg (show ¬ b.toNat = 116 by omega)] at hP
    refine ev_to (decide (b.toNat = 34 ∨ b.toNat = 92)) ?_ ?_
    · by_cases h : b.toNat = 34
      · exact ev_ifT (by omega) (ev_some (by simp [h]))
      · exact ev_ifF (by omega) (ev_some (eqB (by rw [decide_eq_true_eq, decide_eq_true_eq]; omega)))
    by_cases h4 : b.toNat = 34 ∨ b.toNat = 92
    · rw [if_pos h4] at hP
      rw [hP]
      refine ev_ifT (by simp [h4]) (ev_ck (by omega) (ev_some ?_))
      rw [i32_small _ (by omega) (by omega)]
    rw [if_neg h4] at hP
    refine ev_ifF (by simp only [decide_eq_true_eq]; exact h4) ?_
    refine ev_ite (fun h5 => ?_) (fun h5 => ev_some (by rw [hP, if_neg (by omega)]))
    rw [if_pos (show b.toNat = 117 by omega)] at hP
    rw [hP]
    cases r with
    | nil => exact ev_ifT (by simp) (ev_some rfl)
    | cons c t =>
      have hl2 : ((b :: c :: t).length : Int) = (t.length : Int) + 2 := by simp <;> omega
      refine ev_ifF (by omega) (ev_ck (by omega) ?_)
      have hc : byt (b :: c :: t) 1 = (c.toNat : Int) := rfl
      rw [hc]
      refine ev_ite (fun h6 => ev_ck (by omega) ?_) (fun h6 => ev_some (by show _ = if c.toNat = 123 then _ else _; rw [if_neg (by omega)]))
      have e6 : (if c.toNat = 123 then ((hexP t).1, (hexP t).2.1 + 2, (hexP t).2.2) else ((0, 0, 2) : Int × Int × Int)) = ((hexP t).1, (hexP t).2.1 + 2, (hexP t).2.2) := if_pos (by omega)
      show Ev2 _ (· = if c.toNat = 123 then ((hexP t).1, (hexP t).2.1 + 2, (hexP t).2.2) else ((0, 0, 2) : Int × Int × Int))
      rw [e6, sub_from]
      show Ev2 (fun n m => (strlit_hexadecimal n t).bind _) _
      have hle := hexP_le t
      have htl : t.length ≤ 1000000 := by simp at hs; omega
      exact ev_to _ (hexP_ev t htl) (ev_ck (inR_of (by omega) (by omega)) (ev_some rfl))
end Go.Ab.R06

namespace Go.Ab.R06
open Go.Ab Go.Ab.RB Go.Lib

def badR (c : Nat × Nat) : Prop := (c.1 = 65533 ∧ c.2 = 1) ∨ c.1 < 32 ∨ c.1 = 127
instance (c : Nat × Nat) : Decidable (badR c) := inferInstanceAs (Decidable (_ ∨ _))

/-- The loop of Unquote: what is left, where it stands, what is read. -/
def unqL : Nat → Bytes → Nat → Bytes → (Int × Bytes) ⊕ (Bytes × Int × Int)
  | 0, _, at', acc => .inl ((at' : Int), acc)
  | _ + 1, [], at', acc => .inl ((at' : Int), acc)
  | n + 1, b :: r, at', acc => if b.toNat = 34 then .inl ((at' : Int), acc)
    else if (decodeL (b :: r)).1 = 92 then
      (if (escP r).2.2 = 0 then unqL n (r.drop (escP r).2.1.toNat) (at' + ((escP r).2.1.toNat + 1)) (acc ++ encodeRune (escP r).1) else .inr ([], 0, (escP r).2.2))
    else if badR (decodeL (b :: r)) then .inr ([], 0, 2)
    else unqL n ((b :: r).drop (decodeL (b :: r)).2) (at' + (decodeL (b :: r)).2) (acc ++ encodeRune ((decodeL (b :: r)).1 : Int))
theorem unqL_cons (n : Nat) (b : UInt8) (r : Bytes) (at' : Nat) (acc : Bytes) : unqL (n + 1) (b :: r) at' acc = if b.toNat = 34 then .inl ((at' : Int), acc)
    else if (decodeL (b :: r)).1 = 92 then
      (if (escP r).2.2 = 0 then unqL n (r.drop (escP r).2.1.toNat) (at' + ((escP r).2.1.toNat + 1)) (acc ++ encodeRune (escP r).1) else .inr ([], 0, (escP r).2.2))
    else if badR (decodeL (b :: r)) then .inr ([], 0, 2)
    else unqL n ((b :: r).drop (decodeL (b :: r)).2) (at' + (decodeL (b :: r)).2) (acc ++ encodeRune ((decodeL (b :: r)).1 : Int)) := by rw [unqL]

theorem unq_l1 (s : Bytes) (hs : s.length ≤ 1000000) : ∀ (k : Nat) (l : Bytes) (i : Nat) (f : Bytes), l.length < k → s.drop i = l → i + l.length = s.length → f.length ≤ 4 * i → Ev2 (fun n m => strlit_Unquote_l1 n s m (i : Int) f) (· = unqL k l i f) := by
  intro k
  induction k with
  | zero => intro l i f h; omega
  | succ k ih =>
    intro l i f hk hl hi hf
    refine ev_round ?_
    simp only [strlit_Unquote_l1]
    cases l with
    | nil =>
      simp only [List.length_nil] at hi
      refine ev_to false (ev_ifF (by omega) (ev_some rfl)) (ev_ifF (by simp) (ev_some ?_))
      rw [unqL]
    | cons b r =>
      have hil : i < s.length := by simp only [List.length_cons] at hi; omega
      have hb : byt s i = (b.toNat : Int) := by
        rw [byt_nat]
        have : s.getD i 0 = b := by
          have := List.drop_eq_getElem_cons hil
          rw [hl] at this
          rw [List.getD_eq_getElem?_getD, List.getElem?_eq_getElem hil]
          exact (List.cons.inj this).1.symm
        rw [this]
      have hr : s.drop (i + 1) = r := by
        have := List.drop_eq_getElem_cons hil
        rw [hl] at this
        exact (List.cons.inj this).2.symm
      have hlr : r.length + i + 1 = s.length := by simp only [List.length_cons] at hi; omega
      have hU := unqL_cons k b r i f
      rw [hb]
      by_cases h34 : b.toNat = 34
      · rw [if_pos h34] at hU
        exact ev_to false (ev_ifT (by omega) (ev_ck (by omega) (ev_some (by simp; omega)))) (ev_ifF (by simp) (ev_some hU.symm))
      rw [if_neg h34] at hU
      refine ev_to true (ev_ifT (by omega) (ev_ck (by omega) (ev_some (by simp; omega)))) (ev_ifT rfl (ev_ck (by omega) ?_))
      rw [sub_from, Int.toNat_natCast, hl]
      have hd : unicode_utf8_DecodeRuneInString (b :: r) = some (((decodeL (b :: r)).1 : Int), ((decodeL (b :: r)).2 : Int)) := by
        unfold unicode_utf8_DecodeRuneInString
        rw [dec_str _ (by simp)]
      refine ev_to _ (ev_const hd rfl) ?_
      have hdf := dec_facts (b :: r) (by simp)
      generalize hD : decodeL (b :: r) = D at hU hdf ⊢
      obtain ⟨c, w⟩ := D
      simp only at hU hdf ⊢
      by_cases h92 : c = 92
      · rw [if_pos h92] at hU
        have hes := escP_le r
        have hev := escP_ev r (by omega)
        have sub1 : sub s ((i : Int) + 1) (s.length : Int) = r := by
          rw [sub_from, show ((i : Int) + 1).toNat = i + 1 by omega, hr]
        generalize escP r = E at hU hes hev
        obtain ⟨x, y, z⟩ := E
        simp only at hU hes hev
        by_cases hz : z = 0
        · rw [if_pos hz] at hU
          refine ev_jn (ev_ifT (by omega) (ev_ck (inR_of (by omega) (by omega)) (ev_ck (by omega) ?_)))
          rw [sub1]
          obtain ⟨e1, e2⟩ := hes.2.2.1 hz
          obtain ⟨y', rfl⟩ : ∃ y' : Nat, y = y' := ⟨y.toNat, by omega⟩
          rw [Int.toNat_natCast] at hU
          refine ev_to _ hev (ev_ifT hz (ev_ck (inR_of (by dsimp only; omega) (by dsimp only; omega)) (ev_some ?_)))
          refine ev_to _ (ev_const (wrune f x e1 (by omega)) rfl) (ev_ck (inR_of (by dsimp only; omega) (by dsimp only; omega)) ?_)
          have hle := enc_len x e1
          have := ih (r.drop y') (i + (y' + 1)) (f ++ encodeRune x) (by rw [List.length_drop]; simp only [List.length_cons] at hk; omega) (by rw [← hr, List.drop_drop]; congr 1; omega) (by rw [List.length_drop]; omega) (by rw [List.length_append]; omega)
          rw [← hU] at this
          rw [show ((i + (y' + 1) : Nat) : Int) = (i : Int) + ((y' : Int) + 1) by omega] at this
          exact this
        · rw [if_neg hz] at hU
          refine ev_jn (ev_ifT (by omega) (ev_ck (inR_of (by omega) (by omega)) (ev_ck (by omega) ?_)))
          rw [sub1]
          refine ev_to _ hev (ev_ifF hz (ev_some ?_))
          exact hU.symm
      · rw [if_neg h92] at hU
        have hbad : Ev2 (fun _ _ => (if (c : Int) = 65533 then if (w : Int) = 1 then some true else if (c : Int) < 32 then some true else some (decide ((c : Int) = 127)) else if (c : Int) < 32 then some true else some (decide ((c : Int) = 127)) : Option Bool)) (· = decide (badR (c, w))) := by
          refine ev_ite (fun h1 => ev_ite (fun h2 => ev_some ?_) (fun h2 => ev_ite (fun h3 => ev_some ?_) (fun h3 => ev_some (eqB ?_)))) (fun h1 => ev_ite (fun h3 => ev_some ?_) (fun h3 => ev_some (eqB ?_)))
          · symm; rw [decide_eq_true_eq]; left; simp only; omega
          · symm; rw [decide_eq_true_eq]; right; left; simp only; omega
          · rw [decide_eq_true_eq, decide_eq_true_eq]; unfold badR; simp only; omega
          · symm; rw [decide_eq_true_eq]; right; left; simp only; omega
          · rw [decide_eq_true_eq, decide_eq_true_eq]; unfold badR; simp only; omega
        by_cases hbd : badR (c, w)
        · rw [if_pos hbd] at hU
          refine ev_jn (ev_ifF (by omega) (ev_to _ hbad (ev_ifT (by simp only [decide_eq_true_eq]; exact hbd) (ev_some ?_))))
          exact hU.symm
        · rw [if_neg hbd] at hU
          refine ev_jn (ev_ifF (by omega) (ev_to _ hbad (ev_ifF (by simp only [decide_eq_true_eq]; exact hbd) (ev_some ?_))))
          have hgood := hdf.2.2 (fun q => hbd (.inl q))
          refine ev_to _ (ev_const (wrune f c hgood.1 (by omega)) rfl) (ev_ck (inR_of (by simp only [List.length_cons] at hdf; omega) (by simp only [List.length_cons] at hdf; omega)) ?_)
          have hle := enc_len c hgood.1
          have hw : w ≤ r.length + 1 := by simpa using hdf.2.1
          have hw1 := hdf.1
          have := ih ((b :: r).drop w) (i + w) (f ++ encodeRune (c : Int)) (by rw [List.length_drop]; simp only [List.length_cons] at hk ⊢; omega) (by rw [← hl, List.drop_drop]) (by rw [List.length_drop]; simp only [List.length_cons]; omega) (by rw [List.length_append]; omega)
          rw [← hU] at this
          rw [show ((i + w : Nat) : Int) = (i : Int) + (w : Int) by omega] at this
          exact this

/-- strlit.Unquote. -/
def unqP : Bytes → Bytes × Int × Int
  | [] => ([], 0, 40)
  | b :: r => if b.toNat = 34 then (match unqL (r.length + 1) r 1 [] with
      | .inl q => if q.1 = ((r.length + 1 : Nat) : Int) then ([], 0, 40) else if 4096 < q.2.length then ([], 0, 3) else (q.2, q.1 + 1, 0)
      | .inr e => e)
    else ([], 0, 2)

theorem unqP_cons (b : UInt8) (r : Bytes) : unqP (b :: r) = if b.toNat = 34 then (match unqL (r.length + 1) r 1 [] with
      | .inl q => if q.1 = ((r.length + 1 : Nat) : Int) then ([], 0, 40) else if 4096 < q.2.length then ([], 0, 3) else (q.2, q.1 + 1, 0)
      | .inr e => e)
    else ([], 0, 2) := rfl

theorem unqL_le : ∀ (k : Nat) (l : Bytes) (i : Nat) (f : Bytes), (∀ a g, unqL k l i f = .inl (a, g) → (i : Int) ≤ a ∧ a ≤ ((i + l.length : Nat) : Int) ∧ g.length ≤ f.length + 4 * l.length ∧ ((∀ t, validD (f ++ t) = validD t) → ∀ t, validD (g ++ t) = validD t)) ∧ (∀ x, unqL k l i f = .inr x → x.1 = [] ∧ x.2.1 = 0 ∧ x.2.2 ≠ 0) := by
  intro k
  induction k with
  | zero =>
    intro l i f
    refine ⟨fun a g h => ?_, fun x h => (by rw [unqL] at h; cases h)⟩
    rw [unqL] at h; cases h
    exact ⟨by omega, by omega, by omega, fun q => q⟩
  | succ k ih =>
    intro l i f
    cases l with
    | nil =>
      refine ⟨fun a g h => ?_, fun x h => (by rw [unqL] at h; cases h)⟩
      rw [unqL] at h; cases h
      exact ⟨by omega, by simp, by simp, fun q => q⟩
    | cons b r =>
      rw [unqL_cons]
      have hdf := dec_facts (b :: r) (by simp)
      have hes := escP_le r
      split
      · refine ⟨fun a g h => ?_, fun x h => (by cases h)⟩
        cases h
        exact ⟨by omega, by simp only [List.length_cons]; omega, by omega, fun q => q⟩
      split
      · split
        · rename_i hz
          obtain ⟨e1, e2⟩ := hes.2.2.1 hz
          have hle := enc_len _ e1
          have hi := ih (r.drop (escP r).2.1.toNat) (i + ((escP r).2.1.toNat + 1)) (f ++ encodeRune (escP r).1)
          refine ⟨fun a g h => ?_, hi.2⟩
          have := hi.1 a g h
          rw [List.length_drop, List.length_append] at this
          refine ⟨by omega, by simp only [List.length_cons]; omega, by simp only [List.length_cons]; omega, fun q => this.2.2.2 fun t => ?_⟩
          rw [List.append_assoc, q, valid_enc _ e1]
        · rename_i hz
          refine ⟨fun a g h => (by cases h), fun x h => ?_⟩
          cases h
          exact ⟨rfl, rfl, hz⟩
      split
      · refine ⟨fun a g h => (by cases h), fun x h => ?_⟩
        cases h
        exact ⟨rfl, rfl, by decide⟩
      · rename_i hbd
        have hgood := hdf.2.2 (fun q => hbd (.inl q))
        have hle := enc_len _ hgood.1
        have hi := ih ((b :: r).drop (decodeL (b :: r)).2) (i + (decodeL (b :: r)).2) (f ++ encodeRune ((decodeL (b :: r)).1 : Int))
        refine ⟨fun a g h => ?_, hi.2⟩
        have := hi.1 a g h
        rw [List.length_drop, List.length_append] at this
        simp only [List.length_cons] at this hdf ⊢
        refine ⟨by omega, by omega, by omega, fun q => this.2.2.2 fun t => ?_⟩
        rw [List.append_assoc, q, valid_enc _ hgood.1]

theorem unq_ev (s : Bytes) (hs : s.length ≤ 1000000) : Ev2 (fun n _ => strlit_Unquote n s) (· = unqP s) := by
  simp only [strlit_Unquote]
  cases s with
  | nil => exact ev_ifT rfl (ev_some rfl)
  | cons b r =>
    have hl : ((b :: r).length : Int) = (r.length : Int) + 1 := by simp
    have hln : (b :: r).length = r.length + 1 := by simp
    refine ev_ifF (by simp) (ev_ck (by omega) ?_)
    have hb : byt (b :: r) 0 = (b.toNat : Int) := rfl
    rw [hb]
    rw [unqP_cons]
    refine ev_ite (fun h => ?_) (fun h => ev_some (by rw [if_neg (show ¬ b.toNat = 34 by omega)]))
    have l := unq_l1 (b :: r) hs (r.length + 1) r 1 [] (by omega) rfl (by omega) (by simp)
    have hle := unqL_le (r.length + 1) r 1 []
    have e34 : b.toNat = 34 := by omega
    simp only [e34, if_true]
    generalize unqL (r.length + 1) r 1 [] = U at l hle ⊢
    cases U with
    | inr e => exact ev_jnR e (ev_loop l) rfl
    | inl q =>
      obtain ⟨a, g⟩ := q
      have hq := hle.1 a g rfl
      simp only [List.length_nil, Nat.zero_add] at hq
      refine ev_jnL (a, g) (ev_loop l) ?_
      refine ev_ite (fun h => ev_some (by simp only at h ⊢; rw [if_pos (by omega)])) (fun h => ?_)
      simp only at h ⊢
      rw [if_neg (by omega)]
      refine ev_to _ (ev_const rfl rfl) (ev_ite (fun h1 => ev_some (by simp only at h1; rw [if_pos (by omega)])) (fun h1 => ?_))
      simp only at h1
      rw [if_neg (by omega)]
      refine ev_to _ (ev_const (bstr g (by omega)) rfl) (ev_ck (inR_of (by omega) (by omega)) (ev_some rfl))

/-- What is read is a text that may stand in a literal. -/
theorem unqP_ok {s x : Bytes} {n : Int} (h : unqP s = (x, n, 0)) : x.length ≤ 4096 ∧ validD x = true ∧ 2 ≤ n ∧ n ≤ s.length := by
  cases s with
  | nil => cases h
  | cons b r =>
    rw [unqP_cons] at h
    split at h
    · have hle := unqL_le (r.length + 1) r 1 []
      split at h
      · rename_i q hq
        obtain ⟨a, g⟩ := q
        have hg := hle.1 a g hq
        simp only at h
        split at h
        · cases h
        · split at h
          · cases h
          · rename_i h1 h2
            cases h
            simp only [List.length_cons]
            refine ⟨by omega, ?_, by omega, by omega⟩
            have := hg.2.2.2 (fun t => by simp) []
            simpa [validD_nil] using this
      · rename_i e he
        subst h
        exact absurd rfl (hle.2 _ he).2.2
    · cases h
theorem unqP_le (s : Bytes) : 0 ≤ (unqP s).2.1 ∧ (unqP s).2.1 ≤ s.length ∧ ((unqP s).2.2 ≠ 0 → (unqP s).1 = [] ∧ (unqP s).2.1 = 0) ∧ (unqP s).1.length ≤ 4096 := by
  cases s with
  | nil => exact ⟨Int.le_refl _, Int.le_refl _, fun _ => ⟨rfl, rfl⟩, Nat.zero_le _⟩
  | cons b r =>
    rw [unqP_cons]
    split
    · have hle := unqL_le (r.length + 1) r 1 []
      split
      · rename_i q hq
        obtain ⟨a, g⟩ := q
        have hg := hle.1 a g hq
        simp only
        split
        · simp; omega
        · split
          · simp; omega
          · rename_i h1 h2
            simp only [List.length_cons] at *
            exact ⟨by omega, by omega, fun q => absurd rfl q, by omega⟩
      · rename_i e he
        have := hle.2 _ he
        rw [this.1, this.2.1]
        simp; omega
    · simp; omega

/-! ### Literals -/
theorem hexD_digit : ∀ n : Fin 16, hexD (hexDigit n.1) = some n.1 ∧ ((hexDigit n.1) = 48 → n.1 = 0) := by decide
theorem hexD_dig {n : Nat} (h : n < 16) : hexD (hexDigit n) = some n := (hexD_digit ⟨n, h⟩).1
theorem hex_read (u : Nat) (h : u < 256) (t : Bytes) : hexP (hexText u ++ 125 :: t) = ((u : Int), (((hexText u).length + 1 : Nat) : Int), 0) := by
  have hv : validRune (u : Int) = true := by simp only [validRune, decide_eq_true_eq]; omega
  have h125 : hexD 125 = none := by decide
  by_cases h1 : u < 16
  · have e : hexText u = [hexDigit u] := if_pos h1
    have hr : hexRun 6 (hexText u ++ 125 :: t) 0 = (u, 1) := by
      rw [e]
      show hexRun (5 + 1) (hexDigit u :: 125 :: t) 0 = _
      rw [hexRun, hexD_dig h1]
      show ((hexRun (4 + 1) (125 :: t) (16 * 0 + u)).1, (hexRun (4 + 1) (125 :: t) (16 * 0 + u)).2 + 1) = _
      rw [hexRun, h125]; simp
    rw [hexP_eq hr, e, if_neg (by simp), if_neg]
    · simp
    · rintro (q | q | q | q)
      · exact q rfl
      · cases q
      · omega
      · rw [hv] at q; cases q
  · have e : hexText u = [hexDigit (u / 16), hexDigit (u % 16)] := if_neg h1
    have hr : hexRun 6 (hexText u ++ 125 :: t) 0 = (u, 2) := by
      rw [e]
      show hexRun (5 + 1) (hexDigit (u / 16) :: hexDigit (u % 16) :: 125 :: t) 0 = _
      rw [hexRun, hexD_dig (by omega)]
      show ((hexRun (4 + 1) (hexDigit (u % 16) :: 125 :: t) (16 * 0 + u / 16)).1, (hexRun (4 + 1) (hexDigit (u % 16) :: 125 :: t) (16 * 0 + u / 16)).2 + 1) = _
      rw [hexRun, hexD_dig (by omega)]
      show ((hexRun (3 + 1) (125 :: t) (16 * (16 * 0 + u / 16) + u % 16)).1, (hexRun (3 + 1) (125 :: t) (16 * (16 * 0 + u / 16) + u % 16)).2 + 1 + 1) = _
      rw [hexRun, h125]
      refine Prod.ext ?_ rfl
      show 16 * (16 * 0 + u / 16) + u % 16 = u
      omega
    rw [hexP_eq hr, e, if_neg (by simp), if_neg]
    · simp
    · rintro (q | q | q | q)
      · exact q rfl
      · cases q
      · have := (hexD_digit ⟨u / 16, by omega⟩).2 q.2
        simp only at this; omega
      · rw [hv] at q; cases q
theorem enc_ascii (b : UInt8) (h : b.toNat < 128) : encodeRune (b.toNat : Int) = [b] := by
  simp only [encodeRune, encodeRuneZ, if_pos (show (0 : Int) ≤ (b.toNat : Int) ∧ (b.toNat : Int) ≤ 127 by omega), List.map_cons, List.map_nil]
  simp
theorem esc_read (b : UInt8) (h : b.toNat < 128) (c : UInt8) (rest : Bytes) (he : escB b = 92 :: c :: rest) (t : Bytes) : escP (c :: rest ++ t) = ((b.toNat : Int), ((rest.length + 1 : Nat) : Int), 0) := by
  have hl : ∀ x y : UInt8, ([x, y] : Bytes) = 92 :: c :: rest → c = y ∧ rest = [] := fun x y q => by
    have := (List.cons.inj q).2
    exact ⟨((List.cons.inj this).1).symm, ((List.cons.inj this).2).symm⟩
  by_cases h10 : b.toNat = 10
  · rw [esc_n h10] at he
    obtain ⟨rfl, rfl⟩ := hl _ _ he
    rw [h10]; rfl
  by_cases h13 : b.toNat = 13
  · rw [esc_r h13] at he
    obtain ⟨rfl, rfl⟩ := hl _ _ he
    rw [h13]; rfl
  by_cases h9 : b.toNat = 9
  · rw [esc_t h9] at he
    obtain ⟨rfl, rfl⟩ := hl _ _ he
    rw [h9]; rfl
  by_cases hq : b.toNat = 34 ∨ b.toNat = 92
  · rw [esc_q hq] at he
    obtain ⟨rfl, rfl⟩ := hl _ _ he
    rw [List.cons_append, escP_cons, if_neg (by omega), if_neg (by omega), if_neg (by omega), if_pos hq]
    rfl
  by_cases hu : b.toNat < 32 ∨ b.toNat = 127
  · rw [esc_u h10 h13 h9 hu] at he
    have he : (92 : UInt8) :: 117 :: (123 :: (hexText b.toNat ++ [125])) = 92 :: c :: rest := he
    obtain ⟨hc, hr⟩ := List.cons.inj (List.cons.inj he).2
    subst hc
    subst hr
    have hh := hex_read b.toNat (by omega) t
    have e2 : (123 :: (hexText b.toNat ++ [125]) : Bytes) ++ t = 123 :: (hexText b.toNat ++ 125 :: t) := by simp
    rw [List.cons_append, e2, escP_cons, if_neg (by decide), if_neg (by decide), if_neg (by decide), if_neg (by decide), if_pos (by decide)]
    show (if (123 : UInt8).toNat = 123 then _ else _) = _
    rw [if_pos (by decide), hh]
    refine Prod.ext rfl (Prod.ext ?_ rfl)
    simp only [List.length_cons, List.length_append, List.length_nil]
    omega
  · rw [esc_b (by omega) (by omega) hu] at he
    cases he
theorem flat_high : ∀ p : Bytes, (∀ y ∈ p, 128 ≤ y.toNat) → p.flatMap escB = p
  | [], _ => rfl
  | y :: r, h => by
    have hy := h y List.mem_cons_self
    rw [List.flatMap_cons, flat_high r (fun z hz => h z (List.mem_cons_of_mem _ hz)), esc_b (by omega) (by omega) (by omega)]
    rfl
theorem unqL_quote : ∀ (n : Nat) (x : Bytes) (k i : Nat) (acc t : Bytes), x.length ≤ n → validD x = true → (x.flatMap escB ++ 34 :: t).length < k →
    unqL k (x.flatMap escB ++ 34 :: t) i acc = .inl (((i + (x.flatMap escB).length : Nat) : Int), acc ++ x) := by
  intro n
  induction n with
  | zero =>
    intro x k i acc t hx hv hk
    obtain rfl : x = [] := by cases x <;> simp_all
    obtain ⟨k, rfl⟩ : ∃ k', k = k' + 1 := ⟨k - 1, by omega⟩
    show unqL (k + 1) (34 :: t) i acc = _
    rw [unqL_cons, if_pos (by decide)]
    simp
  | succ n ih =>
    intro x k i acc t hx hv hk
    obtain ⟨k, rfl⟩ : ∃ k', k = k' + 1 := ⟨k - 1, by omega⟩
    cases x with
    | nil =>
      show unqL (k + 1) (34 :: t) i acc = _
      rw [unqL_cons, if_pos (by decide)]
      simp
    | cons b r =>
      by_cases hb : b.toNat < 128
      · have hvr : validD r = true := by rw [← validD_cons b r hb]; exact hv
        rw [List.flatMap_cons] at hk ⊢
        have hlen := escB_len b
        have hxr : r.length ≤ n := by simpa using hx
        by_cases hp : b.toNat ≠ 34 ∧ b.toNat ≠ 92 ∧ ¬ (b.toNat < 32 ∨ b.toNat = 127)
        · rw [esc_b hp.1 hp.2.1 hp.2.2] at hk ⊢
          show unqL (k + 1) (b :: (r.flatMap escB ++ 34 :: t)) i acc = _
          rw [unqL_cons, if_neg hp.1, decodeL_ascii b _ hb, if_neg (by simp only; omega), if_neg]
          · have := ih r k (i + 1) (acc ++ [b]) t hxr hvr (by simp only [List.length_append, List.length_cons, List.length_nil] at hk ⊢; omega)
            simp only [List.drop_succ_cons, List.drop_zero]
            rw [enc_ascii b hb, this]
            refine congrArg Sum.inl (Prod.ext ?_ ?_)
            · simp only [List.length_append, List.length_cons, List.length_nil]; omega
            · simp
          · unfold badR; simp only; omega
        · obtain ⟨c, rest, he⟩ : ∃ c rest, escB b = 92 :: c :: rest := by
            by_cases h10 : b.toNat = 10
            · exact ⟨_, _, esc_n h10⟩
            by_cases h13 : b.toNat = 13
            · exact ⟨_, _, esc_r h13⟩
            by_cases h9 : b.toNat = 9
            · exact ⟨_, _, esc_t h9⟩
            by_cases hq : b.toNat = 34 ∨ b.toNat = 92
            · exact ⟨_, _, esc_q hq⟩
            · exact ⟨_, _, esc_u h10 h13 h9 (by omega)⟩
          have hesc := esc_read b hb c rest he (r.flatMap escB ++ 34 :: t)
          rw [he] at hk ⊢
          have e : (92 :: c :: rest ++ r.flatMap escB) ++ 34 :: t = 92 :: (c :: rest ++ (r.flatMap escB ++ 34 :: t)) := by simp
          rw [e, unqL_cons, if_neg (by decide), decodeL_ascii 92 _ (by decide), if_pos (by decide), hesc]
          simp only [if_true, Int.toNat_natCast]
          have hd : (c :: rest ++ (r.flatMap escB ++ 34 :: t)).drop (rest.length + 1) = r.flatMap escB ++ 34 :: t := by
            have : rest.length + 1 = (c :: rest).length := by simp
            rw [this, List.drop_left]
          rw [hd, enc_ascii b hb]
          have := ih r k (i + (rest.length + 1 + 1)) (acc ++ [b]) t hxr hvr (by simp only [List.length_append, List.length_cons, List.length_nil] at hk ⊢; omega)
          rw [this]
          refine congrArg Sum.inl (Prod.ext ?_ ?_)
          · simp only [List.length_append, List.length_cons, List.length_nil]; omega
          · simp
      · have hne : b :: r ≠ [] := by simp
        obtain ⟨hnb, hvr⟩ := (valid_take _ hne).1 hv
        have hdf := dec_facts _ hne
        have hgood := hdf.2.2 hnb
        have hN := decN (b :: r).length ((b :: r).getD 0 0).toNat ((b :: r).getD 1 0).toNat ((b :: r).getD 2 0).toNat ((b :: r).getD 3 0).toNat (by simp) (UInt8.toNat_lt _)
        rw [← decodeL_N] at hN
        generalize hD : decodeL (b :: r) = D at hnb hvr hdf hgood hN
        obtain ⟨c, w⟩ := D
        simp only at hnb hvr hdf hgood hN
        have hc : 128 ≤ c := by
          rcases Nat.lt_or_ge c 128 with q | q
          · have := (hN.2.2.2.1 q).2
            have hb0 : ((b :: r).getD 0 0).toNat = b.toNat := rfl
            omega
          · exact q
        have hhigh := hN.2.2.2.2.1 hc
        have hp : ∀ y ∈ (b :: r).take w, 128 ≤ y.toNat := by
          intro y hy
          obtain ⟨j, hj, rfl⟩ := List.getElem_of_mem hy
          rw [List.length_take] at hj
          have hj2 : j < (b :: r).length := by omega
          have hg : ((b :: r).getD j 0) = ((b :: r).take w)[j]'(by rw [List.length_take]; exact hj) := by
            rw [List.getElem_take, List.getD_eq_getElem?_getD, List.getElem?_eq_getElem hj2]; rfl
          rw [← hg]
          obtain rfl | rfl | rfl | rfl : j = 0 ∨ j = 1 ∨ j = 2 ∨ j = 3 := by omega
          · exact hhigh.1
          · exact hhigh.2.1 (by omega)
          · exact hhigh.2.2.1 (by omega)
          · exact hhigh.2.2.2 (by omega)
        have hsplit : (b :: r).flatMap escB = encodeRune (c : Int) ++ ((b :: r).drop w).flatMap escB := by
          conv => lhs; rw [← List.take_append_drop w (b :: r)]
          rw [List.flatMap_append, flat_high _ hp, hgood.2]
        have hel : (encodeRune (c : Int)).length = w := by
          rw [hgood.2, List.length_take]; omega
        obtain ⟨y, p', hp'⟩ : ∃ y p', encodeRune (c : Int) = y :: p' := by
          cases hx : encodeRune (c : Int) with
          | nil => rw [hx] at hel; simp at hel; omega
          | cons y p' => exact ⟨y, p', rfl⟩
        have hy : 128 ≤ y.toNat := hp y (by rw [← hgood.2, hp']; exact List.mem_cons_self)
        have hdec := dec_enc (c : Int) hgood.1 (((b :: r).drop w).flatMap escB ++ 34 :: t)
        rw [hsplit, List.append_assoc] at hk ⊢
        have hlk : (encodeRune (c : Int) ++ (((b :: r).drop w).flatMap escB ++ 34 :: t)).drop w = ((b :: r).drop w).flatMap escB ++ 34 :: t := by
          rw [← hel, List.drop_left]
        have := ih ((b :: r).drop w) k (i + w) (acc ++ encodeRune (c : Int)) t (by rw [List.length_drop]; simp only [List.length_cons] at hx ⊢; omega) hvr (by rw [List.length_append] at hk; omega)
        rw [hp', List.cons_append] at hdec hlk ⊢
        rw [unqL_cons, if_neg (by omega), hdec]
        simp only [Int.toNat_natCast]
        rw [if_neg (by omega), if_neg]
        · rw [← hp', hel, hlk, this]
          refine congrArg Sum.inl (Prod.ext ?_ ?_)
          · rw [hp'] at hel
            simp only [List.length_append, hel, hp']; omega
          · rw [List.append_assoc, hgood.2, List.take_append_drop]
        · rw [← hp', hel]
          unfold badR; simp only; omega
theorem unqP_quote (x t : Bytes) (hv : validD x = true) (hl : x.length ≤ 4096) : unqP (quoteP x ++ t) = (x, ((quoteP x).length : Int), 0) := by
  have e : quoteP x ++ t = 34 :: (x.flatMap escB ++ 34 :: t) := by simp [quoteP]
  rw [e, unqP_cons, if_pos (by decide), unqL_quote x.length x _ 1 [] t (Nat.le_refl _) hv (by omega)]
  simp only
  rw [if_neg (by simp only [List.length_append, List.length_cons]; omega), if_neg (by simp only [List.nil_append]; omega)]
  refine Prod.ext (by simp) (Prod.ext ?_ rfl)
  simp only [quoteP, List.length_cons, List.length_append, List.length_nil]; omega
theorem dec_len : ∀ (k u : Nat), u < 10 ^ (k + 1) → (decDigits u).length ≤ k + 1 := by
  intro k
  induction k with
  | zero => intro u h; rw [decDigits, dif_pos (by simpa using h)]; simp
  | succ k ih =>
    intro u h
    rw [decDigits]
    split
    · simp
    · have := ih (u / 10) (by rw [Nat.pow_succ] at h; omega)
      rw [List.length_append]; simp; omega
theorem itoa_len {v : Int} (h0 : 0 ≤ v) (h1 : v ≤ maxN) : (itoa v).length ≤ 16 := by
  obtain ⟨u, rfl⟩ : ∃ u : Nat, v = u := ⟨v.toNat, by omega⟩
  unfold itoa
  rw [if_neg (by omega), Int.toNat_natCast]
  exact dec_len 15 u (by unfold maxN at h1; omega)
end Go.Ab.R06
