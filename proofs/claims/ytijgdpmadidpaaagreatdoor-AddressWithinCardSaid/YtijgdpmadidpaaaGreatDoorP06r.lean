/- Plain facts of chapter 06: the reference's literals and numbers. No program in sight. -/
import Derived.Test.YtijgdpmadidpaaaGreatDoorP06q
import Derived.Test.YtijgdpmadidpaaaGreatDoorR06p
set_option linter.unusedVariables false
set_option linter.unusedSimpArgs false
set_option linter.unnecessarySimpa false
namespace Go.Ab.R06
open Go.Ab Go.Ab.RB Go.Lib

/-! ### Code points -/
theorem rhexT : (List.range 256).all (fun n => ref02_hex (n : Int) == some (match hexD (UInt8.ofNat n) with | some d => (d : Int) | none => -1)) = true := by kernel_rfl
theorem rhex (b : UInt8) : ref02_hex (b.toNat : Int) = some (match hexD b with | some d => (d : Int) | none => -1) := by
  have := eq_of_beq (List.all_eq_true.1 rhexT b.toNat (List.mem_range.2 b.toNat_lt))
  simpa using this
theorem getD_drop (s : Bytes) (j i : Nat) : (s.drop j).getD i 0 = s.getD (j + i) 0 := by
  rw [List.getD_eq_getElem?_getD, List.getElem?_drop, List.getD_eq_getElem?_getD]
theorem byt_at (s : Bytes) (j i : Nat) : byt s ((j : Int) + (i : Int)) = ((s.getD (j + i) 0).toNat : Int) := by
  rw [show (j : Int) + (i : Int) = ((j + i : Nat) : Int) by omega]; exact byt_nat s (j + i)
theorem drop_at (s : Bytes) {i : Nat} (h : i < s.length) : s.drop i = s.getD i 0 :: s.drop (i + 1) := by
  rw [List.getD_eq_getElem?_getD, List.getElem?_eq_getElem h, Option.getD_some]
  exact List.drop_eq_getElem_cons h

theorem rpoint_l1 (s : Bytes) (hs : s.length ≤ 1000000) (j : Nat) (hj : j ≤ s.length) : ∀ (k i a : Nat), i + k = 6 → j + i ≤ s.length → a < 16 ^ i → Ev2 (fun _ m => ref02_point_l1 s (j : Int) m (a : Int) (i : Int))
    (· = (((hexRun k (s.drop (j + i)) a).1 : Int), ((i + (hexRun k (s.drop (j + i)) a).2 : Nat) : Int))) := by
  intro k
  induction k with
  | zero =>
    intro i a hi hl ha
    refine ev_round ?_
    simp only [ref02_point_l1]
    refine ev_to false ?_ (ev_ifF (by simp) (ev_some (by simp [hexRun])))
    exact ev_ck (inR_of (by omega) (by omega)) (ev_ite (fun h => ev_ifF (by omega) (ev_some rfl)) (fun h => ev_some rfl))
  | succ k ih =>
    intro i a hi hl ha
    refine ev_round ?_
    simp only [ref02_point_l1]
    rw [byt_at]
    have hin : inR ((j : Int) + (i : Int)) := inR_of (by omega) (by omega)
    by_cases h : j + i < s.length
    · rw [drop_at s h]
      generalize s.getD (j + i) 0 = b
      unfold hexRun
      cases hh : hexD b with
      | none =>
        refine ev_to false (ev_ck hin (ev_ifT (by omega) (ev_ifT (by omega) (ev_ck hin (ev_ck (by omega) (ev_to _ (ev_const (rhex b) rfl) (ev_some ?_))))))) (ev_ifF (by simp) (ev_some (by simp)))
        rw [hh]; rfl
      | some d =>
        have hlt := hexD_lt hh
        have hp : 16 ^ i ≤ 16 ^ 5 := Nat.pow_le_pow_right (by decide) (by omega)
        have hp5 : (16 : Nat) ^ 5 = 1048576 := rfl
        refine ev_to true (ev_ck hin (ev_ifT (by omega) (ev_ifT (by omega) (ev_ck hin (ev_ck (by omega) (ev_to _ (ev_const (rhex b) rfl) (ev_some ?_))))))) ?_
        · rw [hh]; simp
        refine ev_ifT rfl (ev_ck (inR_of (by omega) (by omega)) (ev_ck hin (ev_ck (by omega) (ev_to _ (ev_const (rhex b) rfl) ?_))))
        rw [hh]
        simp only
        refine ev_ck (inR_of (by omega) (by omega)) (ev_ck (inR_of (by omega) (by omega)) ?_)
        have := ih (i + 1) (16 * a + d) (by omega) (by omega) (by rw [Nat.pow_succ]; omega)
        rw [show (((i + 1 : Nat)) : Int) = (i : Int) + 1 by omega, show ((16 * a + d : Nat) : Int) = 16 * (a : Int) + (d : Int) by omega, ← Nat.add_assoc] at this
        refine ev_mono this fun r hr => ?_
        rw [hr]
        refine Prod.ext rfl ?_
        show ((i + 1 + _ : Nat) : Int) = ((i + (_ + 1) : Nat) : Int)
        omega
    · refine ev_to false (ev_ck hin (ev_ifF (by omega) (ev_some rfl))) (ev_ifF (by simp) (ev_some ?_))
      rw [List.drop_of_length_le (by omega)]
      simp [hexRun]

/-- An answer about a text that begins at j. -/
def shP (j : Int) (p : Int × Int × Int) : Int × Int × Int := if p.2.2 = 0 then (p.1, j + p.2.1, 0) else (0, 0, p.2.2)
theorem rpoint_ev (s : Bytes) (hs : s.length ≤ 1000000) (j : Nat) (hj : j ≤ s.length) : Ev2 (fun n _ => ref02_point n s (j : Int)) (· = shP (j : Int) (hexP (s.drop j))) := by
  simp only [ref02_point]
  have l := rpoint_l1 s hs j hj 6 0 0 rfl (by omega) (by decide)
  rw [Nat.add_zero, Nat.zero_add] at l
  have hle := hexRun_le 6 (s.drop j) 0
  refine ev_to _ (ev_loop l) ?_
  obtain ⟨v, c, hh⟩ : ∃ v c, hexRun 6 (s.drop j) 0 = (v, c) := ⟨_, _, rfl⟩
  have hP := hexP_eq hh
  rw [hh] at hle ⊢
  rw [List.length_drop] at hle hP
  simp only at hle ⊢
  have hin : inR ((j : Int) + (c : Int)) := inR_of (by omega) (by omega)
  refine ev_ck hin ?_
  refine ev_ite (fun h => ev_some ?_) (fun h => ?_)
  · rw [hP, if_pos (by omega)]; rfl
  rw [if_neg (show ¬ c = s.length - j by omega), getD_drop, getD_drop, Nat.add_zero] at hP
  have hb0 : byt s (j : Int) = ((s.getD j 0).toNat : Int) := byt_nat s j
  have h125 : (s.getD (j + c) 0).toNat = 125 ↔ s.getD (j + c) 0 = 125 := u8nat (by decide)
  have h48 : (s.getD j 0).toNat = 48 ↔ s.getD j 0 = 48 := u8nat (by decide)
  rw [byt_at, hb0]
  have hvr : validRune (v : Int) = false ↔ 1114111 < (v : Int) ∨ (55296 ≤ (v : Int) ∧ (v : Int) ≤ 57343) := by
    simp only [validRune, decide_eq_false_iff_not]; omega
  have tail : Ev2 (fun _ _ => (if 1114111 < (v : Int) then some true else if 55296 ≤ (v : Int) then some (decide ((v : Int) ≤ 57343)) else some false : Option Bool)) (· = decide (validRune (v : Int) = false)) := by
    refine ev_ite (fun h1 => ev_some ?_) (fun h1 => ev_ite (fun h2 => ev_some (eqB ?_)) (fun h2 => ev_some ?_))
    · symm; rw [decide_eq_true_eq, hvr]; exact .inl h1
    · rw [decide_eq_true_eq, decide_eq_true_eq, hvr]; omega
    · symm; rw [decide_eq_false_iff_not, hvr]; omega
  refine ev_to (decide (s.getD (j + c) 0 ≠ 125 ∨ c = 0 ∨ (1 < c ∧ s.getD j 0 = 48) ∨ validRune (v : Int) = false)) ?_ ?_
  · refine ev_ite (fun h1 => ev_some ?_) (fun h1 => ev_ck hin (ev_ck (by omega) ?_))
    · symm; rw [decide_eq_true_eq]; right; left; omega
    refine ev_ite (fun h2 => ?_) (fun h2 => ev_some ?_)
    · have q1 : ¬ s.getD (j + c) 0 ≠ 125 := fun q => q (h125.1 (by omega))
      have q0 : ¬ c = 0 := by omega
      refine ev_ite (fun h3 => ev_ck (by omega) (ev_ite (fun h4 => ev_some ?_) (fun h4 => ?_))) (fun h3 => ?_)
      · symm; rw [decide_eq_true_eq]; right; right; left; exact ⟨by omega, h48.1 (by omega)⟩
      · have q2 : ¬ (1 < c ∧ s.getD j 0 = 48) := fun q => h4 (by have := h48.2 q.2; omega)
        refine ev_mono tail fun r hr => ?_
        rw [hr]; simp only [q1, q0, q2, false_or]
      · have q2 : ¬ (1 < c ∧ s.getD j 0 = 48) := fun q => h3 (by omega)
        refine ev_mono tail fun r hr => ?_
        rw [hr]; simp only [q1, q0, q2, false_or]
    · symm; rw [decide_eq_true_eq]; left; intro q; exact h2 (by have := h125.2 q; omega)
  · refine ev_ite (fun h1 => ev_some ?_) (fun h1 => ev_ck hin (ev_ck (inR_of (by omega) (by omega)) (ev_some ?_)))
    · rw [hP, if_pos (of_decide_eq_true h1)]; rfl
    · rw [hP, if_neg (fun q => h1 (decide_eq_true q))]
      unfold shP
      rw [if_pos rfl]
      refine Prod.ext rfl (Prod.ext ?_ rfl)
      show (j : Int) + (c : Int) + 1 = (j : Int) + ((c + 1 : Nat) : Int)
      omega

theorem u192 : (List.range 32).all (fun n => iOr .i64 192 (n : Int) == ((192 + n : Nat) : Int)) = true := by kernel_rfl
theorem u128 : (List.range 64).all (fun n => iOr .i64 128 (n : Int) == ((128 + n : Nat) : Int)) = true := by kernel_rfl
theorem u224 : (List.range 16).all (fun n => iOr .i64 224 (n : Int) == ((224 + n : Nat) : Int)) = true := by kernel_rfl
theorem u240 : (List.range 8).all (fun n => iOr .i64 240 (n : Int) == ((240 + n : Nat) : Int)) = true := by kernel_rfl
theorem and63w (u : Nat) (h : u < 4611686018427387904) : iAnd .i64 (u : Int) 63 = ((u % 64 : Nat) : Int) := by
  have e1 : (BitVec.ofInt 64 (u : Int)).toNat = u := by rw [BitVec.toNat_ofInt]; omega
  have e2 : (BitVec.ofInt 64 (63 : Int)).toNat = 63 := by rw [BitVec.toNat_ofInt]; omega
  show IntKind.wrap .i64 (((BitVec.ofInt 64 (u : Int)) &&& (BitVec.ofInt 64 (63 : Int))).toNat : Nat) = _
  rw [BitVec.toNat_and, e1, e2]
  have := Nat.and_two_pow_sub_one_eq_mod u 6
  rw [show (2 : Nat) ^ 6 - 1 = 63 from rfl, show (2 : Nat) ^ 6 = 64 from rfl] at this
  rw [this]
  simp [IntKind.wrap, IntKind.bits, IntKind.signed]
  omega
theorem shw (u k : Nat) (hk : k < 64) : iShr .i64 (u : Int) (k : Int) = ((u / 2 ^ k : Nat) : Int) := by
  show (u : Int).fdiv (2 ^ (min (k : Int).toNat IntKind.i64.bits)) = _
  have : min (k : Int).toNat IntKind.i64.bits = k := by
    have : IntKind.i64.bits = 64 := rfl
    rw [this]; omega
  rw [this, Int.fdiv_eq_ediv_of_nonneg _ (by exact Int.le_of_lt (Int.pow_pos (by decide)))]
  push_cast; rfl

theorem rencode (u : Nat) (h : runeOk (u : Int)) : ref02_Encode (u : Int) = some (encodeRune (u : Int)) := by
  have h0 : (u : Int) ≤ 1114111 := by unfold runeOk at h; omega
  unfold ref02_Encode
  have s6 : iShr .i64 (u : Int) 6 = ((u / 64 : Nat) : Int) := shw u 6 (by decide)
  have s12 : iShr .i64 (u : Int) 12 = ((u / 4096 : Nat) : Int) := shw u 12 (by decide)
  have s18 : iShr .i64 (u : Int) 18 = ((u / 262144 : Nat) : Int) := shw u 18 (by decide)
  rw [s6, s12, s18, and63w u (by omega), and63w (u / 64) (by omega), and63w (u / 4096) (by omega)]
  have o1 : iOr .i64 128 ((u % 64 : Nat) : Int) = ((128 + u % 64 : Nat) : Int) := tab u128 _ (by omega)
  have o2 : iOr .i64 128 ((u / 64 % 64 : Nat) : Int) = ((128 + u / 64 % 64 : Nat) : Int) := tab u128 _ (by omega)
  have o3 : iOr .i64 128 ((u / 4096 % 64 : Nat) : Int) = ((128 + u / 4096 % 64 : Nat) : Int) := tab u128 _ (by omega)
  rw [o1, o2, o3]
  have w8 : ∀ v : Nat, v < 256 → IntKind.wrap .u8 (v : Int) = (v : Int) := fun v hv => by rw [wrap8]; omega
  have eu : ∀ (v : Nat) (w : Int), (v : Int) = w → u8 (v : Int) = w.toNat.toUInt8 := fun v w q => by rw [← q]; rfl
  by_cases h1 : u < 128
  · rw [if_pos (by omega), w8 u (by omega), ck_pos (by omega)]
    simp only [encodeRune, encodeRuneZ, if_pos (show 0 ≤ (u : Int) ∧ (u : Int) ≤ 127 by omega), List.map_cons, List.map_nil, u8]
  rw [if_neg (by omega)]
  have n1 : ¬ (0 ≤ (u : Int) ∧ (u : Int) ≤ 127) := by omega
  by_cases h2 : u < 2048
  · have p1 : iOr .i64 192 ((u / 64 : Nat) : Int) = ((192 + u / 64 : Nat) : Int) := tab u192 _ (by omega)
    rw [if_pos (by omega), p1, w8 _ (by omega), w8 _ (by omega), ck_pos (by omega), ck_pos (by omega), ck_pos (by omega)]
    simp only [encodeRune, encodeRuneZ, if_neg n1, if_pos (show 128 ≤ (u : Int) ∧ (u : Int) ≤ 2047 by omega), List.map_cons, List.map_nil]
    rw [eu _ (192 + (u : Int) / 64) (by omega), eu _ (128 + (u : Int) % 64) (by omega)]
  rw [if_neg (by omega)]
  have n2 : ¬ (128 ≤ (u : Int) ∧ (u : Int) ≤ 2047) := by omega
  by_cases h3 : u < 65536
  · have p1 : iOr .i64 224 ((u / 4096 : Nat) : Int) = ((224 + u / 4096 : Nat) : Int) := tab u224 _ (by omega)
    rw [if_pos (by omega), p1, w8 _ (by omega), w8 _ (by omega), w8 _ (by omega)]
    repeat rw [ck_pos (by omega)]
    simp only [encodeRune, encodeRuneZ, if_neg n1, if_neg n2, if_pos (show (2048 ≤ (u : Int) ∧ (u : Int) < 55296) ∨ (57343 < (u : Int) ∧ (u : Int) ≤ 65535) by unfold runeOk at h; omega), List.map_cons, List.map_nil]
    rw [eu _ (224 + (u : Int) / 4096) (by omega), eu _ (128 + (u : Int) / 64 % 64) (by omega), eu _ (128 + (u : Int) % 64) (by omega)]
  · have p1 : iOr .i64 240 ((u / 262144 : Nat) : Int) = ((240 + u / 262144 : Nat) : Int) := tab u240 _ (by omega)
    rw [if_neg (by omega), p1, w8 _ (by omega), w8 _ (by omega), w8 _ (by omega), w8 _ (by omega)]
    repeat rw [ck_pos (by omega)]
    simp only [encodeRune, encodeRuneZ, if_neg n1, if_neg n2, if_neg (show ¬ ((2048 ≤ (u : Int) ∧ (u : Int) < 55296) ∨ (57343 < (u : Int) ∧ (u : Int) ≤ 65535)) by omega), if_pos (show 65536 ≤ (u : Int) ∧ (u : Int) ≤ 1114111 by omega), List.map_cons, List.map_nil]
    rw [eu _ (240 + (u : Int) / 262144) (by omega), eu _ (128 + (u : Int) / 4096 % 64) (by omega), eu _ (128 + (u : Int) / 64 % 64) (by omega), eu _ (128 + (u : Int) % 64) (by omega)]
end Go.Ab.R06
