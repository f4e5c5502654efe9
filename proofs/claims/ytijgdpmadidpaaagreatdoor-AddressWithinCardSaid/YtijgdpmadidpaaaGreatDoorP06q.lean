/- Plain facts of chapter 06: the reference's texts and checks. No program in sight. -/
import Derived.Test.YtijgdpmadidpaaaGreatDoorP06g
import Derived.Test.YtijgdpmadidpaaaGreatDoorR06q
set_option linter.unusedVariables false
set_option linter.unusedSimpArgs false
set_option linter.unnecessarySimpa false
namespace Go.Ab.R06
open Go.Ab Go.Ab.RB Go.Lib

/-! ### Bits -/
theorem t31 : (List.range 256).all (fun n => iAnd .u8 (n : Int) 31 == ((n % 32 : Nat) : Int)) = true := by kernel_rfl
theorem t15 : (List.range 256).all (fun n => iAnd .u8 (n : Int) 15 == ((n % 16 : Nat) : Int)) = true := by kernel_rfl
theorem t7 : (List.range 256).all (fun n => iAnd .u8 (n : Int) 7 == ((n % 8 : Nat) : Int)) = true := by kernel_rfl
theorem or64 (a b : Nat) (ha : a < 4611686018427387904) (hb : b < 4611686018427387904) : iOr .i64 (a : Int) (b : Int) = ((a ||| b : Nat) : Int) := by
  have hlt : a ||| b < 4611686018427387904 := Nat.or_lt_two_pow (n := 62) ha hb
  have e1 : (BitVec.ofInt 64 (a : Int)).toNat = a := by
    rw [BitVec.toNat_ofInt]; omega
  have e2 : (BitVec.ofInt 64 (b : Int)).toNat = b := by
    rw [BitVec.toNat_ofInt]; omega
  show IntKind.wrap .i64 (((BitVec.ofInt 64 (a : Int)) ||| (BitVec.ofInt 64 (b : Int))).toNat : Nat) = _
  rw [BitVec.toNat_or, e1, e2]
  simp [IntKind.wrap, IntKind.bits, IntKind.signed]
  omega
theorem orAdd (a b k : Nat) (ha : a * 2 ^ k < 4611686018427387904) (hb : b < 2 ^ k) (hk : k ≤ 20) : iOr .i64 ((a * 2 ^ k : Nat) : Int) (b : Int) = ((a * 2 ^ k + b : Nat) : Int) := by
  have hp : 2 ^ k ≤ 2 ^ 20 := Nat.pow_le_pow_right (by decide) hk
  have h20 : (2 : Nat) ^ 20 = 1048576 := rfl
  rw [or64 _ _ ha (by omega)]
  have := Nat.shiftLeft_add_eq_or_of_lt hb a
  rw [Nat.shiftLeft_eq] at this
  rw [← this]
theorem shl64 (a k : Nat) (hk : k ≤ 20) (ha : a * 2 ^ k < 4611686018427387904) : iShl .i64 (a : Int) (k : Int) = ((a * 2 ^ k : Nat) : Int) := by
  have : min (k : Int).toNat IntKind.i64.bits = k := by
    have : IntKind.i64.bits = 64 := rfl
    rw [this]; omega
  unfold iShl
  rw [this]
  have e : (a : Int) * 2 ^ k = ((a * 2 ^ k : Nat) : Int) := by push_cast; rfl
  rw [e]
  generalize a * 2 ^ k = v at ha
  simp [IntKind.wrap, IntKind.bits, IntKind.signed]
  omega

/-! ### Decode -/
def refD (l : Bytes) : Int × Int := if (decodeL l).1 = 65533 ∧ (decodeL l).2 = 1 then (0, 0) else (((decodeL l).1 : Int), ((decodeL l).2 : Int))
theorem cont_eq (s : Bytes) (j : Nat) (lo hi : Int) : ref02_cont s (j : Int) lo hi = some (decide (j < s.length ∧ lo ≤ ((s.getD j 0).toNat : Int) ∧ ((s.getD j 0).toNat : Int) ≤ hi)) := by
  unfold ref02_cont
  have hb : byt s (j : Int) = ((s.getD j 0).toNat : Int) := byt_nat s j
  rw [hb]
  by_cases h : j < s.length
  · rw [if_pos (by omega), ck_pos (by omega)]
    by_cases h2 : lo ≤ ((s.getD j 0).toNat : Int)
    · rw [if_pos h2, ck_pos (by omega)]
      refine congrArg some (eqB ?_)
      rw [decide_eq_true_eq, decide_eq_true_eq]
      exact ⟨fun q => ⟨h, h2, q⟩, fun q => q.2.2⟩
    · rw [if_neg h2, Option.bind_some]
      symm; rw [Option.some.injEq, decide_eq_false_iff_not]
      exact fun q => h2 q.2.1
  · rw [if_neg (by omega)]; simp [h]

set_option maxHeartbeats 8000000 in
theorem decode_ref (s : Bytes) (i : Nat) (hi : i < s.length) (hs : s.length ≤ 1000000) : ref02_Decode s (i : Int) = some (refD (s.drop i)) := by
  have hg : ∀ k, (s.drop i).getD k 0 = s.getD (i + k) 0 := fun k => by
    rw [List.getD_eq_getElem?_getD, List.getElem?_drop, List.getD_eq_getElem?_getD]
  unfold ref02_Decode refD
  rw [decodeL_N, hg, hg, hg, hg, Nat.add_zero, List.length_drop]
  have b : ∀ k : Nat, byt s ((i : Int) + k) = ((s.getD (i + k) 0).toNat : Int) := fun k => by
    rw [show (i : Int) + (k : Int) = ((i + k : Nat) : Int) by omega]; exact byt_nat s (i + k)
  have c : ∀ (k : Nat) lo hi, ref02_cont s ((i : Int) + k) lo hi = some (decide (k < s.length - i ∧ lo ≤ ((s.getD (i + k) 0).toNat : Int) ∧ ((s.getD (i + k) 0).toNat : Int) ≤ hi)) := fun k lo hi => by
    rw [show (i : Int) + (k : Int) = ((i + k : Nat) : Int) by omega, cont_eq]
    refine congrArg some (eqB ?_)
    rw [decide_eq_true_eq, decide_eq_true_eq]
    constructor
    · rintro ⟨h1, h2⟩; exact ⟨by omega, h2⟩
    · rintro ⟨h1, h2⟩; exact ⟨by omega, h2⟩
  have b0 : byt s (i : Int) = ((s.getD i 0).toNat : Int) := byt_nat s i
  have b1 : byt s ((i : Int) + 1) = ((s.getD (i + 1) 0).toNat : Int) := b 1
  have b2 : byt s ((i : Int) + 2) = ((s.getD (i + 2) 0).toNat : Int) := b 2
  have b3 : byt s ((i : Int) + 3) = ((s.getD (i + 3) 0).toNat : Int) := b 3
  have c1 : ∀ lo hi, ref02_cont s ((i : Int) + 1) lo hi = _ := c 1
  have c2 : ∀ lo hi, ref02_cont s ((i : Int) + 2) lo hi = _ := c 2
  have c3 : ∀ lo hi, ref02_cont s ((i : Int) + 3) lo hi = _ := c 3
  simp only [b0, b1, b2, b3, c1, c2, c3]
  obtain ⟨n, hn⟩ : ∃ n, s.length = i + n := ⟨s.length - i, by omega⟩
  have hn1 : s.length - i = n := by omega
  have hlen : (s.length : Int) = (i : Int) + n := by omega
  rw [hn1, hlen]
  have l0 := (s.getD i 0).toNat_lt
  have l1 := (s.getD (i + 1) 0).toNat_lt
  have l2 := (s.getD (i + 2) 0).toNat_lt
  have l3 := (s.getD (i + 3) 0).toNat_lt
  generalize (s.getD i 0).toNat = B0 at l0 ⊢
  generalize (s.getD (i + 1) 0).toNat = B1 at l1 ⊢
  generalize (s.getD (i + 2) 0).toNat = B2 at l2 ⊢
  generalize (s.getD (i + 3) 0).toNat = B3 at l3 ⊢
  have hnp : 0 < n := by omega
  have hnb : n ≤ 1000000 := by omega
  have hib : i ≤ 1000000 := by omega
  clear hg b c b0 b1 b2 b3 c1 c2 c3 hn1 hlen hn hi hs
  have a31 : iAnd .u8 (B0 : Int) 31 = ((B0 % 32 : Nat) : Int) := tab t31 B0 (by omega)
  have a15 : iAnd .u8 (B0 : Int) 15 = ((B0 % 16 : Nat) : Int) := tab t15 B0 (by omega)
  have a7 : iAnd .u8 (B0 : Int) 7 = ((B0 % 8 : Nat) : Int) := tab t7 B0 (by omega)
  have a1 : iAnd .u8 (B1 : Int) 63 = ((B1 % 64 : Nat) : Int) := tab t63 B1 (by omega)
  have a2 : iAnd .u8 (B2 : Int) 63 = ((B2 % 64 : Nat) : Int) := tab t63 B2 (by omega)
  have a3 : iAnd .u8 (B3 : Int) 63 = ((B3 % 64 : Nat) : Int) := tab t63 B3 (by omega)
  have two : iOr .i64 (iShl .i64 ((B0 % 32 : Nat) : Int) 6) ((B1 % 64 : Nat) : Int) = ((B0 % 32 * 64 + B1 % 64 : Nat) : Int) := by
    have h1 : iShl .i64 ((B0 % 32 : Nat) : Int) 6 = ((B0 % 32 * 2 ^ 6 : Nat) : Int) := shl64 _ 6 (by decide) (by omega)
    rw [h1]
    exact orAdd _ _ 6 (by omega) (by omega) (by decide)
  have three : iOr .i64 (iOr .i64 (iShl .i64 ((B0 % 16 : Nat) : Int) 12) (iShl .i64 ((B1 % 64 : Nat) : Int) 6)) ((B2 % 64 : Nat) : Int) = ((B0 % 16 * 4096 + B1 % 64 * 64 + B2 % 64 : Nat) : Int) := by
    have h1 : iShl .i64 ((B0 % 16 : Nat) : Int) 12 = ((B0 % 16 * 2 ^ 12 : Nat) : Int) := shl64 _ 12 (by decide) (by omega)
    have h2 : iShl .i64 ((B1 % 64 : Nat) : Int) 6 = ((B1 % 64 * 2 ^ 6 : Nat) : Int) := shl64 _ 6 (by decide) (by omega)
    have h3 := orAdd (B0 % 16) (B1 % 64 * 2 ^ 6) 12 (by omega) (by omega) (by decide)
    have h4 := orAdd (B0 % 16 * 64 + B1 % 64) (B2 % 64) 6 (by omega) (by omega) (by decide)
    rw [h1, h2, h3, show B0 % 16 * 2 ^ 12 + B1 % 64 * 2 ^ 6 = (B0 % 16 * 64 + B1 % 64) * 2 ^ 6 by omega, h4]
  have four : iOr .i64 (iOr .i64 (iOr .i64 (iShl .i64 ((B0 % 8 : Nat) : Int) 18) (iShl .i64 ((B1 % 64 : Nat) : Int) 12)) (iShl .i64 ((B2 % 64 : Nat) : Int) 6)) ((B3 % 64 : Nat) : Int) = ((B0 % 8 * 262144 + B1 % 64 * 4096 + B2 % 64 * 64 + B3 % 64 : Nat) : Int) := by
    have h1 : iShl .i64 ((B0 % 8 : Nat) : Int) 18 = ((B0 % 8 * 2 ^ 18 : Nat) : Int) := shl64 _ 18 (by decide) (by omega)
    have h2 : iShl .i64 ((B1 % 64 : Nat) : Int) 12 = ((B1 % 64 * 2 ^ 12 : Nat) : Int) := shl64 _ 12 (by decide) (by omega)
    have h2' : iShl .i64 ((B2 % 64 : Nat) : Int) 6 = ((B2 % 64 * 2 ^ 6 : Nat) : Int) := shl64 _ 6 (by decide) (by omega)
    have h3 := orAdd (B0 % 8) (B1 % 64 * 2 ^ 12) 18 (by omega) (by omega) (by decide)
    have h4 := orAdd (B0 % 8 * 64 + B1 % 64) (B2 % 64 * 2 ^ 6) 12 (by omega) (by omega) (by decide)
    have h5 := orAdd (B0 % 8 * 4096 + B1 % 64 * 64 + B2 % 64) (B3 % 64) 6 (by omega) (by omega) (by decide)
    rw [h1, h2, h2', h3, show B0 % 8 * 2 ^ 18 + B1 % 64 * 2 ^ 12 = (B0 % 8 * 64 + B1 % 64) * 2 ^ 12 by omega, h4, show (B0 % 8 * 64 + B1 % 64) * 2 ^ 12 + B2 % 64 * 2 ^ 6 = (B0 % 8 * 4096 + B1 % 64 * 64 + B2 % 64) * 2 ^ 6 by omega, h5]
  rw [a31, a15, a7, a1, a2, a3, two, three, four]
  have i1 : inR ((i : Int) + 1) := inR_of (by omega) (by omega)
  have i2 : inR ((i : Int) + 2) := inR_of (by omega) (by omega)
  have i3 : inR ((i : Int) + 3) := inR_of (by omega) (by omega)
  have e0 : ((if (i : Int) < 0 then some true else some (decide ((i : Int) + n ≤ i))) : Option Bool) = some false := by
    rw [if_neg (by omega)]; simp; omega
  rw [e0, Option.bind_some, if_neg (by simp), ck_pos (by omega)]
  unfold decodeN
  by_cases h0 : B0 < 128
  · rw [if_pos (show (B0 : Int) < 128 by omega), ck_pos (inR_of (by omega) (by omega)), if_pos h0]
    simp only
    rw [if_neg (by omega)]; rfl
  rw [if_neg (show ¬ (B0 : Int) < 128 by omega), if_neg h0]
  have e12 : ((if 194 ≤ (B0 : Int) then if (B0 : Int) ≤ 223 then ck (inR ((i : Int) + 1)) <| (some (decide (1 < n ∧ (128 : Int) ≤ (B1 : Int) ∧ (B1 : Int) ≤ 191))).bind fun r10 => some r10 else some false else some false) : Option Bool) = some (decide (194 ≤ B0 ∧ B0 ≤ 223 ∧ 1 < n ∧ 128 ≤ B1 ∧ B1 ≤ 191)) := by
    by_cases q1 : 194 ≤ B0
    · rw [if_pos (by omega)]
      by_cases q2 : B0 ≤ 223
      · rw [if_pos (by omega), ck_pos i1, Option.bind_some]
        refine congrArg some (eqB ?_)
        rw [decide_eq_true_eq, decide_eq_true_eq]; omega
      · rw [if_neg (by omega)]; simp; omega
    · rw [if_neg (by omega)]; simp; omega
  rw [e12, Option.bind_some]
  by_cases h12 : 194 ≤ B0 ∧ B0 ≤ 223 ∧ 1 < n ∧ 128 ≤ B1 ∧ B1 ≤ 191
  · rw [if_pos (by simp only [decide_eq_true_eq]; exact h12), ck_pos (inR_of (by omega) (by omega)), ck_pos (by omega), ck_pos i1, ck_pos (by omega), ck_pos (inR_of (by omega) (by omega))]
    rw [if_pos (show B0 / 32 = 6 ∧ 1 < n ∧ B1 / 64 = 2 by omega), if_pos (show B0 % 32 * 64 + B1 % 64 ≥ 128 by omega)]
    show some _ = some (if B0 % 32 * 64 + B1 % 64 = 65533 ∧ _ then _ else _)
    rw [if_neg (by omega)]; rfl
  rw [if_neg (by simp only [decide_eq_true_eq]; exact h12)]
  have hlo : ((if (B0 : Int) = 224 then some 160 else some 128) : Option Int) = some (if B0 = 224 then 160 else 128) := by
    by_cases q : B0 = 224
    · rw [if_pos (by omega), if_pos q]
    · rw [if_neg (by omega), if_neg q]
  have hhi : ((if (B0 : Int) = 237 then some 159 else some 191) : Option Int) = some (if B0 = 237 then 159 else 191) := by
    by_cases q : B0 = 237
    · rw [if_pos (by omega), if_pos q]
    · rw [if_neg (by omega), if_neg q]
  have hlo4 : ((if (B0 : Int) = 240 then some 144 else some 128) : Option Int) = some (if B0 = 240 then 144 else 128) := by
    by_cases q : B0 = 240
    · rw [if_pos (by omega), if_pos q]
    · rw [if_neg (by omega), if_neg q]
  have hhi4 : ((if (B0 : Int) = 244 then some 143 else some 191) : Option Int) = some (if B0 = 244 then 143 else 191) := by
    by_cases q : B0 = 244
    · rw [if_pos (by omega), if_pos q]
    · rw [if_neg (by omega), if_neg q]
  rw [hlo, Option.bind_some, hhi, Option.bind_some]
  have e32 : ∀ lo hi : Int, ((if 224 ≤ (B0 : Int) then if (B0 : Int) ≤ 239 then ck (inR ((i : Int) + 1)) <| (some (decide (1 < n ∧ lo ≤ (B1 : Int) ∧ (B1 : Int) ≤ hi))).bind fun r26 => if r26 = true then ck (inR ((i : Int) + 2)) <| (some (decide (2 < n ∧ (128 : Int) ≤ (B2 : Int) ∧ (B2 : Int) ≤ 191))).bind fun r30 => some r30 else some false else some false else some false) : Option Bool)
      = some (decide (224 ≤ B0 ∧ B0 ≤ 239 ∧ (1 < n ∧ lo ≤ (B1 : Int) ∧ (B1 : Int) ≤ hi) ∧ 2 < n ∧ 128 ≤ B2 ∧ B2 ≤ 191)) := by
    intro lo hi
    by_cases q1 : 224 ≤ B0
    · rw [if_pos (by omega)]
      by_cases q2 : B0 ≤ 239
      · rw [if_pos (by omega), ck_pos i1, Option.bind_some]
        by_cases q3 : 1 < n ∧ lo ≤ (B1 : Int) ∧ (B1 : Int) ≤ hi
        · rw [if_pos (by simp only [decide_eq_true_eq]; exact q3), ck_pos i2, Option.bind_some]
          refine congrArg some (eqB ?_)
          rw [decide_eq_true_eq, decide_eq_true_eq]
          constructor
          · intro q; exact ⟨q1, q2, q3, by omega⟩
          · intro q; have := q.2.2.2; omega
        · rw [if_neg (by simp only [decide_eq_true_eq]; exact q3)]
          symm; rw [Option.some.injEq, decide_eq_false_iff_not]
          intro q; exact q3 q.2.2.1
      · rw [if_neg (by omega)]
        symm; rw [Option.some.injEq, decide_eq_false_iff_not]
        intro q; exact q2 q.2.1
    · rw [if_neg (by omega)]
      symm; rw [Option.some.injEq, decide_eq_false_iff_not]
      intro q; exact q1 q.1
  rw [e32, Option.bind_some]
  by_cases h32 : 224 ≤ B0 ∧ B0 ≤ 239 ∧ (1 < n ∧ (if B0 = 224 then 160 else 128) ≤ (B1 : Int) ∧ (B1 : Int) ≤ (if B0 = 237 then 159 else 191)) ∧ 2 < n ∧ 128 ≤ B2 ∧ B2 ≤ 191
  · rw [if_pos (by simp only [decide_eq_true_eq]; exact h32)]
    obtain ⟨k1, k2, ⟨k3, k4, k5⟩, k6, k7, k8⟩ := h32
    have k4' : 128 ≤ B1 ∧ (B0 = 224 → 160 ≤ B1) := by split at k4 <;> omega
    have k5' : B1 ≤ 191 ∧ (B0 = 237 → B1 ≤ 159) := by split at k5 <;> omega
    clear k4 k5
    repeat rw [ck_pos (by first | exact i1 | exact i2 | omega | exact inR_of (by omega) (by omega))]
    rw [if_neg (show ¬ (B0 / 32 = 6 ∧ 1 < n ∧ B1 / 64 = 2) by omega), if_pos (show B0 / 16 = 14 ∧ (1 < n ∧ B1 / 64 = 2) ∧ 2 < n ∧ B2 / 64 = 2 by omega), if_pos (show B0 % 16 * 4096 + B1 % 64 * 64 + B2 % 64 ≥ 2048 ∧ (B0 % 16 * 4096 + B1 % 64 * 64 + B2 % 64 < 55296 ∨ 57344 ≤ B0 % 16 * 4096 + B1 % 64 * 64 + B2 % 64 ∧ B0 % 16 * 4096 + B1 % 64 * 64 + B2 % 64 ≤ 1114111) by omega)]
    show some _ = some (if B0 % 16 * 4096 + B1 % 64 * 64 + B2 % 64 = 65533 ∧ (3 : Nat) = 1 then _ else _)
    rw [if_neg (by omega)]; rfl
  rw [if_neg (by simp only [decide_eq_true_eq]; exact h32)]
  rw [hlo4, Option.bind_some, hhi4, Option.bind_some]
  have h32' : ¬ (224 ≤ B0 ∧ B0 ≤ 239 ∧ 1 < n ∧ (B0 = 224 → 160 ≤ B1) ∧ 128 ≤ B1 ∧ B1 ≤ 191 ∧ (B0 = 237 → B1 ≤ 159) ∧ 2 < n ∧ 128 ≤ B2 ∧ B2 ≤ 191) := by
    rintro ⟨k1, k2, k3, k4, k5, k6, k7, k8⟩
    exact h32 ⟨k1, k2, ⟨k3, by split <;> omega, by split <;> omega⟩, k8⟩
  clear h32 e32
  have e60 : ∀ lo hi : Int, ((if 240 ≤ (B0 : Int) then if (B0 : Int) ≤ 244 then ck (inR ((i : Int) + 1)) <| (some (decide (1 < n ∧ lo ≤ (B1 : Int) ∧ (B1 : Int) ≤ hi))).bind fun r50 => if r50 = true then ck (inR ((i : Int) + 2)) <| (some (decide (2 < n ∧ (128 : Int) ≤ (B2 : Int) ∧ (B2 : Int) ≤ 191))).bind fun r54 => if r54 = true then ck (inR ((i : Int) + 3)) <| (some (decide (3 < n ∧ (128 : Int) ≤ (B3 : Int) ∧ (B3 : Int) ≤ 191))).bind fun r58 => some r58 else some false else some false else some false else some false) : Option Bool)
      = some (decide (240 ≤ B0 ∧ B0 ≤ 244 ∧ (1 < n ∧ lo ≤ (B1 : Int) ∧ (B1 : Int) ≤ hi) ∧ (2 < n ∧ 128 ≤ B2 ∧ B2 ≤ 191) ∧ 3 < n ∧ 128 ≤ B3 ∧ B3 ≤ 191)) := by
    intro lo hi
    by_cases q1 : 240 ≤ B0
    · rw [if_pos (by omega)]
      by_cases q2 : B0 ≤ 244
      · rw [if_pos (by omega), ck_pos i1, Option.bind_some]
        by_cases q3 : 1 < n ∧ lo ≤ (B1 : Int) ∧ (B1 : Int) ≤ hi
        · rw [if_pos (by simp only [decide_eq_true_eq]; exact q3), ck_pos i2, Option.bind_some]
          by_cases q4 : 2 < n ∧ 128 ≤ B2 ∧ B2 ≤ 191
          · rw [if_pos (by simp only [decide_eq_true_eq]; omega), ck_pos i3, Option.bind_some]
            refine congrArg some (eqB ?_)
            rw [decide_eq_true_eq, decide_eq_true_eq]
            constructor
            · intro q; exact ⟨q1, q2, q3, q4, by omega⟩
            · intro q; have := q.2.2.2.2; omega
          · rw [if_neg (by simp only [decide_eq_true_eq]; omega)]
            symm; rw [Option.some.injEq, decide_eq_false_iff_not]
            intro q; exact q4 q.2.2.2.1
        · rw [if_neg (by simp only [decide_eq_true_eq]; exact q3)]
          symm; rw [Option.some.injEq, decide_eq_false_iff_not]
          intro q; exact q3 q.2.2.1
      · rw [if_neg (by omega)]
        symm; rw [Option.some.injEq, decide_eq_false_iff_not]
        intro q; exact q2 q.2.1
    · rw [if_neg (by omega)]
      symm; rw [Option.some.injEq, decide_eq_false_iff_not]
      intro q; exact q1 q.1
  rw [e60, Option.bind_some]
  by_cases h60 : 240 ≤ B0 ∧ B0 ≤ 244 ∧ (1 < n ∧ (if B0 = 240 then 144 else 128) ≤ (B1 : Int) ∧ (B1 : Int) ≤ (if B0 = 244 then 143 else 191)) ∧ (2 < n ∧ 128 ≤ B2 ∧ B2 ≤ 191) ∧ 3 < n ∧ 128 ≤ B3 ∧ B3 ≤ 191
  · rw [if_pos (by simp only [decide_eq_true_eq]; exact h60)]
    obtain ⟨k1, k2, ⟨k3, k4, k5⟩, ⟨k6, k7, k8⟩, k9, k10, k11⟩ := h60
    have k4' : 128 ≤ B1 ∧ (B0 = 240 → 144 ≤ B1) := by split at k4 <;> omega
    have k5' : B1 ≤ 191 ∧ (B0 = 244 → B1 ≤ 143) := by split at k5 <;> omega
    clear k4 k5
    repeat rw [ck_pos (by first | exact i1 | exact i2 | exact i3 | omega | exact inR_of (by omega) (by omega))]
    rw [if_neg (show ¬ (B0 / 32 = 6 ∧ 1 < n ∧ B1 / 64 = 2) by omega), if_neg (show ¬ (B0 / 16 = 14 ∧ (1 < n ∧ B1 / 64 = 2) ∧ 2 < n ∧ B2 / 64 = 2) by omega), if_pos (show B0 / 8 = 30 ∧ (1 < n ∧ B1 / 64 = 2) ∧ (2 < n ∧ B2 / 64 = 2) ∧ 3 < n ∧ B3 / 64 = 2 by omega)]
    generalize hv : B0 % 8 * 262144 + B1 % 64 * 4096 + B2 % 64 * 64 + B3 % 64 = v
    rw [if_pos (show v ≥ 65536 ∧ (v < 55296 ∨ 57344 ≤ v ∧ v ≤ 1114111) by omega)]
    show some _ = some (if v = 65533 ∧ (4 : Nat) = 1 then _ else _)
    rw [if_neg (by omega)]; rfl
  rw [if_neg (by simp only [decide_eq_true_eq]; exact h60)]
  have h60' : ¬ (240 ≤ B0 ∧ B0 ≤ 244 ∧ 1 < n ∧ (B0 = 240 → 144 ≤ B1) ∧ 128 ≤ B1 ∧ B1 ≤ 191 ∧ (B0 = 244 → B1 ≤ 143) ∧ 2 < n ∧ 128 ≤ B2 ∧ B2 ≤ 191 ∧ 3 < n ∧ 128 ≤ B3 ∧ B3 ≤ 191) := by
    rintro ⟨k1, k2, k3, k4, k5, k6, k7, k8, k9, k10, k11⟩
    exact h60 ⟨k1, k2, ⟨k3, by split <;> omega, by split <;> omega⟩, ⟨k8, k9, k10⟩, k11⟩
  clear h60 e60
  symm
  refine congrArg some (if_pos ?_)
  repeat' split
  all_goals first | exact ⟨rfl, rfl⟩ | (exfalso; omega)

/-! ### Valid, keys -/
theorem rvalid_l1 (s : Bytes) (hs : s.length ≤ 1000000) : ∀ (k i : Nat), s.length - i < k → i ≤ s.length → Ev2 (fun _ m => ref02_Valid_l1 s m (i : Int)) (· = if validD (s.drop i) = true then .inl () else .inr false) := by
  intro k
  induction k with
  | zero => intro i h; omega
  | succ k ih =>
    intro i hk hi
    refine ev_round ?_
    simp only [ref02_Valid_l1]
    by_cases h : i < s.length
    · have hne : s.drop i ≠ [] := by intro q; have := congrArg List.length q; rw [List.length_drop] at this; simp at this; omega
      refine ev_ifT (by omega) (ev_to _ (ev_const (decode_ref s i h hs) rfl) ?_)
      have hv := valid_take _ hne
      have hdf := dec_facts _ hne
      rw [List.length_drop] at hdf
      unfold refD
      by_cases q : (decodeL (s.drop i)).1 = 65533 ∧ (decodeL (s.drop i)).2 = 1
      · rw [if_pos q]
        refine ev_ifT rfl (ev_some ?_)
        rw [if_neg (fun z => ((hv.1 z).1 q))]
      · rw [if_neg q]
        refine ev_ifF (by simp only; omega) (ev_ck (inR_of (by simp only; omega) (by simp only; omega)) ?_)
        have := ih (i + (decodeL (s.drop i)).2) (by omega) (by omega)
        rw [Int.natCast_add] at this
        refine ev_mono this fun r hr => ?_
        rw [hr, ← List.drop_drop]
        by_cases z : validD ((s.drop i).drop (decodeL (s.drop i)).2) = true
        · rw [if_pos z, if_pos (hv.2 ⟨q, z⟩)]
        · rw [if_neg z, if_neg (fun y => z (hv.1 y).2)]
    · refine ev_ifF (by omega) (ev_some ?_)
      rw [List.drop_of_length_le (by omega), if_pos validD_nil]
theorem rvalid_ev (s : Bytes) (hs : s.length ≤ 1000000) : Ev2 (fun n _ => ref02_Valid n s) (· = (decide (s.length ≤ 4096) && validD s)) := by
  simp only [ref02_Valid]
  refine ev_ite (fun h => ev_some ?_) (fun h => ?_)
  · have : ¬ s.length ≤ 4096 := by omega
    simp [this]
  · have h' : s.length ≤ 4096 := by omega
    have l := rvalid_l1 s hs (s.length + 1) 0 (by omega) (by omega)
    rw [List.drop_zero] at l
    cases hv : validD s with
    | true => rw [hv] at l; exact ev_jnL () (ev_loop l) (ev_some (by simp [h']))
    | false => rw [hv] at l; exact ev_jnR false (ev_loop l) (by simp)

theorem rkey_ev (k : TKey) (hk : k.fStr.length ≤ 1000000) : Ev2 (fun n _ => ref06_Key n k) (· = keyOk k) := by
  simp only [ref06_Key]
  unfold keyOk
  by_cases h1 : k.fKind = 1
  · refine ev_ifT h1 ?_
    rw [if_neg (show ¬ k.fKind = 0 by omega), if_pos h1]
    refine ev_cut (· = decide (0 ≤ k.fNum ∧ k.fNum ≤ maxN ∧ k.fStr = [])) ?_ (fun t ht => ev_some ht)
    refine ev_ite (fun h2 => ev_ite (fun h3 => ev_some ?_) (fun h3 => ev_some ?_)) (fun h2 => ev_some ?_)
    · simp [h2, maxN, h3]
    · symm; rw [decide_eq_false_iff_not]; intro q; exact h3 q.2.1
    · symm; rw [decide_eq_false_iff_not]; intro q; exact h2 q.1
  · refine ev_ifF h1 ?_
    by_cases h2 : k.fKind = 2
    · refine ev_ifT h2 ?_
      rw [if_neg (show ¬ k.fKind = 0 by omega), if_neg h1, if_pos h2]
      refine ev_cut (· = (decide (k.fNum = 0) && (decide (k.fStr.length ≤ 4096) && validD k.fStr))) ?_ (fun t ht => ev_some ht)
      refine ev_ite (fun h3 => ev_to _ (rvalid_ev _ hk) (ev_some (by simp [h3]))) (fun h3 => ev_some (by simp [h3]))
    · refine ev_ifF h2 (ev_some ?_)
      by_cases h0 : k.fKind = 0
      · rw [if_pos h0]; simp [h0]
      · rw [if_neg h0, if_neg h1, if_neg h2]; simp [h0]

def resL : List Bytes := [[109, 111, 100, 117, 108, 101], [100, 97, 116, 97], [118, 97, 114], [108, 111, 99, 97, 108], [111, 117, 116, 112, 117, 116], [101, 97, 99, 104], [99, 111, 117, 110, 116], [114, 101, 109, 111, 116, 101], [112, 97, 116, 104], [115, 101, 108, 102], [99, 104, 97, 110, 103, 101]]
theorem res_eq (s : Bytes) : resL.contains s = reservedB s := by
  unfold resL reservedB
  simp only [List.contains_cons, List.contains_nil, Bool.or_false]
  ac_rfl
theorem res_l1 (s : Bytes) : ∀ (k i : Nat), i + k = 11 → Ev2 (fun _ m => ref06_Reserved_l1 s m (i : Int)) (· = if (resL.drop i).contains s = true then .inr true else .inl ()) := by
  intro k
  induction k with
  | zero =>
    intro i hi
    refine ev_round ?_
    simp only [ref06_Reserved_l1]
    obtain rfl : i = 11 := by omega
    exact ev_ifF (by simp) (ev_some rfl)
  | succ k ih =>
    intro i hi
    refine ev_round ?_
    simp only [ref06_Reserved_l1]
    have hlen : resL.length = 11 := rfl
    have hil : i < resL.length := by omega
    have := ih (i + 1) (by omega)
    rw [Int.natCast_add, Int.natCast_one] at this
    show Ev2 (fun _ m => if (i : Int) < (resL.length : Int) then ck ((0 : Int) ≤ i ∧ (i : Int) < (resL.length : Int)) <| if lat resL (i : Int) = s then some (Sum.inr true) else ck (inR ((i : Int) + 1)) <| ref06_Reserved_l1 s m ((i : Int) + 1) else some (Sum.inl ())) _
    refine ev_ifT (by omega) (ev_ck (by omega) ?_)
    rw [lat_get _ _ hil, List.drop_eq_getElem_cons hil, List.contains_cons]
    refine ev_ite (fun h => ev_some ?_) (fun h => ev_ck (inR_of (by omega) (by omega)) ?_)
    · rw [h]; simp
    · have hb : (s == resL[i]) = false := by simp; exact fun q => h q.symm
      rw [hb, Bool.false_or]; exact this
theorem res_ev (s : Bytes) : Ev2 (fun n _ => ref06_Reserved n s) (· = reservedB s) := by
  simp only [ref06_Reserved]
  have l := res_l1 s 11 0 rfl
  rw [List.drop_zero, res_eq] at l
  cases h : reservedB s with
  | true => rw [h] at l; exact ev_jnR true (ev_loop l) rfl
  | false => rw [h] at l; exact ev_jnL () (ev_loop l) (ev_some rfl)

/-! ### Check -/
/-- Keys too are of a size that a walk can bear. -/
def Sk (a : TAddress) : Prop := a.fKey.fStr.length ≤ 100000 ∧ ∀ x ∈ a.fModule, x.fKey.fStr.length ≤ 100000
theorem rcheck_l1 (a : TAddress) (ha : Sm a) (hk : Sk a) : ∀ (k i : Nat), i + k = a.fModule.length → Ev2 (fun n m => ref06_Check_l1 n a m (i : Int)) (· = if stepsE (a.fModule.drop i) = 0 then .inl () else .inr (stepsE (a.fModule.drop i))) := by
  intro k
  induction k with
  | zero =>
    intro i hi
    refine ev_round ?_
    simp only [ref06_Check_l1]
    refine ev_ifF (by omega) (ev_some ?_)
    rw [List.drop_of_length_le (by omega)]; rfl
  | succ k ih =>
    intro i hi
    refine ev_round ?_
    simp only [ref06_Check_l1]
    have hil : i < a.fModule.length := by omega
    refine ev_ifT (by omega) (ev_ck (by omega) ?_)
    rw [lat_get _ _ hil, List.drop_eq_getElem_cons hil]
    have hx := ha.2.2.2 _ (List.getElem_mem hil)
    have hx2 := hk.2 _ (List.getElem_mem hil)
    have := ih (i + 1) (by omega)
    have hlen := ha.1
    generalize a.fModule[i] = x at hx hx2 ⊢
    unfold stepsE
    refine ev_to _ (rident_ev x.fName (by omega)) ?_
    cases h1 : identB x.fName with
    | false => exact ev_ifT rfl (ev_some (by simp))
    | true =>
      refine ev_ifF (by simp) (ev_ck (by omega) (ev_to _ (rkey_ev _ (by omega)) ?_))
      cases h2 : keyOk x.fKey with
      | false => exact ev_ifT rfl (ev_some (by simp))
      | true =>
        refine ev_ifF (by simp) (ev_ck (inR_of (by omega) (by omega)) ?_)
        rw [Int.natCast_add, Int.natCast_one] at this
        simpa using this
theorem rcheck_ev (a : TAddress) (ha : Sm a) (hk : Sk a) : Ev2 (fun n _ => ref06_Check n a) (· = checkP a) := by
  simp only [ref06_Check]
  unfold checkP
  refine ev_ite (fun h => ev_some (by rw [if_pos (by omega)])) (fun h => ?_)
  rw [if_neg (show ¬ 16 < a.fModule.length by omega)]
  have l := rcheck_l1 a ha hk a.fModule.length 0 (by omega)
  rw [List.drop_zero] at l
  by_cases he : stepsE a.fModule = 0
  · rw [if_pos he] at l
    rw [if_neg (by simp [he])]
    refine ev_jnL () (ev_loop l) ?_
    refine ev_to (decide (kindB a.fType = false ∨ identB a.fName = false)) ?_ ?_
    · refine ev_to _ (rident_ev _ (by have := ha.2.1; omega)) ?_
      unfold kindB
      cases identB a.fType with
      | false => exact ev_ifT rfl (ev_some (by simp))
      | true =>
        refine ev_ifF (by simp) (ev_to _ (res_ev _) ?_)
        cases reservedB a.fType with
        | true => exact ev_ifT rfl (ev_some (by simp))
        | false =>
          refine ev_ifF (by simp) (ev_to _ (rident_ev _ (by have := ha.2.2.1; omega)) (ev_some ?_))
          cases identB a.fName <;> simp
    · refine ev_ite (fun h => ev_some (by rw [if_pos (of_decide_eq_true h)])) (fun h => ?_)
      rw [if_neg (fun q => h (decide_eq_true q))]
      refine ev_to _ (rkey_ev _ (by have := hk.1; omega)) ?_
      cases keyOk a.fKey with
      | false => exact ev_ifT rfl (ev_some (by simp))
      | true => exact ev_ifF (by simp) (ev_some (by simp))
  · rw [if_neg he] at l
    rw [if_pos he]
    exact ev_jnR _ (ev_loop l) rfl

/-! ### Texts -/
theorem rformat_ev : ∀ (k u : Nat), u < 10 ^ (k + 1) → u ≤ 9007199254740992 → Ev2 (fun n _ => ref01_Format n (u : Int)) (· = decDigits u) := by
  intro k
  induction k with
  | zero =>
    intro u h _
    have h : u < 10 := by simpa using h
    refine ev_succ ?_
    simp only [ref01_Format]
    have hw : IntKind.wrap .u8 (48 + (u : Int)) = ((48 + u : Nat) : Int) := by rw [wrap8]; omega
    rw [hw]
    refine ev_to true (ev_ifT (by omega) (ev_some (by simp; omega))) (ev_ifT rfl (ev_ck (inR_of (by omega) (by omega)) (ev_ck (by omega) (ev_some ?_))))
    rw [decDigits, dif_pos h]
    rfl
  | succ k ih =>
    intro u h hm
    refine ev_succ ?_
    simp only [ref01_Format]
    have hw : u < 10 → IntKind.wrap .u8 (48 + (u : Int)) = ((48 + u : Nat) : Int) := fun _ => by rw [wrap8]; omega
    by_cases h10 : u < 10
    · rw [hw h10]
      refine ev_to true (ev_ifT (by omega) (ev_some (by simp; omega))) (ev_ifT rfl (ev_ck (inR_of (by omega) (by omega)) (ev_ck (by omega) (ev_some ?_))))
      rw [decDigits, dif_pos h10]
      rfl
    · have hd : IntKind.wrap .i64 ((u : Int).tdiv 10) = ((u / 10 : Nat) : Int) := by
        have : (u : Int).tdiv 10 = ((u / 10 : Nat) : Int) := by
          rw [Int.tdiv_eq_ediv_of_nonneg (by omega)]; omega
        rw [this]
        simp [IntKind.wrap, IntKind.bits, IntKind.signed]
        omega
      have hmod : (u : Int).tmod 10 = ((u % 10 : Nat) : Int) := by
        rw [Int.tmod_eq_emod_of_nonneg (by omega)]; omega
      refine ev_to false (ev_ifT (by omega) (ev_some (by simp; omega))) (ev_ifF (by simp) ?_)
      refine ev_to false (ev_ifF (by omega) (ev_some rfl)) (ev_ifF (by simp) (ev_ifF (by omega) (ev_ck (by decide) ?_)))
      rw [hd, hmod]
      have i1 := ih (u / 10) (by rw [Nat.pow_succ] at h; omega) (by omega)
      have i2 := ih (u % 10) (by have : 10 ^ 1 ≤ 10 ^ (k + 1) := Nat.pow_le_pow_right (by decide) (by omega); omega) (by omega)
      have e2 : decDigits (u % 10) = [UInt8.ofNat (48 + u % 10)] := by rw [decDigits, dif_pos (by omega)]
      have hl : (decDigits (u / 10)).length ≤ u / 10 + 1 := by
        have : ∀ n v : Nat, v < n → (decDigits v).length ≤ v + 1 := by
          intro n
          induction n with
          | zero => intro v h; omega
          | succ n ihn =>
            intro v hv
            rw [decDigits]
            split
            · simp
            · have := ihn (v / 10) (by omega)
              rw [List.length_append]; simp; omega
        exact this (u / 10 + 1) _ (by omega)
      refine ev_to _ i1 (ev_ck (by decide) (ev_to _ i2 (ev_ck ?_ (ev_some ?_))))
      · rw [e2]; simp only [List.length_cons, List.length_nil]; omega
      · conv => rhs; rw [decDigits, dif_neg h10]
        rw [e2]
theorem ritoa_ev {v : Int} (h0 : 0 ≤ v) (h1 : v ≤ maxN) : Ev2 (fun n _ => ref01_Format n v) (· = itoa v) := by
  obtain ⟨u, rfl⟩ : ∃ u : Nat, v = u := ⟨v.toNat, by omega⟩
  have e : itoa (u : Int) = decDigits u := by unfold itoa; rw [if_neg (by omega)]; simp
  rw [e]
  have : u ≤ 9007199254740992 := by unfold maxN at h1; omega
  exact rformat_ev 15 u (by omega) this

theorem sub_hex : ∀ n : Fin 16, sub hexs ((n.1 : Nat) : Int) (((n.1 : Nat) : Int) + 1) = [hexDigit n.1] := by decide
theorem rdigits_ev (u : Nat) (h : u < 256) : Ev2 (fun n _ => ref02_digits n (u : Int)) (· = hexText u) := by
  have one : ∀ v : Nat, v < 16 → Ev2 (fun n _ => ref02_digits n (v : Int)) (· = [hexDigit v]) := by
    intro v hv
    refine ev_succ ?_
    simp only [ref02_digits]
    have hm : (v : Int).tmod 16 = (v : Int) := by rw [Int.tmod_eq_emod_of_nonneg (by omega)]; omega
    rw [hm]
    refine ev_ck (by decide) (ev_ck (by decide) (ev_ck (inR_of (by omega) (by omega)) (ev_ck (by simp; omega) (ev_ifT (by omega) (ev_some ?_)))))
    exact sub_hex ⟨v, hv⟩
  by_cases h1 : u < 16
  · have e : hexText u = [hexDigit u] := if_pos h1
    rw [e]; exact one u h1
  · have e : hexText u = [hexDigit (u / 16), hexDigit (u % 16)] := if_neg h1
    rw [e]
    refine ev_succ ?_
    simp only [ref02_digits]
    have hm : (u : Int).tmod 16 = ((u % 16 : Nat) : Int) := by rw [Int.tmod_eq_emod_of_nonneg (by omega)]; omega
    have hd : IntKind.wrap .i64 ((u : Int).tdiv 16) = ((u / 16 : Nat) : Int) := by
      have : (u : Int).tdiv 16 = ((u / 16 : Nat) : Int) := by rw [Int.tdiv_eq_ediv_of_nonneg (by omega)]; omega
      rw [this]
      simp [IntKind.wrap, IntKind.bits, IntKind.signed]
      omega
    rw [hm, hd]
    have es : sub ([48, 49, 50, 51, 52, 53, 54, 55, 56, 57, 97, 98, 99, 100, 101, 102] : Bytes) ((u % 16 : Nat) : Int) (((u % 16 : Nat) : Int) + 1) = [hexDigit (u % 16)] := sub_hex ⟨u % 16, by omega⟩
    rw [es]
    refine ev_ck (by decide) (ev_ck (by decide) (ev_ck (inR_of (by omega) (by omega)) (ev_ck (by simp; omega) (ev_ifF (by omega) (ev_ck (by decide) (ev_to _ (one _ (by omega)) (ev_ck (by simp) (ev_some rfl))))))))
theorem resc_ev (b : UInt8) : Ev2 (fun n _ => ref02_escaped n (b.toNat : Int)) (· = escB b) := by
  have hb := b.toNat_lt
  simp only [ref02_escaped]
  refine ev_ite (fun h => ev_some (esc_n (by omega)).symm) (fun h1 => ev_ite (fun h => ev_some (esc_r (by omega)).symm) (fun h2 => ev_ite (fun h => ev_some (esc_t (by omega)).symm) (fun h3 => ev_ite (fun h => ev_some ?_) (fun h4 => ev_ite (fun h => ev_some ?_) (fun h5 => ?_)))))
  · have e : b = 34 := (u8nat (n := 34) (by decide)).1 (by omega)
    rw [e]; rfl
  · have e : b = 92 := (u8nat (n := 92) (by decide)).1 (by omega)
    rw [e]; rfl
  · refine ev_to (decide (b.toNat < 32 ∨ b.toNat = 127)) ?_ ?_
    · by_cases h : b.toNat < 32
      · exact ev_ifT (by omega) (ev_some (by simp [h]))
      · exact ev_ifF (by omega) (ev_some (eqB (by rw [decide_eq_true_eq, decide_eq_true_eq]; omega)))
    · by_cases h6 : b.toNat < 32 ∨ b.toNat = 127
      · rw [esc_u (by omega) (by omega) (by omega) h6]
        have hl := hexText_len b.toNat
        exact ev_ifT (by simp [h6]) (ev_ck (inR_of (by omega) (by omega)) (ev_to _ (rdigits_ev b.toNat (by omega)) (ev_ck (by simp only [List.length_cons, List.length_nil]; omega) (ev_ck (by simp only [List.length_append, List.length_cons, List.length_nil]; omega) (ev_some rfl)))))
      · rw [esc_b (by omega) (by omega) h6]
        refine ev_ifF (by simp only [decide_eq_true_eq]; exact h6) (ev_ck (by omega) (ev_some ?_))
        rw [u8_byt]
theorem rquote_l1 (s : Bytes) (hs : s.length ≤ 1000000) : ∀ (k i : Nat) (f : Bytes), i + k = s.length → f.length ≤ 6 * i + 1 → Ev2 (fun n m => ref02_Quote_l1 n s m f (i : Int)) (· = f ++ (s.drop i).flatMap escB) := by
  intro k
  induction k with
  | zero =>
    intro i f hi hf
    refine ev_round ?_
    simp only [ref02_Quote_l1]
    refine ev_ifF (by omega) (ev_some ?_)
    rw [List.drop_of_length_le (by omega)]; simp
  | succ k ih =>
    intro i f hi hf
    refine ev_round ?_
    simp only [ref02_Quote_l1]
    refine ev_ifT (by omega) (ev_ck (by omega) ?_)
    have hb : byt s i = ((s.getD i 0).toNat : Int) := byt_nat s i
    rw [hb]
    have hd : s.drop i = s.getD i 0 :: s.drop (i + 1) := by
      rw [List.getD_eq_getElem?_getD, List.getElem?_eq_getElem (by omega), Option.getD_some]
      exact List.drop_eq_getElem_cons (by omega)
    rw [hd, List.flatMap_cons]
    have he := escB_len (s.getD i 0)
    generalize s.getD i 0 = b at he ⊢
    refine ev_to _ (resc_ev b) (ev_ck (by omega) (ev_ck (inR_of (by omega) (by omega)) ?_))
    have := ih (i + 1) (f ++ escB b) (by omega) (by rw [List.length_append]; omega)
    rw [Int.natCast_add, Int.natCast_one] at this
    simpa using this
theorem rquote_ev (s : Bytes) (hs : s.length ≤ 1000000) : Ev2 (fun n _ => ref02_Quote n s) (· = quoteP s) := by
  simp only [ref02_Quote]
  have hf := flat_len s
  have l := rquote_l1 s hs s.length 0 [34] (by omega) (by simp)
  rw [List.drop_zero] at l
  refine ev_to _ (ev_loop l) (ev_ck (by simp only [List.length_append, List.length_cons, List.length_nil]; omega) (ev_some ?_))
  simp [quoteP]

theorem rfkey_ev (k : TKey) (hk : k.fStr.length ≤ 1000000) : Ev2 (fun n _ => ref06_FormatKey n k) (· = keyText k) := by
  simp only [ref06_FormatKey]
  unfold keyText
  refine ev_to (decide (keyOk k = false ∨ k.fKind = 0)) ?_ ?_
  · refine ev_to _ (rkey_ev _ hk) ?_
    cases keyOk k with
    | false => exact ev_ifT rfl (ev_some (by simp))
    | true => exact ev_ifF (by simp) (ev_some (by simp))
  · refine ev_ite (fun h => ev_some (by rw [if_pos (of_decide_eq_true h)])) (fun h => ?_)
    have h := fun q => h (decide_eq_true q)
    rw [if_neg h]
    have hko : keyOk k = true := by
      cases hh : keyOk k with
      | true => rfl
      | false => exact absurd (.inl hh) h
    refine ev_ite (fun h1 => ?_) (fun h1 => ?_)
    · rw [if_pos h1]
      have hn := keyOk_num hko h1
      have hl := itoa_len hn.1 hn.2.1
      refine ev_to _ (ritoa_ev hn.1 hn.2.1) (ev_ck (by simp only [List.length_cons, List.length_nil]; omega) (ev_ck (by simp only [List.length_append, List.length_cons, List.length_nil]; omega) (ev_some rfl)))
    · rw [if_neg h1]
      have h2 : k.fKind = 2 := by
        rcases keyOk_kinds hko with q | q | q
        · exact absurd (.inr q) h
        · exact absurd q h1
        · exact q
      have hs := keyOk_str hko h2
      have hl := quote_len k.fStr
      refine ev_to _ (rquote_ev _ (by omega)) (ev_ck (by simp only [List.length_cons, List.length_nil]; omega) (ev_ck (by simp only [List.length_append, List.length_cons, List.length_nil]; omega) (ev_some rfl)))

theorem rsteps_l1 (l : List TModuleStep) (hm : l.length ≤ 16) (ha : ∀ x ∈ l, identB x.fName = true) (hk : ∀ x ∈ l, x.fKey.fStr.length ≤ 100000) : ∀ (k i : Nat) (f : Bytes), i + k = l.length → f.length ≤ 25000 * i → Ev2 (fun n m => ref06_Steps_l1 n l m f (i : Int)) (· = f ++ (l.drop i).flatMap stepText) := by
  intro k
  induction k with
  | zero =>
    intro i f hi hf
    refine ev_round ?_
    simp only [ref06_Steps_l1]
    refine ev_ifF (by omega) (ev_some ?_)
    rw [List.drop_of_length_le (by omega)]; simp
  | succ k ih =>
    intro i f hi hf
    refine ev_round ?_
    simp only [ref06_Steps_l1]
    have hil : i < l.length := by omega
    refine ev_ifT (by omega) (ev_ck (by simp only [List.length_cons, List.length_nil]; omega) (ev_ck (by omega) ?_))
    rw [lat_get _ _ hil, List.drop_eq_getElem_cons hil]
    have hx := ha _ (List.getElem_mem hil)
    have hx2 := hk _ (List.getElem_mem hil)
    generalize l[i] = x at hx hx2 ⊢
    have h1 := identB_len hx
    have h2 := keyText_len x.fKey
    have h3 := stepText_len hx
    refine ev_ck (by simp only [List.length_append, List.length_cons, List.length_nil]; omega) (ev_ck (by omega) (ev_to _ (rfkey_ev x.fKey (by omega)) ?_))
    refine ev_ck (by simp only [List.length_append, List.length_cons, List.length_nil]; omega) (ev_ck (by simp only [List.length_append, List.length_cons, List.length_nil]; omega) (ev_ck (inR_of (by omega) (by omega)) ?_))
    have e : (((f ++ ([109, 111, 100, 117, 108, 101, 46] : Bytes)) ++ x.fName) ++ keyText x.fKey) ++ ([46] : Bytes) = f ++ stepText x := by simp [stepText, modB]
    rw [e]
    have := ih (i + 1) (f ++ stepText x) (by omega) (by rw [List.length_append]; omega)
    rw [Int.natCast_add, Int.natCast_one] at this
    simpa using this
theorem rformatA_ev (a : TAddress) (ha : Sm a) (hk : Sk a) : Ev2 (fun n _ => ref06_Format n a) (· = formatP a) := by
  simp only [ref06_Format, ref06_Steps]
  unfold formatP
  refine ev_to _ (rcheck_ev a ha hk) (ev_ite (fun h => ?_) (fun h => ev_some (by rw [if_neg h])))
  rw [if_pos h]
  obtain ⟨c1, c2, c3, c4, c5⟩ := (checkP_zero a).1 h
  have l := rsteps_l1 a.fModule c1 (fun x hx => (c2 x hx).1) hk.2 a.fModule.length 0 [] (by omega) (by simp)
  have hl := steps_len a.fModule (fun x hx => (c2 x hx).1)
  rw [List.drop_zero, List.nil_append] at l
  refine ev_to _ (ev_to _ (ev_loop l) (ev_some rfl)) ?_
  unfold addrText
  generalize a.fModule.flatMap stepText = st at hl ⊢
  have h1 := identB_len ((kindB_iff _).1 c3).2
  have h2 := identB_len c4
  have h3 := keyText_len a.fKey
  have hd : (if a.fData = true then dataB else ([] : Bytes)).length ≤ 5 := by split <;> simp [dataB]
  refine ev_to (st ++ (if a.fData = true then dataB else [])) ?_ ?_
  · refine ev_ite (fun h => ?_) (fun h => ev_some (by rw [if_neg h]; simp))
    rw [if_pos h]
    exact ev_ck (by simp only [List.length_cons, List.length_nil]; omega) (ev_some (by simp [dataB]))
  · refine ev_ck (by simp only [List.length_append]; omega) (ev_ck (by simp only [List.length_append, List.length_cons, List.length_nil]; omega) (ev_ck (by simp only [List.length_append, List.length_cons, List.length_nil]; omega) (ev_to _ (rfkey_ev a.fKey (by have := hk.1; omega)) (ev_ck (by simp only [List.length_append, List.length_cons, List.length_nil]; omega) (ev_some ?_)))))
    simp
end Go.Ab.R06
