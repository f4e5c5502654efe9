/- Plain facts of the references of the layers 1 and 2. No program in sight. -/
import Derived.Test.YtmdefcidhgbikaaGreatDoorP02
import Derived.Test.YtmdefcidhgbikaaGreatDoorR02r
set_option linter.unusedVariables false
set_option linter.unusedSimpArgs false
set_option linter.unnecessarySimpa false
namespace Go.Ab.R06
open Go.Ab Go.Ab.RB Go.Lib
theorem t31 : (List.range 256).all (fun n => iAnd .u8 (n : Int) 31 == ((n % 32 : Nat) : Int)) = true := by kernel_rfl
theorem t15 : (List.range 256).all (fun n => iAnd .u8 (n : Int) 15 == ((n % 16 : Nat) : Int)) = true := by kernel_rfl
theorem t7 : (List.range 256).all (fun n => iAnd .u8 (n : Int) 7 == ((n % 8 : Nat) : Int)) = true := by kernel_rfl
theorem or64 (a b : Nat) (ha : a < 4611686018427387904) (hb : b < 4611686018427387904) : iOr .i64 (a : Int) (b : Int) = ((a ||| b : Nat) : Int) := by
  have hlt : a ||| b < 4611686018427387904 := Nat.or_lt_two_pow (n := 62) ha hb
  have e1 : (BitVec.ofInt 64 (a : Int)).toNat = a := by
    rw [BitVec.toNat_ofInt]; omega
  have e2 : (BitVec.ofInt 64 (b : Int)).toNat = b := by
    rw [BitVec.toNat_ofInt]; omega
  show IntKind.wrap .i64 (((BitVec.ofInt 64 (a : Int)) ||| (BitVec.ofInt 64 (b : Int))).toNat : Nat) = _
  rw [BitVec.toNat_or, e1, e2]
  simp [IntKind.wrap, IntKind.bits, IntKind.signed]
  omega
theorem orAdd (a b k : Nat) (ha : a * 2 ^ k < 4611686018427387904) (hb : b < 2 ^ k) (hk : k ≤ 20) : iOr .i64 ((a * 2 ^ k : Nat) : Int) (b : Int) = ((a * 2 ^ k + b : Nat) : Int) := by
  have hp : 2 ^ k ≤ 2 ^ 20 := Nat.pow_le_pow_right (by decide) hk
  have h20 : (2 : Nat) ^ 20 = 1048576 := rfl
  rw [or64 _ _ ha (by omega)]
  have := Nat.shiftLeft_add_eq_or_of_lt hb a
  rw [Nat.shiftLeft_eq] at this
  rw [← this]
theorem shl64 (a k : Nat) (hk : k ≤ 20) (ha : a * 2 ^ k < 4611686018427387904) : iShl .i64 (a : Int) (k : Int) = ((a * 2 ^ k : Nat) : Int) := by
  have : min (k : Int).toNat IntKind.i64.bits = k := by
    have : IntKind.i64.bits = 64 := rfl
    rw [this]; omega
  unfold iShl
  rw [this]
  have e : (a : Int) * 2 ^ k = ((a * 2 ^ k : Nat) : Int) := by push_cast; rfl
  rw [e]
  generalize a * 2 ^ k = v at ha
  simp [IntKind.wrap, IntKind.bits, IntKind.signed]
  omega
def refD (l : Bytes) : Int × Int := if (decodeL l).1 = 65533 ∧ (decodeL l).2 = 1 then (0, 0) else (((decodeL l).1 : Int), ((decodeL l).2 : Int))
theorem cont_eq (s : Bytes) (j : Nat) (lo hi : Int) : ref02_cont s (j : Int) lo hi = some (decide (j < s.length ∧ lo ≤ ((s.getD j 0).toNat : Int) ∧ ((s.getD j 0).toNat : Int) ≤ hi)) := by
  unfold ref02_cont
  have hb : byt s (j : Int) = ((s.getD j 0).toNat : Int) := byt_nat s j
  rw [hb]
  by_cases h : j < s.length
  · rw [if_pos (by omega), ck_pos (by omega)]
    by_cases h2 : lo ≤ ((s.getD j 0).toNat : Int)
    · rw [if_pos h2, ck_pos (by omega)]
      refine congrArg some (eqB ?_)
      rw [decide_eq_true_eq, decide_eq_true_eq]
      exact ⟨fun q => ⟨h, h2, q⟩, fun q => q.2.2⟩
    · rw [if_neg h2, Option.bind_some]
      symm; rw [Option.some.injEq, decide_eq_false_iff_not]
      exact fun q => h2 q.2.1
  · rw [if_neg (by omega)]; simp [h]
set_option maxHeartbeats 8000000 in
theorem decode_ref (s : Bytes) (i : Nat) (hi : i < s.length) (hs : s.length ≤ 1000000) : ref02_Decode s (i : Int) = some (refD (s.drop i)) := by
  have hg : ∀ k, (s.drop i).getD k 0 = s.getD (i + k) 0 := fun k => by
    rw [List.getD_eq_getElem?_getD, List.getElem?_drop, List.getD_eq_getElem?_getD]
  unfold ref02_Decode refD
  rw [decodeL_N, hg, hg, hg, hg, Nat.add_zero, List.length_drop]
  have b : ∀ k : Nat, byt s ((i : Int) + k) = ((s.getD (i + k) 0).toNat : Int) := fun k => by
    rw [show (i : Int) + (k : Int) = ((i + k : Nat) : Int) by omega]; exact byt_nat s (i + k)
  have c : ∀ (k : Nat) lo hi, ref02_cont s ((i : Int) + k) lo hi = some (decide (k < s.length - i ∧ lo ≤ ((s.getD (i + k) 0).toNat : Int) ∧ ((s.getD (i + k) 0).toNat : Int) ≤ hi)) := fun k lo hi => by
    rw [show (i : Int) + (k : Int) = ((i + k : Nat) : Int) by omega, cont_eq]
    refine congrArg some (eqB ?_)
    rw [decide_eq_true_eq, decide_eq_true_eq]
    constructor
    · rintro ⟨h1, h2⟩; exact ⟨by omega, h2⟩
    · rintro ⟨h1, h2⟩; exact ⟨by omega, h2⟩
  have b0 : byt s (i : Int) = ((s.getD i 0).toNat : Int) := byt_nat s i
  have b1 : byt s ((i : Int) + 1) = ((s.getD (i + 1) 0).toNat : Int) := b 1
  have b2 : byt s ((i : Int) + 2) = ((s.getD (i + 2) 0).toNat : Int) := b 2
  have b3 : byt s ((i : Int) + 3) = ((s.getD (i + 3) 0).toNat : Int) := b 3
  have c1 : ∀ lo hi, ref02_cont s ((i : Int) + 1) lo hi = _ := c 1
  have c2 : ∀ lo hi, ref02_cont s ((i : Int) + 2) lo hi = _ := c 2
  have c3 : ∀ lo hi, ref02_cont s ((i : Int) + 3) lo hi = _ := c 3
  simp only [b0, b1, b2, b3, c1, c2, c3]
  obtain ⟨n, hn⟩ : ∃ n, s.length = i + n := ⟨s.length - i, by omega⟩
  have hn1 : s.length - i = n := by omega
  have hlen : (s.length : Int) = (i : Int) + n := by omega
  rw [hn1, hlen]
  have l0 := (s.getD i 0).toNat_lt
  have l1 := (s.getD (i + 1) 0).toNat_lt
  have l2 := (s.getD (i + 2) 0).toNat_lt
  have l3 := (s.getD (i + 3) 0).toNat_lt
  generalize (s.getD i 0).toNat = B0 at l0 ⊢
  generalize (s.getD (i + 1) 0).toNat = B1 at l1 ⊢
  generalize (s.getD (i + 2) 0).toNat = B2 at l2 ⊢
  generalize (s.getD (i + 3) 0).toNat = B3 at l3 ⊢
  have hnp : 0 < n := by omega
  have hnb : n ≤ 1000000 := by omega
  have hib : i ≤ 1000000 := by omega
  clear hg b c b0 b1 b2 b3 c1 c2 c3 hn1 hlen hn hi hs
  have a31 : iAnd .u8 (B0 : Int) 31 = ((B0 % 32 : Nat) : Int) := tab t31 B0 (by omega)
  have a15 : iAnd .u8 (B0 : Int) 15 = ((B0 % 16 : Nat) : Int) := tab t15 B0 (by omega)
  have a7 : iAnd .u8 (B0 : Int) 7 = ((B0 % 8 : Nat) : Int) := tab t7 B0 (by omega)
  have a1 : iAnd .u8 (B1 : Int) 63 = ((B1 % 64 : Nat) : Int) := tab t63 B1 (by omega)
  have a2 : iAnd .u8 (B2 : Int) 63 = ((B2 % 64 : Nat) : Int) := tab t63 B2 (by omega)
  have a3 : iAnd .u8 (B3 : Int) 63 = ((B3 % 64 : Nat) : Int) := tab t63 B3 (by omega)
  have two : iOr .i64 (iShl .i64 ((B0 % 32 : Nat) : Int) 6) ((B1 % 64 : Nat) : Int) = ((B0 % 32 * 64 + B1 % 64 : Nat) : Int) := by
    have h1 : iShl .i64 ((B0 % 32 : Nat) : Int) 6 = ((B0 % 32 * 2 ^ 6 : Nat) : Int) := shl64 _ 6 (by decide) (by omega)
    rw [h1]
    exact orAdd _ _ 6 (by omega) (by omega) (by decide)
  have three : iOr .i64 (iOr .i64 (iShl .i64 ((B0 % 16 : Nat) : Int) 12) (iShl .i64 ((B1 % 64 : Nat) : Int) 6)) ((B2 % 64 : Nat) : Int) = ((B0 % 16 * 4096 + B1 % 64 * 64 + B2 % 64 : Nat) : Int) := by
    have h1 : iShl .i64 ((B0 % 16 : Nat) : Int) 12 = ((B0 % 16 * 2 ^ 12 : Nat) : Int) := shl64 _ 12 (by decide) (by omega)
    have h2 : iShl .i64 ((B1 % 64 : Nat) : Int) 6 = ((B1 % 64 * 2 ^ 6 : Nat) : Int) := shl64 _ 6 (by decide) (by omega)
    have h3 := orAdd (B0 % 16) (B1 % 64 * 2 ^ 6) 12 (by omega) (by omega) (by decide)
    have h4 := orAdd (B0 % 16 * 64 + B1 % 64) (B2 % 64) 6 (by omega) (by omega) (by decide)
    rw [h1, h2, h3, show B0 % 16 * 2 ^ 12 + B1 % 64 * 2 ^ 6 = (B0 % 16 * 64 + B1 % 64) * 2 ^ 6 by omega, h4]
  have four : iOr .i64 (iOr .i64 (iOr .i64 (iShl .i64 ((B0 % 8 : Nat) : Int) 18) (iShl .i64 ((B1 % 64 : Nat) : Int) 12)) (iShl .i64 ((B2 % 64 : Nat) : Int) 6)) ((B3 % 64 : Nat) : Int) = ((B0 % 8 * 262144 + B1 % 64 * 4096 + B2 % 64 * 64 + B3 % 64 : Nat) : Int) := by
    have h1 : iShl .i64 ((B0 % 8 : Nat) : Int) 18 = ((B0 % 8 * 2 ^ 18 : Nat) : Int) := shl64 _ 18 (by decide) (by omega)
    have h2 : iShl .i64 ((B1 % 64 : Nat) : Int) 12 = ((B1 % 64 * 2 ^ 12 : Nat) : Int) := shl64 _ 12 (by decide) (by omega)
    have h2' : iShl .i64 ((B2 % 64 : Nat) : Int) 6 = ((B2 % 64 * 2 ^ 6 : Nat) : Int) := shl64 _ 6 (by decide) (by omega)
    have h3 := orAdd (B0 % 8) (B1 % 64 * 2 ^ 12) 18 (by omega) (by omega) (by decide)
    have h4 := orAdd (B0 % 8 * 64 + B1 % 64) (B2 % 64 * 2 ^ 6) 12 (by omega) (by omega) (by decide)
    have h5 := orAdd (B0 % 8 * 4096 + B1 % 64 * 64 + B2 % 64) (B3 % 64) 6 (by omega) (by omega) (by decide)
    rw [h1, h2, h2', h3, show B0 % 8 * 2 ^ 18 + B1 % 64 * 2 ^ 12 = (B0 % 8 * 64 + B1 % 64) * 2 ^ 12 by omega, h4, show (B0 % 8 * 64 + B1 % 64) * 2 ^ 12 + B2 % 64 * 2 ^ 6 = (B0 % 8 * 4096 + B1 % 64 * 64 + B2 % 64) * 2 ^ 6 by omega, h5]
  rw [a31, a15, a7, a1, a2, a3, two, three, four]
  have i1 : inR ((i : Int) + 1) := inR_of (by omega) (by omega)
  have i2 : inR ((i : Int) + 2) := inR_of (by omega) (by omega)
  have i3 : inR ((i : Int) + 3) := inR_of (by omega) (by omega)
  have e0 : ((if (i : Int) < 0 then some true else some (decide ((i : Int) + n ≤ i))) : Option Bool) = some false := by
    rw [if_neg (by omega)]; simp; omega
  rw [e0, Option.bind_some, if_neg (by simp), ck_pos (by omega)]
  unfold decodeN
  by_cases h0 : B0 < 128
  · rw [if_pos (show (B0 : Int) < 128 by omega), ck_pos (inR_of (by omega) (by omega)), if_pos h0]
    simp only
    rw [if_neg (by omega)]; rfl
  rw [if_neg (show ¬ (B0 : Int) < 128 by omega), if_neg h0]
  have e12 : ((if 194 ≤ (B0 : Int) then if (B0 : Int) ≤ 223 then ck (inR ((i : Int) + 1)) <| (some (decide (1 < n ∧ (128 : Int) ≤ (B1 : Int) ∧ (B1 : Int) ≤ 191))).bind fun r10 => some r10 else some false else some false) : Option Bool) = some (decide (194 ≤ B0 ∧ B0 ≤ 223 ∧ 1 < n ∧ 128 ≤ B1 ∧ B1 ≤ 191)) := by
    by_cases q1 : 194 ≤ B0
    · rw [if_pos (by omega)]
      by_cases q2 : B0 ≤ 223
      · rw [if_pos (by omega), ck_pos i1, Option.bind_some]
        refine congrArg some (eqB ?_)
        rw [decide_eq_true_eq, decide_eq_true_eq]; omega
      · rw [if_neg (by omega)]; simp; omega
    · rw [if_neg (by omega)]; simp; omega
  rw [e12, Option.bind_some]
  by_cases h12 : 194 ≤ B0 ∧ B0 ≤ 223 ∧ 1 < n ∧ 128 ≤ B1 ∧ B1 ≤ 191
  · rw [if_pos (by simp only [decide_eq_true_eq]; exact h12), ck_pos (inR_of (by omega) (by omega)), ck_pos (by omega), ck_pos i1, ck_pos (by omega), ck_pos (inR_of (by omega) (by omega))]
    rw [if_pos (show B0 / 32 = 6 ∧ 1 < n ∧ B1 / 64 = 2 by omega), if_pos (show B0 % 32 * 64 + B1 % 64 ≥ 128 by omega)]
    show some _ = some (if B0 % 32 * 64 + B1 % 64 = 65533 ∧ _ then _ else _)
    rw [if_neg (by omega)]; rfl
  rw [if_neg (by simp only [decide_eq_true_eq]; exact h12)]
  have hlo : ((if (B0 : Int) = 224 then some 160 else some 128) : Option Int) = some (if B0 = 224 then 160 else 128) := by
    by_cases q : B0 = 224
    · rw [if_pos (by omega), if_pos q]
    · rw [if_neg (by omega), if_neg q]
  have hhi : ((if (B0 : Int) = 237 then some 159 else some 191) : Option Int) = some (if B0 = 237 then 159 else 191) := by
    by_cases q : B0 = 237
    · rw [if_pos (by omega), if_pos q]
    · rw [if_neg (by omega), if_neg q]
  have hlo4 : ((if (B0 : Int) = 240 then some 144 else some 128) : Option Int) = some (if B0 = 240 then 144 else 128) := by
    by_cases q : B0 = 240
    · rw [if_pos (by omega), if_pos q]
    · rw [if_neg (by omega), if_neg q]
  have hhi4 : ((if (B0 : Int) = 244 then some 143 else some 191) : Option Int) = some (if B0 = 244 then 143 else 191) := by
    by_cases q : B0 = 244
    · rw [if_pos (by omega), if_pos q]
    · rw [if_neg (by omega), if_neg q]
  rw [hlo, Option.bind_some, hhi, Option.bind_some]
  have e32 : ∀ lo hi : Int, ((if 224 ≤ (B0 : Int) then if (B0 : Int) ≤ 239 then ck (inR ((i : Int) + 1)) <| (some (decide (1 < n ∧ lo ≤ (B1 : Int) ∧ (B1 : Int) ≤ hi))).bind fun r26 => if r26 = true then ck (inR ((i : Int) + 2)) <| (some (decide (2 < n ∧ (128 : Int) ≤ (B2 : Int) ∧ (B2 : Int) ≤ 191))).bind fun r30 => some r30 else some false else some false else some false) : Option Bool)
      = some (decide (224 ≤ B0 ∧ B0 ≤ 239 ∧ (1 < n ∧ lo ≤ (B1 : Int) ∧ (B1 : Int) ≤ hi) ∧ 2 < n ∧ 128 ≤ B2 ∧ B2 ≤ 191)) := by
    intro lo hi
    by_cases q1 : 224 ≤ B0
    · rw [if_pos (by omega)]
      by_cases q2 : B0 ≤ 239
      · rw [if_pos (by omega), ck_pos i1, Option.bind_some]
        by_cases q3 : 1 < n ∧ lo ≤ (B1 : Int) ∧ (B1 : Int) ≤ hi
        · rw [if_pos (by simp only [decide_eq_true_eq]; exact q3), ck_pos i2, Option.bind_some]
          refine congrArg some (eqB ?_)
          rw [decide_eq_true_eq, decide_eq_true_eq]
          constructor
          · intro q; exact ⟨q1, q2, q3, by omega⟩
          · intro q; have := q.2.2.2; omega
        · rw [if_neg (by simp only [decide_eq_true_eq]; exact q3)]
          symm; rw [Option.some.injEq, decide_eq_false_iff_not]
          intro q; exact q3 q.2.2.1
      · rw [if_neg (by omega)]
        symm; rw [Option.some.injEq, decide_eq_false_iff_not]
        intro q; exact q2 q.2.1
    · rw [if_neg (by omega)]
      symm; rw [Option.some.injEq, decide_eq_false_iff_not]
      intro q; exact q1 q.1
  rw [e32, Option.bind_some]
  by_cases h32 : 224 ≤ B0 ∧ B0 ≤ 239 ∧ (1 < n ∧ (if B0 = 224 then 160 else 128) ≤ (B1 : Int) ∧ (B1 : Int) ≤ (if B0 = 237 then 159 else 191)) ∧ 2 < n ∧ 128 ≤ B2 ∧ B2 ≤ 191
  · rw [if_pos (by simp only [decide_eq_true_eq]; exact h32)]
    obtain ⟨k1, k2, ⟨k3, k4, k5⟩, k6, k7, k8⟩ := h32
    have k4' : 128 ≤ B1 ∧ (B0 = 224 → 160 ≤ B1) := by split at k4 <;> omega
    have k5' : B1 ≤ 191 ∧ (B0 = 237 → B1 ≤ 159) := by split at k5 <;> omega
    clear k4 k5
    repeat rw [ck_pos (by first | exact i1 | exact i2 | omega | exact inR_of (by omega) (by omega))]
    rw [if_neg (show ¬ (B0 / 32 = 6 ∧ 1 < n ∧ B1 / 64 = 2) by omega), if_pos (show B0 / 16 = 14 ∧ (1 < n ∧ B1 / 64 = 2) ∧ 2 < n ∧ B2 / 64 = 2 by omega), if_pos (show B0 % 16 * 4096 + B1 % 64 * 64 + B2 % 64 ≥ 2048 ∧ (B0 % 16 * 4096 + B1 % 64 * 64 + B2 % 64 < 55296 ∨ 57344 ≤ B0 % 16 * 4096 + B1 % 64 * 64 + B2 % 64 ∧ B0 % 16 * 4096 + B1 % 64 * 64 + B2 % 64 ≤ 1114111) by omega)]
    show some _ = some (if B0 % 16 * 4096 + B1 % 64 * 64 + B2 % 64 = 65533 ∧ (3 : Nat) = 1 then _ else _)
    rw [if_neg (by omega)]; rfl
  rw [if_neg (by simp only [decide_eq_true_eq]; exact h32)]
  rw [hlo4, Option.bind_some, hhi4, Option.bind_some]
  have h32' : ¬ (224 ≤ B0 ∧ B0 ≤ 239 ∧ 1 < n ∧ (B0 = 224 → 160 ≤ B1) ∧ 128 ≤ B1 ∧ B1 ≤ 191 ∧ (B0 = 237 → B1 ≤ 159) ∧ 2 < n ∧ 128 ≤ B2 ∧ B2 ≤ 191) := by
    rintro ⟨k1, k2, k3, k4, k5, k6, k7, k8⟩
    exact h32 ⟨k1, k2, ⟨k3, by split <;> omega, by split <;> omega⟩, k8⟩
  clear h32 e32
  have e60 : ∀ lo hi : Int, ((if 240 ≤ (B0 : Int) then if (B0 : Int) ≤ 244 then ck (inR ((i : Int) + 1)) <| (some (decide (1 < n ∧ lo ≤ (B1 : Int) ∧ (B1 : Int) ≤ hi))).bind fun r50 => if r50 = true then ck (inR ((i : Int) + 2)) <| (some (decide (2 < n ∧ (128 : Int) ≤ (B2 : Int) ∧ (B2 : Int) ≤ 191))).bind fun r54 => if r54 = true then ck (inR ((i : Int) + 3)) <| (some (decide (3 < n ∧ (128 : Int) ≤ (B3 : Int) ∧ (B3 : Int) ≤ 191))).bind fun r58 => some r58 else some false else some false else some false else some false) : Option Bool)
      = some (decide (240 ≤ B0 ∧ B0 ≤ 244 ∧ (1 < n ∧ lo ≤ (B1 : Int) ∧ (B1 : Int) ≤ hi) ∧ (2 < n ∧ 128 ≤ B2 ∧ B2 ≤ 191) ∧ 3 < n ∧ 128 ≤ B3 ∧ B3 ≤ 191)) := by
    intro lo hi
    by_cases q1 : 240 ≤ B0
    · rw [if_pos (by omega)]
      by_cases q2 : B0 ≤ 244
      · rw [if_pos (by omega), ck_pos i1, Option.bind_some]
        by_cases q3 : 1 < n ∧ lo ≤ (B1 : Int) ∧ (B1 : Int) ≤ hi
        · rw [if_pos (by simp only [decide_eq_true_eq]; exact q3), ck_pos i2, Option.bind_some]
          by_cases q4 : 2 < n ∧ 128 ≤ B2 ∧ B2 ≤ 191
          · rw [if_pos (by simp only [decide_eq_true_eq]; omega), ck_pos i3, Option.bind_some]
            refine congrArg some (eqB ?_)
            rw [decide_eq_true_eq, decide_eq_true_eq]
            constructor
            · intro q; exact ⟨q1, q2, q3, q4, by omega⟩
            · intro q; have := q.2.2.2.2; omega
          · rw [if_neg (by simp only [decide_eq_true_eq]; omega)]
            symm; rw [Option.some.injEq, decide_eq_false_iff_not]
            intro q; exact q4 q.2.2.2.1
        · rw [if_neg (by simp only [decide_eq_true_eq]; exact q3)]
          symm; rw [Option.some.injEq, decide_eq_false_iff_not]
          intro q; exact q3 q.2.2.1
      · rw [if_neg (by omega)]
        symm; rw [Option.some.injEq, decide_eq_false_iff_not]
        intro q; exact q2 q.2.1
    · rw [if_neg (by omega)]
      symm; rw [Option.some.injEq, decide_eq_false_iff_not]
      intro q; exact q1 q.1
  rw [e60, Option.bind_some]
  by_cases h60 : 240 ≤ B0 ∧ B0 ≤ 244 ∧ (1 < n ∧ (if B0 = 240 then 144 else 128) ≤ (B1 : Int) ∧ (B1 : Int) ≤ (if B0 = 244 then 143 else 191)) ∧ (2 < n ∧ 128 ≤ B2 ∧ B2 ≤ 191) ∧ 3 < n ∧ 128 ≤ B3 ∧ B3 ≤ 191
  · rw [if_pos (by simp only [decide_eq_true_eq]; exact h60)]
    obtain ⟨k1, k2, ⟨k3, k4, k5⟩, ⟨k6, k7, k8⟩, k9, k10, k11⟩ := h60
    have k4' : 128 ≤ B1 ∧ (B0 = 240 → 144 ≤ B1) := by split at k4 <;> omega
    have k5' : B1 ≤ 191 ∧ (B0 = 244 → B1 ≤ 143) := by split at k5 <;> omega
    clear k4 k5
    repeat rw [ck_pos (by first | exact i1 | exact i2 | exact i3 | omega | exact inR_of (by omega) (by omega))]
    rw [if_neg (show ¬ (B0 / 32 = 6 ∧ 1 < n ∧ B1 / 64 = 2) by omega), if_neg (show ¬ (B0 / 16 = 14 ∧ (1 < n ∧ B1 / 64 = 2) ∧ 2 < n ∧ B2 / 64 = 2) by omega), if_pos (show B0 / 8 = 30 ∧ (1 < n ∧ B1 / 64 = 2) ∧ (2 < n ∧ B2 / 64 = 2) ∧ 3 < n ∧ B3 / 64 = 2 by omega)]
    generalize hv : B0 % 8 * 262144 + B1 % 64 * 4096 + B2 % 64 * 64 + B3 % 64 = v
    rw [if_pos (show v ≥ 65536 ∧ (v < 55296 ∨ 57344 ≤ v ∧ v ≤ 1114111) by omega)]
    show some _ = some (if v = 65533 ∧ (4 : Nat) = 1 then _ else _)
    rw [if_neg (by omega)]; rfl
  rw [if_neg (by simp only [decide_eq_true_eq]; exact h60)]
  have h60' : ¬ (240 ≤ B0 ∧ B0 ≤ 244 ∧ 1 < n ∧ (B0 = 240 → 144 ≤ B1) ∧ 128 ≤ B1 ∧ B1 ≤ 191 ∧ (B0 = 244 → B1 ≤ 143) ∧ 2 < n ∧ 128 ≤ B2 ∧ B2 ≤ 191 ∧ 3 < n ∧ 128 ≤ B3 ∧ B3 ≤ 191) := by
    rintro ⟨k1, k2, k3, k4, k5, k6, k7, k8, k9, k10, k11⟩
    exact h60 ⟨k1, k2, ⟨k3, by split <;> omega, by split <;> omega⟩, ⟨k8, k9, k10⟩, k11⟩
  clear h60 e60
  symm
  refine congrArg some (if_pos ?_)
  repeat' split
  all_goals first | exact ⟨rfl, rfl⟩ | (exfalso; omega)
theorem rvalid_l1 (s : Bytes) (hs : s.length ≤ 1000000) : ∀ (k i : Nat), s.length - i < k → i ≤ s.length → Ev2 (fun _ m => ref02_Valid_l1 s m (i : Int)) (· = if validD (s.drop i) = true then .inl () else .inr false) := by
  intro k
  induction k with
  | zero => intro i h; omega
  | succ k ih =>
    intro i hk hi
    refine ev_round ?_
    simp only [ref02_Valid_l1]
    by_cases h : i < s.length
    · have hne : s.drop i ≠ [] := by intro q; have := congrArg List.length q; rw [List.length_drop] at this; simp at this; omega
      refine ev_ifT (by omega) (ev_to _ (ev_const (decode_ref s i h hs) rfl) ?_)
      have hv := valid_take _ hne
      have hdf := dec_facts _ hne
      rw [List.length_drop] at hdf
      unfold refD
      by_cases q : (decodeL (s.drop i)).1 = 65533 ∧ (decodeL (s.drop i)).2 = 1
      · rw [if_pos q]
        refine ev_ifT rfl (ev_some ?_)
        rw [if_neg (fun z => ((hv.1 z).1 q))]
      · rw [if_neg q]
        refine ev_ifF (by simp only; omega) (ev_ck (inR_of (by simp only; omega) (by simp only; omega)) ?_)
        have := ih (i + (decodeL (s.drop i)).2) (by omega) (by omega)
        rw [Int.natCast_add] at this
        refine ev_mono this fun r hr => ?_
        rw [hr, ← List.drop_drop]
        by_cases z : validD ((s.drop i).drop (decodeL (s.drop i)).2) = true
        · rw [if_pos z, if_pos (hv.2 ⟨q, z⟩)]
        · rw [if_neg z, if_neg (fun y => z (hv.1 y).2)]
    · refine ev_ifF (by omega) (ev_some ?_)
      rw [List.drop_of_length_le (by omega), if_pos validD_nil]
theorem rvalid_ev (s : Bytes) (hs : s.length ≤ 1000000) : Ev2 (fun n _ => ref02_Valid n s) (· = (decide (s.length ≤ 4096) && validD s)) := by
  simp only [ref02_Valid]
  refine ev_ite (fun h => ev_some ?_) (fun h => ?_)
  · have : ¬ s.length ≤ 4096 := by omega
    simp [this]
  · have h' : s.length ≤ 4096 := by omega
    have l := rvalid_l1 s hs (s.length + 1) 0 (by omega) (by omega)
    rw [List.drop_zero] at l
    cases hv : validD s with
    | true => rw [hv] at l; exact ev_jnL () (ev_loop l) (ev_some (by simp [h']))
    | false => rw [hv] at l; exact ev_jnR false (ev_loop l) (by simp)
theorem rformat_ev : ∀ (k u : Nat), u < 10 ^ (k + 1) → u ≤ 9007199254740992 → Ev2 (fun n _ => ref01_Format n (u : Int)) (· = decDigits u) := by
  intro k
  induction k with
  | zero =>
    intro u h _
    have h : u < 10 := by simpa using h
    refine ev_succ ?_
    simp only [ref01_Format]
    have hw : IntKind.wrap .u8 (48 + (u : Int)) = ((48 + u : Nat) : Int) := by rw [wrap8]; omega
    rw [hw]
    refine ev_to true (ev_ifT (by omega) (ev_some (by simp; omega))) (ev_ifT rfl (ev_ck (inR_of (by omega) (by omega)) (ev_ck (by omega) (ev_some ?_))))
    rw [decDigits, dif_pos h]
    rfl
  | succ k ih =>
    intro u h hm
    refine ev_succ ?_
    simp only [ref01_Format]
    have hw : u < 10 → IntKind.wrap .u8 (48 + (u : Int)) = ((48 + u : Nat) : Int) := fun _ => by rw [wrap8]; omega
    by_cases h10 : u < 10
    · rw [hw h10]
      refine ev_to true (ev_ifT (by omega) (ev_some (by simp; omega))) (ev_ifT rfl (ev_ck (inR_of (by omega) (by omega)) (ev_ck (by omega) (ev_some ?_))))
      rw [decDigits, dif_pos h10]
      rfl
    · have hd : IntKind.wrap .i64 ((u : Int).tdiv 10) = ((u / 10 : Nat) : Int) := by
        have : (u : Int).tdiv 10 = ((u / 10 : Nat) : Int) := by
          rw [Int.tdiv_eq_ediv_of_nonneg (by omega)]; omega
        rw [this]
        simp [IntKind.wrap, IntKind.bits, IntKind.signed]
        omega
      have hmod : (u : Int).tmod 10 = ((u % 10 : Nat) : Int) := by
        rw [Int.tmod_eq_emod_of_nonneg (by omega)]; omega
      refine ev_to false (ev_ifT (by omega) (ev_some (by simp; omega))) (ev_ifF (by simp) ?_)
      refine ev_to false (ev_ifF (by omega) (ev_some rfl)) (ev_ifF (by simp) (ev_ifF (by omega) (ev_ck (by decide) ?_)))
      rw [hd, hmod]
      have i1 := ih (u / 10) (by rw [Nat.pow_succ] at h; omega) (by omega)
      have i2 := ih (u % 10) (by have : 10 ^ 1 ≤ 10 ^ (k + 1) := Nat.pow_le_pow_right (by decide) (by omega); omega) (by omega)
      have e2 : decDigits (u % 10) = [UInt8.ofNat (48 + u % 10)] := by rw [decDigits, dif_pos (by omega)]
      have hl : (decDigits (u / 10)).length ≤ u / 10 + 1 := by
        have : ∀ n v : Nat, v < n → (decDigits v).length ≤ v + 1 := by
          intro n
          induction n with
          | zero => intro v h; omega
          | succ n ihn =>
            intro v hv
            rw [decDigits]
            split
            · simp
            · have := ihn (v / 10) (by omega)
              rw [List.length_append]; simp; omega
        exact this (u / 10 + 1) _ (by omega)
      refine ev_to _ i1 (ev_ck (by decide) (ev_to _ i2 (ev_ck ?_ (ev_some ?_))))
      · rw [e2]; simp only [List.length_cons, List.length_nil]; omega
      · conv => rhs; rw [decDigits, dif_neg h10]
        rw [e2]
theorem ritoa_ev {v : Int} (h0 : 0 ≤ v) (h1 : v ≤ maxN) : Ev2 (fun n _ => ref01_Format n v) (· = itoa v) := by
  obtain ⟨u, rfl⟩ : ∃ u : Nat, v = u := ⟨v.toNat, by omega⟩
  have e : itoa (u : Int) = decDigits u := by unfold itoa; rw [if_neg (by omega)]; simp
  rw [e]
  have : u ≤ 9007199254740992 := by unfold maxN at h1; omega
  exact rformat_ev 15 u (by omega) this
theorem sub_hex : ∀ n : Fin 16, sub hexs ((n.1 : Nat) : Int) (((n.1 : Nat) : Int) + 1) = [hexDigit n.1] := by decide
theorem rdigits_ev (u : Nat) (h : u < 256) : Ev2 (fun n _ => ref02_digits n (u : Int)) (· = hexText u) := by
  have one : ∀ v : Nat, v < 16 → Ev2 (fun n _ => ref02_digits n (v : Int)) (· = [hexDigit v]) := by
    intro v hv
    refine ev_succ ?_
    simp only [ref02_digits]
    have hm : (v : Int).tmod 16 = (v : Int) := by rw [Int.tmod_eq_emod_of_nonneg (by omega)]; omega
    rw [hm]
    refine ev_ck (by decide) (ev_ck (by decide) (ev_ck (inR_of (by omega) (by omega)) (ev_ck (by simp; omega) (ev_ifT (by omega) (ev_some ?_)))))
    exact sub_hex ⟨v, hv⟩
  by_cases h1 : u < 16
  · have e : hexText u = [hexDigit u] := if_pos h1
    rw [e]; exact one u h1
  · have e : hexText u = [hexDigit (u / 16), hexDigit (u % 16)] := if_neg h1
    rw [e]
    refine ev_succ ?_
    simp only [ref02_digits]
    have hm : (u : Int).tmod 16 = ((u % 16 : Nat) : Int) := by rw [Int.tmod_eq_emod_of_nonneg (by omega)]; omega
    have hd : IntKind.wrap .i64 ((u : Int).tdiv 16) = ((u / 16 : Nat) : Int) := by
      have : (u : Int).tdiv 16 = ((u / 16 : Nat) : Int) := by rw [Int.tdiv_eq_ediv_of_nonneg (by omega)]; omega
      rw [this]
      simp [IntKind.wrap, IntKind.bits, IntKind.signed]
      omega
    rw [hm, hd]
    have es : sub ([48, 49, 50, 51, 52, 53, 54, 55, 56, 57, 97, 98, 99, 100, 101, 102] : Bytes) ((u % 16 : Nat) : Int) (((u % 16 : Nat) : Int) + 1) = [hexDigit (u % 16)] := sub_hex ⟨u % 16, by omega⟩
    rw [es]
    refine ev_ck (by decide) (ev_ck (by decide) (ev_ck (inR_of (by omega) (by omega)) (ev_ck (by simp; omega) (ev_ifF (by omega) (ev_ck (by decide) (ev_to _ (one _ (by omega)) (ev_ck (by simp) (ev_some rfl))))))))
theorem resc_ev (b : UInt8) : Ev2 (fun n _ => ref02_escaped n (b.toNat : Int)) (· = escB b) := by
  have hb := b.toNat_lt
  simp only [ref02_escaped]
  refine ev_ite (fun h => ev_some (esc_n (by omega)).symm) (fun h1 => ev_ite (fun h => ev_some (esc_r (by omega)).symm) (fun h2 => ev_ite (fun h => ev_some (esc_t (by omega)).symm) (fun h3 => ev_ite (fun h => ev_some ?_) (fun h4 => ev_ite (fun h => ev_some ?_) (fun h5 => ?_)))))
  · have e : b = 34 := (u8nat (n := 34) (by decide)).1 (by omega)
    rw [e]; rfl
  · have e : b = 92 := (u8nat (n := 92) (by decide)).1 (by omega)
    rw [e]; rfl
  · refine ev_to (decide (b.toNat < 32 ∨ b.toNat = 127)) ?_ ?_
    · by_cases h : b.toNat < 32
      · exact ev_ifT (by omega) (ev_some (by simp [h]))
      · exact ev_ifF (by omega) (ev_some (eqB (by rw [decide_eq_true_eq, decide_eq_true_eq]; omega)))
    · by_cases h6 : b.toNat < 32 ∨ b.toNat = 127
      · rw [esc_u (by omega) (by omega) (by omega) h6]
        have hl := hexText_len b.toNat
        exact ev_ifT (by simp [h6]) (ev_ck (inR_of (by omega) (by omega)) (ev_to _ (rdigits_ev b.toNat (by omega)) (ev_ck (by simp only [List.length_cons, List.length_nil]; omega) (ev_ck (by simp only [List.length_append, List.length_cons, List.length_nil]; omega) (ev_some rfl)))))
      · rw [esc_b (by omega) (by omega) h6]
        refine ev_ifF (by simp only [decide_eq_true_eq]; exact h6) (ev_ck (by omega) (ev_some ?_))
        rw [u8_byt]
theorem rquote_l1 (s : Bytes) (hs : s.length ≤ 1000000) : ∀ (k i : Nat) (f : Bytes), i + k = s.length → f.length ≤ 6 * i + 1 → Ev2 (fun n m => ref02_Quote_l1 n s m f (i : Int)) (· = f ++ (s.drop i).flatMap escB) := by
  intro k
  induction k with
  | zero =>
    intro i f hi hf
    refine ev_round ?_
    simp only [ref02_Quote_l1]
    refine ev_ifF (by omega) (ev_some ?_)
    rw [List.drop_of_length_le (by omega)]; simp
  | succ k ih =>
    intro i f hi hf
    refine ev_round ?_
    simp only [ref02_Quote_l1]
    refine ev_ifT (by omega) (ev_ck (by omega) ?_)
    have hb : byt s i = ((s.getD i 0).toNat : Int) := byt_nat s i
    rw [hb]
    have hd : s.drop i = s.getD i 0 :: s.drop (i + 1) := by
      rw [List.getD_eq_getElem?_getD, List.getElem?_eq_getElem (by omega), Option.getD_some]
      exact List.drop_eq_getElem_cons (by omega)
    rw [hd, List.flatMap_cons]
    have he := escB_len (s.getD i 0)
    generalize s.getD i 0 = b at he ⊢
    refine ev_to _ (resc_ev b) (ev_ck (by omega) (ev_ck (inR_of (by omega) (by omega)) ?_))
    have := ih (i + 1) (f ++ escB b) (by omega) (by rw [List.length_append]; omega)
    rw [Int.natCast_add, Int.natCast_one] at this
    simpa using this
theorem rquote_ev (s : Bytes) (hs : s.length ≤ 1000000) : Ev2 (fun n _ => ref02_Quote n s) (· = quoteP s) := by
  simp only [ref02_Quote]
  have hf := flat_len s
  have l := rquote_l1 s hs s.length 0 [34] (by omega) (by simp)
  rw [List.drop_zero] at l
  refine ev_to _ (ev_loop l) (ev_ck (by simp only [List.length_append, List.length_cons, List.length_nil]; omega) (ev_some ?_))
  simp [quoteP]
theorem drop_at (s : Bytes) {i : Nat} (h : i < s.length) : s.drop i = s.getD i 0 :: s.drop (i + 1) := by
  rw [List.getD_eq_getElem?_getD, List.getElem?_eq_getElem h, Option.getD_some]
  exact List.drop_eq_getElem_cons h
theorem sub_range (s : Bytes) (a w : Nat) : sub s (a : Int) ((a : Int) + (w : Int)) = (s.drop a).take w := by
  show (s.take ((a : Int) + (w : Int)).toNat).drop (a : Int).toNat = _
  rw [show ((a : Int) + (w : Int)).toNat = a + w by omega, Int.toNat_natCast, List.drop_take, Nat.add_sub_cancel_left]
end Go.Ab.R06
