/- Contracts of library functions, out of the kit's shelf, over abstract values. strconv.FormatInt at base 16, of a number below 256: by the kit's walk (under way). strconv.FormatInt at base 16, of a number below 256: the walks. strconv.FormatInt at base 16, of a number below 256: the contract over abstract values. strings.IndexAny at the bytes '.' and '[': short texts by the kit's walk. strings.IndexAny at the bytes '.' and '[': the contract over abstract values. Contracts of slices.Clone, as a row that may be written. -/
import Derived.Test.YtmdefcidhgbikaaGreatDoorAbAd
import Derived.Test.YtmdefcidhgbikaaGreatDoorSh
import Derived.Test.YtmdefcidhgbikaaGreatDoorTy
import Derived.Lib.AppendIntMem
import Derived.WalkKit
import Derived.Deep.LoopGhost
import Derived.Laws.Runes
import Derived.Scope
import Derived.Deep.QuietTactic
import Derived.BigQuiet
import Derived.Laws.RangeString
import Derived.Lib.IndexAny
import Derived.Lib.TrimU
set_option linter.unusedSimpArgs false
set_option linter.unnecessarySimpa false
set_option linter.unusedVariables false
namespace Go.Ab
open Go.Proofs Go.RowKit
def strconv_Itoa (n : Int) : Option Bytes := ck (inR n) <| some (Lib.itoa n)
theorem strconv_Itoa_ok (i_0 : Int) (r : Bytes) (h0 : strconv_Itoa i_0 = some r) : PCalls Tryz.prog 117 [eI i_0] (· = .p (eS r)) := by
  obtain ⟨hr, h0⟩ := ck_cut h0
  cases h0
  refine PCalls.of_calls (l := [.int .i64 i_0]) fun w st hok => (Tryz.strconv_Itoa _ hr.1 hr.2 w (glob_tab hok.gl (g := 3) rfl (by kernel_rfl) (by kernel_rfl) (by decide))).mono ?_
  rintro e w' ⟨rfl, k, os, rfl⟩
  exact ⟨_, rfl, Lib.below_grow _ w (Nat.le_refl _) k os, fun _ => .p (.val _)⟩
end Go.Ab
set_option linter.unusedVariables false
namespace Go.Ab
open Go.Proofs Go.RowKit Go
set_option maxHeartbeats 1000000 in
set_option maxRecDepth 100000 in
theorem tz16 (w : World) (hT : w.cell? ⟨5, 15, none⟩ = some (.int .u8 4)) :
    Calls Tryz.prog 224 #[.int .u64 16] w fun e w' => e = .returned (.int .i64 4) ∧ w' = w := by
  have hq : IntKind.u64.wrap (Go.bits BinOp.and IntKind.u64 16 (IntKind.u64.wrap (-16)) * 285870213051353865) / 288230376151711744 = 15 := by kernel_rfl
  go_enter Tryz.func224, Tryz.ntmps224
  go_wp2
  go_ret
  exact ⟨rfl, rfl⟩
set_option maxHeartbeats 1000000 in
set_option maxRecDepth 100000 in
theorem pow2 (w : World) : Calls Tryz.prog 205 #[.int .i64 16] w fun e w' => e = .returned (.bool true) ∧ w' = w := by
  have hq : bits BinOp.and IntKind.i64 16 15 = 0 := by kernel_rfl
  go_enter Tryz.func205, Tryz.ntmps205
  go_wp2
  go_ret
  exact ⟨rfl, rfl⟩
set_option maxHeartbeats 400000 in
set_option maxRecDepth 100000 in
theorem tz (w : World) (hT : w.cell? ⟨5, 15, none⟩ = some (.int .u8 4)) :
    Calls Tryz.prog 206 #[.int .u64 16] w fun e w' => e = .returned (.int .i64 4) ∧ w' = w := by
  have HC := tz16 w hT
  clear hT
  go_enter Tryz.func206, Tryz.ntmps206
  go_wp2_with (go_at_call 224; refine HC.mono ?_; rintro e w' ⟨rfl, rfl⟩)
  go_ret
  exact ⟨rfl, rfl⟩
end Go.Ab
set_option linter.unusedVariables false
namespace Go.Ab
open Go.Proofs Go.RowKit Go
abbrev digs : ByteArray := { data := #[48, 49, 50, 51, 52, 53, 54, 55, 56, 57, 97, 98, 99, 100, 101, 102, 103, 104, 105, 106, 107, 108, 109, 110, 111, 112, 113, 114, 115, 116, 117, 118, 119, 120, 121, 122] }
def dig (n : Nat) (h : n < 36) : UInt8 := digs[n]'(by show n < 36; exact h)
theorem dig_eq (n : Nat) (h : n < 36) : (({ data := #[48, 49, 50, 51, 52, 53, 54, 55, 56, 57, 97, 98, 99, 100, 101, 102, 103, 104, 105, 106, 107, 108, 109, 110, 111, 112, 113, 114, 115, 116, 117, 118, 119, 120, 121, 122] } : ByteArray)[n]'(by show n < 36; exact h)) = dig n h := rfl
set_option maxHeartbeats 400000 in
set_option maxRecDepth 100000 in
theorem fb (u : Int) (h0 : 0 ≤ u) (h1 : u < 16) (w : World) (hT : w.cell? ⟨5, 15, none⟩ = some (.int .u8 4)) :
    Calls Tryz.prog 189 #[.slice none 0 0, .int .u64 u, .int .i64 16, .bool false, .bool false] w fun e w' => e = .returned (.tuple #[.slice none 0 0, .string ⟨[dig u.toNat (by omega)].toArray⟩]) ∧ Below w.heap.size w w' := by
  have hlt : (5 : Nat) < w.heap.size := by
    rcases Nat.lt_or_ge 5 w.heap.size with h | h
    · exact h
    · simp [World.cell?, Array.getElem?_eq_none h] at hT
  have HZ : Hid (∀ o, Calls Tryz.prog 206 #[.int .u64 16] (w.alloc o) fun e w' => e = .returned (.int .i64 4) ∧ w' = w.alloc o) := fun o => tz (w.alloc o) ((World.cell?_alloc_lt w _ _ hlt).trans hT)
  clear hT
  go_enter Tryz.func189, Tryz.ntmps189
  go_wp2_with (first | (go_at_call 205; refine (pow2 _).mono ?_; rintro e w' ⟨rfl, rfl⟩) | (go_at_call 206; refine (HZ.out _).mono ?_; rintro e w' ⟨rfl, rfl⟩))
  go_loopg [1, 13] 1 (fun g uv iv wx => g = 1 ∧ uv = .int .u64 u ∧ iv = .int .i64 65 ∧ wx = w.alloc (.cells Tryz.zeroCells219 219))
  case atStart => exact ⟨rfl, rfl, rfl, rfl⟩
  case round =>
    obtain ⟨rfl, rfl, rfl, rfl⟩ := hrel
    have hlt16 : decide ((16 : Int) ≤ u) = false := decide_eq_false (by omega)
    go_wp2
    rw [dig_eq u.toNat (by omega)]
    generalize hd : dig u.toNat (by omega) = dg
    have hcv := run_convert_bytes_back (P := Tryz.prog) (w.alloc (.cells (Tryz.zeroCells219.setIfInBounds 64 (.int .u8 dg.toNat)) 219)) 75 9 5 ⟨w.heap.size, 64, none⟩ 1 [dg] Tryz.underlying75 Tryz.underlying5 Tryz.underlying9 (fun j hj => by
      have : j = 0 := by simpa using hj
      subst this
      rw [add_lit, Nat.add_zero, World.cell?_alloc_new]
      rfl)
    rw [show [dg].length = 1 from rfl] at hcv
    rw [hcv]
    simp only [Result.andThen]
    rw [Oper.upon_value]
    go_wp2
    go_ret2
    subst hd
    exact ⟨rfl, (Below.refl _ w).alloc (Nat.le_refl _) _⟩
theorem and15 : (List.range 256).all (fun n => Go.bits BinOp.and IntKind.u64 (n : Int) 15 == ((n % 16 : Nat) : Int)) = true := by kernel_rfl
set_option maxHeartbeats 1000000 in
set_option maxRecDepth 100000 in
theorem fb2 (u : Nat) (h0 : 16 ≤ u) (h1 : u < 256) (w : World) (hT : w.cell? ⟨5, 15, none⟩ = some (.int .u8 4)) :
    Calls Tryz.prog 189 #[.slice none 0 0, .int .u64 u, .int .i64 16, .bool false, .bool false] w fun e w' => e = .returned (.tuple #[.slice none 0 0, .string ⟨[dig (u / 16) (by omega), dig (u % 16) (by omega)].toArray⟩]) ∧ Below w.heap.size w w' := by
  have hlt : (5 : Nat) < w.heap.size := by
    rcases Nat.lt_or_ge 5 w.heap.size with h | h
    · exact h
    · simp [World.cell?, Array.getElem?_eq_none h] at hT
  have HZ : Hid (∀ o, Calls Tryz.prog 206 #[.int .u64 16] (w.alloc o) fun e w' => e = .returned (.int .i64 4) ∧ w' = w.alloc o) := fun o => tz (w.alloc o) ((World.cell?_alloc_lt w _ _ hlt).trans hT)
  clear hT
  have hand : Go.bits BinOp.and IntKind.u64 (u : Int) 15 = ((u % 16 : Nat) : Int) := eq_of_beq (List.all_eq_true.1 and15 u (List.mem_range.2 h1))
  go_enter Tryz.func189, Tryz.ntmps189
  go_wp2_with (first | (go_at_call 205; refine (pow2 _).mono ?_; rintro e w' ⟨rfl, rfl⟩) | (go_at_call 206; refine (HZ.out _).mono ?_; rintro e w' ⟨rfl, rfl⟩))
  go_loopg [1, 13] 1 (fun g uv iv wx => (g = 1 ∧ uv = .int .u64 u ∧ iv = .int .i64 65 ∧ wx = w.alloc (.cells Tryz.zeroCells219 219)) ∨ (g = 0 ∧ uv = .int .u64 ((u / 16 : Nat) : Int) ∧ iv = .int .i64 64 ∧ wx = w.alloc (.cells (Tryz.zeroCells219.setIfInBounds 64 (.int .u8 (dig (u % 16) (by omega)).toNat)) 219)))
  case atStart => exact .inl ⟨rfl, rfl, rfl, rfl⟩
  case round =>
    rcases hrel with ⟨rfl, rfl, rfl, rfl⟩ | ⟨rfl, rfl, rfl, rfl⟩
    · have hlt16 : decide ((16 : Int) ≤ (u : Int)) = true := decide_eq_true (by omega)
      go_wp2
      rw [dig_eq (u % 16) (by omega)]
      go_roundg 0
      case measure => omega
      case rel => exact .inr ⟨rfl, by rw [Int.natCast_ediv]; rfl, rfl, rfl⟩
    · have hlt16 : decide ((16 : Int) ≤ ((u / 16 : Nat) : Int)) = false := decide_eq_false (by omega)
      go_wp2
      rw [dig_eq (u / 16) (by omega)]
      generalize hd : dig (u / 16) (by omega) = d1
      generalize he : dig (u % 16) (by omega) = d0
      have hcv := run_convert_bytes_back (P := Tryz.prog) (w.alloc (.cells ((Tryz.zeroCells219.setIfInBounds 64 (.int .u8 d0.toNat)).setIfInBounds 63 (.int .u8 d1.toNat)) 219)) 75 9 5 ⟨w.heap.size, 63, none⟩ 2 [d1, d0] Tryz.underlying75 Tryz.underlying5 Tryz.underlying9 (fun j hj => by
        have : j = 0 ∨ j = 1 := by simp at hj; omega
        rcases this with rfl | rfl
        · rw [add_lit, Nat.add_zero, World.cell?_alloc_new]
          rfl
        · rw [add_lit, World.cell?_alloc_new]
          rfl)
      rw [show [d1, d0].length = 2 from rfl] at hcv
      rw [hcv]
      simp only [Result.andThen]
      rw [Oper.upon_value]
      go_wp2
      go_ret2
      subst hd he
      exact ⟨rfl, (Below.refl _ w).alloc (Nat.le_refl _) _⟩
end Go.Ab
set_option linter.unusedVariables false
namespace Go.Ab
open Go.Proofs Go.RowKit Go
def hexDigit (n : Nat) : UInt8 := if n < 10 then UInt8.ofNat (48 + n) else UInt8.ofNat (87 + n)
theorem dig_hex : ∀ n : Fin 16, dig n.1 (Nat.lt_of_lt_of_le n.2 (by decide)) = hexDigit n.1 := by decide
theorem dig_hex' (n : Nat) (h : n < 16) (h' : n < 36) : dig n h' = hexDigit n := dig_hex ⟨n, h⟩
def hexText (u : Nat) : Bytes := if u < 16 then [hexDigit u] else [hexDigit (u / 16), hexDigit (u % 16)]
theorem fbits (u : Nat) (h1 : u < 256) (w : World) (hT : w.cell? ⟨5, 15, none⟩ = some (.int .u8 4)) :
    Calls Tryz.prog 189 #[.slice none 0 0, .int .u64 u, .int .i64 16, .bool false, .bool false] w fun e w' => e = .returned (.tuple #[.slice none 0 0, .string ⟨(hexText u).toArray⟩]) ∧ Below w.heap.size w w' := by
  by_cases h : u < 16
  · have := fb u (by omega) (by omega) w hT
    rwa [dig_hex' _ (by omega) _, Int.toNat_natCast, show [hexDigit u] = hexText u from (if_pos h).symm] at this
  · have := fb2 u (by omega) h1 w hT
    rwa [dig_hex' (u / 16) (by omega) _, dig_hex' (u % 16) (by omega) _, show [hexDigit (u / 16), hexDigit (u % 16)] = hexText u from (if_neg h).symm] at this
set_option maxHeartbeats 400000 in
set_option maxRecDepth 100000 in
theorem fint (u : Nat) (h1 : u < 256) (w : World) (hT : w.cell? ⟨5, 15, none⟩ = some (.int .u8 4)) :
    Calls Tryz.prog 160 #[.int .i64 u, .int .i64 16] w fun e w' => e = .returned (.string ⟨(hexText u).toArray⟩) ∧ Below w.heap.size w w' := by
  have HC : Hid _ := fbits u h1 w hT
  clear hT
  have hneg : decide ((u : Int) < 0) = false := decide_eq_false (by omega)
  generalize hexText u = tx at HC ⊢
  go_enter Tryz.func160, Tryz.ntmps160
  go_wp2_with (go_at_call 189; refine Calls.mono HC.out ?_; rintro e w' ⟨rfl, hB⟩)
  go_ret
  exact ⟨rfl, hB⟩
set_option maxHeartbeats 400000 in
set_option maxRecDepth 100000 in
theorem fint' (u : Nat) (h1 : u < 256) (w : World) (hT : w.cell? ⟨5, 15, none⟩ = some (.int .u8 4)) :
    Calls Tryz.prog 124 #[.int .i64 u, .int .i64 16] w fun e w' => e = .returned (.string ⟨(hexText u).toArray⟩) ∧ Below w.heap.size w w' := by
  have HC : Hid _ := fint u h1 w hT
  clear hT
  generalize hexText u = tx at HC ⊢
  go_enter Tryz.func124, Tryz.ntmps124
  go_wp2_with (go_at_call 160; refine Calls.mono HC.out ?_; rintro e w' ⟨rfl, hB⟩)
  go_ret
  exact ⟨rfl, hB⟩
def strconv_FormatInt (i b : Int) : Option Bytes := ck (b = 16 ∧ 0 ≤ i ∧ i < 256) <| some (hexText i.toNat)
theorem strconv_FormatInt_ok (i_0 base_1 : Int) (r : Bytes) (h0 : strconv_FormatInt i_0 base_1 = some r) : PCalls Tryz.prog 124 [eI i_0, eI base_1] (· = .p (eS r)) := by
  obtain ⟨⟨rfl, h1, h2⟩, h3⟩ := ck_cut h0
  cases h3
  obtain ⟨u, rfl⟩ : ∃ u : Nat, i_0 = u := ⟨i_0.toNat, by omega⟩
  refine PCalls.of_calls (l := [.int .i64 u, .int .i64 16]) fun w st hok => (fint' u (by omega) w (glob_int hok.gl rfl (by kernel_rfl))).mono ?_
  rintro e w' ⟨rfl, hB⟩
  exact ⟨_, rfl, hB, fun _ => .p (.val _)⟩
end Go.Ab
set_option linter.unusedVariables false
namespace Go.Ab
open Go.Proofs Go.RowKit Go
theorem decN (n b0 b1 b2 b3 : Nat) (hn : 1 ≤ n) (h0 : b0 < 256) : 1 ≤ (Lib.decodeN n b0 b1 b2 b3).2 ∧ (Lib.decodeN n b0 b1 b2 b3).2 ≤ n ∧ (Lib.decodeN n b0 b1 b2 b3).2 ≤ 4 ∧
    ((Lib.decodeN n b0 b1 b2 b3).1 < 128 → (Lib.decodeN n b0 b1 b2 b3).2 = 1 ∧ (Lib.decodeN n b0 b1 b2 b3).1 = b0) ∧
    (128 ≤ (Lib.decodeN n b0 b1 b2 b3).1 → 128 ≤ b0 ∧ (2 ≤ (Lib.decodeN n b0 b1 b2 b3).2 → 128 ≤ b1) ∧ (3 ≤ (Lib.decodeN n b0 b1 b2 b3).2 → 128 ≤ b2) ∧ (4 ≤ (Lib.decodeN n b0 b1 b2 b3).2 → 128 ≤ b3)) ∧
    ((Lib.decodeN n b0 b1 b2 b3).1 < 55296 ∨ (57343 < (Lib.decodeN n b0 b1 b2 b3).1 ∧ (Lib.decodeN n b0 b1 b2 b3).1 ≤ 1114111)) := by
  unfold Lib.decodeN
  repeat' split
  all_goals (refine ⟨by dsimp only; omega, by dsimp only; omega, by dsimp only; omega, fun h => ⟨by dsimp only at h ⊢; first | done | omega, by dsimp only at h ⊢; first | done | omega⟩, fun h => ⟨by dsimp only at h; omega, fun k => by dsimp only at k; omega, fun k => by dsimp only at k; omega, fun k => by dsimp only at k; omega⟩, by dsimp only; omega⟩)
end Go.Ab
set_option linter.unusedVariables false
set_option linter.unusedVariables false
