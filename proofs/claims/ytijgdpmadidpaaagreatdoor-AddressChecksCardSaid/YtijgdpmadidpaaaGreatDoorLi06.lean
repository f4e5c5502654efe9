/- strings.IndexAny at the bytes '.' and '[': short texts by the kit's walk. -/
import Derived.Test.YtijgdpmadidpaaaGreatDoorLb06
import Derived.Deep.LoopGhost
import Derived.Laws.Runes
import Derived.Scope
import Derived.Deep.QuietTactic
import Derived.BigQuiet
import Derived.Laws.RangeString
import Derived.Lib.IndexAny
import Derived.Lib.TrimU
set_option linter.unusedSimpArgs false
set_option linter.unnecessarySimpa false
set_option linter.unusedVariables false
namespace Go.Ab
open Go.Proofs Go.RowKit Go

abbrev dots : ByteArray := { data := #[46, 91] }

/-! ### An iterator that lies anywhere -/
theorem next_at {P : Program} (w : World) (b : Nat) (s : ByteArray) (pos : Nat) (ty : TypeId) (h : pos < s.size) (hb : w.heap[b]? = some (.stringIter s pos)) :
    (Instr.next (.pointer (some ⟨b, 0, none⟩)) true ty).run P w = .ok (.tuple #[.bool true, .int .i64 pos, .int .i32 (Utf8.decode s pos).1]) { w with heap := w.heap.setIfInBounds b (.stringIter s (pos + (Utf8.decode s pos).2)) } := by
  simp only [Instr.next, getObj, setObj, Sem.run_bind, Sem.run, hb, Result.andThen, h, if_true]
  simp [goInt, Sem.run, hb]
theorem next_out {P : Program} (w : World) (b : Nat) (s : ByteArray) (pos : Nat) (ty : TypeId) (h : ¬ pos < s.size) (hb : w.heap[b]? = some (.stringIter s pos)) :
    (Instr.next (.pointer (some ⟨b, 0, none⟩)) true ty).run P w = .ok (.tuple #[.bool false]) w := by
  simp [Instr.next, getObj, Sem.run, hb, h]

/-! ### What is read -/
theorem decN (n b0 b1 b2 b3 : Nat) (hn : 1 ≤ n) (h0 : b0 < 256) : 1 ≤ (Lib.decodeN n b0 b1 b2 b3).2 ∧ (Lib.decodeN n b0 b1 b2 b3).2 ≤ n ∧ (Lib.decodeN n b0 b1 b2 b3).2 ≤ 4 ∧
    ((Lib.decodeN n b0 b1 b2 b3).1 < 128 → (Lib.decodeN n b0 b1 b2 b3).2 = 1 ∧ (Lib.decodeN n b0 b1 b2 b3).1 = b0) ∧
    (128 ≤ (Lib.decodeN n b0 b1 b2 b3).1 → 128 ≤ b0 ∧ (2 ≤ (Lib.decodeN n b0 b1 b2 b3).2 → 128 ≤ b1) ∧ (3 ≤ (Lib.decodeN n b0 b1 b2 b3).2 → 128 ≤ b2) ∧ (4 ≤ (Lib.decodeN n b0 b1 b2 b3).2 → 128 ≤ b3)) ∧
    ((Lib.decodeN n b0 b1 b2 b3).1 < 55296 ∨ (57343 < (Lib.decodeN n b0 b1 b2 b3).1 ∧ (Lib.decodeN n b0 b1 b2 b3).1 ≤ 1114111)) := by
  unfold Lib.decodeN
  repeat' split
  all_goals (refine ⟨by dsimp only; omega, by dsimp only; omega, by dsimp only; omega, fun h => ⟨by dsimp only at h ⊢; first | done | omega, by dsimp only at h ⊢; first | done | omega⟩, fun h => ⟨by dsimp only at h; omega, fun k => by dsimp only at k; omega, fun k => by dsimp only at k; omega, fun k => by dsimp only at k; omega⟩, by dsimp only; omega⟩)

theorem get_data (s : ByteArray) (k : Nat) (h : k < s.size) : s.data.toList[k]? = some (s.get! k) := by
  have : s.get! k = s[k]'h := by
    simp [ByteArray.get!, getElem!_pos, h]
    rfl
  rw [this]; exact Lib.data_getElem? s k h

/-- What a step over s reads at i. -/
theorem step_any (s : ByteArray) (i : Nat) (h : i < s.size) : ∃ c k : Nat, Utf8.decode s i = (c, k) ∧ 1 ≤ k ∧ i + k ≤ s.size ∧ (c < 128 → k = 1 ∧ ∃ x : UInt8, s.data.toList[i]? = some x ∧ c = x.toNat) ∧
    (128 ≤ c → ∀ j b, i ≤ j → j < i + k → s.data.toList[j]? = some b → 128 ≤ b.toNat) ∧ (c < 55296 ∨ (57343 < c ∧ c ≤ 1114111)) := by
  refine ⟨(Utf8.decode s i).1, (Utf8.decode s i).2, rfl, ?_⟩
  rw [Lib.decode_at]
  obtain ⟨h1, h2, h3, h4, h5, h6⟩ := decN (s.size - i) (s.get! i).toNat (s.get! (i + 1)).toNat (s.get! (i + 2)).toNat (s.get! (i + 3)).toNat (by omega) (UInt8.toNat_lt _)
  refine ⟨h1, by omega, fun q => ⟨(h4 q).1, s.get! i, get_data s i h, (h4 q).2⟩, fun q j b a1 a2 hb => ?_, h6⟩
  obtain ⟨q0, q1, q2, q3⟩ := h5 q
  have hj : j < s.size := by omega
  rw [get_data s j hj] at hb
  cases hb
  obtain rfl | rfl | rfl | rfl : j = i ∨ j = i + 1 ∨ j = i + 2 ∨ j = i + 3 := by omega
  · exact q0
  · exact q1 (by omega)
  · exact q2 (by omega)
  · exact q3 (by omega)

theorem enc_forms (c : Nat) (h : 128 ≤ c) (hv : Lib.validRune c = true) : (Utf8.encode (c : Int) = ⟨#[UInt8.ofNat (0xC0 + c / 64), UInt8.ofNat (0x80 + c % 64)]⟩) ∨ ((Utf8.encode (c : Int)).size = 3 ∨ (Utf8.encode (c : Int)).size = 4) := by
  have hv2 : Utf8.valid (c : Int) = true := by
    simp only [Lib.validRune, decide_eq_true_eq] at hv
    simp only [Utf8.valid, Bool.or_eq_true, Bool.and_eq_true, decide_eq_true_eq]
    omega
  simp only [Utf8.encode, hv2, if_true, Int.toNat_natCast]
  rw [if_neg (by omega)]
  by_cases h1 : c < 2048
  · rw [if_pos h1]; exact .inl rfl
  · rw [if_neg h1]
    by_cases h2 : c < 65536
    · rw [if_pos h2]; exact .inr (.inl rfl)
    · rw [if_neg h2]; exact .inr (.inr rfl)
theorem not91 (c : Nat) : (UInt8.ofNat (0x80 + c % 64)).toNat ≠ 91 := by
  rw [UInt8.toNat_ofNat']
  omega

theorem below_drewN' {B : Nat} {a w : World} (h : Below B a w) (n : Nat) : Below B a (w.drewN n) := h.trans ⟨rfl, rfl, rfl, Nat.le_refl _, fun _ _ => rfl⟩
theorem ib_end (c : Int) (w : World) : Calls Tryz.prog 73 #[.string ByteArray.empty, .int .u8 c] w fun e w' => e = .returned (.int .i64 (-1)) ∧ w' = w := Tryz.strings_IndexByte ByteArray.empty c w

set_option maxHeartbeats 1000000 in
set_option maxRecDepth 1000000 in
/-- A code point of two bytes is not in a text of two bytes whose last is another. -/
theorem ir_two (s rs : ByteArray) (c : Nat) (h : 128 ≤ c) (hv : Lib.validRune c = true) (hne : c ≠ 65533) (henc : Utf8.encode (c : Int) = rs) (hs : s.size = 2) (hr : rs.size = 2)
    (h1 : (s[1]'(by omega)) ≠ (rs[1]'(by omega))) (w : World) :
    Calls Tryz.prog 90 #[.string s, .int .i32 c] w fun e w' => e = .returned (.int .i64 (-1)) ∧ Below w.heap.size w w' := by
  have hlt : decide ((c : Int) < 128) = false := decide_eq_false (by omega)
  have hne' : ((c : Int) == 65533) = false := beq_eq_false_iff_ne.2 (by omega)
  have h0 : decide ((0 : Int) ≤ (c : Int)) = true := decide_eq_true (by omega)
  obtain ⟨x, hx⟩ : ∃ x, s[1]'(by omega) = x := ⟨_, rfl⟩
  obtain ⟨y, hy⟩ : ∃ y, rs[1]'(by omega) = y := ⟨_, rfl⟩
  rw [hx, hy] at h1
  have hsz : (s.size : Int) = 2 := by omega
  have hrz : (rs.size : Int) = 2 := by omega
  have hb : ((x.toNat : Int) != (y.toNat : Int)) = true := by
    rw [bne_iff_ne]
    intro e
    exact h1 (UInt8.toNat_inj.1 (by omega))
  go_enter Tryz.func90, Tryz.ntmps90
  go_wp2_with (go_at_call 113; refine (Tryz.utf8_ValidRune _ _).mono ?_; rintro e w' ⟨rfl, hw⟩; rw [hw, hv])
  refine wp_scope_straight ?_
  go_wp2
  go_loopg [9] 0 (fun g v wx => g = 0 ∧ v = .int .i64 1 ∧ wx = w)
  case atStart => exact ⟨rfl, by go_num, rfl⟩
  case round =>
    obtain ⟨rfl, rfl, rfl⟩ := hrel
    go_wp2
    refine wp_scope_straight ?_
    go_wp2
    go_big_quiet (fail)
    go_wp2
    go_big_quiet ((go_at_call 73; exact (ib_end _ _).mono (fun _ _ h => ⟨h.1, _, h.2⟩)))
    go_wp2
    simp only [Exit.noGoto, Exit.inBlock, Exit.then]
    go_ret
    exact ⟨rfl, below_drewN' (Below.refl _ _) _⟩

set_option maxHeartbeats 1000000 in
set_option maxRecDepth 1000000 in
/-- A code point of more bytes than the text has is not in it. -/
theorem ir_more (s rs : ByteArray) (c : Nat) (h : 128 ≤ c) (hv : Lib.validRune c = true) (hne : c ≠ 65533) (henc : Utf8.encode (c : Int) = rs) (hs : s.size = 2) (hr : 3 ≤ rs.size) (hr4 : rs.size ≤ 4) (w : World) :
    Calls Tryz.prog 90 #[.string s, .int .i32 c] w fun e w' => e = .returned (.int .i64 (-1)) ∧ Below w.heap.size w w' := by
  have hlt : decide ((c : Int) < 128) = false := decide_eq_false (by omega)
  have hne' : ((c : Int) == 65533) = false := beq_eq_false_iff_ne.2 (by omega)
  have h0 : decide ((0 : Int) ≤ (c : Int)) = true := decide_eq_true (by omega)
  obtain ⟨i, hi⟩ : ∃ i : Nat, rs.size = i + 1 := ⟨rs.size - 1, by omega⟩
  have hsz : (s.size : Int) = 2 := by omega
  have hrz : (rs.size : Int) = (i : Int) + 1 := by omega
  have hlast : IntKind.i64.wrap ((i : Int) + 1 - 1) = (i : Int) := by rw [wrap_small _ (by omega) (by omega)]; omega
  have hend : decide ((i : Int) < 2) = false := decide_eq_false (by omega)
  go_enter Tryz.func90, Tryz.ntmps90
  go_wp2_with (go_at_call 113; refine (Tryz.utf8_ValidRune _ _).mono ?_; rintro e w' ⟨rfl, hw⟩; rw [hw, hv])
  refine wp_scope_straight ?_
  go_wp2
  go_loopg [9] 0 (fun g v wx => g = 0 ∧ v = .int .i64 i ∧ wx = w)
  case atStart => exact ⟨rfl, by first | rfl | (congr 1; omega), rfl⟩
  case round =>
    obtain ⟨rfl, rfl, rfl⟩ := hrel
    go_wp2
    simp only [Exit.noGoto, Exit.inBlock, Exit.then]
    go_ret
    exact ⟨rfl, Below.refl _ _⟩

set_option maxHeartbeats 1000000 in
set_option maxRecDepth 1000000 in
/-- U+FFFD is not in an ASCII text. -/
theorem ir_err (w : World) :
    Calls Tryz.prog 90 #[.string dots, .int .i32 65533] w fun e w' => e = .returned (.int .i64 (-1)) ∧ Below w.heap.size w w' := by
  generalize hs : dots = s
  have hz : s.size = 2 := by rw [← hs]; rfl
  have ha : ∀ i (hi : i < s.size), (s[i]'hi).toNat < 128 := by
    subst hs
    intro i hi
    have : i = 0 ∨ i = 1 := by have : i < 2 := hi; omega
    rcases this with rfl | rfl
    · show (46 : UInt8).toNat < 128; decide
    · show (91 : UInt8).toNat < 128; decide
  go_enter Tryz.func90, Tryz.ntmps90
  go_wp2
  go_loopg [5, 6] 2 (fun g _ _ wx => ∃ i : Nat, i + g = 2 ∧ wx = w.iter s i)
  case atStart => exact ⟨0, rfl, rfl⟩
  case round =>
    obtain ⟨i, hig, rfl⟩ := hrel
    cases gk with
    | zero =>
      obtain rfl : i = 2 := by omega
      have hnx := run_next_end (P := Tryz.prog) w s 2
      rw [hz] at hnx
      go_wp2
      go_ret
      exact ⟨rfl, (Below.refl _ w).alloc (Nat.le_refl _) _⟩
    | succ g =>
      have hi : i < s.size := by omega
      have hx128 := ha i hi
      have hnx := fun ty => run_next_ascii (P := Tryz.prog) w s i ty hi hx128
      obtain ⟨x, hx⟩ : ∃ x : UInt8, s[i]'hi = x := ⟨_, rfl⟩
      rw [hx] at hnx hx128
      have hne : ((x.toNat : Int) == 65533) = false := beq_eq_false_iff_ne.2 (by omega)
      go_wp2
      go_roundg g
      case measure => omega
      case rel => exact ⟨i + 1, by omega, rfl⟩
end Go.Ab
