/- strconv.FormatInt at base 16, of a number below 256: the contract over abstract values. -/
import Derived.Test.YtijgdpmadidpaaaDoorFj06
set_option linter.unusedSimpArgs false
set_option linter.unnecessarySimpa false
set_option linter.unusedVariables false
namespace Go.Ab
open Go.Proofs Go.RowKit Go
def hexDigit (n : Nat) : UInt8 := if n < 10 then UInt8.ofNat (48 + n) else UInt8.ofNat (87 + n)
theorem dig_hex : ∀ n : Fin 16, dig n.1 (Nat.lt_of_lt_of_le n.2 (by decide)) = hexDigit n.1 := by decide
theorem dig_hex' (n : Nat) (h : n < 16) (h' : n < 36) : dig n h' = hexDigit n := dig_hex ⟨n, h⟩

def hexText (u : Nat) : Bytes := if u < 16 then [hexDigit u] else [hexDigit (u / 16), hexDigit (u % 16)]

theorem fbits (u : Nat) (h1 : u < 256) (w : World) (hT : w.cell? ⟨7, 15, none⟩ = some (.int .u8 4)) :
    Calls Tryd.prog 78 #[.slice none 0 0, .int .u64 u, .int .i64 16, .bool false, .bool false] w fun e w' => e = .returned (.tuple #[.slice none 0 0, .string ⟨(hexText u).toArray⟩]) ∧ Below w.heap.size w w' := by
  by_cases h : u < 16
  · have := fb u (by omega) (by omega) w hT
    rwa [dig_hex' _ (by omega) _, Int.toNat_natCast, show [hexDigit u] = hexText u from (if_pos h).symm] at this
  · have := fb2 u (by omega) h1 w hT
    rwa [dig_hex' (u / 16) (by omega) _, dig_hex' (u % 16) (by omega) _, show [hexDigit (u / 16), hexDigit (u % 16)] = hexText u from (if_neg h).symm] at this

set_option maxHeartbeats 400000 in
set_option maxRecDepth 100000 in
theorem fint (u : Nat) (h1 : u < 256) (w : World) (hT : w.cell? ⟨7, 15, none⟩ = some (.int .u8 4)) :
    Calls Tryd.prog 64 #[.int .i64 u, .int .i64 16] w fun e w' => e = .returned (.string ⟨(hexText u).toArray⟩) ∧ Below w.heap.size w w' := by
  have HC : Hid _ := fbits u h1 w hT
  clear hT
  have hneg : decide ((u : Int) < 0) = false := decide_eq_false (by omega)
  generalize hexText u = tx at HC ⊢
  go_enter Tryd.func64, Tryd.ntmps64
  go_wp2_with (go_at_call 78; refine Calls.mono HC.out ?_; rintro e w' ⟨rfl, hB⟩)
  go_ret
  exact ⟨rfl, hB⟩

set_option maxHeartbeats 400000 in
set_option maxRecDepth 100000 in
theorem fint' (u : Nat) (h1 : u < 256) (w : World) (hT : w.cell? ⟨7, 15, none⟩ = some (.int .u8 4)) :
    Calls Tryd.prog 46 #[.int .i64 u, .int .i64 16] w fun e w' => e = .returned (.string ⟨(hexText u).toArray⟩) ∧ Below w.heap.size w w' := by
  have HC : Hid _ := fint u h1 w hT
  clear hT
  generalize hexText u = tx at HC ⊢
  go_enter Tryd.func46, Tryd.ntmps46
  go_wp2_with (go_at_call 64; refine Calls.mono HC.out ?_; rintro e w' ⟨rfl, hB⟩)
  go_ret
  exact ⟨rfl, hB⟩

def strconv_FormatInt (i b : Int) : Option Bytes := ck (b = 16 ∧ 0 ≤ i ∧ i < 256) <| some (hexText i.toNat)
theorem strconv_FormatInt_ok (i_0 base_1 : Int) (r : Bytes) (h0 : strconv_FormatInt i_0 base_1 = some r) : PCalls Tryd.prog 46 [eI i_0, eI base_1] (· = .p (eS r)) := by
  obtain ⟨⟨rfl, h1, h2⟩, h3⟩ := ck_cut h0
  cases h3
  obtain ⟨u, rfl⟩ : ∃ u : Nat, i_0 = u := ⟨i_0.toNat, by omega⟩
  refine PCalls.of_calls (l := [.int .i64 u, .int .i64 16]) fun w st hok => (fint' u (by omega) w (glob_int hok.gl rfl (by kernel_rfl))).mono ?_
  rintro e w' ⟨rfl, hB⟩
  exact ⟨_, rfl, hB, fun _ => .p (.val _)⟩
end Go.Ab
