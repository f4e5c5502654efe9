/- Contracts of library functions, out of the kit's shelf, over abstract values. strconv.FormatInt at base 16, of a number below 256: by the kit's walk (under way). strconv.FormatInt at base 16, of a number below 256: the walks. strconv.FormatInt at base 16, of a number below 256: the contract over abstract values. strings.IndexAny at the bytes '.' and '[': short texts by the kit's walk. strings.IndexAny at the bytes '.' and '[': the contract over abstract values. Contracts of slices.Clone, as a row that may be written. -/
import Derived.Test.YtapfhipodpbflaaGreatDoorAbAd
import Derived.Test.YtapfhipodpbflaaGreatDoorSh
import Derived.Test.YtapfhipodpbflaaGreatDoorTy
import Derived.Lib.AppendIntMem
import Derived.WalkKit
import Derived.Deep.LoopGhost
import Derived.Laws.Runes
import Derived.Scope
import Derived.Deep.QuietTactic
import Derived.BigQuiet
import Derived.Laws.RangeString
import Derived.Lib.IndexAny
import Derived.Lib.TrimU
set_option linter.unusedSimpArgs false
set_option linter.unnecessarySimpa false
set_option linter.unusedVariables false
namespace Go.Ab
open Go.Proofs Go.RowKit

def strings_IndexByte (s : Bytes) (c : Int) : Option Int := some (Lib.indexByte s c.toNat.toUInt8)
theorem strings_IndexByte_ok (s_0 : Bytes) (c_1 : Int) (r : Int) (h0 : strings_IndexByte s_0 c_1 = some r) : PCalls Tryz.prog 141 [eS s_0, eK .u8 c_1] (· = .p (eI r)) := by
  cases h0
  refine PCalls.of_calls (l := [.string (str s_0), .int .u8 c_1]) fun w st hok => (Tryz.strings_IndexByte _ _ w).mono ?_
  rintro e w' ⟨rfl, rfl⟩
  rw [str_list]
  exact ⟨_, rfl, below_refl _, fun _ => .p (.val _)⟩

def unicode_utf8_ValidRune (r : Int) : Option Bool := some (Lib.validRune r)
theorem unicode_utf8_ValidRune_ok (r_0 : Int) (r : Bool) (h0 : unicode_utf8_ValidRune r_0 = some r) : PCalls Tryz.prog 186 [eK .i32 r_0] (· = .p (eB r)) := by
  cases h0
  refine PCalls.of_calls (l := [.int .i32 r_0]) fun w st hok => (Tryz.utf8_ValidRune _ w).mono ?_
  rintro e w' ⟨rfl, rfl⟩
  exact ⟨_, rfl, below_refl _, fun _ => .p (.val _)⟩

theorem pair_rep {w : World} {g : Gh} {a b : Value} : ARep w g (.tuple [.p (.val a), .p (.val b)]) (.tuple #[a, b]) := by
  refine .tuple rfl fun i c v h1 h2 => ?_
  match i, h1, h2 with
  | 0, h1, h2 => simp at h1 h2; subst h1 h2; exact .p (.val _)
  | 1, h1, h2 => simp at h1 h2; subst h1 h2; exact .p (.val _)
  | n + 2, h1, _ => simp at h1

def strings_CutPrefix (s p : Bytes) : Option (Bytes × Bool) := some (Lib.trimPrefix s p, Lib.hasPrefix s p)
theorem strings_CutPrefix_ok (s_0 p_1 : Bytes) (r : Bytes × Bool) (h0 : strings_CutPrefix s_0 p_1 = some r) : PCalls Tryz.prog 135 [eS s_0, eS p_1] (· = .tuple [.p (eS r.1), .p (eB r.2)]) := by
  cases h0
  refine PCalls.of_calls (l := [.string (str s_0), .string (str p_1)]) fun w st hok => (Tryz.strings_CutPrefix _ _ w).mono ?_
  rintro e w' ⟨rfl, rfl⟩
  rw [str_list, str_list]
  exact ⟨_, rfl, below_refl _, fun _ => pair_rep⟩

def strings_HasPrefix (s p : Bytes) : Option Bool := some (Lib.hasPrefix s p)
theorem strings_HasPrefix_ok (s_0 p_1 : Bytes) (r : Bool) (h0 : strings_HasPrefix s_0 p_1 = some r) : PCalls Tryz.prog 138 [eS s_0, eS p_1] (· = .p (eB r)) := by
  cases h0
  refine PCalls.of_calls (l := [.string (str s_0), .string (str p_1)]) fun w st hok => (Tryz.strings_HasPrefix _ _ w).mono ?_
  rintro e w' ⟨rfl, rfl⟩
  rw [str_list, str_list]
  exact ⟨_, rfl, below_refl _, fun _ => .p (.val _)⟩

def strconv_Itoa (n : Int) : Option Bytes := ck (inR n) <| some (Lib.itoa n)
theorem strconv_Itoa_ok (i_0 : Int) (r : Bytes) (h0 : strconv_Itoa i_0 = some r) : PCalls Tryz.prog 47 [eI i_0] (· = .p (eS r)) := by
  obtain ⟨hr, h0⟩ := ck_cut h0
  cases h0
  refine PCalls.of_calls (l := [.int .i64 i_0]) fun w st hok => (Tryz.strconv_Itoa _ hr.1 hr.2 w (glob_tab hok.gl (g := 1) rfl (by kernel_rfl) (by kernel_rfl) (by decide))).mono ?_
  rintro e w' ⟨rfl, k, os, rfl⟩
  exact ⟨_, rfl, Lib.below_grow _ w (Nat.le_refl _) k os, fun _ => .p (.val _)⟩

theorem tab_first : (List.range 256).all (fun c => match glob2[c]? with | some (.int .u8 n) => n == (Lib.firstT c : Int) | _ => false) = true := by kernel_rfl
theorem tab_acc : (List.range 16).all (fun c => (match glob3[2 * c]? with | some (.int .u8 n) => n == (Lib.accLo c : Int) | _ => false) && (match glob3[2 * c + 1]? with | some (.int .u8 n) => n == (Lib.accHi c : Int) | _ => false)) = true := by kernel_rfl
theorem gc_of {o : Option GC} {m : Int} (h : (match o with | some (.int .u8 n) => n == m | _ => false) = true) : o = some (.int .u8 m) := by
  split at h
  · rw [eq_of_beq h]
  · cases h
theorem utf8Tabs {w : World} {st : Nat → Nat → Prop} (h : GlobOk w st) : Lib.Utf8Tabs 2 3 w := by
  refine ⟨fun c hc => glob_int h rfl (gc_of (List.all_eq_true.1 tab_first c (by simpa using hc))), fun i hi => ?_⟩
  have := List.all_eq_true.1 tab_acc i (by simpa using hi)
  simp only [Bool.and_eq_true] at this
  exact ⟨glob_int h rfl (gc_of this.1), glob_int h rfl (gc_of this.2)⟩
def unicode_utf8_DecodeRuneInString (s : Bytes) : Option (Int × Int) := some ((Lib.decodeGo (str s)).1, (Lib.decodeGo (str s)).2)
theorem unicode_utf8_DecodeRuneInString_ok (s_0 : Bytes) (r : Int × Int) (h0 : unicode_utf8_DecodeRuneInString s_0 = some r) : PCalls Tryz.prog 166 [eS s_0] (· = .tuple [.p (eK .i32 r.1), .p (eI r.2)]) := by
  cases h0
  refine PCalls.of_calls (l := [.string (str s_0)]) fun w st hok => (Tryz.utf8_DecodeRuneInString _ w (utf8Tabs hok.gl)).mono ?_
  rintro e w' ⟨rfl, hB⟩
  exact ⟨_, rfl, hB, fun _ => pair_rep⟩

theorem below_bytes (w : World) (e : TypeId) (t : ByteArray) : Below w.heap.size w (Lib.bytesWorld w e t) :=
  ⟨rfl, rfl, rfl, by rw [Lib.bytesWorld_size]; omega, fun k hk => Lib.bytesWorld_at_old w e t k hk⟩
def strconv_ParseInt (s : Bytes) (b z : Int) : Option (Int × Bool) := ck (b = 10 ∧ z = 64 ∧ s.length ≤ 281474976710656) <| some (match Lib.parseIntB 64 s with | .ok v => (v, false) | .range => (Lib.intSat 64 s, true) | _ => (0, true))
theorem ife_rep {w : World} {g : Gh} {a : Int} {t : TypeId} {v : Value} : ARep w g (.tuple [.p (eI a), .p (eE true)]) (.tuple #[.int .i64 a, .iface t v]) := by
  refine .tuple rfl fun i c v h1 h2 => ?_
  match i, h1, h2 with
  | 0, h1, h2 => simp at h1 h2; subst h1 h2; exact .p (.val _)
  | 1, h1, h2 => simp at h1 h2; subst h1 h2; exact .p (.ifc _ _)
  | n + 2, h1, _ => simp at h1
theorem strconv_ParseInt_ok (s_0 : Bytes) (base_1 bitSize_2 : Int) (r : Int × Bool) (h0 : strconv_ParseInt s_0 base_1 bitSize_2 = some r) : PCalls Tryz.prog 174 [eS s_0, eI base_1, eI bitSize_2] (· = .tuple [.p (eI r.1), .p (eE r.2)]) := by
  obtain ⟨⟨rfl, rfl, hl⟩, h1⟩ := ck_cut h0
  have hsz : (str s_0).size ≤ 281474976710656 := by rw [str_size]; exact hl
  refine PCalls.of_calls (l := [.string (str s_0), .int .i64 10, .int .i64 64]) fun w st hok => ?_
  cases hp : Lib.parseIntB 64 s_0 with
  | ok v =>
    rw [hp] at h1; cases h1
    refine (Tryz.strconv_ParseInt_10_at64_ok (str s_0) (by omega) v (by rw [str_list]; exact hp) w).mono ?_
    rintro e w' ⟨rfl, h⟩
    refine ⟨_, rfl, ?_, fun _ => pair_rep⟩
    rcases h with rfl | ⟨t, rfl⟩
    · exact below_refl _
    · exact below_bytes _ _ _
  | range =>
    rw [hp] at h1; cases h1
    obtain ⟨t, v, hv⟩ := glob_ifc hok.gl (g := 7) (j := 0) rfl rfl
    refine (Tryz.strconv_ParseInt_10_at64_range (str s_0) hsz (by rw [str_list]; exact hp) _ w hv (.inr ⟨_, _, rfl⟩)).mono ?_
    rintro e w' ⟨N, rfl, _, _, hB⟩
    rw [str_list]
    exact ⟨_, rfl, hB, fun _ => ife_rep⟩
  | _ =>
    rw [hp] at h1; cases h1
    obtain ⟨t, v, hv⟩ := glob_ifc hok.gl (g := 6) (j := 0) rfl rfl
    refine (Tryz.strconv_ParseInt_10_at64_syntax (str s_0) hsz (by rw [str_list]; exact hp) _ w hv (.inr ⟨_, _, rfl⟩)).mono ?_
    rintro e w' ⟨N, rfl, _, _, hB⟩
    exact ⟨_, rfl, hB, fun _ => ife_rep⟩
end Go.Ab

set_option linter.unusedVariables false
namespace Go.Ab
open Go.Proofs Go.RowKit Go
def hexDigit (n : Nat) : UInt8 := if n < 10 then UInt8.ofNat (48 + n) else UInt8.ofNat (87 + n)
def hexText (u : Nat) : Bytes := if u < 16 then [hexDigit u] else [hexDigit (u / 16), hexDigit (u % 16)]

set_option maxHeartbeats 1000000 in
set_option maxRecDepth 100000 in
theorem tz16 (w : World) (hT : w.cell? ⟨5, 15, none⟩ = some (.int .u8 4)) :
    Calls Tryz.prog 196 #[.int .u64 16] w fun e w' => e = .returned (.int .i64 4) ∧ w' = w := by
  have hq : IntKind.u64.wrap (Go.bits BinOp.and IntKind.u64 16 (IntKind.u64.wrap (-16)) * 285870213051353865) / 288230376151711744 = 15 := by kernel_rfl
  go_enter Tryz.func196, Tryz.ntmps196
  go_wp2
  go_ret
  exact ⟨rfl, rfl⟩

set_option maxHeartbeats 1000000 in
set_option maxRecDepth 100000 in
theorem pow2 (w : World) : Calls Tryz.prog 179 #[.int .i64 16] w fun e w' => e = .returned (.bool true) ∧ w' = w := by
  have hq : bits BinOp.and IntKind.i64 16 15 = 0 := by kernel_rfl
  go_enter Tryz.func179, Tryz.ntmps179
  go_wp2
  go_ret
  exact ⟨rfl, rfl⟩

set_option maxHeartbeats 400000 in
set_option maxRecDepth 100000 in
theorem tz (w : World) (hT : w.cell? ⟨5, 15, none⟩ = some (.int .u8 4)) :
    Calls Tryz.prog 180 #[.int .u64 16] w fun e w' => e = .returned (.int .i64 4) ∧ w' = w := by
  have HC := tz16 w hT
  clear hT
  go_enter Tryz.func180, Tryz.ntmps180
  go_wp2_with (go_at_call 196; refine HC.mono ?_; rintro e w' ⟨rfl, rfl⟩)
  go_ret
  exact ⟨rfl, rfl⟩

end Go.Ab

set_option linter.unusedVariables false
namespace Go.Ab
open Go.Proofs Go.RowKit Go
abbrev digs : ByteArray := { data := #[48, 49, 50, 51, 52, 53, 54, 55, 56, 57, 97, 98, 99, 100, 101, 102, 103, 104, 105, 106, 107, 108, 109, 110, 111, 112, 113, 114, 115, 116, 117, 118, 119, 120, 121, 122] }
def dig (n : Nat) (h : n < 36) : UInt8 := digs[n]'(by show n < 36; exact h)
theorem dig_eq (n : Nat) (h : n < 36) : (({ data := #[48, 49, 50, 51, 52, 53, 54, 55, 56, 57, 97, 98, 99, 100, 101, 102, 103, 104, 105, 106, 107, 108, 109, 110, 111, 112, 113, 114, 115, 116, 117, 118, 119, 120, 121, 122] } : ByteArray)[n]'(by show n < 36; exact h)) = dig n h := rfl
set_option maxHeartbeats 400000 in
set_option maxRecDepth 100000 in
theorem fb (u : Int) (h0 : 0 ≤ u) (h1 : u < 16) (w : World) (hT : w.cell? ⟨5, 15, none⟩ = some (.int .u8 4)) :
    Calls Tryz.prog 148 #[.slice none 0 0, .int .u64 u, .int .i64 16, .bool false, .bool false] w fun e w' => e = .returned (.tuple #[.slice none 0 0, .string ⟨[dig u.toNat (by omega)].toArray⟩]) ∧ Below w.heap.size w w' := by
  have hlt : (5 : Nat) < w.heap.size := by
    rcases Nat.lt_or_ge 5 w.heap.size with h | h
    · exact h
    · simp [World.cell?, Array.getElem?_eq_none h] at hT
  have HZ : Hid (∀ o, Calls Tryz.prog 180 #[.int .u64 16] (w.alloc o) fun e w' => e = .returned (.int .i64 4) ∧ w' = w.alloc o) := fun o => tz (w.alloc o) ((World.cell?_alloc_lt w _ _ hlt).trans hT)
  clear hT
  go_enter Tryz.func148, Tryz.ntmps148
  go_wp2_with (first | (go_at_call 179; refine (pow2 _).mono ?_; rintro e w' ⟨rfl, rfl⟩) | (go_at_call 180; refine (HZ.out _).mono ?_; rintro e w' ⟨rfl, rfl⟩))
  go_loopg [1, 13] 1 (fun g uv iv wx => g = 1 ∧ uv = .int .u64 u ∧ iv = .int .i64 65 ∧ wx = w.alloc (.cells Tryz.zeroCells227 227))
  case atStart => exact ⟨rfl, rfl, rfl, rfl⟩
  case round =>
    obtain ⟨rfl, rfl, rfl, rfl⟩ := hrel
    have hlt16 : decide ((16 : Int) ≤ u) = false := decide_eq_false (by omega)
    go_wp2
    rw [dig_eq u.toNat (by omega)]
    generalize hd : dig u.toNat (by omega) = dg
    have hcv := run_convert_bytes_back (P := Tryz.prog) (w.alloc (.cells (Tryz.zeroCells227.setIfInBounds 64 (.int .u8 dg.toNat)) 227)) 138 9 5 ⟨w.heap.size, 64, none⟩ 1 [dg] Tryz.underlying138 Tryz.underlying5 Tryz.underlying9 (fun j hj => by
      have : j = 0 := by simpa using hj
      subst this
      rw [add_lit, Nat.add_zero, World.cell?_alloc_new]
      rfl)
    rw [show [dg].length = 1 from rfl] at hcv
    rw [hcv]
    simp only [Result.andThen]
    rw [Oper.upon_value]
    go_wp2
    go_ret2
    subst hd
    exact ⟨rfl, (Below.refl _ w).alloc (Nat.le_refl _) _⟩

theorem and15 : (List.range 256).all (fun n => Go.bits BinOp.and IntKind.u64 (n : Int) 15 == ((n % 16 : Nat) : Int)) = true := by kernel_rfl

set_option maxHeartbeats 1000000 in
set_option maxRecDepth 100000 in
theorem fb2 (u : Nat) (h0 : 16 ≤ u) (h1 : u < 256) (w : World) (hT : w.cell? ⟨5, 15, none⟩ = some (.int .u8 4)) :
    Calls Tryz.prog 148 #[.slice none 0 0, .int .u64 u, .int .i64 16, .bool false, .bool false] w fun e w' => e = .returned (.tuple #[.slice none 0 0, .string ⟨[dig (u / 16) (by omega), dig (u % 16) (by omega)].toArray⟩]) ∧ Below w.heap.size w w' := by
  have hlt : (5 : Nat) < w.heap.size := by
    rcases Nat.lt_or_ge 5 w.heap.size with h | h
    · exact h
    · simp [World.cell?, Array.getElem?_eq_none h] at hT
  have HZ : Hid (∀ o, Calls Tryz.prog 180 #[.int .u64 16] (w.alloc o) fun e w' => e = .returned (.int .i64 4) ∧ w' = w.alloc o) := fun o => tz (w.alloc o) ((World.cell?_alloc_lt w _ _ hlt).trans hT)
  clear hT
  have hand : Go.bits BinOp.and IntKind.u64 (u : Int) 15 = ((u % 16 : Nat) : Int) := eq_of_beq (List.all_eq_true.1 and15 u (List.mem_range.2 h1))
  go_enter Tryz.func148, Tryz.ntmps148
  go_wp2_with (first | (go_at_call 179; refine (pow2 _).mono ?_; rintro e w' ⟨rfl, rfl⟩) | (go_at_call 180; refine (HZ.out _).mono ?_; rintro e w' ⟨rfl, rfl⟩))
  go_loopg [1, 13] 1 (fun g uv iv wx => (g = 1 ∧ uv = .int .u64 u ∧ iv = .int .i64 65 ∧ wx = w.alloc (.cells Tryz.zeroCells227 227)) ∨ (g = 0 ∧ uv = .int .u64 ((u / 16 : Nat) : Int) ∧ iv = .int .i64 64 ∧ wx = w.alloc (.cells (Tryz.zeroCells227.setIfInBounds 64 (.int .u8 (dig (u % 16) (by omega)).toNat)) 227)))
  case atStart => exact .inl ⟨rfl, rfl, rfl, rfl⟩
  case round =>
    rcases hrel with ⟨rfl, rfl, rfl, rfl⟩ | ⟨rfl, rfl, rfl, rfl⟩
    · have hlt16 : decide ((16 : Int) ≤ (u : Int)) = true := decide_eq_true (by omega)
      go_wp2
      rw [dig_eq (u % 16) (by omega)]
      go_roundg 0
      case measure => omega
      case rel => exact .inr ⟨rfl, by rw [Int.natCast_ediv]; rfl, rfl, rfl⟩
    · have hlt16 : decide ((16 : Int) ≤ ((u / 16 : Nat) : Int)) = false := decide_eq_false (by omega)
      go_wp2
      rw [dig_eq (u / 16) (by omega)]
      generalize hd : dig (u / 16) (by omega) = d1
      generalize he : dig (u % 16) (by omega) = d0
      have hcv := run_convert_bytes_back (P := Tryz.prog) (w.alloc (.cells ((Tryz.zeroCells227.setIfInBounds 64 (.int .u8 d0.toNat)).setIfInBounds 63 (.int .u8 d1.toNat)) 227)) 138 9 5 ⟨w.heap.size, 63, none⟩ 2 [d1, d0] Tryz.underlying138 Tryz.underlying5 Tryz.underlying9 (fun j hj => by
        have : j = 0 ∨ j = 1 := by simp at hj; omega
        rcases this with rfl | rfl
        · rw [add_lit, Nat.add_zero, World.cell?_alloc_new]
          rfl
        · rw [add_lit, World.cell?_alloc_new]
          rfl)
      rw [show [d1, d0].length = 2 from rfl] at hcv
      rw [hcv]
      simp only [Result.andThen]
      rw [Oper.upon_value]
      go_wp2
      go_ret2
      subst hd he
      exact ⟨rfl, (Below.refl _ w).alloc (Nat.le_refl _) _⟩
end Go.Ab

set_option linter.unusedVariables false
namespace Go.Ab
open Go.Proofs Go.RowKit Go
theorem dig_hex : ∀ n : Fin 16, dig n.1 (Nat.lt_of_lt_of_le n.2 (by decide)) = hexDigit n.1 := by decide
theorem dig_hex' (n : Nat) (h : n < 16) (h' : n < 36) : dig n h' = hexDigit n := dig_hex ⟨n, h⟩


theorem fbits (u : Nat) (h1 : u < 256) (w : World) (hT : w.cell? ⟨5, 15, none⟩ = some (.int .u8 4)) :
    Calls Tryz.prog 148 #[.slice none 0 0, .int .u64 u, .int .i64 16, .bool false, .bool false] w fun e w' => e = .returned (.tuple #[.slice none 0 0, .string ⟨(hexText u).toArray⟩]) ∧ Below w.heap.size w w' := by
  by_cases h : u < 16
  · have := fb u (by omega) (by omega) w hT
    rwa [dig_hex' _ (by omega) _, Int.toNat_natCast, show [hexDigit u] = hexText u from (if_pos h).symm] at this
  · have := fb2 u (by omega) h1 w hT
    rwa [dig_hex' (u / 16) (by omega) _, dig_hex' (u % 16) (by omega) _, show [hexDigit (u / 16), hexDigit (u % 16)] = hexText u from (if_neg h).symm] at this

set_option maxHeartbeats 400000 in
set_option maxRecDepth 100000 in
theorem fint (u : Nat) (h1 : u < 256) (w : World) (hT : w.cell? ⟨5, 15, none⟩ = some (.int .u8 4)) :
    Calls Tryz.prog 113 #[.int .i64 u, .int .i64 16] w fun e w' => e = .returned (.string ⟨(hexText u).toArray⟩) ∧ Below w.heap.size w w' := by
  have HC : Hid _ := fbits u h1 w hT
  clear hT
  have hneg : decide ((u : Int) < 0) = false := decide_eq_false (by omega)
  generalize hexText u = tx at HC ⊢
  go_enter Tryz.func113, Tryz.ntmps113
  go_wp2_with (go_at_call 148; refine Calls.mono HC.out ?_; rintro e w' ⟨rfl, hB⟩)
  go_ret
  exact ⟨rfl, hB⟩

set_option maxHeartbeats 400000 in
set_option maxRecDepth 100000 in
theorem fint' (u : Nat) (h1 : u < 256) (w : World) (hT : w.cell? ⟨5, 15, none⟩ = some (.int .u8 4)) :
    Calls Tryz.prog 171 #[.int .i64 u, .int .i64 16] w fun e w' => e = .returned (.string ⟨(hexText u).toArray⟩) ∧ Below w.heap.size w w' := by
  have HC : Hid _ := fint u h1 w hT
  clear hT
  generalize hexText u = tx at HC ⊢
  go_enter Tryz.func171, Tryz.ntmps171
  go_wp2_with (go_at_call 113; refine Calls.mono HC.out ?_; rintro e w' ⟨rfl, hB⟩)
  go_ret
  exact ⟨rfl, hB⟩

def strconv_FormatInt (i b : Int) : Option Bytes := ck (b = 16 ∧ 0 ≤ i ∧ i < 256) <| some (hexText i.toNat)
theorem strconv_FormatInt_ok (i_0 base_1 : Int) (r : Bytes) (h0 : strconv_FormatInt i_0 base_1 = some r) : PCalls Tryz.prog 171 [eI i_0, eI base_1] (· = .p (eS r)) := by
  obtain ⟨⟨rfl, h1, h2⟩, h3⟩ := ck_cut h0
  cases h3
  obtain ⟨u, rfl⟩ : ∃ u : Nat, i_0 = u := ⟨i_0.toNat, by omega⟩
  refine PCalls.of_calls (l := [.int .i64 u, .int .i64 16]) fun w st hok => (fint' u (by omega) w (glob_int hok.gl rfl (by kernel_rfl))).mono ?_
  rintro e w' ⟨rfl, hB⟩
  exact ⟨_, rfl, hB, fun _ => .p (.val _)⟩
end Go.Ab

set_option linter.unusedVariables false
namespace Go.Ab
open Go.Proofs Go.RowKit Go
/-! ### What is read -/
theorem decN (n b0 b1 b2 b3 : Nat) (hn : 1 ≤ n) (h0 : b0 < 256) : 1 ≤ (Lib.decodeN n b0 b1 b2 b3).2 ∧ (Lib.decodeN n b0 b1 b2 b3).2 ≤ n ∧ (Lib.decodeN n b0 b1 b2 b3).2 ≤ 4 ∧
    ((Lib.decodeN n b0 b1 b2 b3).1 < 128 → (Lib.decodeN n b0 b1 b2 b3).2 = 1 ∧ (Lib.decodeN n b0 b1 b2 b3).1 = b0) ∧
    (128 ≤ (Lib.decodeN n b0 b1 b2 b3).1 → 128 ≤ b0 ∧ (2 ≤ (Lib.decodeN n b0 b1 b2 b3).2 → 128 ≤ b1) ∧ (3 ≤ (Lib.decodeN n b0 b1 b2 b3).2 → 128 ≤ b2) ∧ (4 ≤ (Lib.decodeN n b0 b1 b2 b3).2 → 128 ≤ b3)) ∧
    ((Lib.decodeN n b0 b1 b2 b3).1 < 55296 ∨ (57343 < (Lib.decodeN n b0 b1 b2 b3).1 ∧ (Lib.decodeN n b0 b1 b2 b3).1 ≤ 1114111)) := by
  unfold Lib.decodeN
  repeat' split
  all_goals (refine ⟨by dsimp only; omega, by dsimp only; omega, by dsimp only; omega, fun h => ⟨by dsimp only at h ⊢; first | done | omega, by dsimp only at h ⊢; first | done | omega⟩, fun h => ⟨by dsimp only at h; omega, fun k => by dsimp only at k; omega, fun k => by dsimp only at k; omega, fun k => by dsimp only at k; omega⟩, by dsimp only; omega⟩)
end Go.Ab
namespace Go.Ab
open Go.Proofs Go.RowKit Go

abbrev dots : ByteArray := { data := #[46, 91] }

/-! ### An iterator that lies anywhere -/
theorem next_at {P : Program} (w : World) (b : Nat) (s : ByteArray) (pos : Nat) (ty : TypeId) (h : pos < s.size) (hb : w.heap[b]? = some (.stringIter s pos)) :
    (Instr.next (.pointer (some ⟨b, 0, none⟩)) true ty).run P w = .ok (.tuple #[.bool true, .int .i64 pos, .int .i32 (Utf8.decode s pos).1]) { w with heap := w.heap.setIfInBounds b (.stringIter s (pos + (Utf8.decode s pos).2)) } := by
  simp only [Instr.next, getObj, setObj, Sem.run_bind, Sem.run, hb, Result.andThen, h, if_true]
  simp [goInt, Sem.run, hb]
theorem next_out {P : Program} (w : World) (b : Nat) (s : ByteArray) (pos : Nat) (ty : TypeId) (h : ¬ pos < s.size) (hb : w.heap[b]? = some (.stringIter s pos)) :
    (Instr.next (.pointer (some ⟨b, 0, none⟩)) true ty).run P w = .ok (.tuple #[.bool false]) w := by
  simp [Instr.next, getObj, Sem.run, hb, h]

theorem get_data (s : ByteArray) (k : Nat) (h : k < s.size) : s.data.toList[k]? = some (s.get! k) := by
  have : s.get! k = s[k]'h := by
    simp [ByteArray.get!, getElem!_pos, h]
    rfl
  rw [this]; exact Lib.data_getElem? s k h

/-- What a step over s reads at i. -/
theorem step_any (s : ByteArray) (i : Nat) (h : i < s.size) : ∃ c k : Nat, Utf8.decode s i = (c, k) ∧ 1 ≤ k ∧ i + k ≤ s.size ∧ (c < 128 → k = 1 ∧ ∃ x : UInt8, s.data.toList[i]? = some x ∧ c = x.toNat) ∧
    (128 ≤ c → ∀ j b, i ≤ j → j < i + k → s.data.toList[j]? = some b → 128 ≤ b.toNat) ∧ (c < 55296 ∨ (57343 < c ∧ c ≤ 1114111)) := by
  refine ⟨(Utf8.decode s i).1, (Utf8.decode s i).2, rfl, ?_⟩
  rw [Lib.decode_at]
  obtain ⟨h1, h2, h3, h4, h5, h6⟩ := decN (s.size - i) (s.get! i).toNat (s.get! (i + 1)).toNat (s.get! (i + 2)).toNat (s.get! (i + 3)).toNat (by omega) (UInt8.toNat_lt _)
  refine ⟨h1, by omega, fun q => ⟨(h4 q).1, s.get! i, get_data s i h, (h4 q).2⟩, fun q j b a1 a2 hb => ?_, h6⟩
  obtain ⟨q0, q1, q2, q3⟩ := h5 q
  have hj : j < s.size := by omega
  rw [get_data s j hj] at hb
  cases hb
  obtain rfl | rfl | rfl | rfl : j = i ∨ j = i + 1 ∨ j = i + 2 ∨ j = i + 3 := by omega
  · exact q0
  · exact q1 (by omega)
  · exact q2 (by omega)
  · exact q3 (by omega)

theorem enc_forms (c : Nat) (h : 128 ≤ c) (hv : Lib.validRune c = true) : (Utf8.encode (c : Int) = ⟨#[UInt8.ofNat (0xC0 + c / 64), UInt8.ofNat (0x80 + c % 64)]⟩) ∨ ((Utf8.encode (c : Int)).size = 3 ∨ (Utf8.encode (c : Int)).size = 4) := by
  have hv2 : Utf8.valid (c : Int) = true := by
    simp only [Lib.validRune, decide_eq_true_eq] at hv
    simp only [Utf8.valid, Bool.or_eq_true, Bool.and_eq_true, decide_eq_true_eq]
    omega
  simp only [Utf8.encode, hv2, if_true, Int.toNat_natCast]
  rw [if_neg (by omega)]
  by_cases h1 : c < 2048
  · rw [if_pos h1]; exact .inl rfl
  · rw [if_neg h1]
    by_cases h2 : c < 65536
    · rw [if_pos h2]; exact .inr (.inl rfl)
    · rw [if_neg h2]; exact .inr (.inr rfl)
theorem not91 (c : Nat) : (UInt8.ofNat (0x80 + c % 64)).toNat ≠ 91 := by
  rw [UInt8.toNat_ofNat']
  omega

theorem below_drewN' {B : Nat} {a w : World} (h : Below B a w) (n : Nat) : Below B a (w.drewN n) := h.trans ⟨rfl, rfl, rfl, Nat.le_refl _, fun _ _ => rfl⟩
theorem ib_end (c : Int) (w : World) : Calls Tryz.prog 141 #[.string ByteArray.empty, .int .u8 c] w fun e w' => e = .returned (.int .i64 (-1)) ∧ w' = w := Tryz.strings_IndexByte ByteArray.empty c w

set_option maxHeartbeats 1000000 in
set_option maxRecDepth 1000000 in
/-- A code point of two bytes is not in a text of two bytes whose last is another. -/
theorem ir_two (s rs : ByteArray) (c : Nat) (h : 128 ≤ c) (hv : Lib.validRune c = true) (hne : c ≠ 65533) (henc : Utf8.encode (c : Int) = rs) (hs : s.size = 2) (hr : rs.size = 2)
    (h1 : (s[1]'(by omega)) ≠ (rs[1]'(by omega))) (w : World) :
    Calls Tryz.prog 161 #[.string s, .int .i32 c] w fun e w' => e = .returned (.int .i64 (-1)) ∧ Below w.heap.size w w' := by
  have hlt : decide ((c : Int) < 128) = false := decide_eq_false (by omega)
  have hne' : ((c : Int) == 65533) = false := beq_eq_false_iff_ne.2 (by omega)
  have h0 : decide ((0 : Int) ≤ (c : Int)) = true := decide_eq_true (by omega)
  obtain ⟨x, hx⟩ : ∃ x, s[1]'(by omega) = x := ⟨_, rfl⟩
  obtain ⟨y, hy⟩ : ∃ y, rs[1]'(by omega) = y := ⟨_, rfl⟩
  rw [hx, hy] at h1
  have hsz : (s.size : Int) = 2 := by omega
  have hrz : (rs.size : Int) = 2 := by omega
  have hb : ((x.toNat : Int) != (y.toNat : Int)) = true := by
    rw [bne_iff_ne]
    intro e
    exact h1 (UInt8.toNat_inj.1 (by omega))
  go_enter Tryz.func161, Tryz.ntmps161
  go_wp2_with (go_at_call 186; refine (Tryz.utf8_ValidRune _ _).mono ?_; rintro e w' ⟨rfl, hw⟩; rw [hw, hv])
  refine wp_scope_straight ?_
  go_wp2
  go_loopg [9] 0 (fun g v wx => g = 0 ∧ v = .int .i64 1 ∧ wx = w)
  case atStart => exact ⟨rfl, by go_num, rfl⟩
  case round =>
    obtain ⟨rfl, rfl, rfl⟩ := hrel
    go_wp2
    refine wp_scope_straight ?_
    go_wp2
    go_big_quiet (fail)
    go_wp2
    go_big_quiet ((go_at_call 141; exact (ib_end _ _).mono (fun _ _ h => ⟨h.1, _, h.2⟩)))
    go_wp2
    simp only [Exit.noGoto, Exit.inBlock, Exit.then]
    go_ret
    exact ⟨rfl, below_drewN' (Below.refl _ _) _⟩

set_option maxHeartbeats 1000000 in
set_option maxRecDepth 1000000 in
/-- A code point of more bytes than the text has is not in it. -/
theorem ir_more (s rs : ByteArray) (c : Nat) (h : 128 ≤ c) (hv : Lib.validRune c = true) (hne : c ≠ 65533) (henc : Utf8.encode (c : Int) = rs) (hs : s.size = 2) (hr : 3 ≤ rs.size) (hr4 : rs.size ≤ 4) (w : World) :
    Calls Tryz.prog 161 #[.string s, .int .i32 c] w fun e w' => e = .returned (.int .i64 (-1)) ∧ Below w.heap.size w w' := by
  have hlt : decide ((c : Int) < 128) = false := decide_eq_false (by omega)
  have hne' : ((c : Int) == 65533) = false := beq_eq_false_iff_ne.2 (by omega)
  have h0 : decide ((0 : Int) ≤ (c : Int)) = true := decide_eq_true (by omega)
  obtain ⟨i, hi⟩ : ∃ i : Nat, rs.size = i + 1 := ⟨rs.size - 1, by omega⟩
  have hsz : (s.size : Int) = 2 := by omega
  have hrz : (rs.size : Int) = (i : Int) + 1 := by omega
  have hlast : IntKind.i64.wrap ((i : Int) + 1 - 1) = (i : Int) := by rw [wrap_small _ (by omega) (by omega)]; omega
  have hend : decide ((i : Int) < 2) = false := decide_eq_false (by omega)
  go_enter Tryz.func161, Tryz.ntmps161
  go_wp2_with (go_at_call 186; refine (Tryz.utf8_ValidRune _ _).mono ?_; rintro e w' ⟨rfl, hw⟩; rw [hw, hv])
  refine wp_scope_straight ?_
  go_wp2
  go_loopg [9] 0 (fun g v wx => g = 0 ∧ v = .int .i64 i ∧ wx = w)
  case atStart => exact ⟨rfl, by first | rfl | (congr 1; omega), rfl⟩
  case round =>
    obtain ⟨rfl, rfl, rfl⟩ := hrel
    go_wp2
    simp only [Exit.noGoto, Exit.inBlock, Exit.then]
    go_ret
    exact ⟨rfl, Below.refl _ _⟩

set_option maxHeartbeats 1000000 in
set_option maxRecDepth 1000000 in
/-- U+FFFD is not in an ASCII text. -/
theorem ir_err (w : World) :
    Calls Tryz.prog 161 #[.string dots, .int .i32 65533] w fun e w' => e = .returned (.int .i64 (-1)) ∧ Below w.heap.size w w' := by
  generalize hs : dots = s
  have hz : s.size = 2 := by rw [← hs]; rfl
  have ha : ∀ i (hi : i < s.size), (s[i]'hi).toNat < 128 := by
    subst hs
    intro i hi
    have : i = 0 ∨ i = 1 := by have : i < 2 := hi; omega
    rcases this with rfl | rfl
    · show (46 : UInt8).toNat < 128; decide
    · show (91 : UInt8).toNat < 128; decide
  go_enter Tryz.func161, Tryz.ntmps161
  go_wp2
  go_loopg [5, 6] 2 (fun g _ _ wx => ∃ i : Nat, i + g = 2 ∧ wx = w.iter s i)
  case atStart => exact ⟨0, rfl, rfl⟩
  case round =>
    obtain ⟨i, hig, rfl⟩ := hrel
    cases gk with
    | zero =>
      obtain rfl : i = 2 := by omega
      have hnx := run_next_end (P := Tryz.prog) w s 2
      rw [hz] at hnx
      go_wp2
      go_ret
      exact ⟨rfl, (Below.refl _ w).alloc (Nat.le_refl _) _⟩
    | succ g =>
      have hi : i < s.size := by omega
      have hx128 := ha i hi
      have hnx := fun ty => run_next_ascii (P := Tryz.prog) w s i ty hi hx128
      obtain ⟨x, hx⟩ : ∃ x : UInt8, s[i]'hi = x := ⟨_, rfl⟩
      rw [hx] at hnx hx128
      have hne : ((x.toNat : Int) == 65533) = false := beq_eq_false_iff_ne.2 (by omega)
      go_wp2
      go_roundg g
      case measure => omega
      case rel => exact ⟨i + 1, by omega, rfl⟩
end Go.Ab

set_option linter.unusedVariables false
namespace Go.Ab
open Go.Proofs Go.RowKit Go

theorem ir_dots (c : Nat) (hv : c < 55296 ∨ (57343 < c ∧ c ≤ 1114111)) (h : 128 ≤ c) (w : World) :
    Calls Tryz.prog 161 #[.string dots, .int .i32 c] w fun e w' => e = .returned (.int .i64 (-1)) ∧ Below w.heap.size w w' := by
  have hv1 : Lib.validRune (c : Int) = true := by
    simp only [Lib.validRune, decide_eq_true_eq]
    omega
  by_cases hne : c = 65533
  · subst hne; exact ir_err w
  · rcases enc_forms c h hv1 with e | e
    · refine ir_two dots _ c h hv1 hne e rfl rfl ?_ w
      have h91 := not91 c
      intro q
      apply h91
      have q' : (91 : UInt8) = UInt8.ofNat (0x80 + c % 64) := q
      rw [← q']
      rfl
    · exact ir_more dots _ c h hv1 hne rfl rfl (by omega) (by omega) w

theorem noAny_skip {s cs : List UInt8} {i k : Nat} (hcs : ∀ b, cs.contains b = true → b.toNat < 128) (h : Lib.NoAny s cs i) (hk : ∀ j b, i ≤ j → j < i + k → s[j]? = some b → 128 ≤ b.toNat) : Lib.NoAny s cs (i + k) := fun j b hj hb => by
  by_cases q : j < i
  · exact h j b q hb
  · cases hc : cs.contains b with
    | false => rfl
    | true => have := hk j b (by omega) hj hb; have := hcs b hc; omega

theorem below_set {B : Nat} {a w : World} (h : Below B a w) {b : Nat} (hb : B ≤ b) (o : Obj) : Below B a { w with heap := w.heap.setIfInBounds b o } :=
  h.trans ⟨rfl, rfl, rfl, by simp, fun k hk => by
    show (w.heap.setIfInBounds b o)[k]? = _
    rw [Array.getElem?_setIfInBounds_ne (by omega)]⟩

set_option maxHeartbeats 8000000 in
set_option maxRecDepth 1000000 in
theorem indexAny_short (s : ByteArray) (w : World) (h8 : s.size ≤ 8) :
    Calls Tryz.prog 136 #[.string s, .string dots] w fun e w' => e = .returned (.int .i64 (Lib.indexAny s.data.toList [46, 91])) ∧ Below w.heap.size w w' := by
  have hn1 : ((dots.size : Int) == 1) = false := rfl
  have h8z : decide ((8 : Int) < (s.size : Int)) = false := decide_eq_false (by omega)
  have hcs : ∀ b, ([46, 91] : List UInt8).contains b = true → b.toNat < 128 := by
    intro b hb
    simp at hb
    rcases hb with rfl | rfl <;> decide
  have hemp : ({ data := #[46, 91] } : ByteArray).toList.isEmpty = false := by rw [Lib.toList_data]; rfl
  go_enter Tryz.func136, Tryz.ntmps136
  go_wp2_with (go_at_call 162; refine (Tryz.strings_shouldUseASCIISet _ _).mono ?_; rintro e w' ⟨rfl, hw⟩; rw [hw, h8z])
  go_loopg [9, 10] s.size (fun g _ _ wx => ∃ i : Nat, i + g = s.size ∧ wx.heap[w.heap.size]? = some (.stringIter s i) ∧ Hid (Below w.heap.size w wx) ∧ Hid (Lib.NoAny s.data.toList [46, 91] i))
  case atStart => exact ⟨0, by omega, by simp [World.iter_heap], (Below.refl _ w).alloc (Nat.le_refl _) _, Lib.NoAny.zero _ _⟩
  case round =>
    obtain ⟨i, hig, hit, HB, HN⟩ := hrel
    cases gk with
    | zero =>
      obtain rfl : i = s.size := by omega
      have hnx := fun ty => next_out (P := Tryz.prog) wr w.heap.size s s.size ty (by omega) hit
      go_wp2
      go_ret
      exact ⟨by rw [Lib.indexAny_none (by rw [← Lib.size_eq]; exact HN.out)]; rfl, HB.out⟩
    | succ g =>
      have hi : i < s.size := by omega
      obtain ⟨c, k, hd, hk1, hk2, hlow, hhigh, hval⟩ := step_any s i hi
      have hnx := fun ty => next_at (P := Tryz.prog) wr w.heap.size s i ty hi hit
      rw [hd] at hnx
      have hlt : w.heap.size < wr.heap.size := by
        rcases Nat.lt_or_ge w.heap.size wr.heap.size with h | h
        · exact h
        · rw [Array.getElem?_eq_none h] at hit; cases hit
      obtain ⟨W1, hW1⟩ : ∃ W1, ({ wr with heap := wr.heap.setIfInBounds w.heap.size (.stringIter s (i + k)) } : World) = W1 := ⟨_, rfl⟩
      have HI : Hid (W1.heap[w.heap.size]? = some (.stringIter s (i + k))) := by
        rw [← hW1]
        show (wr.heap.setIfInBounds w.heap.size (.stringIter s (i + k)))[w.heap.size]? = _
        rw [Array.getElem?_setIfInBounds_self_of_lt hlt]
      have HL : Hid (w.heap.size < W1.heap.size) := by
        rw [← hW1]; show w.heap.size < (wr.heap.setIfInBounds _ _).size; simp; exact hlt
      have HB1 : Hid (Below w.heap.size w W1) := by rw [← hW1]; exact below_set HB.out (Nat.le_refl _) _
      have Hk : Hid (∃ g', i + k + g' = s.size ∧ g' ≤ g) := ⟨s.size - (i + k), by omega, by omega⟩
      simp only [hW1] at hnx
      clear hW1 hit HB hd
      by_cases h128 : c < 128
      · obtain ⟨rfl, x, hx, rfl⟩ := hlow h128
        have Hx : Hid (s.data.toList[i]? = some x) := hx
        have HR : Hid _ := Tryz.strings_IndexRune_ascii dots (x.toNat : Int) W1 (by omega) (by omega)
        have hback : ((x.toNat : Int)).toNat.toUInt8 = x := by simp
        rw [hback] at HR
        have hcon := Lib.contains_iff_indexByte [46, 91] x
        rw [show dots.data.toList = [46, 91] from rfl] at HR
        clear hx hlow hhigh hval hback
        cases hin : ([46, 91] : List UInt8).contains x
        · rw [hin] at hcon
          generalize Lib.indexByte [46, 91] x = v at HR hcon
          have hlt : decide ((0 : Int) ≤ v) = false := hcon.symm
          clear hcon
          go_wp2_with (go_at_call 161; refine Calls.mono HR.out ?_; rintro e w' ⟨rfl, hw'⟩; rw [hw'])
          go_roundg g
          case measure => omega
          case rel => exact ⟨i + 1, by omega, HI.out, HB1, HN.out.succ Hx.out hin⟩
        · rw [hin] at hcon
          generalize Lib.indexByte [46, 91] x = v at HR hcon
          have hge : decide ((0 : Int) ≤ v) = true := hcon.symm
          clear hcon
          go_wp2_with (go_at_call 161; refine Calls.mono HR.out ?_; rintro e w' ⟨rfl, hw'⟩; rw [hw'])
          go_ret
          exact ⟨by rw [Lib.indexAny_hit HN.out Hx.out hin]; rfl, HB1.out⟩
      · have HR : Hid _ := ir_dots c hval (by omega) W1
        have HN2 : Hid _ := noAny_skip hcs HN.out (hhigh (by omega))
        clear hlow hhigh hval
        go_wp2_with (go_at_call 161; refine Calls.mono HR.out ?_; rintro e w' ⟨rfl, hB'⟩)
        have h1 : w'.heap[w.heap.size]? = some (.stringIter s (i + k)) := (hB'.block _ HL.out).trans HI.out
        obtain ⟨g', hg', hg''⟩ := Hk.out
        go_roundg g'
        case measure => omega
        case rel => exact ⟨i + k, hg', h1, HB1.out.trans (hB'.mono HB1.out.size), HN2⟩

theorem cells_set : Tryz.zeroCells211 = Array.replicate 256 (.bool false) := by kernel_rfl
theorem zero_set (w : World) : (zeroValue 211).run Tryz.prog w = .ok (.agg (Array.replicate 256 (.bool false))) w := by
  rw [← cells_set]; exact Tryz.zeroValue211 w
theorem dots_ascii (j : Nat) (b : UInt8) (h : dots.data.toList[j]? = some b) : b.toNat < 128 := by
  match j, h with
  | 0, h => cases h; decide
  | 1, h => cases h; decide
  | n + 2, h => cases h

def strings_IndexAny (s cs : Bytes) : Option Int := ck (cs = [46, 91] ∧ s.length < 4294967281) <| some (Lib.indexAny s cs)
theorem strings_IndexAny_ok (s_0 chars_1 : Bytes) (r : Int) (h0 : strings_IndexAny s_0 chars_1 = some r) : PCalls Tryz.prog 136 [eS s_0, eS chars_1] (· = .p (eI r)) := by
  obtain ⟨⟨rfl, hl⟩, h1⟩ := ck_cut h0
  cases h1
  refine PCalls.of_calls (l := [.string (str s_0), .string dots]) fun w st hok => ?_
  have hz : (str s_0).size = s_0.length := str_size _
  by_cases h8 : (str s_0).size ≤ 8
  · refine (indexAny_short (str s_0) w h8).mono ?_
    rintro e w' ⟨rfl, hB⟩
    rw [str_list]
    exact ⟨_, rfl, hB, fun _ => .p (.val _)⟩
  · refine (Tryz.strings_IndexAny_long zero_set (str s_0) dots w (by decide) (by omega) (by omega) (by decide) dots_ascii).mono ?_
    rintro e w' ⟨rfl, rfl⟩
    rw [str_list]
    exact ⟨_, rfl, ((Below.refl _ w).alloc (Nat.le_refl _) _).alloc (by show w.heap.size ≤ (w.heap.push _).size; simp) _, fun _ => .p (.val _)⟩
end Go.Ab

set_option linter.unusedVariables false
