/- Contracts of library functions, out of the kit's shelf, over abstract values. -/
import Derived.Test.YtijgdpmadidpaaaGreatDoorAbAd
import Derived.Test.YtijgdpmadidpaaaGreatDoorSh
import Derived.Test.YtijgdpmadidpaaaGreatDoorTy
import Derived.Lib.AppendIntMem
set_option linter.unusedSimpArgs false
set_option linter.unnecessarySimpa false
set_option linter.unusedVariables false
namespace Go.Ab
open Go.Proofs Go.RowKit

def strings_IndexByte (s : Bytes) (c : Int) : Option Int := some (Lib.indexByte s c.toNat.toUInt8)
theorem strings_IndexByte_ok (s_0 : Bytes) (c_1 : Int) (r : Int) (h0 : strings_IndexByte s_0 c_1 = some r) : PCalls Tryz.prog 73 [eS s_0, eK .u8 c_1] (· = .p (eI r)) := by
  cases h0
  refine PCalls.of_calls (l := [.string (str s_0), .int .u8 c_1]) fun w st hok => (Tryz.strings_IndexByte _ _ w).mono ?_
  rintro e w' ⟨rfl, rfl⟩
  rw [str_list]
  exact ⟨_, rfl, below_refl _, fun _ => .p (.val _)⟩

def unicode_utf8_ValidRune (r : Int) : Option Bool := some (Lib.validRune r)
theorem unicode_utf8_ValidRune_ok (r_0 : Int) (r : Bool) (h0 : unicode_utf8_ValidRune r_0 = some r) : PCalls Tryz.prog 113 [eK .i32 r_0] (· = .p (eB r)) := by
  cases h0
  refine PCalls.of_calls (l := [.int .i32 r_0]) fun w st hok => (Tryz.utf8_ValidRune _ w).mono ?_
  rintro e w' ⟨rfl, rfl⟩
  exact ⟨_, rfl, below_refl _, fun _ => .p (.val _)⟩

theorem pair_rep {w : World} {g : Gh} {a b : Value} : ARep w g (.tuple [.p (.val a), .p (.val b)]) (.tuple #[a, b]) := by
  refine .tuple rfl fun i c v h1 h2 => ?_
  match i, h1, h2 with
  | 0, h1, h2 => simp at h1 h2; subst h1 h2; exact .p (.val _)
  | 1, h1, h2 => simp at h1 h2; subst h1 h2; exact .p (.val _)
  | n + 2, h1, _ => simp at h1

def strings_CutPrefix (s p : Bytes) : Option (Bytes × Bool) := some (Lib.trimPrefix s p, Lib.hasPrefix s p)
theorem strings_CutPrefix_ok (s_0 p_1 : Bytes) (r : Bytes × Bool) (h0 : strings_CutPrefix s_0 p_1 = some r) : PCalls Tryz.prog 69 [eS s_0, eS p_1] (· = .tuple [.p (eS r.1), .p (eB r.2)]) := by
  cases h0
  refine PCalls.of_calls (l := [.string (str s_0), .string (str p_1)]) fun w st hok => (Tryz.strings_CutPrefix _ _ w).mono ?_
  rintro e w' ⟨rfl, rfl⟩
  rw [str_list, str_list]
  exact ⟨_, rfl, below_refl _, fun _ => pair_rep⟩

def strings_HasPrefix (s p : Bytes) : Option Bool := some (Lib.hasPrefix s p)
theorem strings_HasPrefix_ok (s_0 p_1 : Bytes) (r : Bool) (h0 : strings_HasPrefix s_0 p_1 = some r) : PCalls Tryz.prog 71 [eS s_0, eS p_1] (· = .p (eB r)) := by
  cases h0
  refine PCalls.of_calls (l := [.string (str s_0), .string (str p_1)]) fun w st hok => (Tryz.strings_HasPrefix _ _ w).mono ?_
  rintro e w' ⟨rfl, rfl⟩
  rw [str_list, str_list]
  exact ⟨_, rfl, below_refl _, fun _ => .p (.val _)⟩

def strconv_Itoa (n : Int) : Option Bytes := ck (inR n) <| some (Lib.itoa n)
theorem strconv_Itoa_ok (i_0 : Int) (r : Bytes) (h0 : strconv_Itoa i_0 = some r) : PCalls Tryz.prog 65 [eI i_0] (· = .p (eS r)) := by
  obtain ⟨hr, h0⟩ := ck_cut h0
  cases h0
  refine PCalls.of_calls (l := [.int .i64 i_0]) fun w st hok => (Tryz.strconv_Itoa _ hr.1 hr.2 w (glob_tab hok.gl (g := 3) rfl (by kernel_rfl) (by kernel_rfl) (by decide))).mono ?_
  rintro e w' ⟨rfl, k, os, rfl⟩
  exact ⟨_, rfl, Lib.below_grow _ w (Nat.le_refl _) k os, fun _ => .p (.val _)⟩

theorem tab_first : (List.range 256).all (fun c => match glob1[c]? with | some (.int .u8 n) => n == (Lib.firstT c : Int) | _ => false) = true := by kernel_rfl
theorem tab_acc : (List.range 16).all (fun c => (match glob2[2 * c]? with | some (.int .u8 n) => n == (Lib.accLo c : Int) | _ => false) && (match glob2[2 * c + 1]? with | some (.int .u8 n) => n == (Lib.accHi c : Int) | _ => false)) = true := by kernel_rfl
theorem gc_of {o : Option GC} {m : Int} (h : (match o with | some (.int .u8 n) => n == m | _ => false) = true) : o = some (.int .u8 m) := by
  split at h
  · rw [eq_of_beq h]
  · cases h
theorem utf8Tabs {w : World} {st : Nat → Nat → Prop} (h : GlobOk w st) : Lib.Utf8Tabs 1 2 w := by
  refine ⟨fun c hc => glob_int h rfl (gc_of (List.all_eq_true.1 tab_first c (by simpa using hc))), fun i hi => ?_⟩
  have := List.all_eq_true.1 tab_acc i (by simpa using hi)
  simp only [Bool.and_eq_true] at this
  exact ⟨glob_int h rfl (gc_of this.1), glob_int h rfl (gc_of this.2)⟩
def unicode_utf8_DecodeRuneInString (s : Bytes) : Option (Int × Int) := some ((Lib.decodeGo (str s)).1, (Lib.decodeGo (str s)).2)
theorem unicode_utf8_DecodeRuneInString_ok (s_0 : Bytes) (r : Int × Int) (h0 : unicode_utf8_DecodeRuneInString s_0 = some r) : PCalls Tryz.prog 95 [eS s_0] (· = .tuple [.p (eK .i32 r.1), .p (eI r.2)]) := by
  cases h0
  refine PCalls.of_calls (l := [.string (str s_0)]) fun w st hok => (Tryz.utf8_DecodeRuneInString _ w (utf8Tabs hok.gl)).mono ?_
  rintro e w' ⟨rfl, hB⟩
  exact ⟨_, rfl, hB, fun _ => pair_rep⟩

def unicode_utf8_ValidString (s : Bytes) : Option Bool := ck (s.length ≤ 9223372036854775807) <| some (Lib.validD s)
theorem unicode_utf8_ValidString_ok (s_0 : Bytes) (r : Bool) (h0 : unicode_utf8_ValidString s_0 = some r) : PCalls Tryz.prog 83 [eS s_0] (· = .p (eB r)) := by
  obtain ⟨hl, h0⟩ := ck_cut h0
  cases h0
  refine PCalls.of_calls (l := [.string (str s_0)]) fun w st hok => (Tryz.utf8_ValidString _ w (by rw [str_size]; exact hl) (utf8Tabs hok.gl)).mono ?_
  rintro e w' ⟨rfl, hB⟩
  rw [str_list]
  exact ⟨_, rfl, hB, fun _ => .p (.val _)⟩

theorem below_bytes (w : World) (e : TypeId) (t : ByteArray) : Below w.heap.size w (Lib.bytesWorld w e t) :=
  ⟨rfl, rfl, rfl, by rw [Lib.bytesWorld_size]; omega, fun k hk => Lib.bytesWorld_at_old w e t k hk⟩
def strconv_ParseInt (s : Bytes) (b z : Int) : Option (Int × Bool) := ck (b = 10 ∧ z = 64 ∧ s.length ≤ 281474976710656) <| some (match Lib.parseIntB 64 s with | .ok v => (v, false) | .range => (Lib.intSat 64 s, true) | _ => (0, true))
theorem ife_rep {w : World} {g : Gh} {a : Int} {t : TypeId} {v : Value} : ARep w g (.tuple [.p (eI a), .p (eE true)]) (.tuple #[.int .i64 a, .iface t v]) := by
  refine .tuple rfl fun i c v h1 h2 => ?_
  match i, h1, h2 with
  | 0, h1, h2 => simp at h1 h2; subst h1 h2; exact .p (.val _)
  | 1, h1, h2 => simp at h1 h2; subst h1 h2; exact .p (.ifc _ _)
  | n + 2, h1, _ => simp at h1
theorem strconv_ParseInt_ok (s_0 : Bytes) (base_1 bitSize_2 : Int) (r : Int × Bool) (h0 : strconv_ParseInt s_0 base_1 bitSize_2 = some r) : PCalls Tryz.prog 101 [eS s_0, eI base_1, eI bitSize_2] (· = .tuple [.p (eI r.1), .p (eE r.2)]) := by
  obtain ⟨⟨rfl, rfl, hl⟩, h1⟩ := ck_cut h0
  have hsz : (str s_0).size ≤ 281474976710656 := by rw [str_size]; exact hl
  refine PCalls.of_calls (l := [.string (str s_0), .int .i64 10, .int .i64 64]) fun w st hok => ?_
  cases hp : Lib.parseIntB 64 s_0 with
  | ok v =>
    rw [hp] at h1; cases h1
    refine (Tryz.strconv_ParseInt_10_at64_ok (str s_0) (by omega) v (by rw [str_list]; exact hp) w).mono ?_
    rintro e w' ⟨rfl, h⟩
    refine ⟨_, rfl, ?_, fun _ => pair_rep⟩
    rcases h with rfl | ⟨t, rfl⟩
    · exact below_refl _
    · exact below_bytes _ _ _
  | range =>
    rw [hp] at h1; cases h1
    obtain ⟨t, v, hv⟩ := glob_ifc hok.gl (g := 5) (j := 0) rfl rfl
    refine (Tryz.strconv_ParseInt_10_at64_range (str s_0) hsz (by rw [str_list]; exact hp) _ w hv (.inr ⟨_, _, rfl⟩)).mono ?_
    rintro e w' ⟨N, rfl, _, _, hB⟩
    rw [str_list]
    exact ⟨_, rfl, hB, fun _ => ife_rep⟩
  | _ =>
    rw [hp] at h1; cases h1
    obtain ⟨t, v, hv⟩ := glob_ifc hok.gl (g := 4) (j := 0) rfl rfl
    refine (Tryz.strconv_ParseInt_10_at64_syntax (str s_0) hsz (by rw [str_list]; exact hp) _ w hv (.inr ⟨_, _, rfl⟩)).mono ?_
    rintro e w' ⟨N, rfl, _, _, hB⟩
    exact ⟨_, rfl, hB, fun _ => ife_rep⟩
end Go.Ab
