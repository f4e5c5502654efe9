/- Plain facts of chapter 06: numbers in decimal. No program in sight. Plain facts of chapter 06: code points and their bytes. No program in sight. Plain facts of chapter 06: literals, written. No program in sight. Plain facts of chapter 06: literals, read. No program in sight. Plain facts of chapter 06: literals, read whole. No program in sight. -/
import Derived.Test.YtijgdpmadidpaaaGreatDoorP06a
import Derived.Lib.MapLaws
import Derived.Lib.ValidLaws
set_option linter.unusedVariables false
set_option linter.unusedSimpArgs false
set_option linter.unnecessarySimpa false
namespace Go.Ab.R06
open Go.Ab Go.Ab.RB Go.Lib
def maxN : Int := 9007199254740992
end Go.Ab.R06
namespace Go.Ab.R06
open Go.Ab Go.Ab.RB Go.Lib
theorem wrap8 (x : Int) : IntKind.wrap .u8 x = x % 256 := by simp [IntKind.wrap, IntKind.bits, IntKind.signed]
theorem t63 : (List.range 256).all (fun n => iAnd .u8 (n : Int) 63 == ((n % 64 : Nat) : Int)) = true := by kernel_rfl
theorem tab {f g : Nat → Int} {m : Nat} (h : (List.range m).all (fun n => f n == g n) = true) (n : Nat) (hn : n < m) : f n = g n := eq_of_beq (List.all_eq_true.1 h n (List.mem_range.2 hn))
def runeOk (r : Int) : Prop := (0 ≤ r ∧ r < 55296) ∨ (57343 < r ∧ r ≤ 1114111)
theorem dec_facts (l : Bytes) (h : l ≠ []) : 1 ≤ (decodeL l).2 ∧ (decodeL l).2 ≤ l.length ∧ (¬ ((decodeL l).1 = 65533 ∧ (decodeL l).2 = 1) → runeOk ((decodeL l).1 : Int) ∧ encodeRune ((decodeL l).1 : Int) = l.take (decodeL l).2) := by
  have hl : 0 < l.length := List.length_pos_iff.2 h
  have hd := decN l.length (l.getD 0 0).toNat (l.getD 1 0).toNat (l.getD 2 0).toNat (l.getD 3 0).toNat (by omega) (UInt8.toNat_lt _)
  rw [← decodeL_N] at hd
  refine ⟨hd.1, hd.2.1, fun q => ⟨?_, encode_decode l h q⟩⟩
  have := hd.2.2.2.2.2
  unfold runeOk; omega
theorem valid_take (l : Bytes) (h : l ≠ []) : validD l = true ↔ ¬ ((decodeL l).1 = 65533 ∧ (decodeL l).2 = 1) ∧ validD (l.drop (decodeL l).2) = true := by
  rw [validD_step l h]
  by_cases q : (decodeL l).1 = 65533 ∧ (decodeL l).2 = 1
  · simp [q]
  · simp [q]
end Go.Ab.R06
namespace Go.Ab.R06
open Go.Ab Go.Ab.RB Go.Lib
theorem wstr (f x : Bytes) (h : f.length + x.length ≤ 100000000) : strings_Builder_WriteString (TBuilder.mk f) x = some ((x.length : Int), false, TBuilder.mk (f ++ x)) := by
  unfold strings_Builder_WriteString strings_Builder_copyCheck
  rw [Option.bind_some, ck_pos (by simp only; omega)]
theorem wbyte (f : Bytes) (b : UInt8) (h : f.length ≤ 100000000) : strings_Builder_WriteByte (TBuilder.mk f) (b.toNat : Int) = some (false, TBuilder.mk (f ++ [b])) := by
  have := b.toNat_lt
  unfold strings_Builder_WriteByte strings_Builder_copyCheck
  rw [Option.bind_some, ck_pos (by omega), ck_pos (by simp; omega), u8_byt]
theorem bstr (f : Bytes) (h : f.length ≤ 1000000000) : strings_Builder_String (TBuilder.mk f) = some (f, TBuilder.mk f) := by
  unfold strings_Builder_String
  rw [ck_pos (by simp only; omega)]
def escB (b : UInt8) : Bytes :=
  if b.toNat = 10 then [92, 110] else if b.toNat = 13 then [92, 114] else if b.toNat = 9 then [92, 116]
  else if b.toNat = 34 ∨ b.toNat = 92 then [92, b] else if b.toNat < 32 ∨ b.toNat = 127 then [92, 117, 123] ++ hexText b.toNat ++ [125] else [b]
def quoteP (s : Bytes) : Bytes := 34 :: (s.flatMap escB ++ [34])
theorem esc_n {b : UInt8} (h : b.toNat = 10) : escB b = [92, 110] := by unfold escB; rw [if_pos h]
theorem esc_r {b : UInt8} (h : b.toNat = 13) : escB b = [92, 114] := by unfold escB; rw [if_neg (by omega), if_pos h]
theorem esc_t {b : UInt8} (h : b.toNat = 9) : escB b = [92, 116] := by unfold escB; rw [if_neg (by omega), if_neg (by omega), if_pos h]
theorem esc_q {b : UInt8} (h : b.toNat = 34 ∨ b.toNat = 92) : escB b = [92, b] := by unfold escB; rw [if_neg (by omega), if_neg (by omega), if_neg (by omega), if_pos h]
theorem esc_u {b : UInt8} (h1 : b.toNat ≠ 10) (h2 : b.toNat ≠ 13) (h3 : b.toNat ≠ 9) (h : b.toNat < 32 ∨ b.toNat = 127) : escB b = [92, 117, 123] ++ hexText b.toNat ++ [125] := by
  unfold escB; rw [if_neg h1, if_neg h2, if_neg h3, if_neg (by omega), if_pos h]
theorem esc_b {b : UInt8} (h1 : b.toNat ≠ 34) (h2 : b.toNat ≠ 92) (h : ¬ (b.toNat < 32 ∨ b.toNat = 127)) : escB b = [b] := by
  unfold escB; rw [if_neg (by omega), if_neg (by omega), if_neg (by omega), if_neg (by omega), if_neg h]
theorem hexText_len (n : Nat) : 1 ≤ (hexText n).length ∧ (hexText n).length ≤ 2 := by
  unfold hexText; split <;> simp
theorem escB_len (b : UInt8) : 1 ≤ (escB b).length ∧ (escB b).length ≤ 6 := by
  have := hexText_len b.toNat
  unfold escB
  repeat' split
  all_goals (simp; try omega)
theorem flat_len (s : Bytes) : s.length ≤ (s.flatMap escB).length ∧ (s.flatMap escB).length ≤ 6 * s.length := by
  induction s with
  | nil => simp
  | cons b r ih => have := escB_len b; simp only [List.flatMap_cons, List.length_append, List.length_cons]; omega
theorem quote_l1 (s : Bytes) (hs : s.length ≤ 1000000) : ∀ (k i : Nat) (f : Bytes), i + k = s.length → f.length ≤ 6 * i + 1 → Ev2 (fun _ m => strlit_Quote_l1 s m (i : Int) f) (· = f ++ (s.drop i).flatMap escB) := by
  intro k
  induction k with
  | zero =>
    intro i f hi hf
    refine ev_round ?_
    simp only [strlit_Quote_l1]
    refine ev_ifF (by omega) (ev_some ?_)
    rw [List.drop_of_length_le (by omega)]; simp
  | succ k ih =>
    intro i f hi hf
    refine ev_round ?_
    simp only [strlit_Quote_l1]
    refine ev_ifT (by omega) (ev_ck (by omega) ?_)
    have hb : byt s i = ((s.getD i 0).toNat : Int) := byt_nat s i
    rw [hb]
    have hd : s.drop i = s.getD i 0 :: s.drop (i + 1) := by
      rw [List.getD_eq_getElem?_getD, List.getElem?_eq_getElem (by omega), Option.getD_some]
      exact List.drop_eq_getElem_cons (by omega)
    rw [hd, List.flatMap_cons]
    generalize s.getD i 0 = b
    have hbl := b.toNat_lt
    have he := escB_len b
    refine ev_to (f ++ escB b) ?_ ?_
    · refine ev_ite (fun h1 => ?_) (fun h1 => ev_ite (fun h2 => ?_) (fun h2 => ev_ite (fun h3 => ?_) (fun h3 => ?_)))
      · rw [esc_n (by omega)]
        exact ev_to _ (ev_const (wstr f [92, 110] (by simp only [List.length_cons, List.length_nil]; omega)) rfl) (ev_some rfl)
      · rw [esc_r (by omega)]
        exact ev_to _ (ev_const (wstr f [92, 114] (by simp only [List.length_cons, List.length_nil]; omega)) rfl) (ev_some rfl)
      · rw [esc_t (by omega)]
        exact ev_to _ (ev_const (wstr f [92, 116] (by simp only [List.length_cons, List.length_nil]; omega)) rfl) (ev_some rfl)
      refine ev_to (decide (b.toNat = 34 ∨ b.toNat = 92)) ?_ ?_
      · by_cases h : b.toNat = 34
        · exact ev_ifT (by omega) (ev_some (by simp [h]))
        · exact ev_ifF (by omega) (ev_some (eqB (by rw [decide_eq_true_eq, decide_eq_true_eq]; omega)))
      by_cases h4 : b.toNat = 34 ∨ b.toNat = 92
      · rw [esc_q h4]
        refine ev_ifT (by simp [h4]) ?_
        refine ev_to _ (ev_const (wbyte f 92 (by omega)) rfl) (ev_to _ (ev_const (wbyte (f ++ [92]) b (by simp only [List.length_append, List.length_cons, List.length_nil]; omega)) rfl) (ev_some ?_))
        simp
      refine ev_ifF (by simp only [decide_eq_true_eq]; exact h4) ?_
      refine ev_to (decide (b.toNat < 32 ∨ b.toNat = 127)) ?_ ?_
      · by_cases h : b.toNat < 32
        · exact ev_ifT (by omega) (ev_some (by simp [h]))
        · exact ev_ifF (by omega) (ev_some (eqB (by rw [decide_eq_true_eq, decide_eq_true_eq]; omega)))
      by_cases h5 : b.toNat < 32 ∨ b.toNat = 127
      · rw [esc_u (by omega) (by omega) (by omega) h5]
        refine ev_ifT (by simp [h5]) (ev_ck (inR_of (by omega) (by omega)) ?_)
        have hx : strconv_FormatInt (b.toNat : Int) 16 = some (hexText b.toNat) := by
          unfold strconv_FormatInt
          rw [ck_pos ⟨rfl, by omega, by omega⟩]; rfl
        have hxl := hexText_len b.toNat
        refine ev_to _ (ev_const hx rfl) (ev_ck (by simp only [List.length_cons, List.length_nil]; omega) (ev_ck (by simp only [List.length_append, List.length_cons, List.length_nil]; omega) ?_))
        exact ev_to _ (ev_const (wstr f _ (by simp only [List.length_append, List.length_cons, List.length_nil]; omega)) rfl) (ev_some (by simp))
      · rw [esc_b (by omega) (by omega) h5]
        refine ev_ifF (by simp only [decide_eq_true_eq]; exact h5) ?_
        exact ev_to _ (ev_const (wbyte f b (by omega)) rfl) (ev_some rfl)
    · refine ev_ck (inR_of (by omega) (by omega)) ?_
      have := ih (i + 1) (f ++ escB b) (by omega) (by rw [List.length_append]; omega)
      rw [Int.natCast_add, Int.natCast_one] at this
      simpa using this
theorem quote_ev (s : Bytes) (hs : s.length ≤ 1000000) : Ev2 (fun n _ => strlit_Quote n s) (· = quoteP s) := by
  simp only [strlit_Quote]
  have hf := flat_len s
  refine ev_to _ (ev_const (wbyte [] 34 (by simp)) rfl) ?_
  have l := quote_l1 s hs s.length 0 [34] (by omega) (by simp)
  rw [List.drop_zero] at l
  refine ev_to _ (ev_loop l) ?_
  refine ev_to _ (ev_const (wbyte _ 34 (by simp only [List.length_append, List.length_cons, List.length_nil]; omega)) rfl) (ev_to _ (ev_const (bstr _ (by simp only [List.length_append, List.length_cons, List.length_nil]; omega)) rfl) (ev_some ?_))
  simp [quoteP]
theorem sValid (s : Bytes) : strlit_Valid s = some (decide (s.length ≤ 4096) && validD s) := by
  unfold strlit_Valid
  by_cases h : (s.length : Int) ≤ 4096
  · have hv : unicode_utf8_ValidString s = some (validD s) := by unfold unicode_utf8_ValidString; exact ck_pos (by omega)
    rw [if_pos h, hv]
    simp; omega
  · rw [if_neg h]
    simp; intro q; omega
end Go.Ab.R06
namespace Go.Ab.R06
open Go.Ab Go.Ab.RB Go.Lib
def hexs : Bytes := [48, 49, 50, 51, 52, 53, 54, 55, 56, 57, 97, 98, 99, 100, 101, 102]
theorem u8nat {b : UInt8} {n : Nat} (hn : n < 256) : b.toNat = n ↔ b = UInt8.ofNat n := by
  constructor
  · intro h; apply UInt8.toNat_inj.1; rw [h, UInt8.toNat_ofNat']; omega
  · intro h; rw [h, UInt8.toNat_ofNat']; omega
end Go.Ab.R06
namespace Go.Ab.R06
open Go.Ab Go.Ab.RB Go.Lib
def badR (c : Nat × Nat) : Prop := (c.1 = 65533 ∧ c.2 = 1) ∨ c.1 < 32 ∨ c.1 = 127
instance (c : Nat × Nat) : Decidable (badR c) := inferInstanceAs (Decidable (_ ∨ _))
end Go.Ab.R06
