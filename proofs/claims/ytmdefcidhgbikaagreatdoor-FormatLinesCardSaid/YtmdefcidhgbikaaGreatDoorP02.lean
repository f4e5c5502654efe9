/- Plain facts of the layers 1 and 2 (numbers, string literals), and of bytes. No program in sight. -/
import Derived.Test.YtmdefcidhgbikaaGreatDoorR02
import Derived.Test.YtmdefcidhgbikaaGreatDoorAbEv
import Derived.Lib.MapLaws
import Derived.Lib.ValidLaws
set_option linter.unusedVariables false
set_option linter.unusedSimpArgs false
set_option linter.unnecessarySimpa false
namespace Go.Ab.R06
open Go.Ab Go.Ab.RB
section
variable {α β : Type} {P : α → Prop}
theorem ev_to {g : Nat → Nat → Option β} {k : Nat → Nat → β → Option α} (x : β) (h : Ev2 g (· = x)) (hk : Ev2 (fun n m => k n m x) P) : Ev2 (fun n m => (g n m).bind (k n m)) P :=
  ev_cut (· = x) h fun y hy => by subst hy; exact hk
theorem ev_ifd {p : Prop} [Decidable p] {f g : Nat → Nat → Option α} {x y : α} (h1 : p → Ev2 f (· = x)) (h2 : ¬p → Ev2 g (· = y)) : Ev2 (fun n m => if p then f n m else g n m) (· = if p then x else y) :=
  ev_ite (fun h => by simpa only [if_pos h] using h1 h) (fun h => by simpa only [if_neg h] using h2 h)
end
def letB (b : UInt8) : Bool := (decide (97 ≤ b.toNat) && decide (b.toNat ≤ 122)) || (decide (65 ≤ b.toNat) && decide (b.toNat ≤ 90)) || decide (b.toNat = 95)
def digB (b : UInt8) : Bool := decide (48 ≤ b.toNat) && decide (b.toNat ≤ 57)
def idB (b : UInt8) : Bool := letB b || digB b
def identB : Bytes → Bool
  | [] => false
  | b :: r => decide ((b :: r).length ≤ 64) && letB b && r.all idB
def okAt (s : Bytes) (i : Nat) : Bool := letB (s.getD i 0) || (decide (i ≠ 0) && digB (s.getD i 0))
def allN (p : Nat → Bool) : Nat → Nat → Bool
  | _, 0 => true
  | i, k + 1 => p i && allN p (i + 1) k
theorem allN_iff (p : Nat → Bool) : ∀ (k i : Nat), allN p i k = true ↔ ∀ j, i ≤ j → j < i + k → p j = true
  | 0, i => by simp [allN]; intro j h1 h2; omega
  | k + 1, i => by
    rw [allN, Bool.and_eq_true, allN_iff p k (i + 1)]
    constructor
    · rintro ⟨h1, h2⟩ j h3 h4
      by_cases e : j = i
      · rw [e]; exact h1
      · exact h2 j (by omega) (by omega)
    · intro h
      exact ⟨h i (by omega) (by omega), fun j h1 h2 => h j (by omega) (by omega)⟩
theorem or32 : (List.range 256).all (fun n => (decide ((97 : Int) ≤ iOr .u8 (n : Int) 32) && decide (iOr .u8 (n : Int) 32 ≤ 122)) == ((decide (97 ≤ n) && decide (n ≤ 122)) || (decide (65 ≤ n) && decide (n ≤ 90)))) = true := by kernel_rfl
theorem or_let (b : UInt8) : (97 ≤ iOr .u8 ((b.toNat : Nat) : Int) 32 ∧ iOr .u8 ((b.toNat : Nat) : Int) 32 ≤ 122) ↔ ((97 ≤ b.toNat ∧ b.toNat ≤ 122) ∨ (65 ≤ b.toNat ∧ b.toNat ≤ 90)) := by
  have h := List.all_eq_true.1 or32 b.toNat (List.mem_range.2 b.toNat_lt)
  have h := eq_of_beq h
  rw [Bool.eq_iff_iff] at h
  simpa using h
theorem letB_iff (b : UInt8) : letB b = true ↔ (97 ≤ b.toNat ∧ b.toNat ≤ 122) ∨ (65 ≤ b.toNat ∧ b.toNat ≤ 90) ∨ b.toNat = 95 := by
  simp [letB, or_assoc]
theorem digB_iff (b : UInt8) : digB b = true ↔ 48 ≤ b.toNat ∧ b.toNat ≤ 57 := by simp [digB]
theorem eqB {a b : Bool} (h : a = true ↔ b = true) : a = b := Bool.eq_iff_iff.2 h
theorem okAt_iff (s : Bytes) (i : Nat) : okAt s i = true ↔ letB (s.getD i 0) = true ∨ (i ≠ 0 ∧ digB (s.getD i 0) = true) := by simp [okAt]
theorem identB_iff (s : Bytes) : identB s = true ↔ s ≠ [] ∧ s.length ≤ 64 ∧ allN (okAt s) 0 s.length = true := by
  rw [allN_iff]
  cases s with
  | nil => simp [identB]
  | cons b r =>
    simp only [identB, Bool.and_eq_true, decide_eq_true_eq, List.all_eq_true]
    constructor
    · rintro ⟨⟨h1, h2⟩, h3⟩
      refine ⟨by simp, h1, fun j _ hj => ?_⟩
      rw [okAt_iff]
      cases j with
      | zero => exact .inl h2
      | succ j =>
        have hm : r.getD j 0 ∈ r := by
          rw [List.getD_eq_getElem?_getD, List.getElem?_eq_getElem (by simp at hj; omega)]
          exact List.getElem_mem _
        have := h3 _ hm
        simp only [idB, Bool.or_eq_true] at this
        rcases this with h | h
        · exact .inl h
        · exact .inr ⟨by omega, h⟩
    · rintro ⟨_, h1, h2⟩
      refine ⟨⟨h1, ?_⟩, fun x hx => ?_⟩
      · have := (okAt_iff _ _).1 (h2 0 (by omega) (by simp))
        simpa using this
      · obtain ⟨j, hj, rfl⟩ := List.getElem_of_mem hx
        have := (okAt_iff _ _).1 (h2 (j + 1) (by omega) (by simp; omega))
        rw [show (b :: r).getD (j + 1) 0 = r[j] by simp [hj]] at this
        simp only [idB, Bool.or_eq_true]
        rcases this with h | h
        · exact .inl h
        · exact .inr h.2
theorem identB_iff2 (s : Bytes) : identB s = true ↔ s ≠ [] ∧ s.length ≤ 64 ∧ letB (s.getD 0 0) = true ∧ allN (fun j => idB (s.getD j 0)) 0 s.length = true := by
  rw [identB_iff, allN_iff, allN_iff]
  constructor
  · rintro ⟨h1, h2, h3⟩
    have hl : 0 < s.length := List.length_pos_iff.2 h1
    refine ⟨h1, h2, ?_, fun j _ hj => ?_⟩
    · have := (okAt_iff s 0).1 (h3 0 (by omega) (by omega))
      simpa using this
    · have := (okAt_iff s j).1 (h3 j (by omega) hj)
      simp only [idB, Bool.or_eq_true]
      rcases this with h | h
      · exact .inl h
      · exact .inr h.2
  · rintro ⟨h1, h2, h3, h4⟩
    refine ⟨h1, h2, fun j _ hj => (okAt_iff s j).2 ?_⟩
    have := h4 j (by omega) hj
    simp only [idB, Bool.or_eq_true] at this
    by_cases e : j = 0
    · subst e; exact .inl h3
    · rcases this with h | h
      · exact .inl h
      · exact .inr ⟨e, h⟩
end Go.Ab.R06
namespace Go.Ab.R06
open Go.Ab Go.Ab.RB Go.Lib
def decV (acc : Nat) (l : Bytes) : Nat := l.foldl (fun a b => a * 10 + (b.toNat - 48)) acc
theorem decV_nil (a : Nat) : decV a [] = a := rfl
theorem decV_cons (a : Nat) (b : UInt8) (l : Bytes) : decV a (b :: l) = decV (a * 10 + (b.toNat - 48)) l := by simp only [decV, List.foldl_cons]
theorem decV_append (a : Nat) (l m : Bytes) : decV a (l ++ m) = decV (decV a l) m := by simp [decV]
theorem decV_snoc (a : Nat) (l : Bytes) (b : UInt8) : decV a (l ++ [b]) = decV a l * 10 + (b.toNat - 48) := by rw [decV_append]; rfl
theorem all_dig {l : Bytes} (h : l.all digB = true) {b : UInt8} (hb : b ∈ l) : 48 ≤ b.toNat ∧ b.toNat ≤ 57 := (digB_iff b).1 (List.all_eq_true.1 h b hb)
def canN (l : Bytes) : Bool := !l.isEmpty && l.all digB && (decide (l.getD 0 0 ≠ 48) || decide (l.length = 1))
theorem canN_iff (l : Bytes) : canN l = true ↔ l ≠ [] ∧ l.all digB = true ∧ (l.getD 0 0 ≠ 48 ∨ l.length = 1) := by
  simp [canN, and_assoc]
def negB (s : Bytes) : Bool := decide (0 < s.length) && decide (s.getD 0 0 = 45)
def digits (s : Bytes) : Bytes := if negB s = true then s.drop 1 else s
def canP (s : Bytes) : Bool := !(negB s && decide (s.drop 1 = [48])) && canN (digits s)
def valP (s : Bytes) : Int := if negB s = true then -(decV 0 (digits s) : Int) else (decV 0 (digits s) : Int)
def maxN : Int := 9007199254740992
def numP (s : Bytes) : Int × Int := if canP s = true then (if -maxN ≤ valP s ∧ valP s ≤ maxN then (valP s, 0) else (0, 5)) else (0, 2)
theorem dec_val : ∀ (n u : Nat), u < n → decV 0 (decDigits u) = u ∧ (decDigits u).all digB = true ∧ decDigits u ≠ [] ∧ ((decDigits u).getD 0 0 ≠ 48 ∨ (decDigits u).length = 1) ∧ (1 ≤ u → (decDigits u).getD 0 0 ≠ 48) := by
  intro n
  induction n with
  | zero => intro u h; omega
  | succ n ih =>
    intro u hu
    have hdig : ∀ k, k < 10 → (UInt8.ofNat (48 + k)).toNat = 48 + k := fun k hk => by
      rw [UInt8.toNat_ofNat']; omega
    rw [decDigits]
    by_cases h : u < 10
    · rw [dif_pos h]
      have := hdig u h
      refine ⟨by rw [decV_cons, decV_nil, this]; omega, by simp only [List.all_cons, List.all_nil, Bool.and_true, digB_iff, this]; omega, by simp, .inr rfl, fun h1 => ?_⟩
      intro q
      have q' : (UInt8.ofNat (48 + u)) = 48 := q
      rw [q'] at this
      have : (48 : UInt8).toNat = 48 := rfl
      omega
    · rw [dif_neg h]
      obtain ⟨a1, a2, a3, a4, a5⟩ := ih (u / 10) (by omega)
      have hd := hdig (u % 10) (by omega)
      have hh : (decDigits (u / 10) ++ [UInt8.ofNat (48 + u % 10)]).getD 0 0 = (decDigits (u / 10)).getD 0 0 := by
        cases hx : decDigits (u / 10) with
        | nil => exact absurd hx a3
        | cons c r => rfl
      refine ⟨?_, ?_, by simp, ?_, ?_⟩
      · rw [decV_snoc, a1, hd]; omega
      · rw [List.all_append, a2]; simp only [List.all_cons, List.all_nil, Bool.and_true, Bool.true_and, digB_iff, hd]; omega
      · rw [hh]; exact .inl (a5 (by omega))
      · rw [hh]; exact fun _ => a5 (by omega)
theorem numP_itoa (v : Int) (h0 : 0 ≤ v) (h1 : v ≤ maxN) : numP (itoa v) = (v, 0) := by
  obtain ⟨u, rfl⟩ : ∃ u : Nat, v = u := ⟨v.toNat, by omega⟩
  have e : itoa (u : Int) = decDigits u := by unfold itoa; rw [if_neg (by omega)]; simp
  obtain ⟨a1, a2, a3, a4, a5⟩ := dec_val (u + 1) u (by omega)
  have hn : negB (decDigits u) = false := by
    rw [← Bool.not_eq_true]
    intro q
    simp only [negB, Bool.and_eq_true, decide_eq_true_eq] at q
    have hm : (decDigits u).getD 0 0 ∈ decDigits u := by
      rw [List.getD_eq_getElem?_getD, List.getElem?_eq_getElem q.1]; exact List.getElem_mem _
    have := all_dig a2 hm
    rw [q.2] at this
    have : (45 : UInt8).toNat = 45 := rfl
    omega
  have hd : digits (decDigits u) = decDigits u := by simp [digits, hn]
  have hc : canP (decDigits u) = true := by
    simp only [canP, hn, hd, Bool.false_and, Bool.not_false, Bool.true_and]
    exact (canN_iff _).2 ⟨a3, a2, a4⟩
  have hv : valP (decDigits u) = u := by simp [valP, hn, hd, a1]
  rw [e, numP, if_pos hc, hv, if_pos ⟨by unfold maxN at *; omega, h1⟩]
end Go.Ab.R06
namespace Go.Ab.R06
open Go.Ab Go.Ab.RB Go.Lib
theorem wrap8 (x : Int) : IntKind.wrap .u8 x = x % 256 := by simp [IntKind.wrap, IntKind.bits, IntKind.signed]
theorem t63 : (List.range 256).all (fun n => iAnd .u8 (n : Int) 63 == ((n % 64 : Nat) : Int)) = true := by kernel_rfl
theorem tab {f g : Nat → Int} {m : Nat} (h : (List.range m).all (fun n => f n == g n) = true) (n : Nat) (hn : n < m) : f n = g n := eq_of_beq (List.all_eq_true.1 h n (List.mem_range.2 hn))
def runeOk (r : Int) : Prop := (0 ≤ r ∧ r < 55296) ∨ (57343 < r ∧ r ≤ 1114111)
theorem dec_facts (l : Bytes) (h : l ≠ []) : 1 ≤ (decodeL l).2 ∧ (decodeL l).2 ≤ l.length ∧ (¬ ((decodeL l).1 = 65533 ∧ (decodeL l).2 = 1) → runeOk ((decodeL l).1 : Int) ∧ encodeRune ((decodeL l).1 : Int) = l.take (decodeL l).2) := by
  have hl : 0 < l.length := List.length_pos_iff.2 h
  have hd := decN l.length (l.getD 0 0).toNat (l.getD 1 0).toNat (l.getD 2 0).toNat (l.getD 3 0).toNat (by omega) (UInt8.toNat_lt _)
  rw [← decodeL_N] at hd
  refine ⟨hd.1, hd.2.1, fun q => ⟨?_, encode_decode l h q⟩⟩
  have := hd.2.2.2.2.2
  unfold runeOk; omega
theorem valid_take (l : Bytes) (h : l ≠ []) : validD l = true ↔ ¬ ((decodeL l).1 = 65533 ∧ (decodeL l).2 = 1) ∧ validD (l.drop (decodeL l).2) = true := by
  rw [validD_step l h]
  by_cases q : (decodeL l).1 = 65533 ∧ (decodeL l).2 = 1
  · simp [q]
  · simp [q]
end Go.Ab.R06
namespace Go.Ab.R06
open Go.Ab Go.Ab.RB Go.Lib
theorem wstr (f x : Bytes) (h : f.length + x.length ≤ 100000000) : strings_Builder_WriteString (TBuilder.mk f) x = some ((x.length : Int), false, TBuilder.mk (f ++ x)) := by
  unfold strings_Builder_WriteString strings_Builder_copyCheck
  rw [Option.bind_some, ck_pos (by simp only; omega)]
theorem wbyte (f : Bytes) (b : UInt8) (h : f.length ≤ 100000000) : strings_Builder_WriteByte (TBuilder.mk f) (b.toNat : Int) = some (false, TBuilder.mk (f ++ [b])) := by
  have := b.toNat_lt
  unfold strings_Builder_WriteByte strings_Builder_copyCheck
  rw [Option.bind_some, ck_pos (by omega), ck_pos (by simp; omega), u8_byt]
theorem bstr (f : Bytes) (h : f.length ≤ 1000000000) : strings_Builder_String (TBuilder.mk f) = some (f, TBuilder.mk f) := by
  unfold strings_Builder_String
  rw [ck_pos (by simp only; omega)]
def escB (b : UInt8) : Bytes :=
  if b.toNat = 10 then [92, 110] else if b.toNat = 13 then [92, 114] else if b.toNat = 9 then [92, 116]
  else if b.toNat = 34 ∨ b.toNat = 92 then [92, b] else if b.toNat < 32 ∨ b.toNat = 127 then [92, 117, 123] ++ hexText b.toNat ++ [125] else [b]
def quoteP (s : Bytes) : Bytes := 34 :: (s.flatMap escB ++ [34])
theorem esc_n {b : UInt8} (h : b.toNat = 10) : escB b = [92, 110] := by unfold escB; rw [if_pos h]
theorem esc_r {b : UInt8} (h : b.toNat = 13) : escB b = [92, 114] := by unfold escB; rw [if_neg (by omega), if_pos h]
theorem esc_t {b : UInt8} (h : b.toNat = 9) : escB b = [92, 116] := by unfold escB; rw [if_neg (by omega), if_neg (by omega), if_pos h]
theorem esc_q {b : UInt8} (h : b.toNat = 34 ∨ b.toNat = 92) : escB b = [92, b] := by unfold escB; rw [if_neg (by omega), if_neg (by omega), if_neg (by omega), if_pos h]
theorem esc_u {b : UInt8} (h1 : b.toNat ≠ 10) (h2 : b.toNat ≠ 13) (h3 : b.toNat ≠ 9) (h : b.toNat < 32 ∨ b.toNat = 127) : escB b = [92, 117, 123] ++ hexText b.toNat ++ [125] := by
  unfold escB; rw [if_neg h1, if_neg h2, if_neg h3, if_neg (by omega), if_pos h]
theorem esc_b {b : UInt8} (h1 : b.toNat ≠ 34) (h2 : b.toNat ≠ 92) (h : ¬ (b.toNat < 32 ∨ b.toNat = 127)) : escB b = [b] := by
  unfold escB; rw [if_neg (by omega), if_neg (by omega), if_neg (by omega), if_neg (by omega), if_neg h]
theorem hexText_len (n : Nat) : 1 ≤ (hexText n).length ∧ (hexText n).length ≤ 2 := by
  unfold hexText; split <;> simp
theorem escB_len (b : UInt8) : 1 ≤ (escB b).length ∧ (escB b).length ≤ 6 := by
  have := hexText_len b.toNat
  unfold escB
  repeat' split
  all_goals (simp; try omega)
theorem flat_len (s : Bytes) : s.length ≤ (s.flatMap escB).length ∧ (s.flatMap escB).length ≤ 6 * s.length := by
  induction s with
  | nil => simp
  | cons b r ih => have := escB_len b; simp only [List.flatMap_cons, List.length_append, List.length_cons]; omega
theorem quote_l1 (s : Bytes) (hs : s.length ≤ 1000000) : ∀ (k i : Nat) (f : Bytes), i + k = s.length → f.length ≤ 6 * i + 1 → Ev2 (fun _ m => strlit_Quote_l1 s m (i : Int) f) (· = f ++ (s.drop i).flatMap escB) := by
  intro k
  induction k with
  | zero =>
    intro i f hi hf
    refine ev_round ?_
    simp only [strlit_Quote_l1]
    refine ev_ifF (by omega) (ev_some ?_)
    rw [List.drop_of_length_le (by omega)]; simp
  | succ k ih =>
    intro i f hi hf
    refine ev_round ?_
    simp only [strlit_Quote_l1]
    refine ev_ifT (by omega) (ev_ck (by omega) ?_)
    have hb : byt s i = ((s.getD i 0).toNat : Int) := byt_nat s i
    rw [hb]
    have hd : s.drop i = s.getD i 0 :: s.drop (i + 1) := by
      rw [List.getD_eq_getElem?_getD, List.getElem?_eq_getElem (by omega), Option.getD_some]
      exact List.drop_eq_getElem_cons (by omega)
    rw [hd, List.flatMap_cons]
    generalize s.getD i 0 = b
    have hbl := b.toNat_lt
    have he := escB_len b
    refine ev_to (f ++ escB b) ?_ ?_
    · refine ev_ite (fun h1 => ?_) (fun h1 => ev_ite (fun h2 => ?_) (fun h2 => ev_ite (fun h3 => ?_) (fun h3 => ?_)))
      · rw [esc_n (by omega)]
        exact ev_to _ (ev_const (wstr f [92, 110] (by simp only [List.length_cons, List.length_nil]; omega)) rfl) (ev_some rfl)
      · rw [esc_r (by omega)]
        exact ev_to _ (ev_const (wstr f [92, 114] (by simp only [List.length_cons, List.length_nil]; omega)) rfl) (ev_some rfl)
      · rw [esc_t (by omega)]
        exact ev_to _ (ev_const (wstr f [92, 116] (by simp only [List.length_cons, List.length_nil]; omega)) rfl) (ev_some rfl)
      refine ev_to (decide (b.toNat = 34 ∨ b.toNat = 92)) ?_ ?_
      · by_cases h : b.toNat = 34
        · exact ev_ifT (by omega) (ev_some (by simp [h]))
        · exact ev_ifF (by omega) (ev_some (eqB (by rw [decide_eq_true_eq, decide_eq_true_eq]; omega)))
      by_cases h4 : b.toNat = 34 ∨ b.toNat = 92
      · rw [esc_q h4]
        refine ev_ifT (by simp [h4]) ?_
        refine ev_to _ (ev_const (wbyte f 92 (by omega)) rfl) (ev_to _ (ev_const (wbyte (f ++ [92]) b (by simp only [List.length_append, List.length_cons, List.length_nil]; omega)) rfl) (ev_some ?_))
        simp
      refine ev_ifF (by simp only [decide_eq_true_eq]; exact h4) ?_
      refine ev_to (decide (b.toNat < 32 ∨ b.toNat = 127)) ?_ ?_
      · by_cases h : b.toNat < 32
        · exact ev_ifT (by omega) (ev_some (by simp [h]))
        · exact ev_ifF (by omega) (ev_some (eqB (by rw [decide_eq_true_eq, decide_eq_true_eq]; omega)))
      by_cases h5 : b.toNat < 32 ∨ b.toNat = 127
      · rw [esc_u (by omega) (by omega) (by omega) h5]
        refine ev_ifT (by simp [h5]) (ev_ck (inR_of (by omega) (by omega)) ?_)
        have hx : strconv_FormatInt (b.toNat : Int) 16 = some (hexText b.toNat) := by
          unfold strconv_FormatInt
          rw [ck_pos ⟨rfl, by omega, by omega⟩]; rfl
        have hxl := hexText_len b.toNat
        refine ev_to _ (ev_const hx rfl) (ev_ck (by simp only [List.length_cons, List.length_nil]; omega) (ev_ck (by simp only [List.length_append, List.length_cons, List.length_nil]; omega) ?_))
        exact ev_to _ (ev_const (wstr f _ (by simp only [List.length_append, List.length_cons, List.length_nil]; omega)) rfl) (ev_some (by simp))
      · rw [esc_b (by omega) (by omega) h5]
        refine ev_ifF (by simp only [decide_eq_true_eq]; exact h5) ?_
        exact ev_to _ (ev_const (wbyte f b (by omega)) rfl) (ev_some rfl)
    · refine ev_ck (inR_of (by omega) (by omega)) ?_
      have := ih (i + 1) (f ++ escB b) (by omega) (by rw [List.length_append]; omega)
      rw [Int.natCast_add, Int.natCast_one] at this
      simpa using this
theorem quote_ev (s : Bytes) (hs : s.length ≤ 1000000) : Ev2 (fun n _ => strlit_Quote n s) (· = quoteP s) := by
  simp only [strlit_Quote]
  have hf := flat_len s
  refine ev_to _ (ev_const (wbyte [] 34 (by simp)) rfl) ?_
  have l := quote_l1 s hs s.length 0 [34] (by omega) (by simp)
  rw [List.drop_zero] at l
  refine ev_to _ (ev_loop l) ?_
  refine ev_to _ (ev_const (wbyte _ 34 (by simp only [List.length_append, List.length_cons, List.length_nil]; omega)) rfl) (ev_to _ (ev_const (bstr _ (by simp only [List.length_append, List.length_cons, List.length_nil]; omega)) rfl) (ev_some ?_))
  simp [quoteP]
end Go.Ab.R06
namespace Go.Ab.R06
open Go.Ab Go.Ab.RB Go.Lib
def hexs : Bytes := [48, 49, 50, 51, 52, 53, 54, 55, 56, 57, 97, 98, 99, 100, 101, 102]
theorem u8nat {b : UInt8} {n : Nat} (hn : n < 256) : b.toNat = n ↔ b = UInt8.ofNat n := by
  constructor
  · intro h; apply UInt8.toNat_inj.1; rw [h, UInt8.toNat_ofNat']; omega
  · intro h; rw [h, UInt8.toNat_ofNat']; omega
end Go.Ab.R06
namespace Go.Ab.R06
open Go.Ab Go.Ab.RB Go.Lib
def badR (c : Nat × Nat) : Prop := (c.1 = 65533 ∧ c.2 = 1) ∨ c.1 < 32 ∨ c.1 = 127
instance (c : Nat × Nat) : Decidable (badR c) := inferInstanceAs (Decidable (_ ∨ _))
theorem dec_len : ∀ (k u : Nat), u < 10 ^ (k + 1) → (decDigits u).length ≤ k + 1 := by
  intro k
  induction k with
  | zero => intro u h; rw [decDigits, dif_pos (by simpa using h)]; simp
  | succ k ih =>
    intro u h
    rw [decDigits]
    split
    · simp
    · have := ih (u / 10) (by rw [Nat.pow_succ] at h; omega)
      rw [List.length_append]; simp; omega
theorem itoa_len {v : Int} (h0 : 0 ≤ v) (h1 : v ≤ maxN) : (itoa v).length ≤ 16 := by
  obtain ⟨u, rfl⟩ : ∃ u : Nat, v = u := ⟨v.toNat, by omega⟩
  unfold itoa
  rw [if_neg (by omega), Int.toNat_natCast]
  exact dec_len 15 u (by unfold maxN at h1; omega)
end Go.Ab.R06
