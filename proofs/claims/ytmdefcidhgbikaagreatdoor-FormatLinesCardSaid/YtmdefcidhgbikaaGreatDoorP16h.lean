/- Plain facts of chapter 16: the texts of literals, by the program and by the reference. No program in sight. -/
import Derived.Test.YtmdefcidhgbikaaGreatDoorP16g
import Derived.Test.YtmdefcidhgbikaaGreatDoorP16e
set_option linter.unusedVariables false
set_option linter.unusedSimpArgs false
set_option linter.unnecessarySimpa false
namespace Go.Ab.R06
open Go.Ab Go.Ab.RB Go.Lib
theorem rescape_ev (s : Bytes) (hs : s.length ≤ 1000000) : Ev2 (fun n _ => ref02_Escape n s) (· = escD s) := by
  simp only [ref02_Escape]
  have loop : ∀ (k i : Nat) (o : Bytes), i + k = s.length → o.length ≤ 2 * i → Ev2 (fun _ m => ref02_Escape_l1 s m o (i : Int)) (· = o ++ escD (s.drop i)) := by
    intro k
    induction k with
    | zero =>
      intro i o hi ho
      refine ev_round ?_
      simp only [ref02_Escape_l1]
      refine ev_ifF (by omega) (ev_some ?_)
      rw [List.drop_eq_nil_of_le (by omega)]; simp [escD]
    | succ k ih =>
      intro i o hi ho
      have hd := drop_at s (i := i) (by omega)
      refine ev_round ?_
      simp only [ref02_Escape_l1]
      refine ev_ifT (by omega) ?_
      have hc : (s.drop (i + 1)).head? = some 123 ↔ i + 1 < s.length ∧ s.getD (i + 1) 0 = 123 := by
        by_cases h : i + 1 < s.length
        · rw [drop_at s h]; simp [h]
        · rw [List.drop_eq_nil_of_le (by omega)]; simp [h]
      have hb : byt s (i : Int) = 36 ↔ s.getD i 0 = 36 := by
        rw [byt_nat]
        have := u8nat (b := s.getD i 0) (n := 36) (by decide)
        constructor
        · intro h; exact this.1 (by omega)
        · intro h; have := this.2 h; omega
      have hb2 : byt s ((i : Int) + 1) = 123 ↔ s.getD (i + 1) 0 = 123 := by
        have e : byt s ((i : Int) + 1) = ((s.getD (i + 1) 0).toNat : Int) := by rw [← Int.natCast_one, ← Int.natCast_add, byt_nat]
        rw [e]
        have := u8nat (b := s.getD (i + 1) 0) (n := 123) (by decide)
        constructor
        · intro h; exact this.1 (by omega)
        · intro h; have := this.2 h; omega
      refine ev_to (if s.getD i 0 = 36 ∧ (s.drop (i + 1)).head? = some 123 then o ++ [36] else o) ?_ ?_
      · refine ev_to (decide (s.getD i 0 = 36 ∧ (s.drop (i + 1)).head? = some 123)) ?_ ?_
        · refine ev_ck (by omega) (ev_ite (fun h1 => ?_) (fun h1 => ev_some ?_))
          · refine ev_ck (inR_of (by omega) (by omega)) (ev_ite (fun h2 => ?_) (fun h2 => ev_some ?_))
            · refine ev_ck (inR_of (by omega) (by omega)) (ev_ck (by omega) (ev_some ?_))
              have h3 : i + 1 < s.length := by omega
              rw [decide_eq_decide, hb2, hc]
              exact ⟨fun h => ⟨hb.1 h1, h3, h⟩, fun h => h.2.2⟩
            · symm; rw [decide_eq_false_iff_not, hc]
              intro h; omega
          · symm; rw [decide_eq_false_iff_not]
            intro h; exact h1 (hb.2 h.1)
        · refine ev_ite (fun h => ev_ck (by simp only [List.length_cons, List.length_nil]; omega) (ev_some ?_)) (fun h => ev_some ?_)
          · rw [if_pos (of_decide_eq_true h)]
          · rw [if_neg (fun k => h (decide_eq_true k))]
      · have hlen : (if s.getD i 0 = 36 ∧ (s.drop (i + 1)).head? = some 123 then o ++ [36] else o).length ≤ 2 * i + 1 := by
          split
          · rw [List.length_append]; simp only [List.length_cons, List.length_nil]; omega
          · omega
        have hsub : sub s (i : Int) ((i : Int) + 1) = [s.getD i 0] := by
          have := sub_range s i 1
          rw [Int.natCast_one] at this
          rw [this, hd]; rfl
        rw [hsub]
        refine ev_ck (inR_of (by omega) (by omega)) (ev_ck (by omega) (ev_ck (by simp only [List.length_cons, List.length_nil]; omega) (ev_ck (inR_of (by omega) (by omega)) ?_)))
        refine ev_mono (nat_succ (P := fun j => Ev2 (fun _ m => ref02_Escape_l1 s m (_ ++ [s.getD i 0]) j) _) (ih (i + 1) _ (by omega) (by rw [List.length_append]; simp only [List.length_cons, List.length_nil]; omega))) (fun r hr => ?_)
        rw [hr, hd]
        simp only [escD]
        split <;> simp
  refine ev_to _ (ev_loop (f := fun _ m => ref02_Escape_l1 s m [] 0) (loop s.length 0 [] (by omega) (by simp))) (ev_some ?_)
  simp
def quo (s : Bytes) : Bytes := (escD s).flatMap escB
theorem quo_len (s : Bytes) : s.length ≤ (quo s).length ∧ (quo s).length ≤ 12 * s.length := by
  have h1 := flat_len (escD s)
  have h2 := escD_len s
  unfold quo; omega
theorem quote_sub (s : Bytes) : sub (quoteP s) 1 (((quoteP s).length : Int) - 1) = s.flatMap escB := by
  have e : (((quoteP s).length : Int) - 1) = (((s.flatMap escB).length + 1 : Nat) : Int) := by simp [quoteP]
  rw [e, ← Int.natCast_one, sub_nat]
  simp [quoteP]
theorem quoted_ev (s : Bytes) (hs : s.length ≤ 300000) : Ev2 (fun n _ => format_quoted n s) (· = quo s) := by
  simp only [format_quoted]
  have h2 := escD_len s
  have h1 := flat_len (escD s)
  have hq : (quoteP (escD s)).length = ((escD s).flatMap escB).length + 2 := by simp [quoteP]
  refine ev_to _ (ev_const (escape_eq s (by omega)) rfl) (ev_to _ (quote_ev _ (by omega)) (ev_ck (inR_of (by omega) (by omega)) (ev_ck (by omega) (ev_some ?_))))
  rw [quote_sub]; rfl
theorem rquoted_ev (s : Bytes) (hs : s.length ≤ 300000) : Ev2 (fun n _ => ref16_quoted n s) (· = quo s) := by
  simp only [ref16_quoted]
  have h2 := escD_len s
  have h1 := flat_len (escD s)
  have hq : (quoteP (escD s)).length = ((escD s).flatMap escB).length + 2 := by simp [quoteP]
  refine ev_to _ (rescape_ev s (by omega)) (ev_to _ (rquote_ev _ (by omega)) (ev_ck (inR_of (by omega) (by omega)) (ev_ck (by omega) (ev_some ?_))))
  rw [quote_sub]; rfl
def litT (v : TValue) : Bytes :=
  if v.fKind = 1 then (if v.fNum = 1 then [116, 114, 117, 101] else [102, 97, 108, 115, 101])
  else if v.fKind = 2 then itoa v.fNum
  else if v.fKind = 3 then [34] ++ quo v.fStr ++ [34]
  else [110, 117, 108, 108]
structure LitV (v : TValue) : Prop where
  kind : v.fKind = 0 ∨ v.fKind = 1 ∨ v.fKind = 2 ∨ v.fKind = 3
  num : v.fKind = 2 → 0 ≤ v.fNum ∧ v.fNum ≤ maxN
  str : v.fStr.length ≤ 4096
theorem lit_ev {v : TValue} (h : LitV v) : Ev2 (fun n _ => format_literal n v) (· = litT v) := by
  have hs := h.str
  have hq := quo_len v.fStr
  simp only [format_literal, litT]
  refine ev_ite (fun h1 => ?_) (fun h1 => ?_)
  · rw [if_pos h1]
    exact ev_ite (fun h2 => ev_some (by rw [if_pos h2])) (fun h2 => ev_some (by rw [if_neg h2]))
  · rw [if_neg h1]
    refine ev_ite (fun h2 => ?_) (fun h2 => ?_)
    · rw [if_pos h2]
      have hn := h.num h2
      have : number_Format v.fNum = some (itoa v.fNum) := by
        unfold number_Format strconv_Itoa
        unfold maxN at hn
        rw [ck_pos (inR_of (by omega) (by omega))]; rfl
      exact ev_to _ (ev_const this rfl) (ev_some rfl)
    · rw [if_neg h2]
      refine ev_ite (fun h3 => ?_) (fun h3 => ev_some (by rw [if_neg h3]))
      rw [if_pos h3]
      exact ev_to _ (quoted_ev _ (by omega)) (ev_ck (by simp only [List.length_cons, List.length_nil]; omega) (ev_ck (by simp only [List.length_append, List.length_cons, List.length_nil]; omega) (ev_some rfl)))
theorem rlit_ev {v : TValue} (h : LitV v) : Ev2 (fun n _ => ref16_literal n v) (· = litT v) := by
  have hs := h.str
  have hq := quo_len v.fStr
  have hk := h.kind
  simp only [ref16_literal, litT]
  refine ev_ite (fun h0 => ev_some ?_) (fun h0 => ?_)
  · rw [if_neg (by omega), if_neg (by omega), if_neg (by omega)]
  refine ev_ite (fun h1 => ?_) (fun h1 => ?_)
  · rw [if_pos h1]
    exact ev_ite (fun h2 => ev_some (by rw [if_pos h2])) (fun h2 => ev_some (by rw [if_neg h2]))
  · rw [if_neg h1]
    refine ev_ite (fun h2 => ?_) (fun h2 => ?_)
    · rw [if_pos h2]
      exact ev_to _ (ritoa_ev (h.num h2).1 (h.num h2).2) (ev_some rfl)
    · rw [if_neg h2, if_pos (by omega)]
      exact ev_to _ (rquoted_ev _ (by omega)) (ev_ck (by simp only [List.length_cons, List.length_nil]; omega) (ev_ck (by simp only [List.length_append, List.length_cons, List.length_nil]; omega) (ev_some rfl)))
theorem litT_len {v : TValue} (h : LitV v) : (litT v).length ≤ 50000 := by
  have hs := h.str
  have hq := quo_len v.fStr
  unfold litT
  split
  · split <;> simp
  · split
    · rename_i h2
      have := itoa_len (h.num h2).1 (h.num h2).2
      omega
    · split
      · simp only [List.length_append, List.length_cons, List.length_nil]; omega
      · simp
end Go.Ab.R06
