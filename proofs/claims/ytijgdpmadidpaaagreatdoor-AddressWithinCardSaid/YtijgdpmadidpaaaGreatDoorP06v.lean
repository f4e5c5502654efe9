/- Plain facts of chapter 06: the reference's reader. No program in sight. -/
import Derived.Test.YtijgdpmadidpaaaGreatDoorP06u
set_option linter.unusedVariables false
set_option linter.unusedSimpArgs false
set_option linter.unnecessarySimpa false
namespace Go.Ab.R06
open Go.Ab Go.Ab.RB Go.Lib

/-! ### Beginnings, words -/
theorem begins_eq (s p : Bytes) : ref06_begins s p = some (hasPrefix s p) := by
  unfold ref06_begins
  by_cases h : p.length ≤ s.length
  · rw [if_pos (by omega), ck_pos (by omega), Option.bind_some]
    refine congrArg some (eqB ?_)
    rw [decide_eq_true_eq, pre_iff, sub_take, Int.toNat_natCast]
    constructor
    · intro q; exact ⟨s.drop p.length, by conv => lhs; rw [← List.take_append_drop p.length s, q]⟩
    · rintro ⟨t, rfl⟩; rw [List.take_left]
  · rw [if_neg (by omega), Option.bind_some]
    refine congrArg some (Eq.symm ?_)
    rw [← Bool.not_eq_true]
    intro q; exact h (pre_len q)
theorem pre_one {b c : UInt8} {t : Bytes} : hasPrefix (b :: t) [c] = decide (b = c) := by
  refine eqB ?_
  rw [pre_iff, decide_eq_true_eq]
  exact ⟨fun ⟨u, hu⟩ => (List.cons.inj hu).1, fun h => ⟨t, by rw [h]; rfl⟩⟩
theorem pre_nil {c : UInt8} : hasPrefix [] [c] = false := by
  rw [← Bool.not_eq_true, pre_iff]; rintro ⟨u, hu⟩; cases hu

def wordR (s : Bytes) : Bytes × Bytes := (s.takeWhile idB, s.dropWhile idB)
theorem word_split (p : UInt8 → Bool) (s : Bytes) : s.take (s.takeWhile p).length = s.takeWhile p ∧ s.drop (s.takeWhile p).length = s.dropWhile p := by
  have h := List.takeWhile_append_dropWhile (p := p) (l := s)
  constructor
  · have : s.take (s.takeWhile p).length = (s.takeWhile p ++ s.dropWhile p).take (s.takeWhile p).length := by rw [h]
    rw [this, List.take_left]
  · have : s.drop (s.takeWhile p).length = (s.takeWhile p ++ s.dropWhile p).drop (s.takeWhile p).length := by rw [h]
    rw [this, List.drop_left]
theorem tw_len (p : UInt8 → Bool) (s : Bytes) : (s.takeWhile p).length ≤ s.length := by
  have h := congrArg List.length (List.takeWhile_append_dropWhile (p := p) (l := s))
  rw [List.length_append] at h; omega
theorem rword_l1 (s : Bytes) (hs : s.length ≤ 1000000) : ∀ (k i : Nat), i + k = s.length → Ev2 (fun _ m => ref06_word_l1 s m (i : Int)) (· = ((i + ((s.drop i).takeWhile idB).length : Nat) : Int)) := by
  intro k
  induction k with
  | zero =>
    intro i hi
    refine ev_round ?_
    simp only [ref06_word_l1]
    refine ev_to false (ev_ifF (by omega) (ev_some rfl)) (ev_ifF (by simp) (ev_some ?_))
    rw [List.drop_of_length_le (by omega)]; simp
  | succ k ih =>
    intro i hi
    refine ev_round ?_
    simp only [ref06_word_l1]
    have hil : i < s.length := by omega
    have hb : byt s i = ((s.getD i 0).toNat : Int) := byt_nat s i
    have := ih (i + 1) (by omega)
    rw [hb, drop_at s hil]
    have hid : idB (s.getD i 0) = (letB (s.getD i 0) || digB (s.getD i 0)) := rfl
    have hdg := digB_iff (s.getD i 0)
    have hlt := rletter (s.getD i 0)
    generalize s.getD i 0 = b at hid hdg hlt ⊢
    refine ev_to (idB b) ?_ ?_
    · refine ev_ifT (by omega) (ev_ck (by omega) (ev_to _ (ev_const hlt rfl) ?_))
      rw [hid]
      cases letB b with
      | true => exact ev_ifT rfl (ev_some rfl)
      | false =>
        refine ev_ifF (by simp) (ev_ck (by omega) (ev_ite (fun h => ev_ck (by omega) (ev_some (eqB ?_))) (fun h => ev_some (eqB ?_))))
        · rw [decide_eq_true_eq, Bool.false_or, hdg]; omega
        · rw [Bool.false_or, hdg]
          constructor
          · intro q; cases q
          · intro q; omega
    · cases hi : idB b with
      | true =>
        refine ev_ifT rfl (ev_ck (inR_of (by omega) (by omega)) ?_)
        rw [show ((i + 1 : Nat) : Int) = (i : Int) + 1 by omega] at this
        refine ev_mono this fun r hr => ?_
        rw [hr, List.takeWhile_cons, if_pos hi, List.length_cons]; omega
      | false =>
        refine ev_ifF (by simp) (ev_some ?_)
        rw [List.takeWhile_cons, if_neg (by simp [hi])]; simp
theorem rword_ev (s : Bytes) (hs : s.length ≤ 1000000) : Ev2 (fun n _ => ref06_word n s) (· = wordR s) := by
  simp only [ref06_word]
  have l := rword_l1 s hs s.length 0 (by omega)
  rw [List.drop_zero, Nat.zero_add] at l
  have hle := tw_len idB s
  have hw := word_split idB s
  refine ev_to _ (ev_loop l) (ev_ck (by omega) (ev_ck (by omega) (ev_some ?_)))
  rw [sub_take, sub_from, Int.toNat_natCast, hw.1, hw.2]; rfl
theorem tw_app (p : UInt8 → Bool) : ∀ (w t : Bytes), (∀ b ∈ w, p b = true) → (t = [] ∨ ∃ b r, t = b :: r ∧ p b = false) → (w ++ t).takeWhile p = w ∧ (w ++ t).dropWhile p = t
  | [], t, _, h => by
    rcases h with rfl | ⟨b, r, rfl, hb⟩
    · exact ⟨rfl, rfl⟩
    · simp [List.takeWhile_cons, List.dropWhile_cons, hb]
  | b :: w, t, hw, h => by
    have ih := tw_app p w t (fun y hy => hw y (List.mem_cons_of_mem _ hy)) h
    have hb := hw b List.mem_cons_self
    simp only [List.cons_append, List.takeWhile_cons, List.dropWhile_cons, hb, if_true]
    exact ⟨by rw [ih.1], ih.2⟩
theorem stop_noid {b : UInt8} (h : stopB b = true) : idB b = false := by
  cases hi : idB b with
  | false => rfl
  | true => rw [id_notstop hi] at h; cases h
theorem rword_back {w t : Bytes} (hw : identB w = true) (h : t = [] ∨ ∃ b r, t = b :: r ∧ stopB b = true) : wordR (w ++ t) = (w, t) := by
  have := tw_app idB w t (fun b hb => ident_all_id hw hb) (h.imp id fun ⟨b, r, e, q⟩ => ⟨b, r, e, stop_noid q⟩)
  unfold wordR; rw [this.1, this.2]
theorem rword_sound (s : Bytes) : s = (wordR s).1 ++ (wordR s).2 := (List.takeWhile_append_dropWhile).symm
theorem wordR_len (s : Bytes) : (wordR s).1.length ≤ s.length ∧ (wordR s).2.length ≤ s.length := by
  have := congrArg List.length (rword_sound s)
  rw [List.length_append] at this; omega

/-! ### Keys -/
def numK (r : Bytes) : TKey × Bytes × Bool := if (numR (r.takeWhile digB)).2 = 0 ∧ hasPrefix (r.dropWhile digB) [93] = true then (TKey.mk 1 (numR (r.takeWhile digB)).1 [], (r.dropWhile digB).drop 1, true) else (noKey, [], false)
def strK (r : Bytes) : TKey × Bytes × Bool := if (unqP r).2.2 = 0 ∧ r.take (unqP r).2.1.toNat = quoteP (unqP r).1 ∧ hasPrefix (r.drop (unqP r).2.1.toNat) [93] = true then (TKey.mk 2 0 (unqP r).1, r.drop ((unqP r).2.1.toNat + 1), true) else (noKey, [], false)
def keyR (s : Bytes) : TKey × Bytes × Bool := if hasPrefix s [91] = true then (if hasPrefix (s.drop 1) [34] = true then strK (s.drop 1) else numK (s.drop 1)) else (noKey, s, true)

theorem rkdig_l1 (s : Bytes) (hs : s.length ≤ 1000000) : ∀ (k i : Nat), i + k = s.length → Ev2 (fun _ m => ref06_key_l1 s m (i : Int)) (· = ((i + ((s.drop i).takeWhile digB).length : Nat) : Int)) := by
  intro k
  induction k with
  | zero =>
    intro i hi
    refine ev_round ?_
    simp only [ref06_key_l1]
    refine ev_to false (ev_ifF (by omega) (ev_some rfl)) (ev_ifF (by simp) (ev_some ?_))
    rw [List.drop_of_length_le (by omega)]; simp
  | succ k ih =>
    intro i hi
    refine ev_round ?_
    simp only [ref06_key_l1]
    have hil : i < s.length := by omega
    have hb : byt s i = ((s.getD i 0).toNat : Int) := byt_nat s i
    have := ih (i + 1) (by omega)
    rw [hb, drop_at s hil]
    have hdg := digB_iff (s.getD i 0)
    generalize s.getD i 0 = b at hdg ⊢
    refine ev_to (digB b) ?_ ?_
    · refine ev_ifT (by omega) (ev_ck (by omega) (ev_ite (fun h => ev_ck (by omega) (ev_some (eqB ?_))) (fun h => ev_some (eqB ?_))))
      · rw [decide_eq_true_eq, hdg]; omega
      · rw [hdg]
        constructor
        · intro q; cases q
        · intro q; omega
    · cases hi : digB b with
      | true =>
        refine ev_ifT rfl (ev_ck (inR_of (by omega) (by omega)) ?_)
        rw [show ((i + 1 : Nat) : Int) = (i : Int) + 1 by omega] at this
        refine ev_mono this fun r hr => ?_
        rw [hr, List.takeWhile_cons, if_pos hi, List.length_cons]; omega
      | false =>
        refine ev_ifF (by simp) (ev_some ?_)
        rw [List.takeWhile_cons, if_neg (by simp [hi])]; simp

theorem rkeyR_ev (s : Bytes) (hs : s.length ≤ 900000) : Ev2 (fun n _ => ref06_key n s) (· = keyR s) := by
  simp only [ref06_key]
  unfold keyR
  cases s with
  | nil => exact ev_to true (ev_ifT rfl (ev_some rfl)) (ev_ifT rfl (ev_some rfl))
  | cons b r =>
    have hln : (b :: r).length = r.length + 1 := by simp
    have hb : byt (b :: r) 0 = (b.toNat : Int) := rfl
    have h91 : b.toNat = 91 ↔ b = 91 := u8nat (by decide)
    rw [pre_one]
    refine ev_to (!decide (b = 91)) ?_ ?_
    · refine ev_ifF (by simp) (ev_ck (by omega) (ev_some ?_))
      rw [hb]
      refine congrArg not (eqB ?_)
      rw [decide_eq_true_eq, decide_eq_true_eq, ← h91]; omega
    by_cases hbr : b = 91
    · subst hbr
      rw [if_pos (show decide ((91 : UInt8) = 91) = true by simp)]
      refine ev_ifF (by simp) ?_
      have hd1 : (91 :: r : Bytes).drop 1 = r := rfl
      rw [hd1]
      refine ev_to (hasPrefix r [34]) ?_ ?_
      · refine ev_ite (fun h => ev_ck (by omega) (ev_some ?_)) (fun h => ev_some ?_)
        · cases r with
          | nil => simp at h
          | cons c q =>
            have hc : byt (91 :: c :: q) 1 = (c.toNat : Int) := rfl
            have h34 : c.toNat = 34 ↔ c = 34 := u8nat (by decide)
            rw [hc, pre_one]
            refine eqB ?_
            rw [decide_eq_true_eq, decide_eq_true_eq, ← h34]; omega
        · cases r with
          | nil => exact pre_nil.symm
          | cons c q => simp only [List.length_cons] at h; omega
      cases hq : hasPrefix r [34] with
      | true =>
        refine ev_ifT rfl (ev_ck (by omega) ?_)
        rw [if_pos rfl]
        have s1 : sub (91 :: r) 1 ((91 :: r : Bytes).length : Int) = r := by rw [sub_from]; rfl
        rw [s1]
        unfold strK
        have hu := runq_ev r (by omega)
        have hok := @unqP_ok r
        have hle := unqP_le r
        generalize unqP r = U at hu hok hle ⊢
        obtain ⟨x, m, e⟩ := U
        simp only at hok hle ⊢
        obtain ⟨m, rfl⟩ : ∃ m' : Nat, m = m' := ⟨m.toNat, by omega⟩
        rw [Int.toNat_natCast]
        have hin1 : inR ((m : Int) + 1) := inR_of (by omega) (by omega)
        have hin2 : inR ((m : Int) + 2) := inR_of (by omega) (by omega)
        refine ev_to _ hu ?_
        dsimp only
        refine (ev_to (!decide (e = 0 ∧ r.take m = quoteP x ∧ hasPrefix (r.drop m) [93] = true)) ?_ ?_)
        · refine ev_ite (fun h => ev_ck hin1 ?_) (fun h => ev_some (by simp [h]))
          subst h
          refine ev_ite (fun h => ev_some ?_) (fun h => ev_ck hin1 (ev_ck (by omega) ?_))
          · rw [List.drop_of_length_le (by omega), pre_nil]; simp
          have hml : m < r.length := by omega
          have hb1 : byt (91 :: r) ((m : Int) + 1) = ((r.getD m 0).toNat : Int) := by
            have := byt_at (91 :: r) m 1
            rw [show ((1 : Nat) : Int) = 1 from rfl] at this
            rw [this]; rfl
          rw [hb1, drop_at r hml, pre_one]
          have h93 : (r.getD m 0).toNat = 93 ↔ r.getD m 0 = 93 := u8nat (by decide)
          refine ev_ite (fun h2 => ev_ck hin1 (ev_ck (by omega) ?_)) (fun h2 => ev_some ?_)
          · have h3 : r.getD m 0 = 93 := h93.1 (by omega)
            have hsub : sub (91 :: r) 1 ((m : Int) + 1) = r.take m := by
              have := sub_range (91 :: r) 1 m
              rw [show ((1 : Nat) : Int) = 1 from rfl, show (1 : Int) + (m : Int) = (m : Int) + 1 by omega] at this
              exact this
            rw [hsub, h3]
            refine ev_to _ (rquote_ev x (by omega)) (ev_ite (fun h4 => ?_) (fun h4 => ev_some (by simp [h4])))
            have hx := hok rfl
            have hko : keyOk (TKey.mk 2 0 x) = true := by unfold keyOk; simp [hx.1, hx.2.1]
            have hk := rkey_ev (TKey.mk 2 0 x) (by show x.length ≤ _; omega)
            rw [hko] at hk
            exact ev_to _ hk (ev_some (by simp [h4]))
          · have h3 : ¬ r.getD m 0 = 93 := fun q => h2 (by have := h93.2 q; omega)
            symm; rw [Bool.not_eq_true', decide_eq_false_iff_not]; intro q; exact h3 (of_decide_eq_true q.2.2)
        · by_cases h : e = 0 ∧ r.take m = quoteP x ∧ hasPrefix (r.drop m) [93] = true
          · rw [if_pos h]
            have hx := hok (by rw [h.1])
            have hml : m < r.length := by
              rcases Nat.lt_or_ge m r.length with q | q
              · exact q
              · have := h.2.2
                rw [List.drop_of_length_le q, pre_nil] at this; cases this
            refine ev_ifF (by simp [h]) (ev_ck hin2 (ev_ck (by omega) (ev_some ?_)))
            rw [sub_from, show ((m : Int) + 2).toNat = m + 1 + 1 by omega]; rfl
          · rw [if_neg h]
            exact ev_ifT (by simp only [h, decide_false, Bool.not_false]) (ev_some rfl)
      | false =>
        refine ev_ifF (by simp) ?_
        rw [if_neg (by simp)]
        unfold numK
        have l := rkdig_l1 (91 :: r) (by omega) r.length 1 (by omega)
        rw [hd1] at l
        have hle := tw_len digB r
        have hw := word_split digB r
        have hall : (r.takeWhile digB).all digB = true := by simp
        have hn := rnum_ev (r.takeWhile digB) (by omega) hall
        generalize numR (r.takeWhile digB) = N at hn ⊢
        obtain ⟨v, e⟩ := N
        have hsub : sub (91 :: r) 1 ((1 + (r.takeWhile digB).length : Nat) : Int) = r.takeWhile digB := by
          have := sub_range (91 :: r) 1 (r.takeWhile digB).length
          rw [show ((1 : Nat) : Int) + ((r.takeWhile digB).length : Int) = ((1 + (r.takeWhile digB).length : Nat) : Int) by omega] at this
          rw [hd1, hw.1] at this
          exact this
        refine ev_to _ (ev_loop l) (ev_ck (by omega) ?_)
        rw [hsub]
        refine ev_to _ hn ?_
        dsimp only
        refine (ev_to (!decide (e = 0 ∧ hasPrefix (r.dropWhile digB) [93] = true)) ?_ ?_)
        · refine ev_ite (fun h => ?_) (fun h => ev_some (by simp [h]))
          subst h
          rw [← hw.2]
          refine ev_ite (fun h => ev_some ?_) (fun h => ev_ck (by omega) (ev_some ?_))
          · rw [List.drop_of_length_le (by omega), pre_nil]; simp
          · have hml : (r.takeWhile digB).length < r.length := by omega
            have hb1 : byt (91 :: r) ((1 + (r.takeWhile digB).length : Nat) : Int) = ((r.getD (r.takeWhile digB).length 0).toNat : Int) := by
              rw [byt_nat, Nat.add_comm]; rfl
            rw [hb1, drop_at r hml, pre_one]
            have h93 : (r.getD (r.takeWhile digB).length 0).toNat = 93 ↔ r.getD (r.takeWhile digB).length 0 = 93 := u8nat (by decide)
            refine congrArg not (eqB ?_)
            rw [decide_eq_true_eq, decide_eq_true_eq]
            exact ⟨fun q => ⟨rfl, decide_eq_true (h93.1 (by omega))⟩, fun q => by have := h93.2 (of_decide_eq_true q.2); omega⟩
        · by_cases h : e = 0 ∧ hasPrefix (r.dropWhile digB) [93] = true
          · rw [if_pos h]
            have hml : (r.takeWhile digB).length < r.length := by
              rcases Nat.lt_or_ge (r.takeWhile digB).length r.length with q | q
              · exact q
              · have := h.2
                rw [← hw.2, List.drop_of_length_le q, pre_nil] at this; cases this
            refine ev_ifF (by simp [h]) (ev_ck (inR_of (by omega) (by omega)) (ev_ck (by omega) (ev_some ?_)))
            rw [sub_from, show (((1 + (r.takeWhile digB).length : Nat) : Int) + 1).toNat = (r.takeWhile digB).length + 1 + 1 by omega]
            refine Prod.ext rfl (Prod.ext ?_ rfl)
            show r.drop ((r.takeWhile digB).length + 1) = (r.dropWhile digB).drop 1
            rw [← hw.2, List.drop_drop]
          · rw [if_neg h]
            exact ev_ifT (by simp only [h, decide_false, Bool.not_false]) (ev_some rfl)
    · rw [if_neg (show ¬ decide (b = 91) = true by simp [hbr])]
      exact ev_ifT (by simp [hbr]) (ev_some rfl)
end Go.Ab.R06
