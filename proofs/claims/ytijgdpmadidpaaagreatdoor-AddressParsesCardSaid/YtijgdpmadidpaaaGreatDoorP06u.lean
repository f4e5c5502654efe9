/- Plain facts of chapter 06: the reference's Unquote and numbers. No program in sight. -/
import Derived.Test.YtijgdpmadidpaaaGreatDoorP06r
set_option linter.unusedVariables false
set_option linter.unusedSimpArgs false
set_option linter.unnecessarySimpa false
namespace Go.Ab.R06
open Go.Ab Go.Ab.RB Go.Lib

theorem sub_range (s : Bytes) (a w : Nat) : sub s (a : Int) ((a : Int) + (w : Int)) = (s.drop a).take w := by
  show (s.take ((a : Int) + (w : Int)).toNat).drop (a : Int).toNat = _
  rw [show ((a : Int) + (w : Int)).toNat = a + w by omega, Int.toNat_natCast, List.drop_take, Nat.add_sub_cancel_left]
/-- An escape's answer, as bytes. -/
def shE (j : Int) (p : Int × Int × Int) : Bytes × Int × Int := if p.2.2 = 0 then (encodeRune p.1, j + p.2.1, 0) else ([], 0, p.2.2)
theorem shE_zero (j v c : Int) : shE j (v, c, 0) = (encodeRune v, j + c, 0) := if_pos rfl
theorem shE_err (j v c e : Int) (h : e ≠ 0) : shE j (v, c, e) = ([], 0, e) := if_neg h

theorem rescaped_ev (s : Bytes) (hs : s.length ≤ 1000000) (i : Nat) (hi : i < s.length) : Ev2 (fun n _ => ref02_Escaped n s (i : Int)) (· = shE ((i : Int) + 1) (escP (s.drop (i + 1)))) := by
  simp only [ref02_Escaped]
  have i1 : inR ((i : Int) + 1) := inR_of (by omega) (by omega)
  have i2 : inR ((i : Int) + 2) := inR_of (by omega) (by omega)
  have i3 : inR ((i : Int) + 3) := inR_of (by omega) (by omega)
  refine ev_ck i1 ?_
  by_cases h1 : i + 1 < s.length
  · have hb : byt s ((i : Int) + 1) = ((s.getD (i + 1) 0).toNat : Int) := byt_at s i 1
    have hb2 : byt s ((i : Int) + 2) = ((s.getD (i + 2) 0).toNat : Int) := byt_at s i 2
    have hsub : sub s ((i : Int) + 1) ((i : Int) + 2) = [s.getD (i + 1) 0] := by
      have := sub_range s (i + 1) 1
      rw [show ((i + 1 : Nat) : Int) = (i : Int) + 1 by omega, show (i : Int) + 1 + ((1 : Nat) : Int) = (i : Int) + 2 by omega] at this
      rw [this, drop_at s h1]; rfl
    have hd2 : s.drop (i + 1 + 1) = s.drop (i + 2) := rfl
    rw [hb, hb2, hsub, drop_at s h1, hd2]
    generalize s.getD (i + 1) 0 = b
    have hbl := b.toNat_lt
    have hP := escP_cons b (s.drop (i + 2))
    refine ev_ifF (by omega) (ev_ck i1 (ev_ck (by omega) ?_))
    have two : (i : Int) + 2 = (i : Int) + 1 + 1 := by omega
    refine ev_ite (fun h => ev_ck i2 (ev_some ?_)) (fun h1 => ?_)
    · rw [hP, if_pos (by omega), shE_zero, two]; rfl
    rw [if_neg (show ¬ b.toNat = 110 by omega)] at hP
    refine ev_ite (fun h => ev_ck i2 (ev_some ?_)) (fun h2 => ?_)
    · rw [hP, if_pos (by omega), shE_zero, two]; rfl
    rw [if_neg (show ¬ b.toNat = 114 by omega)] at hP
    refine ev_ite (fun h => ev_ck i2 (ev_some ?_)) (fun h3 => ?_)
    · rw [hP, if_pos (by omega), shE_zero, two]; rfl
    rw [if_neg (show ¬ b.toNat = 116 by omega)] at hP
    refine ev_to (decide (b.toNat = 34 ∨ b.toNat = 92)) ?_ ?_
    · by_cases h : b.toNat = 34
      · exact ev_ifT (by omega) (ev_some (by simp [h]))
      · exact ev_ifF (by omega) (ev_some (eqB (by rw [decide_eq_true_eq, decide_eq_true_eq]; omega)))
    by_cases h4 : b.toNat = 34 ∨ b.toNat = 92
    · rw [if_pos h4] at hP
      rw [hP, shE_zero, enc_ascii b (by omega)]
      exact ev_ifT (by simp [h4]) (ev_ck i1 (ev_ck i2 (ev_ck (by omega) (ev_ck i2 (ev_some (by rw [two]))))))
    rw [if_neg h4] at hP
    refine ev_ifF (by simp only [decide_eq_true_eq]; exact h4) ?_
    refine ev_ite (fun h5 => ?_) (fun h5 => ev_some (by rw [hP, if_neg (by omega)]; rfl))
    rw [if_pos (show b.toNat = 117 by omega)] at hP
    rw [hP]
    refine ev_ck i2 ?_
    by_cases h6 : i + 2 < s.length
    · rw [drop_at s h6]
      have hd3 : s.drop (i + 2 + 1) = s.drop (i + 3) := rfl
      rw [hd3]
      refine ev_ifF (by omega) (ev_ck i2 (ev_ck (by omega) ?_))
      generalize s.getD (i + 2) 0 = c
      show Ev2 _ (· = shE ((i : Int) + 1) (if c.toNat = 123 then ((hexP (s.drop (i + 3))).1, (hexP (s.drop (i + 3))).2.1 + 2, (hexP (s.drop (i + 3))).2.2) else ((0, 0, 2) : Int × Int × Int)))
      refine ev_ite (fun h7 => ev_ck i3 ?_) (fun h7 => ev_some (by rw [if_neg (by omega)]; rfl))
      rw [if_pos (show c.toNat = 123 by omega)]
      have hpt := rpoint_ev s hs (i + 3) (by omega)
      rw [show ((i + 3 : Nat) : Int) = (i : Int) + 3 by omega] at hpt
      have hle := hexP_le (s.drop (i + 3))
      generalize hexP (s.drop (i + 3)) = p at hpt hle ⊢
      obtain ⟨v, w, e⟩ := p
      simp only at hle ⊢
      refine ev_to _ hpt ?_
      by_cases he : e = 0
      · subst he
        have hr := hle.2.2.1 rfl
        obtain ⟨u, rfl⟩ : ∃ u : Nat, v = u := ⟨v.toNat, by unfold runeOk at hr; omega⟩
        rw [show shP ((i : Int) + 3) ((u : Int), w, 0) = ((u : Int), (i : Int) + 3 + w, 0) from if_pos rfl, shE_zero]
        refine ev_ifT rfl (ev_to _ (ev_const (rencode u hr) rfl) (ev_some ?_))
        refine Prod.ext rfl (Prod.ext ?_ rfl)
        show (i : Int) + 3 + w = (i : Int) + 1 + (w + 2)
        omega
      · rw [show shP ((i : Int) + 3) (v, w, e) = (0, 0, e) from if_neg he, shE_err _ _ _ _ he]
        exact ev_ifF he (ev_some rfl)
    · rw [List.drop_of_length_le (show s.length ≤ i + 2 by omega)]
      exact ev_ifT (by omega) (ev_some rfl)
  · rw [List.drop_of_length_le (by omega)]
    exact ev_ifT (by omega) (ev_some rfl)

theorem dec_hi (b : UInt8) (r : Bytes) (h : 128 ≤ b.toNat) : 128 ≤ (decodeL (b :: r)).1 := by
  have hN := decN (b :: r).length ((b :: r).getD 0 0).toNat ((b :: r).getD 1 0).toNat ((b :: r).getD 2 0).toNat ((b :: r).getD 3 0).toNat (by simp) (UInt8.toNat_lt _)
  rw [← decodeL_N] at hN
  rcases Nat.lt_or_ge (decodeL (b :: r)).1 128 with q | q
  · have := (hN.2.2.2.1 q).2
    have hb0 : ((b :: r).getD 0 0).toNat = b.toNat := rfl
    omega
  · exact q

/-- One character of a literal, as unqL reads it. -/
def oneP (i : Int) (b : UInt8) (r : Bytes) : Bytes × Int × Int :=
  if (decodeL (b :: r)).1 = 92 then shE (i + 1) (escP r)
  else if badR (decodeL (b :: r)) then ([], 0, 2)
  else (encodeRune ((decodeL (b :: r)).1 : Int), i + ((decodeL (b :: r)).2 : Int), 0)
theorem rone_ev (s : Bytes) (hs : s.length ≤ 1000000) (i : Nat) (b : UInt8) (r : Bytes) (hl : s.drop i = b :: r) (hi : i + r.length + 1 = s.length) : Ev2 (fun n _ => ref02_One n s (i : Int)) (· = oneP (i : Int) b r) := by
  simp only [ref02_One]
  have hil : i < s.length := by omega
  have hd := drop_at s hil
  rw [hl] at hd
  have hb : byt s i = (b.toNat : Int) := by rw [byt_nat, ← (List.cons.inj hd).1]
  have hr : s.drop (i + 1) = r := (List.cons.inj hd).2.symm
  rw [hb]
  have hbl := b.toNat_lt
  unfold oneP
  refine ev_ck (by omega) ?_
  by_cases h92 : b.toNat = 92
  · have e : decodeL (b :: r) = (b.toNat, 1) := decodeL_ascii b r (by omega)
    rw [e, if_pos h92]
    have := rescaped_ev s hs i hil
    rw [hr] at this
    exact ev_ifT (by omega) (ev_to _ this (ev_some rfl))
  · have hdec := decode_ref s i hil hs
    rw [hl] at hdec
    have hdf := dec_facts (b :: r) (by simp)
    have hc : ((decodeL (b :: r)).1 = b.toNat ∧ (decodeL (b :: r)).2 = 1 ∧ b.toNat < 128) ∨ (128 ≤ (decodeL (b :: r)).1 ∧ 128 ≤ b.toNat) := by
      rcases Nat.lt_or_ge b.toNat 128 with q | q
      · left; rw [decodeL_ascii b r q]; exact ⟨rfl, rfl, q⟩
      · right; exact ⟨dec_hi b r q, q⟩
    refine ev_ifF (by omega) (ev_to _ (ev_const hdec rfl) ?_)
    unfold refD
    generalize hD : decodeL (b :: r) = D at hdf hc ⊢
    obtain ⟨c, w⟩ := D
    simp only at hdf hc ⊢
    rw [if_neg (show ¬ c = 92 by omega)]
    simp only [List.length_cons] at hdf
    by_cases hbad : c = 65533 ∧ w = 1
    · rw [if_pos hbad, if_pos (show badR (c, w) from .inl hbad)]
      exact ev_to true (ev_ifT rfl (ev_some rfl)) (ev_ifT rfl (ev_some rfl))
    · rw [if_neg hbad]
      have hgood := hdf.2.2 hbad
      refine ev_to (decide (badR (c, w))) ?_ ?_
      · refine ev_ifF (by simp only; omega) (ev_ck (by omega) (ev_ite (fun h => ev_some ?_) (fun h => ev_ck (by omega) (ev_some (eqB ?_)))))
        · symm; rw [decide_eq_true_eq]; unfold badR; simp only; omega
        · rw [decide_eq_true_eq, decide_eq_true_eq]; unfold badR; simp only; omega
      · refine ev_ite (fun h => ev_some (by rw [if_pos (of_decide_eq_true h)])) (fun h => ?_)
        rw [if_neg (fun q => h (decide_eq_true q))]
        have hin : inR ((i : Int) + (w : Int)) := inR_of (by omega) (by omega)
        refine ev_ck hin (ev_ck (by simp only; omega) (ev_ck hin (ev_some ?_)))
        simp only
        rw [sub_range, hl, hgood.2]

/-- The end of the loop, as the reference says it. -/
def unqO (s : Bytes) : (Int × Bytes) ⊕ (Bytes × Int × Int) → Unit ⊕ (Bytes × Int × Int)
  | .inl q => if q.1 = (s.length : Int) then .inl () else .inr (if 4096 < q.2.length then ([], 0, 3) else (q.2, q.1 + 1, 0))
  | .inr e => .inr e
theorem runq_l1 (s : Bytes) (hs : s.length ≤ 1000000) : ∀ (k : Nat) (l : Bytes) (i : Nat) (f : Bytes), l.length < k → s.drop i = l → i + l.length = s.length → f.length ≤ 4 * i → Ev2 (fun n m => ref02_Unquote_l1 n s m f (i : Int)) (· = unqO s (unqL k l i f)) := by
  intro k
  induction k with
  | zero => intro l i f h; omega
  | succ k ih =>
    intro l i f hk hl hi hf
    refine ev_round ?_
    simp only [ref02_Unquote_l1]
    cases l with
    | nil =>
      simp only [List.length_nil] at hi
      refine ev_ifF (by omega) (ev_some ?_)
      rw [unqL]
      show _ = (if (i : Int) = (s.length : Int) then _ else _)
      rw [if_pos (by omega)]
    | cons b r =>
      have hil : i < s.length := by simp only [List.length_cons] at hi; omega
      have hd := drop_at s hil
      rw [hl] at hd
      have hb : byt s i = (b.toNat : Int) := by rw [byt_nat, ← (List.cons.inj hd).1]
      have hr : s.drop (i + 1) = r := (List.cons.inj hd).2.symm
      have hlr : r.length + i + 1 = s.length := by simp only [List.length_cons] at hi; omega
      have hU := unqL_cons k b r i f
      have h1 := rone_ev s hs i b r hl (by omega)
      rw [hb]
      refine ev_ifT (by omega) (ev_ck (by omega) ?_)
      by_cases h34 : b.toNat = 34
      · rw [if_pos h34] at hU
        have hO : unqO s (.inl ((i : Int), f)) = .inr (if 4096 < f.length then ([], 0, 3) else (f, (i : Int) + 1, 0)) := if_neg (by simp only; omega)
        rw [hU, hO]
        refine ev_ifT (by omega) (ev_ite (fun h => ev_some (by rw [if_pos (by omega)])) (fun h => ev_ck (inR_of (by omega) (by omega)) (ev_some (by rw [if_neg (by omega)]))))
      rw [if_neg h34] at hU
      refine ev_ifF (by omega) (ev_to _ h1 ?_)
      unfold oneP
      have hdf := dec_facts (b :: r) (by simp)
      generalize hD : decodeL (b :: r) = D at hU hdf ⊢
      obtain ⟨c, w⟩ := D
      simp only at hU hdf ⊢
      by_cases h92 : c = 92
      · rw [if_pos h92] at hU ⊢
        have hes := escP_le r
        generalize escP r = E at hU hes ⊢
        obtain ⟨x, y, z⟩ := E
        simp only at hU hes
        by_cases hz : z = 0
        · subst hz
          rw [if_pos rfl] at hU
          rw [shE_zero]
          obtain ⟨e1, e2⟩ := hes.2.2.1 rfl
          obtain ⟨y', rfl⟩ : ∃ y' : Nat, y = y' := ⟨y.toNat, by omega⟩
          rw [Int.toNat_natCast] at hU
          have hle := enc_len x e1
          refine ev_ifT rfl (ev_ck (by dsimp only; omega) ?_)
          have := ih (r.drop y') (i + (y' + 1)) (f ++ encodeRune x) (by rw [List.length_drop]; simp only [List.length_cons] at hk; omega) (by rw [← hr, List.drop_drop]; congr 1; omega) (by rw [List.length_drop]; omega) (by rw [List.length_append]; omega)
          rw [← hU] at this
          rw [show ((i + (y' + 1) : Nat) : Int) = (i : Int) + 1 + (y' : Int) by omega] at this
          exact this
        · rw [if_neg hz] at hU
          rw [shE_err _ _ _ _ hz]
          exact ev_ifF hz (ev_some (by rw [hU]; rfl))
      · rw [if_neg h92] at hU ⊢
        by_cases hbd : badR (c, w)
        · rw [if_pos hbd] at hU ⊢
          exact ev_ifF (by simp) (ev_some (by rw [hU]; rfl))
        · rw [if_neg hbd] at hU ⊢
          have hgood := hdf.2.2 (fun q => hbd (.inl q))
          have hle := enc_len c hgood.1
          have hw : w ≤ r.length + 1 := by simpa using hdf.2.1
          have hw1 := hdf.1
          refine ev_ifT rfl (ev_ck (by dsimp only; omega) ?_)
          have := ih ((b :: r).drop w) (i + w) (f ++ encodeRune (c : Int)) (by rw [List.length_drop]; simp only [List.length_cons] at hk ⊢; omega) (by rw [← hl, List.drop_drop]) (by rw [List.length_drop]; simp only [List.length_cons]; omega) (by rw [List.length_append]; omega)
          rw [← hU] at this
          rw [show ((i + w : Nat) : Int) = (i : Int) + (w : Int) by omega] at this
          exact this
theorem runq_ev (s : Bytes) (hs : s.length ≤ 1000000) : Ev2 (fun n _ => ref02_Unquote n s) (· = unqP s) := by
  simp only [ref02_Unquote]
  cases s with
  | nil => exact ev_ifT rfl (ev_some rfl)
  | cons b r =>
    have hl : ((b :: r).length : Int) = (r.length : Int) + 1 := by simp
    have hln : (b :: r).length = r.length + 1 := by simp
    refine ev_ifF (by omega) (ev_ck (by omega) ?_)
    have hb : byt (b :: r) 0 = (b.toNat : Int) := rfl
    rw [hb, unqP_cons]
    refine ev_ite (fun h => ?_) (fun h => ev_some (by rw [if_neg (show ¬ b.toNat = 34 by omega)]))
    have l := runq_l1 (b :: r) hs (r.length + 1) r 1 [] (by omega) rfl (by omega) (by simp)
    rw [if_pos (show b.toNat = 34 by omega)]
    generalize unqL (r.length + 1) r 1 [] = U at l ⊢
    cases U with
    | inr e => exact ev_jnR e (ev_loop l) rfl
    | inl q =>
      obtain ⟨a, g⟩ := q
      by_cases ha : a = ((r.length + 1 : Nat) : Int)
      · have e : unqO (b :: r) (.inl (a, g)) = .inl () := if_pos (by simp only; omega)
        rw [e] at l
        refine ev_jnL () (ev_loop l) (ev_some ?_)
        show _ = (if a = ((r.length + 1 : Nat) : Int) then _ else _)
        rw [if_pos ha]
      · have e : unqO (b :: r) (.inl (a, g)) = .inr (if 4096 < g.length then ([], 0, 3) else (g, a + 1, 0)) := if_neg (by simp only; omega)
        rw [e] at l
        refine ev_jnR _ (ev_loop l) ?_
        show _ = (if a = ((r.length + 1 : Nat) : Int) then _ else if 4096 < g.length then _ else (g, a + 1, 0))
        rw [if_neg ha]

/-! ### Numbers -/
theorem rdig_l1 (s : Bytes) (hs : s.length ≤ 1000000) : ∀ (k i : Nat), i + k = s.length → Ev2 (fun _ m => ref01_digits_l1 s m (i : Int)) (· = if allN (fun j => digB (s.getD j 0)) i k then .inl () else .inr false) := by
  intro k
  induction k with
  | zero =>
    intro i hi
    refine ev_round ?_
    simp only [ref01_digits_l1]
    exact ev_ifF (by omega) (ev_some rfl)
  | succ k ih =>
    intro i hi
    refine ev_round ?_
    simp only [ref01_digits_l1]
    have hb : byt s i = ((s.getD i 0).toNat : Int) := byt_nat s i
    rw [hb]
    refine ev_ifT (by omega) (ev_to (!digB (s.getD i 0)) ?_ ?_)
    · have h := digB_iff (s.getD i 0)
      generalize s.getD i 0 = b at h ⊢
      refine ev_ck (by omega) (ev_ite (fun h1 => ev_some ?_) (fun h1 => ev_ck (by omega) (ev_some ?_)))
      · have : digB b = false := by rw [← Bool.not_eq_true, h]; omega
        simp [this]
      · refine eqB ?_
        rw [decide_eq_true_eq, Bool.not_eq_true', ← Bool.not_eq_true, h]
        omega
    · cases hk : digB (s.getD i 0) with
      | false => exact ev_ifT rfl (ev_some (by simp only [allN, hk, Bool.false_and]; rfl))
      | true =>
        refine ev_ifF (by simp) (ev_ck (inR_of (by omega) (by omega)) ?_)
        have := ih (i + 1) (by omega)
        rw [Int.natCast_add, Int.natCast_one] at this
        simp only [allN, hk, Bool.true_and]
        exact this
theorem rdig_ev (s : Bytes) (hs : s.length ≤ 1000000) : Ev2 (fun n _ => ref01_digits n s) (· = canN s) := by
  simp only [ref01_digits]
  have l := rdig_l1 s hs s.length 0 (by omega)
  rw [allN_all] at l
  have hc := canN_iff s
  have hb : byt s 0 = ((s.getD 0 0).toNat : Int) := byt_nat s 0
  have h48 : (s.getD 0 0).toNat = 48 ↔ s.getD 0 0 = 48 := u8nat (by decide)
  cases ha : s.all digB with
  | false =>
    rw [ha] at l hc
    refine ev_jnR false (ev_loop l) (eqB ?_)
    rw [hc]; simp
  | true =>
    rw [ha] at l hc
    refine ev_jnL () (ev_loop l) (ev_cut (· = canN s) ?_ (fun x hx => ev_some hx))
    refine ev_ite (fun h => ev_some (eqB ?_)) (fun h0 => ev_ite (fun h => ev_some (eqB ?_)) (fun h => ev_ck ?_ (ev_some (eqB ?_))))
    · rw [hc, h]; simp
    · rw [hc]; simp [h]
    · have := List.length_pos_iff.2 h; omega
    · rw [hb, hc, Bool.not_eq_true', decide_eq_false_iff_not]
      constructor
      · intro q; exact ⟨h, rfl, .inl fun z => q (by have := h48.2 z; omega)⟩
      · rintro ⟨_, _, q | q⟩
        · intro z; exact q (h48.1 (by omega))
        · intro z
          obtain ⟨b, hb1⟩ := List.length_eq_one_iff.1 q
          have h3 := h48.1 (by omega)
          rw [hb1] at h3
          exact h0 (by rw [hb1]; exact congrArg (fun x => [x]) h3)

/-- A number of digits alone, as the reference reads it. -/
def numR (l : Bytes) : Int × Int := if canN l = true then (if l.length ≤ 16 ∧ decV 0 l ≤ 9007199254740992 then ((decV 0 l : Int), 0) else (0, 5)) else (0, 2)
theorem decV_lt : ∀ (l : Bytes) (a : Nat), l.all digB = true → decV a l < (a + 1) * 10 ^ l.length
  | [], a, _ => by simp [decV_nil]
  | b :: r, a, h => by
    have hb := all_dig h (b := b) List.mem_cons_self
    have hr : r.all digB = true := by
      rw [List.all_eq_true] at h ⊢
      exact fun x hx => h x (List.mem_cons_of_mem _ hx)
    have := decV_lt r (a * 10 + (b.toNat - 48)) hr
    rw [decV_cons, List.length_cons, Nat.pow_succ]
    have h2 : a * 10 + (b.toNat - 48) + 1 ≤ (a + 1) * 10 := by omega
    have h3 := Nat.mul_le_mul_right (10 ^ r.length) h2
    have h4 : (a + 1) * 10 * 10 ^ r.length = (a + 1) * (10 ^ r.length * 10) := by rw [Nat.mul_assoc, Nat.mul_comm 10]
    omega
theorem rnum_l1 (s : Bytes) (hs : s.length ≤ 16) (hd : s.all digB = true) : ∀ (k i : Nat), i + k = s.length → Ev2 (fun _ m => ref01_Parse_l1 s m (decV 0 (s.take i) : Int) (i : Int)) (· = (decV 0 s : Int)) := by
  intro k
  induction k with
  | zero =>
    intro i hi
    refine ev_round ?_
    simp only [ref01_Parse_l1]
    refine ev_ifF (by omega) (ev_some ?_)
    rw [List.take_of_length_le (by omega)]
  | succ k ih =>
    intro i hi
    refine ev_round ?_
    simp only [ref01_Parse_l1]
    have hil : i < s.length := by omega
    have hb : byt s i = ((s.getD i 0).toNat : Int) := byt_nat s i
    have hm : s.getD i 0 ∈ s := by
      rw [List.getD_eq_getElem?_getD, List.getElem?_eq_getElem hil, Option.getD_some]; exact List.getElem_mem hil
    have hdig := all_dig hd hm
    have ht : s.take (i + 1) = s.take i ++ [s.getD i 0] := by
      rw [List.take_add_one, List.getElem?_eq_getElem hil, List.getD_eq_getElem?_getD, List.getElem?_eq_getElem hil]; rfl
    have hall : (s.take i).all digB = true := by
      rw [List.all_eq_true] at hd ⊢
      exact fun x hx => hd x (List.mem_of_mem_take hx)
    have hlt := decV_lt (s.take i) 0 hall
    rw [List.length_take] at hlt
    have hp : 10 ^ min i s.length ≤ 10 ^ 15 := Nat.pow_le_pow_right (by decide) (by omega)
    have hp15 : (10 : Nat) ^ 15 = 1000000000000000 := rfl
    have := ih (i + 1) (by omega)
    rw [ht, decV_snoc] at this
    rw [hb]
    generalize s.getD i 0 = b at hdig this
    generalize decV 0 (s.take i) = v at hlt this
    have hw : IntKind.wrap .u8 ((b.toNat : Int) - 48) = ((b.toNat - 48 : Nat) : Int) := by rw [wrap8]; omega
    rw [hw]
    refine ev_ifT (by omega) (ev_ck (inR_of (by omega) (by omega)) (ev_ck (by omega) (ev_ck (inR_of (by omega) (by omega)) (ev_ck (inR_of (by omega) (by omega)) (ev_ck (inR_of (by omega) (by omega)) ?_)))))
    rw [show ((v * 10 + (b.toNat - 48) : Nat) : Int) = 10 * (v : Int) + ((b.toNat - 48 : Nat) : Int) by omega, show ((i + 1 : Nat) : Int) = (i : Int) + 1 by omega] at this
    exact this
theorem rnum_ev (s : Bytes) (hs : s.length ≤ 1000000) (hd : s.all digB = true) : Ev2 (fun n _ => ref01_Parse n s) (· = numR s) := by
  simp only [ref01_Parse]
  have hneg : ¬ (0 < s.length ∧ byt s 0 = 45) := by
    rintro ⟨h1, h2⟩
    have hb : byt s 0 = ((s.getD 0 0).toNat : Int) := byt_nat s 0
    have hm : s.getD 0 0 ∈ s := by
      rw [List.getD_eq_getElem?_getD, List.getElem?_eq_getElem h1, Option.getD_some]; exact List.getElem_mem h1
    have := all_dig hd hm
    omega
  refine ev_to false ?_ ?_
  · refine ev_ite (fun h => ev_ck (by omega) (ev_some ?_)) (fun h => ev_some rfl)
    rw [decide_eq_false_iff_not]; intro q; exact hneg ⟨by omega, q⟩
  refine ev_to s (ev_ifF (by simp) (ev_some rfl)) ?_
  unfold numR
  refine ev_to (!canN s) ?_ ?_
  · refine ev_to _ (rdig_ev s hs) ?_
    cases canN s with
    | false => exact ev_ifT rfl (ev_some rfl)
    | true => exact ev_ifF (by simp) (ev_ifF (by simp) (ev_some rfl))
  cases hc : canN s with
  | false => exact ev_ifT rfl (ev_some (by simp))
  | true =>
    refine ev_ifF (by simp) ?_
    rw [if_pos rfl]
    refine ev_ite (fun h => ev_some (by rw [if_neg (by omega)])) (fun h => ?_)
    have l := rnum_l1 s (by omega) hd s.length 0 (by omega)
    rw [List.take_zero, decV_nil] at l
    have hlt := decV_lt s 0 hd
    have hp : 10 ^ s.length ≤ 10 ^ 16 := Nat.pow_le_pow_right (by decide) (by omega)
    have hp16 : (10 : Nat) ^ 16 = 10000000000000000 := rfl
    refine ev_to _ (ev_loop l) (ev_to _ (ev_ifF (by simp) (ev_some rfl)) (ev_to (decide (decV 0 s ≤ 9007199254740992)) ?_ ?_))
    · simp only [ref01_Valid]
      refine ev_cut (· = decide (decV 0 s ≤ 9007199254740992)) (ev_ifT (by omega) (ev_some (eqB ?_))) (fun t ht => ev_some ht)
      rw [decide_eq_true_eq, decide_eq_true_eq]; omega
    · by_cases hv : decV 0 s ≤ 9007199254740992
      · exact ev_ifF (by simp [hv]) (ev_some (by rw [if_pos ⟨by omega, hv⟩]))
      · exact ev_ifT (by simp [hv]) (ev_some (by rw [if_neg (fun q => hv q.2)]))
theorem numR_itoa {v : Int} (h0 : 0 ≤ v) (h1 : v ≤ maxN) : numR (itoa v) = (v, 0) := by
  have hl := itoa_len h0 h1
  obtain ⟨u, rfl⟩ : ∃ u : Nat, v = u := ⟨v.toNat, by omega⟩
  have e : itoa (u : Int) = decDigits u := by unfold itoa; rw [if_neg (by omega)]; simp
  rw [e] at hl ⊢
  have hd := dec_val (u + 1) u (by omega)
  unfold numR
  rw [if_pos ((canN_iff _).2 ⟨hd.2.2.1, hd.2.1, hd.2.2.2.1⟩), hd.1, if_pos ⟨hl, by unfold maxN at h1; omega⟩]
theorem itoa_numR {l : Bytes} {v : Int} (h : numR l = (v, 0)) : itoa v = l ∧ 0 ≤ v ∧ v ≤ maxN := by
  unfold numR at h
  split at h
  · rename_i hc
    split at h
    · rename_i hv
      cases h
      have hb := (digits_back l.length l (Nat.le_refl _) hc).1
      refine ⟨?_, by omega, by unfold maxN; omega⟩
      have e : itoa ((decV 0 l : Nat) : Int) = decDigits (decV 0 l) := by unfold itoa; rw [if_neg (by omega)]; simp
      rw [e, hb]
    · cases h
  · cases h
end Go.Ab.R06
