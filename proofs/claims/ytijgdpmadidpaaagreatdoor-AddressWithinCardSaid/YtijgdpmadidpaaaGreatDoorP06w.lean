/- Plain facts of chapter 06: the reference's places; Parse and Static. No program in sight. -/
import Derived.Test.YtijgdpmadidpaaaGreatDoorP06v
import Derived.Test.YtijgdpmadidpaaaGreatDoorP06k
set_option linter.unusedVariables false
set_option linter.unusedSimpArgs false
set_option linter.unnecessarySimpa false
namespace Go.Ab.R06
open Go.Ab Go.Ab.RB Go.Lib

theorem keyR_sound {s : Bytes} {k : TKey} {t : Bytes} (h : keyR s = (k, t, true)) : keyOk k = true ∧ s = keyText k ++ t := by
  unfold keyR at h
  by_cases hp : hasPrefix s [91] = true
  · rw [if_pos hp] at h
    obtain ⟨l, rfl⟩ := (pre_iff _ _).1 hp
    have hd : ([91] ++ l).drop 1 = l := rfl
    rw [hd] at h
    by_cases hq : hasPrefix l [34] = true
    · rw [if_pos hq] at h
      unfold strK at h
      have hok := @unqP_ok l
      generalize unqP l = U at h hok
      obtain ⟨x, n, e⟩ := U
      simp only at h hok
      split at h
      · rename_i hc
        obtain ⟨rfl, he, hp2⟩ := hc
        cases h
        have hx := hok rfl
        have hko : keyOk (TKey.mk 2 0 x) = true := by unfold keyOk; simp [hx.1, hx.2.1]
        refine ⟨hko, ?_⟩
        have ht : keyText (TKey.mk 2 0 x) = [91] ++ quoteP x ++ [93] := by
          unfold keyText
          rw [if_neg (by rw [hko]; simp), if_neg (by simp)]
        obtain ⟨u, hu⟩ := (pre_iff _ _).1 hp2
        have hu2 : l.drop (n.toNat + 1) = u := by rw [← List.drop_drop, hu]; rfl
        rw [ht, hu2, ← he, List.append_assoc, List.append_assoc, ← hu, List.take_append_drop]
      · cases h
    · rw [if_neg hq] at h
      unfold numK at h
      have hin := @itoa_numR (l.takeWhile digB)
      have hsp := List.takeWhile_append_dropWhile (p := digB) (l := l)
      generalize numR (l.takeWhile digB) = N at h hin
      obtain ⟨v, e⟩ := N
      simp only at h hin
      split at h
      · rename_i hc
        obtain ⟨rfl, hp2⟩ := hc
        cases h
        have hi := hin rfl
        have hko : keyOk (TKey.mk 1 v []) = true := by unfold keyOk; simp; exact ⟨hi.2.1, hi.2.2⟩
        refine ⟨hko, ?_⟩
        have ht : keyText (TKey.mk 1 v []) = [91] ++ itoa v ++ [93] := by
          unfold keyText
          rw [if_neg (by rw [hko]; simp), if_pos rfl]
        obtain ⟨u, hu⟩ := (pre_iff _ _).1 hp2
        rw [ht, hi.1, hu]
        conv => lhs; rw [← hsp, hu]
        simp
      · cases h
  · rw [if_neg hp] at h
    cases h
    exact ⟨rfl, rfl⟩

theorem keyR_back {k : TKey} {t : Bytes} (hk : keyOk k = true) (h : hasPrefix t [91] = false) : keyR (keyText k ++ t) = (k, t, true) := by
  rcases keyOk_kinds hk with h0 | h0 | h0
  · have e := keyOk_none hk h0
    subst e
    have et : keyText noKey = [] := rfl
    rw [et, List.nil_append]
    unfold keyR
    rw [if_neg (by rw [h]; simp)]
  · have hn := keyOk_num hk h0
    have et : keyText k = [91] ++ itoa k.fNum ++ [93] := by
      unfold keyText
      rw [if_neg (by rw [hk]; simp [h0]), if_pos h0]
    obtain ⟨hd, hne⟩ := itoa_digits hn.1
    have e1 : keyText k ++ t = [91] ++ (itoa k.fNum ++ 93 :: t) := by rw [et]; simp
    have hnp : hasPrefix (itoa k.fNum ++ 93 :: t) [34] = false := by
      cases hx : itoa k.fNum with
      | nil => exact absurd hx hne
      | cons c r =>
        rw [hx] at hd
        have := all_dig hd (b := c) List.mem_cons_self
        rw [List.cons_append, pre_one, decide_eq_false_iff_not]
        intro q
        rw [q] at this
        have h34 : (34 : UInt8).toNat = 34 := rfl
        omega
    have htw := tw_app digB (itoa k.fNum) (93 :: t) (fun b hb => List.all_eq_true.1 hd b hb) (.inr ⟨93, t, rfl, by decide⟩)
    unfold keyR
    rw [e1, if_pos (pre_app _ _)]
    have hd1 : ([91] ++ (itoa k.fNum ++ 93 :: t)).drop 1 = itoa k.fNum ++ 93 :: t := rfl
    rw [hd1, if_neg (by rw [hnp]; simp)]
    unfold numK
    rw [htw.1, htw.2, numR_itoa hn.1 hn.2.1, if_pos ⟨rfl, by rw [pre_one]; simp⟩]
    refine Prod.ext ?_ rfl
    cases k
    simp only at *
    rw [h0, hn.2.2]
  · have hs := keyOk_str hk h0
    have et : keyText k = [91] ++ quoteP k.fStr ++ [93] := by
      unfold keyText
      rw [if_neg (by rw [hk]; simp [h0]), if_neg (by omega)]
    have e1 : keyText k ++ t = [91] ++ (quoteP k.fStr ++ (93 :: t)) := by rw [et]; simp
    have hu := unqP_quote k.fStr (93 :: t) hs.2.2 hs.2.1
    unfold keyR
    rw [e1, if_pos (pre_app _ _)]
    have hd1 : ([91] ++ (quoteP k.fStr ++ (93 :: t))).drop 1 = quoteP k.fStr ++ (93 :: t) := rfl
    have hq : hasPrefix (quoteP k.fStr ++ (93 :: t)) [34] = true := by
      rw [pre_iff]; exact ⟨k.fStr.flatMap escB ++ [34] ++ (93 :: t), by simp [quoteP]⟩
    rw [hd1, if_pos hq]
    unfold strK
    rw [hu]
    simp only [Int.toNat_natCast]
    rw [← List.drop_drop, List.take_left, List.drop_left, if_pos ⟨trivial, rfl, by rw [pre_one]; simp⟩]
    refine Prod.ext ?_ rfl
    cases k
    simp only at *
    rw [h0, hs.1]

theorem keyR_len (s : Bytes) : (keyR s).2.1.length ≤ s.length := by
  unfold keyR
  split
  · split
    · unfold strK
      split
      · simp only [List.length_drop]; omega
      · simp
    · unfold numK
      split
      · have := congrArg List.length (List.takeWhile_append_dropWhile (p := digB) (l := s.drop 1))
        simp only [List.length_append, List.length_drop] at this ⊢
        omega
      · simp
  · exact Nat.le_refl _

/-! ### Steps -/
def stepR (s : Bytes) : TModuleStep × Bytes × Bool := (TModuleStep.mk (wordR (s.drop 7)).1 (keyR (wordR (s.drop 7)).2).1, (keyR (wordR (s.drop 7)).2).2.1, (keyR (wordR (s.drop 7)).2).2.2 && identB (wordR (s.drop 7)).1)
theorem stepR_len (s : Bytes) (h : 7 ≤ s.length) : (stepR s).2.1.length + 7 ≤ s.length := by
  have h1 := keyR_len (wordR (s.drop 7)).2
  have h2 := (wordR_len (s.drop 7)).2
  rw [List.length_drop] at h2
  show (keyR (wordR (s.drop 7)).2).2.1.length + 7 ≤ _
  omega
theorem rstep_ev (s : Bytes) (hs : s.length ≤ 900000) (h7 : 7 ≤ s.length) : Ev2 (fun n _ => ref06_step n s) (· = stepR s) := by
  simp only [ref06_step]
  have e : sub s 7 (s.length : Int) = s.drop 7 := by rw [sub_from]; rfl
  rw [e]
  have h2 := wordR_len (s.drop 7)
  rw [List.length_drop] at h2
  refine ev_ck (by omega) (ev_to _ (rword_ev _ (by rw [List.length_drop]; omega)) (ev_to _ (rkeyR_ev _ (by omega)) (ev_to ((keyR (wordR (s.drop 7)).2).2.2 && identB (wordR (s.drop 7)).1) ?_ (ev_some rfl))))
  cases (keyR (wordR (s.drop 7)).2).2.2 with
  | false => exact ev_ifF (by simp) (ev_some rfl)
  | true => exact ev_ifT rfl (ev_to _ (rident_ev _ (by omega)) (ev_some (by simp)))
def noPlace : TPlace := TPlace.mk noAddr false
def placeL : Nat → Bytes → List TModuleStep → (Bytes × List TModuleStep) ⊕ (TPlace × Bool)
  | 0, s, f => .inl (s, f)
  | n + 1, s, f => if hasPrefix s modB = true then
      (if (stepR s).2.2 = true then
        (if (stepR s).2.1 = [] then .inr (TPlace.mk (TAddress.mk (f ++ [(stepR s).1]) false [] [] noKey) false, true)
         else if hasPrefix (stepR s).2.1 [46] = true then placeL n ((stepR s).2.1.drop 1) (f ++ [(stepR s).1]) else .inr (noPlace, false))
       else .inr (noPlace, false))
    else .inl (s, f)
theorem rplace_l1 : ∀ (k : Nat) (s : Bytes) (f : List TModuleStep), s.length < k → s.length + f.length ≤ 900000 → Ev2 (fun n m => ref06_place_l1 n m s f) (· = placeL k s f) := by
  intro k
  induction k with
  | zero => intro s f h; omega
  | succ k ih =>
    intro s f hk hs
    refine ev_round ?_
    simp only [ref06_place_l1]
    unfold placeL
    refine ev_to (hasPrefix s modB) (ev_const (begins_eq s modB) rfl) (ev_ite (fun h => ?_) (fun h => ev_some (by rw [if_neg h])))
    rw [if_pos h]
    have h7 : 7 ≤ s.length := pre_len h
    refine ev_to _ (rstep_ev s (by omega) h7) ?_
    have hl := stepR_len s h7
    generalize stepR s = st at hl ⊢
    obtain ⟨x, t, b⟩ := st
    dsimp only at hl ⊢
    cases b with
    | false => exact ev_ifT rfl (ev_some (by rw [if_neg (by simp)]; rfl))
    | true =>
      rw [if_pos (show true = true from rfl)]
      refine ev_ifF (by simp) (ev_ck (by simp only [List.length_cons, List.length_nil]; omega) ?_)
      cases t with
      | nil => exact ev_ifT rfl (ev_some (by rw [if_pos rfl]; rfl))
      | cons c q =>
        rw [if_neg (show ¬ (c :: q : Bytes) = [] by simp), pre_one]
        have hb : byt (c :: q) 0 = (c.toNat : Int) := rfl
        have h46 : c.toNat = 46 ↔ c = 46 := u8nat (by decide)
        simp only [List.length_cons] at hl
        refine ev_ifF (by simp) (ev_ck (by simp only [List.length_cons]; omega) ?_)
        rw [hb]
        refine ev_ite (fun h1 => ev_ck (by simp only [List.length_cons]; omega) ?_) (fun h1 => ev_some ?_)
        · rw [if_pos (decide_eq_true (h46.1 (by omega))), sub_from]
          exact ih q (f ++ [x]) (by omega) (by rw [List.length_append]; simp only [List.length_cons, List.length_nil]; omega)
        · rw [if_neg (fun z => h1 (by have := h46.2 (of_decide_eq_true z); omega))]; rfl

/-! ### Places -/
def tailR (s : Bytes) (f : List TModuleStep) : TPlace × Bool :=
  let w := wordR (trimPrefix s dataB)
  let v := wordR (w.2.drop 1)
  let k := keyR v.2
  if identB w.1 = false ∨ reservedB w.1 = true ∨ hasPrefix w.2 [46] = false then (noPlace, false)
  else if identB v.1 = false ∨ k.2.2 = false ∨ k.2.1 ≠ [] then (noPlace, false)
  else (TPlace.mk (TAddress.mk f (hasPrefix s dataB) w.1 v.1 k.1) true, true)
def placeO (o : (Bytes × List TModuleStep) ⊕ (TPlace × Bool)) : TPlace × Bool := match o with
  | .inl q => tailR q.1 q.2
  | .inr p => p
def placeR (s : Bytes) : TPlace × Bool := placeO (placeL (s.length + 1) s [])
theorem placeL_len : ∀ (k : Nat) (s : Bytes) (f : List TModuleStep) (q : Bytes × List TModuleStep), placeL k s f = .inl q → q.1.length ≤ s.length
  | 0, s, f, q, h => by cases h; exact Nat.le_refl _
  | k + 1, s, f, q, h => by
    unfold placeL at h
    split at h
    · rename_i hp
      have hl := stepR_len s (pre_len hp)
      split at h
      · split at h
        · cases h
        · split at h
          · have := placeL_len k _ _ q h
            rw [List.length_drop] at this; omega
          · cases h
      · cases h
    · cases h; exact Nat.le_refl _
theorem rplace_ev (s : Bytes) (hs : s.length ≤ 900000) : Ev2 (fun n _ => ref06_place n s) (· = placeR s) := by
  simp only [ref06_place]
  have l := rplace_l1 (s.length + 1) s [] (by omega) (by simp; omega)
  have hlen := placeL_len (s.length + 1) s []
  unfold placeR
  generalize placeL (s.length + 1) s [] = o at l hlen ⊢
  cases o with
  | inr p => exact ev_jnR p (ev_loop l) rfl
  | inl q =>
    obtain ⟨t, f⟩ := q
    have ht := hlen (t, f) rfl
    simp only at ht
    refine ev_jnL (t, f) (ev_loop l) ?_
    dsimp only
    show Ev2 _ (· = tailR t f)
    unfold tailR
    have htl := trim_len t dataB
    refine ev_to (trimPrefix t dataB, hasPrefix t dataB) ?_ ?_
    · refine ev_to (hasPrefix t dataB) (ev_const (begins_eq t dataB) rfl) ?_
      cases hp : hasPrefix t dataB with
      | true =>
        obtain ⟨u, rfl⟩ := (pre_iff _ _).1 hp
        have h5 : (dataB ++ u).length = 5 + u.length := by rw [List.length_append]; rfl
        refine ev_ifT rfl (ev_ck (by omega) (ev_some ?_))
        rw [sub_from, trim_app]; rfl
      | false => exact ev_ifF (by simp) (ev_some (by rw [trim_no hp]))
    dsimp only
    have hw := wordR_len (trimPrefix t dataB)
    refine ev_to _ (rword_ev _ (by omega)) ?_
    generalize wordR (trimPrefix t dataB) = W at hw ⊢
    obtain ⟨w, r⟩ := W
    dsimp only at hw ⊢
    refine ev_to (decide (identB w = false ∨ reservedB w = true ∨ hasPrefix r [46] = false)) ?_ ?_
    · refine ev_to _ (rident_ev w (by omega)) ?_
      cases identB w with
      | false => exact ev_ifT rfl (ev_some (by simp))
      | true =>
        refine ev_ifF (by simp) (ev_to _ (res_ev w) ?_)
        cases reservedB w with
        | true => exact ev_ifT rfl (ev_some (by simp))
        | false =>
          refine ev_ifF (by simp) ?_
          cases r with
          | nil => exact ev_ifT rfl (ev_some (by rw [pre_nil]; simp))
          | cons c q =>
            have hb : byt (c :: q) 0 = (c.toNat : Int) := rfl
            have h46 : c.toNat = 46 ↔ c = 46 := u8nat (by decide)
            refine ev_ifF (by simp) (ev_ck (by simp only [List.length_cons]; omega) (ev_some (eqB ?_)))
            rw [hb, pre_one, Bool.not_eq_true', decide_eq_false_iff_not, decide_eq_true_eq, decide_eq_false_iff_not, ← h46]
            constructor
            · intro z; right; right; omega
            · rintro (z | z | z)
              · cases z
              · cases z
              · omega
    refine ev_ite (fun h => ev_some (by rw [if_pos (of_decide_eq_true h)]; rfl)) (fun h => ?_)
    have h := fun z => h (decide_eq_true z)
    rw [if_neg h]
    have hp : hasPrefix r [46] = true := by
      cases hh : hasPrefix r [46] with
      | true => rfl
      | false => exact absurd (.inr (.inr hh)) h
    have h1 : 1 ≤ r.length := pre_len hp
    have e : sub r 1 (r.length : Int) = r.drop 1 := by rw [sub_from]; rfl
    rw [e]
    refine ev_ck (by omega) ?_
    have hv := wordR_len (r.drop 1)
    rw [List.length_drop] at hv
    refine ev_to _ (rword_ev _ (by rw [List.length_drop]; omega)) ?_
    generalize wordR (r.drop 1) = V at hv ⊢
    obtain ⟨v, z⟩ := V
    dsimp only at hv ⊢
    refine ev_to _ (rkeyR_ev _ (by omega)) ?_
    generalize keyR z = K
    obtain ⟨k, y, b⟩ := K
    dsimp only
    refine ev_to (decide (identB v = false ∨ b = false ∨ y ≠ [])) ?_ ?_
    · refine ev_to _ (rident_ev v (by omega)) ?_
      cases identB v with
      | false => exact ev_ifT rfl (ev_some (by simp))
      | true =>
        refine ev_ifF (by simp) ?_
        cases b with
        | false => exact ev_ifT rfl (ev_some (by simp))
        | true => exact ev_ifF (by simp) (ev_some (by simp))
    · exact ev_ite (fun h => ev_some (by rw [if_pos (of_decide_eq_true h)]; rfl)) (fun h => ev_some (by rw [if_neg (fun q => h (decide_eq_true q))]))

/-- ref06.Parse. -/
def parseR (s : Bytes) : TAddress × Int := if (placeR s).2 = false ∨ (placeR s).1.fWhole = false then (noAddr, 2) else if 16 < (placeR s).1.fAddr.fModule.length then (noAddr, 4) else ((placeR s).1.fAddr, 0)
theorem rparse_ev (s : Bytes) (hs : s.length ≤ 900000) : Ev2 (fun n _ => ref06_Parse n s) (· = parseR s) := by
  simp only [ref06_Parse]
  refine ev_to _ (rplace_ev s hs) ?_
  unfold parseR
  generalize placeR s = p
  obtain ⟨p, b⟩ := p
  dsimp only
  refine ev_to (decide (b = false ∨ p.fWhole = false)) ?_ ?_
  · cases b with
    | false => exact ev_ifT rfl (ev_some (by simp))
    | true => exact ev_ifF (by simp) (ev_some (by cases p.fWhole <;> simp))
  · refine ev_ite (fun h => ev_some (by rw [if_pos (of_decide_eq_true h)]; rfl)) (fun h => ?_)
    rw [if_neg (fun q => h (decide_eq_true q))]
    exact ev_ite (fun h => ev_some (by rw [if_pos (by omega)]; rfl)) (fun h => ev_some (by rw [if_neg (by omega)]))
end Go.Ab.R06
