/- The law AddressParses: plain, and its contract. -/
import Derived.Test.YtijgdpmadidpaaaGreatDoorP06w
import Derived.Test.YtijgdpmadidpaaaGreatDoorV06s
import Derived.Test.YtijgdpmadidpaaaGreatDoorDec06
set_option linter.unusedVariables false
set_option linter.unusedSimpArgs false
set_option linter.unnecessarySimpa false
namespace Go.Ab.R06
open Go.Proofs Go.Ab Go.Ab.RB Go.Lib

/-- s is the text of a, and a's parts are in order; how many steps it has is not asked. -/
def Grm (s : Bytes) (a : TAddress) : Prop := (∀ x ∈ a.fModule, identB x.fName = true ∧ keyOk x.fKey = true) ∧ kindB a.fType = true ∧ identB a.fName = true ∧ keyOk a.fKey = true ∧ addrText a = s

/-! ### The program's reader -/
theorem raw_sound (s : Bytes) : parseP s = (noAddr, 2) ∨ ∃ a, Grm s a ∧ parseP s = if 16 < a.fModule.length then (noAddr, 4) else (a, 0) := by
  unfold parseP
  simp only
  have hL := parseL_sound (s.length + 1) [] (Treader.mk s false)
  generalize parseL (s.length + 1) [] (Treader.mk s false) = p at hL ⊢
  obtain ⟨ms, r⟩ := p
  simp only at hL ⊢
  split
  · exact .inl rfl
  · rename_i h0
    right
    simp only [not_or] at h0
    obtain ⟨hb, hr, hk⟩ := h0
    have hb : (keyT (wordT (skipT (wordT (hasT r dataB).2).2 [46])).2).2.fbad = false := by
      have : (tailT r).2.2.2.2.fbad = false := by simpa using hb
      exact this
    have hr : (keyT (wordT (skipT (wordT (hasT r dataB).2).2 [46])).2).2.frest = [] := by
      have : (tailT r).2.2.2.2.frest = [] := by simpa using hr
      exact this
    have hk : kindB (wordT (hasT r dataB).2).1 = true := by
      have : kindB (tailT r).2.1 = true := by simpa using hk
      exact this
    have s1 := key_sound hb
    have s2 := word_sound s1.1
    have s3 := skip_sound s2.1
    have s4 := word_sound s3.1
    have hrb : r.fbad = false := s4.1
    obtain ⟨_, new, e1, e2, e3⟩ := hL hrb
    simp only [List.nil_append] at e1
    subst e1
    have hdat : r.frest = (if (hasT r dataB).1 = true then dataB else []) ++ (hasT r dataB).2.frest := by
      unfold hasT
      simp only
      cases hp : hasPrefix r.frest dataB with
      | true =>
        obtain ⟨t, ht⟩ := (pre_iff _ _).1 hp
        rw [ht, trim_app]; rfl
      | false => rw [trim_no hp]; rfl
    refine ⟨TAddress.mk ms (tailT r).1 (tailT r).2.1 (tailT r).2.2.1 (tailT r).2.2.2.1, ⟨e3, hk, s2.2.1, s1.2.1, ?_⟩, rfl⟩
    show ms.flatMap stepText ++ ((if (hasT r dataB).1 = true then dataB else []) ++ ((wordT (hasT r dataB).2).1 ++ [46] ++ (wordT (skipT (wordT (hasT r dataB).2).2 [46])).1 ++ keyText (keyT (wordT (skipT (wordT (hasT r dataB).2).2 [46])).2).1)) = s
    have x1 := s1.2.2
    rw [hr, List.append_nil] at x1
    rw [← x1, List.append_assoc, ← s2.2.2, List.append_assoc, ← s3.2, ← s4.2.2, ← hdat, ← e2]

theorem no_data {a : TAddress} (h : kindB a.fType = true) : hasPrefix (a.fType ++ [46] ++ a.fName ++ keyText a.fKey) dataB = false := by
  obtain ⟨hres, hid⟩ := (kindB_iff _).1 h
  have hns : ∀ b ∈ a.fType, stopB b = false := fun b hb => id_notstop (ident_all_id hid hb)
  rw [← Bool.not_eq_true, pre_iff]
  rintro ⟨u, hu⟩
  have : a.fType = [100, 97, 116, 97] := dot_word _ _ (a.fName ++ keyText a.fKey) u (by decide) hns (by simpa [dataB] using hu)
  rw [this] at hres
  exact absurd hres (by decide)
theorem no_mod {a : TAddress} (h : kindB a.fType = true) : hasPrefix ((if a.fData = true then dataB else []) ++ (a.fType ++ [46] ++ a.fName ++ keyText a.fKey)) modB = false := by
  obtain ⟨hres, hid⟩ := (kindB_iff _).1 h
  have hns : ∀ b ∈ a.fType, stopB b = false := fun b hb => id_notstop (ident_all_id hid hb)
  rw [← Bool.not_eq_true, pre_iff]
  rintro ⟨u, hu⟩
  cases hd : a.fData with
  | true =>
    rw [hd] at hu
    have := (List.cons.inj hu).1
    exact absurd this (by decide)
  | false =>
    rw [hd] at hu
    have : a.fType = [109, 111, 100, 117, 108, 101] := dot_word _ _ (a.fName ++ keyText a.fKey) u (by decide) hns (by simpa [modB] using hu)
    rw [this] at hres
    exact absurd hres (by decide)
theorem steps_few (ms : List TModuleStep) : ms.length ≤ (ms.flatMap stepText).length := by
  induction ms with
  | nil => simp
  | cons x r ih =>
    have : 1 ≤ (stepText x).length := by simp only [stepText, List.length_append, List.length_cons, List.length_nil]; omega
    simp only [List.flatMap_cons, List.length_append, List.length_cons]; omega

/-! ### The reference's reader -/
theorem placeL_sound : ∀ (k : Nat) (s : Bytes) (f : List TModuleStep) (q : Bytes × List TModuleStep), placeL k s f = .inl q → ∃ new, q.2 = f ++ new ∧ s = new.flatMap stepText ++ q.1 ∧ ∀ x ∈ new, identB x.fName = true ∧ keyOk x.fKey = true
  | 0, s, f, q, h => by cases h; exact ⟨[], by simp, by simp, by simp⟩
  | k + 1, s, f, q, h => by
    unfold placeL at h
    split at h
    · rename_i hp
      obtain ⟨t, rfl⟩ := (pre_iff _ _).1 hp
      split at h
      · rename_i hb
        split at h
        · cases h
        · split at h
          · rename_i hd
            obtain ⟨u, hu⟩ := (pre_iff _ _).1 hd
            rw [hu] at h
            obtain ⟨new, e1, e2, e3⟩ := placeL_sound k _ _ q h
            have hd7 : (modB ++ t).drop 7 = t := rfl
            have hb : ((keyR (wordR t).2).2.2 && identB (wordR t).1) = true := by
              have := hb
              unfold stepR at this
              rw [hd7] at this; exact this
            have hb1 : (keyR (wordR t).2).2.2 = true ∧ identB (wordR t).1 = true := by simpa using hb
            have hst : stepR (modB ++ t) = (TModuleStep.mk (wordR t).1 (keyR (wordR t).2).1, (keyR (wordR t).2).2.1, (keyR (wordR t).2).2.2 && identB (wordR t).1) := rfl
            rw [hst] at hu e1
            have hks := keyR_sound (s := (wordR t).2) (k := (keyR (wordR t).2).1) (t := (keyR (wordR t).2).2.1) (by rw [← hb1.1])
            refine ⟨TModuleStep.mk (wordR t).1 (keyR (wordR t).2).1 :: new, by rw [e1]; simp, ?_, ?_⟩
            · rw [List.flatMap_cons]
              show modB ++ t = (modB ++ (wordR t).1 ++ keyText (keyR (wordR t).2).1 ++ [46] ++ new.flatMap stepText) ++ q.1
              have e2 : u = new.flatMap stepText ++ q.1 := e2
              have hu : (keyR (wordR t).2).2.1 = [46] ++ u := hu
              conv => lhs; rw [rword_sound t, hks.2, hu, e2]
              simp
            · intro x hx
              rcases List.mem_cons.1 hx with rfl | hx
              · exact ⟨hb1.2, hks.1⟩
              · exact e3 x hx
          · cases h
      · cases h
    · cases h; exact ⟨[], by simp, by simp, by simp⟩
theorem stepR_back {x : TModuleStep} (h : identB x.fName = true ∧ keyOk x.fKey = true) (T : Bytes) : stepR (modB ++ (x.fName ++ (keyText x.fKey ++ ([46] ++ T)))) = (x, [46] ++ T, true) := by
  have hd : (modB ++ (x.fName ++ (keyText x.fKey ++ ([46] ++ T)))).drop 7 = x.fName ++ (keyText x.fKey ++ ([46] ++ T)) := rfl
  unfold stepR
  rw [hd, rword_back (t := keyText x.fKey ++ ([46] ++ T)) h.1 (.inr (keyText_head _ _ ⟨46, T, rfl, by decide⟩))]
  simp only
  rw [keyR_back (t := [46] ++ T) h.2 (pre_cons_ne (b := 46) (c := 91) (t := T) (by decide)), h.1]
  rfl
theorem placeL_back : ∀ (new : List TModuleStep) (k : Nat) (f : List TModuleStep) (t : Bytes), new.length < k → (∀ x ∈ new, identB x.fName = true ∧ keyOk x.fKey = true) → hasPrefix t modB = false →
    placeL k (new.flatMap stepText ++ t) f = .inl (t, f ++ new)
  | [], k, f, t, hk, _, ht => by
    obtain ⟨k, rfl⟩ : ∃ k', k = k' + 1 := ⟨k - 1, by omega⟩
    unfold placeL
    rw [if_neg (by simp [ht])]; simp
  | x :: r, k, f, t, hk, hx, ht => by
    obtain ⟨k, rfl⟩ : ∃ k', k = k' + 1 := ⟨k - 1, by omega⟩
    have h1 := hx x List.mem_cons_self
    have ih := placeL_back r k (f ++ [x]) t (by simp only [List.length_cons] at hk; omega) (fun y hy => hx y (List.mem_cons_of_mem _ hy)) ht
    generalize hT : r.flatMap stepText ++ t = T at ih
    have e : (x :: r).flatMap stepText ++ t = modB ++ (x.fName ++ (keyText x.fKey ++ ([46] ++ T))) := by
      rw [List.flatMap_cons, List.append_assoc, hT]; simp [stepText]
    unfold placeL
    rw [e, if_pos (pre_app _ _), stepR_back h1]
    simp only [if_true]
    have hd : ([46] ++ T).drop 1 = T := rfl
    rw [if_neg (by simp), if_pos (pre_app [46] T), hd, ih]
    simp
theorem placeR_sound {s : Bytes} (h2 : (placeR s).2 = true) (hw : (placeR s).1.fWhole = true) : Grm s (placeR s).1.fAddr := by
  unfold placeR at h2 hw ⊢
  have hL := placeL_sound (s.length + 1) s []
  have hN : ∀ p, placeL (s.length + 1) s [] = .inr p → p.1.fWhole = false := by
    have : ∀ (k : Nat) (s : Bytes) (f : List TModuleStep) (p : TPlace × Bool), placeL k s f = .inr p → p.1.fWhole = false := by
      intro k
      induction k with
      | zero => intro s f p h; cases h
      | succ k ih =>
        intro s f p h
        unfold placeL at h
        split at h
        · split at h
          · split at h
            · cases h; rfl
            · split at h
              · exact ih _ _ _ h
              · cases h; rfl
          · cases h; rfl
        · cases h
    exact this _ _ _
  generalize placeL (s.length + 1) s [] = o at h2 hw hL hN ⊢
  cases o with
  | inr p =>
    have := hN p rfl
    have hw : p.1.fWhole = true := hw
    rw [this] at hw; cases hw
  | inl q =>
    obtain ⟨t, f⟩ := q
    obtain ⟨new, e1, e2, e3⟩ := hL _ rfl
    simp only [List.nil_append] at e1 e2
    subst e1
    have h2 : (tailR t f).2 = true := h2
    show Grm s (tailR t f).1.fAddr
    unfold tailR at h2 ⊢
    simp only at h2 ⊢
    split at h2
    · cases h2
    · rename_i c1
      rw [if_neg c1]
      split at h2
      · cases h2
      · rename_i c2
        rw [if_neg c2]
        simp only [not_or] at c1 c2
        obtain ⟨a1, a2, a3⟩ := c1
        obtain ⟨b1, b2, b3⟩ := c2
        have a1 : identB (wordR (trimPrefix t dataB)).1 = true := by simpa using a1
        have a2 : reservedB (wordR (trimPrefix t dataB)).1 = false := by simpa using a2
        have a3 : hasPrefix (wordR (trimPrefix t dataB)).2 [46] = true := by simpa using a3
        obtain ⟨u, hu⟩ := (pre_iff _ _).1 a3
        have hd : (wordR (trimPrefix t dataB)).2.drop 1 = u := by rw [hu]; rfl
        rw [hd] at b1 b2 b3 ⊢
        have b1 : identB (wordR u).1 = true := by simpa using b1
        have b2 : (keyR (wordR u).2).2.2 = true := by simpa using b2
        have b3 : (keyR (wordR u).2).2.1 = [] := by simpa using b3
        have hks := keyR_sound (s := (wordR u).2) (k := (keyR (wordR u).2).1) (t := (keyR (wordR u).2).2.1) (by rw [← b2])
        rw [b3, List.append_nil] at hks
        refine ⟨e3, (kindB_iff _).2 ⟨a2, a1⟩, b1, hks.1, ?_⟩
        show f.flatMap stepText ++ ((if hasPrefix t dataB = true then dataB else []) ++ ((wordR (trimPrefix t dataB)).1 ++ [46] ++ (wordR u).1 ++ keyText (keyR (wordR u).2).1)) = s
        have hdat : t = (if hasPrefix t dataB = true then dataB else []) ++ trimPrefix t dataB := by
          cases hp : hasPrefix t dataB with
          | true =>
            obtain ⟨t', ht⟩ := (pre_iff _ _).1 hp
            rw [ht, trim_app]; rfl
          | false => rw [trim_no hp]; rfl
        rw [← hks.2, List.append_assoc, ← rword_sound u, List.append_assoc, ← hu, ← rword_sound, ← hdat, ← e2]
theorem placeR_back {s : Bytes} {a : TAddress} (h : Grm s a) : placeR s = (TPlace.mk a true, true) := by
  obtain ⟨c2, c3, c4, c5, rfl⟩ := h
  obtain ⟨hres, hid⟩ := (kindB_iff _).1 c3
  have hnd := no_data c3
  have hL := placeL_back a.fModule ((addrText a).length + 1) [] _ (by
    have := steps_few a.fModule
    unfold addrText
    rw [List.length_append]; omega) c2 (no_mod c3)
  have e : addrText a = a.fModule.flatMap stepText ++ ((if a.fData = true then dataB else []) ++ (a.fType ++ [46] ++ a.fName ++ keyText a.fKey)) := rfl
  rw [← e] at hL
  unfold placeR
  rw [hL]
  show tailR _ _ = _
  simp only [List.nil_append]
  have hp : hasPrefix ((if a.fData = true then dataB else []) ++ (a.fType ++ [46] ++ a.fName ++ keyText a.fKey)) dataB = a.fData ∧ trimPrefix ((if a.fData = true then dataB else []) ++ (a.fType ++ [46] ++ a.fName ++ keyText a.fKey)) dataB = a.fType ++ ([46] ++ (a.fName ++ keyText a.fKey)) := by
    cases a.fData with
    | true => rw [if_pos rfl, pre_app, trim_app]; simp
    | false => rw [if_neg (by simp), List.nil_append, hnd, trim_no hnd]; simp
  have hk := keyR_back (t := []) c5 (by decide)
  rw [List.append_nil] at hk
  unfold tailR
  rw [hp.1, hp.2, rword_back (t := [46] ++ (a.fName ++ keyText a.fKey)) hid (.inr ⟨46, a.fName ++ keyText a.fKey, rfl, by decide⟩)]
  simp only
  have hd : ([46] ++ (a.fName ++ keyText a.fKey)).drop 1 = a.fName ++ keyText a.fKey := rfl
  rw [hd, rword_back c4 (keyText_end _)]
  simp only
  rw [hk, hid, hres, pre_app, c4]
  simp
theorem raw_back {s : Bytes} {a : TAddress} (h : Grm s a) : parseP s = if 16 < a.fModule.length then (noAddr, 4) else (a, 0) := by
  obtain ⟨c2, c3, c4, c5, rfl⟩ := h
  obtain ⟨hres, hid⟩ := (kindB_iff _).1 c3
  have hnd := no_data c3
  have hL := parseL_back a.fModule ((addrText a).length + 1) [] _ (by
    have := steps_few a.fModule
    unfold addrText
    rw [List.length_append]; omega) c2 (no_mod c3)
  unfold parseP
  have e : addrText a = a.fModule.flatMap stepText ++ ((if a.fData = true then dataB else []) ++ (a.fType ++ [46] ++ a.fName ++ keyText a.fKey)) := rfl
  rw [← e] at hL
  rw [hL]
  simp only [List.nil_append]
  have hT : tailT (Treader.mk ((if a.fData = true then dataB else []) ++ (a.fType ++ [46] ++ a.fName ++ keyText a.fKey)) false) = (a.fData, a.fType, a.fName, a.fKey, Treader.mk [] false) := by
    have hh : hasT (Treader.mk ((if a.fData = true then dataB else []) ++ (a.fType ++ [46] ++ a.fName ++ keyText a.fKey)) false) dataB = (a.fData, Treader.mk (a.fType ++ ([46] ++ (a.fName ++ keyText a.fKey))) false) := by
      unfold hasT
      simp only
      cases a.fData with
      | true => rw [if_pos rfl, pre_app, trim_app]; simp
      | false => rw [if_neg (by simp), List.nil_append, hnd, trim_no hnd]; simp
    have hk := key_back (t := []) c5 (by decide)
    rw [List.append_nil] at hk
    unfold tailT
    simp only
    rw [hh]
    simp only
    rw [word_back (t := [46] ++ (a.fName ++ keyText a.fKey)) hid (.inr ⟨46, a.fName ++ keyText a.fKey, rfl, by decide⟩)]
    simp only
    rw [skip_back, word_back c4 (keyText_end _)]
    simp only
    rw [hk]
  rw [hT]
  simp only [c3]
  rw [if_neg (by simp)]
theorem parseR_eq (s : Bytes) : parseR s = parseP s := by
  unfold parseR
  by_cases hc : (placeR s).2 = false ∨ (placeR s).1.fWhole = false
  · rw [if_pos hc]
    rcases raw_sound s with h | ⟨a, ha, _⟩
    · exact h.symm
    · rw [placeR_back ha] at hc
      rcases hc with q | q <;> cases q
  · rw [if_neg hc]
    simp only [not_or, Bool.not_eq_false] at hc
    exact (raw_back (placeR_sound hc.1 hc.2)).symm

/-! ### Static, the law -/
theorem rbare_l1 (a : TAddress) (ha : a.fModule.length ≤ 100000) : ∀ (k i : Nat) (f : List TModuleStep), i + k = a.fModule.length → f.length = i → Ev2 (fun _ m => ref06_Bare_l1 a m (i : Int) f) (· = f ++ (a.fModule.drop i).map bareS) := by
  intro k
  induction k with
  | zero =>
    intro i f hi hf
    refine ev_round ?_
    simp only [ref06_Bare_l1]
    refine ev_ifF (by omega) (ev_some ?_)
    rw [List.drop_of_length_le (by omega)]; simp
  | succ k ih =>
    intro i f hi hf
    refine ev_round ?_
    simp only [ref06_Bare_l1]
    have h1 : i < a.fModule.length := by omega
    refine ev_ifT (by omega) (ev_ck (by omega) ?_)
    rw [lat_get _ _ h1]
    refine ev_ck (by simp only [List.length_cons, List.length_nil]; omega) (ev_ck (inR_of (by omega) (by omega)) ?_)
    have := ih (i + 1) (f ++ [bareS a.fModule[i]]) (by omega) (by simp; omega)
    rw [Int.natCast_add, Int.natCast_one] at this
    refine ev_mono this fun r hr => ?_
    rw [hr, List.drop_eq_getElem_cons h1, List.append_assoc]; rfl
theorem rbare_ev (a : TAddress) (ha : Sm a) : Ev2 (fun n _ => ref06_Bare n a) (· = bareP a) := by
  simp only [ref06_Bare]
  have l := rbare_l1 a ha.1 a.fModule.length 0 [] (by omega) rfl
  rw [List.drop_zero, List.nil_append] at l
  exact ev_to _ (ev_loop l) (ev_some rfl)
theorem Sk_bare (a : TAddress) : Sk (bareP a) := by
  refine ⟨by simp [bareP, noKey], fun x hx => ?_⟩
  obtain ⟨y, hy, rfl⟩ := List.mem_map.1 hx
  simp [bareS, noKey]
theorem rStatic_ev (s : Bytes) (hs : s.length ≤ 800000) : Ev2 (fun n _ => ref06_Static n s) (· = staticP s) := by
  simp only [ref06_Static]
  unfold staticP
  refine ev_to _ (rparse_ev s (by omega)) ?_
  rw [parseR_eq]
  have hp := @parse_sound s
  generalize parseP s = p at hp ⊢
  obtain ⟨a, e⟩ := p
  simp only
  refine ev_ite (fun h => ?_) (fun h => ev_some (by rw [if_neg h]))
  subst h
  rw [if_pos rfl]
  have ha := (hp rfl).2.2
  exact ev_to _ (rbare_ev a ha) (ev_to _ (rformatA_ev _ ha.bare (Sk_bare a)) (ev_some rfl))

theorem law_parses (s : Bytes) : Ev2 (fun n _ => law06_AddressParses n s) (· = true) := by
  simp only [law06_AddressParses]
  refine ev_ite (fun h => ev_cut _ awake_ev (fun t ht => ev_some ht)) (fun h => ?_)
  refine ev_to _ (parse_ev s (by omega)) (ev_to _ (rparse_ev s (by omega)) (ev_to _ (Static_ev s (by omega)) (ev_to _ (rStatic_ev s (by omega)) ?_)))
  rw [parseR_eq]
  have hm : (parseP s).1.fModule.length ≤ 1000000 := by
    rcases raw_sound s with h | ⟨a, ha, h⟩
    · rw [h]; simp [noAddr]
    · rw [h]
      split
      · simp [noAddr]
      · simp only; omega
  refine ev_cut (· = true) (ev_ifT rfl (ev_to _ (same_ev _ _ hm) (ev_ifT (by simp [addrEq]) (ev_ifT rfl (ev_ifT rfl (ev_cut _ awake_ev (fun t ht => ev_some ht))))))) (fun t ht => ev_some ht)

theorem parses_all (qs : List PV) (h : WTa tt [9] qs) : PCalls Tryz.prog 4 qs (· = .p (.val (.bool true))) := by
  match qs, h with
  | [a], ⟨⟨n, h1, h2⟩, _⟩ =>
    cases n with
    | zero => exact h1.elim
    | succ n =>
      obtain ⟨x, e1, _⟩ := Go.Ab.dec_str rfl h1
      obtain rfl := mk1_eq e1 h2
      obtain ⟨n, r, hr, rfl⟩ := ev_get (law_parses x)
      exact law06_AddressParses_ok n x true hr
end Go.Ab.R06
