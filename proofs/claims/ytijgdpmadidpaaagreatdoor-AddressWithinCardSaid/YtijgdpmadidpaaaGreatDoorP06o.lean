/- Plain facts of chapter 06: module paths and Within. No program in sight. -/
import Derived.Test.YtijgdpmadidpaaaGreatDoorP06k
import Derived.Test.YtijgdpmadidpaaaGreatDoorV06s
set_option linter.unusedVariables false
set_option linter.unusedSimpArgs false
set_option linter.unnecessarySimpa false
namespace Go.Ab.R06
open Go.Ab Go.Ab.RB Go.Lib

/-! ### Module paths -/
def pathL : Nat → List TModuleStep → Treader → List TModuleStep × Treader
  | 0, ms, r => (ms, r)
  | n + 1, ms, r => if r.fbad = false then
      (if (stepT (skipT r modB)).2.frest = [] then (ms ++ [(stepT (skipT r modB)).1], (stepT (skipT r modB)).2)
       else pathL n (ms ++ [(stepT (skipT r modB)).1]) (skipT (stepT (skipT r modB)).2 [46]))
    else (ms, r)
def pathM (r : Treader) : Nat := r.frest.length + (if r.fbad = true then 0 else 1)
theorem keyT_bad {r : Treader} (h : r.fbad = true) : (keyT r).2.fbad = true := by
  unfold keyT; rw [if_pos h]; exact h
theorem stepT_bad {r : Treader} (h : r.fbad = true) : (stepT r).2.fbad = true := by
  unfold stepT
  exact keyT_bad (by unfold wordT; simp [h])
theorem skipT_bad {r : Treader} (p : Bytes) (h : r.fbad = true) : (skipT r p).fbad = true := by unfold skipT; simp [h]

theorem path_l1 : ∀ (k : Nat) (ms : List TModuleStep) (r : Treader), pathM r < k → r.frest.length + ms.length + (if r.fbad = true then 0 else 1) ≤ 900000 → Ev2 (fun n m => address_modulePath_l1 n m ms r.frest r.fbad) (· = ((pathL k ms r).1, (pathL k ms r).2.frest, (pathL k ms r).2.fbad)) := by
  intro k
  induction k with
  | zero => intro ms r h; omega
  | succ k ih =>
    intro ms r hk hl
    refine ev_round ?_
    simp only [address_modulePath_l1]
    unfold pathL
    cases hb : r.fbad with
    | true =>
      rw [if_neg (by simp)]
      exact ev_ifF (by simp) (ev_some (by rw [← hb]))
    | false =>
      rw [if_pos rfl]
      unfold pathM at hk
      rw [hb] at hk hl
      simp only [Bool.false_eq_true, if_false] at hk hl
      have e : Treader.mk r.frest false = r := by rw [← hb]
      have h0 := skipT_len r modB
      have h1 := stepT_len (skipT r modB)
      rw [show ([109, 111, 100, 117, 108, 101, 46] : Bytes) = modB from rfl]
      refine ev_ifT (by simp) (ev_to _ (ev_const (skip_eq _ _) rfl) ?_)
      rw [e]
      refine ev_to _ (step_ev _ (by omega)) (ev_ck (by simp; omega) ?_)
      generalize hS : stepT (skipT r modB) = s at h1 ⊢
      obtain ⟨x, q⟩ := s
      simp only at h1 ⊢
      refine ev_ite (fun h => ev_some (by rw [if_pos h])) (fun h => ?_)
      rw [if_neg h]
      refine ev_to _ (ev_const (skip_eq _ _) rfl) ?_
      have h2 := skipT_len q [46]
      have hdec : pathM (skipT q [46]) < k ∧ (skipT q [46]).frest.length + (ms ++ [x]).length + (if (skipT q [46]).fbad = true then 0 else 1) ≤ 900000 := by
        unfold pathM
        cases hp : hasPrefix r.frest modB with
        | true =>
          have hpl := pre_len hp
          have : (skipT r modB).frest.length + 7 = r.frest.length := by
            obtain ⟨t, ht⟩ := (pre_iff _ _).1 hp
            show (trimPrefix r.frest modB).length + 7 = _
            rw [ht, trim_app]; simp [modB] <;> omega
          rw [List.length_append]
          simp only [List.length_cons, List.length_nil]
          constructor
          · split <;> omega
          · split <;> omega
        | false =>
          have hbad : (skipT q [46]).fbad = true := by
            apply skipT_bad
            have := stepT_bad (r := skipT r modB) (by unfold skipT; simp [hp])
            rw [hS] at this; exact this
          rw [hbad, List.length_append]
          simp only [if_true, List.length_cons, List.length_nil]
          omega
      exact ih _ _ hdec.1 hdec.2
def pathP (s : Bytes) : List TModuleStep × Bool := ((pathL (s.length + 2) [] (Treader.mk s false)).1, !(pathL (s.length + 2) [] (Treader.mk s false)).2.fbad && decide ((pathL (s.length + 2) [] (Treader.mk s false)).1.length ≤ 16))
theorem path_ev (s : Bytes) (hs : s.length ≤ 800000) : Ev2 (fun n _ => address_modulePath n s) (· = pathP s) := by
  simp only [address_modulePath]
  have l := path_l1 (s.length + 2) [] (Treader.mk s false) (by simp [pathM]) (by simp; omega)
  refine ev_to _ (ev_loop l) ?_
  unfold pathP
  generalize pathL (s.length + 2) [] (Treader.mk s false) = p
  obtain ⟨ms, r⟩ := p
  simp only
  refine ev_to (!r.fbad && decide (ms.length ≤ 16)) ?_ (ev_some rfl)
  cases r.fbad with
  | true => exact ev_ifF (by simp) (ev_some rfl)
  | false => exact ev_ifT (by simp) (ev_some (by simp <;> omega))

/-! ### Within -/
def fitsB (k p : TKey) : Bool := decide (p.fKind = 0) || decide (k = p)
theorem fits_eq (k p : TKey) : address_fits k p = some (fitsB k p) := by
  unfold address_fits fitsB
  by_cases h : p.fKind = 0
  · rw [if_pos h]; simp [h]
  · rw [if_neg h]
    simp only [h, decide_false, Bool.false_or, Option.bind_some]
    refine congrArg some (eqB ?_)
    rw [decide_eq_true_eq, decide_eq_true_eq, key_eq]
def belowB : List TModuleStep → List TModuleStep → Bool
  | _, [] => true
  | [], _ :: _ => false
  | x :: l, y :: p => decide (x.fName = y.fName) && fitsB x.fKey y.fKey && belowB l p
theorem below_l1 (l p : List TModuleStep) (hl : p.length ≤ l.length) (hb : p.length ≤ 1000000) : ∀ (k i : Nat), i + k = p.length → Ev2 (fun _ m => address_below_l1 l p m (i : Int)) (· = if belowB (l.drop i) (p.drop i) = true then .inl () else .inr false) := by
  intro k
  induction k with
  | zero =>
    intro i hi
    refine ev_round ?_
    simp only [address_below_l1]
    refine ev_ifF (by omega) (ev_some ?_)
    rw [List.drop_of_length_le (l := p) (by omega)]
    rw [if_pos (by unfold belowB; rfl)]
  | succ k ih =>
    intro i hi
    refine ev_round ?_
    simp only [address_below_l1]
    have h1 : i < l.length := by omega
    have h2 : i < p.length := by omega
    refine ev_ifT (by omega) (ev_ck (by omega) ?_)
    rw [lat_get _ _ h1, lat_get _ _ h2, List.drop_eq_getElem_cons h1, List.drop_eq_getElem_cons h2]
    have := ih (i + 1) (by omega)
    rw [Int.natCast_add, Int.natCast_one] at this
    generalize l[i] = x
    generalize p[i] = y
    refine ev_to (!(decide (x.fName = y.fName) && fitsB x.fKey y.fKey)) ?_ ?_
    · refine ev_ck (by omega) (ev_ite (fun h => ev_ck (by omega) (ev_to _ (ev_const (fits_eq _ _) rfl) (ev_some (by simp [h])))) (fun h => ev_some (by simp [h])))
    · unfold belowB
      cases hc : (decide (x.fName = y.fName) && fitsB x.fKey y.fKey) with
      | false => exact ev_ifT rfl (ev_some (by simp))
      | true =>
        refine ev_ifF (by simp) (ev_ck (inR_of (by omega) (by omega)) ?_)
        simpa using this
theorem belowB_short : ∀ (l p : List TModuleStep), l.length < p.length → belowB l p = false
  | l, [], h => by simp at h
  | [], y :: p, _ => by unfold belowB; rfl
  | x :: l, y :: p, h => by
    unfold belowB
    rw [belowB_short l p (by simpa using h)]; simp
theorem below_ev (l p : List TModuleStep) (hb : p.length ≤ 1000000) : Ev2 (fun n _ => address_below n l p) (· = belowB l p) := by
  simp only [address_below]
  refine ev_ite (fun h => ev_some (belowB_short l p (by omega)).symm) (fun h => ?_)
  have l1 := below_l1 l p (by omega) hb p.length 0 (by omega)
  rw [List.drop_zero, List.drop_zero] at l1
  cases hc : belowB l p with
  | true => rw [hc] at l1; exact ev_jnL () (ev_loop l1) (ev_some rfl)
  | false => rw [hc] at l1; exact ev_jnR false (ev_loop l1) rfl

def sameB (a p : TAddress) : Bool := decide (a.fModule.length = p.fModule.length) && belowB a.fModule p.fModule && (a.fData == p.fData) && decide (a.fType = p.fType) && decide (a.fName = p.fName) && fitsB a.fKey p.fKey
def withinP (s p : Bytes) : Bool := if (parseP s).2 = 0 then (if (parseP p).2 = 0 then sameB (parseP s).1 (parseP p).1 else (pathP p).2 && belowB (parseP s).1.fModule (pathP p).1) else false
theorem pathP_len {p : Bytes} (h : (pathP p).2 = true) : (pathP p).1.length ≤ 16 := by
  unfold pathP at *
  simp only [Bool.and_eq_true, decide_eq_true_eq] at h
  exact h.2
theorem within_ev (s p : Bytes) (hs : s.length ≤ 800000) (hp : p.length ≤ 800000) : Ev2 (fun n _ => address_Within n s p) (· = withinP s p) := by
  simp only [address_Within]
  unfold withinP
  have s1 := @parse_sound s
  have s2 := @parse_sound p
  refine ev_to _ (parse_ev s hs) ?_
  generalize parseP s = a at s1 ⊢
  obtain ⟨a, e⟩ := a
  simp only
  refine ev_ite (fun h => ?_) (fun h => ev_some (by rw [if_neg h]))
  subst h
  rw [if_pos rfl]
  refine ev_to _ (parse_ev p hp) ?_
  generalize parseP p = b at s2 ⊢
  obtain ⟨b, f⟩ := b
  simp only
  refine ev_ite (fun h => ?_) (fun h => ?_)
  · subst h
    rw [if_pos rfl]
    have hb := (s2 rfl).2.2.1
    refine ev_to (sameB a b) ?_ (ev_some rfl)
    unfold sameB
    refine ev_ite (fun h1 => ?_) (fun h1 => ev_some ?_)
    · refine ev_to _ (below_ev a.fModule b.fModule (by omega)) ?_
      have h1 : a.fModule.length = b.fModule.length := by omega
      cases belowB a.fModule b.fModule with
      | false => exact ev_ifF (by simp) (ev_some (by simp))
      | true =>
        refine ev_ifT rfl (ev_ite (fun h2 => ev_ite (fun h3 => ev_ite (fun h4 => ev_to _ (ev_const (fits_eq _ _) rfl) (ev_some ?_)) (fun h4 => ev_some (by simp [h4]))) (fun h3 => ev_some (by simp [h3]))) (fun h2 => ev_some ?_))
        · simp [h1, h2, h3, h4]
        · have h2 : (a.fData == b.fData) = false := by simpa using h2
          simp [h2]
    · have h1 : ¬ a.fModule.length = b.fModule.length := by omega
      simp [h1]
  · rw [if_neg h]
    have hlen := @pathP_len p
    refine ev_to _ (path_ev p hp) ?_
    generalize pathP p = q at hlen ⊢
    obtain ⟨ms, ok⟩ := q
    simp only at hlen ⊢
    refine ev_to (ok && belowB a.fModule ms) ?_ (ev_some rfl)
    cases ok with
    | false => exact ev_ifF (by simp) (ev_some rfl)
    | true =>
      have := hlen rfl
      exact ev_ifT rfl (ev_to _ (below_ev a.fModule ms (by omega)) (ev_some (by simp)))

/-! ### What an address is within -/
theorem fits_self (k : TKey) : fitsB k k = true := by simp [fitsB]
theorem fits_none (k : TKey) : fitsB k noKey = true := by simp [fitsB, noKey]
theorem below_self : ∀ (l r : List TModuleStep), belowB (l ++ r) l = true
  | [], r => by cases r <;> (unfold belowB; rfl)
  | x :: l, r => by
    show belowB (x :: (l ++ r)) (x :: l) = true
    unfold belowB
    rw [below_self l r, fits_self]; simp
theorem below_last : ∀ (l : List TModuleStep) (x : TModuleStep) (r : List TModuleStep), belowB (l ++ x :: r) (l ++ [bareS x]) = true
  | [], x, r => by
    show belowB (x :: r) [bareS x] = true
    unfold belowB
    have : belowB r [] = true := by cases r <;> (unfold belowB; rfl)
    rw [this]
    show (decide (x.fName = x.fName) && fitsB x.fKey noKey && true) = true
    rw [fits_none]; simp
  | y :: l, x, r => by
    show belowB (y :: (l ++ x :: r)) (y :: (l ++ [bareS x])) = true
    unfold belowB
    rw [below_last l x r, fits_self]; simp
theorem below_bare : ∀ l : List TModuleStep, belowB l (l.map bareS) = true
  | [] => by unfold belowB; rfl
  | x :: l => by
    show belowB (x :: l) (bareS x :: l.map bareS) = true
    unfold belowB
    rw [below_bare l]
    show (decide (x.fName = x.fName) && fitsB x.fKey noKey && true) = true
    rw [fits_none]; simp
theorem within_self {a : TAddress} (h : checkP a = 0) : withinP (addrText a) (addrText a) = true := by
  unfold withinP
  rw [parse_back h]
  have := below_self a.fModule []
  rw [List.append_nil] at this
  simp [sameB, this, fits_self]
theorem within_bare {a : TAddress} (h : checkP a = 0) : withinP (addrText a) (addrText (bareP a)) = true := by
  unfold withinP
  rw [parse_back h, parse_back (check_bare h)]
  simp [sameB, bareP, below_bare, fits_none]

/-- The text of a module path. -/
def pathText (ms : List TModuleStep) (x : TModuleStep) : Bytes := ms.flatMap stepText ++ (modB ++ (x.fName ++ keyText x.fKey))
theorem step_end {x : TModuleStep} (h1 : identB x.fName = true) (h2 : keyOk x.fKey = true) : stepT (Treader.mk (x.fName ++ keyText x.fKey) false) = (x, Treader.mk [] false) := by
  unfold stepT
  rw [word_back h1 (keyText_end _)]
  have hk := key_back (t := []) h2 (by decide)
  rw [List.append_nil] at hk
  simp only
  rw [hk]
theorem step_dot {x : TModuleStep} (h1 : identB x.fName = true) (h2 : keyOk x.fKey = true) (T : Bytes) : stepT (Treader.mk (x.fName ++ (keyText x.fKey ++ ([46] ++ T))) false) = (x, Treader.mk ([46] ++ T) false) := by
  unfold stepT
  rw [word_back (t := keyText x.fKey ++ ([46] ++ T)) h1 (.inr (keyText_head _ _ ⟨46, T, rfl, by decide⟩))]
  simp only
  rw [key_back (t := [46] ++ T) h2 (pre_cons_ne (b := 46) (c := 91) (t := T) (by decide))]
theorem path_back : ∀ (new : List TModuleStep) (x : TModuleStep) (k : Nat) (ms : List TModuleStep), new.length < k → (∀ y ∈ new, identB y.fName = true ∧ keyOk y.fKey = true) → identB x.fName = true → keyOk x.fKey = true →
    pathL k ms (Treader.mk (pathText new x) false) = (ms ++ (new ++ [x]), Treader.mk [] false)
  | [], x, k, ms, hk, _, h1, h2 => by
    obtain ⟨k, rfl⟩ : ∃ k', k = k' + 1 := ⟨k - 1, by omega⟩
    unfold pathL pathText
    simp only [List.flatMap_nil, List.nil_append]
    rw [if_pos trivial, skip_back, step_end h1 h2]
    simp
  | y :: r, x, k, ms, hk, hy, h1, h2 => by
    obtain ⟨k, rfl⟩ : ∃ k', k = k' + 1 := ⟨k - 1, by omega⟩
    have hh := hy y List.mem_cons_self
    have ih := path_back r x k (ms ++ [y]) (by simp only [List.length_cons] at hk; omega) (fun z hz => hy z (List.mem_cons_of_mem _ hz)) h1 h2
    generalize hT : pathText r x = T at ih
    have e : pathText (y :: r) x = modB ++ (y.fName ++ (keyText y.fKey ++ ([46] ++ T))) := by
      rw [← hT]; unfold pathText; rw [List.flatMap_cons]; simp [stepText]
    unfold pathL
    rw [e]
    simp only [if_true]
    rw [skip_back, step_dot hh.1 hh.2]
    simp only
    rw [if_neg (by simp), skip_back, ih]
    simp
theorem parse_path : ∀ (new : List TModuleStep) (x : TModuleStep) (k : Nat) (ms : List TModuleStep), (∀ y ∈ new, identB y.fName = true ∧ keyOk y.fKey = true) → identB x.fName = true → keyOk x.fKey = true → new.length < k →
    (parseL k ms (Treader.mk (pathText new x) false)).2.fbad = true
  | [], x, k, ms, _, h1, h2, hk => by
    obtain ⟨k, rfl⟩ : ∃ k', k = k' + 1 := ⟨k - 1, by omega⟩
    unfold parseL pathText
    simp only [List.flatMap_nil, List.nil_append]
    rw [if_pos ⟨trivial, pre_app _ _⟩]
    have hd : (modB ++ (x.fName ++ keyText x.fKey)).drop 7 = x.fName ++ keyText x.fKey := rfl
    rw [hd, step_end h1 h2]
    have hs : skipT (Treader.mk [] false) [46] = Treader.mk [] true := rfl
    simp only
    rw [hs]
    cases k with
    | zero => rfl
    | succ k => unfold parseL; rw [if_neg (by simp)]
  | y :: r, x, k, ms, hy, h1, h2, hk => by
    obtain ⟨k, rfl⟩ : ∃ k', k = k' + 1 := ⟨k - 1, by omega⟩
    have hh := hy y List.mem_cons_self
    have ih := parse_path r x k (ms ++ [y]) (fun z hz => hy z (List.mem_cons_of_mem _ hz)) h1 h2 (by simp only [List.length_cons] at hk; omega)
    generalize hT : pathText r x = T at ih
    have e : pathText (y :: r) x = modB ++ (y.fName ++ (keyText y.fKey ++ ([46] ++ T))) := by
      rw [← hT]; unfold pathText; rw [List.flatMap_cons]; simp [stepText]
    unfold parseL
    rw [e]
    simp only
    rw [if_pos ⟨trivial, pre_app _ _⟩]
    have hd : (modB ++ (y.fName ++ (keyText y.fKey ++ ([46] ++ T)))).drop 7 = y.fName ++ (keyText y.fKey ++ ([46] ++ T)) := rfl
    rw [hd, step_dot hh.1 hh.2]
    simp only
    rw [skip_back, ih]
theorem flat_ge : ∀ ms : List TModuleStep, ms.length ≤ (ms.flatMap stepText).length
  | [] => by simp
  | x :: r => by
    have := flat_ge r
    have h : 1 ≤ (stepText x).length := by simp only [stepText, List.length_append, List.length_cons, List.length_nil]; omega
    simp only [List.flatMap_cons, List.length_append, List.length_cons]; omega
theorem tail_bad {r : Treader} (h : r.fbad = true) : (tailT r).2.2.2.2.fbad = true := by
  unfold tailT
  simp only
  refine keyT_bad ?_
  have h1 : (hasT r dataB).2.fbad = true := h
  have h2 : (wordT (hasT r dataB).2).2.fbad = true := by unfold wordT; simp [h1]
  have h3 := skipT_bad [46] h2
  unfold wordT at h3 ⊢
  simp [h3]
theorem parse_path_err {new : List TModuleStep} {x : TModuleStep} (hy : ∀ y ∈ new, identB y.fName = true ∧ keyOk y.fKey = true) (h1 : identB x.fName = true) (h2 : keyOk x.fKey = true) : (parseP (pathText new x)).2 = 2 := by
  have hg := flat_ge new
  have hb := parse_path new x ((pathText new x).length + 1) [] hy h1 h2 (by unfold pathText; rw [List.length_append]; omega)
  unfold parseP
  simp only
  rw [if_pos (.inl (tail_bad hb))]
theorem within_path {a : TAddress} (h : checkP a = 0) {new : List TModuleStep} {x : TModuleStep} (hy : ∀ y ∈ new, identB y.fName = true ∧ keyOk y.fKey = true) (h1 : identB x.fName = true) (h2 : keyOk x.fKey = true)
    (hl : new.length < 16) (hb : belowB a.fModule (new ++ [x]) = true) : withinP (addrText a) (pathText new x) = true := by
  have hg := flat_ge new
  have hp := path_back new x ((pathText new x).length + 2) [] (by unfold pathText; rw [List.length_append]; omega) hy h1 h2
  unfold withinP
  rw [parse_back h, parse_path_err hy h1 h2]
  simp only [if_true]
  rw [if_neg (by decide)]
  unfold pathP
  rw [hp]
  simp only [List.nil_append, Bool.not_false, Bool.true_and]
  rw [hb]
  simp; omega
end Go.Ab.R06
