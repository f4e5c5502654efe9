/- Plain facts of chapter 06: the reference's module paths and Within. No program in sight. -/
import Derived.Test.YtijgdpmadidpaaaGreatDoorP06o
import Derived.Test.YtijgdpmadidpaaaGreatDoorV06p
import Derived.Test.YtijgdpmadidpaaaGreatDoorR06w
set_option linter.unusedVariables false
set_option linter.unusedSimpArgs false
set_option linter.unnecessarySimpa false
namespace Go.Ab.R06
open Go.Ab Go.Ab.RB Go.Lib

def Vs (x : TModuleStep) : Prop := identB x.fName = true ∧ keyOk x.fKey = true
/-! ### The program's paths -/
theorem step_sound {r : Treader} (h : (stepT r).2.fbad = false) : r.fbad = false ∧ Vs (stepT r).1 ∧ r.frest = (stepT r).1.fName ++ (keyText (stepT r).1.fKey ++ (stepT r).2.frest) := by
  obtain ⟨k1, k2, k3⟩ := key_sound (r := (wordT r).2) h
  obtain ⟨w1, w2, w3⟩ := word_sound k1
  refine ⟨w1, ⟨w2, k2⟩, ?_⟩
  show r.frest = (wordT r).1 ++ (keyText (keyT (wordT r).2).1 ++ (keyT (wordT r).2).2.frest)
  rw [← k3, ← w3]
theorem pathL_sound : ∀ (k : Nat) (ms : List TModuleStep) (r : Treader), pathM r < k → (pathL k ms r).2.fbad = false →
    r.fbad = false ∧ ∃ new x, (pathL k ms r).1 = ms ++ (new ++ [x]) ∧ r.frest = pathText new x ∧ ∀ y ∈ new ++ [x], Vs y
  | 0, ms, r, hk, _ => by omega
  | k + 1, ms, r, hk, h => by
    unfold pathL at h ⊢
    cases hb : r.fbad with
    | true => rw [hb, if_neg (by simp)] at h; simp only at h; rw [hb] at h; cases h
    | false =>
      rw [hb, if_pos rfl] at h
      rw [if_pos rfl]
      refine ⟨rfl, ?_⟩
      have hs := @step_sound (skipT r modB)
      have hsk := @skip_sound r modB
      have h1 := stepT_len (skipT r modB)
      generalize hS : stepT (skipT r modB) = s at h hs h1 ⊢
      obtain ⟨x, q⟩ := s
      dsimp only at h hs h1 ⊢
      by_cases he : q.frest = []
      · rw [if_pos he] at h ⊢
        have h : q.fbad = false := h
        obtain ⟨a1, a2, a3⟩ := hs h
        obtain ⟨_, b2⟩ := hsk a1
        refine ⟨[], x, by simp, ?_, by simpa using a2⟩
        rw [b2, a3, he]; simp [pathText]
      · rw [if_neg he] at h ⊢
        have h2 := skipT_len q [46]
        have hd : pathM (skipT q [46]) < k := by
          unfold pathM at hk ⊢
          rw [hb] at hk
          simp only [Bool.false_eq_true, if_false] at hk
          cases hp : hasPrefix r.frest modB with
          | true =>
            have : (skipT r modB).frest.length + 7 = r.frest.length := by
              obtain ⟨t, ht⟩ := (pre_iff _ _).1 hp
              show (trimPrefix r.frest modB).length + 7 = _
              rw [ht, trim_app]; simp [modB] <;> omega
            split <;> omega
          | false =>
            have hbad : (skipT q [46]).fbad = true := by
              apply skipT_bad
              have := stepT_bad (r := skipT r modB) (by unfold skipT; simp [hp])
              rw [hS] at this; exact this
            have h0 := skipT_len r modB
            rw [hbad]
            simp only [if_true]; omega
        obtain ⟨c1, new, y, c2, c3, c4⟩ := pathL_sound k (ms ++ [x]) (skipT q [46]) hd h
        obtain ⟨d1, d2⟩ := skip_sound c1
        obtain ⟨a1, a2, a3⟩ := hs d1
        obtain ⟨_, b2⟩ := hsk a1
        refine ⟨x :: new, y, by rw [c2]; simp, ?_, ?_⟩
        · rw [b2, a3, d2, c3]; simp [pathText, stepText]
        · intro z hz
          rcases List.mem_cons.1 hz with rfl | hz
          · exact a2
          · exact c4 z hz
theorem pathP_sound {p : Bytes} (h : (pathP p).2 = true) : ∃ new x, (pathP p).1 = new ++ [x] ∧ p = pathText new x ∧ ∀ y ∈ new ++ [x], Vs y := by
  unfold pathP at h ⊢
  simp only [Bool.and_eq_true, Bool.not_eq_true'] at h
  obtain ⟨_, new, x, h1, h2, h3⟩ := pathL_sound (p.length + 2) [] (Treader.mk p false) (by simp [pathM]) h.1
  exact ⟨new, x, by simpa using h1, h2, h3⟩
theorem pathP_back {new : List TModuleStep} {x : TModuleStep} (h : ∀ y ∈ new ++ [x], Vs y) : pathP (pathText new x) = (new ++ [x], decide ((new ++ [x]).length ≤ 16)) := by
  have hg := flat_ge new
  have hp := path_back new x ((pathText new x).length + 2) [] (by unfold pathText; rw [List.length_append]; omega) (fun y hy => h y (List.mem_append_left _ hy)) (h x (by simp)).1 (h x (by simp)).2
  unfold pathP
  rw [hp]
  simp

/-! ### The reference's paths -/
def pathPl (ms : List TModuleStep) : TPlace := TPlace.mk (TAddress.mk ms false [] [] noKey) false
theorem stepR_sound {t : Bytes} (hb : (stepR (modB ++ t)).2.2 = true) : Vs (stepR (modB ++ t)).1 ∧ t = (stepR (modB ++ t)).1.fName ++ (keyText (stepR (modB ++ t)).1.fKey ++ (stepR (modB ++ t)).2.1) := by
  have hst : stepR (modB ++ t) = (TModuleStep.mk (wordR t).1 (keyR (wordR t).2).1, (keyR (wordR t).2).2.1, (keyR (wordR t).2).2.2 && identB (wordR t).1) := rfl
  rw [hst] at hb ⊢
  dsimp only at hb ⊢
  simp only [Bool.and_eq_true] at hb
  have hks := keyR_sound (s := (wordR t).2) (k := (keyR (wordR t).2).1) (t := (keyR (wordR t).2).2.1) (by rw [← hb.1])
  refine ⟨⟨hb.2, hks.1⟩, ?_⟩
  rw [← hks.2]; exact rword_sound t
theorem placeL_path : ∀ (k : Nat) (s : Bytes) (f : List TModuleStep) (p : TPlace), placeL k s f = .inr (p, true) → ∃ new x, p = pathPl (f ++ (new ++ [x])) ∧ s = pathText new x ∧ ∀ y ∈ new ++ [x], Vs y
  | 0, s, f, p, h => by cases h
  | k + 1, s, f, p, h => by
    unfold placeL at h
    split at h
    · rename_i hp
      obtain ⟨t, rfl⟩ := (pre_iff _ _).1 hp
      have hs := @stepR_sound t
      generalize stepR (modB ++ t) = st at h hs
      obtain ⟨x, u, b⟩ := st
      dsimp only at h hs
      split at h
      · rename_i hb
        obtain ⟨h1, h2⟩ := hs hb
        split at h
        · rename_i he
          cases h
          refine ⟨[], x, rfl, ?_, by simpa using h1⟩
          rw [h2, he]; simp [pathText]
        · split at h
          · rename_i hd
            obtain ⟨v, hv⟩ := (pre_iff _ _).1 hd
            rw [hv] at h
            obtain ⟨new, y, e1, e2, e3⟩ := placeL_path k _ _ p h
            refine ⟨x :: new, y, by rw [e1]; simp, ?_, ?_⟩
            · have e2 : v = pathText new y := e2
              rw [h2, hv, e2]; simp [pathText, stepText]
            · intro z hz
              rcases List.mem_cons.1 hz with rfl | hz
              · exact h1
              · exact e3 z hz
          · cases h
      · cases h
    · cases h
theorem stepR_end {x : TModuleStep} (h : Vs x) : stepR (modB ++ (x.fName ++ keyText x.fKey)) = (x, [], true) := by
  have hd : (modB ++ (x.fName ++ keyText x.fKey)).drop 7 = x.fName ++ keyText x.fKey := rfl
  have hk := keyR_back (t := []) h.2 (by decide)
  rw [List.append_nil] at hk
  unfold stepR
  rw [hd, rword_back h.1 (keyText_end _)]
  simp only
  rw [hk, h.1]
  rfl
theorem placeL_pathBack : ∀ (new : List TModuleStep) (x : TModuleStep) (k : Nat) (f : List TModuleStep), new.length < k → (∀ y ∈ new ++ [x], Vs y) → placeL k (pathText new x) f = .inr (pathPl (f ++ (new ++ [x])), true)
  | [], x, k, f, hk, h => by
    obtain ⟨k, rfl⟩ : ∃ k', k = k' + 1 := ⟨k - 1, by omega⟩
    unfold placeL pathText
    simp only [List.flatMap_nil, List.nil_append]
    rw [if_pos (pre_app _ _), stepR_end (h x (by simp))]
    simp [pathPl]
  | y :: r, x, k, f, hk, h => by
    obtain ⟨k, rfl⟩ : ∃ k', k = k' + 1 := ⟨k - 1, by omega⟩
    have hy := h y (by simp)
    have ih := placeL_pathBack r x k (f ++ [y]) (by simp only [List.length_cons] at hk; omega) (fun z hz => h z (List.mem_cons_of_mem _ hz))
    generalize hT : pathText r x = T at ih
    have e : pathText (y :: r) x = modB ++ (y.fName ++ (keyText y.fKey ++ ([46] ++ T))) := by
      rw [← hT]; unfold pathText; rw [List.flatMap_cons]; simp [stepText]
    unfold placeL
    rw [e, if_pos (pre_app _ _), stepR_back hy]
    simp only [if_true]
    have hd : ([46] ++ T).drop 1 = T := rfl
    rw [if_neg (by simp), if_pos (pre_app [46] T), hd, ih]
    simp
theorem placeR_path {s : Bytes} (h2 : (placeR s).2 = true) (hw : (placeR s).1.fWhole = false) : ∃ new x, (placeR s).1 = pathPl (new ++ [x]) ∧ s = pathText new x ∧ ∀ y ∈ new ++ [x], Vs y := by
  unfold placeR at h2 hw ⊢
  have hL := placeL_path (s.length + 1) s []
  generalize placeL (s.length + 1) s [] = o at h2 hw hL ⊢
  cases o with
  | inr p =>
    obtain ⟨p, b⟩ := p
    have h2 : b = true := h2
    subst h2
    obtain ⟨new, x, e1, e2, e3⟩ := hL p rfl
    exact ⟨new, x, (show p = _ by simpa using e1), e2, e3⟩
  | inl q =>
    have h2 : (tailR q.1 q.2).2 = true := h2
    have hw : (tailR q.1 q.2).1.fWhole = false := hw
    unfold tailR at h2 hw
    simp only at h2 hw
    split at h2
    · cases h2
    · rename_i c1
      rw [if_neg c1] at hw
      split at h2
      · cases h2
      · rename_i c2
        rw [if_neg c2] at hw
        cases hw
theorem placeR_pathBack {new : List TModuleStep} {x : TModuleStep} (h : ∀ y ∈ new ++ [x], Vs y) : placeR (pathText new x) = (pathPl (new ++ [x]), true) := by
  have hg := flat_ge new
  have := placeL_pathBack new x ((pathText new x).length + 1) [] (by unfold pathText; rw [List.length_append]; omega) h
  unfold placeR
  rw [this]
  rfl

/-! ### Within -/
def pplaceR (s : Bytes) : TPlace × Bool := if (placeR s).2 = false ∨ 16 < (placeR s).1.fAddr.fModule.length then (noPlace, false) else ((placeR s).1, true)
theorem rpplace_ev (s : Bytes) (hs : s.length ≤ 900000) : Ev2 (fun n _ => ref06_ParsePlace n s) (· = pplaceR s) := by
  simp only [ref06_ParsePlace]
  refine ev_to _ (rplace_ev s hs) ?_
  unfold pplaceR
  generalize placeR s = p
  obtain ⟨p, b⟩ := p
  dsimp only
  refine ev_to (decide (b = false ∨ 16 < p.fAddr.fModule.length)) ?_ ?_
  · cases b with
    | false => exact ev_ifT rfl (ev_some (by simp))
    | true => exact ev_ifF (by simp) (ev_some (by simp; omega))
  · exact ev_ite (fun h => ev_some (by rw [if_pos (of_decide_eq_true h)]; rfl)) (fun h => ev_some (by rw [if_neg (fun q => h (decide_eq_true q))]))
theorem matches_eq (p k : TKey) : ref06_matches p k = some (fitsB k p) := by
  unfold ref06_matches fitsB
  by_cases h : p.fKind = 0
  · rw [if_pos h]; simp [h]
  · rw [if_neg h]
    simp only [h, decide_false, Bool.false_or, Option.bind_some]
    refine congrArg some (eqB ?_)
    rw [decide_eq_true_eq, decide_eq_true_eq, ← key_eq]
    exact ⟨fun h => h.symm, fun h => h.symm⟩
theorem rwithin_l1 (a : TAddress × Int) (p : TPlace × Bool) (hl : p.1.fAddr.fModule.length ≤ a.1.fModule.length) (hb : p.1.fAddr.fModule.length ≤ 1000000) : ∀ (k i : Nat), i + k = p.1.fAddr.fModule.length →
    Ev2 (fun _ m => ref06_Within_l1 a p m (i : Int)) (· = if belowB (a.1.fModule.drop i) (p.1.fAddr.fModule.drop i) = true then .inl () else .inr false) := by
  intro k
  induction k with
  | zero =>
    intro i hi
    refine ev_round ?_
    simp only [ref06_Within_l1]
    refine ev_ifF (by omega) (ev_some ?_)
    rw [List.drop_of_length_le (l := p.1.fAddr.fModule) (by omega)]
    rw [if_pos (by unfold belowB; rfl)]
  | succ k ih =>
    intro i hi
    refine ev_round ?_
    simp only [ref06_Within_l1]
    have h1 : i < a.1.fModule.length := by omega
    have h2 : i < p.1.fAddr.fModule.length := by omega
    refine ev_ifT (by omega) ?_
    rw [lat_get _ _ h1, lat_get _ _ h2, List.drop_eq_getElem_cons h1, List.drop_eq_getElem_cons h2]
    have := ih (i + 1) (by omega)
    rw [Int.natCast_add, Int.natCast_one] at this
    generalize a.1.fModule[i] = x
    generalize p.1.fAddr.fModule[i] = y
    refine ev_to (!(decide (x.fName = y.fName) && fitsB x.fKey y.fKey)) ?_ ?_
    · exact ev_ck (by omega) (ev_ck (by omega) (ev_ite (fun h => ev_ck (by omega) (ev_ck (by omega) (ev_to _ (ev_const (matches_eq _ _) rfl) (ev_some (by simp [h]))))) (fun h => ev_some (by simp [h]))))
    · unfold belowB
      cases hc : (decide (x.fName = y.fName) && fitsB x.fKey y.fKey) with
      | false => exact ev_ifT rfl (ev_some (by simp))
      | true =>
        refine ev_ifF (by simp) (ev_ck (inR_of (by omega) (by omega)) ?_)
        simpa using this
def withinR (s p : Bytes) : Bool := decide ((parseP s).2 = 0) && (pplaceR p).2 && belowB (parseP s).1.fModule (pplaceR p).1.fAddr.fModule && (!(pplaceR p).1.fWhole || sameB (parseP s).1 (pplaceR p).1.fAddr)
theorem pplace_len (p : Bytes) : (pplaceR p).1.fAddr.fModule.length ≤ 16 := by
  unfold pplaceR
  split
  · simp [noPlace, noAddr]
  · rename_i h; simp only; omega
theorem rwithin_ev (s p : Bytes) (hs : s.length ≤ 800000) (hp : p.length ≤ 800000) : Ev2 (fun n _ => ref06_Within n s p) (· = withinR s p) := by
  simp only [ref06_Within]
  refine ev_to _ (rparse_ev s (by omega)) (ev_to _ (rpplace_ev p (by omega)) ?_)
  rw [parseR_eq]
  have hpl := pplace_len p
  unfold withinR
  generalize parseP s = a
  generalize pplaceR p = q at hpl ⊢
  have hsh := belowB_short a.1.fModule q.1.fAddr.fModule
  refine ev_to (!(decide (a.2 = 0) && q.2 && decide (q.1.fAddr.fModule.length ≤ a.1.fModule.length))) ?_ ?_
  · refine ev_ite (fun h => ?_) (fun h => ev_some (by simp [h]))
    cases hq : q.2 with
    | false => exact ev_ifT rfl (ev_some (by simp))
    | true => exact ev_ifF (by simp) (ev_some (eqB (by simp [h])))
  · cases hc : (decide (a.2 = 0) && q.2 && decide (q.1.fAddr.fModule.length ≤ a.1.fModule.length)) with
    | false =>
      refine ev_ifT rfl (ev_some ?_)
      cases hc2 : (decide (a.2 = 0) && q.2) with
      | false => simp
      | true =>
        rw [hc2] at hc
        simp only [Bool.true_and, decide_eq_false_iff_not] at hc
        rw [hsh (by omega)]; simp
    | true =>
      refine ev_ifF (by simp) ?_
      simp only [Bool.and_eq_true, decide_eq_true_eq] at hc
      obtain ⟨⟨c1, c2⟩, c3⟩ := hc
      have l := rwithin_l1 a q c3 (by omega) q.1.fAddr.fModule.length 0 (by omega)
      rw [List.drop_zero, List.drop_zero] at l
      cases hbl : belowB a.1.fModule q.1.fAddr.fModule with
      | false =>
        rw [hbl] at l
        refine ev_jnR false (ev_loop l) ?_
        simp
      | true =>
        rw [hbl] at l
        refine ev_jnL () (ev_loop l) ?_
        cases hw : q.1.fWhole with
        | false => exact ev_ifT rfl (ev_some (by simp [c1, c2]))
        | true =>
          refine ev_ifF (by simp) (ev_to (sameB a.1 q.1.fAddr) ?_ (ev_some (by simp [c1, c2])))
          unfold sameB
          rw [hbl]
          refine ev_ite (fun h1 => ev_ite (fun h2 => ev_ite (fun h3 => ev_ite (fun h4 => ev_to _ (ev_const (matches_eq _ _) rfl) (ev_some ?_)) (fun h4 => ev_some (by simp [h4]))) (fun h3 => ev_some (by simp [h3]))) (fun h2 => ev_some ?_)) (fun h1 => ev_some ?_)
          · have h1 : a.1.fModule.length = q.1.fAddr.fModule.length := by omega
            simp [h1, h2, h3, h4]
          · have h2 : (a.1.fData == q.1.fAddr.fData) = false := by simpa using h2
            simp [h2]
          · have h1 : ¬ a.1.fModule.length = q.1.fAddr.fModule.length := by omega
            simp [h1]
theorem sameB_below {a p : TAddress} (h : sameB a p = true) : belowB a.fModule p.fModule = true := by
  unfold sameB at h
  simp only [Bool.and_eq_true] at h
  exact h.1.1.1.1.2
theorem within_same (s p : Bytes) : withinR s p = withinP s p := by
  unfold withinR withinP
  by_cases hs : (parseP s).2 = 0
  · rw [if_pos hs]
    generalize hA : (parseP s).1 = a
    simp only [hs, decide_true, Bool.true_and]
    cases h2 : (placeR p).2 with
    | false =>
      have e : pplaceR p = (noPlace, false) := by unfold pplaceR; rw [if_pos (.inl h2)]
      rw [e]
      simp only [Bool.false_and]
      have n1 : ¬ (parseP p).2 = 0 := by
        intro h
        rcases raw_sound p with e | ⟨b, hb, _⟩
        · rw [e] at h; cases h
        · rw [placeR_back hb] at h2; cases h2
      rw [if_neg n1]
      cases hp : (pathP p).2 with
      | false => simp
      | true =>
        obtain ⟨new, x, _, e2, e3⟩ := pathP_sound hp
        rw [e2, placeR_pathBack e3] at h2; cases h2
    | true =>
      cases hw : (placeR p).1.fWhole with
      | true =>
        have hg := placeR_sound h2 hw
        have hr := raw_back hg
        by_cases hl : 16 < (placeR p).1.fAddr.fModule.length
        · have e : pplaceR p = (noPlace, false) := by unfold pplaceR; rw [if_pos (.inr hl)]
          rw [e]
          simp only [Bool.false_and]
          rw [if_pos hl] at hr
          rw [hr, if_neg (by decide)]
          cases hp : (pathP p).2 with
          | false => simp
          | true =>
            obtain ⟨new, x, _, e2, e3⟩ := pathP_sound hp
            have := placeR_pathBack e3
            rw [← e2] at this
            rw [this] at hw; cases hw
        · have e : pplaceR p = ((placeR p).1, true) := by unfold pplaceR; rw [if_neg (by simp [h2, hl])]
          rw [e]
          rw [if_neg hl] at hr
          rw [hr, if_pos rfl]
          simp only [hw, Bool.not_true, Bool.false_or, Bool.true_and]
          cases hc : sameB a (placeR p).1.fAddr with
          | false => simp
          | true => rw [sameB_below hc]; rfl
      | false =>
        obtain ⟨new, x, e1, e2, e3⟩ := placeR_path h2 hw
        have hpe : (parseP p).2 ≠ 0 := by
          rw [e2, parse_path_err (fun y hy => e3 y (List.mem_append_left _ hy)) (e3 x (by simp)).1 (e3 x (by simp)).2]; decide
        rw [if_neg hpe]
        have hpb := pathP_back e3
        rw [← e2] at hpb
        rw [hpb]
        unfold pplaceR
        by_cases hl : 16 < (placeR p).1.fAddr.fModule.length
        · rw [if_pos (.inr hl)]
          rw [e1] at hl
          have hl : 16 < (new ++ [x]).length := hl
          simp only [Bool.false_and]
          rw [decide_eq_false (by omega)]; simp
        · rw [if_neg (by simp [h2, hl]), hw]
          rw [e1] at hl ⊢
          have hl : ¬ 16 < (new ++ [x]).length := hl
          simp only [Bool.true_and, Bool.not_false, Bool.true_or, Bool.and_true]
          rw [decide_eq_true (show (new ++ [x]).length ≤ 16 by omega)]
          simp [pathPl]
  · rw [if_neg hs]; simp [hs]
end Go.Ab.R06
