/- Plain facts of chapter 17: chains, lists of references each once. -/
import Derived.Test.YtmpmphkpplgbkaaP17d
set_option linter.unusedVariables false
set_option linter.unusedSimpArgs false
set_option linter.unnecessarySimpa false
namespace Go.Ab.R17
open Go.Ab

/-! ### References, each once -/
def sameP (a b : TRef) : Prop := a.fKind = b.fKind ∧ a.fType = b.fType ∧ a.fName = b.fName
instance (a b : TRef) : Decidable (sameP a b) := inferInstanceAs (Decidable (_ ∧ _))
theorem sameP.refl (a : TRef) : sameP a a := ⟨rfl, rfl, rfl⟩
theorem sameP.symm {a b : TRef} (h : sameP a b) : sameP b a := ⟨h.1.symm, h.2.1.symm, h.2.2.symm⟩
theorem sameP.trans {a b c : TRef} (h : sameP a b) (k : sameP b c) : sameP a c := ⟨h.1.trans k.1, h.2.1.trans k.2.1, h.2.2.trans k.2.2⟩
theorem same_dec (a b : TRef) : reference_Same a b = some (decide (sameP a b)) := by
  unfold reference_Same sameP
  by_cases h1 : a.fKind = b.fKind
  · by_cases h2 : a.fType = b.fType
    · simp [h1, h2]
    · simp [h1, h2]
  · simp [h1]
theorem same_dec' (a b : TRef) : ref17_Same a b = some (decide (sameP a b)) := same_dec a b

def hasR (l : List TRef) (x : TRef) : Prop := ∃ y ∈ l, sameP y x
instance (l : List TRef) (x : TRef) : Decidable (hasR l x) := inferInstanceAs (Decidable (∃ y ∈ l, _))
def addR (l : List TRef) (x : TRef) : List TRef := if hasR l x then l else l ++ [x]
def putR (l more : List TRef) : List TRef := more.foldl addR l
theorem putR_nil (l : List TRef) : putR l [] = l := rfl
theorem putR_cons (l : List TRef) (x : TRef) (m : List TRef) : putR l (x :: m) = putR (addR l x) m := rfl
theorem putR_append (l a b : List TRef) : putR l (a ++ b) = putR (putR l a) b := by simp [putR]
theorem addR_len (l : List TRef) (x : TRef) : (addR l x).length ≤ l.length + 1 := by
  unfold addR; split <;> simp
theorem putR_len (m : List TRef) : ∀ l : List TRef, (putR l m).length ≤ l.length + m.length := by
  induction m with
  | nil => intro l; simp [putR]
  | cons x r ih => intro l; rw [putR_cons]; have := ih (addR l x); have := addR_len l x; simp; omega
theorem hasR_addR {l : List TRef} {x y : TRef} (h : hasR l y) : hasR (addR l x) y := by
  obtain ⟨z, h1, h2⟩ := h
  unfold addR
  split
  · exact ⟨z, h1, h2⟩
  · exact ⟨z, List.mem_append_left _ h1, h2⟩
theorem hasR_self (l : List TRef) (x : TRef) : hasR (addR l x) x := by
  unfold addR
  split
  · assumption
  · exact ⟨x, List.mem_append_right _ (by simp), sameP.refl x⟩
theorem hasR_putR {m : List TRef} : ∀ {l : List TRef} {y : TRef}, hasR l y → hasR (putR l m) y := by
  induction m with
  | nil => intro l y h; exact h
  | cons x r ih => intro l y h; exact ih (hasR_addR h)
theorem hasR_of_mem {m : List TRef} : ∀ {l : List TRef} {y : TRef}, hasR m y → hasR (putR l m) y := by
  induction m with
  | nil => intro l y ⟨z, h, _⟩; cases h
  | cons x r ih =>
    intro l y ⟨z, h1, h2⟩
    rw [putR_cons]
    rcases List.mem_cons.1 h1 with rfl | h1
    · obtain ⟨w, k1, k2⟩ := hasR_self l z
      exact hasR_putR ⟨w, k1, k2.trans h2⟩
    · exact ih ⟨z, h1, h2⟩
theorem putR_addR (f a : List TRef) (x : TRef) : putR f (addR a x) = addR (putR f a) x := by
  by_cases h : hasR a x
  · rw [addR, if_pos h, addR, if_pos (hasR_of_mem h)]
  · rw [addR, if_neg h, putR_append]; rfl
theorem putR_putR (f : List TRef) (b : List TRef) : ∀ a : List TRef, putR f (putR a b) = putR (putR f a) b := by
  induction b with
  | nil => intro a; rfl
  | cons y r ih => intro a; rw [putR_cons, ih, putR_addR, putR_cons]

/-! ### The loops over lists -/
theorem index_loop {α : Type} [Inhabited α] (L : List α) (p : α → Bool) (loop : Nat → Nat → Int → Option (Unit ⊕ Int)) (hL : L.length ≤ maxW)
    (h : ∀ n m (i : Int), loop n (m + 1) i = if i < (L.length : Int) then ck ((0 : Int) ≤ i ∧ i < (L.length : Int)) (if p (lat L i) = true then some (.inr i) else ck (inR (i + 1)) (loop n m (i + 1))) else some (.inl ())) :
    ∀ (k i : Nat), i + k = L.length → Ev2 (fun n m => loop n m (i : Int)) (fun r => match r with | .inl _ => (L.drop i).any p = false | .inr j => 0 ≤ j ∧ (L.drop i).any p = true) := by
  intro k
  induction k with
  | zero =>
    intro i hi
    refine ev_round ?_
    simp only [h]
    refine ev_ifF (by omega) (ev_some ?_)
    show (L.drop i).any p = false
    rw [List.drop_of_length_le (by omega)]; rfl
  | succ k ih =>
    intro i hi
    refine ev_round ?_
    simp only [h]
    have hb : (0 : Int) ≤ i ∧ (i : Int) < (L.length : Int) := ⟨by omega, by omega⟩
    have hd : L.drop i = L[i]'(by omega) :: L.drop (i + 1) := List.drop_eq_getElem_cons (by omega)
    refine ev_ifT (by omega) (ev_ck hb (ev_ite (fun hp => ev_some ?_) (fun hp => ev_ck (inR_succ hb hL) (ev_mono (ih (i + 1) (by omega)) fun r hr => ?_))))
    · rw [lat_get _ _ (by omega)] at hp
      exact ⟨by omega, by rw [hd, List.any_cons, hp]; rfl⟩
    · rw [lat_get _ _ (by omega)] at hp
      cases r with
      | inl x => show (L.drop i).any p = false; rw [hd, List.any_cons]; simp only [hp]; simpa using hr
      | inr j => exact ⟨hr.1, by rw [hd, List.any_cons, hr.2]; simp⟩

theorem contE_ev (l : List TExpr) (f : TExpr → Option Bool) (p : TExpr → Bool) (hp : ∀ x, f x = some (p x)) (hl : l.length ≤ maxW) : Ev2 (fun n _ => slices_ContainsFunc_api_Expr_api_Expr n l f) (· = l.any p) := by
  simp only [slices_ContainsFunc_api_Expr_api_Expr, slices_IndexFunc_api_Expr_api_Expr]
  have hloop := ev_loop (index_loop l p (fun _ m i => slices_IndexFunc_api_Expr_api_Expr_l1 l f m i) hl (fun n m i => by simp only [slices_IndexFunc_api_Expr_api_Expr_l1, hp, bd_some]) l.length 0 (by omega))
  refine ev_cut (fun r => decide (0 ≤ r) = l.any p) ?_ (fun r hr => ev_some hr)
  refine ev_jn (ev_mono hloop fun r hr => ?_)
  cases r with
  | inl x => exact ev_some (by simpa using hr)
  | inr j => show decide (0 ≤ j) = l.any p; rw [decide_eq_true hr.1]; simpa using hr.2.symm
theorem contR_ev (l : List TRef) (x : TRef) (hl : l.length ≤ maxW) : Ev2 (fun n _ => slices_ContainsFunc_api_Ref_api_Ref n l (fun x0 => reference_finder_add_1 x0 x)) (· = decide (hasR l x)) := by
  simp only [slices_ContainsFunc_api_Ref_api_Ref, slices_IndexFunc_api_Ref_api_Ref]
  have hp : ∀ y, reference_finder_add_1 y x = some (decide (sameP y x)) := fun y => by simp only [reference_finder_add_1, same_dec, bd_some]
  have ha : l.any (fun y => decide (sameP y x)) = decide (hasR l x) := by
    rw [Bool.eq_iff_iff, List.any_eq_true, decide_eq_true_iff]; simp [hasR]
  have hloop := ev_loop (index_loop l (fun y => decide (sameP y x)) (fun _ m i => slices_IndexFunc_api_Ref_api_Ref_l1 l (fun x0 => reference_finder_add_1 x0 x) m i) hl (fun n m i => by simp only [slices_IndexFunc_api_Ref_api_Ref_l1, hp, bd_some]) l.length 0 (by omega))
  refine ev_cut (fun r => decide (0 ≤ r) = decide (hasR l x)) ?_ (fun r hr => ev_some hr)
  refine ev_jn (ev_mono hloop fun r hr => ?_)
  cases r with
  | inl y => exact ev_some (by rw [← ha]; simpa using hr)
  | inr j => show decide (0 ≤ j) = _; rw [decide_eq_true hr.1, ← ha]; simpa using hr.2.symm
theorem contS_ev (l : List Bytes) (x : Bytes) (hl : l.length ≤ maxW) : Ev2 (fun n _ => slices_Contains_string_string n l x) (· = decide (x ∈ l)) := by
  simp only [slices_Contains_string_string, slices_Index_string_string]
  have ha : l.any (fun y => decide (x = y)) = decide (x ∈ l) := by
    rw [Bool.eq_iff_iff, List.any_eq_true]; simp
  have hloop := ev_loop (index_loop l (fun y => decide (x = y)) (fun _ m i => slices_Index_string_string_l1 l x m i) hl (fun n m i => by simp only [slices_Index_string_string_l1, decide_eq_true_eq]) l.length 0 (by omega))
  refine ev_cut (fun r => decide (0 ≤ r) = decide (x ∈ l)) ?_ (fun r hr => ev_some hr)
  refine ev_jn (ev_mono hloop fun r hr => ?_)
  cases r with
  | inl y => exact ev_some (by rw [← ha]; simpa using hr)
  | inr j => show decide (0 ≤ j) = _; rw [decide_eq_true hr.1, ← ha]; simpa using hr.2.symm

theorem has_loop (l : List Bytes) (x : Bytes) (hl : l.length ≤ maxW) : ∀ (k i : Nat), i + k = l.length → Ev2 (fun _ m => ref17_has_l1 l x m (i : Int)) (fun r => match r with | .inl _ => x ∉ l.drop i | .inr b => b = true ∧ x ∈ l.drop i) := by
  intro k
  induction k with
  | zero =>
    intro i hi
    refine ev_round ?_
    simp only [ref17_has_l1]
    refine ev_ifF (by omega) (ev_some ?_)
    show x ∉ l.drop i
    rw [List.drop_of_length_le (by omega)]; simp
  | succ k ih =>
    intro i hi
    refine ev_round ?_
    simp only [ref17_has_l1]
    have hb : (0 : Int) ≤ i ∧ (i : Int) < (l.length : Int) := ⟨by omega, by omega⟩
    have hd : l.drop i = l[i]'(by omega) :: l.drop (i + 1) := List.drop_eq_getElem_cons (by omega)
    refine ev_ifT (by omega) (ev_ck hb (ev_ite (fun hp => ev_some ?_) (fun hp => ev_ck (inR_succ hb hl) (ev_mono (ih (i + 1) (by omega)) fun r hr => ?_))))
    · rw [lat_get _ _ (by omega)] at hp
      exact ⟨rfl, by rw [hd, hp]; simp⟩
    · rw [lat_get _ _ (by omega)] at hp
      cases r with
      | inl _ => show x ∉ l.drop i; rw [hd]; simp only [List.mem_cons, not_or]; exact ⟨fun e => hp e.symm, hr⟩
      | inr b => exact ⟨hr.1, by rw [hd]; exact List.mem_cons_of_mem _ hr.2⟩
theorem has_ev (l : List Bytes) (x : Bytes) (hl : l.length ≤ maxW) : Ev2 (fun n _ => ref17_has n l x) (· = decide (x ∈ l)) := by
  simp only [ref17_has]
  refine ev_jn (ev_mono (ev_loop (has_loop l x hl l.length 0 (by omega))) fun r hr => ?_)
  cases r with
  | inl y => exact ev_some (decide_eq_false (by simpa using hr)).symm
  | inr j => show j = _; rw [hr.1]; exact (decide_eq_true (by simpa using hr.2)).symm

theorem add_ev (f : List TRef) (x : TRef) (hf : f.length ≤ 1000000) : Ev2 (fun n _ => reference_finder_add n (Tfinder.mk f) x) (· = Tfinder.mk (addR f x)) := by
  simp only [reference_finder_add]
  refine ev_cut _ (contR_ev f x (by rw [maxW_eq]; omega)) (fun r hr => ?_)
  subst hr
  by_cases h : hasR f x
  · refine ev_ifF (by simp [h]) (ev_some ?_)
    rw [addR, if_pos h]
  · refine ev_ifT (by simp [h]) (ev_ck (by simp; omega) (ev_some ?_))
    rw [addR, if_neg h]

theorem put_inner (more out : List TRef) (i : Nat) (hi : i < more.length) (hout : out.length ≤ maxW) (hmore : more.length ≤ maxW) : ∀ (k j : Nat) (old : Bool), j + k = out.length → Ev2 (fun _ m => ref17_put_l2 more out (i : Int) m old (j : Int)) (· = (old || decide (hasR (out.drop j) more[i]))) := by
  intro k
  induction k with
  | zero =>
    intro j old hj
    refine ev_round ?_
    simp only [ref17_put_l2]
    refine ev_ifF (by omega) (ev_some ?_)
    rw [List.drop_of_length_le (by omega)]; simp [hasR]
  | succ k ih =>
    intro j old hj
    refine ev_round ?_
    simp only [ref17_put_l2]
    have hb : (0 : Int) ≤ j ∧ (j : Int) < (out.length : Int) := ⟨by omega, by omega⟩
    have hb2 : (0 : Int) ≤ i ∧ (i : Int) < (more.length : Int) := ⟨by omega, by omega⟩
    have hd : out.drop j = out[j]'(by omega) :: out.drop (j + 1) := List.drop_eq_getElem_cons (by omega)
    have hs : decide (hasR (out.drop j) more[i]) = (decide (sameP (out[j]'(by omega)) more[i]) || decide (hasR (out.drop (j + 1)) more[i])) := by
      rw [Bool.eq_iff_iff, Bool.or_eq_true, decide_eq_true_iff, decide_eq_true_iff, decide_eq_true_iff, hd]
      constructor
      · rintro ⟨y, h1, h2⟩
        rcases List.mem_cons.1 h1 with rfl | h1
        · exact .inl h2
        · exact .inr ⟨y, h1, h2⟩
      · rintro (h | ⟨y, h1, h2⟩)
        · exact ⟨_, List.mem_cons_self .., h⟩
        · exact ⟨y, List.mem_cons_of_mem _ h1, h2⟩
    refine ev_ifT (by omega) ?_
    refine ev_cut (· = (old || decide (sameP (out[j]'(by omega)) more[i]))) (ev_ite (fun h => ev_some (by simp [h])) (fun h => ev_ck hb (ev_ck hb2 ?_))) (fun t ht => ?_)
    · simp only [same_dec', bd_some]
      refine ev_some ?_
      rw [lat_get _ _ (by omega), lat_get _ _ hi]; simp [h]
    · subst ht
      refine ev_ck (inR_succ hb hout) (ev_mono (ih (j + 1) _ (by omega)) fun r hr => ?_)
      subst hr
      show _ = (old || decide (hasR (out.drop j) more[i]))
      rw [hs, Bool.or_assoc]

theorem put_loop (more : List TRef) (hmore : more.length ≤ 1000000) : ∀ (k i : Nat) (out : List TRef), i + k = more.length → out.length ≤ 1000000 + i → Ev2 (fun n m => ref17_put_l3 n more m out (i : Int)) (· = putR out (more.drop i)) := by
  intro k
  induction k with
  | zero =>
    intro i out hi hout
    refine ev_round ?_
    simp only [ref17_put_l3]
    refine ev_ifF (by omega) (ev_some ?_)
    rw [List.drop_of_length_le (by omega)]; rfl
  | succ k ih =>
    intro i out hi hout
    refine ev_round ?_
    simp only [ref17_put_l3]
    have hb : (0 : Int) ≤ i ∧ (i : Int) < (more.length : Int) := ⟨by omega, by omega⟩
    have hd : more.drop i = more[i]'(by omega) :: more.drop (i + 1) := List.drop_eq_getElem_cons (by omega)
    refine ev_ifT (by omega) ?_
    refine ev_cut (· = addR out (more[i]'(by omega))) ?_ (fun t ht => ?_)
    · refine ev_cut _ (ev_loop (put_inner more out i (by omega) (by rw [maxW_eq]; omega) (by rw [maxW_eq]; omega) out.length 0 false (by omega))) (fun t ht => ?_)
      subst ht
      by_cases h : hasR out (more[i]'(by omega))
      · refine ev_ifF (by simp [h]) (ev_some ?_)
        rw [addR, if_pos h]
      · refine ev_ifT (by simp [h]) (ev_ck hb (ev_ck (by simp; omega) (ev_some ?_)))
        rw [addR, if_neg h, lat_get _ _ (by omega)]
    · subst ht
      refine ev_ck (inR_succ hb (by rw [maxW_eq]; omega)) (ev_mono (ih (i + 1) _ (by omega) ?_) fun r hr => ?_)
      · have := addR_len out (more[i]'(by omega)); omega
      · rw [hr, hd, putR_cons]

theorem put_ev (l more : List TRef) (hl : l.length ≤ 1000000) (hm : more.length ≤ 1000000) : Ev2 (fun n _ => ref17_put n l more) (· = putR l more) := by
  simp only [ref17_put]
  refine ev_ck (by omega) ?_
  refine ev_cut _ (ev_loop (put_loop more hm more.length 0 l (by omega) (by omega))) (fun t ht => ev_some ?_)
  rw [ht]; rfl

theorem refs_loop (a : List TRef) (ha : a.length ≤ maxW) : ∀ (k i : Nat), i + k = a.length → Ev2 (fun _ m => law17_refs_l1 a a m (i : Int)) (· = .inl ()) := by
  intro k
  induction k with
  | zero =>
    intro i hi
    refine ev_round ?_
    simp only [law17_refs_l1]
    exact ev_ifF (by omega) (ev_some rfl)
  | succ k ih =>
    intro i hi
    refine ev_round ?_
    simp only [law17_refs_l1]
    have hb : (0 : Int) ≤ i ∧ (i : Int) < (a.length : Int) := ⟨by omega, by omega⟩
    exact ev_ifT (by omega) (ev_ck hb (ev_ck hb (ev_ifT (by simp) (ev_ck (inR_succ hb ha) (ih (i + 1) (by omega))))))
theorem refs_self (a : List TRef) (ha : a.length ≤ maxW) : Ev2 (fun n _ => law17_refs n a a) (· = true) := by
  simp only [law17_refs]
  exact ev_ifT (by simp) (ev_jnL () (ev_loop (refs_loop a ha a.length 0 (by omega))) (ev_some rfl))

end Go.Ab.R17
