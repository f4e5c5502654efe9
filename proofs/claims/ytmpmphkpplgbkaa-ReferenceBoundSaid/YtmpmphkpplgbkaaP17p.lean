/- The plain law of ReferenceParts. -/
import Derived.Test.YtmpmphkpplgbkaaP17h
import Derived.Test.YtmpmphkpplgbkaaR17p
set_option linter.unusedVariables false
set_option linter.unusedSimpArgs false
set_option linter.unnecessarySimpa false
namespace Go.Ab.R17
open Go.Ab

/-! ### Lists of references, each once -/
def Once (l : List TRef) : Prop := l.Pairwise fun a b => ¬ sameP b a
theorem once_addR {l : List TRef} {x : TRef} (h : Once l) : Once (addR l x) := by
  unfold addR
  split
  · exact h
  · rename_i hx
    refine List.pairwise_append.2 ⟨h, List.pairwise_singleton _ _, fun a ha b hb => ?_⟩
    rw [List.mem_singleton.1 hb]
    exact fun hs => hx ⟨a, ha, hs.symm⟩
theorem once_putR {m : List TRef} : ∀ {l : List TRef}, Once l → Once (putR l m) := by
  induction m with
  | nil => intro l h; exact h
  | cons x r ih => intro l h; exact ih (once_addR h)
theorem Says.nodup {e : TExpr} {b : List Bytes} {L : List TRef} (h : Says e b L) : Once L := by
  rw [← h.once]; exact once_putR List.Pairwise.nil
theorem putR_prefix (m : List TRef) : ∀ l : List TRef, ∃ z, putR l m = l ++ z := by
  induction m with
  | nil => intro l; exact ⟨[], by simp [putR]⟩
  | cons x r ih =>
    intro l
    rw [putR_cons]
    unfold addR
    split
    · exact ih l
    · obtain ⟨z, hz⟩ := ih (l ++ [x])
      exact ⟨x :: z, by rw [hz]; simp⟩

theorem same_loop (a : List TRef) (ha : a.length ≤ maxW) : ∀ (k i : Nat), i + k = a.length → Ev2 (fun _ m => law17_same_l1 a a m (i : Int)) (· = .inl ()) := by
  intro k
  induction k with
  | zero =>
    intro i hi
    refine ev_round ?_
    simp only [law17_same_l1]
    exact ev_ifF (by omega) (ev_some rfl)
  | succ k ih =>
    intro i hi
    refine ev_round ?_
    simp only [law17_same_l1, same_dec, bd_some]
    have hb : (0 : Int) ≤ i ∧ (i : Int) < (a.length : Int) := ⟨by omega, by omega⟩
    exact ev_ifT (by omega) (ev_ck hb (ev_ck hb (ev_ifF (by simp [sameP.refl]) (ev_ck (inR_succ hb ha) (ih (i + 1) (by omega))))))
theorem same_ev (a : List TRef) (ha : a.length ≤ maxW) : Ev2 (fun n _ => law17_same n a a) (· = true) := by
  simp only [law17_same]
  exact ev_ifT (by simp) (ev_jnL () (ev_loop (same_loop a ha a.length 0 (by omega))) (ev_some rfl))

theorem pairs_inner (l : List TRef) (h : Once l) (hl : l.length ≤ maxW) (i : Nat) (hi : i < l.length) : ∀ (k j : Nat), j + k = i → Ev2 (fun _ m => law17_ReferenceParts_l2 l (i : Int) m (j : Int)) (· = .inl ()) := by
  intro k
  induction k with
  | zero =>
    intro j hj
    refine ev_round ?_
    simp only [law17_ReferenceParts_l2]
    exact ev_ifF (by omega) (ev_some rfl)
  | succ k ih =>
    intro j hj
    refine ev_round ?_
    simp only [law17_ReferenceParts_l2, same_dec, bd_some]
    have hb : (0 : Int) ≤ j ∧ (j : Int) < (l.length : Int) := ⟨by omega, by omega⟩
    have hb2 : (0 : Int) ≤ i ∧ (i : Int) < (l.length : Int) := ⟨by omega, by omega⟩
    refine ev_ifT (by omega) (ev_ck hb2 (ev_ck hb (ev_ifF ?_ (ev_ck (inR_succ hb hl) (ih (j + 1) (by omega))))))
    rw [lat_get _ _ hi, lat_get _ _ (by omega), decide_eq_true_iff]
    exact List.pairwise_iff_getElem.1 h j i (by omega) hi (by omega)
theorem pairs_loop (l : List TRef) (h : Once l) (hl : l.length ≤ maxW) : ∀ (k i : Nat), i + k = l.length → Ev2 (fun n m => law17_ReferenceParts_l3 n l m (i : Int)) (· = .inl ()) := by
  intro k
  induction k with
  | zero =>
    intro i hi
    refine ev_round ?_
    simp only [law17_ReferenceParts_l3]
    exact ev_ifF (by omega) (ev_some rfl)
  | succ k ih =>
    intro i hi
    refine ev_round ?_
    simp only [law17_ReferenceParts_l3]
    have hb : (0 : Int) ≤ i ∧ (i : Int) < (l.length : Int) := ⟨by omega, by omega⟩
    refine ev_ifT (by omega) (ev_jnL () (ev_loop (pairs_inner l h hl i (by omega) i 0 (by omega))) (ev_ck (inR_succ hb hl) (ih (i + 1) (by omega))))

theorem found_inner (l y : List TRef) (hl : l.length ≤ maxW) (i : Nat) (hi : i < y.length) : ∀ (k j : Nat) (old : Bool), j + k = l.length → Ev2 (fun _ m => law17_ReferenceParts_l5 l y (i : Int) m old (j : Int)) (fun r => old = true ∨ hasR (l.drop j) y[i] → r = true) := by
  intro k
  induction k with
  | zero =>
    intro j old hj
    refine ev_round ?_
    simp only [law17_ReferenceParts_l5]
    refine ev_ifF (by omega) (ev_some ?_)
    rw [List.drop_of_length_le (by omega)]
    rintro (h | ⟨_, h, _⟩)
    · exact h
    · cases h
  | succ k ih =>
    intro j old hj
    refine ev_round ?_
    simp only [law17_ReferenceParts_l5, same_dec, bd_some]
    have hb : (0 : Int) ≤ j ∧ (j : Int) < (l.length : Int) := ⟨by omega, by omega⟩
    have hb2 : (0 : Int) ≤ i ∧ (i : Int) < (y.length : Int) := ⟨by omega, by omega⟩
    have hd : l.drop j = l[j]'(by omega) :: l.drop (j + 1) := List.drop_eq_getElem_cons (by omega)
    refine ev_ifT (by omega) ?_
    refine ev_cut (fun t => old = true ∨ sameP y[i] (l[j]'(by omega)) → t = true) (ev_ite (fun h => ev_some fun _ => rfl) (fun h => ev_ck hb2 (ev_ck hb (ev_some ?_)))) (fun t ht => ?_)
    · rw [lat_get l _ (by omega), lat_get y _ hi]
      rintro (h' | h')
      · exact absurd h' h
      · exact decide_eq_true h'
    · refine ev_ck (inR_succ hb hl) (ev_mono (ih (j + 1) t (by omega)) fun r hr => ?_)
      rintro (h | ⟨z, h1, h2⟩)
      · exact hr (.inl (ht (.inl h)))
      · rw [hd] at h1
        rcases List.mem_cons.1 h1 with rfl | h1
        · exact hr (.inl (ht (.inr h2.symm)))
        · exact hr (.inr ⟨z, h1, h2⟩)
theorem found_loop (l y : List TRef) (hl : l.length ≤ maxW) (hy : y.length ≤ maxW) (h : ∀ x ∈ y, hasR l x) : ∀ (k i : Nat), i + k = y.length → Ev2 (fun n m => law17_ReferenceParts_l6 n l y m (i : Int)) (· = .inl ()) := by
  intro k
  induction k with
  | zero =>
    intro i hi
    refine ev_round ?_
    simp only [law17_ReferenceParts_l6]
    exact ev_ifF (by omega) (ev_some rfl)
  | succ k ih =>
    intro i hi
    refine ev_round ?_
    simp only [law17_ReferenceParts_l6]
    have hb : (0 : Int) ≤ i ∧ (i : Int) < (y.length : Int) := ⟨by omega, by omega⟩
    refine ev_ifT (by omega) (ev_cut _ (ev_loop (found_inner l y hl i (by omega) l.length 0 false (by omega))) (fun t ht => ?_))
    have := ht (.inr (by simpa using h _ (List.getElem_mem (by omega))))
    subst this
    exact ev_ifF (by simp) (ev_ck (inR_succ hb hy) (ih (i + 1) (by omega)))

/-! ### A list of two -/
def two (a b : TExpr) : TExpr := TExpr.mk 10 0 ([] : Bytes) ([] : Bytes) (TValue.mk 0 0 ([] : Bytes) [] []) [a, b] 0
theorem two_be {a b : TExpr} (ha : BE a) (hb : BE b) : BE (two a b) :=
  .mk (by simp [two, TExpr.fName]) (by simp [two, TExpr.fKey]) (.mk (by simp [two, TExpr.fValue, TValue.fStr]) (by simp [two, TExpr.fValue, TValue.fItems]) (by simp [two, TExpr.fValue, TValue.fKeys]) (by simp [two, TExpr.fValue, TValue.fKeys]) (by simp [two, TExpr.fValue, TValue.fItems]))
    (by rw [maxW_eq]; simp [two, TExpr.fKids]) (by
      intro k hk
      simp [two, TExpr.fKids] at hk
      rcases hk with rfl | rfl
      · exact ha
      · exact hb)

theorem two_of {a b : TExpr} {A B : List TRef} (hA : Says a [] A) (hB : Says b [] B) (hn : nodes a ≤ 1000) (hm : nodes b ≤ 1000) : Ev2 (fun n _ => reference_Of n (two a b)) (· = putR A B) := by
  simp only [reference_Of]
  refine ev_cut (· = Tfinder.mk (putR A B)) ?_ (fun x hx => ev_some (by rw [hx]))
  refine ev_succ ?_
  simp only [reference_finder_expr]
  have hk : (two a b).fKids = [a, b] := rfl
  refine ev_cut (· = putR A B) ?_ (fun x hx => ev_some (by rw [hx]))
  refine ev_cut (· = false) (ev_ifF (by show ¬ (10 : Int) = 3; decide) (ev_ifF (by show ¬ (10 : Int) = 4; decide) (ev_some rfl))) (fun t ht => ?_)
  subst ht
  refine ev_ifF (by simp) (ev_cut (· = false) (ev_ifF (by show ¬ (10 : Int) = 12; decide) (ev_some rfl)) (fun t ht => ?_))
  subst ht
  refine ev_ifF (by simp) (ev_cut (· = putR A B) (ev_loop (f := fun n m => reference_finder_expr_l2 (reference_finder_expr n) (two a b) [] m 0 []) ?_) (fun x hx => ev_some hx))
  refine ev_round ?_
  simp only [reference_finder_expr_l2, hk]
  refine ev_ifT (by simp) (ev_ck (by simp) (ev_cut _ (hA.prog [] (by simp; omega)) (fun x hx => ev_ck (by decide) ?_)))
  subst hx
  refine ev_round ?_
  simp only [reference_finder_expr_l2, hk]
  have hl := hA.len
  refine ev_ifT (by simp) (ev_ck (by simp) (ev_cut _ (hB.prog (putR [] A) (by rw [hA.once]; omega)) (fun x hx => ev_ck (by decide) ?_)))
  subst hx
  refine ev_round ?_
  simp only [reference_finder_expr_l2, hk]
  refine ev_ifF (by simp) (ev_some ?_)
  rw [hA.once]

theorem law_parts (a b : TExpr) (ha : a.Bd) (hb : b.Bd) : Ev2 (fun n _ => law17_ReferenceParts n a b) (· = true) := by
  have ha := be_of a ha
  have hb := be_of b hb
  simp only [law17_ReferenceParts]
  refine ev_cut (fun t => t = false → Good a ∧ Good b ∧ nodes a ≤ 100 ∧ nodes b ≤ 100) ?_ (fun t ht => ?_)
  · refine ev_cut _ (small_tot a ha 100 (by omega)) (fun r1 h1 => ev_ite (fun _ => ev_some fun h => by cases h) (fun e1 => ?_))
    refine ev_cut _ (small_tot b hb 100 (by omega)) (fun r2 h2 => ev_ite (fun _ => ev_some fun h => by cases h) (fun e2 => ?_))
    refine ev_cut _ (eCheck_tot a ha) (fun r3 h3 => ev_ite (fun e3 => ?_) (fun _ => ev_some fun h => by cases h))
    refine ev_cut _ (eCheck_tot b hb) (fun r4 h4 => ev_ite (fun e4 => ?_) (fun _ => ev_some fun h => by cases h))
    refine ev_cut _ (eCheck_tot (two a b) (two_be ha hb)) (fun r5 _ => ev_some fun _ => ⟨h3 e3, h4 e4, h1 (by simpa using e1), h2 (by simpa using e2)⟩)
  refine ev_ite (fun _ => ev_cut _ awake_ev (fun x hx => ev_some hx)) (fun h => ?_)
  obtain ⟨ga, gb, na, nb⟩ := ht (by simpa using h)
  obtain ⟨A, lA, sA, oA, _⟩ := of_ev a ga ha (by omega)
  obtain ⟨B, lB, sB, oB, _⟩ := of_ev b gb hb (by omega)
  have hlen := putR_len B A
  obtain ⟨z, hz⟩ := putR_prefix B A
  refine ev_cut _ (two_of sA sB (by omega) (by omega)) (fun r hr => ?_)
  subst hr
  refine ev_cut _ oA (fun x hx => ?_)
  subst hx
  refine ev_cut _ oB (fun y hy => ?_)
  subst hy
  refine ev_cut (· = false) ?_ (fun t ht => ?_)
  · skip
    have hzl : (putR x y).length = x.length + z.length := by rw [hz, List.length_append]
    refine ev_ifF (by omega) (ev_ck ⟨by omega, by omega, by omega⟩ ?_)
    rw [show ∀ l : List TRef, ∀ k : Nat, sub l 0 (k : Int) = l.take k from fun l k => rfl, hz, List.take_left]
    refine ev_cut _ (same_ev _ (by rw [maxW_eq]; omega)) (fun t ht => ev_some ?_)
    rw [ht]; rfl
  subst ht
  refine ev_ifF (by simp) ?_
  refine ev_jnL () (ev_loop (pairs_loop _ (once_putR sA.nodup) (by rw [maxW_eq]; omega) _ 0 (Nat.zero_add _))) ?_
  refine ev_jnL () (ev_loop (found_loop _ _ (by rw [maxW_eq]; omega) (by rw [maxW_eq]; omega) (fun x hx => hasR_of_mem ⟨x, hx, sameP.refl x⟩) _ 0 (Nat.zero_add _))) ?_
  refine ev_cut (· = true) (ev_ck (inR_of (by omega) (by omega)) (ev_ifT (by omega) (ev_cut _ awake_ev (fun x hx => ev_some hx)))) (fun x hx => ev_some hx)

end Go.Ab.R17
