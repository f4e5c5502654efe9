/- Plain facts of chapter 16: equality up to offsets. No program in sight. -/
import Derived.Test.YtmdefcidhgbikaaGreatDoorP16c
import Derived.Test.YtmdefcidhgbikaaGreatDoorM16
set_option linter.unusedVariables false
set_option linter.unusedSimpArgs false
set_option linter.unnecessarySimpa false
namespace Go.Ab.R06
open Go.Ab Go.Ab.RB Go.Lib

/-! ### Lists, one by one -/
def all2 {α : Type} (p : α → α → Bool) : List α → List α → Bool
  | [], [] => true
  | x :: r, y :: q => p x y && all2 p r q
  | _, _ => false
theorem allN_shift (p : Nat → Bool) : ∀ (k i : Nat), allN p (i + 1) k = allN (fun j => p (j + 1)) i k
  | 0, _ => rfl
  | k + 1, i => by simp only [allN]; rw [allN_shift p k (i + 1)]
theorem all2_eq {α : Type} [Inhabited α] (p : α → α → Bool) : ∀ a b : List α, all2 p a b = (decide (a.length = b.length) && allN (fun i => p (a.getD i default) (b.getD i default)) 0 a.length)
  | [], [] => rfl
  | [], y :: q => by simp [all2]
  | x :: r, [] => by simp [all2]
  | x :: r, y :: q => by
    simp only [all2, List.length_cons, allN, List.getD_cons_zero, Nat.zero_add]
    rw [all2_eq p r q, allN_shift]
    simp only [List.getD_cons_succ, Nat.add_right_cancel_iff]
    cases p x y <;> cases decide (r.length = q.length) <;> simp
/-- A loop that compares one by one. -/
theorem cmp_loop {f : Nat → Nat → Int → Option (Unit ⊕ Bool)} (len : Nat) (p : Nat → Bool) (h0 : Ev2 (fun n m => f n m (len : Int)) (· = .inl ()))
    (hs : ∀ i : Nat, i < len → ∀ P : Unit ⊕ Bool → Prop, (p i = true → Ev2 (fun n m => f n m ((i : Int) + 1)) P) → (p i = false → P (.inr false)) → Ev2 (fun n m => f n m (i : Int)) P) :
    ∀ k i, i + k = len → Ev2 (fun n m => f n m (i : Int)) (· = if allN p i k = true then .inl () else .inr false) := by
  intro k
  induction k with
  | zero => intro i hi; obtain rfl : i = len := by omega
            exact h0
  | succ k ih =>
    intro i hi
    refine hs i (by omega) _ (fun h => ?_) (fun h => ?_)
    · have := ih (i + 1) (by omega)
      rw [Int.natCast_add, Int.natCast_one] at this
      simpa only [allN, h, Bool.true_and] using this
    · simp [allN, h]
theorem cmp_jn {f : Nat → Nat → Int → Option (Unit ⊕ Bool)} {len : Nat} {p : Nat → Bool} {k : Nat → Nat → Option Bool} {q : Bool} (h : Ev2 (fun n m => f n m 0) (· = if allN p 0 len = true then .inl () else .inr false))
    (hk : Ev2 k (· = q)) : Ev2 (fun n m => jn (f n n 0) (fun _ => k n m)) (· = (allN p 0 len && q)) := by
  refine ev_jn (ev_mono (ev_loop (f := fun n m => f n m 0) h) (fun s hs => ?_))
  subst hs
  cases allN p 0 len with
  | true => exact hk
  | false => rfl
theorem nt {x : Bool} (h : (!x) = true) : x = false := by simpa using h
theorem nf {x : Bool} (h : ¬ (!x) = true) : x = true := by simpa using h
/-! ### Texts -/
def eqS (a b : Bytes) : Bool := decide (a = b)
theorem seq_ev (a b : List Bytes) (ha : a.length * 16 ≤ maxW) : Ev2 (fun n _ => slices_Equal_string_string n a b) (· = all2 eqS a b) := by
  unfold maxW at ha
  simp only [slices_Equal_string_string]
  rw [all2_eq]
  refine ev_ite (fun h => ?_) (fun h => ev_some (by simp; omega))
  have h : a.length = b.length := by omega
  rw [decide_eq_true h, Bool.true_and]
  rw [← Bool.and_true (allN _ 0 a.length)]
  refine cmp_jn (f := fun n m i => slices_Equal_string_string_l1 a b m i) (cmp_loop a.length _ ?_ (fun i hi P h1 h2 => ?_) a.length 0 (by omega)) (ev_some rfl)
  · refine ev_round ?_
    simp only [slices_Equal_string_string_l1]
    exact ev_ifF (by omega) (ev_some rfl)
  · refine ev_round ?_
    simp only [slices_Equal_string_string_l1]
    refine ev_ifT (by omega) (ev_ck (by omega) (ev_ck (by omega) (ev_ite (fun h => ev_ck (inR_of (by omega) (by omega)) (h1 (decide_eq_true h))) (fun h => ev_some (h2 (decide_eq_false h))))))
theorem same_ev (a b : List Bytes) (ha : a.length * 16 ≤ maxW) : Ev2 (fun n _ => ref16_same n a b) (· = all2 eqS a b) := by
  unfold maxW at ha
  simp only [ref16_same]
  rw [all2_eq]
  refine ev_ite (fun h => ?_) (fun h => ev_some (by simp; omega))
  have h : a.length = b.length := by omega
  rw [decide_eq_true h, Bool.true_and]
  rw [← Bool.and_true (allN _ 0 a.length)]
  refine cmp_jn (f := fun n m i => ref16_same_l1 a b m i) (cmp_loop a.length _ ?_ (fun i hi P h1 h2 => ?_) a.length 0 (by omega)) (ev_some rfl)
  · refine ev_round ?_
    simp only [ref16_same_l1]
    exact ev_ifF (by omega) (ev_some rfl)
  · refine ev_round ?_
    simp only [ref16_same_l1]
    refine ev_ifT (by omega) (ev_ck (by omega) (ev_ck (by omega) (ev_ite (fun h => ev_ck (inR_of (by omega) (by omega)) (h1 (decide_eq_true h))) (fun h => ev_some (h2 (decide_eq_false h))))))
/-! ### Values -/
mutual
def eqV : TValue → TValue → Bool
  | .mk k n s l ks, .mk k' n' s' l' ks' => decide (k = k') && decide (n = n') && eqS s s' && all2 eqS ks ks' && eqVL l l'
def eqVL : List TValue → List TValue → Bool
  | [], [] => true
  | x :: r, y :: q => eqV x y && eqVL r q
  | _, _ => false
end
theorem eqVL_eq : ∀ a b, eqVL a b = all2 eqV a b
  | [], [] => by simp only [eqVL, all2]
  | [], _ :: _ => by simp only [eqVL, all2]
  | _ :: _, [] => by simp only [eqVL, all2]
  | x :: r, y :: q => by simp only [eqVL, all2]; rw [eqVL_eq r q]
theorem eqV_eq (a b : TValue) : eqV a b = (decide (a.fKind = b.fKind) && decide (a.fNum = b.fNum) && eqS a.fStr b.fStr && all2 eqS a.fKeys b.fKeys && all2 eqV a.fItems b.fItems) := by
  cases a; cases b
  simp only [eqV, eqVL_eq, TValue.fKind, TValue.fNum, TValue.fStr, TValue.fKeys, TValue.fItems]
  rfl
theorem eqfV_ev (a b : List TValue) (ha : a.length * 80 ≤ maxW) (e : Nat → TValue → TValue → Option Bool) (he : ∀ x ∈ a, ∀ y, Ev2 (fun n _ => e n x y) (· = eqV x y)) :
    Ev2 (fun n _ => slices_EqualFunc_api_Value_api_Value_api_Value_api_Value n a b (e n)) (· = all2 eqV a b) := by
  unfold maxW at ha
  simp only [slices_EqualFunc_api_Value_api_Value_api_Value_api_Value]
  rw [all2_eq]
  refine ev_ite (fun h => ?_) (fun h => ev_some (by simp; omega))
  have h : a.length = b.length := by omega
  rw [decide_eq_true h, Bool.true_and]
  rw [← Bool.and_true (allN _ 0 a.length)]
  refine cmp_jn (f := fun n m i => slices_EqualFunc_api_Value_api_Value_api_Value_api_Value_l1 a b (e n) m i) (cmp_loop a.length _ ?_ (fun i hi P h1 h2 => ?_) a.length 0 (by omega)) (ev_some rfl)
  · refine ev_round ?_
    simp only [slices_EqualFunc_api_Value_api_Value_api_Value_api_Value_l1]
    exact ev_ifF (by omega) (ev_some rfl)
  · refine ev_round ?_
    simp only [slices_EqualFunc_api_Value_api_Value_api_Value_api_Value_l1]
    refine ev_ifT (by omega) (ev_ck (by omega) (ev_ck (by omega) (ev_to _ (he _ (lat_mem (by omega)) _) ?_)))
    exact ev_ite (fun h => ev_some (h2 (nt h))) (fun h => ev_ck (inR_of (by omega) (by omega)) (h1 (nf h)))
theorem valueEq_ev {a : TValue} (hb : TValue.Bd a) : ∀ b, Ev2 (fun n _ => value_Equal n a b) (· = eqV a b) := by
  induction hb with
  | @mk x bKind bNum bStr bItems eItems bKeys eKeys ih =>
    intro b
    refine ev_succ ?_
    simp only [value_Equal]
    rw [eqV_eq]
    refine ev_cut (· = (decide (x.fKind = b.fKind) && decide (x.fNum = b.fNum) && eqS x.fStr b.fStr && all2 eqS x.fKeys b.fKeys && all2 eqV x.fItems b.fItems)) ?_ (fun t ht => ev_some ht)
    refine ev_ite (fun h1 => ?_) (fun h1 => ev_some (by simp [h1]))
    refine ev_ite (fun h2 => ?_) (fun h2 => ev_some (by simp [h2]))
    refine ev_ite (fun h3 => ?_) (fun h3 => ev_some (by simp [h3, eqS]))
    refine ev_to _ (seq_ev _ _ bKeys) ?_
    simp only [h1, h2, h3, eqS, decide_true, Bool.true_and]
    refine ev_ite (fun h4 => ?_) (fun h4 => ev_some (by simp [Bool.eq_false_iff.2 h4]))
    exact ev_to _ (eqfV_ev _ _ bItems (fun n x0 x1 => value_Equal n x0 x1) (fun x hx y => ih x hx y)) (ev_some (by simp [h4]))
theorem rvalueEq_ev {a : TValue} (hb : TValue.Bd a) : ∀ b, Ev2 (fun n _ => ref07_Equal n a b) (· = eqV a b) := by
  induction hb with
  | @mk x bKind bNum bStr bItems eItems bKeys eKeys ih =>
    intro b
    have l1 := bItems
    have l2 := bKeys
    unfold maxW at l1 l2
    refine ev_succ ?_
    simp only [ref07_Equal]
    rw [eqV_eq]
    refine ev_to (!(decide (x.fKind = b.fKind) && decide (x.fNum = b.fNum) && eqS x.fStr b.fStr && decide (x.fItems.length = b.fItems.length) && decide (x.fKeys.length = b.fKeys.length))) ?_ ?_
    · refine ev_ite (fun h1 => ?_) (fun h1 => ev_some (by simp [h1]))
      refine ev_ite (fun h2 => ?_) (fun h2 => ev_some (by simp [h2]))
      refine ev_ite (fun h3 => ?_) (fun h3 => ev_some (by simp [h3, eqS]))
      refine ev_ite (fun h4 => ev_some ?_) (fun h4 => ev_some ?_)
      · have h4 : x.fItems.length = b.fItems.length := by omega
        simp [h1, h2, h3, h4, eqS]; omega
      · have h4 : ¬ x.fItems.length = b.fItems.length := by omega
        simp [h4]
    · rw [all2_eq eqS, all2_eq eqV]
      refine ev_ite (fun h => ev_some ?_) (fun h => ?_)
      · simp only [Bool.not_eq_true', Bool.and_eq_false_iff] at h
        rcases h with (((h | h) | h) | h) | h <;> simp [h]
      · simp only [Bool.not_eq_true', Bool.not_eq_false, Bool.and_eq_true] at h
        obtain ⟨⟨⟨⟨h1, h2⟩, h3⟩, h4⟩, h5⟩ := h
        have h4' := of_decide_eq_true h4
        have h5' := of_decide_eq_true h5
        rw [h1, h2, h3, h4, h5]
        simp only [Bool.true_and]
        refine cmp_jn (f := fun n m i => ref07_Equal_l1 x b m i) (cmp_loop x.fKeys.length _ ?_ (fun i hi P h1 h2 => ?_) x.fKeys.length 0 (by omega)) ?_
        · refine ev_round ?_
          simp only [ref07_Equal_l1]
          exact ev_ifF (by omega) (ev_some rfl)
        · refine ev_round ?_
          simp only [ref07_Equal_l1]
          refine ev_ifT (by omega) (ev_ck (by omega) (ev_ck (by omega) (ev_ite (fun h => ev_ck (inR_of (by omega) (by omega)) (h1 (decide_eq_true h))) (fun h => ev_some (h2 (decide_eq_false h))))))
        · rw [← Bool.and_true (allN _ 0 x.fItems.length)]
          refine cmp_jn (f := fun n m i => ref07_Equal_l2 (ref07_Equal n) x b m i) (cmp_loop x.fItems.length _ ?_ (fun i hi P h1 h2 => ?_) x.fItems.length 0 (by omega)) (ev_some rfl)
          · refine ev_round ?_
            simp only [ref07_Equal_l2]
            exact ev_ifF (by omega) (ev_some rfl)
          · refine ev_round ?_
            simp only [ref07_Equal_l2]
            refine ev_ifT (by omega) (ev_ck (by omega) (ev_ck (by omega) (ev_to _ (ih _ (lat_mem (by omega)) _) ?_)))
            exact ev_ite (fun h => ev_some (h2 (nt h))) (fun h => ev_ck (inR_of (by omega) (by omega)) (h1 (nf h)))
end Go.Ab.R06
