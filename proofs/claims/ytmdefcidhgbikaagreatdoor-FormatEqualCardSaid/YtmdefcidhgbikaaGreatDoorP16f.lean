/- Plain facts of chapter 16: equality of expressions and bodies; the law FormatEqual. No program in sight. -/
import Derived.Test.YtmdefcidhgbikaaGreatDoorP16e
set_option linter.unusedVariables false
set_option linter.unusedSimpArgs false
set_option linter.unnecessarySimpa false
namespace Go.Ab.R06
open Go.Ab Go.Ab.RB Go.Lib

/-! ### Expressions -/
mutual
def eqE : TExpr → TExpr → Bool
  | .mk k o n y v l _, .mk k' o' n' y' v' l' _ => decide (k = k') && decide (o = o') && eqS n n' && eqS y y' && eqV v v' && eqEL l l'
def eqEL : List TExpr → List TExpr → Bool
  | [], [] => true
  | x :: r, y :: q => eqE x y && eqEL r q
  | _, _ => false
end
theorem eqEL_eq : ∀ a b, eqEL a b = all2 eqE a b
  | [], [] => by simp only [eqEL, all2]
  | [], _ :: _ => by simp only [eqEL, all2]
  | _ :: _, [] => by simp only [eqEL, all2]
  | x :: r, y :: q => by simp only [eqEL, all2]; rw [eqEL_eq r q]
theorem eqE_eq (a b : TExpr) : eqE a b = (decide (a.fKind = b.fKind) && decide (a.fOp = b.fOp) && eqS a.fName b.fName && eqS a.fKey b.fKey && eqV a.fValue b.fValue && all2 eqE a.fKids b.fKids) := by
  cases a; cases b
  simp only [eqE, eqEL_eq, TExpr.fKind, TExpr.fOp, TExpr.fName, TExpr.fKey, TExpr.fValue, TExpr.fKids]
  rfl
theorem eqfE_ev (a b : List TExpr) (ha : a.length * 160 ≤ maxW) (e : Nat → TExpr → TExpr → Option Bool) (he : ∀ x ∈ a, ∀ y, Ev2 (fun n _ => e n x y) (· = eqE x y)) :
    Ev2 (fun n _ => slices_EqualFunc_api_Expr_api_Expr_api_Expr_api_Expr n a b (e n)) (· = all2 eqE a b) := by
  unfold maxW at ha
  simp only [slices_EqualFunc_api_Expr_api_Expr_api_Expr_api_Expr]
  rw [all2_eq]
  refine ev_ite (fun h => ?_) (fun h => ev_some (by simp; omega))
  have h : a.length = b.length := by omega
  rw [decide_eq_true h, Bool.true_and]
  rw [← Bool.and_true (allN _ 0 a.length)]
  refine cmp_jn (f := fun n m i => slices_EqualFunc_api_Expr_api_Expr_api_Expr_api_Expr_l1 a b (e n) m i) (cmp_loop a.length _ ?_ (fun i hi P h1 h2 => ?_) a.length 0 (by omega)) (ev_some rfl)
  · refine ev_round ?_
    simp only [slices_EqualFunc_api_Expr_api_Expr_api_Expr_api_Expr_l1]
    exact ev_ifF (by omega) (ev_some rfl)
  · refine ev_round ?_
    simp only [slices_EqualFunc_api_Expr_api_Expr_api_Expr_api_Expr_l1]
    refine ev_ifT (by omega) (ev_ck (by omega) (ev_ck (by omega) (ev_to _ (he _ (lat_mem (by omega)) _) ?_)))
    exact ev_ite (fun h => ev_some (h2 (nt h))) (fun h => ev_ck (inR_of (by omega) (by omega)) (h1 (nf h)))
theorem exprEq_ev {a : TExpr} (hb : TExpr.Bd a) : ∀ b, Ev2 (fun n _ => format_EqualExpr n a b) (· = eqE a b) := by
  induction hb with
  | @mk x bKind bOp bName bKey bValue bKids eKids bAt ih =>
    intro b
    refine ev_succ ?_
    simp only [format_EqualExpr]
    rw [eqE_eq]
    refine ev_cut (· = (decide (x.fKind = b.fKind) && decide (x.fOp = b.fOp) && eqS x.fName b.fName && eqS x.fKey b.fKey && eqV x.fValue b.fValue && all2 eqE x.fKids b.fKids)) ?_ (fun t ht => ev_some ht)
    refine ev_ite (fun h1 => ?_) (fun h1 => ev_some (by simp [h1]))
    refine ev_ite (fun h2 => ?_) (fun h2 => ev_some (by simp [h2]))
    refine ev_ite (fun h3 => ?_) (fun h3 => ev_some (by simp [h3, eqS]))
    refine ev_ite (fun h4 => ?_) (fun h4 => ev_some (by simp [h4, eqS]))
    refine ev_to _ (valueEq_ev bValue _) ?_
    simp only [h1, h2, h3, h4, eqS, decide_true, Bool.true_and]
    refine ev_ite (fun h5 => ?_) (fun h5 => ev_some (by simp [Bool.eq_false_iff.2 h5]))
    exact ev_to _ (eqfE_ev _ _ bKids (fun n x0 x1 => format_EqualExpr n x0 x1) (fun x hx y => ih x hx y)) (ev_some (by simp [h5]))
theorem rexprEq_ev {a : TExpr} (hb : TExpr.Bd a) : ∀ b, Ev2 (fun n _ => ref16_EqualExpr n a b) (· = eqE a b) := by
  induction hb with
  | @mk x bKind bOp bName bKey bValue bKids eKids bAt ih =>
    intro b
    have l1 := bKids
    unfold maxW at l1
    refine ev_succ ?_
    simp only [ref16_EqualExpr]
    rw [eqE_eq]
    refine ev_to (!(decide (x.fKind = b.fKind) && decide (x.fOp = b.fOp) && eqS x.fName b.fName && eqS x.fKey b.fKey && eqV x.fValue b.fValue && decide (x.fKids.length = b.fKids.length))) ?_ ?_
    · refine ev_ite (fun h1 => ?_) (fun h1 => ev_some (by simp [h1]))
      refine ev_ite (fun h2 => ?_) (fun h2 => ev_some (by simp [h2]))
      refine ev_ite (fun h3 => ?_) (fun h3 => ev_some (by simp [h3, eqS]))
      refine ev_ite (fun h4 => ?_) (fun h4 => ev_some (by simp [h4, eqS]))
      refine ev_to _ (rvalueEq_ev bValue _) ?_
      refine ev_ite (fun h5 => ev_some (by simp [nt h5])) (fun h5 => ev_some ?_)
      have h5 := nf h5
      simp [h1, h2, h3, h4, h5, eqS]; omega
    · rw [all2_eq eqE]
      refine ev_ite (fun h => ev_some ?_) (fun h => ?_)
      · simp only [Bool.not_eq_true', Bool.and_eq_false_iff] at h
        rcases h with ((((h | h) | h) | h) | h) | h <;> simp [h]
      · simp only [Bool.not_eq_true', Bool.not_eq_false, Bool.and_eq_true] at h
        obtain ⟨⟨⟨⟨⟨h1, h2⟩, h3⟩, h4⟩, h5⟩, h6⟩ := h
        have h6' := of_decide_eq_true h6
        rw [h1, h2, h3, h4, h5, h6]
        simp only [Bool.true_and]
        rw [← Bool.and_true (allN _ 0 x.fKids.length)]
        refine cmp_jn (f := fun n m i => ref16_EqualExpr_l1 (ref16_EqualExpr n) x b m i) (cmp_loop x.fKids.length _ ?_ (fun i hi P h1 h2 => ?_) x.fKids.length 0 (by omega)) (ev_some rfl)
        · refine ev_round ?_
          simp only [ref16_EqualExpr_l1]
          exact ev_ifF (by omega) (ev_some rfl)
        · refine ev_round ?_
          simp only [ref16_EqualExpr_l1]
          refine ev_ifT (by omega) (ev_ck (by omega) (ev_ck (by omega) (ev_to _ (ih _ (lat_mem (by omega)) _) ?_)))
          exact ev_ite (fun h => ev_some (h2 (nt h))) (fun h => ev_ck (inR_of (by omega) (by omega)) (h1 (nf h)))
/-! ### Bodies -/
def eqA (a b : TAttribute) : Bool := eqS a.fName b.fName && eqE a.fExpr b.fExpr
mutual
def eqBd : TBody → TBody → Bool
  | .mk l k, .mk l' k' => all2 eqA l l' && eqKL k k'
def eqK : TBlock → TBlock → Bool
  | .mk t l b _, .mk t' l' b' _ => eqS t t' && all2 eqS l l' && eqBd b b'
def eqKL : List TBlock → List TBlock → Bool
  | [], [] => true
  | x :: r, y :: q => eqK x y && eqKL r q
  | _, _ => false
end
theorem eqKL_eq : ∀ a b, eqKL a b = all2 eqK a b
  | [], [] => by simp only [eqKL, all2]
  | [], _ :: _ => by simp only [eqKL, all2]
  | _ :: _, [] => by simp only [eqKL, all2]
  | x :: r, y :: q => by simp only [eqKL, all2]; rw [eqKL_eq r q]
theorem eqBd_eq (a b : TBody) : eqBd a b = (all2 eqA a.fAttrs b.fAttrs && all2 eqK a.fBlocks b.fBlocks) := by
  cases a; cases b
  simp only [eqBd, eqKL_eq, TBody.fAttrs, TBody.fBlocks]
theorem eqK_eq (a b : TBlock) : eqK a b = (eqS a.fType b.fType && all2 eqS a.fLabels b.fLabels && eqBd a.fBody b.fBody) := by
  cases a; cases b
  simp only [eqK, TBlock.fType, TBlock.fLabels, TBlock.fBody]
theorem eqfA_ev (a b : List TAttribute) (ha : a.length * 184 ≤ maxW) (e : Nat → TAttribute → TAttribute → Option Bool) (he : ∀ x ∈ a, ∀ y, Ev2 (fun n _ => e n x y) (· = eqA x y)) :
    Ev2 (fun n _ => slices_EqualFunc_api_Attribute_api_Attribute_api_Attribute_api_Attribute n a b (e n)) (· = all2 eqA a b) := by
  unfold maxW at ha
  simp only [slices_EqualFunc_api_Attribute_api_Attribute_api_Attribute_api_Attribute]
  rw [all2_eq]
  refine ev_ite (fun h => ?_) (fun h => ev_some (by simp; omega))
  have h : a.length = b.length := by omega
  rw [decide_eq_true h, Bool.true_and]
  rw [← Bool.and_true (allN _ 0 a.length)]
  refine cmp_jn (f := fun n m i => slices_EqualFunc_api_Attribute_api_Attribute_api_Attribute_api_Attribute_l1 a b (e n) m i) (cmp_loop a.length _ ?_ (fun i hi P h1 h2 => ?_) a.length 0 (by omega)) (ev_some rfl)
  · refine ev_round ?_
    simp only [slices_EqualFunc_api_Attribute_api_Attribute_api_Attribute_api_Attribute_l1]
    exact ev_ifF (by omega) (ev_some rfl)
  · refine ev_round ?_
    simp only [slices_EqualFunc_api_Attribute_api_Attribute_api_Attribute_api_Attribute_l1]
    refine ev_ifT (by omega) (ev_ck (by omega) (ev_ck (by omega) (ev_to _ (he _ (lat_mem (by omega)) _) ?_)))
    exact ev_ite (fun h => ev_some (h2 (nt h))) (fun h => ev_ck (inR_of (by omega) (by omega)) (h1 (nf h)))
theorem eqfK_ev (a b : List TBlock) (ha : a.length * 96 ≤ maxW) (e : Nat → TBlock → TBlock → Option Bool) (he : ∀ x ∈ a, ∀ y, Ev2 (fun n _ => e n x y) (· = eqK x y)) :
    Ev2 (fun n _ => slices_EqualFunc_api_Block_api_Block_api_Block_api_Block n a b (e n)) (· = all2 eqK a b) := by
  unfold maxW at ha
  simp only [slices_EqualFunc_api_Block_api_Block_api_Block_api_Block]
  rw [all2_eq]
  refine ev_ite (fun h => ?_) (fun h => ev_some (by simp; omega))
  have h : a.length = b.length := by omega
  rw [decide_eq_true h, Bool.true_and]
  rw [← Bool.and_true (allN _ 0 a.length)]
  refine cmp_jn (f := fun n m i => slices_EqualFunc_api_Block_api_Block_api_Block_api_Block_l1 a b (e n) m i) (cmp_loop a.length _ ?_ (fun i hi P h1 h2 => ?_) a.length 0 (by omega)) (ev_some rfl)
  · refine ev_round ?_
    simp only [slices_EqualFunc_api_Block_api_Block_api_Block_api_Block_l1]
    exact ev_ifF (by omega) (ev_some rfl)
  · refine ev_round ?_
    simp only [slices_EqualFunc_api_Block_api_Block_api_Block_api_Block_l1]
    refine ev_ifT (by omega) (ev_ck (by omega) (ev_ck (by omega) (ev_to _ (he _ (lat_mem (by omega)) _) ?_)))
    exact ev_ite (fun h => ev_some (h2 (nt h))) (fun h => ev_ck (inR_of (by omega) (by omega)) (h1 (nf h)))
theorem attrEq_ev {a : TAttribute} (hb : TAttribute.Bd a) (b : TAttribute) : Ev2 (fun n _ => format_EqualBody_1 n a b) (· = eqA a b) := by
  simp only [format_EqualBody_1, eqA]
  refine ev_cut (· = (eqS a.fName b.fName && eqE a.fExpr b.fExpr)) ?_ (fun t ht => ev_some ht)
  refine ev_ite (fun h1 => ?_) (fun h1 => ev_some (by simp [h1, eqS]))
  exact ev_to _ (exprEq_ev hb.bExpr _) (ev_some (by simp [h1, eqS]))
theorem bodyEq_ev : ∀ a, TBody.Bd a → ∀ b, Ev2 (fun n _ => format_EqualBody n a b) (· = eqBd a b) := by
  refine TBody.Bd.ind (fun a ha ih => ?_)
  intro b
  refine ev_succ ?_
  simp only [format_EqualBody]
  rw [eqBd_eq]
  refine ev_cut (· = (all2 eqA a.fAttrs b.fAttrs && all2 eqK a.fBlocks b.fBlocks)) ?_ (fun t ht => ev_some ht)
  refine ev_to _ (eqfA_ev _ _ ha.bAttrs (fun n x0 x1 => format_EqualBody_1 n x0 x1) (fun x hx y => attrEq_ev (ha.eAttrs x hx) y)) ?_
  refine ev_ite (fun h1 => ?_) (fun h1 => ev_some (by simp [Bool.eq_false_iff.2 h1]))
  refine ev_to _ (eqfK_ev _ _ ha.bBlocks (fun n x0 x1 => format_EqualBody_2 n x0 x1) (fun x hx y => ?_)) (ev_some (by simp [h1]))
  refine ev_succ ?_
  simp only [format_EqualBody_2]
  rw [eqK_eq]
  refine ev_cut (· = (eqS x.fType y.fType && all2 eqS x.fLabels y.fLabels && eqBd x.fBody y.fBody)) ?_ (fun t ht => ev_some ht)
  refine ev_ite (fun h2 => ?_) (fun h2 => ev_some (by simp [h2, eqS]))
  refine ev_to _ (seq_ev _ _ (ha.eBlocks x hx).bLabels) ?_
  simp only [h2, eqS, decide_true, Bool.true_and]
  refine ev_ite (fun h3 => ?_) (fun h3 => ev_some (by simp [Bool.eq_false_iff.2 h3]))
  exact ev_to _ (ih x hx _) (ev_some (by simp [h3]))
theorem rbodyEq_ev : ∀ a, TBody.Bd a → ∀ b, Ev2 (fun n _ => ref16_EqualBody n a b) (· = eqBd a b) := by
  refine TBody.Bd.ind (fun a ha ih => ?_)
  intro b
  have la := ha.bAttrs
  have lb := ha.bBlocks
  unfold maxW at la lb
  refine ev_succ ?_
  simp only [ref16_EqualBody]
  rw [eqBd_eq, all2_eq eqA, all2_eq eqK]
  refine ev_to (!(decide (a.fAttrs.length = b.fAttrs.length) && decide (a.fBlocks.length = b.fBlocks.length))) ?_ ?_
  · refine ev_ite (fun h1 => ev_some ?_) (fun h1 => ev_some ?_)
    · have h1 : a.fAttrs.length = b.fAttrs.length := by omega
      simp [h1]; omega
    · have h1 : ¬ a.fAttrs.length = b.fAttrs.length := by omega
      simp [h1]
  · refine ev_ite (fun h => ev_some ?_) (fun h => ?_)
    · simp only [Bool.not_eq_true', Bool.and_eq_false_iff] at h
      rcases h with h | h <;> simp [h]
    · simp only [Bool.not_eq_true', Bool.not_eq_false, Bool.and_eq_true] at h
      obtain ⟨h1, h2⟩ := h
      have h1' := of_decide_eq_true h1
      have h2' := of_decide_eq_true h2
      rw [h1, h2]
      simp only [Bool.true_and]
      refine cmp_jn (f := fun n m i => ref16_EqualBody_l1 n a b m i) (cmp_loop a.fAttrs.length _ ?_ (fun i hi P h1 h2 => ?_) a.fAttrs.length 0 (by omega)) ?_
      · refine ev_round ?_
        simp only [ref16_EqualBody_l1]
        exact ev_ifF (by omega) (ev_some rfl)
      · refine ev_round ?_
        simp only [ref16_EqualBody_l1]
        refine ev_ifT (by omega) ?_
        refine ev_to (!eqA (lat a.fAttrs (i : Int)) (lat b.fAttrs (i : Int))) (ev_ck (by omega) (ev_ck (by omega) (ev_ite (fun h3 => ?_) (fun h3 => ev_some (by simp [eqA, eqS, h3]))))) ?_
        · exact ev_ck (by omega) (ev_ck (by omega) (ev_to _ (rexprEq_ev (ha.eAttrs _ (lat_mem (by omega))).bExpr _) (ev_some (by simp [eqA, eqS, h3]))))
        · exact ev_ite (fun h => ev_some (h2 (nt h))) (fun h => ev_ck (inR_of (by omega) (by omega)) (h1 (nf h)))
      · rw [← Bool.and_true (allN _ 0 a.fBlocks.length)]
        refine cmp_jn (f := fun n m i => ref16_EqualBody_l2 n (ref16_EqualBody n) a b m i) (cmp_loop a.fBlocks.length _ ?_ (fun i hi P h1 h2 => ?_) a.fBlocks.length 0 (by omega)) (ev_some rfl)
        · refine ev_round ?_
          simp only [ref16_EqualBody_l2]
          exact ev_ifF (by omega) (ev_some rfl)
        · have hm : lat a.fBlocks (i : Int) ∈ a.fBlocks := lat_mem (by omega)
          refine ev_round ?_
          simp only [ref16_EqualBody_l2]
          refine ev_ifT (by omega) ?_
          refine ev_to (!eqK (lat a.fBlocks (i : Int)) (lat b.fBlocks (i : Int))) ?_ ?_
          · rw [eqK_eq]
            refine ev_ck (by omega) (ev_ck (by omega) (ev_ite (fun h3 => ?_) (fun h3 => ev_some (by simp [eqS, h3]))))
            refine ev_ck (by omega) (ev_ck (by omega) (ev_to _ (same_ev _ _ (ha.eBlocks _ hm).bLabels) ?_))
            refine ev_ite (fun h4 => ev_some (by simp [nt h4])) (fun h4 => ?_)
            exact ev_ck (by omega) (ev_ck (by omega) (ev_to _ (ih _ hm _) (ev_some (by simp [eqS, h3, nf h4]))))
          · exact ev_ite (fun h => ev_some (h2 (nt h))) (fun h => ev_ck (inR_of (by omega) (by omega)) (h1 (nf h)))
/-! ### The law -/
theorem equal_law {a b : TExpr} {l : TBody × TBody} (ha : TExpr.Bd a) (hb : TExpr.Bd b) (h1 : TBody.Bd l.1) (h2 : TBody.Bd l.2) : Ev2 (fun n _ => law16_FormatEqual n a b l) (· = true) := by
  simp only [law16_FormatEqual]
  refine ev_cut (fun _ => True) ?_ (fun t _ => ?_)
  · refine ev_cut _ (one_ev [a, b] (by simp) (by simp; exact ⟨ha, hb⟩)) (fun r _ => ev_ite (fun _ => ev_some trivial) (fun _ => ?_))
    exact ev_cut _ (whole_ev [l.1, l.2] (by simp) (by simp; exact ⟨h1, h2⟩)) (fun q _ => ev_some trivial)
  · refine ev_ite (fun _ => ev_cut _ awake_ev (fun r hr => ev_some hr)) (fun _ => ?_)
    refine ev_to true ?_ (ev_some rfl)
    refine ev_to _ (exprEq_ev ha b) (ev_to _ (rexprEq_ev ha b) (ev_ifT (by simp) ?_))
    refine ev_to _ (bodyEq_ev _ h1 _) (ev_to _ (rbodyEq_ev _ h1 _) (ev_ifT (by simp) ?_))
    exact ev_cut _ awake_ev (fun r hr => ev_some hr)
end Go.Ab.R06
