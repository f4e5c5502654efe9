/- Plain facts of chapter 17: what the program and the reference say of chains, and of the references of expressions, is the same. -/
import Derived.Test.YtmpmphkpplgbkaaP17e
set_option linter.unusedVariables false
set_option linter.unusedSimpArgs false
set_option linter.unnecessarySimpa false
namespace Go.Ab.R17
open Go.Ab

/-! ### A row turned round -/
theorem lat_mid {α : Type} [Inhabited α] (A : List α) (x : α) (R : List α) : lat (A ++ x :: R) (A.length : Int) = x := by
  rw [lat_nat, List.getD_eq_getElem?_getD, List.getElem?_append_right (Nat.le_refl _), Nat.sub_self]; rfl
theorem set_mid {α : Type} (A : List α) (x y : α) (R : List α) : (A ++ x :: R).set A.length y = A ++ y :: R := by
  induction A with
  | nil => rfl
  | cons a A ih => simp [ih]

theorem rev_ev (k : Nat) : ∀ (mid A B : List TExpr), mid.length ≤ k → A.length = B.length → A.length + mid.length + B.length ≤ maxW →
    Ev2 (fun _ m => rev_l1 m (A.length : Int) ((A.length : Int) + mid.length - 1) (A ++ (mid ++ B))) (· = A ++ (mid.reverse ++ B)) := by
  induction k with
  | zero =>
    intro mid A B hk hAB hW
    have : mid = [] := List.eq_nil_of_length_eq_zero (by omega)
    subst this
    refine ev_round ?_
    simp only [rev_l1]
    exact ev_ifF (by simp; omega) (ev_some rfl)
  | succ k ih =>
    intro mid A B hk hAB hW
    rcases mid with _ | ⟨x, t⟩
    · refine ev_round ?_
      simp only [rev_l1]
      exact ev_ifF (by simp; omega) (ev_some rfl)
    rcases List.eq_nil_or_concat t with rfl | ⟨m, y, rfl⟩
    · refine ev_round ?_
      simp only [rev_l1]
      exact ev_ifF (by simp) (ev_some rfl)
    refine ev_round ?_
    simp only [rev_l1]
    rw [maxW_eq] at hW
    simp only [List.concat_eq_append] at hk hW ⊢
    simp only [List.length_cons, List.length_append, List.length_nil] at hk hW
    have e1 : A ++ (x :: (m ++ [y]) ++ B) = A ++ x :: (m ++ y :: B) := by simp
    have ej : (A.length : Int) + ((x :: (m ++ [y])).length : Nat) - 1 = ((A ++ x :: m).length : Nat) := by simp; omega
    have e2 : A ++ x :: (m ++ y :: B) = (A ++ x :: m) ++ y :: B := by simp
    have hlen : (A ++ x :: (m ++ y :: B)).length = A.length + m.length + B.length + 2 := by simp; omega
    have hj : (A ++ x :: m).length = A.length + m.length + 1 := by simp; omega
    rw [e1, ej]
    refine ev_ifT (by omega) (ev_ck ⟨by omega, by omega⟩ (ev_ck ⟨by omega, by omega⟩ (ev_ck (inR_of (by omega) (by omega)) (ev_ck (inR_of (by omega) (by omega)) ?_))))
    have l1 : lat (A ++ x :: (m ++ y :: B)) (A.length : Int) = x := lat_mid A x _
    have l2 : lat (A ++ x :: (m ++ y :: B)) ((A ++ x :: m).length : Nat) = y := by rw [e2]; exact lat_mid _ y B
    rw [l1, l2, Int.toNat_natCast, Int.toNat_natCast, set_mid, show A ++ y :: (m ++ y :: B) = (A ++ y :: m) ++ y :: B by simp]
    rw [show (A ++ x :: m).length = (A ++ y :: m).length by simp, set_mid]
    have := ih m (A ++ [y]) (x :: B) (by omega) (by simp [hAB]) (by rw [maxW_eq]; simp; omega)
    refine ev_mono (P := (· = A ++ [y] ++ (m.reverse ++ x :: B))) ?_ (fun r hr => by rw [hr]; simp)
    have g1 : ((A ++ [y]).length : Int) = (A.length : Int) + 1 := by simp
    have g2 : ((A ++ [y]).length : Int) + m.length - 1 = ((A ++ y :: m).length : Nat) - 1 := by simp; omega
    rw [g2, g1] at this
    rw [show A ++ y :: m ++ x :: B = A ++ [y] ++ (m ++ x :: B) by simp]
    exact this

theorem reverse_ev (l : List TExpr) (hl : l.length ≤ maxW) : Ev2 (fun n _ => reverse_E n l) (· = l.reverse) := by
  simp only [reverse_E]
  refine ev_ck (by rw [maxW_eq] at hl; exact inR_of (by omega) (by omega)) ?_
  have := ev_loop (rev_ev l.length l [] [] (by omega) rfl (by simpa using hl))
  simpa using this

/-! ### Chains -/
inductive Ch : TExpr → TExpr → List TExpr → Prop
  | stop {e : TExpr} (h4 : e.fKind ≠ 4) (h5 : e.fKind ≠ 5) : Ch e e []
  | step {e k r : TExpr} {s : List TExpr} (h : e.fKind = 4 ∨ e.fKind = 5) (hk : e.fKids[0]? = some k) (hr : Ch k r s) : Ch e r (e :: s)

def idx (t : TExpr) : List TExpr := if t.fKind = 5 then (t.fKids[1]?).toList else []
def nm (t : TExpr) : Bytes := if t.fKind = 4 then t.fName else []

theorem Good.kids4 {e : TExpr} (h : Good e) (h4 : e.fKind = 4) : ∃ k, e.fKids = [k] := by
  have := h.shape.1.2.1 (.inl h4)
  exact List.length_eq_one_iff.1 (by omega)
theorem Good.kids5 {e : TExpr} (h : Good e) (h5 : e.fKind = 5) : ∃ k j, e.fKids = [k, j] := by
  have := h.shape.1.2.2.1 (.inl h5)
  match hq : e.fKids with
  | [] => rw [hq] at this; simp at this
  | [_] => rw [hq] at this; simp at this
  | [k, j] => exact ⟨k, j, rfl⟩
  | _ :: _ :: _ :: _ => rw [hq] at this; simp at this; omega

structure ChOk (e r : TExpr) (s : List TExpr) : Prop where
  good : Good r
  be : BE r
  k4 : r.fKind ≠ 4
  k5 : r.fKind ≠ 5
  size : s = [] ∧ r = e ∨ s ≠ [] ∧ SizeOf.sizeOf r < SizeOf.sizeOf e
  steps : ∀ t ∈ s, (t.fKind = 4 ∨ t.fKind = 5) ∧ Good t ∧ BE t
  sub : ∀ t ∈ s, ∀ q ∈ idx t, SizeOf.sizeOf q < SizeOf.sizeOf e
  nod : nodes r + nodesL (s.flatMap idx) + s.length ≤ nodes e

theorem kid_of_get {e k : TExpr} {j : Nat} (h : e.fKids[j]? = some k) : k ∈ e.fKids := List.mem_of_getElem? h

theorem ch_ex (e : TExpr) : Good e → BE e → ∃ r s, Ch e r s ∧ ChOk e r s := by
  induction e using expr_ind with
  | h e ih =>
  intro hg hb
  have hb' := hb
  obtain ⟨_, _, _, _, hbk⟩ := hb'
  by_cases h : e.fKind = 4 ∨ e.fKind = 5
  · have hk : ∃ k, e.fKids[0]? = some k ∧ 1 + nodes k + nodesL (idx e) ≤ nodes e ∧ ∀ q ∈ idx e, q ∈ e.fKids := by
      rcases h with h | h
      · obtain ⟨k, hk⟩ := hg.kids4 h
        refine ⟨k, by rw [hk]; rfl, ?_, ?_⟩
        · rw [nodes_eq e, hk, idx, if_neg (by omega)]; simp [nodesL]
        · rw [idx, if_neg (by omega)]; simp
      · obtain ⟨k, j, hk⟩ := hg.kids5 h
        refine ⟨k, by rw [hk]; rfl, ?_, ?_⟩
        · rw [nodes_eq e, idx, if_pos h, hk]; simp [nodesL]; omega
        · rw [idx, if_pos h, hk]; simp
    obtain ⟨k, hk, hn, hq⟩ := hk
    have hm := kid_of_get hk
    obtain ⟨r, s, h1, h2⟩ := ih k hm (hg.kid hm) (hbk k hm)
    have hlt := expr_kid_lt hm
    refine ⟨r, e :: s, .step h hk h1, h2.good, h2.be, h2.k4, h2.k5, .inr ⟨by simp, ?_⟩, ?_, ?_, ?_⟩
    · rcases h2.size with ⟨_, rfl⟩ | ⟨_, h⟩
      · exact hlt
      · omega
    · intro t ht
      rcases List.mem_cons.1 ht with rfl | ht
      · exact ⟨h, hg, hb⟩
      · exact h2.steps t ht
    · intro t ht q hqt
      rcases List.mem_cons.1 ht with rfl | ht
      · exact expr_kid_lt (hq q hqt)
      · have := h2.sub t ht q hqt; omega
    · have := h2.nod
      simp only [List.flatMap_cons, nodesL_append, List.length_cons]
      omega
  · have h4 : e.fKind ≠ 4 := fun q => h (.inl q)
    have h5 : e.fKind ≠ 5 := fun q => h (.inr q)
    exact ⟨e, [], .stop h4 h5, hg, hb, h4, h5, .inl ⟨rfl, rfl⟩, by simp, by simp, by simp [nodesL]⟩

theorem lat_zero {l : List TExpr} {k : TExpr} (h : l[0]? = some k) : lat l 0 = k := by
  rw [show (0 : Int) = ((0 : Nat) : Int) from rfl, lat_nat, List.getD_eq_getElem?_getD, h]; rfl
theorem lat_one {l : List TExpr} {k : TExpr} (h : l[1]? = some k) : lat l 1 = k := by
  rw [show (1 : Int) = ((1 : Nat) : Int) from rfl, lat_nat, List.getD_eq_getElem?_getD, h]; rfl
theorem len_of_get {α : Type} {l : List α} {j : Nat} {k : α} (h : l[j]? = some k) : j < l.length := (List.getElem?_eq_some_iff.1 h).1

theorem chain_loop {e r : TExpr} {s : List TExpr} (h : Ch e r s) : ∀ st : List TExpr, st.length + s.length ≤ 100000 →
    Ev2 (fun _ m => reference_chain_l1 m st e.fKind e.fOp e.fName e.fKey e.fValue.fKind e.fValue.fNum e.fValue.fStr e.fValue.fItems e.fValue.fKeys e.fKids e.fAt)
      (· = (st ++ s, r.fKind, r.fOp, r.fName, r.fKey, r.fValue.fKind, r.fValue.fNum, r.fValue.fStr, r.fValue.fItems, r.fValue.fKeys, r.fKids, r.fAt)) := by
  induction h with
  | @stop e h4 h5 =>
    intro st hst
    refine ev_round ?_
    simp only [reference_chain_l1]
    refine ev_cut (· = false) (ev_ifF h4 (ev_ifF h5 (ev_some rfl))) (fun t ht => ?_)
    subst ht
    exact ev_ifF (by simp) (ev_some (by simp))
  | @step e k r s h hk hr ih =>
    intro st hst
    have hl := len_of_get hk
    refine ev_round ?_
    simp only [reference_chain_l1]
    refine ev_cut (· = true) ?_ (fun t ht => ?_)
    · rcases h with h | h
      · exact ev_ifT h (ev_some (decide_eq_true (by omega)))
      · exact ev_ifF (by omega) (ev_ifT h (ev_some (decide_eq_true (by omega))))
    subst ht
    simp only [List.length_cons] at hst
    refine ev_ifT rfl (ev_ck (by simp; omega) (ev_ck ⟨by omega, by omega⟩ ?_))
    rw [lat_zero hk, TValue.eta, TExpr.eta]
    refine ev_mono (ih (st ++ [e]) (by simp; omega)) fun x hx => ?_
    rw [hx]; simp

theorem chain_ev {e r : TExpr} {s : List TExpr} (h : Ch e r s) (hs : s.length ≤ 100000) : Ev2 (fun n _ => reference_chain n e) (· = (r, s.reverse)) := by
  simp only [reference_chain]
  refine ev_cut _ (ev_loop (chain_loop h [] (by simpa using hs))) (fun q hq => ?_)
  subst hq
  refine ev_cut _ (reverse_ev _ (by rw [maxW_eq]; simp; omega)) (fun x hx => ev_some ?_)
  rw [hx, TValue.eta, TExpr.eta]; simp

theorem chainR_ev {e r : TExpr} {s : List TExpr} (h : Ch e r s) : Good e → s.length ≤ 100000 →
    Ev2 (fun n _ => ref17_chain n e) (· = TChain.mk r (s.reverse.map nm) (s.reverse.map fun t => decide (t.fKind = 4)) (s.reverse.flatMap idx)) := by
  induction h with
  | @stop e h4 h5 =>
    intro _ _
    refine ev_succ ?_
    simp only [ref17_chain]
    refine ev_cut (· = false) (ev_ifF h4 (ev_some rfl)) (fun t ht => ?_)
    subst ht
    refine ev_ifF (by simp) (ev_cut (· = false) (ev_ifF h5 (ev_some rfl)) (fun t ht => ?_))
    subst ht
    exact ev_ifF (by simp) (ev_some (by simp))
  | @step e k r s h hk hr ih =>
    intro hg hst
    have hm := kid_of_get hk
    simp only [List.length_cons] at hst
    have ih := ih (hg.kid hm) (by omega)
    have hfl : (s.reverse.flatMap idx).length ≤ s.length := by
      have : ∀ l : List TExpr, (l.flatMap idx).length ≤ l.length := by
        intro l
        induction l with
        | nil => simp
        | cons x l ih =>
          have : (idx x).length ≤ 1 := by
            unfold idx; split
            · cases x.fKids[1]? <;> simp
            · simp
          simp only [List.flatMap_cons, List.length_append, List.length_cons]; omega
      have := this s.reverse
      simpa using this
    refine ev_succ ?_
    simp only [ref17_chain]
    by_cases h4 : e.fKind = 4
    · obtain ⟨k', hk'⟩ := hg.kids4 h4
      refine ev_cut (· = true) (ev_ifT h4 (ev_some (by rw [hk']; rfl))) (fun t ht => ?_)
      subst ht
      refine ev_ifT rfl (ev_ck (by rw [hk']; simp) ?_)
      rw [lat_zero hk]
      refine ev_cut _ ih (fun c hc => ?_)
      subst hc
      refine ev_ck (by simp; omega) (ev_ck (by simp; omega) (ev_some ?_))
      have h5 : e.fKind ≠ 5 := by omega
      simp [nm, idx, h4]
    · have h5 : e.fKind = 5 := h.resolve_left h4
      obtain ⟨k', j, hk'⟩ := hg.kids5 h5
      refine ev_cut (· = false) (ev_ifF h4 (ev_some rfl)) (fun t ht => ?_)
      subst ht
      refine ev_ifF (by simp) (ev_cut (· = true) (ev_ifT h5 (ev_some (by rw [hk']; rfl))) (fun t ht => ?_))
      subst ht
      refine ev_ifT rfl (ev_ck (by rw [hk']; simp) ?_)
      rw [lat_zero hk]
      refine ev_cut _ ih (fun c hc => ?_)
      subst hc
      refine ev_ck (by simp; omega) (ev_ck (by simp; omega) (ev_ck (by rw [hk']; simp) (ev_ck (by simp only [List.length_cons, List.length_nil]; omega) (ev_some ?_))))
      rw [lat_one (l := e.fKids) (k := j) (by rw [hk']; rfl)]
      simp [nm, idx, h4, h5, hk']

/-! ### The reference with which a chain begins -/
def isA (st : List TExpr) (i : Nat) : Prop := i < st.length ∧ (lat st (i : Int)).fKind = 4
instance (st : List TExpr) (i : Nat) : Decidable (isA st i) := inferInstanceAs (Decidable (_ ∧ _))
theorem attr_eq (st : List TExpr) (i : Nat) : reference_attr st (i : Int) = some (if isA st i then ((lat st (i : Int)).fName, true) else ([], false)) := by
  unfold reference_attr isA
  by_cases h : i < st.length
  · have hb : (0 : Int) ≤ i ∧ (i : Int) < (st.length : Int) := ⟨by omega, by omega⟩
    rw [if_neg (by omega)]
    simp only [ck_pos hb, bd_some]
    by_cases h4 : (lat st (i : Int)).fKind = 4
    · simp [h, h4]
    · simp [h4]
  · rw [if_pos (by omega)]
    simp [h]
theorem step_eq (r : TExpr) (st : List TExpr) (kids : List TExpr) (i : Nat) : ref17_Chain_step (TChain.mk r (st.map nm) (st.map fun t => decide (t.fKind = 4)) kids) (i : Int) = some (decide (isA st i)) := by
  unfold ref17_Chain_step isA
  by_cases h : i < st.length
  · have hb : (0 : Int) ≤ i ∧ (i : Int) < (((st.map fun t => decide (t.fKind = 4))).length : Int) := ⟨by omega, by simp; omega⟩
    rw [if_pos hb.2, ck_pos hb]
    simp only [bd_some, h, true_and]
    rw [lat_get _ _ (by simpa using h), lat_get _ _ h]; simp
  · rw [if_neg (by simp; omega)]
    simp [h]
theorem names_eq (st : List TExpr) (i : Nat) (h : isA st i) : lat (st.map nm) (i : Int) = (lat st (i : Int)).fName := by
  obtain ⟨h1, h2⟩ := h
  rw [lat_get _ _ h1] at h2 ⊢
  rw [lat_get _ _ (by simpa using h1)]
  simp [nm, h2]

theorem begin_eq (r : TExpr) (st : List TExpr) (kids : List TExpr) : ref17_Chain_ref (TChain.mk r (st.map nm) (st.map fun t => decide (t.fKind = 4)) kids) = reference_begin r st := by
  have s0 : ref17_Chain_step _ 0 = _ := step_eq r st kids 0
  have s1 : ref17_Chain_step _ 1 = _ := step_eq r st kids 1
  have s2 : ref17_Chain_step _ 2 = _ := step_eq r st kids 2
  have a0 : reference_attr st 0 = _ := attr_eq st 0
  have a1 : reference_attr st 1 = _ := attr_eq st 1
  have a2 : reference_attr st 2 = _ := attr_eq st 2
  unfold ref17_Chain_ref reference_begin
  rw [s0, a0]
  by_cases h0 : isA st 0
  · have n0 : lat (st.map nm) 0 = _ := names_eq st 0 h0
    have c0 : (0 : Int) ≤ 0 ∧ (0 : Int) < ((st.map nm).length : Int) := ⟨by omega, by have := h0.1; simp; omega⟩
    simp only [h0, decide_true, bd_some, if_true, Bool.not_true, Bool.false_eq_true, if_false]
    simp only [ck_pos c0, n0, s1, s2]
    unfold ref17_kind reference_plain
    by_cases e1 : r.fName = [118, 97, 114]
    · simp [e1, jn]
    by_cases e2 : r.fName = [108, 111, 99, 97, 108]
    · simp [e2, jn]
    by_cases e3 : r.fName = [101, 97, 99, 104]
    · simp [e3, jn]
    by_cases e4 : r.fName = [99, 111, 117, 110, 116]
    · simp [e4, jn]
    by_cases e5 : r.fName = [114, 101, 109, 111, 116, 101]
    · simp [e5, jn]
    by_cases e6 : r.fName = [109, 111, 100, 117, 108, 101]
    · unfold reference_module
      rw [a1, a2]
      by_cases h1 : isA st 1
      · have n1 : lat (st.map nm) 1 = _ := names_eq st 1 h1
        have c1 : (1 : Int) < (st.length : Int) := by have := h1.1; omega
        simp [e6, jn, h1, n1, ck, c1]
      · by_cases h2 : isA st 2
        · have n2 : lat (st.map nm) 2 = _ := names_eq st 2 h2
          have c2 : (2 : Int) < (st.length : Int) := by have := h2.1; omega
          simp [e6, jn, h1, h2, n2, ck, c2]
        · simp [e6, jn, h1, h2]
    by_cases e7 : r.fName = [100, 97, 116, 97]
    · rw [a1]
      by_cases h1 : isA st 1
      · have n1 : lat (st.map nm) 1 = _ := names_eq st 1 h1
        have c1 : (1 : Int) < (st.length : Int) := by have := h1.1; omega
        have c2 : (0 : Int) < (st.length : Int) := by omega
        simp [e7, jn, h1, n1, ck, c1, c2]
      · simp [e7, jn, h1]
    simp [e1, e2, e3, e4, e5, e6, e7, jn]
  · simp [h0]

theorem begin_some (r : TExpr) (st : List TExpr) : ∃ x, reference_begin r st = some x := by
  obtain ⟨v0, a0⟩ : ∃ v, reference_attr st 0 = some v := ⟨_, attr_eq st 0⟩
  obtain ⟨v1, a1⟩ : ∃ v, reference_attr st 1 = some v := ⟨_, attr_eq st 1⟩
  obtain ⟨v2, a2⟩ : ∃ v, reference_attr st 2 = some v := ⟨_, attr_eq st 2⟩
  have hp : Ev2 (fun _ _ => reference_plain r.fName) (fun _ => True) := by
    simp only [reference_plain]
    repeat' (first | exact ev_some trivial | refine ev_ite (fun _ => ?_) (fun _ => ?_))
  obtain ⟨_, y, hy, _⟩ := ev_get hp
  have h : Ev2 (fun _ _ => reference_begin r st) (fun _ => True) := by
    simp only [reference_begin, reference_module, a0, a1, a2, hy, bd_some]
    repeat' (first | exact ev_some trivial | refine ev_cut (fun _ => True) ?_ (fun _ _ => ?_) | refine ev_ite (fun _ => ?_) (fun _ => ?_))
  obtain ⟨_, x, hx, _⟩ := ev_get h
  exact ⟨x, hx⟩

/-! ### The references of expressions -/
theorem size_ind {P : TExpr → Prop} (h : ∀ e, (∀ k, SizeOf.sizeOf k < SizeOf.sizeOf e → P k) → P e) (e : TExpr) : P e :=
  h e fun k _ => size_ind h k
termination_by SizeOf.sizeOf e

/-- What an expression says, to the reference and to the program. -/
structure Says (k : TExpr) (bound : List Bytes) (L : List TRef) : Prop where
  len : L.length ≤ nodes k
  once : putR [] L = L
  ref : Ev2 (fun n _ => ref17_of n k bound) (· = L)
  prog : ∀ f : List TRef, f.length + nodes k ≤ 10000 → Ev2 (fun n _ => reference_finder_expr n (Tfinder.mk f) k bound) (· = Tfinder.mk (putR f L))

/-- The same of the parts of a list. -/
def F (g : TExpr → List TRef) (acc : List TRef) (l : List TExpr) : List TRef := l.foldl (fun a k => putR a (g k)) acc
theorem F_putR (g : TExpr → List TRef) (l : List TExpr) : ∀ f acc : List TRef, putR f (F g acc l) = F g (putR f acc) l := by
  induction l with
  | nil => intro f acc; rfl
  | cons k r ih => intro f acc; show putR f (F g (putR acc (g k)) r) = F g (putR (putR f acc) (g k)) r; rw [ih, putR_putR]
theorem F_nil (g : TExpr → List TRef) (l : List TExpr) (f : List TRef) : F g f l = putR f (F g [] l) := by rw [F_putR]; rfl
theorem F_len (g : TExpr → List TRef) (l : List TExpr) (h : ∀ k ∈ l, (g k).length ≤ nodes k) : ∀ acc : List TRef, (F g acc l).length ≤ acc.length + nodesL l := by
  induction l with
  | nil => intro acc; simp [F, nodesL]
  | cons k r ih =>
    intro acc
    have h1 := ih (fun x hx => h x (by simp [hx])) (putR acc (g k))
    have h2 := putR_len (g k) acc
    have h3 := h k (by simp)
    have h4 : F g acc (k :: r) = F g (putR acc (g k)) r := rfl
    rw [h4]
    simp only [nodesL]
    omega
theorem F_take (g : TExpr → List TRef) (l : List TExpr) (i : Nat) (h : i < l.length) (acc : List TRef) : F g acc (l.take (i + 1)) = putR (F g acc (l.take i)) (g l[i]) := by
  unfold F
  rw [List.take_add_one, List.getElem?_eq_getElem h, List.foldl_append]; rfl

open Classical in
theorem pick {l : List TExpr} {bound : List Bytes} (h : ∀ k ∈ l, ∃ L, Says k bound L) : ∃ g : TExpr → List TRef, ∀ k ∈ l, Says k bound (g k) :=
  ⟨fun k => if hk : k ∈ l then Classical.choose (h k hk) else [], fun k hk => by simp only [dif_pos hk]; exact Classical.choose_spec (h k hk)⟩

theorem all_ev (l : List TExpr) (bound : List Bytes) (g : TExpr → List TRef) (hg : ∀ k ∈ l, Says k bound (g k)) (hn : nodesL l ≤ 5000) : Ev2 (fun n _ => ref17_all n l bound) (· = F g [] l) := by
  have hl := nodesL_len l
  refine ev_succ ?_
  simp only [ref17_all]
  have loop : ∀ (k i : Nat) (out : List TRef), i + k = l.length → out = F g [] (l.take i) → Ev2 (fun n m => ref17_all_l1 n (ref17_of n) l bound m out (i : Int)) (· = F g [] l) := by
    intro k
    induction k with
    | zero =>
      intro i out hi ho
      refine ev_round ?_
      simp only [ref17_all_l1]
      refine ev_ifF (by omega) (ev_some ?_)
      rw [ho, List.take_of_length_le (by omega)]
    | succ k ih =>
      intro i out hi ho
      refine ev_round ?_
      simp only [ref17_all_l1]
      have hb : (0 : Int) ≤ i ∧ (i : Int) < (l.length : Int) := ⟨by omega, by omega⟩
      refine ev_ifT (by omega) (ev_ck hb ?_)
      rw [lat_get _ _ (by omega)]
      have hm : l[i]'(by omega) ∈ l := List.getElem_mem _
      have hs := hg _ hm
      refine ev_cut _ hs.ref (fun r hr => ?_)
      subst hr
      have h1 := hs.len
      have h2 := nodesL_mem hm
      have h3 := F_len g (l.take i) (fun k hk => (hg k (List.mem_of_mem_take hk)).len) []
      have h4 : nodesL (l.take i) ≤ nodesL l := by
        have := nodesL_append (l.take i) (l.drop i)
        rw [List.take_append_drop] at this; omega
      rw [← ho] at h3
      simp only [List.length_nil] at h3
      refine ev_cut _ (put_ev out _ (by omega) (by omega)) (fun x hx => ?_)
      refine ev_ck (inR_succ hb (by rw [maxW_eq]; omega)) (ih (i + 1) x (by omega) ?_)
      rw [hx, F_take _ _ _ (by omega), ho]
  exact ev_cut _ (ev_loop (loop l.length 0 [] (by omega) rfl)) (fun x hx => ev_some hx)

end Go.Ab.R17
