/- Plain facts of chapter 16: the text of an expression, by the program and by the reference. No program in sight. -/
import Derived.Test.YtmdefcidhgbikaaGreatDoorP16k
set_option linter.unusedVariables false
set_option linter.unusedSimpArgs false
set_option linter.unnecessarySimpa false
namespace Go.Ab.R06
open Go.Ab Go.Ab.RB Go.Lib

/-- What is shown of an expression. -/
def Both (e : TExpr) : Prop := Ev2 (fun n _ => format_Expr n e) (· = exprT e) ∧ Ev2 (fun n _ => ref16_Expr n e) (· = exprT e) ∧ (exprT e).length + 1000 ≤ 60000 * nodesE e
theorem ident_len {s : Bytes} (h : identB s = true) : s.length ≤ 64 := ((identB_iff s).1 h).2.1
theorem loopT_len {e : TExpr} (hc : LoopShape e) (hw : ∀ x ∈ e.fKids, (exprT x).length + 1000 ≤ 60000 * nodesE x) : (loopT e (e.fKids.map exprT)).length ≤ e.fName.length + e.fKey.length + 60000 * nodesL e.fKids := by
  unfold LoopShape at hc
  unfold loopT
  have hK : (if e.fKey = [] then [] else e.fKey ++ [44, 32] : Bytes).length ≤ e.fKey.length + 2 := by
    split
    · simp
    · rw [List.length_append]; simp only [List.length_cons, List.length_nil]; omega
  generalize hS : (if e.fKey = [] then [] else e.fKey ++ [44, 32] : Bytes) = S at *
  generalize hL : e.fKids = L at *
  rcases hc with ⟨h13, h3 | h4⟩ | ⟨h13, h2 | h3⟩
  · obtain ⟨a, b, c, rfl⟩ := len3 h3
    have la := hw a (by simp)
    have lb := hw b (by simp)
    have lc := hw c (by simp)
    simp [h13, nodesL]; omega
  · obtain ⟨a, b, c, d, rfl⟩ := len4 h4
    have la := hw a (by simp)
    have lb := hw b (by simp)
    have lc := hw c (by simp)
    have ld := hw d (by simp)
    simp [h13, nodesL]; omega
  · obtain ⟨a, b, rfl⟩ := len2 h2
    have la := hw a (by simp)
    have lb := hw b (by simp)
    simp [h13, nodesL]; omega
  · obtain ⟨a, b, c, rfl⟩ := len3 h3
    have la := hw a (by simp)
    have lb := hw b (by simp)
    have lc := hw c (by simp)
    simp [h13, nodesL]; omega
set_option maxHeartbeats 2000000 in
theorem both_ev {e : TExpr} (hg : GoodE e) : nodesE e ≤ 300 → Both e := by
  induction hg with
  | @mk e hnode kids ih =>
    intro hN
    have hE := nodesE_eq e
    have hB : ∀ x ∈ e.fKids, Both x := fun x hx => ih x hx (by have := nodesL_mem hx; omega)
    have HF : ∀ x ∈ e.fKids, Ev2 (fun n _ => format_Expr n x) (· = exprT x) := fun x hx => (hB x hx).1
    have HR : ∀ x ∈ e.fKids, Ev2 (fun n _ => ref16_Expr n x) (· = exprT x) := fun x hx => (hB x hx).2.1
    have HW : ∀ x ∈ e.fKids, (exprT x).length + 1000 ≤ 60000 * nodesE x := fun x hx => (hB x hx).2.2
    have HL : ∀ x ∈ e.fKids, (exprT x).length ≤ 100000000 := fun x hx => by
      have := HW x hx
      have := nodesL_mem hx
      omega
    have hlen := nodesL_len e.fKids
    have HS : ∀ x ∈ e.fKids, x.fKind = 1 → x.fValue.fStr.length ≤ 4096 := fun x hx h => (good_lit (kids x hx) h).str
    have HO : ∀ x ∈ e.fKids, x.fKind = 7 → 3 ≤ x.fOp := fun x hx h => by
      have := kids x hx
      cases this with
      | mk q _ => exact ((shaped_facts q.1).2.2.2 h).1
    have hpl : ∀ x ∈ e.fKids, isPl x = true → x.fValue.fStr.length ≤ 4096 := fun x hx h => by
      unfold isPl at h
      simp only [Bool.and_eq_true, decide_eq_true_eq] at h
      exact HS x hx h.1.1
    have okF : TmplOk e.fKids (fun n x => format_Expr n x) exprT := ⟨by omega, by omega, HF, hpl, HW⟩
    have okR : TmplOk e.fKids (fun n x => ref16_Expr n x) exprT := ⟨by omega, by omega, HR, hpl, HW⟩
    obtain ⟨s1, s2, s3, s4⟩ := shaped_facts hnode.1
    have hnm : e.fKind ≠ 1 → ref14_named e.fKind = some true → e.fName.length ≤ 64 := fun h1 h2 => ident_len ((hnode.2.2 h1).1 h2).1
    have hky : e.fKind ≠ 1 → e.fKey.length ≤ 64 := fun h1 => by
      by_cases h2 : e.fKey = []
      · rw [h2]; simp
      · exact ident_len ((hnode.2.2 h1).2 h2).1
    have hlit : e.fKind = 1 → LitV e.fValue := fun h => good_lit (.mk hnode kids) h
    have hmap := mapG_len e.fKids.length e.fKids (Nat.le_refl _) HW
    have hsum := sum_len e.fKids HW
    have hj1 := join_len (e.fKids.map exprT)
    have hj2 := join_len (mapG e.fKids (e.fKids.map exprT))
    have htl := tmplG_len okF (decide (1 < e.fKids.length)) e.fKids.length 0 false (by omega)
    simp only [List.drop_zero] at htl
    unfold Both
    rw [exprT_eq]
    have kf := kids_facts s1
    rcases kf with ⟨hk, hn⟩ | ⟨hk, hn⟩ | ⟨hk, hn⟩ | ⟨hk, hn⟩ | ⟨hk, hn⟩ | ⟨hk, hn⟩ | ⟨hk, hn⟩ | ⟨hk, hn⟩ | hk | hk | ⟨hk, hn⟩ | ⟨hk, hn⟩ | ⟨hk, hn⟩
    · have hc : comb e (e.fKids.map exprT) = litT e.fValue := by unfold comb; rw [if_pos hk]
      rw [hc]
      refine ⟨?_, ?_, ?_⟩
      · refine ev_succ ?_
        simp only [format_Expr]
        refine ev_ifT hk ?_
        exact ev_to _ (lit_ev (hlit hk)) (ev_some rfl)
      · refine ev_succ ?_
        simp only [ref16_Expr]
        refine ev_ifT hk ?_
        exact ev_to _ (rlit_ev (hlit hk)) (ev_some rfl)
      · have := litT_len (hlit hk); omega
    · have hc : comb e (e.fKids.map exprT) = [34] ++ tmplG (decide (1 < e.fKids.length)) e.fKids (e.fKids.map exprT) false ++ [34] := by unfold comb; rw [if_neg (by omega), if_pos hk]
      rw [hc]
      refine ⟨?_, ?_, ?_⟩
      · refine ev_succ ?_
        simp only [format_Expr]
        refine ev_ifF (by omega) ?_
        refine ev_ifT hk ?_
        exact ev_to _ (ftemplate_ev okF) (ev_some rfl)
      · refine ev_succ ?_
        simp only [ref16_Expr]
        refine ev_ifF (by omega) ?_
        refine ev_ifT hk ?_
        exact ev_to _ (rtemplate_ev okR) (ev_some rfl)
      · simp only [List.length_append, List.length_cons, List.length_nil]; omega
    · have nl := hnm (by omega) (by rw [hk]; rfl)
      have hc : comb e (e.fKids.map exprT) = e.fName := by unfold comb; rw [if_neg (by omega), if_neg (by omega), if_pos hk]
      rw [hc]
      refine ⟨?_, ?_, ?_⟩
      · refine ev_succ ?_
        simp only [format_Expr]
        refine ev_ifF (by omega) ?_
        refine ev_ifF (by omega) ?_
        refine ev_ifT hk ?_
        exact ev_some rfl
      · refine ev_succ ?_
        simp only [ref16_Expr]
        refine ev_ifF (by omega) ?_
        refine ev_ifF (by omega) ?_
        refine ev_ifT hk ?_
        exact ev_some rfl
      · omega
    · have nl := hnm (by omega) (by rw [hk]; rfl)
      obtain ⟨a, hks⟩ : ∃ a, e.fKids = [a] := List.length_eq_one_iff.1 (by omega)
      have ma : a ∈ e.fKids := by rw [hks]; simp
      have la := HW a ma
      have ga := HL a ma
      have hsumN : nodesL e.fKids = nodesE a := by rw [hks]; simp only [nodesL]; omega
      have ta := atT_len a (exprT a) 8
      have hc : comb e (e.fKids.map exprT) = atT a (exprT a) 8 ++ [46] ++ e.fName := by unfold comb; rw [if_neg (by omega), if_neg (by omega), if_neg (by omega), if_pos hk]; rw [hks]; rfl
      rw [hc]
      refine ⟨?_, ?_, ?_⟩
      · refine ev_succ ?_
        simp only [format_Expr]
        refine ev_ifF (by omega) ?_
        refine ev_ifF (by omega) ?_
        refine ev_ifF (by omega) ?_
        refine ev_ifF (by omega) ?_
        refine ev_ifF (by omega) ?_
        refine ev_ifF (by omega) ?_
        refine ev_to true (ev_ifT hk (ev_some (decide_eq_true (by omega)))) (ev_ifT rfl ?_)
        exact ev_ck (by omega) (ev_to (atT a (exprT a) 8) (by rw [hks]; exact fat_ev (HF a ma) ga 8) (ev_ck (by simp only [List.length_append, List.length_cons, List.length_nil]; omega) (ev_ck (by simp only [List.length_append, List.length_cons, List.length_nil]; omega) (ev_some rfl))))
      · refine ev_succ ?_
        simp only [ref16_Expr]
        refine ev_ifF (by omega) ?_
        refine ev_ifF (by omega) ?_
        refine ev_ifF (by omega) ?_
        refine ev_ifT hk ?_
        exact ev_ck (by omega) (ev_to (atT a (exprT a) 8) (by rw [hks]; exact rat_ev (HR a ma) ga (HO a ma) 8) (ev_ck (by simp only [List.length_append, List.length_cons, List.length_nil]; omega) (ev_ck (by simp only [List.length_append, List.length_cons, List.length_nil]; omega) (ev_some rfl))))
      · simp only [List.length_append, List.length_cons, List.length_nil]; omega
    · obtain ⟨a, b, hks⟩ := len2 (l := e.fKids) (by omega)
      have ma : a ∈ e.fKids := by rw [hks]; simp
      have la := HW a ma
      have ga := HL a ma
      have mb : b ∈ e.fKids := by rw [hks]; simp
      have lb := HW b mb
      have gb := HL b mb
      have hsumN : nodesL e.fKids = nodesE a + nodesE b := by rw [hks]; simp only [nodesL]; omega
      have ta := atT_len a (exprT a) 8
      have hc : comb e (e.fKids.map exprT) = atT a (exprT a) 8 ++ [91] ++ exprT b ++ [93] := by unfold comb; rw [if_neg (by omega), if_neg (by omega), if_neg (by omega), if_neg (by omega), if_pos hk]; rw [hks]; rfl
      rw [hc]
      refine ⟨?_, ?_, ?_⟩
      · refine ev_succ ?_
        simp only [format_Expr]
        refine ev_ifF (by omega) ?_
        refine ev_ifF (by omega) ?_
        refine ev_ifF (by omega) ?_
        refine ev_ifF (by omega) ?_
        refine ev_ifF (by omega) ?_
        refine ev_ifF (by omega) ?_
        refine ev_to false (ev_ifF (by omega) (ev_some rfl)) (ev_ifF (by simp) ?_)
        refine ev_to true (ev_ifT hk (ev_some (decide_eq_true (by omega)))) (ev_ifT rfl ?_)
        exact ev_ck (by omega) (ev_to (atT a (exprT a) 8) (by rw [hks]; exact fat_ev (HF a ma) ga 8) (ev_ck (by simp only [List.length_append, List.length_cons, List.length_nil]; omega) (ev_ck (by omega) (ev_to (exprT b) (by rw [hks]; exact HF b mb) (ev_ck (by simp only [List.length_append, List.length_cons, List.length_nil]; omega) (ev_ck (by simp only [List.length_append, List.length_cons, List.length_nil]; omega) (ev_some rfl)))))))
      · refine ev_succ ?_
        simp only [ref16_Expr]
        refine ev_ifF (by omega) ?_
        refine ev_ifF (by omega) ?_
        refine ev_ifF (by omega) ?_
        refine ev_ifF (by omega) ?_
        refine ev_ifT hk ?_
        exact ev_ck (by omega) (ev_to (atT a (exprT a) 8) (by rw [hks]; exact rat_ev (HR a ma) ga (HO a ma) 8) (ev_ck (by simp only [List.length_append, List.length_cons, List.length_nil]; omega) (ev_ck (by omega) (ev_to (exprT b) (by rw [hks]; exact HR b mb) (ev_ck (by simp only [List.length_append, List.length_cons, List.length_nil]; omega) (ev_ck (by simp only [List.length_append, List.length_cons, List.length_nil]; omega) (ev_some rfl)))))))
      · simp only [List.length_append, List.length_cons, List.length_nil]; omega
    · obtain ⟨a, hks⟩ : ∃ a, e.fKids = [a] := List.length_eq_one_iff.1 (by omega)
      have ma : a ∈ e.fKids := by rw [hks]; simp
      have la := HW a ma
      have ga := HL a ma
      have hsumN : nodesL e.fKids = nodesE a := by rw [hks]; simp only [nodesL]; omega
      have ta := atT_len a (exprT a) 7
      have sl := sgn_len e.fOp
      have ho := s3 hk
      have hc : comb e (e.fKids.map exprT) = sgn e.fOp ++ atT a (exprT a) 7 := by unfold comb; rw [if_neg (by omega), if_neg (by omega), if_neg (by omega), if_neg (by omega), if_neg (by omega), if_pos hk]; rw [hks]; rfl
      rw [hc]
      refine ⟨?_, ?_, ?_⟩
      · refine ev_succ ?_
        simp only [format_Expr]
        refine ev_ifF (by omega) ?_
        refine ev_ifF (by omega) ?_
        refine ev_ifF (by omega) ?_
        refine ev_ifF (by omega) ?_
        refine ev_ifF (by omega) ?_
        refine ev_ifF (by omega) ?_
        refine ev_to false (ev_ifF (by omega) (ev_some rfl)) (ev_ifF (by simp) ?_)
        refine ev_to false (ev_ifF (by omega) (ev_some rfl)) (ev_ifF (by simp) ?_)
        refine ev_to true (ev_ifT hk (ev_some (decide_eq_true (by omega)))) (ev_ifT rfl ?_)
        exact ev_to _ (ev_const (fsign (by omega) (by omega)) rfl) (ev_ck (by omega) (ev_to (atT a (exprT a) 7) (by rw [hks]; exact fat_ev (HF a ma) ga 7) (ev_ck (by omega) (ev_some rfl))))
      · refine ev_succ ?_
        simp only [ref16_Expr]
        refine ev_ifF (by omega) ?_
        refine ev_ifF (by omega) ?_
        refine ev_ifF (by omega) ?_
        refine ev_ifF (by omega) ?_
        refine ev_ifF (by omega) ?_
        refine ev_ifT hk ?_
        exact ev_to _ (ev_const (rsign (by omega) (by omega)) rfl) (ev_ck (by omega) (ev_to (atT a (exprT a) 7) (by rw [hks]; exact rat_ev (HR a ma) ga (HO a ma) 7) (ev_ck (by omega) (ev_some rfl))))
      · simp only [List.length_append, List.length_cons, List.length_nil]; omega
    · obtain ⟨a, b, hks⟩ := len2 (l := e.fKids) (by omega)
      have ma : a ∈ e.fKids := by rw [hks]; simp
      have la := HW a ma
      have ga := HL a ma
      have mb : b ∈ e.fKids := by rw [hks]; simp
      have lb := HW b mb
      have gb := HL b mb
      have hsumN : nodesL e.fKids = nodesE a + nodesE b := by rw [hks]; simp only [nodesL]; omega
      have ta := atT_len a (exprT a) (lvl e)
      have tb := atT_len b (exprT b) (lvl e + 1)
      have sl := sgn_len e.fOp
      have ho := s4 hk
      have lr := lvl_range e
      have hbin : ref16_binary e.fOp = some (lvl e) := by
        have := rlevel (e := e) (fun _ => ho.1)
        unfold ref16_level at this
        rw [if_neg (by omega), if_neg (by omega), if_pos hk] at this
        cases hq : ref16_binary e.fOp with
        | none => rw [hq] at this; cases this
        | some z => rw [hq] at this; exact this
      have hc : comb e (e.fKids.map exprT) = atT a (exprT a) (lvl e) ++ [32] ++ sgn e.fOp ++ [32] ++ atT b (exprT b) (lvl e + 1) := by unfold comb; rw [if_neg (by omega), if_neg (by omega), if_neg (by omega), if_neg (by omega), if_neg (by omega), if_neg (by omega), if_pos hk]; rw [hks]; rfl
      rw [hc]
      refine ⟨?_, ?_, ?_⟩
      · refine ev_succ ?_
        simp only [format_Expr]
        refine ev_ifF (by omega) ?_
        refine ev_ifF (by omega) ?_
        refine ev_ifF (by omega) ?_
        refine ev_ifF (by omega) ?_
        refine ev_ifF (by omega) ?_
        refine ev_ifF (by omega) ?_
        refine ev_to false (ev_ifF (by omega) (ev_some rfl)) (ev_ifF (by simp) ?_)
        refine ev_to false (ev_ifF (by omega) (ev_some rfl)) (ev_ifF (by simp) ?_)
        refine ev_to false (ev_ifF (by omega) (ev_some rfl)) (ev_ifF (by simp) ?_)
        refine ev_to true (ev_ifT hk (ev_some (decide_eq_true (by omega)))) (ev_ifT rfl ?_)
        exact ev_to _ (ev_const (flevel e) rfl) (ev_ck (by omega) (ev_to (atT a (exprT a) (lvl e)) (by rw [hks]; exact fat_ev (HF a ma) ga _) (ev_ck (by simp only [List.length_append, List.length_cons, List.length_nil]; omega) (ev_to _ (ev_const (fsign (by omega) (by omega)) rfl) (ev_ck (by simp only [List.length_append, List.length_cons, List.length_nil]; omega) (ev_ck (by simp only [List.length_append, List.length_cons, List.length_nil]; omega) (ev_ck (by omega) (ev_ck (inR_of (by omega) (by omega)) (ev_to (atT b (exprT b) (lvl e + 1)) (by rw [hks]; exact fat_ev (HF b mb) gb _) (ev_ck (by simp only [List.length_append, List.length_cons, List.length_nil]; omega) (ev_some rfl)))))))))))
      · refine ev_succ ?_
        simp only [ref16_Expr]
        refine ev_ifF (by omega) ?_
        refine ev_ifF (by omega) ?_
        refine ev_ifF (by omega) ?_
        refine ev_ifF (by omega) ?_
        refine ev_ifF (by omega) ?_
        refine ev_ifF (by omega) ?_
        refine ev_ifT hk ?_
        exact ev_to _ (ev_const (hbin) rfl) (ev_ck (by omega) (ev_to (atT a (exprT a) (lvl e)) (by rw [hks]; exact rat_ev (HR a ma) ga (HO a ma) _) (ev_ck (by simp only [List.length_append, List.length_cons, List.length_nil]; omega) (ev_to _ (ev_const (rsign (by omega) (by omega)) rfl) (ev_ck (by simp only [List.length_append, List.length_cons, List.length_nil]; omega) (ev_ck (by simp only [List.length_append, List.length_cons, List.length_nil]; omega) (ev_ck (by omega) (ev_ck (inR_of (by omega) (by omega)) (ev_to (atT b (exprT b) (lvl e + 1)) (by rw [hks]; exact rat_ev (HR b mb) gb (HO b mb) _) (ev_ck (by simp only [List.length_append, List.length_cons, List.length_nil]; omega) (ev_some rfl)))))))))))
      · simp only [List.length_append, List.length_cons, List.length_nil]; omega
    · obtain ⟨a, b, c, hks⟩ := len3 (l := e.fKids) (by omega)
      have ma : a ∈ e.fKids := by rw [hks]; simp
      have la := HW a ma
      have ga := HL a ma
      have mb : b ∈ e.fKids := by rw [hks]; simp
      have lb := HW b mb
      have gb := HL b mb
      have mc : c ∈ e.fKids := by rw [hks]; simp
      have lc := HW c mc
      have gc := HL c mc
      have hsumN : nodesL e.fKids = nodesE a + nodesE b + nodesE c := by rw [hks]; simp only [nodesL]; omega
      have ta := atT_len a (exprT a) 1
      have hc : comb e (e.fKids.map exprT) = atT a (exprT a) 1 ++ [32, 63, 32] ++ exprT b ++ [32, 58, 32] ++ exprT c := by unfold comb; rw [if_neg (by omega), if_neg (by omega), if_neg (by omega), if_neg (by omega), if_neg (by omega), if_neg (by omega), if_neg (by omega), if_pos hk]; rw [hks]; rfl
      rw [hc]
      refine ⟨?_, ?_, ?_⟩
      · refine ev_succ ?_
        simp only [format_Expr]
        refine ev_ifF (by omega) ?_
        refine ev_ifF (by omega) ?_
        refine ev_ifF (by omega) ?_
        refine ev_ifF (by omega) ?_
        refine ev_ifF (by omega) ?_
        refine ev_ifF (by omega) ?_
        refine ev_to false (ev_ifF (by omega) (ev_some rfl)) (ev_ifF (by simp) ?_)
        refine ev_to false (ev_ifF (by omega) (ev_some rfl)) (ev_ifF (by simp) ?_)
        refine ev_to false (ev_ifF (by omega) (ev_some rfl)) (ev_ifF (by simp) ?_)
        refine ev_to false (ev_ifF (by omega) (ev_some rfl)) (ev_ifF (by simp) ?_)
        refine ev_to true (ev_ifT hk (ev_some (decide_eq_true (by omega)))) (ev_ifT rfl ?_)
        exact ev_ck (by omega) (ev_to (atT a (exprT a) 1) (by rw [hks]; exact fat_ev (HF a ma) ga 1) (ev_ck (by simp only [List.length_append, List.length_cons, List.length_nil]; omega) (ev_ck (by omega) (ev_to (exprT b) (by rw [hks]; exact HF b mb) (ev_ck (by simp only [List.length_append, List.length_cons, List.length_nil]; omega) (ev_ck (by simp only [List.length_append, List.length_cons, List.length_nil]; omega) (ev_ck (by omega) (ev_to (exprT c) (by rw [hks]; exact HF c mc) (ev_ck (by simp only [List.length_append, List.length_cons, List.length_nil]; omega) (ev_some rfl))))))))))
      · refine ev_succ ?_
        simp only [ref16_Expr]
        refine ev_ifF (by omega) ?_
        refine ev_ifF (by omega) ?_
        refine ev_ifF (by omega) ?_
        refine ev_ifF (by omega) ?_
        refine ev_ifF (by omega) ?_
        refine ev_ifF (by omega) ?_
        refine ev_ifF (by omega) ?_
        refine ev_ifT hk ?_
        exact ev_ck (by omega) (ev_to (atT a (exprT a) 1) (by rw [hks]; exact rat_ev (HR a ma) ga (HO a ma) 1) (ev_ck (by simp only [List.length_append, List.length_cons, List.length_nil]; omega) (ev_ck (by omega) (ev_to (exprT b) (by rw [hks]; exact HR b mb) (ev_ck (by simp only [List.length_append, List.length_cons, List.length_nil]; omega) (ev_ck (by simp only [List.length_append, List.length_cons, List.length_nil]; omega) (ev_ck (by omega) (ev_to (exprT c) (by rw [hks]; exact HR c mc) (ev_ck (by simp only [List.length_append, List.length_cons, List.length_nil]; omega) (ev_some rfl))))))))))
      · simp only [List.length_append, List.length_cons, List.length_nil]; omega
    · have nl := hnm (by omega) (by rw [hk]; rfl)
      have hc : comb e (e.fKids.map exprT) = e.fName ++ [40] ++ join (e.fKids.map exprT) [44, 32] ++ [41] := by unfold comb; rw [if_neg (by omega), if_neg (by omega), if_neg (by omega), if_neg (by omega), if_neg (by omega), if_neg (by omega), if_neg (by omega), if_neg (by omega), if_pos hk]
      rw [hc]
      refine ⟨?_, ?_, ?_⟩
      · refine ev_succ ?_
        simp only [format_Expr]
        refine ev_ifF (by omega) ?_
        refine ev_ifF (by omega) ?_
        refine ev_ifF (by omega) ?_
        refine ev_ifT hk ?_
        exact ev_ck (by simp only [List.length_append, List.length_cons, List.length_nil]; omega) (ev_to _ (flist_ev (by omega) (by omega) HF HW) (ev_ck (by simp only [List.length_append, List.length_cons, List.length_nil]; omega) (ev_ck (by simp only [List.length_append, List.length_cons, List.length_nil]; omega) (ev_some rfl))))
      · refine ev_succ ?_
        simp only [ref16_Expr]
        refine ev_ifF (by omega) ?_
        refine ev_ifF (by omega) ?_
        refine ev_ifF (by omega) ?_
        refine ev_ifF (by omega) ?_
        refine ev_ifF (by omega) ?_
        refine ev_ifF (by omega) ?_
        refine ev_ifF (by omega) ?_
        refine ev_ifF (by omega) ?_
        refine ev_ifT hk ?_
        exact ev_ck (by simp only [List.length_append, List.length_cons, List.length_nil]; omega) (ev_to _ (rlistE_ev (by omega) HR HL) (ev_ck (by simp only [List.length_append, List.length_cons, List.length_nil]; omega) (ev_ck (by simp only [List.length_append, List.length_cons, List.length_nil]; omega) (ev_some rfl))))
      · simp only [List.length_append, List.length_cons, List.length_nil]; omega
    · have hc : comb e (e.fKids.map exprT) = [91] ++ join (e.fKids.map exprT) [44, 32] ++ [93] := by unfold comb; rw [if_neg (by omega), if_neg (by omega), if_neg (by omega), if_neg (by omega), if_neg (by omega), if_neg (by omega), if_neg (by omega), if_neg (by omega), if_neg (by omega), if_pos hk]
      rw [hc]
      refine ⟨?_, ?_, ?_⟩
      · refine ev_succ ?_
        simp only [format_Expr]
        refine ev_ifF (by omega) ?_
        refine ev_ifF (by omega) ?_
        refine ev_ifF (by omega) ?_
        refine ev_ifF (by omega) ?_
        refine ev_ifT hk ?_
        exact ev_to _ (flist_ev (by omega) (by omega) HF HW) (ev_ck (by simp only [List.length_append, List.length_cons, List.length_nil]; omega) (ev_ck (by simp only [List.length_append, List.length_cons, List.length_nil]; omega) (ev_some rfl)))
      · refine ev_succ ?_
        simp only [ref16_Expr]
        refine ev_ifF (by omega) ?_
        refine ev_ifF (by omega) ?_
        refine ev_ifF (by omega) ?_
        refine ev_ifF (by omega) ?_
        refine ev_ifF (by omega) ?_
        refine ev_ifF (by omega) ?_
        refine ev_ifF (by omega) ?_
        refine ev_ifF (by omega) ?_
        refine ev_ifF (by omega) ?_
        refine ev_ifT hk ?_
        exact ev_to _ (rlistE_ev (by omega) HR HL) (ev_ck (by simp only [List.length_append, List.length_cons, List.length_nil]; omega) (ev_ck (by simp only [List.length_append, List.length_cons, List.length_nil]; omega) (ev_some rfl)))
      · simp only [List.length_append, List.length_cons, List.length_nil]; omega
    · have hc : comb e (e.fKids.map exprT) = [123] ++ join (mapG e.fKids (e.fKids.map exprT)) [44, 32] ++ [125] := by unfold comb; rw [if_neg (by omega), if_neg (by omega), if_neg (by omega), if_neg (by omega), if_neg (by omega), if_neg (by omega), if_neg (by omega), if_neg (by omega), if_neg (by omega), if_neg (by omega), if_pos hk]
      rw [hc]
      refine ⟨?_, ?_, ?_⟩
      · refine ev_succ ?_
        simp only [format_Expr]
        refine ev_ifF (by omega) ?_
        refine ev_ifF (by omega) ?_
        refine ev_ifF (by omega) ?_
        refine ev_ifF (by omega) ?_
        refine ev_ifF (by omega) ?_
        refine ev_ifT hk ?_
        exact ev_to _ (fmapping_ev (by omega) (by omega) HF HW (fun x hx h => by have := HS x hx h; omega)) (ev_some rfl)
      · refine ev_succ ?_
        simp only [ref16_Expr]
        refine ev_ifF (by omega) ?_
        refine ev_ifF (by omega) ?_
        refine ev_ifF (by omega) ?_
        refine ev_ifF (by omega) ?_
        refine ev_ifF (by omega) ?_
        refine ev_ifF (by omega) ?_
        refine ev_ifF (by omega) ?_
        refine ev_ifF (by omega) ?_
        refine ev_ifF (by omega) ?_
        refine ev_ifF (by omega) ?_
        refine ev_ifT hk ?_
        exact ev_to _ (rmapping_ev (by omega) (by omega) HR HW) (ev_some rfl)
      · simp only [List.length_append, List.length_cons, List.length_nil]; omega
    · have nl := hnm (by omega) (by rw [hk]; rfl)
      have kl := hky (by omega)
      have sh : LoopShape e := by unfold LoopShape; omega
      have ll := loopT_len sh HW
      have hc : comb e (e.fKids.map exprT) = [91] ++ loopT e (e.fKids.map exprT) ++ [93] := by unfold comb; rw [if_neg (by omega), if_neg (by omega), if_neg (by omega), if_neg (by omega), if_neg (by omega), if_neg (by omega), if_neg (by omega), if_neg (by omega), if_neg (by omega), if_neg (by omega), if_neg (by omega), if_pos hk]
      rw [hc]
      refine ⟨?_, ?_, ?_⟩
      · refine ev_succ ?_
        simp only [format_Expr]
        refine ev_ifF (by omega) ?_
        refine ev_ifF (by omega) ?_
        refine ev_ifF (by omega) ?_
        refine ev_ifF (by omega) ?_
        refine ev_ifF (by omega) ?_
        refine ev_ifF (by omega) ?_
        refine ev_to false (ev_ifF (by omega) (ev_some rfl)) (ev_ifF (by simp) ?_)
        refine ev_to false (ev_ifF (by omega) (ev_some rfl)) (ev_ifF (by simp) ?_)
        refine ev_to false (ev_ifF (by omega) (ev_some rfl)) (ev_ifF (by simp) ?_)
        refine ev_to false (ev_ifF (by omega) (ev_some rfl)) (ev_ifF (by simp) ?_)
        refine ev_to false (ev_ifF (by omega) (ev_some rfl)) (ev_ifF (by simp) ?_)
        refine ev_to true (ev_ifT hk (ev_some (decide_eq_true (by omega)))) (ev_ifT rfl ?_)
        exact ev_to _ (floop_ev (by omega) (by omega) HF HL sh) (ev_ck (by simp only [List.length_append, List.length_cons, List.length_nil]; omega) (ev_ck (by simp only [List.length_append, List.length_cons, List.length_nil]; omega) (ev_some rfl)))
      · refine ev_succ ?_
        simp only [ref16_Expr]
        refine ev_ifF (by omega) ?_
        refine ev_ifF (by omega) ?_
        refine ev_ifF (by omega) ?_
        refine ev_ifF (by omega) ?_
        refine ev_ifF (by omega) ?_
        refine ev_ifF (by omega) ?_
        refine ev_ifF (by omega) ?_
        refine ev_ifF (by omega) ?_
        refine ev_ifF (by omega) ?_
        refine ev_ifF (by omega) ?_
        refine ev_ifF (by omega) ?_
        refine ev_ifT hk ?_
        exact ev_to _ (rloop_ev (by omega) (by omega) HR HL sh) (ev_ck (by simp only [List.length_append, List.length_cons, List.length_nil]; omega) (ev_ck (by simp only [List.length_append, List.length_cons, List.length_nil]; omega) (ev_some rfl)))
      · simp only [List.length_append, List.length_cons, List.length_nil]; omega
    · have nl := hnm (by omega) (by rw [hk]; rfl)
      have kl := hky (by omega)
      have sh : LoopShape e := by unfold LoopShape; omega
      have ll := loopT_len sh HW
      have hc : comb e (e.fKids.map exprT) = [123] ++ loopT e (e.fKids.map exprT) ++ [125] := by unfold comb; rw [if_neg (by omega), if_neg (by omega), if_neg (by omega), if_neg (by omega), if_neg (by omega), if_neg (by omega), if_neg (by omega), if_neg (by omega), if_neg (by omega), if_neg (by omega), if_neg (by omega), if_neg (by omega)]
      rw [hc]
      refine ⟨?_, ?_, ?_⟩
      · refine ev_succ ?_
        simp only [format_Expr]
        refine ev_ifF (by omega) ?_
        refine ev_ifF (by omega) ?_
        refine ev_ifF (by omega) ?_
        refine ev_ifF (by omega) ?_
        refine ev_ifF (by omega) ?_
        refine ev_ifF (by omega) ?_
        refine ev_to false (ev_ifF (by omega) (ev_some rfl)) (ev_ifF (by simp) ?_)
        refine ev_to false (ev_ifF (by omega) (ev_some rfl)) (ev_ifF (by simp) ?_)
        refine ev_to false (ev_ifF (by omega) (ev_some rfl)) (ev_ifF (by simp) ?_)
        refine ev_to false (ev_ifF (by omega) (ev_some rfl)) (ev_ifF (by simp) ?_)
        refine ev_to false (ev_ifF (by omega) (ev_some rfl)) (ev_ifF (by simp) ?_)
        refine ev_to false (ev_ifF (by omega) (ev_some rfl)) (ev_ifF (by simp) ?_)
        refine ev_to true (ev_ifT hk (ev_some (decide_eq_true (by omega)))) (ev_ifT rfl ?_)
        exact ev_to _ (floop_ev (by omega) (by omega) HF HL sh) (ev_ck (by simp only [List.length_append, List.length_cons, List.length_nil]; omega) (ev_ck (by simp only [List.length_append, List.length_cons, List.length_nil]; omega) (ev_some rfl)))
      · refine ev_succ ?_
        simp only [ref16_Expr]
        refine ev_ifF (by omega) ?_
        refine ev_ifF (by omega) ?_
        refine ev_ifF (by omega) ?_
        refine ev_ifF (by omega) ?_
        refine ev_ifF (by omega) ?_
        refine ev_ifF (by omega) ?_
        refine ev_ifF (by omega) ?_
        refine ev_ifF (by omega) ?_
        refine ev_ifF (by omega) ?_
        refine ev_ifF (by omega) ?_
        refine ev_ifF (by omega) ?_
        refine ev_ifF (by omega) ?_
        exact ev_to _ (rloop_ev (by omega) (by omega) HR HL sh) (ev_ck (by simp only [List.length_append, List.length_cons, List.length_nil]; omega) (ev_ck (by simp only [List.length_append, List.length_cons, List.length_nil]; omega) (ev_some rfl)))
      · simp only [List.length_append, List.length_cons, List.length_nil]; omega
end Go.Ab.R06
