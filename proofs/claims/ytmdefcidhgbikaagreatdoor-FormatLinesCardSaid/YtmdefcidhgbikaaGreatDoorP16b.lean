/- Plain facts of chapter 16: valid expressions. No program in sight. -/
import Derived.Test.YtmdefcidhgbikaaGreatDoorP16a
set_option linter.unusedVariables false
set_option linter.unusedSimpArgs false
set_option linter.unnecessarySimpa false
namespace Go.Ab.R06
open Go.Ab Go.Ab.RB Go.Lib
theorem nat_succ {P : Int → Prop} {i : Nat} (h : P ((i + 1 : Nat) : Int)) : P ((i : Int) + 1) := by rwa [Int.natCast_add, Int.natCast_one] at h
theorem drop_lat {α : Type} [Inhabited α] (l : List α) {i : Nat} (h : i < l.length) : l.drop i = lat l (i : Int) :: l.drop (i + 1) := by
  rw [lat_get l i h]; exact List.drop_eq_getElem_cons h
def GoodV (v : TValue) : Prop := ref07_shaped v = some true ∧ (v.fKind = 2 → ref01_Valid v.fNum = some true) ∧ v.fStr.length ≤ 4096 ∧ validD v.fStr = true
theorem text_ev (s : Bytes) : Ev2 (fun n _ => ref07_text n s) (fun r => r = 0 → s.length ≤ 4096 ∧ validD s = true) := by
  simp only [ref07_text]
  refine ev_ite (fun _ => ev_some (by simp)) (fun h => ?_)
  refine ev_cut _ (rvalidA s) (fun r hr => ?_)
  subst hr
  refine ev_ite (fun _ => ev_some (by simp)) (fun h1 => ev_some (fun _ => ?_))
  simp at h1
  exact h1
theorem vnode_ev {v : TValue} (hb : TValue.Bd v) : Ev2 (fun n _ => ref07_node n v) (fun r => r = 0 → GoodV v) := by
  have hl := hb.bKeys
  unfold maxW at hl
  simp only [ref07_node]
  refine ev_cut _ (ev_tot (t_vshaped v)) (fun r1 h1 => ?_)
  refine ev_ite (fun _ => ev_some (by simp)) (fun h2 => ?_)
  have h2 : r1 = true := by simpa using h2
  subst h2
  refine ev_cut (fun t => t = false → v.fKind = 2 → ref01_Valid v.fNum = some true) ?_ (fun t ht => ?_)
  · refine ev_ite (fun _ => ev_cut _ (ev_tot (t_nvalid _)) (fun r h => ev_some (fun hr _ => ?_))) (fun h => ev_some (fun _ k => absurd k h))
    have : r = true := by simpa using hr
    rw [h, this]
  · refine ev_ite (fun _ => ev_some (by simp)) (fun h3 => ?_)
    have h3 : t = false := by simpa using h3
    refine ev_cut _ (text_ev v.fStr) (fun r hr => ?_)
    refine ev_ite (fun h4 => ?_) (fun h4 => ev_some (fun h => absurd h h4))
    have h5 := hr h4
    have loop : ∀ (k i : Nat), i + k = v.fKeys.length → Ev2 (fun n m => ref07_node_l1 n v m (i : Int)) (fun s => ∀ y, s = .inr y → y ≠ 0) := by
      intro k
      induction k with
      | zero =>
        intro i hi
        refine ev_round ?_
        simp only [ref07_node_l1]
        exact ev_ifF (by omega) (ev_some (by intro y hy; cases hy))
      | succ k ih =>
        intro i hi
        refine ev_round ?_
        simp only [ref07_node_l1]
        refine ev_ifT (by omega) (ev_ck (by omega) ?_)
        refine ev_cut _ (text_ev _) (fun r _ => ?_)
        refine ev_ite (fun _ => ?_) (fun h => ev_some (by intro y hy; cases hy; exact h))
        refine ev_cut (fun _ => True) ?_ (fun t _ => ?_)
        · exact ev_ite (fun _ => ev_ck (inR_of (by omega) (by omega)) (ev_ck (by omega) (ev_ck (by omega) (ev_some trivial)))) (fun _ => ev_some trivial)
        · refine ev_ite (fun _ => ev_some (by intro y hy; cases hy; decide)) (fun _ => ev_ck (inR_of (by omega) (by omega)) ?_)
          exact nat_succ (P := fun j => Ev2 (fun n m => ref07_node_l1 n v m j) _) (ih (i + 1) (by omega))
    refine ev_jn (ev_mono (ev_loop (f := fun n m => ref07_node_l1 n v m 0) (loop v.fKeys.length 0 (by omega))) (fun s hs => ?_))
    cases s with
    | inl x => exact ev_some (fun _ => ⟨h1, ht h3, h5⟩)
    | inr y => exact fun h => absurd h (hs y rfl)
theorem vcheck_ev {v : TValue} (hb : TValue.Bd v) : ∀ (level before : Int), 0 ≤ level → level ≤ 33 → 0 ≤ before → before ≤ 4096 →
    Ev2 (fun n _ => ref07_check n v level before) (fun r => 0 ≤ r.2 ∧ r.2 ≤ 4096 ∧ (r.1 = 0 → GoodV v)) := by
  induction hb with
  | @mk x bKind bNum bStr bItems eItems bKeys eKeys ih =>
    intro level before h1 h2 h3 h4
    have hb : TValue.Bd x := .mk bKind bNum bStr bItems eItems bKeys eKeys
    have hl := bItems
    unfold maxW at hl
    refine ev_succ ?_
    simp only [ref07_check]
    refine ev_ite (fun _ => ev_some ⟨h3, h4, by simp⟩) (fun h => ?_)
    refine ev_ite (fun _ => ev_some ⟨h3, h4, by simp⟩) (fun h5 => ?_)
    refine ev_cut _ (vnode_ev hb) (fun r hr => ?_)
    refine ev_ite (fun h0 => ?_) (fun h0 => ev_some ⟨h3, h4, fun k => absurd k h0⟩)
    refine ev_ck (inR_of (by omega) (by omega)) ?_
    have loop : ∀ (k i : Nat) (b : Int), i + k = x.fItems.length → 0 ≤ b → b ≤ 4096 → Ev2 (fun n m => ref07_check_l1 (ref07_check n) x level m b (i : Int)) (fun s => match s with | .inl y => 0 ≤ y ∧ y ≤ 4096 | .inr y => 0 ≤ y.2 ∧ y.2 ≤ 4096 ∧ y.1 ≠ 0) := by
      intro k
      induction k with
      | zero =>
        intro i b hi h6 h7
        refine ev_round ?_
        simp only [ref07_check_l1]
        exact ev_ifF (by omega) (ev_some ⟨h6, h7⟩)
      | succ k ihk =>
        intro i b hi h6 h7
        refine ev_round ?_
        simp only [ref07_check_l1]
        refine ev_ifT (by omega) (ev_ck (by omega) (ev_ck (inR_of (by omega) (by omega)) ?_))
        refine ev_cut _ (ih _ (lat_mem (by omega)) (level + 1) b (by omega) (by omega) h6 h7) (fun r hr => ?_)
        refine ev_ite (fun _ => ev_ck (inR_of (by omega) (by omega)) ?_) (fun h8 => ev_some ⟨hr.1, hr.2.1, h8⟩)
        exact nat_succ (P := fun j => Ev2 (fun n m => ref07_check_l1 (ref07_check n) x level m r.2 j) _) (ihk (i + 1) r.2 (by omega) hr.1 hr.2.1)
    refine ev_jn (ev_mono (ev_loop (f := fun n m => ref07_check_l1 (ref07_check n) x level m (before + 1) 0) (loop x.fItems.length 0 (before + 1) (by omega) (by omega) (by omega))) (fun s hs => ?_))
    cases s with
    | inl y => exact ev_some ⟨hs.1, hs.2, fun _ => hr h0⟩
    | inr y => exact ⟨hs.1, hs.2.1, fun k => absurd k hs.2.2⟩
theorem vCheck_ev {v : TValue} (hb : TValue.Bd v) : Ev2 (fun n _ => ref07_Check n v) (fun r => r = 0 → GoodV v) := by
  simp only [ref07_Check]
  exact ev_cut _ (vcheck_ev hb 1 0 (by decide) (by decide) (by decide) (by decide)) (fun r hr => ev_some hr.2.2)
def nameOk (s : Bytes) : Prop := identB s = true ∧ resB s = false
def NodeOk (e : TExpr) : Prop := ref14_shaped e = some true ∧ (e.fKind = 1 → GoodV e.fValue) ∧
  (e.fKind ≠ 1 → (ref14_named e.fKind = some true → identB e.fName = true ∧ (e.fKind ≠ 4 → resB e.fName = false)) ∧ (e.fKey ≠ [] → nameOk e.fKey))
inductive GoodE : TExpr → Prop where
  | mk {e : TExpr} (h : NodeOk e) (kids : ∀ x ∈ e.fKids, GoodE x) : GoodE e
theorem rname_ev (s : Bytes) : Ev2 (fun n _ => ref14_Name n s) (fun r => r = true → nameOk s) := by
  simp only [ref14_Name]
  refine ev_cut (fun r => r = true → nameOk s) ?_ (fun r hr => ev_some hr)
  refine ev_cut _ (ridentA s) (fun r hr => ?_)
  refine ev_ite (fun h => ?_) (fun _ => ev_some (by simp))
  refine ev_cut _ (ev_const (rres s) rfl) (fun q hq => ev_some (fun h1 => ⟨by rw [← hr]; exact h, ?_⟩))
  subst hq
  simpa using h1
theorem enode_ev {e : TExpr} (hb : TExpr.Bd e) : Ev2 (fun n _ => ref14_node n e) (fun r => r = 0 → NodeOk e) := by
  simp only [ref14_node]
  refine ev_cut _ (ev_tot (t_shaped e)) (fun r1 h1 => ?_)
  refine ev_ite (fun _ => ev_some (by simp)) (fun h2 => ?_)
  have h2 : r1 = true := by simpa using h2
  subst h2
  refine ev_ite (fun h3 => ev_cut _ (vCheck_ev hb.bValue) (fun r hr => ev_some (fun h => ⟨h1, fun _ => hr h, fun k => absurd h3 k⟩))) (fun h3 => ?_)
  refine ev_cut (fun t => t = false → ref14_named e.fKind = some true → identB e.fName = true ∧ (e.fKind ≠ 4 → resB e.fName = false)) ?_ (fun t ht => ?_)
  · refine ev_cut _ (ev_tot (t_named _)) (fun q hq => ?_)
    refine ev_ite (fun h4 => ?_) (fun h4 => ev_some (fun _ k => absurd (Option.some.inj (hq.symm.trans k)) h4))
    refine ev_cut _ (ridentA _) (fun q2 hq2 => ?_)
    subst hq2
    refine ev_ite (fun _ => ev_some (by simp)) (fun h5 => ?_)
    have h5 : identB e.fName = true := by simpa using h5
    refine ev_ite (fun h6 => ev_some (fun _ _ => ⟨h5, fun k => absurd h6 k⟩)) (fun _ => ?_)
    exact ev_cut _ (ev_const (rres _) rfl) (fun q3 hq3 => ev_some (fun k _ => ⟨h5, fun _ => hq3 ▸ k⟩))
  · refine ev_ite (fun _ => ev_some (by simp)) (fun h4 => ?_)
    have h4 : t = false := by simpa using h4
    refine ev_cut (fun t => t = false → e.fKey ≠ [] → nameOk e.fKey) ?_ (fun u hu => ?_)
    · refine ev_ite (fun h => ev_some (fun _ k => absurd h k)) (fun _ => ?_)
      exact ev_cut _ (rname_ev _) (fun q hq => ev_some (fun k _ => hq (by simpa using k)))
    · refine ev_ite (fun _ => ev_some (by simp)) (fun h5 => ev_some (fun _ => ⟨h1, fun k => absurd k h3, fun _ => ⟨ht h4, hu (by simpa using h5)⟩⟩))
theorem echeck_ev {e : TExpr} (hb : TExpr.Bd e) : ∀ (level before : Int), 0 ≤ level → level ≤ 33 → 0 ≤ before → before ≤ 4096 →
    Ev2 (fun n _ => ref14_check n e level before) (fun r => 0 ≤ r.2 ∧ r.2 ≤ 4096 ∧ (r.1 = 0 → GoodE e)) := by
  induction hb with
  | @mk x bKind bOp bName bKey bValue bKids eKids bAt ih =>
    intro level before h1 h2 h3 h4
    have hb : TExpr.Bd x := .mk bKind bOp bName bKey bValue bKids eKids bAt
    have hl := bKids
    unfold maxW at hl
    refine ev_succ ?_
    simp only [ref14_check]
    refine ev_ite (fun _ => ev_some ⟨by decide, by decide, by simp⟩) (fun h => ?_)
    refine ev_ite (fun _ => ev_some ⟨by decide, by decide, by simp⟩) (fun h5 => ?_)
    refine ev_cut _ (enode_ev hb) (fun r hr => ?_)
    refine ev_ck (inR_of (by omega) (by omega)) ?_
    have loop : ∀ (k i : Nat) (c b : Int), i + k = x.fKids.length → 0 ≤ b → b ≤ 4096 → Ev2 (fun n m => ref14_check_l1 (ref14_check n) x level m c b (i : Int)) (fun s => 0 ≤ s.2 ∧ s.2 ≤ 4096 ∧ (s.1 = 0 → c = 0 ∧ ∀ y ∈ x.fKids.drop i, GoodE y)) := by
      intro k
      induction k with
      | zero =>
        intro i c b hi h6 h7
        refine ev_round ?_
        simp only [ref14_check_l1]
        refine ev_to false (ev_ifF (by omega) (ev_some rfl)) (ev_ifF (by simp) (ev_some ⟨h6, h7, fun h => ⟨h, fun y hy => ?_⟩⟩))
        rw [List.drop_eq_nil_of_le (by omega)] at hy; cases hy
      | succ k ihk =>
        intro i c b hi h6 h7
        refine ev_round ?_
        simp only [ref14_check_l1]
        refine ev_to (decide (c = 0)) (ev_ifT (by omega) (ev_some rfl)) (ev_ite (fun h8 => ?_) (fun h8 => ev_some ⟨h6, h7, fun h => absurd (by simpa using h) h8⟩))
        have h8 : c = 0 := by simpa using h8
        refine ev_ck (by omega) (ev_ck (inR_of (by omega) (by omega)) ?_)
        refine ev_cut _ (ih _ (lat_mem (by omega)) (level + 1) b (by omega) (by omega) h6 h7) (fun q hq => ?_)
        refine ev_ck (inR_of (by omega) (by omega)) ?_
        refine ev_mono (nat_succ (P := fun j => Ev2 (fun n m => ref14_check_l1 (ref14_check n) x level m q.1 q.2 j) _) (ihk (i + 1) q.1 q.2 (by omega) hq.1 hq.2.1)) (fun s hs => ⟨hs.1, hs.2.1, fun h => ⟨h8, fun y hy => ?_⟩⟩)
        obtain ⟨k1, k2⟩ := hs.2.2 h
        rw [drop_lat _ (by omega)] at hy
        rcases List.mem_cons.1 hy with rfl | hy
        · exact hq.2.2 k1
        · exact k2 y hy
    refine ev_cut _ (ev_loop (f := fun n m => ref14_check_l1 (ref14_check n) x level m r (before + 1) 0) (loop x.fKids.length 0 r (before + 1) (by omega) (by omega) (by omega))) (fun s hs => ev_some ⟨hs.1, hs.2.1, fun h => ?_⟩)
    obtain ⟨k1, k2⟩ := hs.2.2 h
    exact .mk (hr k1) (by simpa using k2)
theorem eCheck_ev {e : TExpr} (hb : TExpr.Bd e) : Ev2 (fun n _ => ref14_Check n e) (fun r => r = 0 → GoodE e) := by
  simp only [ref14_Check]
  exact ev_cut _ (echeck_ev hb 1 0 (by decide) (by decide) (by decide) (by decide)) (fun r hr => ev_some hr.2.2)
mutual
def nodesE : TExpr → Nat
  | .mk _ _ _ _ _ kids _ => 1 + nodesL kids
def nodesL : List TExpr → Nat
  | [] => 0
  | x :: r => nodesE x + nodesL r
end
theorem nodesE_eq (e : TExpr) : nodesE e = 1 + nodesL e.fKids := by cases e; simp only [nodesE, TExpr.fKids]
theorem eleft_ev {e : TExpr} (hb : TExpr.Bd e) : ∀ (nodes levels : Int), 0 ≤ nodes → nodes ≤ 1000000 → -1000000 ≤ levels → levels ≤ 1000000 →
    Ev2 (fun n _ => ref14_left n e nodes levels) (fun r => -1 ≤ r ∧ r ≤ nodes ∧ (0 ≤ r → r = nodes - (nodesE e : Int))) := by
  induction hb with
  | @mk x bKind bOp bName bKey bValue bKids eKids bAt ih =>
    intro nodes levels h1 h2 h3 h4
    have hl := bKids
    unfold maxW at hl
    refine ev_succ ?_
    simp only [ref14_left]
    refine ev_ite (fun _ => ev_some ⟨by omega, by omega, by omega⟩) (fun h => ?_)
    refine ev_ck (inR_of (by omega) (by omega)) ?_
    have loop : ∀ (k i : Nat) (c : Int), i + k = x.fKids.length → -1 ≤ c → c ≤ 1000000 → Ev2 (fun n m => ref14_left_l1 (ref14_left n) x levels m c (i : Int)) (fun s => -1 ≤ s ∧ s ≤ c ∧ (0 ≤ s → s = c - (nodesL (x.fKids.drop i) : Int))) := by
      intro k
      induction k with
      | zero =>
        intro i c hi h6 h7
        refine ev_round ?_
        simp only [ref14_left_l1]
        refine ev_to false (ev_ifF (by omega) (ev_some rfl)) (ev_ifF (by simp) (ev_some ⟨h6, by omega, fun _ => ?_⟩))
        rw [List.drop_eq_nil_of_le (by omega)]; simp [nodesL]
      | succ k ihk =>
        intro i c hi h6 h7
        refine ev_round ?_
        simp only [ref14_left_l1]
        refine ev_to (decide (0 ≤ c)) (ev_ifT (by omega) (ev_some rfl)) (ev_ite (fun h8 => ?_) (fun h8 => ev_some ⟨h6, by omega, fun h => absurd (by simpa using h) h8⟩))
        have h8 : 0 ≤ c := by simpa using h8
        refine ev_ck (by omega) (ev_ck (inR_of (by omega) (by omega)) ?_)
        refine ev_cut _ (ih _ (lat_mem (by omega)) c (levels - 1) h8 h7 (by omega) (by omega)) (fun q hq => ?_)
        refine ev_ck (inR_of (by omega) (by omega)) ?_
        refine ev_mono (nat_succ (P := fun j => Ev2 (fun n m => ref14_left_l1 (ref14_left n) x levels m q j) _) (ihk (i + 1) q (by omega) hq.1 (by omega))) (fun s hs => ⟨hs.1, by omega, fun h => ?_⟩)
        rw [drop_lat _ (by omega)]
        have a1 := hs.2.2 h
        have a2 := hq.2.2 (by omega)
        simp only [nodesL]
        omega
    refine ev_cut _ (ev_loop (f := fun n m => ref14_left_l1 (ref14_left n) x levels m (nodes - 1) 0) (loop x.fKids.length 0 (nodes - 1) (by omega) (by omega) (by omega))) (fun s hs => ev_some ⟨hs.1, by omega, fun h => ?_⟩)
    have := hs.2.2 h
    rw [nodesE_eq]
    simp only [List.drop_zero] at this
    omega
theorem esmall_ev {e : TExpr} (hb : TExpr.Bd e) (nodes : Int) (h1 : 0 ≤ nodes) (h2 : nodes ≤ 1000000) : Ev2 (fun n _ => ref14_Small n e nodes) (fun r => r = true → (nodesE e : Int) ≤ nodes) := by
  simp only [ref14_Small]
  refine ev_cut _ (eleft_ev hb nodes 40 h1 h2 (by decide) (by decide)) (fun r hr => ev_some (fun h => ?_))
  have h : 0 ≤ r := by simpa using h
  have := hr.2.2 h
  omega
theorem enodes_ev {e : TExpr} (hb : TExpr.Bd e) : nodesE e ≤ 1000000 → Ev2 (fun n _ => ref14_Nodes n e) (· = (nodesE e : Int)) := by
  induction hb with
  | @mk x bKind bOp bName bKey bValue bKids eKids bAt ih =>
    intro h0
    have hl := bKids
    unfold maxW at hl
    rw [nodesE_eq] at h0
    refine ev_succ ?_
    simp only [ref14_Nodes]
    have loop : ∀ (k i : Nat) (c : Int), i + k = x.fKids.length → 0 ≤ c → c + (nodesL (x.fKids.drop i) : Int) ≤ 2000000 → nodesL (x.fKids.drop i) ≤ 1000000 → Ev2 (fun n m => ref14_Nodes_l1 (ref14_Nodes n) x m c (i : Int)) (· = c + (nodesL (x.fKids.drop i) : Int)) := by
      intro k
      induction k with
      | zero =>
        intro i c hi h6 h7 h8
        refine ev_round ?_
        simp only [ref14_Nodes_l1]
        refine ev_ifF (by omega) (ev_some ?_)
        rw [List.drop_eq_nil_of_le (by omega)]; simp [nodesL]
      | succ k ihk =>
        intro i c hi h6 h7 h8
        refine ev_round ?_
        simp only [ref14_Nodes_l1]
        rw [drop_lat _ (by omega)] at h7 h8 ⊢
        simp only [nodesL] at h7 h8 ⊢
        refine ev_ifT (by omega) (ev_ck (by omega) ?_)
        refine ev_to _ (ih _ (lat_mem (by omega)) (by omega)) ?_
        refine ev_ck (inR_of (by omega) (by omega)) (ev_ck (inR_of (by omega) (by omega)) ?_)
        refine ev_mono (nat_succ (P := fun j => Ev2 (fun n m => ref14_Nodes_l1 (ref14_Nodes n) x m (c + (nodesE (lat x.fKids (i : Int)) : Int)) j) _) (ihk (i + 1) _ (by omega) (by omega) (by omega) (by omega))) (fun s hs => ?_)
        rw [hs]; omega
    refine ev_to _ (ev_loop (f := fun n m => ref14_Nodes_l1 (ref14_Nodes n) x m 1 0) (loop x.fKids.length 0 1 (by omega) (by omega) (by simp only [List.drop_zero]; omega) (by simp only [List.drop_zero]; omega))) (ev_some ?_)
    rw [nodesE_eq]; simp
end Go.Ab.R06
