/- Plain facts of chapter 16: valid bodies. No program in sight. -/
import Derived.Test.YtmdefcidhgbikaaGreatDoorP16b
set_option linter.unusedVariables false
set_option linter.unusedSimpArgs false
set_option linter.unnecessarySimpa false
namespace Go.Ab.R06
open Go.Ab Go.Ab.RB Go.Lib
theorem TBody.Bd.ind {P : TBody → Prop} (h : ∀ b, TBody.Bd b → (∀ k ∈ b.fBlocks, P k.fBody) → P b) : ∀ b, TBody.Bd b → P b := fun b hb =>
  TBody.Bd.rec (motive_1 := fun b _ => P b) (motive_2 := fun k _ => P k.fBody) (fun {x} b1 b2 b3 b4 ih => h x (.mk b1 b2 b3 b4) (fun k hk => ih k hk)) (fun {x} b1 b2 b3 b4 b5 ih => ih) hb
theorem btemplate_ev (s : Bytes) (hs : s.length ≤ maxW) : Ev2 (fun n _ => ref15_template n s) (fun _ => True) := by
  unfold maxW at hs
  simp only [ref15_template]
  have loop : ∀ (k i : Nat), i + k = s.length → Ev2 (fun _ m => ref15_template_l1 s m (i : Int)) (fun _ => True) := by
    intro k
    induction k with
    | zero =>
      intro i hi
      refine ev_round ?_
      simp only [ref15_template_l1]
      exact ev_ck (inR_of (by omega) (by omega)) (ev_ifF (by omega) (ev_some trivial))
    | succ k ihk =>
      intro i hi
      refine ev_round ?_
      simp only [ref15_template_l1]
      refine ev_ck (inR_of (by omega) (by omega)) (ev_ite (fun h => ?_) (fun _ => ev_some trivial))
      refine ev_cut (fun _ => True) (ev_ck (by omega) (ev_ite (fun _ => ev_ck (inR_of (by omega) (by omega)) (ev_ck (by omega) (ev_some trivial))) (fun _ => ev_some trivial))) (fun t _ => ?_)
      refine ev_ite (fun _ => ev_some trivial) (fun _ => ev_ck (inR_of (by omega) (by omega)) ?_)
      exact nat_succ (P := fun j => Ev2 (fun n m => ref15_template_l1 s m j) _) (ihk (i + 1) (by omega))
  refine ev_jn (ev_mono (ev_loop (f := fun _ m => ref15_template_l1 s m 0) (loop s.length 0 (by omega))) (fun x _ => ?_))
  cases x with
  | inl y => exact ev_some trivial
  | inr y => trivial
inductive GoodB : TBody → Prop where
  | mk {b : TBody} (attrs : ∀ a ∈ b.fAttrs, identB a.fName = true ∧ GoodE a.fExpr) (blocks : ∀ k ∈ b.fBlocks, identB k.fType = true ∧ (∀ s ∈ k.fLabels, s.length ≤ 4096 ∧ validD s = true)) (inner : ∀ k ∈ b.fBlocks, GoodB k.fBody) : GoodB b
theorem bcheck_ev : ∀ b, TBody.Bd b → ∀ depth : Int, 0 ≤ depth → depth ≤ 1000 → Ev2 (fun n _ => ref15_check n b depth) (fun r => r = 0 → GoodB b) := by
  refine TBody.Bd.ind (fun b hb ih => ?_)
  intro depth hd1 hd2
  have la := hb.bAttrs
  have lb := hb.bBlocks
  unfold maxW at la lb
  refine ev_succ ?_
  simp only [ref15_check]
  have loop2 : ∀ (t : Nat), t < b.fAttrs.length → ∀ (k i : Nat), i + k = t → Ev2 (fun _ m => ref15_check_l2 b (t : Int) m (i : Int)) (fun s => ∀ y, s = .inr y → y = .inr 8) := by
    intro t ht k
    induction k with
    | zero =>
      intro i hi
      refine ev_round ?_
      simp only [ref15_check_l2]
      exact ev_ifF (by omega) (ev_some (by intro y hy; cases hy))
    | succ k ihk =>
      intro i hi
      refine ev_round ?_
      simp only [ref15_check_l2]
      refine ev_ifT (by omega) (ev_ck (by omega) (ev_ite (fun _ => ev_some (by intro y hy; cases hy; rfl)) (fun _ => ev_ck (inR_of (by omega) (by omega)) ?_)))
      exact nat_succ (P := fun j => Ev2 (fun n m => ref15_check_l2 b (t : Int) m j) _) (ihk (i + 1) (by omega))
  have loop3 : ∀ (k i : Nat), i + k = b.fAttrs.length → Ev2 (fun n m => ref15_check_l3 n b m (i : Int)) (fun s => match s with | .inl _ => ∀ a ∈ b.fAttrs.drop i, identB a.fName = true ∧ GoodE a.fExpr | .inr y => y ≠ 0) := by
    intro k
    induction k with
    | zero =>
      intro i hi
      refine ev_round ?_
      simp only [ref15_check_l3]
      refine ev_ifF (by omega) (ev_some (fun a ha => ?_))
      rw [List.drop_eq_nil_of_le (by omega)] at ha; cases ha
    | succ k ihk =>
      intro i hi
      have hm : lat b.fAttrs (i : Int) ∈ b.fAttrs := lat_mem (by omega)
      refine ev_round ?_
      simp only [ref15_check_l3]
      refine ev_ifT (by omega) (ev_ck (by omega) (ev_to _ (ridentA _) (ev_ite (fun _ => ev_some (show (7 : Int) ≠ 0 by decide)) (fun h1 => ?_))))
      have h1 : identB (lat b.fAttrs (i : Int)).fName = true := by simpa using h1
      refine ev_jn (ev_mono (ev_loop (f := fun _ m => ref15_check_l2 b (i : Int) m 0) (loop2 i (by omega) i 0 (by omega))) (fun x hx => ?_))
      cases x with
      | inr y => have := hx y rfl; subst this; exact (by decide : (8 : Int) ≠ 0)
      | inl y =>
        refine ev_cut _ (eCheck_ev (hb.eAttrs _ hm).bExpr) (fun r hr => ev_ite (fun h2 => ev_ck (inR_of (by omega) (by omega)) ?_) (fun h2 => ev_some h2))
        refine ev_mono (nat_succ (P := fun j => Ev2 (fun n m => ref15_check_l3 n b m j) _) (ihk (i + 1) (by omega))) (fun s hs => ?_)
        cases s with
        | inr z => exact hs
        | inl z =>
          intro a ha
          rw [drop_lat _ (by omega)] at ha
          rcases List.mem_cons.1 ha with rfl | ha
          · exact ⟨h1, hr h2⟩
          · exact hs a ha
  have loop5 : ∀ (t : Nat), t < b.fBlocks.length → ∀ (k i : Nat), i + k = (lat b.fBlocks (t : Int)).fLabels.length → Ev2 (fun n m => ref15_check_l5 n b (t : Int) m (i : Int)) (fun s => match s with | .inl _ => ∀ a ∈ (lat b.fBlocks (t : Int)).fLabels.drop i, a.length ≤ 4096 ∧ validD a = true | .inr y => y = .inr 1) := by
    intro t ht k
    have hm : lat b.fBlocks (t : Int) ∈ b.fBlocks := lat_mem (by omega)
    have hbk := hb.eBlocks _ hm
    have hll := hbk.bLabels
    unfold maxW at hll
    induction k with
    | zero =>
      intro i hi
      refine ev_round ?_
      simp only [ref15_check_l5]
      refine ev_ifF (by omega) (ev_some (fun a ha => ?_))
      rw [List.drop_eq_nil_of_le (by omega)] at ha; cases ha
    | succ k ihk =>
      intro i hi
      have hm2 : lat (lat b.fBlocks (t : Int)).fLabels (i : Int) ∈ (lat b.fBlocks (t : Int)).fLabels := lat_mem (by omega)
      refine ev_round ?_
      simp only [ref15_check_l5]
      refine ev_ifT (by omega) ?_
      refine ev_cut (fun u => u = false → (lat (lat b.fBlocks (t : Int)).fLabels (i : Int)).length ≤ 4096 ∧ validD (lat (lat b.fBlocks (t : Int)).fLabels (i : Int)) = true) ?_ (fun u hu => ?_)
      · refine ev_ck (by omega) (ev_to _ (rvalidA _) (ev_ite (fun _ => ev_some (by simp)) (fun h1 => ev_ck (by omega) ?_)))
        exact ev_cut _ (btemplate_ev _ (hbk.eLabels _ hm2)) (fun q _ => ev_some (fun _ => by simpa using h1))
      · refine ev_ite (fun _ => ev_some rfl) (fun h1 => ev_ck (inR_of (by omega) (by omega)) ?_)
        refine ev_mono (nat_succ (P := fun j => Ev2 (fun n m => ref15_check_l5 n b (t : Int) m j) _) (ihk (i + 1) (by omega))) (fun s hs => ?_)
        cases s with
        | inr z => exact hs
        | inl z =>
          intro a ha
          rw [drop_lat _ (by omega)] at ha
          rcases List.mem_cons.1 ha with rfl | ha
          · exact hu (by simpa using h1)
          · exact hs a ha
  have loop6 : ∀ (k i : Nat), i + k = b.fBlocks.length → Ev2 (fun n m => ref15_check_l6 n (ref15_check n) b depth m (i : Int)) (fun s => match s with | .inl _ => ∀ a ∈ b.fBlocks.drop i, (identB a.fType = true ∧ ∀ s ∈ a.fLabels, s.length ≤ 4096 ∧ validD s = true) ∧ GoodB a.fBody | .inr y => y ≠ 0) := by
    intro k
    induction k with
    | zero =>
      intro i hi
      refine ev_round ?_
      simp only [ref15_check_l6]
      refine ev_ifF (by omega) (ev_some (fun a ha => ?_))
      rw [List.drop_eq_nil_of_le (by omega)] at ha; cases ha
    | succ k ihk =>
      intro i hi
      have hm : lat b.fBlocks (i : Int) ∈ b.fBlocks := lat_mem (by omega)
      refine ev_round ?_
      simp only [ref15_check_l6]
      refine ev_ifT (by omega) (ev_ck (by omega) (ev_to _ (ridentA _) (ev_ite (fun _ => ev_some (show (7 : Int) ≠ 0 by decide)) (fun h1 => ?_))))
      have h1 : identB (lat b.fBlocks (i : Int)).fType = true := by simpa using h1
      refine ev_jn (ev_mono (ev_loop (f := fun n m => ref15_check_l5 n b (i : Int) m 0) (loop5 i (by omega) (lat b.fBlocks (i : Int)).fLabels.length 0 (by omega))) (fun x hx => ?_))
      cases x with
      | inr y => have hx : y = .inr 1 := hx; subst hx; exact (by decide : (1 : Int) ≠ 0)
      | inl y =>
        refine ev_ite (fun _ => ev_some (show (4 : Int) ≠ 0 by decide)) (fun _ => ev_ck (inR_of (by omega) (by omega)) ?_)
        refine ev_cut _ (ih _ hm (depth + 1) (by omega) (by omega)) (fun r hr => ev_ite (fun h2 => ev_ck (inR_of (by omega) (by omega)) ?_) (fun h2 => ev_some h2))
        refine ev_mono (nat_succ (P := fun j => Ev2 (fun n m => ref15_check_l6 n (ref15_check n) b depth m j) _) (ihk (i + 1) (by omega))) (fun s hs => ?_)
        cases s with
        | inr z => exact hs
        | inl z =>
          intro a ha
          rw [drop_lat _ (by omega)] at ha
          rcases List.mem_cons.1 ha with rfl | ha
          · exact ⟨⟨h1, by simpa using hx⟩, hr h2⟩
          · exact hs a ha
  refine ev_jn (ev_mono (ev_loop (f := fun n m => ref15_check_l3 n b m 0) (loop3 b.fAttrs.length 0 (by omega))) (fun x hx => ?_))
  cases x with
  | inr y => exact fun h => absurd h hx
  | inl y =>
    refine ev_jn (ev_mono (ev_loop (f := fun n m => ref15_check_l6 n (ref15_check n) b depth m 0) (loop6 b.fBlocks.length 0 (by omega))) (fun z hz => ?_))
    cases z with
    | inr y => exact fun h => absurd h hz
    | inl y => exact ev_some (fun _ => .mk (by simpa using hx) (fun k hk => (hz k (by simpa using hk)).1) (fun k hk => (hz k (by simpa using hk)).2))
theorem bCheck_ev {b : TBody} (hb : TBody.Bd b) : Ev2 (fun n _ => ref15_Check n b) (fun r => r = 0 → GoodB b) := by
  simp only [ref15_Check]
  exact ev_cut _ (bcheck_ev b hb 0 (by decide) (by decide)) (fun r hr => ev_some hr)
theorem one_ev (l : List TExpr) (hl : l.length ≤ 1000) (hb : ∀ e ∈ l, TExpr.Bd e) : Ev2 (fun n _ => law16_one n l) (fun r => r = true → ∀ e ∈ l, GoodE e ∧ nodesE e ≤ 300) := by
  simp only [law16_one]
  have loop : ∀ (k i : Nat), i + k = l.length → Ev2 (fun n m => law16_one_l1 n l m (i : Int)) (fun s => match s with | .inl _ => ∀ e ∈ l.drop i, GoodE e ∧ nodesE e ≤ 300 | .inr y => y = false) := by
    intro k
    induction k with
    | zero =>
      intro i hi
      refine ev_round ?_
      simp only [law16_one_l1]
      refine ev_ifF (by omega) (ev_some (fun a ha => ?_))
      rw [List.drop_eq_nil_of_le (by omega)] at ha; cases ha
    | succ k ihk =>
      intro i hi
      have hx := hb _ (lat_mem (l := l) (i := (i : Int)) (by omega))
      refine ev_round ?_
      simp only [law16_one_l1]
      refine ev_ifT (by omega) ?_
      refine ev_cut (fun u => u = false → GoodE (lat l (i : Int)) ∧ nodesE (lat l (i : Int)) ≤ 300) ?_ (fun u hu => ?_)
      · refine ev_ck (by omega) (ev_cut _ (esmall_ev hx 300 (by decide) (by decide)) (fun r hr => ev_ite (fun _ => ev_some (by simp)) (fun h1 => ev_ck (by omega) ?_)))
        refine ev_cut _ (eCheck_ev hx) (fun q hq => ev_some (fun h2 => ⟨hq (by simpa using h2), ?_⟩))
        have := hr (by simpa using h1)
        omega
      · refine ev_ite (fun _ => ev_some rfl) (fun h1 => ev_ck (inR_of (by omega) (by omega)) ?_)
        refine ev_mono (nat_succ (P := fun j => Ev2 (fun n m => law16_one_l1 n l m j) _) (ihk (i + 1) (by omega))) (fun s hs => ?_)
        cases s with
        | inr z => exact hs
        | inl z =>
          intro a ha
          rw [drop_lat _ (by omega)] at ha
          rcases List.mem_cons.1 ha with rfl | ha
          · exact hu (by simpa using h1)
          · exact hs a ha
  refine ev_jn (ev_mono (ev_loop (f := fun n m => law16_one_l1 n l m 0) (loop l.length 0 (by omega))) (fun x hx => ?_))
  cases x with
  | inr y => have hx : y = false := hx; subst hx; exact fun h => absurd h (by decide)
  | inl y => exact ev_some (fun _ => by simpa using hx)
end Go.Ab.R06
