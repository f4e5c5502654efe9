/- Plain facts of chapter 17: bodies that are small and valid. -/
import Derived.Test.YtmpmphkpplgbkaaP17h
import Derived.Test.YtmpmphkpplgbkaaR17
set_option linter.unusedVariables false
set_option linter.unusedSimpArgs false
set_option linter.unnecessarySimpa false
namespace Go.Ab.R17
open Go.Ab

theorem body_lt {b : TBody} {k : TBlock} (h : k ∈ b.fBlocks) : SizeOf.sizeOf k.fBody < SizeOf.sizeOf b := by
  cases b with
  | mk a l =>
    have h1 := List.sizeOf_lt_of_mem h
    cases k with
    | mk x y z w =>
      simp only [TBody.fBlocks, TBlock.fBody] at h1 ⊢
      simp at h1 ⊢; omega
theorem body_ind {P : TBody → Prop} (h : ∀ b, (∀ k ∈ b.fBlocks, P k.fBody) → P b) (b : TBody) : P b :=
  h b fun k hk => body_ind h k.fBody
termination_by SizeOf.sizeOf b
decreasing_by exact body_lt hk

mutual
def bsize : TBody → Nat
  | .mk attrs blocks => (attrs.map fun a => 1 + nodes a.fExpr).sum + ksizes blocks
def ksize : TBlock → Nat
  | .mk _ labels body _ => 1 + labels.length + bsize body
def ksizes : List TBlock → Nat
  | [] => 0
  | k :: r => ksize k + ksizes r
end
mutual
def wB : TBody → Nat
  | .mk _ blocks => 1 + wKs blocks
def wK : TBlock → Nat
  | .mk _ _ body _ => 3 + wB body
def wKs : List TBlock → Nat
  | [] => 0
  | k :: r => wK k + wKs r
end
def asize (l : List TAttribute) : Nat := (l.map fun a => 1 + nodes a.fExpr).sum
theorem bsize_eq (b : TBody) : bsize b = asize b.fAttrs + ksizes b.fBlocks := by cases b; rw [bsize]; rfl
theorem ksize_eq (k : TBlock) : ksize k = 1 + k.fLabels.length + bsize k.fBody := by cases k; rw [ksize]; rfl
theorem wB_eq (b : TBody) : wB b = 1 + wKs b.fBlocks := by cases b; rw [wB]; rfl
theorem wK_eq (k : TBlock) : wK k = 3 + wB k.fBody := by cases k; rw [wK]; rfl
theorem ksizes_mem {l : List TBlock} {k : TBlock} (h : k ∈ l) : ksize k ≤ ksizes l := by
  induction l with
  | nil => cases h
  | cons x r ih =>
    simp only [ksizes]
    rcases List.mem_cons.1 h with rfl | h
    · omega
    · have := ih h; omega
theorem wKs_mem {l : List TBlock} {k : TBlock} (h : k ∈ l) : wK k ≤ wKs l := by
  induction l with
  | nil => cases h
  | cons x r ih =>
    simp only [wKs]
    rcases List.mem_cons.1 h with rfl | h
    · omega
    · have := ih h; omega
theorem asize_mem {l : List TAttribute} {a : TAttribute} (h : a ∈ l) : 1 + nodes a.fExpr ≤ asize l := by
  unfold asize
  induction l with
  | nil => cases h
  | cons x r ih =>
    simp only [List.map_cons, List.sum_cons]
    rcases List.mem_cons.1 h with rfl | h
    · omega
    · have := ih h; omega
theorem asize_append (a b : List TAttribute) : asize (a ++ b) = asize a + asize b := by simp [asize]
theorem ksizes_append (a b : List TBlock) : ksizes (a ++ b) = ksizes a + ksizes b := by
  induction a with
  | nil => simp [ksizes]
  | cons x r ih => simp [ksizes, ih]; omega
theorem asize_take (l : List TAttribute) (k : Nat) (h : k < l.length) : asize (l.take (k + 1)) = asize (l.take k) + (1 + nodes l[k].fExpr) := by
  rw [List.take_add_one, List.getElem?_eq_getElem h, asize_append]; simp [asize]
theorem ksizes_take (l : List TBlock) (k : Nat) (h : k < l.length) : ksizes (l.take (k + 1)) = ksizes (l.take k) + ksize l[k] := by
  rw [List.take_add_one, List.getElem?_eq_getElem h, ksizes_append]; simp [ksizes]
theorem asize_len (l : List TAttribute) : l.length ≤ asize l := by
  induction l with
  | nil => simp
  | cons x r ih => simp only [asize, List.map_cons, List.sum_cons, List.length_cons] at ih ⊢; omega
theorem ksizes_len (l : List TBlock) : l.length ≤ ksizes l := by
  induction l with
  | nil => simp
  | cons x r ih => have := ksize_eq x; simp [ksizes]; omega
theorem asize_sub (l : List TAttribute) (k : Nat) : asize (l.take k) ≤ asize l := by
  have := asize_append (l.take k) (l.drop k)
  rw [List.take_append_drop] at this; omega
theorem ksizes_sub (l : List TBlock) (k : Nat) : ksizes (l.take k) ≤ ksizes l := by
  have := ksizes_append (l.take k) (l.drop k)
  rw [List.take_append_drop] at this; omega

theorem nodes_ev (e : TExpr) : BE e → nodes e ≤ 1000000000 → Ev2 (fun n _ => ref14_Nodes n e) (· = (nodes e : Int)) := by
  induction e using expr_ind with
  | h e ih =>
  intro he hn
  obtain ⟨_, _, _, hl, hk⟩ := he
  have hne := nodes_eq e
  refine ev_succ ?_
  simp only [ref14_Nodes]
  have loop : ∀ (k i : Nat), i + k = e.fKids.length → Ev2 (fun n m => ref14_Nodes_l1 (ref14_Nodes n) e m ((1 + nodesL (e.fKids.take i) : Nat) : Int) (i : Int)) (· = (nodes e : Int)) := by
    intro k
    induction k with
    | zero =>
      intro i hi
      refine ev_round ?_
      simp only [ref14_Nodes_l1]
      refine ev_ifF (by omega) (ev_some ?_)
      rw [hne, List.take_of_length_le (by omega)]
    | succ k ihk =>
      intro i hi
      refine ev_round ?_
      simp only [ref14_Nodes_l1]
      have hb : (0 : Int) ≤ i ∧ (i : Int) < (e.fKids.length : Int) := ⟨by omega, by omega⟩
      refine ev_ifT (by omega) (ev_ck hb ?_)
      rw [lat_get _ _ (by omega)]
      have hm : e.fKids[i]'(by omega) ∈ e.fKids := List.getElem_mem _
      have h1 := nodesL_take e.fKids i (by omega)
      have h2 := nodesL_take_le e.fKids (i + 1)
      refine ev_cut _ (ih _ hm (hk _ hm) (by have := nodesL_mem hm; omega)) (fun r hr => ?_)
      subst hr
      refine ev_ck (inR_of (by omega) (by omega)) (ev_ck (inR_succ hb hl) ?_)
      have := ihk (i + 1) (by omega)
      rw [h1] at this
      rw [show ((1 + nodesL (e.fKids.take i) : Nat) : Int) + (nodes (e.fKids[i]'(by omega)) : Int) = ((1 + (nodesL (e.fKids.take i) + nodes (e.fKids[i]'(by omega))) : Nat) : Int) by omega]
      exact this
  refine ev_cut _ (ev_loop (f := fun n m => ref14_Nodes_l1 (ref14_Nodes n) e m 1 0) (loop e.fKids.length 0 (by omega))) (fun x hx => ev_some hx)

theorem small_tot' (e : TExpr) (he : BE e) (n : Int) (h0 : 0 ≤ n) (hn : n ≤ 1000000000) : Ev2 (fun f _ => ref14_Small f e n) (fun r => r = true → (nodes e : Int) ≤ n) := by
  simp only [ref14_Small]
  refine ev_cut _ (left_spec e he n 40 h0 hn (by omega)) (fun x hx => ev_some fun h => ?_)
  obtain ⟨h1, h2, h3⟩ := hx
  have := h3 (of_decide_eq_true h)
  have := of_decide_eq_true h
  omega

/-- What is left of a number of nodes after a body. -/
theorem bleft_spec (b : TBody) : b.Bd → ∀ (n lev : Int), -1000000000000000 ≤ n → n ≤ 1000000 → -1000 ≤ lev → lev ≤ 1000 → Ev2 (fun f _ => ref16_left f b n lev) (fun r => -1 ≤ r ∧ r ≤ 1000000 ∧ (0 ≤ r → r = n - bsize b)) := by
  induction b using body_ind with
  | h b ih =>
  intro hb n lev hn hn2 hl1 hl2
  have hA := hb.bAttrs
  have hB := hb.bBlocks
  rw [maxW_eq] at hA hB
  refine ev_succ ?_
  simp only [ref16_left]
  refine ev_cut (fun t => t = false → 1 ≤ lev ∧ (b.fAttrs.length : Int) + (b.fBlocks.length : Int) ≤ n) (ev_ite (fun _ => ev_some fun h => by cases h) (fun h => ev_ck (inR_of (by omega) (by omega)) (ev_some fun q => ?_))) (fun t ht => ?_)
  · have := of_decide_eq_false q; exact ⟨by omega, by omega⟩
  refine ev_ite (fun _ => ev_some ⟨by omega, by omega, by omega⟩) (fun h => ?_)
  obtain ⟨h1, h2⟩ := ht (by simpa using h)
  refine ev_ck (inR_of (by omega) (by omega)) (ev_ck (inR_of (by omega) (by omega)) ?_)
  have loop1 : ∀ (k i : Nat) (a : Int), i + k = b.fAttrs.length → -1 ≤ a → a ≤ 1000000 → (0 ≤ a → a = n - b.fAttrs.length - b.fBlocks.length + i - asize (b.fAttrs.take i)) →
      Ev2 (fun f m => ref16_left_l1 f b m a (i : Int)) (fun r => match r with | .inl x => -1 ≤ x ∧ x ≤ 1000000 ∧ (0 ≤ x → x = n - b.fBlocks.length - asize b.fAttrs) | .inr y => y = -1) := by
    intro k
    induction k with
    | zero =>
      intro i a hi q1 q2 q3
      refine ev_round ?_
      simp only [ref16_left_l1]
      refine ev_cut (· = false) (ev_ifF (by omega) (ev_some rfl)) (fun t ht => ?_)
      subst ht
      refine ev_ifF (by simp) (ev_some ⟨q1, q2, fun h => ?_⟩)
      rw [q3 h, List.take_of_length_le (by omega)]; omega
    | succ k ihk =>
      intro i a hi q1 q2 q3
      refine ev_round ?_
      simp only [ref16_left_l1]
      refine ev_cut (fun t => t = true ↔ 0 ≤ a) (ev_ifT (by omega) (ev_some (by simp))) (fun t ht => ?_)
      by_cases h0 : 0 ≤ a
      · have hbd : (0 : Int) ≤ i ∧ (i : Int) < (b.fAttrs.length : Int) := ⟨by omega, by omega⟩
        refine ev_ifT (ht.2 h0) (ev_ck hbd (ev_ck (inR_of (by omega) (by omega)) ?_))
        rw [lat_get _ _ (by omega)]
        have hm : b.fAttrs[i]'(by omega) ∈ b.fAttrs := List.getElem_mem _
        have hbe := be_of _ (hb.eAttrs _ hm).bExpr
        have ht1 := asize_take b.fAttrs i (by omega)
        refine ev_cut _ (small_tot' _ hbe (a + 1) (by omega) (by omega)) (fun x hx => ?_)
        refine ev_ite (fun _ => ev_some rfl) (fun hx1 => ev_ck hbd ?_)
        have hx2 := hx (by simpa using hx1)
        refine ev_cut _ (nodes_ev _ hbe (by omega)) (fun y hy => ?_)
        subst hy
        have q4 := q3 h0
        refine ev_ck (inR_of (by omega) (by omega)) (ev_ck (inR_of (by omega) (by omega)) (ihk (i + 1) _ (by omega) (by omega) (by omega) (fun h => ?_)))
        rw [ht1]; omega
      · have hne : ¬ t = true := fun h => h0 (ht.1 h)
        exact ev_ifF hne (ev_some ⟨q1, q2, fun h => absurd h h0⟩)
  refine ev_jn (ev_mono (ev_loop (loop1 b.fAttrs.length 0 _ (by omega) (by omega) (by omega) (fun _ => by simp [asize]))) fun r hr => ?_)
  cases r with
  | inr y => exact ⟨by rw [hr]; omega, by rw [hr]; omega, fun h => by rw [hr] at h; omega⟩
  | inl x =>
    obtain ⟨x1, x2, x3⟩ := hr
    have loop2 : ∀ (k i : Nat) (a : Int), i + k = b.fBlocks.length → -1 ≤ a → a ≤ 1000000 → (0 ≤ a → a = n - b.fBlocks.length - asize b.fAttrs + i - ksizes (b.fBlocks.take i)) →
        Ev2 (fun f m => ref16_left_l2 (ref16_left f) b lev m a (i : Int)) (fun r => -1 ≤ r ∧ r ≤ 1000000 ∧ (0 ≤ r → r = n - bsize b)) := by
      intro k
      induction k with
      | zero =>
        intro i a hi q1 q2 q3
        refine ev_round ?_
        simp only [ref16_left_l2]
        refine ev_cut (· = false) (ev_ifF (by omega) (ev_some rfl)) (fun t ht => ?_)
        subst ht
        refine ev_ifF (by simp) (ev_some ⟨q1, q2, fun h => ?_⟩)
        rw [q3 h, bsize_eq, List.take_of_length_le (by omega)]; omega
      | succ k ihk =>
        intro i a hi q1 q2 q3
        refine ev_round ?_
        simp only [ref16_left_l2]
        refine ev_cut (fun t => t = true ↔ 0 ≤ a) (ev_ifT (by omega) (ev_some (by simp))) (fun t ht => ?_)
        by_cases h0 : 0 ≤ a
        · have hbd : (0 : Int) ≤ i ∧ (i : Int) < (b.fBlocks.length : Int) := ⟨by omega, by omega⟩
          refine ev_ifT (ht.2 h0) (ev_ck hbd (ev_ck hbd ?_))
          rw [lat_get _ _ (by omega)]
          have hm : b.fBlocks[i]'(by omega) ∈ b.fBlocks := List.getElem_mem _
          have hkb := hb.eBlocks _ hm
          have hlab := hkb.bLabels
          rw [maxW_eq] at hlab
          have ht1 := ksizes_take b.fBlocks i (by omega)
          have ht2 := ksize_eq (b.fBlocks[i]'(by omega))
          refine ev_ck (inR_of (by omega) (by omega)) (ev_ck (inR_of (by omega) (by omega)) ?_)
          refine ev_cut _ (ih _ hm hkb.bBody _ (lev - 1) (by omega) (by omega) (by omega) (by omega)) (fun y hy => ?_)
          obtain ⟨y1, y2, y3⟩ := hy
          have q4 := q3 h0
          refine ev_ck (inR_of (by omega) (by omega)) (ihk (i + 1) _ (by omega) y1 y2 (fun h => ?_))
          have := y3 h
          rw [ht1]; omega
        · have hne : ¬ t = true := fun h => h0 (ht.1 h)
          exact ev_ifF hne (ev_some ⟨q1, q2, fun h => absurd h h0⟩)
    exact ev_cut _ (ev_loop (loop2 b.fBlocks.length 0 x (by omega) x1 x2 (fun h => by rw [x3 h]; simp [ksizes]))) (fun y hy => ev_some hy)

theorem bsmall_tot (b : TBody) (hb : b.Bd) : Ev2 (fun f _ => ref16_Small f b 200) (fun r => r = true → bsize b ≤ 200) := by
  simp only [ref16_Small]
  refine ev_cut _ (bleft_spec b hb 200 40 (by omega) (by omega) (by omega) (by omega)) (fun x hx => ev_some fun h => ?_)
  have h0 := of_decide_eq_true h
  have := hx.2.2 h0
  omega

/-! ### The check of a body -/
inductive GoodB : TBody → Prop
  | mk {b : TBody} (ha : ∀ a ∈ b.fAttrs, Good a.fExpr) (hk : ∀ k ∈ b.fBlocks, GoodB k.fBody) : GoodB b

theorem template_tot (s : Bytes) (hs : s.length ≤ maxW) : Ev2 (fun n _ => ref15_template n s) (fun _ => True) := by
  simp only [ref15_template]
  have loop : ∀ (k i : Nat), i + k = s.length → Ev2 (fun _ m => ref15_template_l1 s m (i : Int)) (fun _ => True) := by
    intro k
    induction k with
    | zero =>
      intro i hi
      refine ev_round ?_
      simp only [ref15_template_l1]
      exact ev_ck (by rw [maxW_eq] at hs; exact inR_of (by omega) (by omega)) (ev_ifF (by omega) (ev_some trivial))
    | succ k ih =>
      intro i hi
      refine ev_round ?_
      simp only [ref15_template_l1]
      have hb : (0 : Int) ≤ i ∧ (i : Int) < (s.length : Int) := ⟨by omega, by omega⟩
      have hr := inR_succ hb hs
      refine ev_ck hr (ev_ite (fun h => ?_) (fun _ => ev_some trivial))
      refine ev_cut (fun _ => True) (ev_ck hb (ev_ite (fun _ => ev_ck hr (ev_ck ⟨by omega, h⟩ (ev_some trivial))) (fun _ => ev_some trivial))) (fun t _ => ?_)
      exact ev_ite (fun _ => ev_some trivial) (fun _ => ev_ck hr (ih (i + 1) (by omega)))
  refine ev_jn (ev_mono (ev_loop (f := fun _ m => ref15_template_l1 s m 0) (loop s.length 0 (by omega))) fun r _ => ?_)
  cases r with
  | inl _ => exact ev_some trivial
  | inr _ => trivial

theorem bcheck_tot (b : TBody) : b.Bd → ∀ depth : Int, 0 ≤ depth → depth ≤ 1000 → Ev2 (fun n _ => ref15_check n b depth) (fun r => r = 0 → GoodB b) := by
  induction b using body_ind with
  | h b ih =>
  intro hb depth hd hd2
  have hA := hb.bAttrs
  have hB := hb.bBlocks
  rw [maxW_eq] at hA hB
  refine ev_succ ?_
  simp only [ref15_check]
  have inner1 : ∀ (i : Nat) (hi : i < b.fAttrs.length) (k j : Nat), j + k = i → Ev2 (fun _ m => ref15_check_l2 b (i : Int) m (j : Int)) (fun r => match r with | .inl _ => True | .inr (.inl _) => False | .inr (.inr y) => y = 8) := by
    intro i hi k
    induction k with
    | zero =>
      intro j hj
      refine ev_round ?_
      simp only [ref15_check_l2]
      exact ev_ifF (by omega) (ev_some trivial)
    | succ k ihk =>
      intro j hj
      refine ev_round ?_
      simp only [ref15_check_l2]
      have hbd : (0 : Int) ≤ j ∧ (j : Int) < (b.fAttrs.length : Int) := ⟨by omega, by omega⟩
      exact ev_ifT (by omega) (ev_ck hbd (ev_ite (fun _ => ev_some rfl) (fun _ => ev_ck (inR_of (by omega) (by omega)) (ihk (j + 1) (by omega)))))
  have loop1 : ∀ (k i : Nat), i + k = b.fAttrs.length → (∀ (j : Nat) (hj : j < b.fAttrs.length), j < i → Good (b.fAttrs[j]).fExpr) → Ev2 (fun n m => ref15_check_l3 n b m (i : Int)) (fun r => match r with | .inl _ => ∀ a ∈ b.fAttrs, Good a.fExpr | .inr y => y ≠ 0) := by
    intro k
    induction k with
    | zero =>
      intro i hi hg
      refine ev_round ?_
      simp only [ref15_check_l3]
      refine ev_ifF (by omega) (ev_some fun a ha => ?_)
      obtain ⟨j, hj, rfl⟩ := List.getElem_of_mem ha
      exact hg j hj (by omega)
    | succ k ihk =>
      intro i hi hg
      refine ev_round ?_
      simp only [ref15_check_l3]
      have hbd : (0 : Int) ≤ i ∧ (i : Int) < (b.fAttrs.length : Int) := ⟨by omega, by omega⟩
      have hm : b.fAttrs[i]'(by omega) ∈ b.fAttrs := List.getElem_mem _
      have hab := hb.eAttrs _ hm
      refine ev_ifT (by omega) (ev_ck hbd ?_)
      rw [lat_get _ _ (by omega)]
      refine ev_cut _ (ident_tot _ hab.bName) (fun x _ => ev_ite (fun _ => ev_some (by show (7 : Int) ≠ 0; decide)) (fun _ => ?_))
      refine ev_jn (ev_mono (ev_loop (f := fun _ m => ref15_check_l2 b (i : Int) m 0) (inner1 i (by omega) i 0 (by omega))) fun r hr => ?_)
      cases r with
      | inr y =>
        cases y with
        | inl _ => exact hr.elim
        | inr y => show y ≠ 0; rw [hr]; decide
      | inl _ =>
        refine ev_cut _ (eCheck_tot _ (be_of _ hab.bExpr)) (fun y hy => ?_)
        refine ev_ite (fun h => ev_ck (inR_of (by omega) (by omega)) (ihk (i + 1) (by omega) (fun j hj hji => ?_))) (fun h => ev_some h)
        rcases Nat.lt_or_ge j i with q | q
        · exact hg j hj q
        · obtain rfl : j = i := by omega
          exact hy h
  have inner2 : ∀ (i : Nat) (hi : i < b.fBlocks.length) (k j : Nat), j + k = (b.fBlocks[i]).fLabels.length → Ev2 (fun n m => ref15_check_l5 n b (i : Int) m (j : Int)) (fun r => match r with | .inl _ => True | .inr (.inl _) => False | .inr (.inr y) => y = 1) := by
    intro i hi k
    have hkb := hb.eBlocks _ (List.getElem_mem hi)
    have hlab := hkb.bLabels
    rw [maxW_eq] at hlab
    induction k with
    | zero =>
      intro j hj
      refine ev_round ?_
      simp only [ref15_check_l5]
      rw [lat_get _ _ hi]
      exact ev_ifF (by omega) (ev_some trivial)
    | succ k ihk =>
      intro j hj
      refine ev_round ?_
      simp only [ref15_check_l5]
      rw [lat_get _ _ hi]
      have hbd : (0 : Int) ≤ j ∧ (j : Int) < ((b.fBlocks[i]).fLabels.length : Int) := ⟨by omega, by omega⟩
      have hs := hkb.eLabels _ (lat_mem hbd)
      refine ev_ifT (by omega) ?_
      refine ev_cut (fun _ => True) (ev_ck hbd (ev_cut _ (valid_tot _ hs) (fun _ _ => ev_ite (fun _ => ev_some trivial) (fun _ => ev_ck hbd (ev_cut _ (template_tot _ hs) (fun _ _ => ev_some trivial)))))) (fun t _ => ?_)
      exact ev_ite (fun _ => ev_some rfl) (fun _ => ev_ck (inR_of (by omega) (by omega)) (ihk (j + 1) (by omega)))
  have loop2 : ∀ (k i : Nat), i + k = b.fBlocks.length → (∀ (j : Nat) (hj : j < b.fBlocks.length), j < i → GoodB (b.fBlocks[j]).fBody) → Ev2 (fun n m => ref15_check_l6 n (ref15_check n) b depth m (i : Int)) (fun r => match r with | .inl _ => ∀ a ∈ b.fBlocks, GoodB a.fBody | .inr y => y ≠ 0) := by
    intro k
    induction k with
    | zero =>
      intro i hi hg
      refine ev_round ?_
      simp only [ref15_check_l6]
      refine ev_ifF (by omega) (ev_some fun a ha => ?_)
      obtain ⟨j, hj, rfl⟩ := List.getElem_of_mem ha
      exact hg j hj (by omega)
    | succ k ihk =>
      intro i hi hg
      refine ev_round ?_
      simp only [ref15_check_l6]
      have hbd : (0 : Int) ≤ i ∧ (i : Int) < (b.fBlocks.length : Int) := ⟨by omega, by omega⟩
      have hm : b.fBlocks[i]'(by omega) ∈ b.fBlocks := List.getElem_mem _
      have hkb := hb.eBlocks _ hm
      refine ev_ifT (by omega) (ev_ck hbd ?_)
      rw [lat_get _ _ (by omega)]
      refine ev_cut _ (ident_tot _ hkb.bType) (fun x _ => ev_ite (fun _ => ev_some (by show (7 : Int) ≠ 0; decide)) (fun _ => ?_))
      refine ev_jn (ev_mono (ev_loop (f := fun n m => ref15_check_l5 n b (i : Int) m 0) (inner2 i (by omega) _ 0 (Nat.zero_add _))) fun r hr => ?_)
      cases r with
      | inr y =>
        cases y with
        | inl _ => exact hr.elim
        | inr y => show y ≠ 0; rw [hr]; decide
      | inl _ =>
        refine ev_ite (fun _ => ev_some (by show (4 : Int) ≠ 0; decide)) (fun _ => ev_ck (inR_of (by omega) (by omega)) ?_)
        refine ev_cut _ (ih _ hm hkb.bBody (depth + 1) (by omega) (by omega)) (fun y hy => ?_)
        refine ev_ite (fun h => ev_ck (inR_of (by omega) (by omega)) (ihk (i + 1) (by omega) (fun j hj hji => ?_))) (fun h => ev_some h)
        rcases Nat.lt_or_ge j i with q | q
        · exact hg j hj q
        · obtain rfl : j = i := by omega
          exact hy h
  refine ev_jn (ev_mono (ev_loop (f := fun n m => ref15_check_l3 n b m 0) (loop1 b.fAttrs.length 0 (by omega) (fun j _ h => absurd h (Nat.not_lt_zero _)))) fun r hr => ?_)
  cases r with
  | inr y => exact fun h => absurd h hr
  | inl _ =>
    refine ev_jn (ev_mono (ev_loop (f := fun n m => ref15_check_l6 n (ref15_check n) b depth m 0) (loop2 b.fBlocks.length 0 (by omega) (fun j _ h => absurd h (Nat.not_lt_zero _)))) fun r2 hr2 => ?_)
    cases r2 with
    | inr y => exact fun h => absurd h hr2
    | inl _ => exact ev_some fun _ => .mk hr hr2

end Go.Ab.R17
