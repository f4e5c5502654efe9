/- The plain law of ReferenceBodies. -/
import Derived.Test.YtmpmphkpplgbkaaP17b
set_option linter.unusedVariables false
set_option linter.unusedSimpArgs false
set_option linter.unnecessarySimpa false
namespace Go.Ab.R17
open Go.Ab

theorem GoodB.attr {b : TBody} (h : GoodB b) {a : TAttribute} (ha : a ∈ b.fAttrs) : Good a.fExpr := by cases h with | mk h _ => exact h a ha
theorem GoodB.block {b : TBody} (h : GoodB b) {k : TBlock} (hk : k ∈ b.fBlocks) : GoodB k.fBody := by cases h with | mk _ h => exact h k hk

/-! ### What is found in order -/
def cat {α : Type} (g : α → List TRef) (acc : List TRef) (l : List α) : List TRef := l.foldl (fun a k => putR a (g k)) acc
section
variable {α : Type} (g : α → List TRef)
theorem cat_putR (l : List α) : ∀ f acc : List TRef, putR f (cat g acc l) = cat g (putR f acc) l := by
  induction l with
  | nil => intro f acc; rfl
  | cons k r ih => intro f acc; show putR f (cat g (putR acc (g k)) r) = cat g (putR (putR f acc) (g k)) r; rw [ih, putR_putR]
theorem cat_nil (l : List α) (f : List TRef) : cat g f l = putR f (cat g [] l) := by rw [cat_putR]; rfl
theorem cat_take (l : List α) (i : Nat) (h : i < l.length) (acc : List TRef) : cat g acc (l.take (i + 1)) = putR (cat g acc (l.take i)) (g l[i]) := by
  unfold cat
  rw [List.take_add_one, List.getElem?_eq_getElem h, List.foldl_append]; rfl
theorem cat_len (size : List α → Nat) (one : α → Nat) (h0 : size [] = 0) (hs : ∀ k r, size (k :: r) = one k + size r) (l : List α) (h : ∀ k ∈ l, (g k).length ≤ one k) : ∀ acc : List TRef, (cat g acc l).length ≤ acc.length + size l := by
  induction l with
  | nil => intro acc; simp [cat, h0]
  | cons k r ih =>
    intro acc
    have h1 := ih (fun x hx => h x (by simp [hx])) (putR acc (g k))
    have h2 := putR_len (g k) acc
    have h3 := h k (by simp)
    have h4 : cat g acc (k :: r) = cat g (putR acc (g k)) r := rfl
    rw [h4, hs]
    omega
end

/-! ### The name that a dynamic block binds -/
theorem iter_loop (b : TBlock) (hb : b.fBody.Bd) : ∀ (k i : Nat), i + k = b.fBody.fAttrs.length → ∃ r, Ev2 (fun _ m => reference_iterator_l1 b m (i : Int)) (· = r) ∧ Ev2 (fun _ m => ref17_iterator_l1 b m (i : Int)) (· = r) := by
  have hA := hb.bAttrs
  intro k
  induction k with
  | zero =>
    intro i hi
    refine ⟨.inl (), ev_round ?_, ev_round ?_⟩
    · simp only [reference_iterator_l1]; exact ev_ifF (by omega) (ev_some rfl)
    · simp only [ref17_iterator_l1]; exact ev_ifF (by omega) (ev_some rfl)
  | succ k ih =>
    intro i hi
    obtain ⟨r, h1, h2⟩ := ih (i + 1) (by omega)
    have hbd : (0 : Int) ≤ i ∧ (i : Int) < (b.fBody.fAttrs.length : Int) := ⟨by omega, by omega⟩
    have hr := inR_succ hbd (show b.fBody.fAttrs.length ≤ maxW by omega)
    by_cases hc : (lat b.fBody.fAttrs (i : Int)).fName = ([105, 116, 101, 114, 97, 116, 111, 114] : Bytes) ∧ ((lat b.fBody.fAttrs (i : Int)).fExpr).fKind = 1 ∧ (((lat b.fBody.fAttrs (i : Int)).fExpr).fValue).fKind = 3
    · obtain ⟨c1, c2, c3⟩ := hc
      refine ⟨.inr ((((lat b.fBody.fAttrs (i : Int)).fExpr).fValue).fStr), ev_round ?_, ev_round ?_⟩
      · simp only [reference_iterator_l1]
        exact ev_ifT (by omega) (ev_ck hbd (ev_cut (· = true) (ev_ifT c1 (ev_ifT c2 (ev_some (decide_eq_true c3)))) (fun t ht => ev_ifT ht (ev_some rfl))))
      · simp only [ref17_iterator_l1]
        exact ev_ifT (by omega) (ev_ck hbd (ev_cut (· = true) (ev_ifT c1 (ev_ifT c2 (ev_some (decide_eq_true c3)))) (fun t ht => ev_ifT ht (ev_some rfl))))
    · have hf : Ev2 (fun _ _ => if (lat b.fBody.fAttrs (i : Int)).fName = ([105, 116, 101, 114, 97, 116, 111, 114] : Bytes) then if ((lat b.fBody.fAttrs (i : Int)).fExpr).fKind = 1 then some (decide ((((lat b.fBody.fAttrs (i : Int)).fExpr).fValue).fKind = 3)) else some false else some false) (· = false) := by
        refine ev_ite (fun c1 => ev_ite (fun c2 => ev_some (decide_eq_false fun c3 => hc ⟨c1, c2, c3⟩)) (fun _ => ev_some rfl)) (fun _ => ev_some rfl)
      refine ⟨r, ev_round ?_, ev_round ?_⟩
      · simp only [reference_iterator_l1]
        exact ev_ifT (by omega) (ev_ck hbd (ev_cut _ hf (fun t ht => ev_ifF (by rw [ht]; simp) (ev_ck hr h1))))
      · simp only [ref17_iterator_l1]
        exact ev_ifT (by omega) (ev_ck hbd (ev_cut _ hf (fun t ht => ev_ifF (by rw [ht]; simp) (ev_ck hr h2))))
theorem iter_ev (b : TBlock) (hb : b.fBody.Bd) (hl : b.fLabels.length = 1) : ∃ s, Ev2 (fun n _ => reference_iterator n b) (· = s) ∧ Ev2 (fun n _ => ref17_iterator n b) (· = s) := by
  obtain ⟨r, h1, h2⟩ := iter_loop b hb b.fBody.fAttrs.length 0 (by omega)
  cases r with
  | inr s =>
    refine ⟨s, ?_, ?_⟩
    · simp only [reference_iterator]; exact ev_jnR s (ev_loop (f := fun _ m => reference_iterator_l1 b m 0) h1) rfl
    · simp only [ref17_iterator]; exact ev_jnR s (ev_loop (f := fun _ m => ref17_iterator_l1 b m 0) h2) rfl
  | inl u =>
    refine ⟨lat b.fLabels 0, ?_, ?_⟩
    · simp only [reference_iterator]; exact ev_jnL u (ev_loop (f := fun _ m => reference_iterator_l1 b m 0) h1) (ev_ck ⟨by omega, by omega⟩ (ev_some rfl))
    · simp only [ref17_iterator]; exact ev_jnL u (ev_loop (f := fun _ m => ref17_iterator_l1 b m 0) h2) (ev_ck ⟨by omega, by omega⟩ (ev_some rfl))

/-! ### The references of bodies -/
structure SaysB (b : TBody) (bound : List Bytes) (L : List TRef) : Prop where
  len : L.length ≤ bsize b
  once : putR [] L = L
  ref : Ev2 (fun n _ => ref17_body n b bound) (· = L)
  prog : ∀ f : List TRef, f.length + bsize b ≤ 10000 → Ev2 (fun n _ => reference_finder_body n (Tfinder.mk f) b bound) (· = Tfinder.mk (putR f L))

open Classical in
theorem pickB {α : Type} {P : α → List TRef → Prop} {l : List α} (h : ∀ k ∈ l, ∃ L, P k L) : ∃ g : α → List TRef, ∀ k ∈ l, P k (g k) :=
  ⟨fun k => if hk : k ∈ l then Classical.choose (h k hk) else [], fun k hk => by simp only [dif_pos hk]; exact Classical.choose_spec (h k hk)⟩

section
variable (l : List TAttribute) (bound : List Bytes) (g : TAttribute → List TRef) (hg : ∀ a ∈ l, Says a.fExpr bound (g a))
include hg
theorem attrs_len (acc : List TRef) (i : Nat) : (cat g acc (l.take i)).length ≤ acc.length + asize l := by
  have h1 := cat_len g asize (fun a => 1 + nodes a.fExpr) rfl (fun _ _ => by simp [asize]) (l.take i) (fun a ha => by have := (hg a (List.mem_of_mem_take ha)).len; omega) acc
  have h2 := asize_sub l i
  omega
/-- One loop over the attributes, for the reference. -/
theorem attrs_ref (hn : asize l ≤ 5000) (loop : Nat → Nat → List TRef → Int → Option (List TRef)) (h : ∀ n m out (i : Int), loop n (m + 1) out i = if i < (l.length : Int) then ck ((0 : Int) ≤ i ∧ i < (l.length : Int)) <| (ref17_of n ((lat l i).fExpr) bound).bind fun r14 => (ref17_put n out r14).bind fun r16 => ck (inR (i + 1)) <| loop n m r16 (i + 1) else some out) :
    Ev2 (fun n m => loop n m [] 0) (· = cat g [] l) := by
  have hl := asize_len l
  have main : ∀ (k i : Nat) (out : List TRef), i + k = l.length → out = cat g [] (l.take i) → Ev2 (fun n m => loop n m out (i : Int)) (· = cat g [] l) := by
    intro k
    induction k with
    | zero =>
      intro i out hi ho
      refine ev_round ?_
      simp only [h]
      refine ev_ifF (by omega) (ev_some ?_)
      rw [ho, List.take_of_length_le (by omega)]
    | succ k ih =>
      intro i out hi ho
      refine ev_round ?_
      simp only [h]
      have hb : (0 : Int) ≤ i ∧ (i : Int) < (l.length : Int) := ⟨by omega, by omega⟩
      refine ev_ifT (by omega) (ev_ck hb ?_)
      rw [lat_get _ _ (by omega)]
      have hm : l[i]'(by omega) ∈ l := List.getElem_mem _
      have hs := hg _ hm
      have h1 := attrs_len l bound g hg [] i
      rw [← ho] at h1
      have h2 := asize_mem hm
      have h3 := hs.len
      simp only [List.length_nil] at h1
      refine ev_cut _ hs.ref (fun r hr => ?_)
      subst hr
      refine ev_cut _ (put_ev out _ (by omega) (by omega)) (fun x hx => ?_)
      refine ev_ck (inR_succ hb (by rw [maxW_eq]; omega)) (ih (i + 1) x (by omega) ?_)
      rw [hx, cat_take _ _ _ (by omega), ho]
  exact main l.length 0 [] (by omega) rfl
/-- One loop over the attributes, for the program. -/
theorem attrs_prog (f : List TRef) (hf : f.length + asize l ≤ 10000) (loop : Nat → Nat → Int → List TRef → Option (List TRef)) (h : ∀ n m (i : Int) out, loop n (m + 1) i out = if i < (l.length : Int) then ck ((0 : Int) ≤ i ∧ i < (l.length : Int)) <| (reference_finder_expr n (Tfinder.mk out) ((lat l i).fExpr) bound).bind fun r12 => ck (inR (i + 1)) <| loop n m (i + 1) r12.fout else some out) :
    Ev2 (fun n m => loop n m 0 f) (· = cat g f l) := by
  have hl := asize_len l
  have main : ∀ (k i : Nat) (out : List TRef), i + k = l.length → out = cat g f (l.take i) → Ev2 (fun n m => loop n m (i : Int) out) (· = cat g f l) := by
    intro k
    induction k with
    | zero =>
      intro i out hi ho
      refine ev_round ?_
      simp only [h]
      refine ev_ifF (by omega) (ev_some ?_)
      rw [ho, List.take_of_length_le (by omega)]
    | succ k ih =>
      intro i out hi ho
      refine ev_round ?_
      simp only [h]
      have hb : (0 : Int) ≤ i ∧ (i : Int) < (l.length : Int) := ⟨by omega, by omega⟩
      refine ev_ifT (by omega) (ev_ck hb ?_)
      rw [lat_get _ _ (by omega)]
      have hm : l[i]'(by omega) ∈ l := List.getElem_mem _
      have hs := hg _ hm
      have h1 := cat_len g asize (fun a => 1 + nodes a.fExpr) rfl (fun _ _ => by simp [asize]) (l.take i) (fun a ha => by have := (hg a (List.mem_of_mem_take ha)).len; omega) f
      have h2 := asize_take l i (by omega)
      have h3 := asize_sub l (i + 1)
      rw [← ho] at h1
      refine ev_cut _ (hs.prog out (by omega)) (fun r hr => ?_)
      subst hr
      refine ev_ck (inR_succ hb (by rw [maxW_eq]; omega)) (ih (i + 1) _ (by omega) ?_)
      rw [cat_take _ _ _ (by omega), ho]
  exact main l.length 0 f (by omega) rfl
end

theorem one_body (c : TBlock) : bsize (TBody.mk [] [c]) = ksize c ∧ wB (TBody.mk [] [c]) = 1 + wK c := by
  constructor
  · rw [bsize_eq]; simp [TBody.fAttrs, TBody.fBlocks, asize, ksizes]
  · rw [wB_eq]; simp [TBody.fBlocks, wKs]

/-- What a block says: a dynamic one, or any other. -/
def isDyn (k : TBlock) : Prop := k.fType = ([100, 121, 110, 97, 109, 105, 99] : Bytes) ∧ k.fLabels.length = 1

structure SaysK (k : TBlock) (bound : List Bytes) (L : List TRef) : Prop where
  len : L.length ≤ ksize k
  once : putR [] L = L
  dyn : isDyn k → Ev2 (fun n _ => ref17_dynamic n k bound) (· = L)
  other : ¬isDyn k → Ev2 (fun n _ => ref17_body n k.fBody bound) (· = L)
  prog : ∀ (b : TBody) (i : Int), lat b.fBlocks i = k → ∀ f : List TRef, f.length + ksize k ≤ 10000 →
    Ev2 (fun n _ => (if (lat b.fBlocks i).fType = ([100, 121, 110, 97, 109, 105, 99] : Bytes) then some (!decide ((((lat b.fBlocks i).fLabels).length : Int) = 1)) else some true).bind fun t81 =>
      if t81 = true then (reference_finder_body n (Tfinder.mk f) ((lat b.fBlocks i).fBody) bound).bind fun r83 => some r83.fout
      else (reference_finder_body_l4 n b bound i n 0 f).bind fun f101 => (slices_Clone_string_string bound).bind fun r102 => (reference_iterator n (lat b.fBlocks i)).bind fun r104 =>
        ck ((r102.length + [r104].length) * 16 ≤ 140737488355328) <| (reference_finder_body_l5 (reference_finder_body n) b bound i r102 r104 n 0 f101).bind fun f131 => some f131) (· = putR f L)

theorem one_bd {c : TBlock} (h : c.Bd) : (TBody.mk [] [c]).Bd := by
  refine .mk (by simp [TBody.fAttrs]) (by simp [TBody.fAttrs]) (by rw [maxW_eq]; simp [TBody.fBlocks]) fun y hy => ?_
  simp [TBody.fBlocks] at hy
  subst hy; exact h
theorem one_good {c : TBlock} (h : GoodB c.fBody) : GoodB (TBody.mk [] [c]) := by
  refine .mk (by simp [TBody.fAttrs]) fun y hy => ?_
  simp [TBody.fBlocks] at hy
  subst hy; exact h

/-- What is said within a dynamic block. -/
def isCont (c : TBlock) : Prop := c.fType = ([99, 111, 110, 116, 101, 110, 116] : Bytes)
instance (c : TBlock) : Decidable (isCont c) := inferInstanceAs (Decidable (_ = _))
structure SaysC (c : TBlock) (bound inner : List Bytes) (L : List TRef) : Prop where
  len : L.length ≤ ksize c
  cont : isCont c → SaysB c.fBody inner L
  other : ¬isCont c → SaysB (TBody.mk [] [c]) bound L

theorem saysK (w : Nat) (ih : ∀ b : TBody, wB b ≤ w → GoodB b → b.Bd → bsize b ≤ 2000 → ∀ bound : List Bytes, bound.length + 2 * bsize b ≤ 9000 → ∃ L, SaysB b bound L)
    (k : TBlock) (hw : wB k.fBody ≤ w) (hg : GoodB k.fBody) (hb : k.Bd) (hn : ksize k ≤ 2000) (bound : List Bytes) (hbd : bound.length + 2 * ksize k ≤ 9000) : ∃ L, SaysK k bound L := by
  have hks := ksize_eq k
  by_cases hd : isDyn k
  · obtain ⟨d1, d2⟩ := hd
    have hbs := bsize_eq k.fBody
    have hBb := hb.bBody
    obtain ⟨s, it1, it2⟩ := iter_ev k hBb d2
    have hat : ∀ a ∈ k.fBody.fAttrs, ∃ L, Says a.fExpr bound L := by
      intro a ha
      have := asize_mem ha
      exact says a.fExpr (hg.attr ha) (be_of _ (hBb.eAttrs a ha).bExpr) (by omega) bound (by omega)
    obtain ⟨ga, hga⟩ := pickB hat
    have hcs : ∀ c ∈ k.fBody.fBlocks, ∃ L, SaysC c bound (bound ++ [s]) L := by
      intro c hc
      have h1 := wKs_mem hc
      have h2 := wB_eq k.fBody
      have h3 := wK_eq c
      have h4 := ksizes_mem hc
      have h5 := ksize_eq c
      have h6 := one_body c
      by_cases hcc : isCont c
      · obtain ⟨L, hL⟩ := ih c.fBody (by omega) (hg.block hc) (hBb.eBlocks c hc).bBody (by omega) (bound ++ [s]) (by simp; omega)
        exact ⟨L, by have := hL.len; omega, fun _ => hL, fun h => absurd hcc h⟩
      · obtain ⟨L, hL⟩ := ih (TBody.mk [] [c]) (by omega) (one_good (hg.block hc)) (one_bd (hBb.eBlocks c hc)) (by omega) bound (by omega)
        exact ⟨L, by have := hL.len; omega, fun h => absurd h hcc, fun _ => hL⟩
    obtain ⟨gc, hgc⟩ := pickB hcs
    have la : ∀ acc, (cat ga acc k.fBody.fAttrs).length ≤ acc.length + asize k.fBody.fAttrs := fun acc =>
      cat_len ga asize (fun a => 1 + nodes a.fExpr) rfl (fun _ _ => by simp [asize]) _ (fun a ha => by have := (hga a ha).len; omega) acc
    have lc : ∀ (l : List TBlock), (∀ c ∈ l, c ∈ k.fBody.fBlocks) → ∀ acc, (cat gc acc l).length ≤ acc.length + ksizes l := fun l hl acc =>
      cat_len gc ksizes ksize rfl (fun _ _ => rfl) l (fun c hc => (hgc c (hl c hc)).len) acc
    have hlen := ksizes_len k.fBody.fBlocks
    refine ⟨cat gc (cat ga [] k.fBody.fAttrs) k.fBody.fBlocks, ?_, ?_, fun _ => ?_, fun h => absurd ⟨d1, d2⟩ h, fun b i hi f hf => ?_⟩
    · have := la []
      have := lc _ (fun _ h => h) (cat ga [] k.fBody.fAttrs)
      simp at *; omega
    · rw [cat_putR, cat_putR]; rfl
    · refine ev_succ ?_
      simp only [ref17_dynamic]
      refine ev_cut _ (ev_loop (f := fun n m => ref17_dynamic_l1 n k bound m [] 0) (attrs_ref k.fBody.fAttrs bound ga hga (by omega) (fun n m out i => ref17_dynamic_l1 n k bound m out i) (fun n m out i => by simp only [ref17_dynamic_l1]))) (fun out hout => ?_)
      subst hout
      refine ev_ck (by omega) (ev_cut _ it2 (fun r hr => ?_))
      subst hr
      refine ev_ck (by simp; omega) ?_
      have loop : ∀ (q j : Nat) (out : List TRef), j + q = k.fBody.fBlocks.length → out = cat gc (cat ga [] k.fBody.fAttrs) (k.fBody.fBlocks.take j) → Ev2 (fun n m => ref17_dynamic_l2 n (ref17_body n) k bound r m out (j : Int)) (· = cat gc (cat ga [] k.fBody.fAttrs) k.fBody.fBlocks) := by
        intro q
        induction q with
        | zero =>
          intro j out hj ho
          refine ev_round ?_
          simp only [ref17_dynamic_l2]
          refine ev_ifF (by omega) (ev_some ?_)
          rw [ho, List.take_of_length_le (by omega)]
        | succ q ihq =>
          intro j out hj ho
          refine ev_round ?_
          simp only [ref17_dynamic_l2]
          have hbj : (0 : Int) ≤ j ∧ (j : Int) < (k.fBody.fBlocks.length : Int) := ⟨by omega, by omega⟩
          have hm : k.fBody.fBlocks[j]'(by omega) ∈ k.fBody.fBlocks := List.getElem_mem _
          have hs := hgc _ hm
          have h1 := lc (k.fBody.fBlocks.take j) (fun _ h => List.mem_of_mem_take h) (cat ga [] k.fBody.fAttrs)
          have h2 := la []
          have h3 := ksizes_sub k.fBody.fBlocks j
          have h4 := hs.len
          have h5 := ksizes_mem hm
          rw [← ho] at h1
          simp only [List.length_nil] at h2
          refine ev_ifT (by omega) ?_
          rw [lat_get _ _ (by omega)]
          refine ev_cut (· = putR out (gc (k.fBody.fBlocks[j]'(by omega)))) (ev_ck hbj (ev_ite (fun hc => ?_) (fun hc => ?_))) (fun x hx => ?_)
          · refine ev_cut _ (hs.cont hc).ref (fun y hy => ?_)
            subst hy
            exact ev_cut _ (put_ev out _ (by omega) (by omega)) (fun z hz => ev_some hz)
          · refine ev_cut _ (hs.other hc).ref (fun y hy => ?_)
            subst hy
            exact ev_cut _ (put_ev out _ (by omega) (by omega)) (fun z hz => ev_some hz)
          · subst hx
            refine ev_ck (inR_of (by omega) (by omega)) (ihq (j + 1) _ (by omega) ?_)
            rw [cat_take _ _ _ (by omega), ho]
      exact ev_cut _ (ev_loop (f := fun n m => ref17_dynamic_l2 n (ref17_body n) k bound r m (cat ga [] k.fBody.fAttrs) 0) (loop _ 0 _ (Nat.zero_add _) rfl)) (fun x hx => ev_some hx)
    · rw [show putR f (cat gc (cat ga [] k.fBody.fAttrs) k.fBody.fBlocks) = cat gc (cat ga f k.fBody.fAttrs) k.fBody.fBlocks by rw [cat_putR, cat_putR]; rfl]
      refine ev_cut (· = false) (ev_ifT (by rw [hi]; exact d1) (ev_some (by rw [hi, d2]; rfl))) (fun t ht => ?_)
      subst ht
      refine ev_ifF (by simp) ?_
      refine ev_cut _ (ev_loop (f := fun n m => reference_finder_body_l4 n b bound i m 0 f) (attrs_prog k.fBody.fAttrs bound ga hga f (by omega) (fun n m t out => reference_finder_body_l4 n b bound i m t out) (fun n m t out => by simp only [reference_finder_body_l4, hi]))) (fun out hout => ?_)
      subst hout
      simp only [slices_Clone_string_string]
      rw [ck_pos (by omega)]
      simp only [bd_some]
      rw [hi]
      refine ev_cut _ it1 (fun r hr => ?_)
      subst hr
      refine ev_ck (by simp; omega) ?_
      have loop : ∀ (q j : Nat) (out : List TRef), j + q = k.fBody.fBlocks.length → out = cat gc (cat ga f k.fBody.fAttrs) (k.fBody.fBlocks.take j) → Ev2 (fun n m => reference_finder_body_l5 (reference_finder_body n) b bound i bound r m (j : Int) out) (· = cat gc (cat ga f k.fBody.fAttrs) k.fBody.fBlocks) := by
        intro q
        induction q with
        | zero =>
          intro j out hj ho
          refine ev_round ?_
          simp only [reference_finder_body_l5, hi]
          refine ev_ifF (by omega) (ev_some ?_)
          rw [ho, List.take_of_length_le (by omega)]
        | succ q ihq =>
          intro j out hj ho
          refine ev_round ?_
          simp only [reference_finder_body_l5, hi]
          have hbj : (0 : Int) ≤ j ∧ (j : Int) < (k.fBody.fBlocks.length : Int) := ⟨by omega, by omega⟩
          have hm : k.fBody.fBlocks[j]'(by omega) ∈ k.fBody.fBlocks := List.getElem_mem _
          have hs := hgc _ hm
          have h1 := lc (k.fBody.fBlocks.take j) (fun _ h => List.mem_of_mem_take h) (cat ga f k.fBody.fAttrs)
          have h2 := la f
          have h3 := ksizes_take k.fBody.fBlocks j (by omega)
          have h4 := ksizes_sub k.fBody.fBlocks (j + 1)
          have h5 := ksize_eq (k.fBody.fBlocks[j]'(by omega))
          have h6 := (one_body (k.fBody.fBlocks[j]'(by omega))).1
          rw [← ho] at h1
          refine ev_ifT (by omega) ?_
          rw [lat_get _ _ (by omega)]
          refine ev_cut (· = putR out (gc (k.fBody.fBlocks[j]'(by omega)))) (ev_ck hbj (ev_ite (fun hc => ?_) (fun hc => ?_))) (fun x hx => ?_)
          · exact ev_cut _ ((hs.cont hc).prog out (by omega)) (fun y hy => ev_some (by rw [hy]))
          · exact ev_cut _ ((hs.other hc).prog out (by omega)) (fun y hy => ev_some (by rw [hy]))
          · subst hx
            refine ev_ck (inR_of (by omega) (by omega)) (ihq (j + 1) _ (by omega) ?_)
            rw [cat_take _ _ _ (by omega), ho]
      exact ev_cut _ (ev_loop (f := fun n m => reference_finder_body_l5 (reference_finder_body n) b bound i bound r m 0 (cat ga f k.fBody.fAttrs)) (loop _ 0 _ (Nat.zero_add _) rfl)) (fun x hx => ev_some hx)
  · obtain ⟨L, hL⟩ := ih k.fBody hw hg hb.bBody (by omega) bound (by omega)
    refine ⟨L, by have := hL.len; omega, hL.once, fun h => absurd h hd, fun _ => hL.ref, fun b i hi f hf => ?_⟩
    rw [hi]
    refine ev_cut (· = true) (ev_ite (fun h => ev_some ?_) (fun _ => ev_some rfl)) (fun t ht => ?_)
    · have : ¬ (k.fLabels.length : Int) = 1 := fun q => hd ⟨h, by omega⟩
      simp [this]
    · subst ht
      exact ev_ifT rfl (ev_cut _ (hL.prog f (by omega)) (fun x hx => ev_some (by rw [hx])))

theorem saysB (w : Nat) : ∀ b : TBody, wB b ≤ w → GoodB b → b.Bd → bsize b ≤ 2000 → ∀ bound : List Bytes, bound.length + 2 * bsize b ≤ 9000 → ∃ L, SaysB b bound L := by
  induction w with
  | zero => intro b hw; have := wB_eq b; omega
  | succ w ih =>
  intro b hw hg hb hn bound hbd
  have hbs := bsize_eq b
  have hwb := wB_eq b
  have hat : ∀ a ∈ b.fAttrs, ∃ L, Says a.fExpr bound L := by
    intro a ha
    have := asize_mem ha
    exact says a.fExpr (hg.attr ha) (be_of _ (hb.eAttrs a ha).bExpr) (by omega) bound (by omega)
  obtain ⟨ga, hga⟩ := pickB hat
  have hks : ∀ k ∈ b.fBlocks, ∃ L, SaysK k bound L := by
    intro k hk
    have h1 := wKs_mem hk
    have h2 := wK_eq k
    have h3 := ksizes_mem hk
    exact saysK w ih k (by omega) (hg.block hk) (hb.eBlocks k hk) (by omega) bound (by omega)
  obtain ⟨gk, hgk⟩ := pickB hks
  have la : ∀ acc, (cat ga acc b.fAttrs).length ≤ acc.length + asize b.fAttrs := fun acc =>
    cat_len ga asize (fun a => 1 + nodes a.fExpr) rfl (fun _ _ => by simp [asize]) _ (fun a ha => by have := (hga a ha).len; omega) acc
  have lk : ∀ (l : List TBlock), (∀ c ∈ l, c ∈ b.fBlocks) → ∀ acc, (cat gk acc l).length ≤ acc.length + ksizes l := fun l hl acc =>
    cat_len gk ksizes ksize rfl (fun _ _ => rfl) l (fun c hc => (hgk c (hl c hc)).len) acc
  have hlen := ksizes_len b.fBlocks
  refine ⟨cat gk (cat ga [] b.fAttrs) b.fBlocks, ?_, ?_, ?_, fun f hf => ?_⟩
  · have := la []
    have := lk _ (fun _ h => h) (cat ga [] b.fAttrs)
    simp at *; omega
  · rw [cat_putR, cat_putR]; rfl
  · refine ev_succ ?_
    simp only [ref17_body]
    refine ev_cut _ (ev_loop (f := fun n m => ref17_body_l1 n b bound m [] 0) (attrs_ref b.fAttrs bound ga hga (by omega) (fun n m out i => ref17_body_l1 n b bound m out i) (fun n m out i => by simp only [ref17_body_l1]))) (fun out hout => ?_)
    subst hout
    have loop : ∀ (q j : Nat) (out : List TRef), j + q = b.fBlocks.length → out = cat gk (cat ga [] b.fAttrs) (b.fBlocks.take j) → Ev2 (fun n m => ref17_body_l2 n (ref17_body n) (ref17_dynamic n) b bound m out (j : Int)) (· = cat gk (cat ga [] b.fAttrs) b.fBlocks) := by
      intro q
      induction q with
      | zero =>
        intro j out hj ho
        refine ev_round ?_
        simp only [ref17_body_l2]
        refine ev_ifF (by omega) (ev_some ?_)
        rw [ho, List.take_of_length_le (by omega)]
      | succ q ihq =>
        intro j out hj ho
        refine ev_round ?_
        simp only [ref17_body_l2]
        have hbj : (0 : Int) ≤ j ∧ (j : Int) < (b.fBlocks.length : Int) := ⟨by omega, by omega⟩
        have hm : b.fBlocks[j]'(by omega) ∈ b.fBlocks := List.getElem_mem _
        have hs := hgk _ hm
        have h1 := lk (b.fBlocks.take j) (fun _ h => List.mem_of_mem_take h) (cat ga [] b.fAttrs)
        have h2 := la []
        have h3 := ksizes_sub b.fBlocks j
        have h4 := hs.len
        have h5 := ksizes_mem hm
        rw [← ho] at h1
        simp only [List.length_nil] at h2
        refine ev_ifT (by omega) ?_
        rw [lat_get _ _ (by omega)]
        refine ev_cut (· = putR out (gk (b.fBlocks[j]'(by omega)))) (ev_ck hbj ?_) (fun x hx => ?_)
        · refine ev_cut (fun t => t = true ↔ isDyn (b.fBlocks[j]'(by omega))) (ev_ite (fun h => ev_some ?_) (fun h => ev_some ?_)) (fun t ht => ?_)
          · rw [decide_eq_true_iff]; exact ⟨fun q => ⟨h, by omega⟩, fun q => by have := q.2; omega⟩
          · show false = true ↔ isDyn _
            exact Iff.intro (fun q => by cases q) (fun q => absurd q.1 h)
          · refine ev_ite (fun h => ?_) (fun h => ?_)
            · refine ev_cut _ (hs.dyn (ht.1 h)) (fun y hy => ?_)
              subst hy
              exact ev_cut _ (put_ev out _ (by omega) (by omega)) (fun z hz => ev_some hz)
            · refine ev_cut _ (hs.other (fun q => h (ht.2 q))) (fun y hy => ?_)
              subst hy
              exact ev_cut _ (put_ev out _ (by omega) (by omega)) (fun z hz => ev_some hz)
        · subst hx
          refine ev_ck (inR_of (by omega) (by omega)) (ihq (j + 1) _ (by omega) ?_)
          rw [cat_take _ _ _ (by omega), ho]
    exact ev_cut _ (ev_loop (f := fun n m => ref17_body_l2 n (ref17_body n) (ref17_dynamic n) b bound m (cat ga [] b.fAttrs) 0) (loop _ 0 _ (Nat.zero_add _) rfl)) (fun x hx => ev_some hx)
  · rw [show putR f (cat gk (cat ga [] b.fAttrs) b.fBlocks) = cat gk (cat ga f b.fAttrs) b.fBlocks by rw [cat_putR, cat_putR]; rfl]
    refine ev_succ ?_
    simp only [reference_finder_body]
    refine ev_cut _ (ev_loop (f := fun n m => reference_finder_body_l1 n b bound m 0 f) (attrs_prog b.fAttrs bound ga hga f (by omega) (fun n m t out => reference_finder_body_l1 n b bound m t out) (fun n m t out => by simp only [reference_finder_body_l1]))) (fun out hout => ?_)
    subst hout
    have loop : ∀ (q j : Nat) (out : List TRef), j + q = b.fBlocks.length → out = cat gk (cat ga f b.fAttrs) (b.fBlocks.take j) → Ev2 (fun n m => reference_finder_body_l6 n (reference_finder_body n) b bound m (j : Int) out) (· = cat gk (cat ga f b.fAttrs) b.fBlocks) := by
      intro q
      induction q with
      | zero =>
        intro j out hj ho
        refine ev_round ?_
        simp only [reference_finder_body_l6]
        refine ev_ifF (by omega) (ev_some ?_)
        rw [ho, List.take_of_length_le (by omega)]
      | succ q ihq =>
        intro j out hj ho
        refine ev_round ?_
        simp only [reference_finder_body_l6]
        have hbj : (0 : Int) ≤ j ∧ (j : Int) < (b.fBlocks.length : Int) := ⟨by omega, by omega⟩
        have hm : b.fBlocks[j]'(by omega) ∈ b.fBlocks := List.getElem_mem _
        have hs := hgk _ hm
        have h1 := lk (b.fBlocks.take j) (fun _ h => List.mem_of_mem_take h) (cat ga f b.fAttrs)
        have h2 := la f
        have h3 := ksizes_take b.fBlocks j (by omega)
        have h4 := ksizes_sub b.fBlocks (j + 1)
        rw [← ho] at h1
        refine ev_ifT (by omega) ?_
        refine ev_cut _ (ev_ck hbj (hs.prog b (j : Int) (lat_get _ _ (by omega)) out (by omega))) (fun x hx => ?_)
        subst hx
        refine ev_ck (inR_of (by omega) (by omega)) (ihq (j + 1) _ (by omega) ?_)
        rw [cat_take _ _ _ (by omega), ho]
    exact ev_cut _ (ev_loop (f := fun n m => reference_finder_body_l6 n (reference_finder_body n) b bound m 0 (cat ga f b.fAttrs)) (loop _ 0 _ (Nat.zero_add _) rfl)) (fun x hx => ev_some (by rw [hx]))

theorem law_bodies (b : TBody) (hb : b.Bd) : Ev2 (fun n _ => law17_ReferenceBodies n b) (· = true) := by
  simp only [law17_ReferenceBodies]
  refine ev_cut (fun t => t = false → GoodB b ∧ bsize b ≤ 200) ?_ (fun t ht => ?_)
  · refine ev_cut _ (bsmall_tot b hb) (fun r hr => ev_ite (fun _ => ev_some fun h => by cases h) (fun h => ?_))
    simp only [ref15_Check]
    refine ev_cut (fun r4 => r4 = 0 → GoodB b) (ev_cut _ (bcheck_tot b hb 0 (by omega) (by omega)) (fun x hx => ev_some hx)) (fun x hx => ev_some fun q => ⟨hx ?_, hr (by simpa using h)⟩)
    simpa using q
  refine ev_ite (fun _ => ev_cut _ awake_ev (fun x hx => ev_some hx)) (fun h => ?_)
  obtain ⟨hg, hn⟩ := ht (by simpa using h)
  obtain ⟨L, hL⟩ := saysB (wB b) b (Nat.le_refl _) hg hb (by omega) [] (by simp; omega)
  have hl := hL.len
  refine ev_cut (· = true) ?_ (fun t ht => ev_some ht)
  simp only [reference_OfBody, ref17_OfBody]
  refine ev_cut (· = L) (ev_cut _ (hL.prog [] (by simp; omega)) (fun x hx => ev_some (by rw [hx]; exact hL.once))) (fun x hx => ?_)
  subst hx
  refine ev_cut (· = x) (ev_cut _ hL.ref (fun x hx => ev_some hx)) (fun y hy => ?_)
  subst hy
  refine ev_cut _ (refs_self _ (by rw [maxW_eq]; omega)) (fun t ht => ?_)
  subst ht
  exact ev_ifT rfl (ev_cut _ awake_ev (fun x hx => ev_some hx))

end Go.Ab.R17
