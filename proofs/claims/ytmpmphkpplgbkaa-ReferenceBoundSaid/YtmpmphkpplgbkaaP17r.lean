/- The plain law of ReferenceBound. -/
import Derived.Test.YtmpmphkpplgbkaaP17s
set_option linter.unusedVariables false
set_option linter.unusedSimpArgs false
set_option linter.unnecessarySimpa false
namespace Go.Ab.R17
open Go.Ab

/-! ### Root names -/
def rt (r : TRef) : Bytes := (law17_root r).getD []
theorem root_some (r : TRef) : law17_root r = some (rt r) := by
  have h : Ev2 (fun _ _ => law17_root r) (fun _ => True) := by
    simp only [law17_root]
    repeat' (first | exact ev_some trivial | refine ev_ite (fun _ => ?_) (fun _ => ?_))
  obtain ⟨_, x, hx, _⟩ := ev_get h
  rw [rt, hx]; rfl
theorem rt_same {a b : TRef} (h : sameP a b) : rt a = rt b := by
  obtain ⟨h1, h2, h3⟩ := h
  unfold rt law17_root
  rw [h1, h2, h3]
theorem begin_rt (r : TExpr) (st : List TExpr) (x : TRef) (j : Int) (h : reference_begin r st = some (x, j)) : rt x = r.fName := by
  have a0 : reference_attr st 0 = _ := attr_eq st 0
  have a1 : reference_attr st 1 = _ := attr_eq st 1
  have a2 : reference_attr st 2 = _ := attr_eq st 2
  unfold reference_begin at h
  rw [a0] at h
  by_cases h0 : isA st 0
  · simp only [h0, bd_some, if_true, Bool.not_true, Bool.false_eq_true, if_false] at h
    unfold reference_plain at h
    by_cases e1 : r.fName = [118, 97, 114]
    · simp [e1] at h; obtain ⟨rfl, _⟩ := h; simp [rt, law17_root, e1]
    by_cases e2 : r.fName = [108, 111, 99, 97, 108]
    · simp [e2] at h; obtain ⟨rfl, _⟩ := h; simp [rt, law17_root, e2]
    by_cases e3 : r.fName = [101, 97, 99, 104]
    · simp [e3] at h; obtain ⟨rfl, _⟩ := h; simp [rt, law17_root, e3]
    by_cases e4 : r.fName = [99, 111, 117, 110, 116]
    · simp [e4] at h; obtain ⟨rfl, _⟩ := h; simp [rt, law17_root, e4]
    by_cases e5 : r.fName = [114, 101, 109, 111, 116, 101]
    · simp [e5] at h; obtain ⟨rfl, _⟩ := h; simp [rt, law17_root, e5]
    by_cases e6 : r.fName = [109, 111, 100, 117, 108, 101]
    · unfold reference_module at h
      rw [a1, a2] at h
      by_cases h1 : isA st 1
      · simp [e6, h1] at h; obtain ⟨rfl, _⟩ := h; simp [rt, law17_root, e6]
      · by_cases h2 : isA st 2
        · simp [e6, h1, h2] at h; obtain ⟨rfl, _⟩ := h; simp [rt, law17_root, e6]
        · simp [e6, h1, h2] at h; obtain ⟨rfl, _⟩ := h; simp [rt, law17_root, e6]
    by_cases e7 : r.fName = [100, 97, 116, 97]
    · rw [a1] at h
      by_cases h1 : isA st 1
      · simp [e7, h1] at h; obtain ⟨rfl, _⟩ := h; simp [rt, law17_root, e7]
      · simp [e7, h1] at h; obtain ⟨rfl, _⟩ := h; simp [rt, law17_root, e7]
    simp [e1, e2, e3, e4, e5, e6, e7] at h; obtain ⟨rfl, _⟩ := h; simp [rt, law17_root]
  · simp [h0] at h; obtain ⟨rfl, _⟩ := h; simp [rt, law17_root]

/-! ### Replacing a root name -/
mutual
def ren (n m : Bytes) : TExpr → TExpr
  | .mk k o nm key v kids p => .mk k o (if k = 3 ∧ nm = n then m else nm) key v (if (k = 12 ∨ k = 13) ∧ (nm = n ∨ key = n) then renF n m kids else renL n m kids) p
def renL (n m : Bytes) : List TExpr → List TExpr
  | [] => []
  | k :: r => ren n m k :: renL n m r
def renF (n m : Bytes) : List TExpr → List TExpr
  | [] => []
  | k :: r => ren n m k :: r
end
section
variable (n m : Bytes)
def binds (e : TExpr) : Prop := (e.fKind = 12 ∨ e.fKind = 13) ∧ (e.fName = n ∨ e.fKey = n)
instance (e : TExpr) : Decidable (binds n e) := inferInstanceAs (Decidable (_ ∧ _))
theorem renL_eq (l : List TExpr) : renL n m l = l.map (ren n m) := by
  induction l with
  | nil => rw [renL]; rfl
  | cons x r ih => rw [renL, ih]; rfl
theorem ren_kind (e : TExpr) : (ren n m e).fKind = e.fKind := by cases e; rw [ren]; rfl
theorem ren_op (e : TExpr) : (ren n m e).fOp = e.fOp := by cases e; rw [ren]; rfl
theorem ren_key (e : TExpr) : (ren n m e).fKey = e.fKey := by cases e; rw [ren]; rfl
theorem ren_value (e : TExpr) : (ren n m e).fValue = e.fValue := by cases e; rw [ren]; rfl
theorem ren_at (e : TExpr) : (ren n m e).fAt = e.fAt := by cases e; rw [ren]; rfl
theorem ren_name (e : TExpr) : (ren n m e).fName = if e.fKind = 3 ∧ e.fName = n then m else e.fName := by cases e; rw [ren]; rfl
theorem ren_kids (e : TExpr) : (ren n m e).fKids = if binds n e then renF n m e.fKids else e.fKids.map (ren n m) := by
  cases e; rw [ren, renL_eq]; rfl
theorem ren_kids' (e : TExpr) (h : ¬binds n e) : (ren n m e).fKids = e.fKids.map (ren n m) := by rw [ren_kids, if_neg h]
theorem renF_len (l : List TExpr) : (renF n m l).length = l.length := by cases l <;> simp [renF]
theorem ren_len (e : TExpr) : (ren n m e).fKids.length = e.fKids.length := by
  rw [ren_kids]; split
  · exact renF_len n m _
  · simp
theorem renF_get (l : List TExpr) (i : Nat) (h : i < l.length) : (renF n m l)[i]? = some (if 0 < i then l[i] else ren n m l[i]) := by
  cases l with
  | nil => simp at h
  | cons x r =>
    cases i with
    | zero => simp [renF]
    | succ i => simp only [List.length_cons] at h; simp [renF]
theorem ren_get (e : TExpr) (i : Nat) (h : i < e.fKids.length) : (ren n m e).fKids[i]? = some (if binds n e ∧ 0 < i then e.fKids[i] else ren n m e.fKids[i]) := by
  rw [ren_kids]
  by_cases hb : binds n e
  · rw [if_pos hb, renF_get n m _ i h]
    by_cases h0 : 0 < i
    · rw [if_pos h0, if_pos ⟨hb, h0⟩]
    · rw [if_neg h0, if_neg (fun q => h0 q.2)]
  · rw [if_neg hb, if_neg (fun q => hb q.1)]
    simp [h]
theorem ren_mem (e : TExpr) {k' : TExpr} (h : k' ∈ (ren n m e).fKids) : ∃ k ∈ e.fKids, k' = ren n m k ∨ k' = k := by
  obtain ⟨i, hi⟩ := List.mem_iff_getElem?.1 h
  have hl : i < e.fKids.length := by rw [← ren_len n m]; exact (List.getElem?_eq_some_iff.1 hi).1
  rw [ren_get n m e i hl] at hi
  cases hi
  refine ⟨e.fKids[i], List.getElem_mem hl, ?_⟩
  split
  · exact .inr rfl
  · exact .inl rfl
theorem ren_good (e : TExpr) : Good e → Good (ren n m e) := by
  induction e using expr_ind with
  | h e ih =>
  intro hg
  obtain ⟨s1, s2, s3⟩ := hg.shape
  refine .mk ⟨by rw [ren_kind, ren_len]; exact s1, by rw [ren_kind, ren_key]; exact s2, ?_⟩ fun k' hk' => ?_
  · rw [ren_kind, ren_name]
    split
    · rename_i h; exact fun _ => .inl h.1
    · exact s3
  · obtain ⟨k, hk, rfl | rfl⟩ := ren_mem n m e hk'
    · exact ih k hk (hg.kid hk)
    · exact hg.kid hk
theorem ren_be (hm : m.length ≤ maxW) (e : TExpr) : BE e → BE (ren n m e) := by
  induction e using expr_ind with
  | h e ih =>
  intro hb
  obtain ⟨h1, h2, h3, h4, h5⟩ := hb
  refine .mk ?_ (by rw [ren_key]; exact h2) (by rw [ren_value]; exact h3) (by rw [ren_len]; exact h4) fun k' hk' => ?_
  · rw [ren_name]; split
    · exact hm
    · exact h1
  · obtain ⟨k, hk, rfl | rfl⟩ := ren_mem n m e hk'
    · exact ih k hk (h5 k hk)
    · exact h5 _ hk
theorem nodesL_map (l : List TExpr) (h : ∀ k ∈ l, nodes (ren n m k) = nodes k) : nodesL (l.map (ren n m)) = nodesL l := by
  induction l with
  | nil => rfl
  | cons x r ih => simp only [List.map_cons, nodesL]; rw [h x (by simp), ih fun k hk => h k (by simp [hk])]
theorem ren_nodes (e : TExpr) : nodes (ren n m e) = nodes e := by
  induction e using expr_ind with
  | h e ih =>
  rw [nodes_eq, nodes_eq e, ren_kids]
  congr 1
  split
  · cases hk : e.fKids with
    | nil => rfl
    | cons x r => simp only [renF, nodesL]; rw [ih x (by rw [hk]; simp)]
  · exact nodesL_map n m _ ih

theorem renamed_ev (e : TExpr) : BE e → nodes e ≤ 5000 → Ev2 (fun f _ => law17_renamed f e n m) (· = ren n m e) := by
  induction e using expr_ind with
  | h e ih =>
  intro hb hn
  obtain ⟨_, _, _, hl, hk⟩ := hb
  have hne := nodes_eq e
  have hnl := nodesL_len e.fKids
  refine ev_succ ?_
  simp only [law17_renamed]
  refine ev_cut (· = (ren n m e).fName) ?_ (fun nm hnm => ?_)
  · rw [ren_name]
    refine ev_cut (fun t => t = true ↔ e.fKind = 3 ∧ e.fName = n) (ev_ite (fun h3 => ev_some ?_) (fun h3 => ev_some ?_)) (fun t ht => ev_ite (fun h => ev_some ?_) (fun h => ev_some ?_))
    · rw [decide_eq_true_iff]; exact ⟨fun h => ⟨h3, h⟩, fun h => h.2⟩
    · show false = true ↔ _
      exact Iff.intro (fun h => by cases h) (fun h => absurd h.1 h3)
    · rw [if_pos (ht.1 h)]
    · rw [if_neg (fun q => h (ht.2 q))]
  subst hnm
  refine ev_cut (fun t => t = true ↔ binds n e) ?_ (fun lp hlp => ?_)
  · refine ev_ite (fun h12 => ev_ite (fun hn1 => ev_some ?_) (fun hn1 => ev_some ?_)) (fun h12 => ev_ite (fun h13 => ev_ite (fun hn1 => ev_some ?_) (fun hn1 => ev_some ?_)) (fun h13 => ev_some ?_))
    · simp [binds, h12, hn1]
    · rw [decide_eq_true_iff]; simp [binds, h12, hn1]
    · simp [binds, h13, hn1]
    · rw [decide_eq_true_iff]; simp [binds, h13, hn1]
    · simp [binds, h12, h13]
  have loop : ∀ (k i : Nat) (f : List TExpr), i + k = e.fKids.length → f = (ren n m e).fKids.take i → Ev2 (fun q mm => law17_renamed_l1 (law17_renamed q) e n m lp mm (i : Int) f) (· = (ren n m e).fKids) := by
    intro k
    induction k with
    | zero =>
      intro i f hi hf
      refine ev_round ?_
      simp only [law17_renamed_l1]
      refine ev_ifF (by omega) (ev_some ?_)
      rw [hf, List.take_of_length_le (by rw [ren_len]; omega)]
    | succ k ihk =>
      intro i f hi hf
      refine ev_round ?_
      simp only [law17_renamed_l1]
      have hbd : (0 : Int) ≤ i ∧ (i : Int) < (e.fKids.length : Int) := ⟨by omega, by omega⟩
      have hfl : f.length ≤ i := by rw [hf]; simp; omega
      have hget := ren_get n m e i (by omega)
      have hm := lat_mem (l := e.fKids) hbd
      refine ev_ifT (by omega) (ev_cut (· = (ren n m e).fKids.take (i + 1)) ?_ (fun x hx => ?_))
      · rw [List.take_add_one, ← hf, hget]
        refine ev_cut (fun t => t = true ↔ binds n e ∧ 0 < i) (ev_ite (fun h => ev_some ?_) (fun h => ev_some ?_)) (fun t ht => ev_ite (fun h => ?_) (fun h => ?_))
        · rw [decide_eq_true_iff]; have := hlp.1 h; simp [this]
        · show false = true ↔ _
          exact Iff.intro (fun q => by cases q) (fun q => absurd (hlp.2 q.1) h)
        · refine ev_ck hbd (ev_ck (by simp; omega) (ev_some ?_))
          rw [if_pos (ht.1 h), lat_get _ _ (by omega)]; rfl
        · refine ev_ck hbd ?_
          refine ev_cut _ (ih _ hm (hk _ hm) (by have := nodesL_mem hm; omega)) (fun r hr => ?_)
          subst hr
          refine ev_ck (by simp; omega) (ev_some ?_)
          rw [if_neg (fun q => h (ht.2 q)), lat_get _ _ (by omega)]; rfl
      · subst hx
        exact ev_ck (inR_succ hbd hl) (ihk (i + 1) _ (by omega) rfl)
  refine ev_cut _ (ev_loop (f := fun q mm => law17_renamed_l1 (law17_renamed q) e n m lp mm 0 []) (loop e.fKids.length 0 [] (by omega) rfl)) (fun x hx => ev_some ?_)
  rw [hx, ← ren_kind n m e, ← ren_op n m e, ← ren_key n m e, ← ren_value n m e, ← ren_at n m e]
  exact TExpr.eta _
end

/-! ### What does not occur; names -/
inductive NoOcc (m : Bytes) : TExpr → Prop
  | mk {e : TExpr} (h1 : e.fName ≠ m) (h2 : e.fKey ≠ m) (h : ∀ k ∈ e.fKids, NoOcc m k) : NoOcc m e
inductive Nm : TExpr → Prop
  | mk {e : TExpr} (h1 : e.fKind = 3 → e.fName ≠ []) (h : ∀ k ∈ e.fKids, Nm k) : Nm e
theorem NoOcc.kid {m : Bytes} {e : TExpr} (h : NoOcc m e) : ∀ k ∈ e.fKids, NoOcc m k := by cases h; assumption
theorem NoOcc.name {m : Bytes} {e : TExpr} (h : NoOcc m e) : e.fName ≠ m := by cases h; assumption
theorem NoOcc.key {m : Bytes} {e : TExpr} (h : NoOcc m e) : e.fKey ≠ m := by cases h; assumption
theorem Nm.kid {e : TExpr} (h : Nm e) : ∀ k ∈ e.fKids, Nm k := by cases h; assumption
theorem Nm.name {e : TExpr} (h : Nm e) : e.fKind = 3 → e.fName ≠ [] := by cases h; assumption

theorem occurs_ev (m : Bytes) (e : TExpr) : BE e → Ev2 (fun f _ => law17_occurs f e m) (fun r => r = false → NoOcc m e) := by
  induction e using expr_ind with
  | h e ih =>
  intro hb
  obtain ⟨_, _, _, hl, hk⟩ := hb
  refine ev_succ ?_
  simp only [law17_occurs]
  refine ev_cut (fun t => t = false → e.fName ≠ m ∧ e.fKey ≠ m) (ev_ite (fun _ => ev_some fun h => by cases h) (fun h1 => ev_some fun h2 => ⟨h1, of_decide_eq_false h2⟩)) (fun t ht => ?_)
  refine ev_ite (fun _ => ev_some fun h => by cases h) (fun h => ?_)
  obtain ⟨h1, h2⟩ := ht (by simpa using h)
  have loop : ∀ (k i : Nat), i + k = e.fKids.length → (∀ (j : Nat) (hj : j < e.fKids.length), j < i → NoOcc m e.fKids[j]) → Ev2 (fun f mm => law17_occurs_l1 (law17_occurs f) e m mm (i : Int)) (fun r => match r with | .inl _ => NoOcc m e | .inr b => b = true) := by
    intro k
    induction k with
    | zero =>
      intro i hi hg
      refine ev_round ?_
      simp only [law17_occurs_l1]
      refine ev_ifF (by omega) (ev_some ?_)
      refine .mk h1 h2 fun x hx => ?_
      obtain ⟨j, hj, rfl⟩ := List.getElem_of_mem hx
      exact hg j hj (by omega)
    | succ k ihk =>
      intro i hi hg
      refine ev_round ?_
      simp only [law17_occurs_l1]
      have hbd : (0 : Int) ≤ i ∧ (i : Int) < (e.fKids.length : Int) := ⟨by omega, by omega⟩
      have hm := lat_mem (l := e.fKids) hbd
      refine ev_ifT (by omega) (ev_ck hbd (ev_cut _ (ih _ hm (hk _ hm)) (fun x hx => ev_ite (fun _ => ev_some rfl) (fun hx1 => ev_ck (inR_succ hbd hl) (ihk (i + 1) (by omega) (fun j hj hji => ?_))))))
      rcases Nat.lt_or_ge j i with q | q
      · exact hg j hj q
      · obtain rfl : j = i := by omega
        have := hx (by simpa using hx1)
        rwa [lat_get _ _ hj] at this
  refine ev_jn (ev_mono (ev_loop (f := fun f mm => law17_occurs_l1 (law17_occurs f) e m mm 0) (loop e.fKids.length 0 (by omega) (fun j _ h => absurd h (Nat.not_lt_zero _)))) fun r hr => ?_)
  cases r with
  | inl _ => exact ev_some fun _ => hr
  | inr b => exact fun h => by rw [hr] at h; cases h

theorem ident_ne (s : Bytes) (hs : s.length ≤ maxW) : Ev2 (fun n _ => ref06_Identifier n s) (fun r => r = true → s ≠ []) := by
  by_cases h : s = []
  · simp only [ref06_Identifier]
    refine ev_cut (· = true) (ev_ifT h (ev_some rfl)) (fun t ht => ?_)
    exact ev_ifT ht (ev_some fun q => by cases q)
  · exact ev_mono (ident_tot s hs) fun _ _ _ => h
theorem enode_name (e : TExpr) (he : BE e) : Ev2 (fun n _ => ref14_node n e) (fun r => r = 0 → e.fKind = 3 → e.fName ≠ []) := by
  obtain ⟨hn, hk, hv, _, _⟩ := he
  simp only [ref14_node]
  refine ev_cut _ (shaped_tot e) (fun b hb => ?_)
  refine ev_ite (fun _ => ev_some fun h => by cases h) (fun h => ?_)
  refine ev_ite (fun h1 => ?_) (fun _ => ?_)
  · exact ev_cut _ (vCheck_tot _ hv) (fun _ _ => ev_some fun _ h3 => by omega)
  · refine ev_cut (fun t => t = false → e.fKind = 3 → e.fName ≠ []) ?_ (fun t ht => ?_)
    · refine ev_cut _ (named_tot _) (fun x hx => ev_ite (fun _ => ?_) (fun hx1 => ev_some fun _ h3 => absurd (hx.2 (.inl h3)) hx1))
      refine ev_cut _ (ident_ne _ hn) (fun y hy => ev_ite (fun _ => ev_some fun h => by cases h) (fun hy1 => ?_))
      have := hy (by simpa using hy1)
      refine ev_mono (P := fun _ => True) (ev_ite (fun _ => ev_some trivial) (fun _ => ?_)) (fun _ _ _ _ => this)
      exact ev_cut _ (reserved_tot _) (fun _ _ => ev_some trivial)
    · refine ev_ite (fun _ => ev_some fun h => by cases h) (fun h => ?_)
      have := ht (by simpa using h)
      refine ev_mono (P := fun _ => True) ?_ (fun _ _ _ => this)
      refine ev_cut (fun _ => True) ?_ (fun _ _ => ev_ite (fun _ => ev_some trivial) (fun _ => ev_some trivial))
      refine ev_ite (fun _ => ev_some trivial) (fun _ => ?_)
      exact ev_cut _ (name_tot _ hk) (fun _ _ => ev_some trivial)
theorem echeck_nm (e : TExpr) : BE e → ∀ (level before : Int), 0 ≤ level → 0 ≤ before → before ≤ 4096 → Ev2 (fun n _ => ref14_check n e level before) (fun r => 0 ≤ r.2 ∧ r.2 ≤ 4096 ∧ (r.1 = 0 → Nm e)) := by
  induction e using expr_ind with
  | h e ih =>
  intro he level before hl hb hb2
  have he' := he
  obtain ⟨_, _, _, hll, hkk⟩ := he'
  refine ev_succ ?_
  simp only [ref14_check]
  refine ev_ite (fun _ => ev_some ⟨by show (0 : Int) ≤ 0; omega, by show (0 : Int) ≤ 4096; omega, fun h => by cases h⟩) (fun hlev => ev_ite (fun _ => ev_some ⟨by show (0 : Int) ≤ 0; omega, by show (0 : Int) ≤ 4096; omega, fun h => by cases h⟩) (fun hbe => ?_))
  refine ev_cut _ (enode_name e he) (fun r hr => ev_ck (inR_of (by omega) (by omega)) ?_)
  have loop : ∀ (k : Nat) (k17 n18 : Int) (i : Nat), i + k = e.fKids.length → 0 ≤ n18 → n18 ≤ 4096 → (k17 = 0 → (e.fKind = 3 → e.fName ≠ []) ∧ ∀ (j : Nat) (hj : j < e.fKids.length), j < i → Nm e.fKids[j]) → Ev2 (fun n m => ref14_check_l1 (ref14_check n) e level m k17 n18 (i : Int)) (fun r => 0 ≤ r.2 ∧ r.2 ≤ 4096 ∧ (r.1 = 0 → Nm e)) := by
    intro k
    induction k with
    | zero =>
      intro k17 n18 i hi h1 h2 h3
      refine ev_round ?_
      simp only [ref14_check_l1]
      refine ev_cut (· = false) (ev_ifF (by omega) (ev_some rfl)) (fun t ht => ?_)
      subst ht
      refine ev_ifF (by simp) (ev_some ⟨h1, h2, fun h => ?_⟩)
      obtain ⟨a, b⟩ := h3 h
      refine .mk a fun x hx => ?_
      obtain ⟨j, hj, rfl⟩ := List.getElem_of_mem hx
      exact b j hj (by omega)
    | succ k ihk =>
      intro k17 n18 i hi h1 h2 h3
      refine ev_round ?_
      simp only [ref14_check_l1]
      refine ev_cut (fun t => t = true ↔ k17 = 0) (ev_ifT (by omega) (ev_some (by simp))) (fun t ht => ?_)
      refine ev_ite (fun h => ?_) (fun h => ev_some ⟨h1, h2, fun q => absurd (ht.2 q) h⟩)
      have h0 := ht.1 h
      have hbd : (0 : Int) ≤ i ∧ (i : Int) < (e.fKids.length : Int) := ⟨by omega, by omega⟩
      refine ev_ck hbd (ev_ck (inR_of (by omega) (by omega)) ?_)
      have hm := lat_mem (l := e.fKids) hbd
      refine ev_cut _ (ih _ hm (hkk _ hm) (level + 1) n18 (by omega) h1 h2) (fun x hx => ev_ck (inR_succ hbd hll) ?_)
      obtain ⟨x1, x2, x3⟩ := hx
      refine ihk x.1 x.2 (i + 1) (by omega) x1 x2 (fun hx0 => ?_)
      obtain ⟨a, b⟩ := h3 h0
      refine ⟨a, fun j hj hji => ?_⟩
      rcases Nat.lt_or_ge j i with q | q
      · exact b j hj q
      · obtain rfl : j = i := by omega
        have := x3 hx0
        rwa [lat_get _ _ hj] at this
  refine ev_cut _ (ev_loop (loop e.fKids.length r (before + 1) 0 (by omega) (by omega) (by omega) (fun h => ⟨hr h, fun j _ hj => absurd hj (Nat.not_lt_zero _)⟩))) (fun x hx => ev_some hx)
theorem right_nm (e : TExpr) (he : BE e) : Ev2 (fun n _ => law17_right n e) (fun r => r = true → Nm e) := by
  simp only [law17_right]
  refine ev_cut (fun r => r = true → Nm e) ?_ (fun _ h => ev_some h)
  refine ev_cut _ (small_tot e he 200 (by omega)) (fun b _ => ?_)
  refine ev_ite (fun h => ?_) (fun _ => ev_some fun h => by cases h)
  simp only [ref14_Check]
  refine ev_cut (fun r => r = 0 → Nm e) (ev_cut _ (echeck_nm e he 1 0 (by omega) (by omega) (by omega)) (fun x hx => ev_some hx.2.2)) (fun c hc => ev_some fun q => hc (of_decide_eq_true q))

/-! ### The references of an expression are one list -/
theorem F_congr {g g' : TExpr → List TRef} (l : List TExpr) (h : ∀ k ∈ l, g k = g' k) : ∀ acc : List TRef, F g acc l = F g' acc l := by
  induction l with
  | nil => intro acc; rfl
  | cons k r ih => intro acc; show F g (putR acc (g k)) r = F g' (putR acc (g' k)) r; rw [h k (by simp), ih fun x hx => h x (by simp [hx])]
theorem sem_det {e : TExpr} {b : List Bytes} {L : List TRef} (h : Sem e b L) : ∀ {L' : List TRef}, Sem e b L' → L = L' := by
  induction h with
  | @name e r s bound x j g hc h1 h3 hx hk ihk =>
    intro L' h'
    cases h' with
    | @name _ r' s' _ x' j' g' hc' h1' h3' hx' hk' =>
      obtain ⟨rfl, rfl⟩ := h1.det h1'
      rw [hx] at hx'
      cases hx'
      rw [F_congr _ fun k hkm => ihk k hkm (hk' k hkm)]
    | @chain _ r' s' _ A' g' hc' h1' h3' hr' hk' => obtain ⟨rfl, rfl⟩ := h1.det h1'; exact absurd h3 h3'
    | loop g' hc' => omega
    | other g' hc' => omega
  | @chain e r s bound A g hc h1 h3 hr hk ihr ihk =>
    intro L' h'
    cases h' with
    | @name _ r' s' _ x' j' g' hc' h1' h3' hx' hk' => obtain ⟨rfl, rfl⟩ := h1.det h1'; exact absurd h3' h3
    | @chain _ r' s' _ A' g' hc' h1' h3' hr' hk' =>
      obtain ⟨rfl, rfl⟩ := h1.det h1'
      rw [ihr hr', F_congr _ fun k hkm => ihk k hkm (hk' k hkm)]
    | loop g' hc' => omega
    | other g' hc' => omega
  | @loop e k0 rest bound A g hc hkr h0 hk ih0 ihk =>
    intro L' h'
    cases h' with
    | name g' hc' => omega
    | chain g' hc' => omega
    | @loop _ k0' rest' _ A' g' hc' hkr' h0' hk' =>
      rw [hkr] at hkr'
      cases hkr'
      rw [ih0 h0', F_congr _ fun k hkm => ihk k hkm (hk' k hkm)]
    | other g' hc' => omega
  | @other e bound g hc hk ihk =>
    intro L' h'
    cases h' with
    | name g' hc' => omega
    | chain g' hc' => omega
    | loop g' hc' => omega
    | @other _ _ g' hc' hk' => rw [F_congr _ fun k hkm => ihk k hkm (hk' k hkm)]

/-! ### Members -/
theorem mem_addR {l : List TRef} {x y : TRef} (h : y ∈ addR l x) : y ∈ l ∨ y = x := by
  unfold addR at h
  split at h
  · exact .inl h
  · rcases List.mem_append.1 h with h | h
    · exact .inl h
    · exact .inr (by simpa using h)
theorem mem_putR {m : List TRef} : ∀ {l : List TRef} {y : TRef}, y ∈ putR l m → y ∈ l ∨ y ∈ m := by
  induction m with
  | nil => intro l y h; exact .inl h
  | cons x r ih =>
    intro l y h
    rcases ih h with h | h
    · rcases mem_addR h with h | rfl
      · exact .inl h
      · exact .inr (by simp)
    · exact .inr (by simp [h])
theorem mem_F {g : TExpr → List TRef} {l : List TExpr} : ∀ {acc : List TRef} {y : TRef}, y ∈ F g acc l → y ∈ acc ∨ ∃ k ∈ l, y ∈ g k := by
  induction l with
  | nil => intro acc y h; exact .inl h
  | cons k r ih =>
    intro acc y h
    rcases ih h with h | ⟨q, h1, h2⟩
    · rcases mem_putR h with h | h
      · exact .inl h
      · exact .inr ⟨k, by simp, h⟩
    · exact .inr ⟨q, by simp [h1], h2⟩
theorem ch_sub {P : TExpr → Prop} (hP : ∀ e, P e → ∀ k ∈ e.fKids, P k) {e r : TExpr} {s : List TExpr} (h : Ch e r s) : P e → P r ∧ ∀ q ∈ s.reverse.flatMap idx, P q := by
  have key : P e → P r ∧ ∀ t ∈ s, P t := by
    induction h with
    | stop => intro h; exact ⟨h, by simp⟩
    | @step e k r s h hk hr ih =>
      intro he
      obtain ⟨h1, h2⟩ := ih (hP e he k (kid_of_get hk))
      refine ⟨h1, fun t ht => ?_⟩
      rcases List.mem_cons.1 ht with rfl | ht
      · exact he
      · exact h2 t ht
  intro he
  obtain ⟨h1, h2⟩ := key he
  refine ⟨h1, fun q hq => ?_⟩
  obtain ⟨t, ht, hqt⟩ := List.mem_flatMap.1 hq
  refine hP t (h2 t (List.mem_reverse.1 ht)) q ?_
  unfold idx at hqt
  split at hqt
  · exact kid_of_get (j := 1) (by simpa using hqt)
  · simp at hqt

/-- Roots are names that occur and are not bound. -/
theorem sem_roots (m : Bytes) {e : TExpr} {b : List Bytes} {L : List TRef} (h : Sem e b L) : NoOcc m e → Nm e → ∀ r ∈ L, rt r ∉ b ∧ rt r ≠ m ∧ rt r ≠ [] := by
  induction h with
  | @name e r s bound x j g hc h1 h3 hx hk ihk =>
    intro ho hm y hy
    obtain ⟨o1, o2⟩ := ch_sub (fun e h => h.kid) h1 ho
    obtain ⟨n1, n2⟩ := ch_sub (fun e h => h.kid) h1 hm
    rcases mem_putR hy with hy | hy
    · split at hy
      · cases hy
      · rename_i hb
        have : y = x := by simpa using hy
        subst this
        rw [begin_rt _ _ _ _ hx]
        exact ⟨hb, o1.name, n1.name h3⟩
    · rcases mem_F hy with hy | ⟨k, hkm, hy⟩
      · cases hy
      · exact ihk k hkm (o2 k hkm) (n2 k hkm) y hy
  | @chain e r s bound A g hc h1 h3 hr hk ihr ihk =>
    intro ho hm y hy
    obtain ⟨o1, o2⟩ := ch_sub (fun e h => h.kid) h1 ho
    obtain ⟨n1, n2⟩ := ch_sub (fun e h => h.kid) h1 hm
    rcases mem_putR hy with hy | hy
    · exact ihr o1 n1 y hy
    · rcases mem_F hy with hy | ⟨k, hkm, hy⟩
      · cases hy
      · exact ihk k hkm (o2 k hkm) (n2 k hkm) y hy
  | @loop e k0 rest bound A g hc hkr h0 hk ih0 ihk =>
    intro ho hm y hy
    have hmem : ∀ k ∈ k0 :: rest, k ∈ e.fKids := fun k hk => by rw [hkr]; exact hk
    rcases mem_putR hy with hy | hy
    · exact ih0 (ho.kid _ (hmem k0 (by simp))) (hm.kid _ (hmem k0 (by simp))) y hy
    · rcases mem_F hy with hy | ⟨k, hkm, hy⟩
      · cases hy
      · obtain ⟨q1, q2, q3⟩ := ihk k hkm (ho.kid _ (hmem k (by simp [hkm]))) (hm.kid _ (hmem k (by simp [hkm]))) y hy
        refine ⟨fun h => q1 ?_, q2, q3⟩
        unfold innerOf
        split <;> simp [h]
  | @other e bound g hc hk ihk =>
    intro ho hm y hy
    rcases mem_F hy with hy | ⟨k, hkm, hy⟩
    · cases hy
    · exact ihk k hkm (ho.kid k hkm) (hm.kid k hkm) y hy

/-! ### What replacing a root name does to the references -/
structure Rl (n m : Bytes) (L L' : List TRef) : Prop where
  same : (∀ r ∈ L, rt r ≠ n) → L' = L
  hit : (∃ r ∈ L, rt r = n) → ∃ r ∈ L', rt r = m
  no : ∀ r ∈ L, rt r ≠ m
section
variable {n m : Bytes}
theorem rl_nil : Rl n m [] [] := ⟨fun _ => rfl, fun ⟨_, h, _⟩ => (by cases h), fun _ h => (by cases h)⟩
theorem rl_put {A A' B B' : List TRef} (ha : Rl n m A A') (hb : Rl n m B B') : Rl n m (putR A B) (putR A' B') := by
  refine ⟨fun h => ?_, fun ⟨r, hr, he⟩ => ?_, fun r hr => ?_⟩
  · have h1 : ∀ r ∈ A, rt r ≠ n := fun r hr => by
      obtain ⟨z, hz⟩ := putR_prefix B A
      exact h r (by rw [hz]; simp [hr])
    have h2 : ∀ r ∈ B, rt r ≠ n := fun r hr => by
      obtain ⟨y, hy, hs⟩ := hasR_of_mem (l := A) ⟨r, hr, sameP.refl r⟩
      rw [← rt_same hs]; exact h y hy
    rw [ha.same h1, hb.same h2]
  · rcases mem_putR hr with hr | hr
    · obtain ⟨y, hy, hm⟩ := ha.hit ⟨r, hr, he⟩
      obtain ⟨z, hz⟩ := putR_prefix B' A'
      exact ⟨y, by rw [hz]; simp [hy], hm⟩
    · obtain ⟨y, hy, hm⟩ := hb.hit ⟨r, hr, he⟩
      obtain ⟨z, hz, hs⟩ := hasR_of_mem (l := A') ⟨y, hy, sameP.refl y⟩
      exact ⟨z, hz, by rw [rt_same hs]; exact hm⟩
  · rcases mem_putR hr with hr | hr
    · exact ha.no r hr
    · exact hb.no r hr
theorem rl_F {g h : TExpr → List TRef} (l : List TExpr) (hg : ∀ k ∈ l, Rl n m (g k) (h k)) : ∀ {A A' : List TRef}, Rl n m A A' → Rl n m (F g A l) (F h A' l) := by
  induction l with
  | nil => intro A A' ha; exact ha
  | cons k r ih => intro A A' ha; exact ih (fun x hx => hg x (by simp [hx])) (rl_put ha (hg k (by simp)))
theorem rl_self {L : List TRef} (h1 : ∀ r ∈ L, rt r ≠ n) (h2 : ∀ r ∈ L, rt r ≠ m) : Rl n m L L := ⟨fun _ => rfl, fun ⟨r, hr, he⟩ => absurd he (h1 r hr), h2⟩
theorem F_map {g : TExpr → List TRef} (f : TExpr → TExpr) (l : List TExpr) : ∀ acc : List TRef, F g acc (l.map f) = F (fun k => g (f k)) acc l := by
  induction l with
  | nil => intro acc; rfl
  | cons k r ih => intro acc; exact ih _

theorem ch_ren {e r : TExpr} {s : List TExpr} (h : Ch e r s) : Ch (ren n m e) (ren n m r) (s.map (ren n m)) := by
  induction h with
  | stop h4 h5 => exact .stop (by rw [ren_kind]; exact h4) (by rw [ren_kind]; exact h5)
  | @step e k r s h hk hr ih =>
    refine .step (by rw [ren_kind]; exact h) ?_ ih
    rw [ren_kids' n m e (fun q => by have := q.1; omega), List.getElem?_map, hk]; rfl
theorem idx_ren (t : TExpr) : idx (ren n m t) = (idx t).map (ren n m) := by
  unfold idx
  rw [ren_kind]
  split
  · rename_i h5
    rw [ren_kids' n m t (fun q => by have := q.1; omega), List.getElem?_map]
    cases t.fKids[1]? <;> rfl
  · rfl
theorem idxs_ren (s : List TExpr) : (s.map (ren n m)).flatMap idx = (s.flatMap idx).map (ren n m) := by
  induction s with
  | nil => rfl
  | cons x l ih => simp [ih, idx_ren]
theorem attr_ren (st : List TExpr) (i : Nat) : reference_attr (st.map (ren n m)) (i : Int) = reference_attr st (i : Int) := by
  rw [attr_eq, attr_eq]
  have hl : i < st.length → lat (st.map (ren n m)) (i : Int) = ren n m (lat st (i : Int)) := fun h => by
    rw [lat_get _ _ (by simpa using h), lat_get _ _ h]; simp
  have hiff : isA (st.map (ren n m)) i ↔ isA st i := by
    constructor
    · rintro ⟨h1, h2⟩
      have h1 : i < st.length := by simpa using h1
      rw [hl h1, ren_kind] at h2
      exact ⟨h1, h2⟩
    · rintro ⟨h1, h2⟩
      refine ⟨by simpa using h1, ?_⟩
      rw [hl h1, ren_kind]; exact h2
  by_cases ha : isA st i
  · rw [if_pos ha, if_pos (hiff.2 ha), hl ha.1, ren_name, if_neg (fun q => by have := ha.2; omega)]
  · rw [if_neg ha, if_neg (fun q => ha (hiff.1 q))]
theorem begin_ren (r : TExpr) (st : List TExpr) (h : (ren n m r).fName = r.fName) : reference_begin (ren n m r) (st.map (ren n m)) = reference_begin r st := by
  have a0 : reference_attr (st.map (ren n m)) 0 = reference_attr st 0 := attr_ren st 0
  have a1 : reference_attr (st.map (ren n m)) 1 = reference_attr st 1 := attr_ren st 1
  have a2 : reference_attr (st.map (ren n m)) 2 = reference_attr st 2 := attr_ren st 2
  unfold reference_begin reference_module
  rw [a0, a1, a2, h, ren_at]

theorem sem_ren (hnm : n ≠ m) {e : TExpr} {b : List Bytes} {L : List TRef} (h : Sem e b L) : Good e → BE e → NoOcc m e → Nm e → n ∉ b → m ∉ b → m.length ≤ maxW → ∃ L', Sem (ren n m e) b L' ∧ Rl n m L L' := by
  induction h with
  | @name e r s bound x j g hc h1 h3 hx hk ihk =>
    intro hg hb ho hm hn1 hm1 hml
    obtain ⟨o1, o2⟩ := ch_sub (fun e h => h.kid) h1 ho
    obtain ⟨m1, m2⟩ := ch_sub (fun e h => h.kid) h1 hm
    have h2 := chOk_of h1 hg hb
    have hidx : (s.map (ren n m)).reverse.flatMap idx = (s.reverse.flatMap idx).map (ren n m) := by rw [← List.map_reverse, idxs_ren]
    have hks : ∀ k ∈ s.reverse.flatMap idx, ∃ L', Sem (ren n m k) bound L' ∧ Rl n m (g k) L' := by
      intro k hkm
      obtain ⟨_, q2, q3, _⟩ := sub_kid h2 hkm
      exact ihk k hkm q2 q3 (o2 k hkm) (m2 k hkm) hn1 hm1 hml
    obtain ⟨g', hg'⟩ := pickP (l := (s.map (ren n m)).reverse.flatMap idx) (P := fun y L' => Sem y bound L') (by
      intro y hy
      rw [hidx] at hy
      obtain ⟨k, hkm, rfl⟩ := List.mem_map.1 hy
      obtain ⟨L', h, _⟩ := hks k hkm
      exact ⟨L', h⟩)
    obtain ⟨⟨x', j'⟩, hx'⟩ := begin_some (ren n m r) (s.map (ren n m)).reverse
    refine ⟨_, .name g' (by rw [ren_kind]; exact hc) (ch_ren h1) (by rw [ren_kind]; exact h3) hx' hg', rl_put ?_ ?_⟩
    · by_cases hrn : r.fName = n
      · have e1 : (ren n m r).fName = m := by rw [ren_name, if_pos ⟨h3, hrn⟩]
        rw [if_neg (by rw [hrn]; exact hn1), if_neg (by rw [e1]; exact hm1)]
        have r1 := begin_rt _ _ _ _ hx
        have r2 := begin_rt _ _ _ _ hx'
        rw [hrn] at r1
        rw [e1] at r2
        refine ⟨fun h => absurd r1 (h x (by simp)), fun _ => ⟨x', by simp, r2⟩, fun q hq => ?_⟩
        have : q = x := by simpa using hq
        rw [this, r1]; exact hnm
      · have e1 : (ren n m r).fName = r.fName := by rw [ren_name, if_neg (fun q => hrn q.2)]
        rw [← List.map_reverse, begin_ren r _ e1, hx] at hx'
        cases hx'
        rw [e1]
        have r1 := begin_rt _ _ _ _ hx
        split
        · exact rl_nil
        · refine rl_self (fun q hq => ?_) (fun q hq => ?_)
          · have : q = x := by simpa using hq
            rw [this, r1]; exact hrn
          · have : q = x := by simpa using hq
            rw [this, r1]; exact o1.name
    · rw [hidx, F_map]
      refine rl_F _ (fun k hkm => ?_) rl_nil
      obtain ⟨L', hs, hr⟩ := hks k hkm
      have := sem_det hs (hg' (ren n m k) (by rw [hidx]; exact List.mem_map_of_mem hkm))
      rw [← this]; exact hr
  | @chain e r s bound A g hc h1 h3 hr hk ihr ihk =>
    intro hg hb ho hm hn1 hm1 hml
    obtain ⟨o1, o2⟩ := ch_sub (fun e h => h.kid) h1 ho
    obtain ⟨m1, m2⟩ := ch_sub (fun e h => h.kid) h1 hm
    have h2 := chOk_of h1 hg hb
    have hidx : (s.map (ren n m)).reverse.flatMap idx = (s.reverse.flatMap idx).map (ren n m) := by rw [← List.map_reverse, idxs_ren]
    have hks : ∀ k ∈ s.reverse.flatMap idx, ∃ L', Sem (ren n m k) bound L' ∧ Rl n m (g k) L' := by
      intro k hkm
      obtain ⟨_, q2, q3, _⟩ := sub_kid h2 hkm
      exact ihk k hkm q2 q3 (o2 k hkm) (m2 k hkm) hn1 hm1 hml
    obtain ⟨g', hg'⟩ := pickP (l := (s.map (ren n m)).reverse.flatMap idx) (P := fun y L' => Sem y bound L') (by
      intro y hy
      rw [hidx] at hy
      obtain ⟨k, hkm, rfl⟩ := List.mem_map.1 hy
      obtain ⟨L', h, _⟩ := hks k hkm
      exact ⟨L', h⟩)
    obtain ⟨A', hA', hAr⟩ := ihr h2.good h2.be o1 m1 hn1 hm1 hml
    refine ⟨_, .chain g' (by rw [ren_kind]; exact hc) (ch_ren h1) (by rw [ren_kind]; exact h3) hA' hg', rl_put hAr ?_⟩
    rw [hidx, F_map]
    refine rl_F _ (fun k hkm => ?_) rl_nil
    obtain ⟨L', hs, hr⟩ := hks k hkm
    have := sem_det hs (hg' (ren n m k) (by rw [hidx]; exact List.mem_map_of_mem hkm))
    rw [← this]; exact hr
  | @loop e k0 rest bound A g hc hkr h0 hk ih0 ihk =>
    intro hg hb ho hm hn1 hm1 hml
    have hb' := hb
    obtain ⟨_, _, _, _, hbk⟩ := hb'
    have hmem : ∀ k ∈ k0 :: rest, k ∈ e.fKids := fun k hk => by rw [hkr]; exact hk
    have hname : (ren n m e).fName = e.fName := by rw [ren_name, if_neg (by omega)]
    have hinner : innerOf (ren n m e) bound = innerOf e bound := by unfold innerOf; rw [hname, ren_key]
    have hk0 := hmem k0 (by simp)
    obtain ⟨A', hA', hAr⟩ := ih0 (hg.kid hk0) (hbk _ hk0) (ho.kid _ hk0) (hm.kid _ hk0) hn1 hm1 hml
    by_cases hbi : binds n e
    · refine ⟨_, .loop g (by rw [ren_kind]; exact hc) (by rw [ren_kids, if_pos hbi, hkr]; rfl) hA' (by rw [hinner]; exact hk), rl_put hAr ?_⟩
      refine rl_F _ (fun k hkm => ?_) rl_nil
      have hroots := sem_roots m (hk k hkm) (ho.kid _ (hmem k (by simp [hkm]))) (hm.kid _ (hmem k (by simp [hkm])))
      refine rl_self (fun q hq => ?_) (fun q hq => (hroots q hq).2.1)
      obtain ⟨q1, _, q3⟩ := hroots q hq
      intro hqn
      rcases hbi.2 with hb1 | hb1
      · apply q1; rw [hqn]; unfold innerOf; split <;> simp [hb1]
      · by_cases hke : e.fKey = []
        · exact q3 (by rw [hqn, ← hb1, hke])
        · apply q1; rw [hqn]; unfold innerOf; rw [if_neg hke]; simp [hb1]
    · have hn2 : n ∉ innerOf e bound := by
        have h1 : n ≠ e.fName := fun q => hbi ⟨hc, .inl q.symm⟩
        have h2 : n ≠ e.fKey := fun q => hbi ⟨hc, .inr q.symm⟩
        unfold innerOf; split <;> simp [hn1, h1, h2]
      have hm2 : m ∉ innerOf e bound := by
        have h1 : m ≠ e.fName := fun q => ho.name q.symm
        have h2 : m ≠ e.fKey := fun q => ho.key q.symm
        unfold innerOf; split <;> simp [hm1, h1, h2]
      have hks : ∀ k ∈ rest, ∃ L', Sem (ren n m k) (innerOf e bound) L' ∧ Rl n m (g k) L' := by
        intro k hkm
        have hkm' := hmem k (by simp [hkm])
        exact ihk k hkm (hg.kid hkm') (hbk _ hkm') (ho.kid _ hkm') (hm.kid _ hkm') hn2 hm2 hml
      obtain ⟨g', hg'⟩ := pickP (l := rest.map (ren n m)) (P := fun y L' => Sem y (innerOf e bound) L') (by
        intro y hy
        obtain ⟨k, hkm, rfl⟩ := List.mem_map.1 hy
        obtain ⟨L', h, _⟩ := hks k hkm
        exact ⟨L', h⟩)
      refine ⟨_, .loop (rest := rest.map (ren n m)) g' (by rw [ren_kind]; exact hc) (by rw [ren_kids' n m e hbi, hkr]; rfl) hA' (by rw [hinner]; exact hg'), rl_put hAr ?_⟩
      rw [F_map]
      refine rl_F _ (fun k hkm => ?_) rl_nil
      obtain ⟨L', hs, hr⟩ := hks k hkm
      have := sem_det hs (hg' (ren n m k) (List.mem_map_of_mem hkm))
      rw [← this]; exact hr
  | @other e bound g hc hk ihk =>
    intro hg hb ho hm hn1 hm1 hml
    have hb' := hb
    obtain ⟨_, _, _, _, hbk⟩ := hb'
    have hkids : (ren n m e).fKids = e.fKids.map (ren n m) := ren_kids' n m e (fun q => by have := q.1; omega)
    have hks : ∀ k ∈ e.fKids, ∃ L', Sem (ren n m k) bound L' ∧ Rl n m (g k) L' :=
      fun k hkm => ihk k hkm (hg.kid hkm) (hbk _ hkm) (ho.kid _ hkm) (hm.kid _ hkm) hn1 hm1 hml
    obtain ⟨g', hg'⟩ := pickP (l := (ren n m e).fKids) (P := fun y L' => Sem y bound L') (by
      intro y hy
      rw [hkids] at hy
      obtain ⟨k, hkm, rfl⟩ := List.mem_map.1 hy
      obtain ⟨L', h, _⟩ := hks k hkm
      exact ⟨L', h⟩)
    refine ⟨_, .other g' (by rw [ren_kind]; exact hc) hg', ?_⟩
    rw [hkids, F_map]
    refine rl_F _ (fun k hkm => ?_) rl_nil
    obtain ⟨L', hs, hr⟩ := hks k hkm
    have := sem_det hs (hg' (ren n m k) (by rw [hkids]; exact List.mem_map_of_mem hkm))
    rw [← this]; exact hr
end

/-! ### The law -/
theorem refers_loop (nn : Bytes) (l : List TRef) (hl : l.length ≤ maxW) : ∀ (k i : Nat) (old : Bool), i + k = l.length → Ev2 (fun _ m => law17_ReferenceBound_l1 nn l m old (i : Int)) (fun r => r = true ↔ old = true ∨ ∃ x ∈ l.drop i, rt x = nn) := by
  intro k
  induction k with
  | zero =>
    intro i old hi
    refine ev_round ?_
    simp only [law17_ReferenceBound_l1]
    refine ev_ifF (by omega) (ev_some ?_)
    rw [List.drop_of_length_le (by omega)]; simp
  | succ k ih =>
    intro i old hi
    refine ev_round ?_
    simp only [law17_ReferenceBound_l1, root_some, bd_some]
    have hb : (0 : Int) ≤ i ∧ (i : Int) < (l.length : Int) := ⟨by omega, by omega⟩
    have hd : l.drop i = l[i]'(by omega) :: l.drop (i + 1) := List.drop_eq_getElem_cons (by omega)
    refine ev_ifT (by omega) ?_
    refine ev_cut (fun t => t = true ↔ old = true ∨ rt (l[i]'(by omega)) = nn) (ev_ite (fun h => ev_some (by simp [h])) (fun h => ev_ck hb (ev_some ?_))) (fun t ht => ?_)
    · rw [lat_get _ _ (by omega), decide_eq_true_iff]
      exact ⟨fun q => .inr q, fun q => q.resolve_left h⟩
    · refine ev_ck (inR_succ hb hl) (ev_mono (ih (i + 1) t (by omega)) fun r hr => ?_)
      rw [hr, ht, hd]
      constructor
      · rintro ((h | h) | ⟨x, h1, h2⟩)
        · exact .inl h
        · exact .inr ⟨_, List.mem_cons_self .., h⟩
        · exact .inr ⟨x, List.mem_cons_of_mem _ h1, h2⟩
      · rintro (h | ⟨x, h1, h2⟩)
        · exact .inl (.inl h)
        · rcases List.mem_cons.1 h1 with rfl | h1
          · exact .inl (.inr h2)
          · exact .inr ⟨x, h1, h2⟩
theorem same_tot (a b : List TRef) (ha : a.length ≤ maxW) : Ev2 (fun n _ => law17_same n a b) (fun t => t = true → ∀ y ∈ b, ∃ x ∈ a, sameP x y) := by
  simp only [law17_same]
  refine ev_ite (fun hl => ?_) (fun _ => ev_some fun h => by cases h)
  have loop : ∀ (k i : Nat), i + k = a.length → (∀ (j : Nat) (h1 : j < a.length) (h2 : j < b.length), j < i → sameP a[j] b[j]) → Ev2 (fun _ m => law17_same_l1 a b m (i : Int)) (fun r => match r with | .inl _ => ∀ y ∈ b, ∃ x ∈ a, sameP x y | .inr t => t = false) := by
    intro k
    induction k with
    | zero =>
      intro i hi hs
      refine ev_round ?_
      simp only [law17_same_l1]
      refine ev_ifF (by omega) (ev_some fun y hy => ?_)
      obtain ⟨j, hj, rfl⟩ := List.getElem_of_mem hy
      exact ⟨a[j]'(by omega), List.getElem_mem _, hs j (by omega) hj (by omega)⟩
    | succ k ih =>
      intro i hi hs
      refine ev_round ?_
      simp only [law17_same_l1, same_dec, bd_some]
      have hb : (0 : Int) ≤ i ∧ (i : Int) < (a.length : Int) := ⟨by omega, by omega⟩
      have hb2 : (0 : Int) ≤ i ∧ (i : Int) < (b.length : Int) := ⟨by omega, by omega⟩
      refine ev_ifT (by omega) (ev_ck hb (ev_ck hb2 (ev_ite (fun _ => ev_some rfl) (fun h => ev_ck (inR_succ hb ha) (ih (i + 1) (by omega) (fun j h1 h2 hj => ?_))))))
      rcases Nat.lt_or_ge j i with q | q
      · exact hs j h1 h2 q
      · obtain rfl : j = i := by omega
        rw [lat_get a _ h1, lat_get b _ h2] at h
        simpa using h
  refine ev_jn (ev_mono (ev_loop (f := fun _ m => law17_same_l1 a b m 0) (loop a.length 0 (by omega) (fun j _ _ h => absurd h (Nat.not_lt_zero _)))) fun r hr => ?_)
  cases r with
  | inl _ => exact ev_some fun _ => hr
  | inr t => exact fun h => by rw [hr] at h; cases h

theorem law_bound (e : TExpr) (he : e.Bd) (nn : Bytes) : Ev2 (fun n _ => law17_ReferenceBound n e nn) (· = true) := by
  have hb := be_of e he
  have hzl : ([122, 122, 95, 110, 101, 119] : Bytes).length ≤ maxW := by rw [maxW_eq]; simp
  simp only [law17_ReferenceBound]
  generalize hz : ([122, 122, 95, 110, 101, 119] : Bytes) = zz at *
  refine ev_cut (fun t => t = false → Good e ∧ Nm e ∧ nodes e ≤ 200 ∧ nn ≠ zz ∧ NoOcc zz e) ?_ (fun t ht => ?_)
  · obtain ⟨r, h1, h2, h3⟩ := ev_same (right_tot e hb) (right_nm e hb)
    refine ev_cut _ h3 (fun x hx => ?_)
    subst hx
    refine ev_ite (fun _ => ev_some fun h => by cases h) (fun hx => ev_ite (fun _ => ev_some fun h => by cases h) (fun _ => ev_ite (fun _ => ev_some fun h => by cases h) (fun hne => ?_)))
    have hx : x = true := by simpa using hx
    exact ev_cut _ (occurs_ev zz e hb) (fun o ho => ev_some fun h => ⟨(h1 hx).1, h2 hx, (h1 hx).2, hne, ho h⟩)
  refine ev_ite (fun _ => ev_cut _ awake_ev (fun x hx => ev_some hx)) (fun h => ?_)
  obtain ⟨hg, hm, hn, hne, ho⟩ := ht (by simpa using h)
  obtain ⟨L, hL⟩ := sem_ex e hg hb []
  obtain ⟨L', hL', hR⟩ := sem_ren (n := nn) (m := zz) hne hL hg hb ho hm (by simp) (by simp) hzl
  have s1 := says_of hL hg hb (by omega) (by simp; omega)
  have s2 := says_of hL' (ren_good nn zz e hg) (ren_be nn zz hzl e hb) (by rw [ren_nodes]; omega) (by rw [ren_nodes]; simp; omega)
  have l1 := s1.len
  have l2 := s2.len
  rw [ren_nodes] at l2
  have o1 : Ev2 (fun n _ => reference_Of n e) (· = L) := by
    simp only [reference_Of]
    exact ev_cut _ (s1.prog [] (by simp; omega)) (fun x hx => ev_some (by rw [hx]; exact s1.once))
  have o2 : Ev2 (fun n _ => reference_Of n (ren nn zz e)) (· = L') := by
    simp only [reference_Of]
    exact ev_cut _ (s2.prog [] (by rw [ren_nodes]; simp; omega)) (fun x hx => ev_some (by rw [hx]; exact s2.once))
  refine ev_cut _ o1 (fun x hx => ?_)
  subst hx
  refine ev_cut _ (ev_loop (f := fun _ m => law17_ReferenceBound_l1 nn x m false 0) (refers_loop nn x (by rw [maxW_eq]; omega) x.length 0 false (by omega))) (fun rf hrf => ?_)
  refine ev_cut (· = true) ?_ (fun t ht => ev_some ht)
  refine ev_cut _ (renamed_ev nn zz e hb (by omega)) (fun y hy => ?_)
  subst hy
  refine ev_cut _ o2 (fun y hy => ?_)
  subst hy
  have hsame : Ev2 (fun n _ => law17_same n x y) (fun t => rf = !t) := by
    by_cases hit : ∃ r ∈ x, rt r = nn
    · have : rf = true := hrf.2 (.inr (by simpa using hit))
      subst this
      refine ev_mono (same_tot x y (by rw [maxW_eq]; omega)) fun t ht => ?_
      cases t with
      | false => rfl
      | true =>
        obtain ⟨q, hq, hqm⟩ := hR.hit hit
        obtain ⟨p, hp, hpq⟩ := ht rfl q hq
        exact absurd (by rw [rt_same hpq]; exact hqm) (hR.no p hp)
    · have hno : ∀ r ∈ x, rt r ≠ nn := fun r hr hq => hit ⟨r, hr, hq⟩
      have : rf = false := by
        cases rf with
        | false => rfl
        | true =>
          rcases hrf.1 rfl with h | ⟨r, hr, hq⟩
          · cases h
          · exact absurd hq (hno r (by simpa using hr))
      subst this
      rw [hR.same hno]
      exact ev_mono (same_ev x (by rw [maxW_eq]; omega)) fun t ht => by rw [ht]; rfl
  refine ev_cut _ hsame (fun t ht => ?_)
  exact ev_ifT (by rw [ht]; simp) (ev_cut _ awake_ev (fun x hx => ev_some hx))

end Go.Ab.R17
