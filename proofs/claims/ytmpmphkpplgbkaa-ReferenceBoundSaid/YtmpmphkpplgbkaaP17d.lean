/- Plain facts of chapter 17: what a small and valid expression is. -/
import Derived.Test.YtmpmphkpplgbkaaP17c
set_option linter.unusedVariables false
set_option linter.unusedSimpArgs false
set_option linter.unnecessarySimpa false
namespace Go.Ab.R17
open Go.Ab

mutual
def nodes : TExpr → Nat
  | .mk _ _ _ _ _ kids _ => 1 + nodesL kids
def nodesL : List TExpr → Nat
  | [] => 0
  | k :: r => nodes k + nodesL r
end
theorem nodes_eq (e : TExpr) : nodes e = 1 + nodesL e.fKids := by cases e; rw [nodes]; rfl
theorem nodes_pos (e : TExpr) : 1 ≤ nodes e := by rw [nodes_eq]; omega
theorem nodesL_append (a b : List TExpr) : nodesL (a ++ b) = nodesL a + nodesL b := by
  induction a with
  | nil => simp [nodesL]
  | cons x r ih => simp [nodesL, ih]; omega
theorem nodesL_take (l : List TExpr) (k : Nat) (h : k < l.length) : nodesL (l.take (k + 1)) = nodesL (l.take k) + nodes l[k] := by
  rw [List.take_add_one, List.getElem?_eq_getElem h, nodesL_append]; simp [nodesL]
theorem nodesL_len (l : List TExpr) : l.length ≤ nodesL l := by
  induction l with
  | nil => simp [nodesL]
  | cons x r ih => have := nodes_pos x; simp [nodesL]; omega
theorem nodesL_mem {l : List TExpr} {e : TExpr} (h : e ∈ l) : nodes e ≤ nodesL l := by
  induction l with
  | nil => cases h
  | cons x r ih =>
    simp only [nodesL]
    rcases List.mem_cons.1 h with rfl | h
    · omega
    · have := ih h; omega

theorem left_spec (e : TExpr) : BE e → ∀ (n lev : Int), 0 ≤ n → n ≤ 1000000000 → lev ≤ 1000 → Ev2 (fun f _ => ref14_left f e n lev) (fun r => -1 ≤ r ∧ r ≤ n ∧ (0 ≤ r → r = n - nodes e)) := by
  induction e using expr_ind with
  | h e ih =>
  intro he n lev hn hn2 hlev
  obtain ⟨_, _, _, hl, hk⟩ := he
  refine ev_succ ?_
  simp only [ref14_left]
  refine ev_ite (fun _ => ev_some ⟨by omega, by omega, by omega⟩) (fun hl0 => ?_)
  refine ev_ck (inR_of (by omega) (by omega)) ?_
  have loop : ∀ (k : Nat) (a : Int) (i : Nat), i + k = e.fKids.length → -1 ≤ a → a ≤ n → (0 ≤ a → a = n - 1 - nodesL (e.fKids.take i)) → Ev2 (fun f m => ref14_left_l1 (ref14_left f) e lev m a (i : Int)) (fun r => -1 ≤ r ∧ r ≤ n ∧ (0 ≤ r → r = n - nodes e)) := by
    intro k
    induction k with
    | zero =>
      intro a i hi h1 h2 h3
      refine ev_round ?_
      simp only [ref14_left_l1]
      refine ev_cut (· = false) (ev_ifF (by omega) (ev_some rfl)) (fun t ht => ?_)
      subst ht
      refine ev_ifF (by simp) (ev_some ⟨h1, h2, fun h => ?_⟩)
      rw [h3 h, nodes_eq, List.take_of_length_le (by omega)]; omega
    | succ k ihk =>
      intro a i hi h1 h2 h3
      refine ev_round ?_
      simp only [ref14_left_l1]
      refine ev_cut (fun t => t = true ↔ 0 ≤ a) (ev_ifT (by omega) (ev_some (by simp))) (fun t ht => ?_)
      refine ev_ite (fun h => ?_) (fun h => ev_some ⟨h1, h2, fun q => absurd (ht.2 q) h⟩)
      have h0 := ht.1 h
      have hb : (0 : Int) ≤ i ∧ (i : Int) < (e.fKids.length : Int) := ⟨by omega, by omega⟩
      refine ev_ck hb (ev_ck (inR_of (by omega) (by omega)) ?_)
      have hm := lat_mem (l := e.fKids) hb
      refine ev_cut _ (ih _ hm (hk _ hm) a (lev - 1) h0 (by omega) (by omega)) (fun x hx => ev_ck (inR_succ hb hl) ?_)
      obtain ⟨x1, x2, x3⟩ := hx
      refine ihk x (i + 1) (by omega) x1 (by omega) (fun hx0 => ?_)
      rw [x3 hx0, nodesL_take _ _ (by omega), h3 h0, lat_get _ _ (by omega)]
      omega
  refine ev_cut _ (ev_loop (loop e.fKids.length (n - 1) 0 (by omega) (by omega) (by omega) (fun _ => by simp [nodesL]))) (fun x hx => ev_some hx)

theorem small_tot (e : TExpr) (he : BE e) (n : Nat) (hn : n ≤ 1000000000) : Ev2 (fun f _ => ref14_Small f e n) (fun r => r = true → nodes e ≤ n) := by
  simp only [ref14_Small]
  refine ev_cut _ (left_spec e he n 40 (by omega) (by omega) (by omega)) (fun x hx => ev_some fun h => ?_)
  obtain ⟨h1, h2, h3⟩ := hx
  have h0 := of_decide_eq_true h
  have := h3 h0
  omega

/-! ### The check of an expression -/
def kidsOk (k : Int) (n : Int) : Prop := (k = 1 ∨ k = 3 → n = 0) ∧ (k = 4 ∨ k = 6 → n = 1) ∧ (k = 5 ∨ k = 7 → n = 2) ∧ (k = 8 → n = 3) ∧ (k = 2 → 1 ≤ n) ∧ (k = 12 → n = 2 ∨ n = 3) ∧ (k = 13 → n = 3 ∨ n = 4) ∧ (k = 11 → n.tmod 2 = 0) ∧ 1 ≤ k ∧ k ≤ 13

theorem kids_tot (k n : Int) : Ev2 (fun _ _ => ref14_kids k n) (fun r => r = true → kidsOk k n) := by
  simp only [ref14_kids]
  refine ev_bind (ev_ite (fun h1 => ev_some (ev_ite (fun _ => ev_some ?_) (fun h => ?_))) (fun h1 => ev_some (ev_ite (fun h3 => ev_some ?_) (fun h3 => ?_))))
  · intro h; have := of_decide_eq_true h; unfold kidsOk; omega
  · simp [h1] at h
  · intro h; have := of_decide_eq_true h; have := of_decide_eq_true h3; unfold kidsOk; omega
  have h3 := fun q => h3 (decide_eq_true q)
  refine ev_ite (fun h2 => ev_some fun h => by have := of_decide_eq_true h; unfold kidsOk; omega) (fun h2 => ?_)
  refine ev_bind (ev_ite (fun h4 => ev_some (ev_ite (fun _ => ev_some ?_) (fun h => ?_))) (fun h4 => ev_some (ev_ite (fun h6 => ev_some ?_) (fun h6 => ?_))))
  · intro h; have := of_decide_eq_true h; unfold kidsOk; omega
  · simp [h4] at h
  · intro h; have := of_decide_eq_true h; have := of_decide_eq_true h6; unfold kidsOk; omega
  have h6 := fun q => h6 (decide_eq_true q)
  refine ev_bind (ev_ite (fun h5 => ev_some (ev_ite (fun _ => ev_some ?_) (fun h => ?_))) (fun h5 => ev_some (ev_ite (fun h7 => ev_some ?_) (fun h7 => ?_))))
  · intro h; have := of_decide_eq_true h; unfold kidsOk; omega
  · simp [h5] at h
  · intro h; have := of_decide_eq_true h; have := of_decide_eq_true h7; unfold kidsOk; omega
  have h7 := fun q => h7 (decide_eq_true q)
  refine ev_ite (fun h8 => ev_some fun h => by have := of_decide_eq_true h; unfold kidsOk; omega) (fun h8 => ?_)
  refine ev_bind (ev_ite (fun h9 => ev_some (ev_ite (fun _ => ev_some ?_) (fun h => ?_))) (fun h9 => ev_some (ev_ite (fun h10 => ev_some ?_) (fun h10 => ?_))))
  · intro h; unfold kidsOk; omega
  · simp [h9] at h
  · intro h; have := of_decide_eq_true h10; unfold kidsOk; omega
  have h10 := fun q => h10 (decide_eq_true q)
  refine ev_ite (fun h11 => ev_ck (by omega) (ev_some fun h => ?_)) (fun h11 => ?_)
  · have := of_decide_eq_true h
    refine ⟨by omega, by omega, by omega, by omega, by omega, by omega, by omega, fun _ => this, by omega, by omega⟩
  refine ev_ite (fun h12 => ?_) (fun h12 => ?_)
  · refine ev_cut (fun t => t = true → n = 2 ∨ n = 3) (ev_ite (fun h => ev_some fun _ => Or.inl h) (fun _ => ev_some fun h => Or.inr (of_decide_eq_true h))) (fun t ht => ev_some fun h => ?_)
    have := ht h; unfold kidsOk; omega
  refine ev_ite (fun h13 => ?_) (fun h13 => ev_some fun h => by cases h)
  refine ev_cut (fun t => t = true → n = 3 ∨ n = 4) (ev_ite (fun h => ev_some fun _ => Or.inl h) (fun _ => ev_some fun h => Or.inr (of_decide_eq_true h))) (fun t ht => ev_some fun h => ?_)
  have := ht h; unfold kidsOk; omega

theorem loop_tot (k : Int) : Ev2 (fun _ _ => ref14_loop k) (fun r => r = true ↔ k = 12 ∨ k = 13) := by
  simp only [ref14_loop]
  refine ev_bind (ev_ite (fun h => ev_some (ev_some ?_)) (fun h => ev_some (ev_some ?_)))
  · simp [h]
  · simp [h]
theorem named_tot (k : Int) : Ev2 (fun _ _ => ref14_named k) (fun r => r = true ↔ k = 3 ∨ k = 4 ∨ k = 9 ∨ k = 12 ∨ k = 13) := by
  simp only [ref14_named]
  refine ev_cut (fun r => r = true ↔ k = 3 ∨ k = 4 ∨ k = 9 ∨ k = 12 ∨ k = 13) (ev_ite (fun h => ev_some (by simp [h])) (fun h3 => ev_ite (fun h => ev_some (by simp [h])) (fun h4 => ev_ite (fun h => ev_some (by simp [h])) (fun h9 => ?_)))) (fun _ hx => ev_some hx)
  refine ev_cut _ (loop_tot k) (fun x hx => ev_some ?_)
  rw [hx]; omega
theorem zero_tot (v : TValue) : Ev2 (fun _ _ => ref14_zero v) (fun _ => True) := by
  simp only [ref14_zero]
  repeat' (first | exact ev_some trivial | refine ev_cut (fun _ => True) ?_ (fun _ _ => ?_) | refine ev_ite (fun _ => ?_) (fun _ => ?_))

/-- The fields of a node that no kind but its own has. -/
def Shape (e : TExpr) : Prop := kidsOk e.fKind (e.fKids.length : Int) ∧ (e.fKey ≠ [] → e.fKind = 12 ∨ e.fKind = 13) ∧ (e.fName ≠ [] → e.fKind = 3 ∨ e.fKind = 4 ∨ e.fKind = 9 ∨ e.fKind = 12 ∨ e.fKind = 13)

theorem shaped_tot (e : TExpr) : Ev2 (fun _ _ => ref14_shaped e) (fun r => r = true → Shape e) := by
  simp only [ref14_shaped]
  refine ev_cut (fun t => t = false → Shape e) ?_ (fun t ht => ?_)
  · refine ev_cut _ (kids_tot e.fKind _) (fun b hb => ?_)
    refine ev_ite (fun _ => ev_some fun h => by cases h) (fun hb1 => ?_)
    have hk := hb (by simpa using hb1)
    refine ev_cut _ (loop_tot e.fKind) (fun c hc => ?_)
    have nm : ∀ x : Bool, (e.fKey ≠ [] → e.fKind = 12 ∨ e.fKind = 13) → (x = true ↔ e.fKind = 3 ∨ e.fKind = 4 ∨ e.fKind = 9 ∨ e.fKind = 12 ∨ e.fKind = 13) → Ev2 (fun _ _ => if (!x) = true then some (!decide (e.fName = ([] : Bytes))) else some false) (fun t => t = false → Shape e) := by
      intro x hkey hx
      refine ev_ite (fun h => ev_some fun q => ⟨hk, hkey, fun hne => ?_⟩) (fun h => ev_some fun _ => ⟨hk, hkey, fun _ => hx.1 (by simpa using h)⟩)
      simp [hne] at q
    refine ev_ite (fun hl => ev_ite (fun hkey => ?_) (fun _ => ev_some fun h => by cases h)) (fun hl => ?_)
    · refine ev_cut _ (named_tot e.fKind) (fun x hx => nm x (fun q => absurd hkey q) hx)
    · refine ev_cut _ (named_tot e.fKind) (fun x hx => nm x (fun _ => hc.1 (by simpa using hl)) hx)
  · refine ev_ite (fun _ => ev_some fun h => by cases h) (fun h => ?_)
    have hs : Shape e := ht (by simpa using h)
    have any : ∀ f : Nat → Nat → Option Bool, Ev2 f (fun _ => True) → Ev2 f (fun r => r = true → Shape e) := fun f hf => ev_mono hf fun _ _ _ => hs
    refine any _ ?_
    refine ev_ite (fun _ => ?_) (fun _ => ?_)
    · repeat' (first | exact ev_some trivial | refine ev_cut (fun _ => True) ?_ (fun _ _ => ?_) | refine ev_ite (fun _ => ?_) (fun _ => ?_))
    · refine ev_cut _ (zero_tot _) (fun _ _ => ?_)
      repeat' (first | exact ev_some trivial | refine ev_cut (fun _ => True) ?_ (fun _ _ => ?_) | refine ev_ite (fun _ => ?_) (fun _ => ?_))

theorem reserved_tot (s : Bytes) : Ev2 (fun _ _ => ref14_Reserved s) (fun _ => True) := by
  simp only [ref14_Reserved]
  repeat' (first | exact ev_some trivial | refine ev_cut (fun _ => True) ?_ (fun _ _ => ?_) | refine ev_ite (fun _ => ?_) (fun _ => ?_))
theorem name_tot (s : Bytes) (hs : s.length ≤ maxW) : Ev2 (fun n _ => ref14_Name n s) (fun _ => True) := by
  simp only [ref14_Name]
  refine ev_cut (fun _ => True) ?_ (fun _ _ => ev_some trivial)
  refine ev_cut _ (ident_tot s hs) (fun _ _ => ev_ite (fun _ => ?_) (fun _ => ev_some trivial))
  exact ev_cut _ (reserved_tot s) (fun _ _ => ev_some trivial)

theorem enode_tot (e : TExpr) (he : BE e) : Ev2 (fun n _ => ref14_node n e) (fun r => r = 0 → Shape e) := by
  obtain ⟨hn, hk, hv, _, _⟩ := he
  simp only [ref14_node]
  refine ev_cut _ (shaped_tot e) (fun b hb => ?_)
  refine ev_ite (fun _ => ev_some fun h => by cases h) (fun h => ?_)
  have hs : Shape e := hb (by simpa using h)
  refine ev_mono (P := fun _ => True) ?_ (fun _ _ _ => hs)
  refine ev_ite (fun _ => ?_) (fun _ => ?_)
  · exact ev_cut _ (vCheck_tot _ hv) (fun _ _ => ev_some trivial)
  · refine ev_cut (fun _ => True) ?_ (fun _ _ => ?_)
    · refine ev_cut _ (named_tot _) (fun _ _ => ev_ite (fun _ => ?_) (fun _ => ev_some trivial))
      refine ev_cut _ (ident_tot _ hn) (fun _ _ => ev_ite (fun _ => ev_some trivial) (fun _ => ev_ite (fun _ => ev_some trivial) (fun _ => ?_)))
      exact ev_cut _ (reserved_tot _) (fun _ _ => ev_some trivial)
    · refine ev_ite (fun _ => ev_some trivial) (fun _ => ?_)
      refine ev_cut (fun _ => True) ?_ (fun _ _ => ev_ite (fun _ => ev_some trivial) (fun _ => ev_some trivial))
      refine ev_ite (fun _ => ev_some trivial) (fun _ => ?_)
      exact ev_cut _ (name_tot _ hk) (fun _ _ => ev_some trivial)

/-- A valid expression, as far as it is needed here. -/
inductive Good : TExpr → Prop
  | mk {e : TExpr} (hs : Shape e) (h : ∀ k ∈ e.fKids, Good k) : Good e
theorem Good.shape {e : TExpr} (h : Good e) : Shape e := by cases h; assumption
theorem Good.kid {e k : TExpr} (h : Good e) (hk : k ∈ e.fKids) : Good k := by cases h with | mk _ h => exact h k hk

theorem echeck_tot (e : TExpr) : BE e → ∀ (level before : Int), 0 ≤ level → 0 ≤ before → before ≤ 4096 → Ev2 (fun n _ => ref14_check n e level before) (fun r => 0 ≤ r.2 ∧ r.2 ≤ 4096 ∧ (r.1 = 0 → Good e)) := by
  induction e using expr_ind with
  | h e ih =>
  intro he level before hl hb hb2
  have he' := he
  obtain ⟨_, _, _, hll, hkk⟩ := he'
  refine ev_succ ?_
  simp only [ref14_check]
  refine ev_ite (fun _ => ev_some ⟨by show (0 : Int) ≤ 0; omega, by show (0 : Int) ≤ 4096; omega, fun h => by cases h⟩) (fun hlev => ev_ite (fun _ => ev_some ⟨by show (0 : Int) ≤ 0; omega, by show (0 : Int) ≤ 4096; omega, fun h => by cases h⟩) (fun hbe => ?_))
  refine ev_cut _ (enode_tot e he) (fun r hr => ev_ck (inR_of (by omega) (by omega)) ?_)
  have loop : ∀ (k : Nat) (k17 n18 : Int) (i : Nat), i + k = e.fKids.length → 0 ≤ n18 → n18 ≤ 4096 → (k17 = 0 → Shape e ∧ ∀ (j : Nat) (hj : j < e.fKids.length), j < i → Good e.fKids[j]) → Ev2 (fun n m => ref14_check_l1 (ref14_check n) e level m k17 n18 (i : Int)) (fun r => 0 ≤ r.2 ∧ r.2 ≤ 4096 ∧ (r.1 = 0 → Good e)) := by
    intro k
    induction k with
    | zero =>
      intro k17 n18 i hi h1 h2 h3
      refine ev_round ?_
      simp only [ref14_check_l1]
      refine ev_cut (· = false) (ev_ifF (by omega) (ev_some rfl)) (fun t ht => ?_)
      subst ht
      refine ev_ifF (by simp) (ev_some ⟨h1, h2, fun h => ?_⟩)
      obtain ⟨a, b⟩ := h3 h
      refine .mk a fun x hx => ?_
      obtain ⟨j, hj, rfl⟩ := List.getElem_of_mem hx
      exact b j hj (by omega)
    | succ k ihk =>
      intro k17 n18 i hi h1 h2 h3
      refine ev_round ?_
      simp only [ref14_check_l1]
      refine ev_cut (fun t => t = true ↔ k17 = 0) (ev_ifT (by omega) (ev_some (by simp))) (fun t ht => ?_)
      refine ev_ite (fun h => ?_) (fun h => ev_some ⟨h1, h2, fun q => absurd (ht.2 q) h⟩)
      have h0 := ht.1 h
      have hbd : (0 : Int) ≤ i ∧ (i : Int) < (e.fKids.length : Int) := ⟨by omega, by omega⟩
      refine ev_ck hbd (ev_ck (inR_of (by omega) (by omega)) ?_)
      have hm := lat_mem (l := e.fKids) hbd
      refine ev_cut _ (ih _ hm (hkk _ hm) (level + 1) n18 (by omega) h1 h2) (fun x hx => ev_ck (inR_succ hbd hll) ?_)
      obtain ⟨x1, x2, x3⟩ := hx
      refine ihk x.1 x.2 (i + 1) (by omega) x1 x2 (fun hx0 => ?_)
      obtain ⟨a, b⟩ := h3 h0
      refine ⟨a, fun j hj hji => ?_⟩
      rcases Nat.lt_or_ge j i with q | q
      · exact b j hj q
      · obtain rfl : j = i := by omega
        have := x3 hx0
        rwa [lat_get _ _ hj] at this
  refine ev_cut _ (ev_loop (loop e.fKids.length r (before + 1) 0 (by omega) (by omega) (by omega) (fun h => ⟨hr h, fun j _ hj => absurd hj (Nat.not_lt_zero _)⟩))) (fun x hx => ev_some hx)

theorem eCheck_tot (e : TExpr) (he : BE e) : Ev2 (fun n _ => ref14_Check n e) (fun r => r = 0 → Good e) := by
  simp only [ref14_Check]
  exact ev_cut _ (echeck_tot e he 1 0 (by omega) (by omega) (by omega)) (fun x hx => ev_some hx.2.2)

theorem right_tot (e : TExpr) (he : BE e) : Ev2 (fun n _ => law17_right n e) (fun r => r = true → Good e ∧ nodes e ≤ 200) := by
  simp only [law17_right]
  refine ev_cut (fun r => r = true → Good e ∧ nodes e ≤ 200) ?_ (fun _ h => ev_some h)
  refine ev_cut _ (small_tot e he 200 (by omega)) (fun b hb => ?_)
  refine ev_ite (fun h => ?_) (fun _ => ev_some fun h => by cases h)
  refine ev_cut _ (eCheck_tot e he) (fun c hc => ev_some fun q => ⟨hc (of_decide_eq_true q), hb h⟩)

end Go.Ab.R17
