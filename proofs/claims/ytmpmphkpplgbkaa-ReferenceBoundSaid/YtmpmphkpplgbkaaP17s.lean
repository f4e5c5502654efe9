/- Plain facts of chapter 17: what the references of an expression are, said apart from the functions that find them. -/
import Derived.Test.YtmpmphkpplgbkaaP17p
import Derived.Test.YtmpmphkpplgbkaaR17b
set_option linter.unusedVariables false
set_option linter.unusedSimpArgs false
set_option linter.unnecessarySimpa false
namespace Go.Ab.R17
open Go.Ab

theorem Ch.det {e r : TExpr} {s : List TExpr} (h : Ch e r s) : ∀ {r' : TExpr} {s' : List TExpr}, Ch e r' s' → r = r' ∧ s = s' := by
  induction h with
  | @stop e h4 h5 =>
    intro r' s' h'
    cases h' with
    | stop => exact ⟨rfl, rfl⟩
    | step h _ _ => rcases h with h | h <;> contradiction
  | @step e k r s h hk hr ih =>
    intro r' s' h'
    cases h' with
    | stop h4 h5 => rcases h with h | h <;> contradiction
    | @step _ k' _ s2 _ hk' hr' =>
      rw [hk] at hk'
      cases hk'
      obtain ⟨rfl, rfl⟩ := ih hr'
      exact ⟨rfl, rfl⟩
theorem chOk_of {e r : TExpr} {s : List TExpr} (h : Ch e r s) (hg : Good e) (hb : BE e) : ChOk e r s := by
  obtain ⟨r', s', h1, h2⟩ := ch_ex e hg hb
  obtain ⟨rfl, rfl⟩ := h.det h1
  exact h2

def innerOf (e : TExpr) (bound : List Bytes) : List Bytes := if e.fKey = [] then bound ++ [e.fName] else (bound ++ [e.fName]) ++ [e.fKey]

open Classical in
theorem pickP {α : Type} {P : α → List TRef → Prop} {l : List α} (h : ∀ k ∈ l, ∃ L, P k L) : ∃ g : α → List TRef, ∀ k ∈ l, P k (g k) :=
  ⟨fun k => if hk : k ∈ l then Classical.choose (h k hk) else [], fun k hk => by simp only [dif_pos hk]; exact Classical.choose_spec (h k hk)⟩

/-- The references of an expression, with bound names. -/
inductive Sem : TExpr → List Bytes → List TRef → Prop
  | name {e r : TExpr} {s : List TExpr} {bound : List Bytes} {x : TRef} {j : Int} (g : TExpr → List TRef) (hc : e.fKind = 3 ∨ e.fKind = 4 ∨ e.fKind = 5) (h : Ch e r s) (h3 : r.fKind = 3) (hx : reference_begin r s.reverse = some (x, j))
      (hk : ∀ k ∈ s.reverse.flatMap idx, Sem k bound (g k)) : Sem e bound (putR (if r.fName ∈ bound then [] else [x]) (F g [] (s.reverse.flatMap idx)))
  | chain {e r : TExpr} {s : List TExpr} {bound : List Bytes} {A : List TRef} (g : TExpr → List TRef) (hc : e.fKind = 3 ∨ e.fKind = 4 ∨ e.fKind = 5) (h : Ch e r s) (h3 : r.fKind ≠ 3) (hr : Sem r bound A)
      (hk : ∀ k ∈ s.reverse.flatMap idx, Sem k bound (g k)) : Sem e bound (putR A (F g [] (s.reverse.flatMap idx)))
  | loop {e k0 : TExpr} {rest : List TExpr} {bound : List Bytes} {A : List TRef} (g : TExpr → List TRef) (hc : e.fKind = 12 ∨ e.fKind = 13) (he : e.fKids = k0 :: rest) (h0 : Sem k0 bound A)
      (hk : ∀ k ∈ rest, Sem k (innerOf e bound) (g k)) : Sem e bound (putR A (F g [] rest))
  | other {e : TExpr} {bound : List Bytes} (g : TExpr → List TRef) (hc : e.fKind ≠ 3 ∧ e.fKind ≠ 4 ∧ e.fKind ≠ 5 ∧ e.fKind ≠ 12 ∧ e.fKind ≠ 13)
      (hk : ∀ k ∈ e.fKids, Sem k bound (g k)) : Sem e bound (F g [] e.fKids)

theorem root_lt {e r : TExpr} {s : List TExpr} (h2 : ChOk e r s) (hc : e.fKind = 3 ∨ e.fKind = 4 ∨ e.fKind = 5) (h3 : r.fKind ≠ 3) : SizeOf.sizeOf r < SizeOf.sizeOf e := by
  rcases h2.size with ⟨_, rfl⟩ | ⟨_, h⟩
  · rcases hc with h | h | h
    · exact absurd h h3
    · exact absurd h h2.k4
    · exact absurd h h2.k5
  · exact h
theorem sub_kid {e r : TExpr} {s : List TExpr} (h2 : ChOk e r s) {q : TExpr} (hq : q ∈ s.reverse.flatMap idx) : SizeOf.sizeOf q < SizeOf.sizeOf e ∧ Good q ∧ BE q ∧ nodes q ≤ nodesL (s.reverse.flatMap idx) := by
  obtain ⟨t, ht, hqt⟩ := List.mem_flatMap.1 hq
  have ht : t ∈ s := List.mem_reverse.1 ht
  obtain ⟨_, tg, tb⟩ := h2.steps t ht
  have hqk : q ∈ t.fKids := by
    unfold idx at hqt
    split at hqt
    · exact kid_of_get (j := 1) (by simpa using hqt)
    · simp at hqt
  exact ⟨h2.sub t ht q hqt, tg.kid hqk, (by cases tb with | mk _ _ _ _ h => exact h q hqk), nodesL_mem hq⟩
theorem perm_nodes (s : List TExpr) : nodesL (s.reverse.flatMap idx) = nodesL (s.flatMap idx) := by
  induction s with
  | nil => rfl
  | cons x l ih => simp [nodesL_append, ih, nodesL]; omega

theorem for_kids {e : TExpr} (hg : Good e) (hf : e.fKind = 12 ∨ e.fKind = 13) : ∃ k0 rest, e.fKids = k0 :: rest := by
  have hs := hg.shape.1
  cases hq : e.fKids with
  | nil => rw [hq] at hs; unfold kidsOk at hs; simp at hs; omega
  | cons a l => exact ⟨a, l, rfl⟩

theorem sem_ex (e : TExpr) : Good e → BE e → ∀ bound : List Bytes, ∃ L, Sem e bound L := by
  induction e using size_ind with
  | h e ih =>
  intro hg hb bound
  have hb' := hb
  obtain ⟨_, _, _, _, hbk⟩ := hb'
  by_cases hc : e.fKind = 3 ∨ e.fKind = 4 ∨ e.fKind = 5
  · obtain ⟨r, s, h1, h2⟩ := ch_ex e hg hb
    obtain ⟨g, hgs⟩ := pickP (fun k hk => by
      obtain ⟨q1, q2, q3, _⟩ := sub_kid h2 hk
      exact ih k q1 q2 q3 bound)
    by_cases h3 : r.fKind = 3
    · obtain ⟨⟨x, j⟩, hx⟩ := begin_some r s.reverse
      exact ⟨_, .name g hc h1 h3 hx hgs⟩
    · obtain ⟨A, hA⟩ := ih r (root_lt h2 hc h3) h2.good h2.be bound
      exact ⟨_, .chain g hc h1 h3 hA hgs⟩
  · by_cases hf : e.fKind = 12 ∨ e.fKind = 13
    · obtain ⟨k0, rest, hkr⟩ := for_kids hg hf
      have hm : ∀ k ∈ k0 :: rest, k ∈ e.fKids := fun k hk => by rw [hkr]; exact hk
      obtain ⟨A, hA⟩ := ih k0 (expr_kid_lt (hm k0 (by simp))) (hg.kid (hm k0 (by simp))) (hbk _ (hm k0 (by simp))) bound
      obtain ⟨g, hgs⟩ := pickP (l := rest) (P := fun k L => Sem k (innerOf e bound) L) (fun k hk => ih k (expr_kid_lt (hm k (by simp [hk]))) (hg.kid (hm k (by simp [hk]))) (hbk _ (hm k (by simp [hk]))) _)
      exact ⟨_, .loop g hf hkr hA hgs⟩
    · obtain ⟨g, hgs⟩ := pickP (l := e.fKids) (P := fun k L => Sem k bound L) (fun k hk => ih k (expr_kid_lt hk) (hg.kid hk) (hbk _ hk) bound)
      exact ⟨_, .other g ⟨fun h => hc (.inl h), fun h => hc (.inr (.inl h)), fun h => hc (.inr (.inr h)), fun h => hf (.inl h), fun h => hf (.inr h)⟩ hgs⟩

theorem says_of {e : TExpr} {bound : List Bytes} {L : List TRef} (h : Sem e bound L) : Good e → BE e → nodes e ≤ 2000 → bound.length + 2 * nodes e ≤ 10000 → Says e bound L := by
  induction h with
  | @name e r s bound x j g hc h1 h3 hx hk ihk =>
    intro hg hb hn hbd
    have h2 := chOk_of h1 hg hb
    have hnod := h2.nod
    have hsl : s.length ≤ 100000 := by omega
    have hperm := perm_nodes s
    have hgs : ∀ k ∈ s.reverse.flatMap idx, Says k bound (g k) := by
      intro k hkm
      obtain ⟨_, q2, q3, q4⟩ := sub_kid h2 hkm
      exact ihk k hkm q2 q3 (by omega) (by omega)
    have hK : (F g [] (s.reverse.flatMap idx)).length ≤ nodesL (s.flatMap idx) := by
      have := F_len g (s.reverse.flatMap idx) (fun k hk => (hgs k hk).len) []
      rw [hperm] at this; simpa using this
    have hA1 : (if r.fName ∈ bound then [] else [x] : List TRef).length ≤ nodes r := by
      have := nodes_pos r
      split <;> simp; omega
    have hA0 : putR [] (if r.fName ∈ bound then [] else [x]) = (if r.fName ∈ bound then [] else [x]) := by
      split
      · rfl
      · simp [putR, addR, hasR]
    refine ⟨?_, by rw [putR_putR, hA0], ?_, fun f hf => ?_⟩
    · have := putR_len (F g [] (s.reverse.flatMap idx)) (if r.fName ∈ bound then [] else [x]); omega
    · refine ev_succ ?_
      simp only [ref17_of]
      refine ev_cut (· = true) (ev_ite (fun h => ev_some (decide_eq_true h)) (fun h => ev_ite (fun h => ev_some (decide_eq_true h)) (fun h => ev_some (decide_eq_true (by omega))))) (fun t ht => ?_)
      subst ht
      refine ev_ifT rfl (ev_cut _ (chainR_ev h1 hg hsl) (fun c hc => ?_))
      subst hc
      refine ev_cut (· = if r.fName ∈ bound then [] else [x]) ?_ (fun a ha => ?_)
      · refine ev_ifT h3 (ev_cut _ (has_ev bound _ (by rw [maxW_eq]; omega)) (fun b hb => ?_))
        subst hb
        by_cases hmem : r.fName ∈ bound
        · exact ev_ifF (by simp [hmem]) (ev_some (by rw [if_pos hmem]))
        · refine ev_ifT (by simp [hmem]) ?_
          simp only [begin_eq, hx, bd_some]
          exact ev_ck (by simp) (ev_some (by rw [if_neg hmem]))
      subst ha
      refine ev_cut _ (all_ev (s.reverse.flatMap idx) bound g hgs (by omega)) (fun b hb => ?_)
      subst hb
      exact ev_cut _ (put_ev _ (F g [] (s.reverse.flatMap idx)) (by omega) (by omega)) (fun x hx => ev_some hx)
    · refine ev_succ ?_
      simp only [reference_finder_expr]
      refine ev_cut (· = putR f (putR (if r.fName ∈ bound then [] else [x]) (F g [] (s.reverse.flatMap idx)))) ?_ (fun x hx => ev_some (by rw [hx]))
      refine ev_cut (· = true) (ev_ite (fun h => ev_some (decide_eq_true h)) (fun h => ev_ite (fun h => ev_some (decide_eq_true h)) (fun h => ev_some (decide_eq_true (by omega))))) (fun t ht => ?_)
      subst ht
      refine ev_ifT rfl ?_
      refine ev_cut (· = Tfinder.mk (putR f (putR (if r.fName ∈ bound then [] else [x]) (F g [] (s.reverse.flatMap idx))))) ?_ (fun x hx => ev_some (by rw [hx]))
      refine ev_succ ?_
      simp only [reference_finder_chain]
      refine ev_cut _ (chain_ev h1 hsl) (fun c hc => ?_)
      subst hc
      refine ev_cut (· = putR f (if r.fName ∈ bound then [] else [x])) ?_ (fun a ha => ?_)
      · refine ev_ifT h3 (ev_cut _ (contS_ev bound _ (by rw [maxW_eq]; omega)) (fun b hb => ?_))
        subst hb
        by_cases hmem : r.fName ∈ bound
        · exact ev_ifF (by simp [hmem]) (ev_some (by rw [if_pos hmem]; rfl))
        · refine ev_ifT (by simp [hmem]) ?_
          simp only [hx, bd_some]
          refine ev_cut _ (add_ev f x (by omega)) (fun y hy => ev_some ?_)
          rw [hy, if_neg hmem]; rfl
      subst ha
      have hlen := putR_len (if r.fName ∈ bound then [] else [x]) f
      refine ev_cut _ (ev_loop (prog_steps r s.reverse bound g (fun t ht => ⟨(h2.steps t (List.mem_reverse.1 ht)).1, (h2.steps t (List.mem_reverse.1 ht)).2.1⟩) hgs (by simp; omega) (putR f (if r.fName ∈ bound then [] else [x])) (by omega))) (fun x hx => ev_some ?_)
      rw [hx, F_nil, putR_putR]
  | @chain e r s bound A g hc h1 h3 hr hk ihr ihk =>
    intro hg hb hn hbd
    have h2 := chOk_of h1 hg hb
    have hnod := h2.nod
    have hsl : s.length ≤ 100000 := by omega
    have hperm := perm_nodes s
    have hgs : ∀ k ∈ s.reverse.flatMap idx, Says k bound (g k) := by
      intro k hkm
      obtain ⟨_, q2, q3, q4⟩ := sub_kid h2 hkm
      exact ihk k hkm q2 q3 (by omega) (by omega)
    have hK : (F g [] (s.reverse.flatMap idx)).length ≤ nodesL (s.flatMap idx) := by
      have := F_len g (s.reverse.flatMap idx) (fun k hk => (hgs k hk).len) []
      rw [hperm] at this; simpa using this
    have hA := ihr h2.good h2.be (by omega) (by omega)
    have hA1 := hA.len
    refine ⟨?_, by rw [putR_putR, hA.once], ?_, fun f hf => ?_⟩
    · have := putR_len (F g [] (s.reverse.flatMap idx)) A; omega
    · refine ev_succ ?_
      simp only [ref17_of]
      refine ev_cut (· = true) (ev_ite (fun h => ev_some (decide_eq_true h)) (fun h => ev_ite (fun h => ev_some (decide_eq_true h)) (fun h => ev_some (decide_eq_true (by omega))))) (fun t ht => ?_)
      subst ht
      refine ev_ifT rfl (ev_cut _ (chainR_ev h1 hg hsl) (fun c hc => ?_))
      subst hc
      refine ev_cut (· = A) (ev_ifF h3 (ev_cut _ hA.ref (fun x hx => ev_some hx))) (fun a ha => ?_)
      subst ha
      refine ev_cut _ (all_ev (s.reverse.flatMap idx) bound g hgs (by omega)) (fun b hb => ?_)
      subst hb
      exact ev_cut _ (put_ev _ (F g [] (s.reverse.flatMap idx)) (by omega) (by omega)) (fun x hx => ev_some hx)
    · refine ev_succ ?_
      simp only [reference_finder_expr]
      refine ev_cut (· = putR f (putR A (F g [] (s.reverse.flatMap idx)))) ?_ (fun x hx => ev_some (by rw [hx]))
      refine ev_cut (· = true) (ev_ite (fun h => ev_some (decide_eq_true h)) (fun h => ev_ite (fun h => ev_some (decide_eq_true h)) (fun h => ev_some (decide_eq_true (by omega))))) (fun t ht => ?_)
      subst ht
      refine ev_ifT rfl ?_
      refine ev_cut (· = Tfinder.mk (putR f (putR A (F g [] (s.reverse.flatMap idx))))) ?_ (fun x hx => ev_some (by rw [hx]))
      refine ev_succ ?_
      simp only [reference_finder_chain]
      refine ev_cut _ (chain_ev h1 hsl) (fun c hc => ?_)
      subst hc
      refine ev_cut (· = putR f A) (ev_ifF h3 (ev_cut _ (hA.prog f (by omega)) (fun x hx => ev_some (by rw [hx])))) (fun a ha => ?_)
      subst ha
      have hlen := putR_len A f
      refine ev_cut _ (ev_loop (prog_steps r s.reverse bound g (fun t ht => ⟨(h2.steps t (List.mem_reverse.1 ht)).1, (h2.steps t (List.mem_reverse.1 ht)).2.1⟩) hgs (by simp; omega) (putR f A) (by omega))) (fun x hx => ev_some ?_)
      rw [hx, F_nil, putR_putR]
  | @loop e k0 rest bound A g hc hkr h0 hk ih0 ihk =>
    intro hg hb hn hbd
    have hb' := hb
    obtain ⟨_, _, _, _, hbk⟩ := hb'
    have hnodes := nodes_eq e
    have hc3 : e.fKind ≠ 3 := by omega
    have hc4 : e.fKind ≠ 4 := by omega
    have hc5 : e.fKind ≠ 5 := by omega
    have hlen : e.fKids.length = rest.length + 1 := by rw [hkr]; rfl
    have hnl : nodesL e.fKids = nodes k0 + nodesL rest := by rw [hkr]; rfl
    have hpos := nodes_pos k0
    have hil : (innerOf e bound).length ≤ bound.length + 2 := by unfold innerOf; split <;> simp
    have hm : ∀ k ∈ k0 :: rest, k ∈ e.fKids := fun k hk => by rw [hkr]; exact hk
    have hL0 := ih0 (hg.kid (hm k0 (by simp))) (hbk _ (hm k0 (by simp))) (by omega) (by omega)
    have hgs : ∀ k ∈ rest, Says k (innerOf e bound) (g k) := by
      intro k hkm
      have := nodesL_mem hkm
      exact ihk k hkm (hg.kid (hm k (by simp [hkm]))) (hbk _ (hm k (by simp [hkm]))) (by omega) (by omega)
    have hFl : (F g [] rest).length ≤ nodesL rest := by
      have := F_len g rest (fun k hk => (hgs k hk).len) []
      simpa using this
    have h0l := hL0.len
    have innref : Ev2 (fun _ _ => if e.fKey = ([] : Bytes) then some (bound ++ [e.fName]) else ck (((bound ++ [e.fName]).length + [e.fKey].length) * 16 ≤ 140737488355328) <| some ((bound ++ [e.fName]) ++ [e.fKey])) (· = innerOf e bound) := by
      refine ev_ite (fun h => ev_some (by rw [innerOf, if_pos h])) (fun h => ev_ck (by simp; omega) (ev_some (by rw [innerOf, if_neg h])))
    refine ⟨?_, by rw [putR_putR, hL0.once], ?_, fun f hf' => ?_⟩
    · have := putR_len (F g [] rest) A; omega
    · refine ev_succ ?_
      simp only [ref17_of]
      refine ev_cut (· = false) (ev_ifF hc3 (ev_ifF hc4 (ev_some (decide_eq_false hc5)))) (fun t ht => ?_)
      subst ht
      refine ev_ifF (by simp) ?_
      refine ev_cut (· = true) (ev_ite (fun h => ev_some (decide_eq_true h)) (fun h => ev_some (decide_eq_true (by omega)))) (fun t ht => ?_)
      subst ht
      refine ev_ifT rfl (ev_ifF (by omega) (ev_ck ⟨by omega, by omega⟩ ?_))
      rw [lat_zero (k := k0) (by rw [hkr]; rfl)]
      refine ev_cut _ hL0.ref (fun a ha => ?_)
      subst ha
      refine ev_ck (by omega) (ev_ck (by simp; omega) (ev_cut _ innref (fun i hi => ?_)))
      subst hi
      refine ev_ck ⟨by omega, by omega, by omega⟩ ?_
      rw [sub_from, show e.fKids.drop (1 : Int).toNat = rest by rw [hkr]; rfl]
      refine ev_cut _ (all_ev rest _ g hgs (by omega)) (fun b hb => ?_)
      subst hb
      exact ev_cut _ (put_ev _ _ (by omega) (by omega)) (fun x hx => ev_some hx)
    · refine ev_succ ?_
      simp only [reference_finder_expr]
      refine ev_cut (· = putR f (putR A (F g [] rest))) ?_ (fun x hx => ev_some (by rw [hx]))
      refine ev_cut (· = false) (ev_ifF hc3 (ev_ifF hc4 (ev_some (decide_eq_false hc5)))) (fun t ht => ?_)
      subst ht
      refine ev_ifF (by simp) ?_
      refine ev_cut (· = true) (ev_ite (fun h => ev_some (decide_eq_true h)) (fun h => ev_some (decide_eq_true (by omega)))) (fun t ht => ?_)
      subst ht
      refine ev_ifT rfl ?_
      simp only [slices_Clone_string_string]
      rw [ck_pos (by omega)]
      simp only [bd_some]
      refine ev_ck (by simp; omega) (ev_cut _ innref (fun i hi => ?_))
      subst hi
      refine ev_cut _ (ev_loop (prog_for e bound _ k0 rest hkr A hL0 g hgs (by omega) f (by omega))) (fun x hx => ev_some ?_)
      rw [hx, F_nil, putR_putR]
  | @other e bound g hc hk ihk =>
    intro hg hb hn hbd
    have hb' := hb
    obtain ⟨_, _, _, _, hbk⟩ := hb'
    have hnodes := nodes_eq e
    obtain ⟨hc3, hc4, hc5, h12, h13⟩ := hc
    have hgs : ∀ k ∈ e.fKids, Says k bound (g k) := by
      intro k hkm
      have := nodesL_mem hkm
      exact ihk k hkm (hg.kid hkm) (hbk k hkm) (by omega) (by omega)
    refine ⟨?_, by rw [F_putR]; rfl, ?_, fun f hf' => ?_⟩
    · have := F_len g e.fKids (fun k hk => (hgs k hk).len) []
      simp at this; omega
    · refine ev_succ ?_
      simp only [ref17_of]
      refine ev_cut (· = false) (ev_ifF hc3 (ev_ifF hc4 (ev_some (decide_eq_false hc5)))) (fun t ht => ?_)
      subst ht
      refine ev_ifF (by simp) ?_
      refine ev_cut (· = false) (ev_ifF h12 (ev_some (decide_eq_false h13))) (fun t ht => ?_)
      subst ht
      refine ev_ifF (by simp) ?_
      exact ev_cut _ (all_ev _ bound g hgs (by omega)) (fun x hx => ev_some hx)
    · refine ev_succ ?_
      simp only [reference_finder_expr]
      refine ev_cut (· = putR f (F g [] e.fKids)) ?_ (fun x hx => ev_some (by rw [hx]))
      refine ev_cut (· = false) (ev_ifF hc3 (ev_ifF hc4 (ev_some (decide_eq_false hc5)))) (fun t ht => ?_)
      subst ht
      refine ev_ifF (by simp) ?_
      refine ev_cut (· = false) (ev_ifF h12 (ev_some (decide_eq_false h13))) (fun t ht => ?_)
      subst ht
      refine ev_ifF (by simp) ?_
      refine ev_cut _ (ev_loop (prog_all e bound g hgs (by omega) f (by omega))) (fun x hx => ev_some ?_)
      rw [hx, F_nil]

end Go.Ab.R17
