/- Plain facts of chapter 17: the references of an expression are the same to the program and to the reference. -/
import Derived.Test.YtmpmphkpplgbkaaP17f
set_option linter.unusedVariables false
set_option linter.unusedSimpArgs false
set_option linter.unnecessarySimpa false
namespace Go.Ab.R17
open Go.Ab

theorem nodesL_take_le (l : List TExpr) (i : Nat) : nodesL (l.take i) ≤ nodesL l := by
  have := nodesL_append (l.take i) (l.drop i)
  rw [List.take_append_drop] at this; omega

/-- The program's loop over all parts. -/
theorem prog_all (e : TExpr) (bound : List Bytes) (g : TExpr → List TRef) (hg : ∀ k ∈ e.fKids, Says k bound (g k)) (hn : nodesL e.fKids ≤ 5000) (f : List TRef) (hf : f.length + nodesL e.fKids ≤ 10000) :
    Ev2 (fun n m => reference_finder_expr_l2 (reference_finder_expr n) e bound m 0 f) (· = F g f e.fKids) := by
  have hl := nodesL_len e.fKids
  have loop : ∀ (k i : Nat) (out : List TRef), i + k = e.fKids.length → out = F g f (e.fKids.take i) → Ev2 (fun n m => reference_finder_expr_l2 (reference_finder_expr n) e bound m (i : Int) out) (· = F g f e.fKids) := by
    intro k
    induction k with
    | zero =>
      intro i out hi ho
      refine ev_round ?_
      simp only [reference_finder_expr_l2]
      refine ev_ifF (by omega) (ev_some ?_)
      rw [ho, List.take_of_length_le (by omega)]
    | succ k ih =>
      intro i out hi ho
      refine ev_round ?_
      simp only [reference_finder_expr_l2]
      have hb : (0 : Int) ≤ i ∧ (i : Int) < (e.fKids.length : Int) := ⟨by omega, by omega⟩
      refine ev_ifT (by omega) (ev_ck hb ?_)
      rw [lat_get _ _ (by omega)]
      have hm : e.fKids[i]'(by omega) ∈ e.fKids := List.getElem_mem _
      have hs := hg _ hm
      have h3 := F_len g (e.fKids.take i) (fun k hk => (hg k (List.mem_of_mem_take hk)).len) f
      have h4 := nodesL_take e.fKids i (by omega)
      have h5 := nodesL_take_le e.fKids (i + 1)
      rw [← ho] at h3
      refine ev_cut _ (hs.prog out (by omega)) (fun r hr => ?_)
      subst hr
      refine ev_ck (inR_succ hb (by rw [maxW_eq]; omega)) (ih (i + 1) _ (by omega) ?_)
      rw [F_take _ _ _ (by omega), ho]
  exact loop e.fKids.length 0 f (by omega) rfl

/-- The program's loop over the parts of a for expression, the first of which has other names around it. -/
theorem prog_for (e : TExpr) (bound inner : List Bytes) (k0 : TExpr) (rest : List TExpr) (he : e.fKids = k0 :: rest) (L0 : List TRef) (h0 : Says k0 bound L0) (g : TExpr → List TRef) (hg : ∀ k ∈ rest, Says k inner (g k)) (hn : nodesL e.fKids ≤ 5000) (f : List TRef) (hf : f.length + nodesL e.fKids ≤ 10000) :
    Ev2 (fun n m => reference_finder_expr_l1 (reference_finder_expr n) e bound inner m 0 f) (· = F g (putR f L0) rest) := by
  have hl := nodesL_len e.fKids
  have hlen : e.fKids.length = rest.length + 1 := by rw [he]; rfl
  have hnod : nodesL e.fKids = nodes k0 + nodesL rest := by rw [he]; rfl
  have loop : ∀ (k i : Nat) (out : List TRef), i + k = rest.length → out = F g (putR f L0) (rest.take i) → Ev2 (fun n m => reference_finder_expr_l1 (reference_finder_expr n) e bound inner m ((i + 1 : Nat) : Int) out) (· = F g (putR f L0) rest) := by
    intro k
    induction k with
    | zero =>
      intro i out hi ho
      refine ev_round ?_
      simp only [reference_finder_expr_l1]
      refine ev_ifF (by omega) (ev_some ?_)
      rw [ho, List.take_of_length_le (by omega)]
    | succ k ih =>
      intro i out hi ho
      refine ev_round ?_
      simp only [reference_finder_expr_l1]
      have hb : (0 : Int) ≤ (i + 1 : Nat) ∧ ((i + 1 : Nat) : Int) < (e.fKids.length : Int) := ⟨by omega, by omega⟩
      refine ev_ifT (by omega) ?_
      have hget : lat e.fKids ((i + 1 : Nat) : Int) = rest[i]'(by omega) := by
        rw [lat_get _ _ (by omega)]
        simp [he]
      have hm : rest[i]'(by omega) ∈ rest := List.getElem_mem _
      have hs := hg _ hm
      have h3 := F_len g (rest.take i) (fun k hk => (hg k (List.mem_of_mem_take hk)).len) (putR f L0)
      have h4 := nodesL_take rest i (by omega)
      have h5 := nodesL_take_le rest (i + 1)
      have h6 := putR_len L0 f
      have h7 := h0.len
      rw [← ho] at h3
      refine ev_cut (· = putR out (g (rest[i]'(by omega)))) (ev_ck hb (ev_ifF (by omega) ?_)) (fun r hr => ?_)
      · rw [hget]
        refine ev_cut _ (hs.prog out (by omega)) (fun r hr => ev_some ?_)
        rw [hr]
      · subst hr
        refine ev_ck (inR_succ hb (by rw [maxW_eq]; omega)) ?_
        have := ih (i + 1) _ (by omega) rfl
        rw [F_take _ _ _ (by omega), ← ho] at this
        exact this
  refine ev_round ?_
  simp only [reference_finder_expr_l1]
  have hb : (0 : Int) ≤ 0 ∧ (0 : Int) < (e.fKids.length : Int) := ⟨by omega, by omega⟩
  refine ev_ifT (by omega) ?_
  refine ev_cut (· = putR f L0) (ev_ck hb (ev_ifT (by simp) ?_)) (fun r hr => ?_)
  · rw [lat_zero (k := k0) (by rw [he]; rfl)]
    refine ev_cut _ (h0.prog f (by omega)) (fun r hr => ev_some ?_)
    rw [hr]
  · subst hr
    refine ev_ck (inR_of (by omega) (by omega)) ?_
    exact loop rest.length 0 _ (by omega) rfl

/-- The program's loop over the steps of a chain. -/
theorem prog_steps (r : TExpr) (st : List TExpr) (bound : List Bytes) (g : TExpr → List TRef) (hst : ∀ t ∈ st, (t.fKind = 4 ∨ t.fKind = 5) ∧ Good t) (hg : ∀ k ∈ st.flatMap idx, Says k bound (g k)) (hl : st.length ≤ 5000) (f : List TRef) (hf : f.length + nodesL (st.flatMap idx) ≤ 10000) :
    Ev2 (fun n m => reference_finder_chain_l1 (reference_finder_expr n) bound (r, st) m 0 f) (· = F g f (st.flatMap idx)) := by
  have loop : ∀ (k i : Nat) (out : List TRef), i + k = st.length → out.length + nodesL ((st.drop i).flatMap idx) ≤ 10000 → Ev2 (fun n m => reference_finder_chain_l1 (reference_finder_expr n) bound (r, st) m (i : Int) out) (· = F g out ((st.drop i).flatMap idx)) := by
    intro k
    induction k with
    | zero =>
      intro i out hi ho
      refine ev_round ?_
      simp only [reference_finder_chain_l1]
      refine ev_ifF (by omega) (ev_some ?_)
      rw [List.drop_of_length_le (by omega)]; rfl
    | succ k ih =>
      intro i out hi ho
      refine ev_round ?_
      simp only [reference_finder_chain_l1]
      have hb : (0 : Int) ≤ i ∧ (i : Int) < (st.length : Int) := ⟨by omega, by omega⟩
      have hd : st.drop i = st[i]'(by omega) :: st.drop (i + 1) := List.drop_eq_getElem_cons (by omega)
      have hm : st[i]'(by omega) ∈ st := List.getElem_mem _
      refine ev_ifT (by omega) ?_
      rw [lat_get st i (by omega)]
      generalize ht : st[i]'(by omega) = t at hd hm
      obtain ⟨hk, hgood⟩ := hst t hm
      rw [hd, List.flatMap_cons] at ho ⊢
      rw [nodesL_append] at ho
      refine ev_cut (· = F g out (idx t)) (ev_ck hb ?_) (fun x hx => ?_)
      · by_cases h5 : t.fKind = 5
        · obtain ⟨a, q, hq⟩ := hgood.kids5 h5
          have hidx : idx t = [q] := by simp [idx, h5, hq]
          refine ev_cut (· = true) (ev_ifT h5 (ev_some (by rw [hq]; simp))) (fun b hb' => ?_)
          subst hb'
          refine ev_ifT rfl (ev_ck (by rw [hq]; simp) ?_)
          rw [lat_one (l := t.fKids) (k := q) (by rw [hq]; rfl), hidx]
          rw [hidx] at ho
          have hs := hg q (List.mem_flatMap.2 ⟨t, hm, by rw [hidx]; simp⟩)
          refine ev_cut _ (hs.prog out (by simp [nodesL] at ho; omega)) (fun r hr => ev_some ?_)
          rw [hr]; rfl
        · have hidx : idx t = [] := by simp [idx, h5]
          refine ev_cut (· = false) (ev_ifF h5 (ev_some rfl)) (fun b hb' => ?_)
          subst hb'
          refine ev_ifF (by simp) (ev_some ?_)
          rw [hidx]; rfl
      · subst hx
        refine ev_ck (inR_succ hb (by rw [maxW_eq]; omega)) (ev_mono (ih (i + 1) _ (by omega) ?_) fun x hx => ?_)
        · have := F_len g (idx t) (fun k hk => (hg k (List.mem_flatMap.2 ⟨t, hm, hk⟩)).len) out
          omega
        · rw [hx]; simp [F]
  have := loop st.length 0 f (by omega) (by simpa using hf)
  simpa using this

theorem says (e : TExpr) : Good e → BE e → nodes e ≤ 2000 → ∀ bound : List Bytes, bound.length + 2 * nodes e ≤ 10000 → ∃ L, Says e bound L := by
  induction e using size_ind with
  | h e ih =>
  intro hg hb hn bound hbd
  have hb' := hb
  obtain ⟨_, _, _, _, hbk⟩ := hb'
  have hnodes := nodes_eq e
  by_cases hc : e.fKind = 3 ∨ e.fKind = 4 ∨ e.fKind = 5
  · -- a chain
    obtain ⟨r, s, h1, h2⟩ := ch_ex e hg hb
    have hnod := h2.nod
    have hsl : s.length ≤ 100000 := by omega
    have hperm : nodesL (s.reverse.flatMap idx) = nodesL (s.flatMap idx) := by
      have : ∀ l : List TExpr, nodesL (l.reverse.flatMap idx) = nodesL (l.flatMap idx) := by
        intro l
        induction l with
        | nil => rfl
        | cons x l ih => simp [nodesL_append, ih, nodesL]; omega
      exact this s
    have hsub : ∀ q ∈ s.reverse.flatMap idx, ∃ L, Says q bound L := by
      intro q hq
      obtain ⟨t, ht, hqt⟩ := List.mem_flatMap.1 hq
      have ht : t ∈ s := List.mem_reverse.1 ht
      obtain ⟨_, tg, tb⟩ := h2.steps t ht
      have hqk : q ∈ t.fKids := by
        unfold idx at hqt
        split at hqt
        · exact kid_of_get (j := 1) (by simpa using hqt)
        · simp at hqt
      have hqn : nodes q ≤ nodesL (s.reverse.flatMap idx) := nodesL_mem hq
      exact ih q (h2.sub t ht q hqt) (tg.kid hqk) (by cases tb with | mk _ _ _ _ h => exact h q hqk) (by omega) bound (by omega)
    obtain ⟨g, hgs⟩ := pick hsub
    have hK : (F g [] (s.reverse.flatMap idx)).length ≤ nodesL (s.flatMap idx) := by
      have := F_len g (s.reverse.flatMap idx) (fun k hk => (hgs k hk).len) []
      rw [hperm] at this; simpa using this
    -- what the root says
    have root : ∃ A : List TRef, A.length ≤ nodes r ∧ putR [] A = A ∧
        Ev2 (fun n _ => if r.fKind = 3 then (ref17_has n bound r.fName).bind fun r8 => if (!r8) = true then (ref17_Chain_ref (TChain.mk r (s.reverse.map nm) (s.reverse.map fun t => decide (t.fKind = 4)) (s.reverse.flatMap idx))).bind fun r11 => ck ([r11.1].length * 48 ≤ 140737488355328) <| some [r11.1] else some [] else ((ref17_of n) r bound).bind fun r14 => some r14) (· = A) ∧
        ∀ f : List TRef, f.length + nodes e ≤ 10000 → Ev2 (fun n _ => if r.fKind = 3 then (slices_Contains_string_string n bound r.fName).bind fun r4 => if (!r4) = true then (reference_begin r s.reverse).bind fun r7 => (reference_finder_add n (Tfinder.mk f) r7.1).bind fun r9 => some r9.fout else some f else ((reference_finder_expr n) (Tfinder.mk f) r bound).bind fun r11 => some r11.fout) (· = putR f A) := by
      by_cases h3 : r.fKind = 3
      · by_cases hmem : r.fName ∈ bound
        · refine ⟨[], by simp, rfl, ?_, fun f hf => ?_⟩
          · refine ev_ifT h3 (ev_cut _ (has_ev bound _ (by rw [maxW_eq]; omega)) (fun b hb => ?_))
            subst hb
            exact ev_ifF (by simp [hmem]) (ev_some rfl)
          · refine ev_ifT h3 (ev_cut _ (contS_ev bound _ (by rw [maxW_eq]; omega)) (fun b hb => ?_))
            subst hb
            exact ev_ifF (by simp [hmem]) (ev_some rfl)
        · obtain ⟨x, hx⟩ := begin_some r s.reverse
          refine ⟨[x.1], by have := nodes_pos r; simpa using this, by simp [putR, addR, hasR], ?_, fun f hf => ?_⟩
          · refine ev_ifT h3 (ev_cut _ (has_ev bound _ (by rw [maxW_eq]; omega)) (fun b hb => ?_))
            subst hb
            refine ev_ifT (by simp [hmem]) ?_
            simp only [begin_eq, hx, bd_some]
            exact ev_ck (by simp) (ev_some rfl)
          · refine ev_ifT h3 (ev_cut _ (contS_ev bound _ (by rw [maxW_eq]; omega)) (fun b hb => ?_))
            subst hb
            refine ev_ifT (by simp [hmem]) ?_
            simp only [hx, bd_some]
            refine ev_cut _ (add_ev f x.1 (by omega)) (fun y hy => ev_some ?_)
            rw [hy]; rfl
      · have hne : s ≠ [] := by
          intro hs
          rcases h2.size with ⟨_, rfl⟩ | ⟨h, _⟩
          · rcases hc with h | h | h
            · exact h3 h
            · exact h2.k4 h
            · exact h2.k5 h
          · exact h hs
        have hlt : SizeOf.sizeOf r < SizeOf.sizeOf e := by
          rcases h2.size with ⟨h, _⟩ | ⟨_, h⟩
          · exact absurd h hne
          · exact h
        obtain ⟨A, hA⟩ := ih r hlt h2.good h2.be (by omega) bound (by omega)
        refine ⟨A, hA.len, hA.once, ?_, fun f hf => ?_⟩
        · exact ev_ifF h3 (ev_cut _ hA.ref (fun x hx => ev_some hx))
        · refine ev_ifF h3 (ev_cut _ (hA.prog f (by omega)) (fun x hx => ev_some ?_))
          rw [hx]
    obtain ⟨A, hA1, hA0, hA2, hA3⟩ := root
    refine ⟨putR A (F g [] (s.reverse.flatMap idx)), ?_, by rw [putR_putR, hA0], ?_, fun f hf => ?_⟩
    · have := putR_len (F g [] (s.reverse.flatMap idx)) A; omega
    · refine ev_succ ?_
      simp only [ref17_of]
      refine ev_cut (· = true) (ev_ite (fun h => ev_some (decide_eq_true h)) (fun h => ev_ite (fun h => ev_some (decide_eq_true h)) (fun h => ev_some (decide_eq_true (by omega))))) (fun t ht => ?_)
      subst ht
      refine ev_ifT rfl (ev_cut _ (chainR_ev h1 hg hsl) (fun c hc => ?_))
      subst hc
      refine ev_cut _ hA2 (fun a ha => ?_)
      subst ha
      refine ev_cut _ (all_ev (s.reverse.flatMap idx) bound g hgs (by omega)) (fun b hb => ?_)
      subst hb
      exact ev_cut _ (put_ev _ (F g [] (s.reverse.flatMap idx)) (by omega) (by omega)) (fun x hx => ev_some hx)
    · refine ev_succ ?_
      simp only [reference_finder_expr]
      refine ev_cut (· = putR f (putR A (F g [] (s.reverse.flatMap idx)))) ?_ (fun x hx => ev_some (by rw [hx]))
      refine ev_cut (· = true) (ev_ite (fun h => ev_some (decide_eq_true h)) (fun h => ev_ite (fun h => ev_some (decide_eq_true h)) (fun h => ev_some (decide_eq_true (by omega))))) (fun t ht => ?_)
      subst ht
      refine ev_ifT rfl ?_
      refine ev_cut (· = Tfinder.mk (putR f (putR A (F g [] (s.reverse.flatMap idx))))) ?_ (fun x hx => ev_some (by rw [hx]))
      refine ev_succ ?_
      simp only [reference_finder_chain]
      refine ev_cut _ (chain_ev h1 hsl) (fun c hc => ?_)
      subst hc
      refine ev_cut _ (hA3 f hf) (fun a ha => ?_)
      subst ha
      have hlen := putR_len A f
      refine ev_cut _ (ev_loop (prog_steps r s.reverse bound g (fun t ht => ⟨(h2.steps t (List.mem_reverse.1 ht)).1, (h2.steps t (List.mem_reverse.1 ht)).2.1⟩) hgs (by simp; omega) (putR f A) (by omega))) (fun x hx => ev_some ?_)
      rw [hx, F_nil, putR_putR]
  · have hc3 : e.fKind ≠ 3 := fun h => hc (.inl h)
    have hc4 : e.fKind ≠ 4 := fun h => hc (.inr (.inl h))
    have hc5 : e.fKind ≠ 5 := fun h => hc (.inr (.inr h))
    have hkid : ∀ k ∈ e.fKids, ∀ b : List Bytes, b.length + 2 * nodes k ≤ 10000 → ∃ L, Says k b L := by
      intro k hk b hb
      have := nodesL_mem hk
      exact ih k (expr_kid_lt hk) (hg.kid hk) (hbk k hk) (by omega) b hb
    by_cases hf : e.fKind = 12 ∨ e.fKind = 13
    · -- a for expression
      obtain ⟨k0, rest, hkr⟩ : ∃ k0 rest, e.fKids = k0 :: rest := by
        have hs := hg.shape.1
        cases hq : e.fKids with
        | nil => rw [hq] at hs; unfold kidsOk at hs; simp at hs; omega
        | cons a l => exact ⟨a, l, rfl⟩
      have hlen : e.fKids.length = rest.length + 1 := by rw [hkr]; rfl
      have hnl : nodesL e.fKids = nodes k0 + nodesL rest := by rw [hkr]; rfl
      have hpos := nodes_pos k0
      have inn : ∃ inner : List Bytes, inner.length ≤ bound.length + 2 ∧ inner = if e.fKey = [] then bound ++ [e.fName] else (bound ++ [e.fName]) ++ [e.fKey] := by
        refine ⟨_, ?_, rfl⟩
        split <;> simp
      obtain ⟨inner, hil, hinner⟩ := inn
      obtain ⟨L0, hL0⟩ := hkid k0 (by rw [hkr]; simp) bound (by omega)
      have hrest : ∀ k ∈ rest, ∃ L, Says k inner L := by
        intro k hk
        have := nodesL_mem hk
        exact hkid k (by rw [hkr]; simp [hk]) inner (by omega)
      obtain ⟨g, hgs⟩ := pick hrest
      have hFl : (F g [] rest).length ≤ nodesL rest := by
        have := F_len g rest (fun k hk => (hgs k hk).len) []
        simpa using this
      have h0l := hL0.len
      have innref : Ev2 (fun _ _ => if e.fKey = ([] : Bytes) then some (bound ++ [e.fName]) else ck (((bound ++ [e.fName]).length + [e.fKey].length) * 16 ≤ 140737488355328) <| some ((bound ++ [e.fName]) ++ [e.fKey])) (· = inner) := by
        refine ev_ite (fun h => ev_some (by rw [hinner, if_pos h])) (fun h => ev_ck (by simp; omega) (ev_some (by rw [hinner, if_neg h])))
      refine ⟨putR L0 (F g [] rest), ?_, by rw [putR_putR, hL0.once], ?_, fun f hf' => ?_⟩
      · have := putR_len (F g [] rest) L0; omega
      · refine ev_succ ?_
        simp only [ref17_of]
        refine ev_cut (· = false) (ev_ifF hc3 (ev_ifF hc4 (ev_some (decide_eq_false hc5)))) (fun t ht => ?_)
        subst ht
        refine ev_ifF (by simp) ?_
        refine ev_cut (· = true) (ev_ite (fun h => ev_some (decide_eq_true h)) (fun h => ev_some (decide_eq_true (by omega)))) (fun t ht => ?_)
        subst ht
        refine ev_ifT rfl (ev_ifF (by omega) (ev_ck ⟨by omega, by omega⟩ ?_))
        rw [lat_zero (k := k0) (by rw [hkr]; rfl)]
        refine ev_cut _ hL0.ref (fun a ha => ?_)
        subst ha
        refine ev_ck (by omega) (ev_ck (by simp; omega) (ev_cut _ innref (fun i hi => ?_)))
        subst hi
        refine ev_ck ⟨by omega, by omega, by omega⟩ ?_
        rw [sub_from, show e.fKids.drop (1 : Int).toNat = rest by rw [hkr]; rfl]
        refine ev_cut _ (all_ev rest _ g hgs (by omega)) (fun b hb => ?_)
        subst hb
        exact ev_cut _ (put_ev _ _ (by omega) (by omega)) (fun x hx => ev_some hx)
      · refine ev_succ ?_
        simp only [reference_finder_expr]
        refine ev_cut (· = putR f (putR L0 (F g [] rest))) ?_ (fun x hx => ev_some (by rw [hx]))
        refine ev_cut (· = false) (ev_ifF hc3 (ev_ifF hc4 (ev_some (decide_eq_false hc5)))) (fun t ht => ?_)
        subst ht
        refine ev_ifF (by simp) ?_
        refine ev_cut (· = true) (ev_ite (fun h => ev_some (decide_eq_true h)) (fun h => ev_some (decide_eq_true (by omega)))) (fun t ht => ?_)
        subst ht
        refine ev_ifT rfl ?_
        simp only [slices_Clone_string_string]
        rw [ck_pos (by omega)]
        simp only [bd_some]
        refine ev_ck (by simp; omega) (ev_cut _ innref (fun i hi => ?_))
        subst hi
        refine ev_cut _ (ev_loop (prog_for e bound _ k0 rest hkr L0 hL0 g hgs (by omega) f (by omega))) (fun x hx => ev_some ?_)
        rw [hx, F_nil, putR_putR]
    · -- any other
      have h12 : e.fKind ≠ 12 := fun h => hf (.inl h)
      have h13 : e.fKind ≠ 13 := fun h => hf (.inr h)
      have hall : ∀ k ∈ e.fKids, ∃ L, Says k bound L := by
        intro k hk
        have := nodesL_mem hk
        exact hkid k hk bound (by omega)
      obtain ⟨g, hgs⟩ := pick hall
      refine ⟨F g [] e.fKids, ?_, by rw [F_putR]; rfl, ?_, fun f hf' => ?_⟩
      · have := F_len g e.fKids (fun k hk => (hgs k hk).len) []
        simp at this; omega
      · refine ev_succ ?_
        simp only [ref17_of]
        refine ev_cut (· = false) (ev_ifF hc3 (ev_ifF hc4 (ev_some (decide_eq_false hc5)))) (fun t ht => ?_)
        subst ht
        refine ev_ifF (by simp) ?_
        refine ev_cut (· = false) (ev_ifF h12 (ev_some (decide_eq_false h13))) (fun t ht => ?_)
        subst ht
        refine ev_ifF (by simp) ?_
        exact ev_cut _ (all_ev _ bound g hgs (by omega)) (fun x hx => ev_some hx)
      · refine ev_succ ?_
        simp only [reference_finder_expr]
        refine ev_cut (· = putR f (F g [] e.fKids)) ?_ (fun x hx => ev_some (by rw [hx]))
        refine ev_cut (· = false) (ev_ifF hc3 (ev_ifF hc4 (ev_some (decide_eq_false hc5)))) (fun t ht => ?_)
        subst ht
        refine ev_ifF (by simp) ?_
        refine ev_cut (· = false) (ev_ifF h12 (ev_some (decide_eq_false h13))) (fun t ht => ?_)
        subst ht
        refine ev_ifF (by simp) ?_
        refine ev_cut _ (ev_loop (prog_all e bound g hgs (by omega) f (by omega))) (fun x hx => ev_some ?_)
        rw [hx, F_nil]

end Go.Ab.R17
