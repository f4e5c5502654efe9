/- The plain law of ReferenceLists, and what the other laws need of it. -/
import Derived.Test.YtmpmphkpplgbkaaP17g
import Derived.Test.YtmpmphkpplgbkaaT17
import Derived.Test.YtmpmphkpplgbkaaM17
import Derived.Test.YtmpmphkpplgbkaaDec17
set_option linter.unusedVariables false
set_option linter.unusedSimpArgs false
set_option linter.unnecessarySimpa false
namespace Go.Ab.R17
open Go.Ab

theorem bv_of (v : TValue) : v.Bd → BV v := by
  induction v using value_ind with
  | h v ih =>
  intro h
  have := h.bItems
  have := h.bKeys
  exact .mk h.bStr (by omega) (by omega) h.eKeys fun k hk => ih k hk (h.eItems k hk)
theorem be_of (e : TExpr) : e.Bd → BE e := by
  induction e using expr_ind with
  | h e ih =>
  intro h
  have := h.bKids
  exact .mk h.bName h.bKey (bv_of _ h.bValue) (by omega) fun k hk => ih k hk (h.eKids k hk)

theorem awake_ev : Ev2 (fun n _ => law17_awake n) (· = true) := ev_once 100 awake_some (fun n hn => law17_awake_le hn) rfl

/-- The references that the program finds are those of the reference. -/
theorem of_ev (e : TExpr) (hg : Good e) (hb : BE e) (hn : nodes e ≤ 2000) : ∃ L : List TRef, L.length ≤ nodes e ∧ Says e [] L ∧ Ev2 (fun n _ => reference_Of n e) (· = L) ∧ Ev2 (fun n _ => ref17_Of n e) (· = L) := by
  obtain ⟨L, hL⟩ := says e hg hb hn [] (by simp; omega)
  refine ⟨L, hL.len, hL, ?_, ?_⟩
  · simp only [reference_Of]
    exact ev_cut _ (hL.prog [] (by simp; omega)) (fun x hx => ev_some (by rw [hx]; exact hL.once))
  · simp only [ref17_Of]
    exact ev_cut _ hL.ref (fun x hx => ev_some hx)

theorem parse_ev (e : TExpr) (hg : Good e) (hb : BE e) (hn : nodes e ≤ 2000) : ∃ p, Ev2 (fun n _ => reference_Parse n e) (· = p) ∧ Ev2 (fun n _ => ref17_Parse n e) (· = p) := by
  obtain ⟨r, s, h1, h2⟩ := ch_ex e hg hb
  have hnod := h2.nod
  have hsl : s.length ≤ 100000 := by omega
  obtain ⟨x, hx⟩ := begin_some r s.reverse
  have any5 : s.reverse.any (fun t => decide (t.fKind = 5)) = decide (0 < ((s.reverse.flatMap idx).length : Int)) := by
    rw [Bool.eq_iff_iff, List.any_eq_true, decide_eq_true_iff]
    have key : 0 < (s.reverse.flatMap idx).length ↔ ∃ q, q ∈ s.reverse.flatMap idx := by
      rw [List.length_pos_iff_exists_mem]
    constructor
    · rintro ⟨t, ht, h5⟩
      have h5 := of_decide_eq_true h5
      obtain ⟨_, tg, _⟩ := h2.steps t (List.mem_reverse.1 ht)
      obtain ⟨a, q, hq⟩ := tg.kids5 h5
      have : 0 < (s.reverse.flatMap idx).length := key.2 ⟨q, List.mem_flatMap.2 ⟨t, ht, by simp [idx, h5, hq]⟩⟩
      omega
    · intro h
      obtain ⟨q, hq⟩ := key.1 (by omega)
      obtain ⟨t, ht, hqt⟩ := List.mem_flatMap.1 hq
      refine ⟨t, ht, decide_eq_true ?_⟩
      unfold idx at hqt
      split at hqt
      · assumption
      · simp at hqt
  have hw : s.reverse.length ≤ maxW := by rw [maxW_eq]; simp; omega
  by_cases hc : r.fKind = 3 ∧ s.reverse.any (fun t => decide (t.fKind = 5)) = false
  · obtain ⟨h3, ha⟩ := hc
    have hk : ¬ 0 < ((s.reverse.flatMap idx).length : Int) := by rw [ha] at any5; exact of_decide_eq_false any5.symm
    by_cases hl : x.2 = (s.reverse.length : Int)
    · refine ⟨(x.1, true), ?_, ?_⟩
      · simp only [reference_Parse]
        refine ev_cut _ (chain_ev h1 hsl) (fun c hc => ?_)
        subst hc
        refine ev_cut (· = false) (ev_ifT h3 (ev_cut _ (contE_ev _ _ (fun t => decide (t.fKind = 5)) (fun _ => rfl) hw) (fun b hb => ev_some (by rw [hb, ha])))) (fun t ht => ?_)
        subst ht
        refine ev_ifF (by simp) ?_
        simp only [hx, bd_some]
        exact ev_ifT hl (ev_some rfl)
      · simp only [ref17_Parse]
        refine ev_cut _ (chainR_ev h1 hg hsl) (fun c hc => ?_)
        subst hc
        refine ev_cut (· = false) (ev_ifT h3 (ev_some (decide_eq_false hk))) (fun t ht => ?_)
        subst ht
        refine ev_ifF (by simp) ?_
        simp only [begin_eq, hx, bd_some]
        exact ev_ifT (by simpa using hl) (ev_some rfl)
    · refine ⟨(TRef.mk 0 [] [] 0, false), ?_, ?_⟩
      · simp only [reference_Parse]
        refine ev_cut _ (chain_ev h1 hsl) (fun c hc => ?_)
        subst hc
        refine ev_cut (· = false) (ev_ifT h3 (ev_cut _ (contE_ev _ _ (fun t => decide (t.fKind = 5)) (fun _ => rfl) hw) (fun b hb => ev_some (by rw [hb, ha])))) (fun t ht => ?_)
        subst ht
        refine ev_ifF (by simp) ?_
        simp only [hx, bd_some]
        exact ev_ifF hl (ev_some rfl)
      · simp only [ref17_Parse]
        refine ev_cut _ (chainR_ev h1 hg hsl) (fun c hc => ?_)
        subst hc
        refine ev_cut (· = false) (ev_ifT h3 (ev_some (decide_eq_false hk))) (fun t ht => ?_)
        subst ht
        refine ev_ifF (by simp) ?_
        simp only [begin_eq, hx, bd_some]
        exact ev_ifF (by simpa using hl) (ev_some rfl)
  · refine ⟨(TRef.mk 0 [] [] 0, false), ?_, ?_⟩
    · simp only [reference_Parse]
      refine ev_cut _ (chain_ev h1 hsl) (fun c hc => ?_)
      subst hc
      refine ev_cut (· = true) (ev_ite (fun h3 => ev_cut _ (contE_ev _ _ (fun t => decide (t.fKind = 5)) (fun _ => rfl) hw) (fun b hb => ev_some ?_)) (fun _ => ev_some rfl)) (fun t ht => ?_)
      · rw [hb]
        cases ha : s.reverse.any (fun t => decide (t.fKind = 5)) with
        | true => rfl
        | false => exact absurd ⟨h3, ha⟩ hc
      subst ht
      exact ev_ifT rfl (ev_some rfl)
    · simp only [ref17_Parse]
      refine ev_cut _ (chainR_ev h1 hg hsl) (fun c hc => ?_)
      subst hc
      refine ev_cut (· = true) (ev_ite (fun h3 => ev_some ?_) (fun _ => ev_some rfl)) (fun t ht => ?_)
      · cases ha : s.reverse.any (fun t => decide (t.fKind = 5)) with
        | true => rw [ha] at any5; exact any5.symm
        | false => exact absurd ⟨h3, ha⟩ hc
      subst ht
      exact ev_ifT rfl (ev_some rfl)

theorem law_lists (e : TExpr) (he : e.Bd) : Ev2 (fun n _ => law17_ReferenceLists n e) (· = true) := by
  have hb := be_of e he
  simp only [law17_ReferenceLists]
  refine ev_cut _ (right_tot e hb) (fun r hr => ?_)
  refine ev_ite (fun _ => ev_cut _ awake_ev (fun x hx => ev_some hx)) (fun h => ?_)
  obtain ⟨hg, hn⟩ := hr (by simpa using h)
  obtain ⟨p, p1, p2⟩ := parse_ev e hg hb (by omega)
  obtain ⟨L, hL, _, l1, l2⟩ := of_ev e hg hb (by omega)
  refine ev_cut _ p1 (fun a ha => ?_)
  subst ha
  refine ev_cut _ p2 (fun b hb => ?_)
  subst hb
  refine ev_cut (· = true) ?_ (fun t ht => ev_some ht)
  refine ev_cut _ l1 (fun c hc => ?_)
  subst hc
  refine ev_cut _ l2 (fun d hd => ?_)
  subst hd
  refine ev_cut _ (refs_self _ (by rw [maxW_eq]; omega)) (fun t ht => ?_)
  subst ht
  refine ev_ifT rfl (ev_ifT ⟨rfl, rfl, rfl, rfl⟩ (ev_ifT (by simp) ?_))
  exact ev_cut _ awake_ev (fun x hx => ev_some hx)

end Go.Ab.R17
