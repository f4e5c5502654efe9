/- The law ExplainReasons: plain, and its contract. -/
import Derived.Test.YtapfhipodpbflaaGreatDoorM46
import Derived.Test.YtapfhipodpbflaaGreatDoorR46q
import Derived.Test.YtapfhipodpbflaaGreatDoorAbW
set_option linter.unusedVariables false
set_option linter.unusedSimpArgs false
set_option linter.unnecessarySimpa false
namespace Go.Ab.R06
open Go.Proofs Go.Ab Go.Ab.RB

theorem reason_same (r : Int) : explain_Reason r = ref46_Reason r := rfl
theorem ite_some46 {α : Type} {c : Prop} [Decidable c] {a : α} {o : Option α} (h : ∃ x, o = some x) : ∃ x, (if c then some a else o) = some x := by
  by_cases k : c
  · exact ⟨a, if_pos k⟩
  · rw [if_neg k]; exact h
theorem reason_some (r : Int) : ∃ x, explain_Reason r = some x := by
  unfold explain_Reason
  iterate 11 refine ite_some46 ?_
  exact ⟨_, rfl⟩

theorem law_reasons (r : Int) : Ev2 (fun n _ => law46_ExplainReasons n r) (· = true) := by
  obtain ⟨x, hx⟩ := reason_some r
  simp only [law46_ExplainReasons]
  refine ev_cut (· = true) ?_ (fun t ht => ev_some ht)
  rw [← reason_same, hx]
  simp only [Option.bind_some]
  refine ev_ifT trivial ?_
  exact ev_cut _ awake46_ev (fun t ht => ev_some ht)

theorem reasons_all (qs : List PV) (h : WTa tt [22] qs) : PCalls Tryz.prog 3 qs (· = .p (.val (.bool true))) := by
  match qs, h with
  | [a], ⟨⟨n, h1, h2⟩, _⟩ =>
    cases n with
    | zero => exact h1.elim
    | succ n =>
      obtain ⟨x, e1, _⟩ := Go.Ab.dec_i64 rfl h1
      obtain rfl := mk1_eq e1 h2
      obtain ⟨n, r, hr, rfl⟩ := ev_get (law_reasons x)
      exact law46_ExplainReasons_ok n x true hr
end Go.Ab.R06
