/- TargetChecks: the law is fulfilled whatever it is handed. -/
import Derived.Test.YtgdcfenbmcflkaaGreatDoorP42a
import Derived.Test.YtgdcfenbmcflkaaGreatDoorR42k
import Derived.Test.YtgdcfenbmcflkaaGreatDoorTy
set_option linter.unusedVariables false
set_option linter.unusedSimpArgs false
set_option linter.unnecessarySimpa false
namespace Go.Ab.R06
open Go.Proofs Go.Ab Go.Ab.RB

theorem strs_dec {n : Nat} {a : PV} (h1 : WTf tt n 22 a.cells) (h2 : a = mkE (((look tt 22).map (·.k.isAgg)).getD false) a.cells) : ∃ l : List Bytes, a = eL eS l ∧ l.length ≤ maxW := by
  obtain ⟨l, e1, b1, _⟩ := dec_listN eS (fun y => y.length ≤ maxW) rfl h1 (fun m x hm k1 k2 => by
    cases m with
    | zero => exact k1.elim
    | succ m =>
      obtain ⟨y, e, b⟩ := Go.Ab.dec_str rfl k1
      exact ⟨y, mk1_eq e k2, b⟩)
  have b1 : l.length * 16 ≤ maxW := b1
  exact ⟨l, mk1_eq e1 h2, by omega⟩
theorem law_checks (l : List Bytes) (hb : l.length ≤ maxW) : Ev2 (fun n _ => law42_TargetChecks n l) (· = true) := by
  simp only [law42_TargetChecks]
  refine ev_cut (· = true) ?_ (fun x hx => by subst hx; exact ev_some rfl)
  refine ev_tp _ (short_ev l 100 hb) ?_
  cases hq : shortP l 100
  · exact ev_ifT rfl (ev_tp _ awake_ev (ev_some rfl))
  · have hs : ∀ s ∈ l, s.length ≤ 65536 := fun s hs => by have := (shortP_len hq).2 s hs; omega
    refine ev_ifF (by decide) (ev_tp _ (tcheck_ev l hs) (ev_tp _ (rcheck_ev l hs) (ev_ifT rfl ?_)))
    exact ev_tp _ awake_ev (ev_some rfl)
theorem checks_all (qs : List PV) (h : WTa tt [22] qs) : PCalls Tryz.prog 3 qs (· = .p (.val (.bool true))) := by
  match qs, h with
  | [a], ⟨⟨n, h1, h2⟩, _⟩ =>
    obtain ⟨l, rfl, b1⟩ := strs_dec h1 h2
    obtain ⟨n, r, hr, rfl⟩ := ev_get (law_checks l b1)
    exact law42_TargetChecks_ok n l true hr
end Go.Ab.R06
