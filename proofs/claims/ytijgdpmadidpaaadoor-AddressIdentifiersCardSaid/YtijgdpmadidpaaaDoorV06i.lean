/- The law AddressIdentifiers: plain, and its contract. -/
import Derived.Test.YtijgdpmadidpaaaDoorP06a
import Derived.Test.YtijgdpmadidpaaaDoorP06z
import Derived.Test.YtijgdpmadidpaaaDoorR06i
import Derived.Test.YtijgdpmadidpaaaDoorAbW
set_option linter.unusedVariables false
set_option linter.unusedSimpArgs false
set_option linter.unnecessarySimpa false
namespace Go.Ab.R06
open Go.Proofs Go.Ab Go.Ab.RB

theorem law_ident (s : Bytes) : Ev2 (fun n _ => law06_AddressIdentifiers n s) (· = true) := by
  simp only [law06_AddressIdentifiers]
  refine ev_cut (· = true) (ev_ite (fun h => ?_) (fun h => ?_)) (fun t ht => ev_some ht)
  · exact ev_cut _ awake_ev (fun t ht => ev_some ht)
  · refine ev_to _ (ident_ev s (by omega)) (ev_to _ (rident_ev s (by omega)) (ev_ifT (by simp) ?_))
    exact ev_cut _ awake_ev (fun t ht => ev_some ht)

theorem ident_all (qs : List PV) (h : WTa tt [9] qs) : PCalls Tryd.prog 3 qs (· = .p (.val (.bool true))) := by
  match qs, h with
  | [a], ⟨⟨n, h1, h2⟩, _⟩ =>
    cases n with
    | zero => exact h1.elim
    | succ n =>
      obtain ⟨x, e1, _⟩ := dec_str rfl h1
      obtain rfl := mk1_eq e1 h2
      obtain ⟨n, r, hr, rfl⟩ := ev_get (law_ident x)
      exact law06_AddressIdentifiers_ok n x true hr
end Go.Ab.R06
