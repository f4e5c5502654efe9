/- The law AddressWithin: plain, and its contract. -/
import Derived.Test.YtijgdpmadidpaaaGreatDoorP06x
set_option linter.unusedVariables false
set_option linter.unusedSimpArgs false
set_option linter.unnecessarySimpa false
namespace Go.Ab.R06
open Go.Proofs Go.Ab Go.Ab.RB Go.Lib

theorem law_within (s p : Bytes) : Ev2 (fun n _ => law06_AddressWithin n s p) (· = true) := by
  simp only [law06_AddressWithin]
  refine ev_to (decide (3000 < s.length ∨ 3000 < p.length)) (ev_ite (fun h => ev_some (by simp; omega)) (fun h => ev_some (eqB (by simp; omega)))) ?_
  refine ev_ite (fun h => ev_cut _ awake_ev (fun t ht => ev_some ht)) (fun h => ?_)
  have h : ¬ (3000 < s.length ∨ 3000 < p.length) := fun q => h (decide_eq_true q)
  refine ev_cut (· = true) ?_ (fun t ht => ev_some ht)
  refine ev_to _ (within_ev s p (by omega) (by omega)) (ev_to _ (rwithin_ev s p (by omega) (by omega)) ?_)
  rw [within_same]
  exact ev_ifT (by simp) (ev_cut _ awake_ev (fun t ht => ev_some ht))

theorem within_all (qs : List PV) (h : WTa tt [9, 9] qs) : PCalls Tryz.prog 5 qs (· = .p (.val (.bool true))) := by
  match qs, h with
  | [a, b], ⟨⟨n, h1, h2⟩, ⟨m, k1, k2⟩, _⟩ =>
    cases n with
    | zero => exact h1.elim
    | succ n =>
      cases m with
      | zero => exact k1.elim
      | succ m =>
        obtain ⟨x, e1, _⟩ := Go.Ab.dec_str rfl h1
        obtain rfl := mk1_eq e1 h2
        obtain ⟨y, e1, _⟩ := Go.Ab.dec_str rfl k1
        obtain rfl := mk1_eq e1 k2
        obtain ⟨n, r, hr, rfl⟩ := ev_get (law_within x y)
        exact law06_AddressWithin_ok n x y true hr
end Go.Ab.R06
