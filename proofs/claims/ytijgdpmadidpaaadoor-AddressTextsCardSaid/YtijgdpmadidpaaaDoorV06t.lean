/- The law AddressTexts: plain, and its contract. -/
import Derived.Test.YtijgdpmadidpaaaDoorP06g
import Derived.Test.YtijgdpmadidpaaaDoorV06s
import Derived.Test.YtijgdpmadidpaaaDoorR06t
import Derived.Test.YtijgdpmadidpaaaDoorAbW
set_option linter.unusedVariables false
set_option linter.unusedSimpArgs false
set_option linter.unnecessarySimpa false
namespace Go.Ab.R06
open Go.Proofs Go.Ab Go.Ab.RB

theorem parse_err {s : Bytes} {a : TAddress} {e : Int} (h : parseP s = (a, e)) (he : e ≠ 0) : a = noAddr := by
  unfold parseP at h
  simp only at h
  split at h
  · cases h; rfl
  · split at h
    · cases h; rfl
    · cases h; exact absurd rfl he

theorem law_texts (s : Bytes) : Ev2 (fun n _ => law06_AddressTexts n s) (· = true) := by
  simp only [law06_AddressTexts]
  refine ev_ite (fun h => ?_) (fun h => ?_)
  · exact ev_cut _ awake_ev (fun t ht => ev_some ht)
  · refine ev_to _ (parse_ev s (by omega)) ?_
    have hs := @parse_sound s
    have he := @parse_err s
    generalize parseP s = p at hs he ⊢
    obtain ⟨a, e⟩ := p
    simp only
    refine ev_ite (fun h0 => ?_) (fun h0 => ?_)
    · subst h0
      obtain ⟨h1, h2, h3⟩ := hs rfl
      refine ev_cut (· = true) (ev_to _ (format_ev a h3) ?_) (fun t ht => ev_some ht)
      have hf : formatP a = s := by unfold formatP; rw [if_pos h1, h2]
      rw [hf]
      refine ev_ifT rfl (ev_to _ (check_ev a h3) (ev_ifT h1 ?_))
      exact ev_cut _ awake_ev (fun t ht => ev_some ht)
    · obtain rfl := he rfl h0
      refine ev_cut (· = true) (ev_to _ (same_ev noAddr _ (by simp [noAddr])) ?_) (fun t ht => ev_some ht)
      refine ev_ifT (by simp [addrEq, noAddr, noKey]) ?_
      exact ev_cut _ awake_ev (fun t ht => ev_some ht)

theorem texts_all (qs : List PV) (h : WTa tt [9] qs) : PCalls Tryd.prog 4 qs (· = .p (.val (.bool true))) := by
  match qs, h with
  | [a], ⟨⟨n, h1, h2⟩, _⟩ =>
    cases n with
    | zero => exact h1.elim
    | succ n =>
      obtain ⟨x, e1, _⟩ := Go.Ab.dec_str rfl h1
      obtain rfl := mk1_eq e1 h2
      obtain ⟨n, r, hr, rfl⟩ := ev_get (law_texts x)
      exact law06_AddressTexts_ok n x true hr
end Go.Ab.R06
