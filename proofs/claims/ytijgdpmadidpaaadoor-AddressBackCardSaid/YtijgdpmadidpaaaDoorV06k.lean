/- The law AddressBack: plain, and its contract. -/
import Derived.Test.YtijgdpmadidpaaaDoorP06k
import Derived.Test.YtijgdpmadidpaaaDoorV06s
import Derived.Test.YtijgdpmadidpaaaDoorR06k
import Derived.Test.YtijgdpmadidpaaaDoorDec06
set_option linter.unusedVariables false
set_option linter.unusedSimpArgs false
set_option linter.unnecessarySimpa false
namespace Go.Ab.R06
open Go.Proofs Go.Ab Go.Ab.RB

theorem back_l1 (a : TAddress) (ha : a.fModule.length ≤ 100000) : ∀ (k i : Nat) (f : List TModuleStep), i + k = a.fModule.length → f.length = i → Ev2 (fun _ m => law06_AddressBack_l1 a m (i : Int) f) (· = f ++ (a.fModule.drop i).map bareS) := by
  intro k
  induction k with
  | zero =>
    intro i f hi hf
    refine ev_round ?_
    simp only [law06_AddressBack_l1]
    refine ev_ifF (by omega) (ev_some ?_)
    rw [List.drop_of_length_le (by omega)]; simp
  | succ k ih =>
    intro i f hi hf
    refine ev_round ?_
    simp only [law06_AddressBack_l1]
    have h1 : i < a.fModule.length := by omega
    refine ev_ifT (by omega) (ev_ck (by omega) ?_)
    rw [lat_get _ _ h1]
    refine ev_ck (by simp only [List.length_cons, List.length_nil]; omega) (ev_ck (inR_of (by omega) (by omega)) ?_)
    have := ih (i + 1) (f ++ [bareS a.fModule[i]]) (by omega) (by simp; omega)
    rw [Int.natCast_add, Int.natCast_one] at this
    refine ev_mono this fun r hr => ?_
    rw [hr, List.drop_eq_getElem_cons h1, List.append_assoc]; rfl

theorem law_back (a : TAddress) : Ev2 (fun n _ => law06_AddressBack n a) (· = true) := by
  simp only [law06_AddressBack]
  refine ev_cut (fun t => t = false → Sm a ∧ checkP a = 0) ?_ (fun t ht => ?_)
  · refine ev_cut _ (few_ev a) (fun r hr => ev_ite (fun h => ev_some (by simp)) (fun h => ?_))
    have hs := hr (by simpa using h)
    refine ev_to _ (check_ev a hs) (ev_some fun q => ⟨hs, by simpa using q⟩)
  · refine ev_ite (fun h => ev_cut _ awake_ev (fun t ht => ev_some ht)) (fun h => ?_)
    obtain ⟨hs, hc⟩ := ht (by simpa using h)
    have l := back_l1 a hs.1 a.fModule.length 0 [] (by omega) rfl
    rw [List.drop_zero, List.nil_append] at l
    have hcb := check_bare hc
    have hf : formatP a = addrText a := by unfold formatP; rw [if_pos hc]
    have hfb : formatP (bareP a) = addrText (bareP a) := by unfold formatP; rw [if_pos hcb]
    have hl := addr_len hc
    have hlb := addr_len hcb
    have hst := static_text hc
    have hst2 := static_text hcb
    rw [bare_bare] at hst2
    refine ev_to _ (ev_loop l) (ev_to _ (format_ev a hs) ?_)
    rw [hf]
    refine ev_to _ (parse_ev _ (by omega)) (ev_to _ (Static_ev _ (by omega)) ?_)
    rw [parse_back hc, hst]
    refine ev_to _ (Static_ev _ (by show (addrText (bareP a)).length ≤ _; omega)) ?_
    show Ev2 _ _
    rw [hst2]
    have hm : a.fModule.length ≤ 1000000 := by have := hs.1; omega
    refine ev_cut (· = true) (ev_ifT rfl (ev_to _ (same_ev a a hm) (ev_ifT (by simp [addrEq]) (ev_ifT rfl (ev_to _ (format_ev (bareP a) hs.bare) ?_))))) (fun t ht => ev_some ht)
    rw [hfb]
    exact ev_ifT rfl (ev_ifT rfl (ev_ifT rfl (ev_cut _ awake_ev (fun t ht => ev_some ht))))

theorem back_all (qs : List PV) (h : WTa tt [29] qs) : PCalls Tryd.prog 5 qs (· = .p (.val (.bool true))) := by
  match qs, h with
  | [a], ⟨⟨n, h1, h2⟩, _⟩ =>
    obtain ⟨x, e1, _⟩ := TAddress.dec n _ h1
    obtain rfl := mkA_eq e1 h2
    obtain ⟨n, r, hr, rfl⟩ := ev_get (law_back x)
    exact law06_AddressBack_ok n x true hr
end Go.Ab.R06
