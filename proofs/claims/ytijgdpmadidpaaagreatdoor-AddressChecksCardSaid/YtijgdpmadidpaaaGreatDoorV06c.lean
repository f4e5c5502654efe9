/- The law AddressChecks: plain, and its contract. -/
import Derived.Test.YtijgdpmadidpaaaGreatDoorP06q
import Derived.Test.YtijgdpmadidpaaaGreatDoorV06s
import Derived.Test.YtijgdpmadidpaaaGreatDoorR06c
import Derived.Test.YtijgdpmadidpaaaGreatDoorDec06
set_option linter.unusedVariables false
set_option linter.unusedSimpArgs false
set_option linter.unnecessarySimpa false
namespace Go.Ab.R06
open Go.Proofs Go.Ab Go.Ab.RB

theorem few2_l1 (a : TAddress) (hl : a.fModule.length ≤ 40) : ∀ (k i : Nat), i + k = a.fModule.length → Ev2 (fun _ m => law06_few_l1 a m (i : Int)) (fun r => (r = .inl () → ∀ x ∈ a.fModule.drop i, x.fName.length ≤ 5000 ∧ x.fKey.fStr.length ≤ 5000) ∧ ∀ b, r = .inr b → b = false) := by
  intro k
  induction k with
  | zero =>
    intro i hi
    refine ev_round ?_
    simp only [law06_few_l1]
    refine ev_ifF (by omega) (ev_some ⟨fun _ => ?_, fun b h => (by cases h)⟩)
    rw [List.drop_of_length_le (by omega)]; simp
  | succ k ih =>
    intro i hi
    refine ev_round ?_
    simp only [law06_few_l1]
    have h1 : i < a.fModule.length := by omega
    refine ev_ifT (by omega) ?_
    rw [lat_get _ _ h1, List.drop_eq_getElem_cons h1]
    have := ih (i + 1) (by omega)
    rw [Int.natCast_add, Int.natCast_one] at this
    generalize a.fModule[i] = x
    refine ev_cut (fun t => t = false → x.fName.length ≤ 5000 ∧ x.fKey.fStr.length ≤ 5000) (ev_ck (by omega) (ev_ite (fun h => ev_some (by simp)) (fun h => ev_ck (by omega) (ev_some fun q => ⟨by omega, by have := of_decide_eq_false q; omega⟩)))) (fun t ht => ?_)
    refine ev_ite (fun h => ev_some ⟨by simp, fun b h => (by cases h; rfl)⟩) (fun h => ev_ck (inR_of (by omega) (by omega)) ?_)
    refine ev_mono this fun r hr => ⟨fun q y hy => ?_, hr.2⟩
    rcases List.mem_cons.1 hy with rfl | hy
    · exact ht (by simpa using h)
    · exact hr.1 q y hy
theorem few2_ev (a : TAddress) : Ev2 (fun n _ => law06_few n a) (fun r => r = true → Sm a ∧ Sk a) := by
  simp only [law06_few]
  refine ev_cut (fun t => t = false → a.fModule.length ≤ 40 ∧ a.fType.length ≤ 5000 ∧ a.fName.length ≤ 5000 ∧ a.fKey.fStr.length ≤ 5000) ?_ (fun t ht => ?_)
  · refine ev_ite (fun h => ev_some (by simp)) (fun h1 => ev_ite (fun h => ev_some (by simp)) (fun h2 => ev_ite (fun h => ev_some (by simp)) (fun h3 => ev_some fun q => ⟨by omega, by omega, by omega, by have := of_decide_eq_false q; omega⟩)))
  · refine ev_ite (fun h => ev_some (by simp)) (fun h => ?_)
    obtain ⟨h1, h2, h3, h4⟩ := ht (by simpa using h)
    have l := few2_l1 a h1 a.fModule.length 0 (by omega)
    rw [List.drop_zero] at l
    refine ev_jn (ev_mono (ev_loop l) fun s hs => ?_)
    cases s with
    | inl u => exact ev_some fun _ => ⟨⟨by omega, by omega, by omega, fun x hx => by have := hs.1 rfl x hx; omega⟩, by omega, fun x hx => by have := hs.1 rfl x hx; omega⟩
    | inr b =>
      intro q
      have := hs.2 b rfl
      rw [this] at q; cases q

theorem law_checks (a : TAddress) : Ev2 (fun n _ => law06_AddressChecks n a) (· = true) := by
  simp only [law06_AddressChecks]
  refine ev_cut _ (few2_ev a) (fun r hr => ev_ite (fun h => ev_cut _ awake_ev (fun t ht => ev_some ht)) (fun h => ?_))
  obtain ⟨hs, hk⟩ := hr (by simpa using h)
  refine ev_cut (· = true) ?_ (fun t ht => ev_some ht)
  refine ev_to _ (check_ev a hs) (ev_to _ (rcheck_ev a hs hk) (ev_ifT rfl (ev_to _ (format_ev a hs) (ev_to _ (rformatA_ev a hs hk) (ev_ifT rfl (ev_to _ (fkey_ev a.fKey) (ev_to _ (rfkey_ev a.fKey (by have := hk.1; omega)) (ev_ifT rfl (ev_cut _ awake_ev (fun t ht => ev_some ht))))))))))

theorem checks_all (qs : List PV) (h : WTa tt [27] qs) : PCalls Tryz.prog 3 qs (· = .p (.val (.bool true))) := by
  match qs, h with
  | [a], ⟨⟨n, h1, h2⟩, _⟩ =>
    obtain ⟨x, e1, _⟩ := TAddress.dec n _ h1
    obtain rfl := mkA_eq e1 h2
    obtain ⟨n, r, hr, rfl⟩ := ev_get (law_checks x)
    exact law06_AddressChecks_ok n x true hr
end Go.Ab.R06
