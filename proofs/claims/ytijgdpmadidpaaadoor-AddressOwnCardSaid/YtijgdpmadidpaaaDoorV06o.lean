/- The law AddressOwn: plain, and its contract. -/
import Derived.Test.YtijgdpmadidpaaaDoorP06o
import Derived.Test.YtijgdpmadidpaaaDoorR06o
import Derived.Test.YtijgdpmadidpaaaDoorDec06
set_option linter.unusedVariables false
set_option linter.unusedSimpArgs false
set_option linter.unnecessarySimpa false
namespace Go.Ab.R06
open Go.Proofs Go.Ab Go.Ab.RB

theorem step_len2 {a : TAddress} (h : checkP a = 0) (i : Nat) : ((a.fModule.take i).flatMap stepText).length ≤ 400000 := by
  obtain ⟨c1, c2, _⟩ := (checkP_zero a).1 h
  have := steps_len (a.fModule.take i) (fun x hx => (c2 x (List.mem_of_mem_take hx)).1)
  rw [List.length_take] at this
  omega

theorem own_l1 (a : TAddress) (h : checkP a = 0) : ∀ (k i : Nat) (p : Bytes), i + k = a.fModule.length → (if i = 0 then p = [] else p ++ [46] = (a.fModule.take i).flatMap stepText) →
    Ev2 (fun n m => law06_AddressOwn_l1 n a (addrText a) m p (i : Int)) (· = .inl ()) := by
  obtain ⟨c1, c2, c3, c4, c5⟩ := (checkP_zero a).1 h
  have hal := addr_len h
  intro k
  induction k with
  | zero =>
    intro i p hi hp
    refine ev_round ?_
    simp only [law06_AddressOwn_l1]
    exact ev_ifF (by omega) (ev_some rfl)
  | succ k ih =>
    intro i p hi hp
    refine ev_round ?_
    simp only [law06_AddressOwn_l1]
    have h1 : i < a.fModule.length := by omega
    have hx := c2 _ (List.getElem_mem h1)
    have hnew : ∀ y ∈ a.fModule.take i, identB y.fName = true ∧ keyOk y.fKey = true := fun y hy => c2 y (List.mem_of_mem_take hy)
    have hl2 := step_len2 h i
    have htl : (a.fModule.take i).length < 16 := by rw [List.length_take]; omega
    have hm : a.fModule = a.fModule.take i ++ a.fModule[i] :: a.fModule.drop (i + 1) := by
      conv => lhs; rw [← List.take_append_drop i a.fModule]
      rw [List.drop_eq_getElem_cons h1]
    have ht1 : a.fModule.take (i + 1) = a.fModule.take i ++ [a.fModule[i]] := by rw [List.take_add_one, List.getElem?_eq_getElem h1]; rfl
    have hi2 : ∀ q : Bytes, i + 1 + k = a.fModule.length → q ++ [46] = (a.fModule.take (i + 1)).flatMap stepText → Ev2 (fun n m => law06_AddressOwn_l1 n a (addrText a) m q ((i + 1 : Nat) : Int)) (· = .inl ()) := fun q e1 e2 => ih (i + 1) q e1 (by rw [if_neg (by omega)]; exact e2)
    rw [ht1] at hi2
    have hlat : lat a.fModule (i : Int) = a.fModule[i] := lat_get _ _ h1
    have hpl0 : (a.fModule.take i).length ≤ i := by rw [List.length_take]; omega
    generalize a.fModule.take i = pre at hnew hl2 htl hm hi2 hp hpl0
    generalize a.fModule[i] = x at hx hm hi2 hlat
    generalize a.fModule.drop (i + 1) = post at hm
    have hb1 : belowB a.fModule (pre ++ [bareS x]) = true := by rw [hm]; exact below_last pre x post
    have hb2 : belowB a.fModule (pre ++ [x]) = true := by
      rw [hm, show pre ++ x :: post = (pre ++ [x]) ++ post by simp]; exact below_self _ _
    have hn := identB_len hx.1
    have hk := keyText_len x.fKey
    refine ev_ifT (by omega) (ev_to (pre.flatMap stepText) ?_ ?_)
    · by_cases h0 : i = 0
      · rw [if_pos h0] at hp
        refine ev_ifF (by omega) (ev_some ?_)
        have : pre = [] := List.eq_nil_of_length_eq_zero (by omega)
        rw [hp, this]; rfl
      · rw [if_neg h0] at hp
        have hpl : p.length + 1 = (pre.flatMap stepText).length := by rw [← hp]; simp
        exact ev_ifT (by omega) (ev_ck (by simp only [List.length_cons, List.length_nil]; omega) (ev_some hp))
    refine ev_ck (by simp only [List.length_cons, List.length_nil]; omega) (ev_ck (by omega) ?_)
    rw [hlat]
    have w1 := within_path h hnew (x := bareS x) hx.1 rfl htl hb1
    have w2 := within_path h hnew (x := x) hx.1 hx.2 htl hb2
    have e1 : (pre.flatMap stepText ++ ([109, 111, 100, 117, 108, 101, 46] : Bytes)) ++ x.fName = pathText pre (bareS x) := by
      have : keyText noKey = [] := rfl
      simp [pathText, bareS, modB, this]
    have e2 : pathText pre (bareS x) ++ keyText x.fKey = pathText pre x := by
      rw [← e1]; simp [pathText, modB]
    have e3 : pathText pre x ++ [46] = (pre ++ [x]).flatMap stepText := by
      rw [List.flatMap_append]; simp [pathText, stepText]
    have l1 : (pathText pre (bareS x)).length ≤ 500000 := by
      rw [← e1]; simp only [List.length_append, List.length_cons, List.length_nil]; omega
    have l2 : (pathText pre x).length ≤ 530000 := by
      rw [← e2, List.length_append]; omega
    refine ev_ck (by simp only [List.length_append, List.length_cons, List.length_nil]; omega) ?_
    rw [e1]
    refine ev_to _ (within_ev _ _ (by omega) (by omega)) ?_
    rw [w1]
    refine ev_ifF (by simp) (ev_ck (by omega) (ev_to _ (fkey_ev _) (ev_ck (by omega) ?_)))
    rw [e2]
    refine ev_to _ (within_ev _ _ (by omega) (by omega)) ?_
    rw [w2]
    refine ev_ifF (by simp) (ev_ck (inR_of (by omega) (by omega)) ?_)
    have := hi2 (pathText pre x) (by omega) e3
    rw [Int.natCast_add, Int.natCast_one] at this
    exact this

theorem law_own (a : TAddress) : Ev2 (fun n _ => law06_AddressOwn n a) (· = true) := by
  simp only [law06_AddressOwn]
  refine ev_cut (fun t => t = false → Sm a ∧ checkP a = 0) ?_ (fun t ht => ?_)
  · refine ev_cut _ (few_ev a) (fun r hr => ev_ite (fun h => ev_some (by simp)) (fun h => ?_))
    have hs := hr (by simpa using h)
    refine ev_to _ (check_ev a hs) (ev_some fun q => ⟨hs, by simpa using q⟩)
  · refine ev_ite (fun h => ev_cut _ awake_ev (fun t ht => ev_some ht)) (fun h => ?_)
    obtain ⟨hs, hc⟩ := ht (by simpa using h)
    have hcb := check_bare hc
    have hf : formatP a = addrText a := by unfold formatP; rw [if_pos hc]
    have hl := addr_len hc
    have hlb := addr_len hcb
    have hst := static_text hc
    refine ev_to _ (format_ev a hs) ?_
    rw [hf]
    refine ev_to _ (Static_ev _ (by omega)) ?_
    rw [hst]
    refine ev_to false ?_ (ev_ifF (by simp) ?_)
    · refine ev_to _ (within_ev _ _ (by omega) (by omega)) ?_
      rw [within_self hc]
      refine ev_ifF (by simp) (ev_to _ (within_ev _ _ (by omega) (by show (addrText (bareP a)).length ≤ _; omega)) (ev_some ?_))
      show (!withinP (addrText a) (addrText (bareP a))) = false
      rw [within_bare hc]; rfl
    · exact ev_jnL () (ev_loop (own_l1 a hc a.fModule.length 0 [] (by omega) rfl)) (ev_cut _ awake_ev (fun t ht => ev_some ht))

theorem own_all (qs : List PV) (h : WTa tt [29] qs) : PCalls Tryd.prog 6 qs (· = .p (.val (.bool true))) := by
  match qs, h with
  | [a], ⟨⟨n, h1, h2⟩, _⟩ =>
    obtain ⟨x, e1, _⟩ := TAddress.dec n _ h1
    obtain rfl := mkA_eq e1 h2
    obtain ⟨n, r, hr, rfl⟩ := ev_get (law_own x)
    exact law06_AddressOwn_ok n x true hr
end Go.Ab.R06
