/- Plain facts of chapter 06: what few says; Static. No program in sight. -/
import Derived.Test.YtijgdpmadidpaaaGreatDoorP06g
set_option linter.unusedVariables false
set_option linter.unusedSimpArgs false
set_option linter.unnecessarySimpa false
namespace Go.Ab.R06
open Go.Ab Go.Ab.RB Go.Lib

/-! ### few -/
theorem few_l1 (a : TAddress) (hl : a.fModule.length ≤ 40) : ∀ (k i : Nat), i + k = a.fModule.length → Ev2 (fun _ m => law06_few_l1 a m (i : Int)) (fun r => (r = .inl () → ∀ x ∈ a.fModule.drop i, x.fName.length ≤ 5000) ∧ ∀ b, r = .inr b → b = false) := by
  intro k
  induction k with
  | zero =>
    intro i hi
    refine ev_round ?_
    simp only [law06_few_l1]
    refine ev_ifF (by omega) (ev_some ⟨fun _ => ?_, fun b h => (by cases h)⟩)
    rw [List.drop_of_length_le (by omega)]; simp
  | succ k ih =>
    intro i hi
    refine ev_round ?_
    simp only [law06_few_l1]
    have h1 : i < a.fModule.length := by omega
    refine ev_ifT (by omega) ?_
    rw [lat_get _ _ h1, List.drop_eq_getElem_cons h1]
    have := ih (i + 1) (by omega)
    rw [Int.natCast_add, Int.natCast_one] at this
    generalize a.fModule[i] = x
    refine ev_cut (fun t => t = false → x.fName.length ≤ 5000) (ev_ck (by omega) (ev_ite (fun h => ev_some (by simp)) (fun h => ev_ck (by omega) (ev_some fun _ => by omega)))) (fun t ht => ?_)
    refine ev_ite (fun h => ev_some ⟨by simp, fun b h => (by cases h; rfl)⟩) (fun h => ev_ck (inR_of (by omega) (by omega)) ?_)
    refine ev_mono this fun r hr => ⟨fun q y hy => ?_, hr.2⟩
    rcases List.mem_cons.1 hy with rfl | hy
    · exact ht (by simpa using h)
    · exact hr.1 q y hy
theorem few_ev (a : TAddress) : Ev2 (fun n _ => law06_few n a) (fun r => r = true → Sm a) := by
  simp only [law06_few]
  refine ev_cut (fun t => t = false → a.fModule.length ≤ 40 ∧ a.fType.length ≤ 5000 ∧ a.fName.length ≤ 5000) ?_ (fun t ht => ?_)
  · refine ev_ite (fun h => ev_some (by simp)) (fun h1 => ev_ite (fun h => ev_some (by simp)) (fun h2 => ev_ite (fun h => ev_some (by simp)) (fun h3 => ev_some fun _ => by omega)))
  · refine ev_ite (fun h => ev_some (by simp)) (fun h => ?_)
    obtain ⟨h1, h2, h3⟩ := ht (by simpa using h)
    have l := few_l1 a h1 a.fModule.length 0 (by omega)
    rw [List.drop_zero] at l
    refine ev_jn (ev_mono (ev_loop l) fun s hs => ?_)
    cases s with
    | inl u => exact ev_some fun _ => ⟨by omega, by omega, by omega, fun x hx => by have := hs.1 rfl x hx; omega⟩
    | inr b =>
      intro q
      have := hs.2 b rfl
      rw [this] at q; cases q

/-! ### Static -/
def bareS (x : TModuleStep) : TModuleStep := TModuleStep.mk x.fName noKey
def bareP (a : TAddress) : TAddress := TAddress.mk (a.fModule.map bareS) a.fData a.fType a.fName noKey
theorem Sm.bare {a : TAddress} (h : Sm a) : Sm (bareP a) := by
  refine ⟨by show (a.fModule.map bareS).length ≤ _; rw [List.length_map]; exact h.1, h.2.1, h.2.2.1, fun x hx => ?_⟩
  obtain ⟨y, hy, rfl⟩ := List.mem_map.1 hx
  exact h.2.2.2 y hy
theorem check_bare {a : TAddress} (h : checkP a = 0) : checkP (bareP a) = 0 := by
  obtain ⟨c1, c2, c3, c4, _⟩ := (checkP_zero a).1 h
  refine (checkP_zero _).2 ⟨by show (a.fModule.map bareS).length ≤ _; rw [List.length_map]; exact c1, fun x hx => ?_, c3, c4, rfl⟩
  obtain ⟨y, hy, rfl⟩ := List.mem_map.1 hx
  exact ⟨(c2 y hy).1, rfl⟩
theorem bare_bare (a : TAddress) : bareP (bareP a) = bareP a := by
  show TAddress.mk ((a.fModule.map bareS).map bareS) a.fData a.fType a.fName noKey = _
  rw [List.map_map]; rfl

theorem set_mid {α : Type} (p : List α) (x y : α) (q : List α) : (p ++ x :: q).set p.length y = p ++ y :: q := by
  induction p with
  | nil => rfl
  | cons c r ih => simp [ih]
theorem lat_mid {α : Type} [Inhabited α] (p : List α) (x : α) (q : List α) : lat (p ++ x :: q) (p.length : Int) = x := by
  rw [lat_nat, List.getD_eq_getElem?_getD]; simp
theorem static_l2 (a : TAddress) (hb : a.fModule.length ≤ 1000000) : ∀ (k i : Nat), i + k = a.fModule.length → Ev2 (fun _ m => address_static_l2 a m (i : Int) ((a.fModule.take i).map bareS ++ a.fModule.drop i)) (· = a.fModule.map bareS) := by
  intro k
  induction k with
  | zero =>
    intro i hi
    refine ev_round ?_
    simp only [address_static_l2]
    refine ev_ifF (by omega) (ev_some ?_)
    rw [List.drop_of_length_le (by omega), List.take_of_length_le (by omega)]; simp
  | succ k ih =>
    intro i hi
    refine ev_round ?_
    simp only [address_static_l2]
    have h1 : i < a.fModule.length := by omega
    have hl : ((a.fModule.take i).map bareS ++ a.fModule.drop i).length = a.fModule.length := by
      rw [List.length_append, List.length_map, List.length_take, List.length_drop]; omega
    refine ev_ifT (by omega) (ev_ck (by omega) (ev_ck (inR_of (by omega) (by omega)) ?_))
    have hd : (a.fModule.take i).map bareS ++ a.fModule.drop i = (a.fModule.take i).map bareS ++ a.fModule[i] :: a.fModule.drop (i + 1) := by rw [List.drop_eq_getElem_cons h1]
    have hpl : ((a.fModule.take i).map bareS).length = i := by rw [List.length_map, List.length_take]; omega
    have hg : lat ((a.fModule.take i).map bareS ++ a.fModule.drop i) (i : Int) = a.fModule[i] := by
      rw [hd]
      have := lat_mid ((a.fModule.take i).map bareS) a.fModule[i] (a.fModule.drop (i + 1))
      rw [hpl] at this
      exact this
    rw [hg, Int.toNat_natCast]
    have hs : ((a.fModule.take i).map bareS ++ a.fModule.drop i).set i (TModuleStep.mk a.fModule[i].fName (TKey.mk 0 0 ([] : Bytes))) = (a.fModule.take (i + 1)).map bareS ++ a.fModule.drop (i + 1) := by
      rw [hd]
      have := set_mid ((a.fModule.take i).map bareS) a.fModule[i] (TModuleStep.mk a.fModule[i].fName (TKey.mk 0 0 ([] : Bytes))) (a.fModule.drop (i + 1))
      rw [hpl] at this
      rw [this, show a.fModule.take (i + 1) = a.fModule.take i ++ [a.fModule[i]] by rw [List.take_add_one, List.getElem?_eq_getElem h1]; rfl, List.map_append, List.append_assoc]
      rfl
    rw [hs]
    have := ih (i + 1) (by omega)
    rw [Int.natCast_add, Int.natCast_one] at this
    exact this
theorem static_ev (a : TAddress) (ha : Sm a) : Ev2 (fun n _ => address_static n a) (· = bareP a) := by
  simp only [address_static]
  have hl := ha.1
  refine ev_ite (fun h => ?_) (fun h => ev_ck (by omega) ?_)
  · have : a.fModule = [] := by simpa using h
    refine ev_to () ?_ (ev_some (by unfold bareP; rw [this]; rfl))
    refine ev_succ ?_
    simp only [address_static_l1]
    exact ev_ifF (by simp) (ev_some (by trivial))
  · have l := static_l2 a (by omega) a.fModule.length 0 (by omega)
    rw [List.take_zero, List.drop_zero] at l
    exact ev_to _ (ev_loop l) (ev_some rfl)

/-- address.Static. -/
def staticP (s : Bytes) : Bytes × Int := if (parseP s).2 = 0 then (formatP (bareP (parseP s).1), 0) else ([], (parseP s).2)
theorem Static_ev (s : Bytes) (hs : s.length ≤ 800000) : Ev2 (fun n _ => address_Static n s) (· = staticP s) := by
  simp only [address_Static]
  unfold staticP
  refine ev_to _ (parse_ev s hs) ?_
  have hp := @parse_sound s
  generalize parseP s = p at hp ⊢
  obtain ⟨a, e⟩ := p
  simp only
  refine ev_ite (fun h => ?_) (fun h => ev_some (by rw [if_neg h]))
  subst h
  rw [if_pos rfl]
  have ha := (hp rfl).2.2
  exact ev_to _ (static_ev a ha) (ev_to _ (format_ev _ ha.bare) (ev_some rfl))
theorem static_text {a : TAddress} (h : checkP a = 0) : staticP (addrText a) = (addrText (bareP a), 0) := by
  unfold staticP
  rw [parse_back h]
  simp only [if_true]
  unfold formatP
  rw [if_pos (check_bare h)]

theorem addr_len {a : TAddress} (h : checkP a = 0) : (addrText a).length ≤ 450000 := by
  obtain ⟨c1, c2, c3, c4, _⟩ := (checkP_zero a).1 h
  have hl := steps_len a.fModule (fun x hx => (c2 x hx).1)
  have h1 := identB_len ((kindB_iff _).1 c3).2
  have h2 := identB_len c4
  have h3 := keyText_len a.fKey
  have hd : (if a.fData = true then dataB else ([] : Bytes)).length ≤ 5 := by split <;> simp [dataB]
  unfold addrText
  simp only [List.length_append, List.length_cons, List.length_nil]; omega
end Go.Ab.R06
