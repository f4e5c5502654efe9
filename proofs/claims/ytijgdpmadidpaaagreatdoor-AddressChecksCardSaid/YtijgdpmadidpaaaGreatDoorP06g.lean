/- Plain facts of chapter 06: the reader of addresses. No program in sight. Plain facts of chapter 06: Check and Format. No program in sight. Plain facts of chapter 06: what is written is read. No program in sight. -/
import Derived.Test.YtijgdpmadidpaaaGreatDoorP06b
import Derived.Lib.IndexLaws
import Derived.Test.YtijgdpmadidpaaaGreatDoorR06f
set_option linter.unusedVariables false
set_option linter.unusedSimpArgs false
set_option linter.unnecessarySimpa false
namespace Go.Ab.R06
open Go.Ab Go.Ab.RB Go.Lib
def keyOk (k : TKey) : Bool :=
  if k.fKind = 0 then decide (k.fNum = 0 ∧ k.fStr = ([] : Bytes))
  else if k.fKind = 1 then decide (0 ≤ k.fNum ∧ k.fNum ≤ maxN ∧ k.fStr = ([] : Bytes))
  else if k.fKind = 2 then decide (k.fNum = 0) && (decide (k.fStr.length ≤ 4096) && validD k.fStr)
  else false
theorem valid_eq (k : TKey) : address_valid k = some (keyOk k) := by
  unfold address_valid keyOk
  by_cases h0 : k.fKind = 0
  · rw [if_pos h0, if_pos h0]; simp [h0]
  rw [if_neg h0, if_neg h0]
  by_cases h1 : k.fKind = 1
  · rw [if_pos h1, if_pos h1]
    by_cases h2 : 0 ≤ k.fNum
    · rw [if_pos h2]
      by_cases h3 : k.fNum ≤ 9007199254740992
      · rw [if_pos h3]; simp [h2, maxN, h3]
      · rw [if_neg h3]; simp [maxN, h3]
    · rw [if_neg h2]; simp [h2]
  rw [if_neg h1, if_neg h1]
  by_cases h2 : k.fKind = 2
  · rw [if_pos h2, if_pos h2]
    by_cases h3 : k.fNum = 0
    · rw [if_pos h3, sValid]; simp [h3]
    · rw [if_neg h3]; simp [h3]
  · rw [if_neg h2, if_neg h2]
def modB : Bytes := [109, 111, 100, 117, 108, 101, 46]
def reservedB (s : Bytes) : Bool := ([[109, 111, 100, 117, 108, 101], [100, 97, 116, 97], [118, 97, 114], [108, 111, 99, 97, 108], [101, 97, 99, 104], [99, 111, 117, 110, 116], [114, 101, 109, 111, 116, 101], [111, 117, 116, 112, 117, 116], [112, 97, 116, 104], [115, 101, 108, 102], [99, 104, 97, 110, 103, 101]] : List Bytes).contains s
def kindB (s : Bytes) : Bool := !reservedB s && identB s
theorem kind_ev (s : Bytes) (hs : s.length ≤ 1000000) : Ev2 (fun n _ => address_kind n s) (· = kindB s) := by
  simp only [address_kind]
  refine ev_to (reservedB s) ?_ ?_
  · unfold reservedB
    simp only [List.contains_cons, List.contains_nil, Bool.or_false]
    repeat' refine ev_ite (fun h => ev_some (by simp [h])) (fun h => ?_)
    refine ev_some (eqB ?_)
    simp [*]
  · unfold kindB
    cases reservedB s with
    | true => exact ev_ifT rfl (ev_some rfl)
    | false => exact ev_ifF (by simp) (ev_to _ (ident_ev s hs) (ev_some (by simp)))
def dataB : Bytes := [100, 97, 116, 97, 46]
end Go.Ab.R06
namespace Go.Ab.R06
open Go.Ab Go.Ab.RB Go.Lib
def stepsE : List TModuleStep → Int
  | [] => 0
  | x :: r => if identB x.fName = false then 7 else if keyOk x.fKey = false then 1 else stepsE r
def checkP (a : TAddress) : Int :=
  if 16 < a.fModule.length then 4 else if stepsE a.fModule ≠ 0 then stepsE a.fModule
  else if kindB a.fType = false ∨ identB a.fName = false then 7 else if keyOk a.fKey = false then 1 else 0
def Sm (a : TAddress) : Prop := a.fModule.length ≤ 100000 ∧ a.fType.length ≤ 100000 ∧ a.fName.length ≤ 100000 ∧ ∀ x ∈ a.fModule, x.fName.length ≤ 100000
theorem check_l1 (a : TAddress) (ha : Sm a) : ∀ (k i : Nat), i + k = a.fModule.length → Ev2 (fun n m => address_Check_l1 n a m (i : Int)) (· = if stepsE (a.fModule.drop i) = 0 then .inl () else .inr (stepsE (a.fModule.drop i))) := by
  intro k
  induction k with
  | zero =>
    intro i hi
    refine ev_round ?_
    simp only [address_Check_l1]
    refine ev_ifF (by omega) (ev_some ?_)
    rw [List.drop_of_length_le (by omega)]; rfl
  | succ k ih =>
    intro i hi
    refine ev_round ?_
    simp only [address_Check_l1]
    have hil : i < a.fModule.length := by omega
    refine ev_ifT (by omega) (ev_ck (by omega) ?_)
    rw [lat_get _ _ hil, List.drop_eq_getElem_cons hil]
    have hx := ha.2.2.2 _ (List.getElem_mem hil)
    have := ih (i + 1) (by omega)
    have hlen := ha.1
    generalize a.fModule[i] = x at hx ⊢
    unfold stepsE
    refine ev_to _ (ident_ev x.fName (by omega)) ?_
    cases h1 : identB x.fName with
    | false => exact ev_ifT rfl (ev_some (by simp))
    | true =>
      refine ev_ifF (by simp) (ev_to _ (ev_const (valid_eq _) rfl) ?_)
      cases h2 : keyOk x.fKey with
      | false => exact ev_ifT rfl (ev_some (by simp))
      | true =>
        refine ev_ifF (by simp) (ev_ck (inR_of (by omega) (by omega)) ?_)
        rw [Int.natCast_add, Int.natCast_one] at this
        simpa using this
theorem check_ev (a : TAddress) (ha : Sm a) : Ev2 (fun n _ => address_Check n a) (· = checkP a) := by
  simp only [address_Check]
  unfold checkP
  refine ev_ite (fun h => ev_some (by rw [if_pos (by omega)])) (fun h => ?_)
  rw [if_neg (show ¬ 16 < a.fModule.length by omega)]
  have l := check_l1 a ha a.fModule.length 0 (by omega)
  rw [List.drop_zero] at l
  by_cases he : stepsE a.fModule = 0
  · rw [if_pos he] at l
    rw [if_neg (by simp [he])]
    refine ev_jnL () (ev_loop l) ?_
    refine ev_to (decide (kindB a.fType = false ∨ identB a.fName = false)) ?_ ?_
    · refine ev_to _ (kind_ev _ (by have := ha.2.1; omega)) ?_
      cases kindB a.fType with
      | false => exact ev_ifT rfl (ev_some (by simp))
      | true =>
        refine ev_ifF (by simp) (ev_to _ (ident_ev _ (by have := ha.2.2.1; omega)) (ev_some ?_))
        cases identB a.fName <;> simp
    · refine ev_ite (fun h => ev_some (by rw [if_pos (of_decide_eq_true h)])) (fun h => ?_)
      rw [if_neg (fun q => h (decide_eq_true q))]
      refine ev_to _ (ev_const (valid_eq _) rfl) ?_
      cases keyOk a.fKey with
      | false => exact ev_ifT rfl (ev_some (by simp))
      | true => exact ev_ifF (by simp) (ev_some (by simp))
  · rw [if_neg he] at l
    rw [if_pos he]
    exact ev_jnR _ (ev_loop l) rfl
theorem stepsE_zero : ∀ ms : List TModuleStep, stepsE ms = 0 ↔ ∀ x ∈ ms, identB x.fName = true ∧ keyOk x.fKey = true
  | [] => by simp [stepsE]
  | x :: r => by
    have ih := stepsE_zero r
    unfold stepsE
    cases h1 : identB x.fName with
    | false => simp [h1]
    | true =>
      cases h2 : keyOk x.fKey with
      | false => simp [h1, h2]
      | true => simp [h1, h2, ih]
theorem checkP_zero (a : TAddress) : checkP a = 0 ↔ a.fModule.length ≤ 16 ∧ (∀ x ∈ a.fModule, identB x.fName = true ∧ keyOk x.fKey = true) ∧ kindB a.fType = true ∧ identB a.fName = true ∧ keyOk a.fKey = true := by
  rw [← stepsE_zero]
  unfold checkP
  by_cases h : 16 < a.fModule.length
  · rw [if_pos h]; simp; omega
  rw [if_neg h]
  by_cases h2 : stepsE a.fModule = 0
  · rw [if_neg (by simp [h2])]
    cases kindB a.fType <;> cases identB a.fName <;> cases keyOk a.fKey <;> simp [h2] <;> omega
  · rw [if_pos h2]
    constructor
    · intro q; exact absurd q h2
    · intro q; exact q.2.1
theorem identB_len {s : Bytes} (h : identB s = true) : s.length ≤ 64 := ((identB_iff s).1 h).2.1
def keyText (k : TKey) : Bytes := if keyOk k = false ∨ k.fKind = 0 then [] else if k.fKind = 1 then [91] ++ itoa k.fNum ++ [93] else [91] ++ quoteP k.fStr ++ [93]
def stepText (x : TModuleStep) : Bytes := modB ++ x.fName ++ keyText x.fKey ++ [46]
def addrText (a : TAddress) : Bytes := a.fModule.flatMap stepText ++ ((if a.fData = true then dataB else []) ++ (a.fType ++ [46] ++ a.fName ++ keyText a.fKey))
def formatP (a : TAddress) : Bytes := if checkP a = 0 then addrText a else []
theorem dec_len : ∀ (k u : Nat), u < 10 ^ (k + 1) → (decDigits u).length ≤ k + 1 := by
  intro k
  induction k with
  | zero => intro u h; rw [decDigits, dif_pos (by simpa using h)]; simp
  | succ k ih =>
    intro u h
    rw [decDigits]
    split
    · simp
    · have := ih (u / 10) (by rw [Nat.pow_succ] at h; omega)
      rw [List.length_append]; simp; omega
theorem itoa_len {v : Int} (h0 : 0 ≤ v) (h1 : v ≤ maxN) : (itoa v).length ≤ 16 := by
  obtain ⟨u, rfl⟩ : ∃ u : Nat, v = u := ⟨v.toNat, by omega⟩
  unfold itoa
  rw [if_neg (by omega), Int.toNat_natCast]
  exact dec_len 15 u (by unfold maxN at h1; omega)
theorem keyOk_num {k : TKey} (h : keyOk k = true) (h1 : k.fKind = 1) : 0 ≤ k.fNum ∧ k.fNum ≤ maxN ∧ k.fStr = [] := by
  unfold keyOk at h
  rw [if_neg (by omega), if_pos h1] at h
  exact of_decide_eq_true h
theorem keyOk_kinds {k : TKey} (h : keyOk k = true) : k.fKind = 0 ∨ k.fKind = 1 ∨ k.fKind = 2 := by
  unfold keyOk at h
  split at h
  · left; assumption
  split at h
  · right; left; assumption
  split at h
  · right; right; assumption
  · cases h
theorem keyOk_str {k : TKey} (h : keyOk k = true) (h1 : k.fKind = 2) : k.fNum = 0 ∧ k.fStr.length ≤ 4096 ∧ validD k.fStr = true := by
  unfold keyOk at h
  rw [if_neg (by omega), if_neg (by omega), if_pos h1] at h
  simpa using h
theorem quote_len (s : Bytes) : (quoteP s).length ≤ 6 * s.length + 2 := by
  have := (flat_len s).2
  unfold quoteP
  simp only [List.length_cons, List.length_append, List.length_nil]; omega
theorem keyText_len (k : TKey) : (keyText k).length ≤ 24600 := by
  unfold keyText
  split
  · simp
  · rename_i h
    have hk : keyOk k = true := by
      cases hh : keyOk k with
      | true => rfl
      | false => exact absurd (.inl hh) h
    split
    · rename_i h1
      have hn := keyOk_num hk h1
      have := itoa_len hn.1 hn.2.1
      simp only [List.length_append, List.length_cons, List.length_nil]; omega
    · rename_i h1
      have h2 : k.fKind = 2 := by
        rcases keyOk_kinds hk with q | q | q
        · exact absurd (.inr q) h
        · exact absurd q h1
        · exact q
      have hs := keyOk_str hk h2
      have := quote_len k.fStr
      simp only [List.length_append, List.length_cons, List.length_nil]; omega
theorem fkey_ev (k : TKey) : Ev2 (fun n _ => address_FormatKey n k) (· = keyText k) := by
  simp only [address_FormatKey]
  unfold keyText
  refine ev_to (decide (keyOk k = false ∨ k.fKind = 0)) ?_ ?_
  · refine ev_to _ (ev_const (valid_eq _) rfl) ?_
    cases keyOk k with
    | false => exact ev_ifT rfl (ev_some (by simp))
    | true => exact ev_ifF (by simp) (ev_some (by simp))
  · refine ev_ite (fun h => ev_some (by rw [if_pos (of_decide_eq_true h)])) (fun h => ?_)
    have h := fun q => h (decide_eq_true q)
    rw [if_neg h]
    have hk : keyOk k = true := by
      cases hh : keyOk k with
      | true => rfl
      | false => exact absurd (.inl hh) h
    refine ev_ite (fun h1 => ?_) (fun h1 => ?_)
    · rw [if_pos h1]
      have hn := keyOk_num hk h1
      have hl := itoa_len hn.1 hn.2.1
      have hf : number_Format k.fNum = some (itoa k.fNum) := by
        unfold number_Format strconv_Itoa
        rw [ck_pos (inR_of (by omega) (by have := hn.2.1; unfold maxN at this; omega))]; rfl
      refine ev_to _ (ev_const hf rfl) (ev_ck (by simp only [List.length_cons, List.length_nil]; omega) (ev_ck (by simp only [List.length_append, List.length_cons, List.length_nil]; omega) (ev_some rfl)))
    · rw [if_neg h1]
      have h2 : k.fKind = 2 := by
        rcases keyOk_kinds hk with q | q | q
        · exact absurd (.inr q) h
        · exact absurd q h1
        · exact q
      have hs := keyOk_str hk h2
      have hl := quote_len k.fStr
      refine ev_to _ (quote_ev _ (by omega)) (ev_ck (by simp only [List.length_cons, List.length_nil]; omega) (ev_ck (by simp only [List.length_append, List.length_cons, List.length_nil]; omega) (ev_some rfl)))
theorem stepText_len {x : TModuleStep} (h : identB x.fName = true) : (stepText x).length ≤ 25000 := by
  have h1 := identB_len h
  have h2 := keyText_len x.fKey
  unfold stepText modB
  simp only [List.length_append, List.length_cons, List.length_nil]; omega
theorem steps_len : ∀ (ms : List TModuleStep), (∀ x ∈ ms, identB x.fName = true) → (ms.flatMap stepText).length ≤ 25000 * ms.length
  | [], _ => by simp
  | x :: r, h => by
    have := steps_len r fun y hy => h y (List.mem_cons_of_mem _ hy)
    have h1 := stepText_len (h x List.mem_cons_self)
    simp only [List.flatMap_cons, List.length_append, List.length_cons]; omega
theorem format_l1 (a : TAddress) (hm : a.fModule.length ≤ 16) (ha : ∀ x ∈ a.fModule, identB x.fName = true) : ∀ (k i : Nat) (f : Bytes), i + k = a.fModule.length → f.length ≤ 25000 * i → Ev2 (fun n m => address_Format_l1 n a m (i : Int) f) (· = f ++ (a.fModule.drop i).flatMap stepText) := by
  intro k
  induction k with
  | zero =>
    intro i f hi hf
    refine ev_round ?_
    simp only [address_Format_l1]
    refine ev_ifF (by omega) (ev_some ?_)
    rw [List.drop_of_length_le (by omega)]; simp
  | succ k ih =>
    intro i f hi hf
    refine ev_round ?_
    simp only [address_Format_l1]
    have hil : i < a.fModule.length := by omega
    refine ev_ifT (by omega) (ev_ck (by omega) ?_)
    rw [lat_get _ _ hil, List.drop_eq_getElem_cons hil]
    have hx := ha _ (List.getElem_mem hil)
    generalize a.fModule[i] = x at hx ⊢
    have h1 := identB_len hx
    have h2 := keyText_len x.fKey
    have h3 := stepText_len hx
    refine ev_ck (by simp only [List.length_cons, List.length_nil]; omega) (ev_to _ (fkey_ev x.fKey) ?_)
    refine ev_ck (by simp only [List.length_append, List.length_cons, List.length_nil]; omega) (ev_ck (by simp only [List.length_append, List.length_cons, List.length_nil]; omega) ?_)
    have e : ((([109, 111, 100, 117, 108, 101, 46] : Bytes) ++ x.fName) ++ keyText x.fKey) ++ ([46] : Bytes) = stepText x := rfl
    rw [e]
    refine ev_to _ (ev_const (wstr f (stepText x) (by omega)) rfl) (ev_ck (inR_of (by omega) (by omega)) ?_)
    have := ih (i + 1) (f ++ stepText x) (by omega) (by rw [List.length_append]; omega)
    rw [Int.natCast_add, Int.natCast_one] at this
    simpa using this
theorem format_ev (a : TAddress) (ha : Sm a) : Ev2 (fun n _ => address_Format n a) (· = formatP a) := by
  simp only [address_Format]
  unfold formatP
  refine ev_to _ (check_ev a ha) (ev_ite (fun h => ?_) (fun h => ev_some (by rw [if_neg h])))
  rw [if_pos h]
  obtain ⟨c1, c2, c3, c4, c5⟩ := (checkP_zero a).1 h
  have l := format_l1 a c1 (fun x hx => (c2 x hx).1) a.fModule.length 0 [] (by omega) (by simp)
  have hl := steps_len a.fModule (fun x hx => (c2 x hx).1)
  rw [List.drop_zero] at l
  refine ev_to _ (ev_loop l) ?_
  unfold addrText
  generalize a.fModule.flatMap stepText = st at hl ⊢
  have h1 : a.fType.length ≤ 64 := by
    unfold kindB at c3
    rw [Bool.and_eq_true] at c3
    exact identB_len c3.2
  have h2 := identB_len c4
  have h3 := keyText_len a.fKey
  refine ev_to (st ++ (if a.fData = true then dataB else [])) ?_ ?_
  · refine ev_ite (fun h => ?_) (fun h => ev_some (by rw [if_neg h]; simp))
    rw [if_pos h]
    exact ev_to _ (ev_const (wstr _ [100, 97, 116, 97, 46] (by simp only [List.nil_append, List.length_cons, List.length_nil]; omega)) rfl) (ev_some (by simp [dataB]))
  · have hd : (if a.fData = true then dataB else ([] : Bytes)).length ≤ 5 := by split <;> simp [dataB]
    refine ev_ck (by simp only [List.length_cons, List.length_nil]; omega) (ev_ck (by simp only [List.length_append, List.length_cons, List.length_nil]; omega) (ev_to _ (fkey_ev a.fKey) (ev_ck (by simp only [List.length_append, List.length_cons, List.length_nil]; omega) ?_)))
    refine ev_to _ (ev_const (wstr _ _ (by simp only [List.length_append, List.length_cons, List.length_nil]; omega)) rfl) (ev_to _ (ev_const (bstr _ (by simp only [List.length_append, List.length_cons, List.length_nil]; omega)) rfl) (ev_some ?_))
    simp
end Go.Ab.R06
namespace Go.Ab.R06
open Go.Ab Go.Ab.RB Go.Lib
theorem kindB_iff (s : Bytes) : kindB s = true ↔ reservedB s = false ∧ identB s = true := by
  unfold kindB; simp
end Go.Ab.R06
