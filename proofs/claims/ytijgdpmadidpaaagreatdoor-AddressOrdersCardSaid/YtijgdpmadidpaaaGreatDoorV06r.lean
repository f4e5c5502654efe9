/- The law AddressOrders: plain, and its contract. -/
import Derived.Test.YtijgdpmadidpaaaGreatDoorCmp
import Derived.Test.YtijgdpmadidpaaaGreatDoorV06s
import Derived.Test.YtijgdpmadidpaaaGreatDoorR06r
import Derived.Test.YtijgdpmadidpaaaGreatDoorM06
import Derived.Test.YtijgdpmadidpaaaGreatDoorDec06
import Derived.Test.YtijgdpmadidpaaaGreatDoorTy
set_option linter.unusedVariables false
set_option linter.unusedSimpArgs false
set_option linter.unnecessarySimpa false
namespace Go.Ab.R06
open Go.Proofs Go.Ab Go.Ab.RB Go.Lib

theorem few0_l1 (a : TAddress) (hl : a.fModule.length ≤ 1000000) : ∀ (k i : Nat), i + k = a.fModule.length → Ev2 (fun _ m => law06_few_l1 a m (i : Int)) (fun _ => True) := by
  intro k
  induction k with
  | zero =>
    intro i hi
    refine ev_round ?_
    simp only [law06_few_l1]
    exact ev_ifF (by omega) (ev_some trivial)
  | succ k ih =>
    intro i hi
    refine ev_round ?_
    simp only [law06_few_l1]
    refine ev_ifT (by omega) ?_
    have := ih (i + 1) (by omega)
    rw [Int.natCast_add, Int.natCast_one] at this
    refine ev_cut (fun _ => True) (ev_ck (by omega) (ev_ite (fun h => ev_some trivial) (fun h => ev_ck (by omega) (ev_some trivial)))) (fun t ht => ?_)
    exact ev_ite (fun h => ev_some trivial) (fun h => ev_ck (inR_of (by omega) (by omega)) this)
theorem few0_ev (a : TAddress) : Ev2 (fun n _ => law06_few n a) (fun r => r = true → a.fModule.length ≤ 40) := by
  simp only [law06_few]
  refine ev_cut (fun t => t = false → a.fModule.length ≤ 40) ?_ (fun t ht => ?_)
  · exact ev_ite (fun h => ev_some (by simp)) (fun h1 => ev_ite (fun h => ev_some (by simp)) (fun h2 => ev_ite (fun h => ev_some (by simp)) (fun h3 => ev_some fun q => by omega)))
  · refine ev_ite (fun h => ev_some (by simp)) (fun h => ?_)
    have h1 := ht (by simpa using h)
    have l := few0_l1 a (by omega) a.fModule.length 0 (by omega)
    refine ev_jn (ev_mono (ev_loop (f := fun _ m => law06_few_l1 a m 0) l) fun s hs => ?_)
    cases s with
    | inl u => exact ev_some fun _ => h1
    | inr b => exact fun _ => h1

/-! ### The order -/
def orL : List Int → Int
  | [] => 0
  | x :: r => orI x (orL r)
theorem or_ev (l : List Int) (hl : l.length ≤ 1000) : Ev2 (fun n _ => cmp_Or_int n l) (· = orL l) := by
  simp only [cmp_Or_int]
  have loop : ∀ (k i : Nat), i + k = l.length → Ev2 (fun _ m => cmp_Or_int_l1 l m (i : Int)) (fun s => match s with | .inl _ => orL (l.drop i) = 0 | .inr y => y = orL (l.drop i)) := by
    intro k
    induction k with
    | zero =>
      intro i hi
      refine ev_round ?_
      simp only [cmp_Or_int_l1]
      refine ev_ifF (by omega) (ev_some ?_)
      rw [List.drop_eq_nil_of_le (by omega)]; rfl
    | succ k ih =>
      intro i hi
      have h1 : i < l.length := by omega
      refine ev_round ?_
      simp only [cmp_Or_int_l1]
      refine ev_ifT (by omega) (ev_ck (by omega) ?_)
      rw [lat_get _ _ h1, List.drop_eq_getElem_cons h1]
      generalize l[i] = x
      have := ih (i + 1) (by omega)
      rw [Int.natCast_add, Int.natCast_one] at this
      refine ev_ite (fun h => ev_ck (inR_of (by omega) (by omega)) (ev_mono this fun s hs => ?_)) (fun h => ev_some ?_)
      · have e : orL (x :: l.drop (i + 1)) = orL (l.drop (i + 1)) := by rw [orL]; unfold orI; rw [if_pos h]
        rw [e]; exact hs
      · show x = orL (x :: l.drop (i + 1))
        rw [orL]; unfold orI; rw [if_neg h]
  refine ev_jn (ev_mono (ev_loop (f := fun _ m => cmp_Or_int_l1 l m 0) (loop l.length 0 (by omega))) fun s hs => ?_)
  cases s with
  | inl u => exact ev_some (by have hs : orL (l.drop 0) = 0 := hs; simpa using hs.symm)
  | inr y => exact by have hs : y = orL (l.drop 0) := hs; simpa using hs
theorem orI_zero (x : Int) : orI x 0 = x := by unfold orI; split <;> omega
theorem cmpInt (x y : Int) : cmp_Compare_int x y = some (ordI x y) := by
  unfold cmp_Compare_int cmp_isNaN_int ordI
  simp only [Option.bind_some, decide_true, Bool.not_true, Bool.false_eq_true, if_false]
  split
  · rfl
  · split <;> rfl
theorem cmpKind (x y : Int) : cmp_Compare_api_KeyKind x y = some (ordI x y) := by
  unfold cmp_Compare_api_KeyKind cmp_isNaN_api_KeyKind ordI
  simp only [Option.bind_some, decide_true, Bool.not_true, Bool.false_eq_true, if_false]
  split
  · rfl
  · split <;> rfl
def keyC (a b : TKey) : Int := orI (ordI a.fKind b.fKind) (orI (ordI a.fNum b.fNum) (compareBytes a.fStr b.fStr))
def stepC (s t : TModuleStep) : Int := orI (compareBytes s.fName t.fName) (keyC s.fKey t.fKey)
def flagI (b : Bool) : Int := if b = true then 1 else 0
def addrC (a b : TAddress) : Int := orI (cmpL stepC a.fModule b.fModule) (orI (ordI (flagI a.fData) (flagI b.fData)) (orI (compareBytes a.fType b.fType) (orI (compareBytes a.fName b.fName) (keyC a.fKey b.fKey))))
theorem keyC_good : Cmp keyC :=
  (ordI_good.pair (ordI_good.pair cmpB_good)).on (fun k : TKey => (k.fKind, k.fNum, k.fStr)) (fun x y h => by
    cases x; cases y; simp only [Prod.mk.injEq] at h; obtain ⟨rfl, rfl, rfl⟩ := h; rfl)
theorem stepC_good : Cmp stepC :=
  (cmpB_good.pair keyC_good).on (fun k : TModuleStep => (k.fName, k.fKey)) (fun x y h => by
    cases x; cases y; simp only [Prod.mk.injEq] at h; obtain ⟨rfl, rfl⟩ := h; rfl)
theorem flagI_inj : ∀ x y : Bool, flagI x = flagI y → x = y := by decide
theorem addrC_good : Cmp addrC :=
  ((cmpL_good stepC_good).pair ((ordI_good.on flagI flagI_inj).pair (cmpB_good.pair (cmpB_good.pair keyC_good)))).on (fun k : TAddress => (k.fModule, k.fData, k.fType, k.fName, k.fKey)) (fun x y h => by
    cases x; cases y; simp only [Prod.mk.injEq] at h; obtain ⟨rfl, rfl, rfl, rfl, rfl⟩ := h; rfl)
theorem key_ev (a b : TKey) : Ev2 (fun n _ => address_compareKeys n a b) (· = keyC a b) := by
  simp only [address_compareKeys]
  refine ev_to _ (ev_const (cmpKind _ _) rfl) (ev_to _ (ev_const (cmpInt _ _) rfl) (ev_to _ (ev_const (r := compareBytes a.fStr b.fStr) rfl rfl) (ev_to _ (or_ev _ (by simp)) (ev_some ?_))))
  simp only [orL, orI_zero]; rfl
theorem step_ev (a b : TModuleStep) : Ev2 (fun n _ => address_Compare_1 n a b) (· = stepC a b) := by
  simp only [address_Compare_1]
  refine ev_to _ (ev_const (r := compareBytes a.fName b.fName) rfl rfl) (ev_to _ (key_ev _ _) (ev_to _ (or_ev _ (by simp)) (ev_some ?_)))
  simp only [orL, orI_zero]; rfl
theorem rows_ev (a b : List TModuleStep) (ha : a.length ≤ 1000000) (hb : b.length ≤ 1000000) : Ev2 (fun n _ => slices_CompareFunc_api_ModuleStep_api_ModuleStep_api_ModuleStep_api_ModuleStep n a b (fun x y => address_Compare_1 n x y)) (· = cmpL stepC a b) := by
  simp only [slices_CompareFunc_api_ModuleStep_api_ModuleStep_api_ModuleStep_api_ModuleStep]
  have loop : ∀ (k i : Nat), i + k = a.length → i ≤ b.length → Ev2 (fun n m => slices_CompareFunc_api_ModuleStep_api_ModuleStep_api_ModuleStep_api_ModuleStep_l1 a b (fun x y => address_Compare_1 n x y) m (i : Int)) (fun s => match s with | .inl _ => (if (a.length : Int) < b.length then -1 else 0) = cmpL stepC (a.drop i) (b.drop i) | .inr y => y = cmpL stepC (a.drop i) (b.drop i)) := by
    intro k
    induction k with
    | zero =>
      intro i hi hib
      refine ev_round ?_
      simp only [slices_CompareFunc_api_ModuleStep_api_ModuleStep_api_ModuleStep_api_ModuleStep_l1]
      refine ev_ifF (by omega) (ev_some ?_)
      show (if (a.length : Int) < b.length then -1 else 0) = cmpL stepC (a.drop i) (b.drop i)
      rw [List.drop_eq_nil_of_le (by omega : a.length ≤ i)]
      by_cases h : i < b.length
      · rw [if_pos (by omega), List.drop_eq_getElem_cons h]; rfl
      · rw [if_neg (by omega), List.drop_eq_nil_of_le (by omega)]; rfl
    | succ k ih =>
      intro i hi hib
      have h1 : i < a.length := by omega
      refine ev_round ?_
      simp only [slices_CompareFunc_api_ModuleStep_api_ModuleStep_api_ModuleStep_api_ModuleStep_l1]
      refine ev_ifT (by omega) (ev_ck (by omega) (ev_ite (fun h => ev_some ?_) (fun h => ev_ck (by omega) ?_)))
      · show (1 : Int) = cmpL stepC (a.drop i) (b.drop i)
        rw [List.drop_eq_nil_of_le (by omega : b.length ≤ i), List.drop_eq_getElem_cons h1]; rfl
      · have h2 : i < b.length := by omega
        rw [lat_get _ _ h1, lat_get _ _ h2, List.drop_eq_getElem_cons h1, List.drop_eq_getElem_cons h2]
        have := ih (i + 1) (by omega) (by omega)
        rw [Int.natCast_add, Int.natCast_one] at this
        generalize a[i] = x
        generalize b[i] = y
        refine ev_to _ (step_ev x y) (ev_ite (fun h => ev_ck (inR_of (by omega) (by omega)) (ev_mono this fun s hs => ?_)) (fun h => ev_some ?_))
        · have e : cmpL stepC (x :: a.drop (i + 1)) (y :: b.drop (i + 1)) = cmpL stepC (a.drop (i + 1)) (b.drop (i + 1)) := by
            show orI _ _ = _
            unfold orI; rw [if_pos h]
          rw [e]; exact hs
        · show stepC x y = orI _ _
          unfold orI; rw [if_neg h]
  refine ev_jn (ev_mono (ev_loop (f := fun n m => slices_CompareFunc_api_ModuleStep_api_ModuleStep_api_ModuleStep_api_ModuleStep_l1 a b (fun x y => address_Compare_1 n x y) m 0) (loop a.length 0 (by omega) (by omega))) fun s hs => ?_)
  cases s with
  | inl u =>
    have hs : (if (a.length : Int) < b.length then -1 else 0) = cmpL stepC (a.drop 0) (b.drop 0) := hs
    rw [List.drop_zero, List.drop_zero] at hs
    exact ev_ite (fun h => ev_some (by rw [if_pos h] at hs; exact hs)) (fun h => ev_some (by rw [if_neg h] at hs; exact hs))
  | inr y => exact by have hs : y = cmpL stepC (a.drop 0) (b.drop 0) := hs; simpa using hs
theorem flag_eq (b : Bool) : address_flag b = some (flagI b) := by cases b <;> rfl
theorem addr_ev (a b : TAddress) (ha : a.fModule.length ≤ 1000000) (hb : b.fModule.length ≤ 1000000) : Ev2 (fun n _ => address_Compare n a b) (· = addrC a b) := by
  simp only [address_Compare]
  refine ev_to _ (rows_ev _ _ ha hb) (ev_to _ (ev_const (flag_eq _) rfl) (ev_to _ (ev_const (flag_eq _) rfl) (ev_to _ (ev_const (cmpInt _ _) rfl) (ev_to _ (ev_const (r := compareBytes a.fType b.fType) rfl rfl) (ev_to _ (ev_const (r := compareBytes a.fName b.fName) rfl rfl) (ev_to _ (key_ev _ _) (ev_to _ (or_ev _ (by simp)) (ev_some ?_))))))))
  simp only [orL, orI_zero]; rfl

/-! ### The reference -/
theorem less_iff : ∀ a b : Bytes, Op.bytesLess a b = true ↔ compareBytes a b = -1
  | [], [] => by simp [Op.bytesLess, compareBytes]
  | [], _ :: _ => by simp [Op.bytesLess, compareBytes]
  | _ :: _, [] => by simp [Op.bytesLess, compareBytes]
  | a :: x, b :: y => by
    have ih := less_iff x y
    rcases u8_tri a b with ⟨h1, h2, h3⟩ | ⟨h1, h2, h3⟩ | ⟨h1, h2, h3⟩
    · simp [Op.bytesLess, compareBytes, h1]
    · simp [Op.bytesLess, compareBytes, h1, h2, h3]
    · simp only [Op.bytesLess, compareBytes, if_neg h1, if_neg h2]
      subst h3
      simp only [h1, decide_false, Bool.false_or, BEq.rfl, Bool.true_and]
      exact ih
theorem words_eq (a b : Bytes) : ref06_words a b = some (compareBytes a b) := by
  have h := less_iff a b
  have hr := bytes_rng a b
  have h0 := bytes_eq0 a b
  unfold ref06_words
  by_cases h1 : Op.bytesLess a b = true
  · rw [if_pos h1, h.1 h1]
  · rw [if_neg h1]
    have hn : compareBytes a b ≠ -1 := fun q => h1 (h.2 q)
    by_cases h2 : a = b
    · subst h2
      rw [if_neg (by simp), cmpB_good.self]
    · have : compareBytes a b ≠ 0 := fun q => h2 (h0 q)
      rw [if_pos (by simp [h1, h2])]
      congr 1; omega
theorem order_eq (a b : Int) : ref06_order a b = some (ordI a b) := by
  unfold ref06_order ordI
  split
  · rfl
  · split <;> rfl
theorem or_ne {x y : Int} (h : x ≠ 0) : orI x y = x := by unfold orI; rw [if_neg h]
theorem or_z {x y : Int} (h : x = 0) : orI x y = y := by unfold orI; rw [if_pos h]
theorem keys_eq (a b : TKey) : ref06_CompareKeys a b = some (keyC a b) := by
  unfold ref06_CompareKeys keyC
  by_cases h : a.fKind = b.fKind
  · rw [if_pos h, or_z (by rw [h]; exact ordI_good.self _)]
    by_cases h2 : a.fNum = b.fNum
    · rw [if_pos h2, or_z (by rw [h2]; exact ordI_good.self _), words_eq]; rfl
    · rw [if_neg h2, or_ne (fun q => h2 (ordI_good.eq0 _ _ q)), order_eq]; rfl
  · rw [if_neg h, or_ne (fun q => h (ordI_good.eq0 _ _ q)), order_eq]; rfl
theorem raddr_ev (a b : TAddress) (ha : a.fModule.length ≤ 1000000) (hb : b.fModule.length ≤ 1000000) : Ev2 (fun n _ => ref06_Compare n a b) (· = addrC a b) := by
  simp only [ref06_Compare]
  have loop : ∀ (k i : Nat), i + k = a.fModule.length → i ≤ b.fModule.length → Ev2 (fun _ m => ref06_Compare_l1 a b m (i : Int)) (fun s => match s with | .inl _ => ordI a.fModule.length b.fModule.length = cmpL stepC (a.fModule.drop i) (b.fModule.drop i) | .inr y => y = cmpL stepC (a.fModule.drop i) (b.fModule.drop i) ∧ y ≠ 0) := by
    intro k
    induction k with
    | zero =>
      intro i hi hib
      refine ev_round ?_
      simp only [ref06_Compare_l1]
      refine ev_to false (ev_ifF (by omega) (ev_some rfl)) (ev_ifF (by simp) (ev_some ?_))
      show ordI a.fModule.length b.fModule.length = cmpL stepC (a.fModule.drop i) (b.fModule.drop i)
      rw [List.drop_eq_nil_of_le (by omega : a.fModule.length ≤ i)]
      unfold ordI
      by_cases h : i < b.fModule.length
      · rw [if_pos (by omega), List.drop_eq_getElem_cons h]; rfl
      · rw [if_neg (by omega), if_neg (by omega), List.drop_eq_nil_of_le (by omega)]; rfl
    | succ k ih =>
      intro i hi hib
      have h1 : i < a.fModule.length := by omega
      refine ev_round ?_
      simp only [ref06_Compare_l1]
      by_cases h2 : i < b.fModule.length
      · refine ev_to true (ev_ifT (by omega) (ev_some (decide_eq_true (by omega)))) (ev_ifT rfl (ev_ck (by omega) (ev_ck (by omega) ?_)))
        rw [lat_get _ _ h1, lat_get _ _ h2, List.drop_eq_getElem_cons h1, List.drop_eq_getElem_cons h2]
        have := ih (i + 1) (by omega) (by omega)
        rw [Int.natCast_add, Int.natCast_one] at this
        generalize a.fModule[i] = x
        generalize b.fModule[i] = y
        have ec : cmpL stepC (x :: a.fModule.drop (i + 1)) (y :: b.fModule.drop (i + 1)) = orI (stepC x y) (cmpL stepC (a.fModule.drop (i + 1)) (b.fModule.drop (i + 1))) := rfl
        rw [ec]
        refine ev_ite (fun h => ?_) (fun h => ?_)
        · refine ev_ite (fun hk => ev_ck (inR_of (by omega) (by omega)) (ev_mono this fun s hs => ?_)) (fun hk => ?_)
          · have hxy : x = y := by
              obtain ⟨xn, xk⟩ := x
              obtain ⟨yn, yk⟩ := y
              obtain ⟨x1, x2, x3⟩ := xk
              obtain ⟨y1, y2, y3⟩ := yk
              simp only at h hk
              obtain ⟨rfl, rfl, rfl⟩ := hk
              subst h; rfl
            rw [or_z (by rw [hxy]; exact stepC_good.self _)]; exact hs
          · refine ev_to _ (ev_const (keys_eq _ _) rfl) (ev_some ?_)
            have hne : keyC x.fKey y.fKey ≠ 0 := fun q => hk (by rw [keyC_good.eq0 _ _ q]; exact ⟨rfl, rfl, rfl⟩)
            have he : stepC x y = keyC x.fKey y.fKey := by unfold stepC; rw [or_z (by rw [h]; exact cmpB_good.self _)]
            rw [he, or_ne hne]
            exact ⟨rfl, hne⟩
        · refine ev_to _ (ev_const (words_eq _ _) rfl) (ev_some ?_)
          have hne : compareBytes x.fName y.fName ≠ 0 := fun q => h (cmpB_good.eq0 _ _ q)
          have he : stepC x y = compareBytes x.fName y.fName := by unfold stepC; rw [or_ne hne]
          rw [he, or_ne hne]
          exact ⟨rfl, hne⟩
      · refine ev_to false (ev_ifT (by omega) (ev_some (decide_eq_false (by omega)))) (ev_ifF (by simp) (ev_some ?_))
        show ordI a.fModule.length b.fModule.length = cmpL stepC (a.fModule.drop i) (b.fModule.drop i)
        rw [List.drop_eq_nil_of_le (by omega : b.fModule.length ≤ i), List.drop_eq_getElem_cons h1]
        unfold ordI
        rw [if_neg (by omega), if_pos (by omega)]; rfl
  refine ev_jn (ev_mono (ev_loop (f := fun _ m => ref06_Compare_l1 a b m 0) (loop a.fModule.length 0 (by omega) (by omega))) fun s hs => ?_)
  cases s with
  | inr y =>
    obtain ⟨hs, hne⟩ : y = cmpL stepC (a.fModule.drop 0) (b.fModule.drop 0) ∧ y ≠ 0 := hs
    rw [List.drop_zero, List.drop_zero] at hs
    show y = addrC a b
    unfold addrC
    rw [or_ne (by rw [← hs]; exact hne)]; exact hs
  | inl u =>
    have hs : ordI a.fModule.length b.fModule.length = cmpL stepC (a.fModule.drop 0) (b.fModule.drop 0) := hs
    rw [List.drop_zero, List.drop_zero] at hs
    unfold addrC
    rw [← hs]
    refine ev_ite (fun h => ?_) (fun h => ev_to _ (ev_const (order_eq _ _) rfl) (ev_some ?_))
    · rw [or_z (by rw [h]; exact ordI_good.self _)]
      refine ev_ite (fun hd => ?_) (fun hd => ?_)
      · have hne : ordI (flagI a.fData) (flagI b.fData) ≠ 0 := fun q => by
          have := flagI_inj _ _ (ordI_good.eq0 _ _ q)
          rw [this] at hd; simp at hd
        rw [or_ne hne]
        cases ha : a.fData <;> cases hb : b.fData <;> rw [ha, hb] at hd <;> simp at hd
        · exact ev_ifT rfl (ev_some rfl)
        · exact ev_ifF (by simp) (ev_some rfl)
      · have he : a.fData = b.fData := by simpa using hd
        rw [or_z (by rw [he]; exact ordI_good.self _)]
        refine ev_ite (fun ht => ?_) (fun ht => ev_to _ (ev_const (words_eq _ _) rfl) (ev_some ?_))
        · rw [or_z (by rw [ht]; exact cmpB_good.self _)]
          refine ev_ite (fun hn => ?_) (fun hn => ev_to _ (ev_const (words_eq _ _) rfl) (ev_some ?_))
          · rw [or_z (by rw [hn]; exact cmpB_good.self _)]
            exact ev_to _ (ev_const (keys_eq _ _) rfl) (ev_some rfl)
          · rw [or_ne (fun q => hn (cmpB_good.eq0 _ _ q))]
        · rw [or_ne (fun q => ht (cmpB_good.eq0 _ _ q))]
    · rw [or_ne (fun q => h (ordI_good.eq0 _ _ q))]

theorem law_orders {a b c : TAddress} : Ev2 (fun n _ => law06_AddressOrders n a b c) (· = true) := by
  simp only [law06_AddressOrders]
  refine ev_cut (fun t => t = false → a.fModule.length ≤ 40 ∧ b.fModule.length ≤ 40 ∧ c.fModule.length ≤ 40) ?_ (fun t ht => ?_)
  · refine ev_cut _ (few0_ev a) (fun r1 h1 => ev_ite (fun _ => ev_some (by simp)) (fun q1 => ?_))
    refine ev_cut _ (few0_ev b) (fun r2 h2 => ev_ite (fun _ => ev_some (by simp)) (fun q2 => ?_))
    exact ev_cut _ (few0_ev c) (fun r3 h3 => ev_some (fun q3 => ⟨h1 (by simpa using q1), h2 (by simpa using q2), h3 (by simpa using q3)⟩))
  · refine ev_ite (fun _ => ev_cut _ awake_ev (fun r hr => ev_some hr)) (fun q => ?_)
    obtain ⟨ha, hb, hc⟩ := ht (by simpa using q)
    have ra := addrC_good.rng a b
    have rb := addrC_good.anti a b
    refine ev_to _ (addr_ev a b (by omega) (by omega)) ?_
    refine ev_to false ?_ (ev_ifF (by simp) ?_)
    · refine ev_to _ (raddr_ev a b (by omega) (by omega)) (ev_ifT rfl (ev_to _ (addr_ev b a (by omega) (by omega)) (ev_ck (inR_of (by omega) (by omega)) (ev_ifT (by omega) ?_))))
      refine ev_to _ (same_ev a b (by omega)) (ev_ifF ?_ (ev_to _ (addr_ev a a (by omega) (by omega)) (ev_some ?_)))
      · have : decide (addrC a b = 0) = addrEq a b := by
          unfold addrEq
          rw [decide_eq_decide]
          exact ⟨addrC_good.eq0 a b, fun h => by rw [h]; exact addrC_good.self b⟩
        rw [this]; simp
      · rw [addrC_good.self]; rfl
    · refine ev_cut (· = true) ?_ (fun t h => ev_some h)
      refine ev_ite (fun _ => ev_cut _ awake_ev (fun r hr => ev_some hr)) (fun h1 => ?_)
      refine ev_to _ (addr_ev b c (by omega) (by omega)) (ev_ite (fun _ => ev_cut _ awake_ev (fun r hr => ev_some hr)) (fun h2 => ?_))
      refine ev_to _ (addr_ev a c (by omega) (by omega)) (ev_ifT (addrC_good.tr a b c (by omega) (by omega)) (ev_cut _ awake_ev (fun r hr => ev_some hr)))

theorem orders_all (qs : List PV) (h : WTa tt [27, 27, 27] qs) : PCalls Tryz.prog 6 qs (· = .p (.val (.bool true))) := by
  match qs, h with
  | [a, b, c], ⟨⟨n, h1, h2⟩, ⟨m, k1, k2⟩, ⟨j, g1, g2⟩, _⟩ =>
    obtain ⟨x, e1, _⟩ := TAddress.dec n _ h1
    obtain rfl := mkA_eq e1 h2
    obtain ⟨y, e2, _⟩ := TAddress.dec m _ k1
    obtain rfl := mkA_eq e2 k2
    obtain ⟨z, e3, _⟩ := TAddress.dec j _ g1
    obtain rfl := mkA_eq e3 g2
    obtain ⟨n, r, hr, rfl⟩ := ev_get (law_orders (a := x) (b := y) (c := z))
    exact law06_AddressOrders_ok n x y z true hr
end Go.Ab.R06
