/- Plain facts of chapter 06: the reader of addresses. No program in sight. Plain facts of chapter 06: Check and Format. No program in sight. Plain facts of chapter 06: what is written is read. No program in sight. -/
import Derived.Test.YtijgdpmadidpaaaGreatDoorP06b
import Derived.Lib.IndexLaws
import Derived.Test.YtijgdpmadidpaaaGreatDoorR06f
set_option linter.unusedVariables false
set_option linter.unusedSimpArgs false
set_option linter.unnecessarySimpa false
namespace Go.Ab.R06
open Go.Ab Go.Ab.RB Go.Lib

theorem ev_fst {α β γ : Type} {P : α → Prop} {f : Nat → Nat → Option α} (h : Ev2 f P) : Ev2 f P := h

/-! ### Beginnings -/
theorem pre_iff (s p : Bytes) : hasPrefix s p = true ↔ ∃ t, s = p ++ t := by
  unfold hasPrefix
  rw [List.isPrefixOf_iff_prefix]
  exact ⟨fun ⟨t, h⟩ => ⟨t, h.symm⟩, fun ⟨t, h⟩ => ⟨t, h.symm⟩⟩
theorem pre_app (p t : Bytes) : hasPrefix (p ++ t) p = true := (pre_iff _ _).2 ⟨t, rfl⟩
theorem trim_app (p t : Bytes) : trimPrefix (p ++ t) p = t := by
  unfold trimPrefix
  rw [pre_app, if_pos rfl]; simp
theorem trim_no {s p : Bytes} (h : hasPrefix s p = false) : trimPrefix s p = s := by
  unfold trimPrefix; rw [h]; simp

def hasT (r : Treader) (p : Bytes) : Bool × Treader := (hasPrefix r.frest p, Treader.mk (trimPrefix r.frest p) r.fbad)
def skipT (r : Treader) (p : Bytes) : Treader := Treader.mk (trimPrefix r.frest p) (r.fbad || !hasPrefix r.frest p)
theorem has_eq (r : Treader) (p : Bytes) : address_reader_has r p = some (hasT r p) := rfl
theorem skip_eq (r : Treader) (p : Bytes) : address_reader_skip r p = some (skipT r p) := by
  unfold address_reader_skip strings_CutPrefix skipT
  simp only [Option.bind_some]
  cases r.fbad <;> simp

/-! ### Words -/
def stopB (b : UInt8) : Bool := decide (b.toNat = 46) || decide (b.toNat = 91)
/-- Where a word ends. -/
def wordN : Bytes → Nat
  | [] => 0
  | b :: r => if stopB b = true then 0 else wordN r + 1
theorem wordN_le : ∀ l : Bytes, wordN l ≤ l.length
  | [] => Nat.le_refl _
  | b :: r => by
    unfold wordN
    have := wordN_le r
    split
    · omega
    · simp only [List.length_cons]; omega
theorem stop_mem (b : UInt8) : ([46, 91] : Bytes).contains b = stopB b := by
  refine eqB ?_
  have h1 : b.toNat = 46 ↔ b = 46 := u8nat (by decide)
  have h2 : b.toNat = 91 ↔ b = 91 := u8nat (by decide)
  unfold stopB
  rw [Bool.or_eq_true, decide_eq_true_eq, decide_eq_true_eq, h1, h2]
  simp
theorem index_word : ∀ l : Bytes, (if indexAny l [46, 91] < 0 then (l.length : Int) else indexAny l [46, 91]) = (wordN l : Int)
  | [] => rfl
  | b :: r => by
    have ih := index_word r
    have hge := indexAny_ge [46, 91] r
    unfold indexAny wordN
    rw [stop_mem]
    cases hs : stopB b with
    | true => simp
    | false =>
      simp only [Bool.false_eq_true, if_false, List.length_cons]
      by_cases h : indexAny r [46, 91] = -1
      · rw [h] at ih
        simp only [h, beq_self_eq_true, if_true]
        rw [if_pos (by decide)] at ih ⊢
        omega
      · have hb : (indexAny r [46, 91] == -1) = false := by simp [h]
        rw [hb]
        rw [if_neg (by omega)] at ih
        simp only [Bool.false_eq_true, if_false]
        rw [if_neg (by omega)]
        omega

def wordT (r : Treader) : Bytes × Treader := (r.frest.take (wordN r.frest), Treader.mk (r.frest.drop (wordN r.frest)) (r.fbad || !identB (r.frest.take (wordN r.frest))))
theorem word_ev (r : Treader) (hs : r.frest.length ≤ 1000000) : Ev2 (fun n _ => address_reader_word n r) (· = wordT r) := by
  simp only [address_reader_word]
  have hx : strings_IndexAny r.frest [46, 91] = some (indexAny r.frest [46, 91]) := by
    unfold strings_IndexAny; exact ck_pos ⟨rfl, by omega⟩
  have hw := index_word r.frest
  have hle := wordN_le r.frest
  refine ev_to _ (ev_const hx rfl) (ev_to (wordN r.frest : Int) ?_ ?_)
  · rw [← hw]
    refine ev_ite (fun h => ev_some (by rw [if_pos h])) (fun h => ev_some (by rw [if_neg h]))
  · refine ev_ck (by omega) (ev_ck (by omega) ?_)
    have e1 : sub r.frest 0 (wordN r.frest : Int) = r.frest.take (wordN r.frest) := by
      show (r.frest.take (wordN r.frest : Int).toNat).drop (0 : Int).toNat = _
      simp
    rw [e1, sub_from, Int.toNat_natCast]
    refine ev_to (r.fbad || !identB (r.frest.take (wordN r.frest))) ?_ (ev_some rfl)
    cases r.fbad with
    | true => exact ev_ifT rfl (ev_some rfl)
    | false => exact ev_ifF (by simp) (ev_to _ (ident_ev _ (by rw [List.length_take]; omega)) (ev_some (by simp)))

/-! ### Keys -/
def keyOk (k : TKey) : Bool :=
  if k.fKind = 0 then decide (k.fNum = 0 ∧ k.fStr = ([] : Bytes))
  else if k.fKind = 1 then decide (0 ≤ k.fNum ∧ k.fNum ≤ maxN ∧ k.fStr = ([] : Bytes))
  else if k.fKind = 2 then decide (k.fNum = 0) && (decide (k.fStr.length ≤ 4096) && validD k.fStr)
  else false
theorem valid_eq (k : TKey) : address_valid k = some (keyOk k) := by
  unfold address_valid keyOk
  by_cases h0 : k.fKind = 0
  · rw [if_pos h0, if_pos h0]; simp [h0]
  rw [if_neg h0, if_neg h0]
  by_cases h1 : k.fKind = 1
  · rw [if_pos h1, if_pos h1]
    by_cases h2 : 0 ≤ k.fNum
    · rw [if_pos h2]
      by_cases h3 : k.fNum ≤ 9007199254740992
      · rw [if_pos h3]; simp [h2, maxN, h3]
      · rw [if_neg h3]; simp [maxN, h3]
    · rw [if_neg h2]; simp [h2]
  rw [if_neg h1, if_neg h1]
  by_cases h2 : k.fKind = 2
  · rw [if_pos h2, if_pos h2]
    by_cases h3 : k.fNum = 0
    · rw [if_pos h3, sValid]; simp [h3]
    · rw [if_neg h3]; simp [h3]
  · rw [if_neg h2, if_neg h2]

def noKey : TKey := TKey.mk 0 0 []
def idx (l : Bytes) (c : UInt8) : Nat := (indexByte l c).toNat
def keyT (r : Treader) : TKey × Treader :=
  if r.fbad = true then (noKey, r) else if hasPrefix r.frest [91] = false then (noKey, r)
  else if hasPrefix (r.frest.drop 1) [34] = true then
    (if (unqP (r.frest.drop 1)).2.2 = 0 ∧ quoteP (unqP (r.frest.drop 1)).1 = (r.frest.drop 1).take (unqP (r.frest.drop 1)).2.1.toNat then
      (TKey.mk 2 0 (unqP (r.frest.drop 1)).1, skipT (Treader.mk ((r.frest.drop 1).drop (unqP (r.frest.drop 1)).2.1.toNat) false) [93])
     else (noKey, Treader.mk (r.frest.drop 1) true))
  else (TKey.mk 1 (numP ((r.frest.drop 1).take (idx (r.frest.drop 1) 93))).1 [],
      skipT (Treader.mk ((r.frest.drop 1).drop (idx (r.frest.drop 1) 93)) (!(decide ((numP ((r.frest.drop 1).take (idx (r.frest.drop 1) 93))).2 = 0) && !decide ((numP ((r.frest.drop 1).take (idx (r.frest.drop 1) 93))).1 < 0)))) [93])

theorem sub_take (l : Bytes) (n : Int) : sub l 0 n = l.take n.toNat := by
  show (l.take n.toNat).drop (0 : Int).toNat = _
  simp
theorem index_le : ∀ (l : Bytes) (c : UInt8), indexByte l c ≤ l.length
  | [], _ => by simp [indexByte]
  | b :: r, c => by
    have := index_le r c
    unfold indexByte
    simp only [List.length_cons]
    split
    · omega
    · split <;> omega

theorem key_ev (r : Treader) (hs : r.frest.length ≤ 900000) : Ev2 (fun n _ => address_reader_key n r) (· = keyT r) := by
  simp only [address_reader_key]
  cases hb : r.fbad with
  | true =>
    refine ev_to (true, r.frest, r.fbad) (ev_ifT rfl (ev_some (by rw [hb]))) (ev_ifT rfl (ev_some ?_))
    unfold keyT
    rw [if_pos hb]; rfl
  | false =>
    cases hp : hasPrefix r.frest [91] with
    | false =>
      refine ev_to (true, r.frest, r.fbad) (ev_ifF (by simp) (ev_to _ (ev_const (has_eq _ _) rfl) (ev_some ?_))) (ev_ifT rfl (ev_some ?_))
      · unfold hasT; simp only [hp, trim_no hp, Bool.not_false]
      · unfold keyT
        rw [if_neg (by simp [hb]), if_pos hp]; rfl
    | true =>
      obtain ⟨t, ht⟩ := (pre_iff _ _).1 hp
      have hd : r.frest.drop 1 = t := by rw [ht]; rfl
      have htl : t.length ≤ 900000 := by rw [ht] at hs; simp at hs; omega
      refine ev_to (false, t, false) (ev_ifF (by simp) (ev_to _ (ev_const (has_eq _ _) rfl) (ev_some ?_))) (ev_ifF (by simp) ?_)
      · unfold hasT; simp only [hp, Bool.not_true, hb]; rw [ht, trim_app]
      unfold keyT
      rw [if_neg (by simp [hb]), if_neg (by simp [hp]), hd]
      have hx : strings_HasPrefix t [34] = some (hasPrefix t [34]) := rfl
      cases hq : hasPrefix t [34] with
      | true =>
        rw [hq] at hx
        have hle := unqP_le t
        have hu := unq_ev t (by omega)
        rw [if_pos rfl]
        generalize unqP t = U at hle hu ⊢
        obtain ⟨x, n, e⟩ := U
        simp only at hle ⊢
        by_cases he : e = 0 ∧ quoteP x = t.take n.toNat
        · rw [if_pos he]
          refine ev_jn (ev_to _ (ev_const hx rfl) (ev_ifT rfl (ev_to _ hu (ev_to false ?_ (ev_ifF (by simp) (ev_ck (by dsimp only; omega) (ev_some ?_)))))))
          · refine ev_ifT he.1 (ev_to _ (quote_ev x (by omega)) (ev_ck (by dsimp only; omega) (ev_some ?_)))
            rw [sub_take, decide_eq_true he.2]; rfl
          · refine ev_to _ (ev_const (skip_eq _ _) rfl) (ev_some ?_)
            rw [sub_from]
        · rw [if_neg he]
          refine ev_jn (ev_to _ (ev_const hx rfl) (ev_ifT rfl (ev_to _ hu (ev_to true ?_ (ev_ifT rfl (ev_some ?_))))))
          · by_cases h0 : e = 0
            · refine ev_ifT h0 (ev_to _ (quote_ev x (by omega)) (ev_ck (by dsimp only; omega) (ev_some ?_)))
              rw [sub_take, decide_eq_false (fun q => he ⟨h0, q⟩)]; rfl
            · exact ev_ifF h0 (ev_some rfl)
          · rfl
      | false =>
        rw [hq] at hx
        rw [if_neg (by simp)]
        have hi : strings_IndexByte t 93 = some (indexByte t 93) := rfl
        have hge := indexByte_ge t 93
        have hle := index_le t 93
        have hm : (if indexByte t 93 < 0 then (0 : Int) else indexByte t 93) = (idx t 93 : Int) := by
          unfold idx
          split <;> omega
        have hil : (idx t 93 : Int) ≤ t.length := by rw [← hm]; split <;> omega
        refine ev_jn (ev_to _ (ev_const hx rfl) (ev_ifF (by simp) (ev_to _ (ev_const hi rfl) ?_)))
        rw [hm]
        refine ev_ck (by dsimp only; omega) ?_
        rw [sub_take, Int.toNat_natCast]
        refine ev_to _ (numparse_ev _ (by rw [List.length_take]; omega)) ?_
        generalize numP (t.take (idx t 93)) = N
        obtain ⟨v, e⟩ := N
        simp only
        refine ev_to (!(decide (e = 0) && !decide (v < 0))) ?_ (ev_ck (by omega) (ev_some ?_))
        · refine ev_ite (fun h => ev_some (by simp [h])) (fun h => ev_some (by simp [h]))
        · refine ev_to _ (ev_const (skip_eq _ _) rfl) (ev_some ?_)
          rw [sub_from, Int.toNat_natCast]

def stepT (r : Treader) : TModuleStep × Treader := (TModuleStep.mk (wordT r).1 (keyT (wordT r).2).1, (keyT (wordT r).2).2)
theorem step_ev (r : Treader) (hs : r.frest.length ≤ 900000) : Ev2 (fun n _ => address_reader_step n r) (· = stepT r) := by
  simp only [address_reader_step]
  refine ev_to _ (word_ev r (by omega)) (ev_to _ (key_ev (wordT r).2 ?_) (ev_some rfl))
  show (r.frest.drop _).length ≤ _
  rw [List.length_drop]; omega

/-- The steps at the head of a text: what is left. -/
def modB : Bytes := [109, 111, 100, 117, 108, 101, 46]
def parseL : Nat → List TModuleStep → Treader → List TModuleStep × Treader
  | 0, ms, r => (ms, r)
  | n + 1, ms, r => if r.fbad = false ∧ hasPrefix r.frest modB = true then
      parseL n (ms ++ [(stepT (Treader.mk (r.frest.drop 7) false)).1]) (skipT (stepT (Treader.mk (r.frest.drop 7) false)).2 [46])
    else (ms, r)

theorem trim_len (s p : Bytes) : (trimPrefix s p).length ≤ s.length := trimPrefix_le s p
theorem keyT_len (r : Treader) : (keyT r).2.frest.length ≤ r.frest.length := by
  unfold keyT
  split
  · exact Nat.le_refl _
  split
  · exact Nat.le_refl _
  split
  · split
    · unfold skipT
      have := trim_len ((r.frest.drop 1).drop (unqP (r.frest.drop 1)).2.1.toNat) [93]
      simp only [List.length_drop] at this ⊢; omega
    · simp
  · unfold skipT
    have := trim_len ((r.frest.drop 1).drop (idx (r.frest.drop 1) 93)) [93]
    simp only [List.length_drop] at this ⊢; omega
theorem stepT_len (r : Treader) : (stepT r).2.frest.length ≤ r.frest.length := by
  unfold stepT
  have := keyT_len (wordT r).2
  have h2 : (wordT r).2.frest.length ≤ r.frest.length := by
    show (r.frest.drop _).length ≤ _
    rw [List.length_drop]; omega
  simp only; omega
theorem skipT_len (r : Treader) (p : Bytes) : (skipT r p).frest.length ≤ r.frest.length := trim_len _ _
theorem pre_len {s p : Bytes} (h : hasPrefix s p = true) : p.length ≤ s.length := by
  obtain ⟨t, rfl⟩ := (pre_iff _ _).1 h; simp

theorem parse_l1 : ∀ (k : Nat) (ms : List TModuleStep) (r : Treader), r.frest.length < k → r.frest.length + ms.length ≤ 900000 → Ev2 (fun n m => address_Parse_l1 n m ms r.frest r.fbad) (· = ((parseL k ms r).1, (parseL k ms r).2.frest, (parseL k ms r).2.fbad)) := by
  intro k
  induction k with
  | zero => intro ms r h; omega
  | succ k ih =>
    intro ms r hk hl
    refine ev_round ?_
    simp only [address_Parse_l1]
    unfold parseL
    by_cases hc : r.fbad = false ∧ hasPrefix r.frest modB = true
    · rw [if_pos hc]
      have hpl := pre_len hc.2
      obtain ⟨t, ht⟩ := (pre_iff _ _).1 hc.2
      have hd : r.frest.drop 7 = t := by rw [ht]; rfl
      have htl : t.length + 7 = r.frest.length := by rw [ht]; simp [modB] <;> omega
      rw [hd]
      refine ev_to (true, t, false) (ev_ifT (by simp [hc.1]) (ev_to _ (ev_const (has_eq _ _) rfl) (ev_some ?_))) (ev_ifT rfl ?_)
      · unfold hasT
        show (hasPrefix r.frest modB, trimPrefix r.frest modB, r.fbad) = _
        rw [hc.2, hc.1, ht, trim_app]
      refine ev_to _ (step_ev (Treader.mk t false) (by simp only; omega)) (ev_ck (by simp; omega) (ev_to _ (ev_const (skip_eq _ _) rfl) ?_))
      have h1 := stepT_len (Treader.mk t false)
      have h2 := skipT_len (stepT (Treader.mk t false)).2 [46]
      simp only at h1
      exact ih _ _ (by omega) (by simp; omega)
    · rw [if_neg hc]
      refine ev_to (false, r.frest, r.fbad) ?_ (ev_ifF (by simp) (ev_some rfl))
      cases hb : r.fbad with
      | true => exact ev_ifF (by simp) (ev_some rfl)
      | false =>
        have hp : hasPrefix r.frest modB = false := by
          cases h : hasPrefix r.frest modB with
          | false => rfl
          | true => exact absurd ⟨hb, h⟩ hc
        refine ev_ifT rfl (ev_to _ (ev_const (has_eq _ _) rfl) (ev_some ?_))
        unfold hasT
        show (hasPrefix r.frest modB, trimPrefix r.frest modB, _) = _
        rw [hp, trim_no hp]

/-! ### Types -/
def reservedB (s : Bytes) : Bool := ([[109, 111, 100, 117, 108, 101], [100, 97, 116, 97], [118, 97, 114], [108, 111, 99, 97, 108], [101, 97, 99, 104], [99, 111, 117, 110, 116], [114, 101, 109, 111, 116, 101], [111, 117, 116, 112, 117, 116], [112, 97, 116, 104], [115, 101, 108, 102], [99, 104, 97, 110, 103, 101]] : List Bytes).contains s
def kindB (s : Bytes) : Bool := !reservedB s && identB s
theorem kind_ev (s : Bytes) (hs : s.length ≤ 1000000) : Ev2 (fun n _ => address_kind n s) (· = kindB s) := by
  simp only [address_kind]
  refine ev_to (reservedB s) ?_ ?_
  · unfold reservedB
    simp only [List.contains_cons, List.contains_nil, Bool.or_false]
    repeat' refine ev_ite (fun h => ev_some (by simp [h])) (fun h => ?_)
    refine ev_some (eqB ?_)
    simp [*]
  · unfold kindB
    cases reservedB s with
    | true => exact ev_ifT rfl (ev_some rfl)
    | false => exact ev_ifF (by simp) (ev_to _ (ident_ev s hs) (ev_some (by simp)))

/-! ### Parse -/
def dataB : Bytes := [100, 97, 116, 97, 46]
def noAddr : TAddress := TAddress.mk [] false [] [] noKey
def tailT (r : Treader) : Bool × Bytes × Bytes × TKey × Treader :=
  let h := hasT r dataB
  let t := wordT h.2
  let n := wordT (skipT t.2 [46])
  let k := keyT n.2
  (h.1, t.1, n.1, k.1, k.2)
def parseP (s : Bytes) : TAddress × Int :=
  let p := parseL (s.length + 1) [] (Treader.mk s false)
  let t := tailT p.2
  if t.2.2.2.2.fbad = true ∨ t.2.2.2.2.frest ≠ [] ∨ kindB t.2.1 = false then (noAddr, 2)
  else if 16 < p.1.length then (noAddr, 4)
  else (TAddress.mk p.1 t.1 t.2.1 t.2.2.1 t.2.2.2.1, 0)

theorem parseL_len : ∀ (k : Nat) (ms : List TModuleStep) (r : Treader), (parseL k ms r).2.frest.length ≤ r.frest.length
  | 0, _, _ => Nat.le_refl _
  | k + 1, ms, r => by
    unfold parseL
    split
    · have h1 := stepT_len (Treader.mk (r.frest.drop 7) false)
      have h2 := skipT_len (stepT (Treader.mk (r.frest.drop 7) false)).2 [46]
      have h3 := parseL_len k (ms ++ [(stepT (Treader.mk (r.frest.drop 7) false)).1]) (skipT (stepT (Treader.mk (r.frest.drop 7) false)).2 [46])
      simp only [List.length_drop] at h1
      omega
    · exact Nat.le_refl _

theorem parse_ev (s : Bytes) (hs : s.length ≤ 800000) : Ev2 (fun n _ => address_Parse n s) (· = parseP s) := by
  simp only [address_Parse]
  have l := parse_l1 (s.length + 1) [] (Treader.mk s false) (by simp) (by simp; omega)
  have hl := parseL_len (s.length + 1) [] (Treader.mk s false)
  refine ev_to _ (ev_loop l) ?_
  unfold parseP
  generalize parseL (s.length + 1) [] (Treader.mk s false) = p at hl ⊢
  obtain ⟨ms, r⟩ := p
  simp only at hl ⊢
  have e : Treader.mk r.frest r.fbad = r := rfl
  rw [e]
  have l1 : (hasT r dataB).2.frest.length ≤ s.length := Nat.le_trans (trim_len _ _) hl
  refine ev_to _ (ev_const (has_eq r _) rfl) (ev_to _ (word_ev _ (Nat.le_trans l1 (by omega))) (ev_to _ (ev_const (skip_eq _ _) rfl) ?_))
  have l2 : (skipT (wordT (hasT r dataB).2).2 [46]).frest.length ≤ s.length := by
    refine Nat.le_trans (trim_len _ _) ?_
    show ((hasT r dataB).2.frest.drop _).length ≤ _
    rw [List.length_drop]; omega
  refine ev_to _ (word_ev _ (Nat.le_trans l2 (by omega))) ?_
  have l3 : (wordT (skipT (wordT (hasT r dataB).2).2 [46])).2.frest.length ≤ s.length := by
    show (List.drop _ _).length ≤ _
    rw [List.length_drop]; omega
  refine ev_to _ (key_ev _ (Nat.le_trans l3 (by omega))) ?_
  show Ev2 _ (· = (if (tailT r).2.2.2.2.fbad = true ∨ (tailT r).2.2.2.2.frest ≠ [] ∨ kindB (tailT r).2.1 = false then (noAddr, 2) else if 16 < ms.length then (noAddr, 4) else (TAddress.mk ms (tailT r).1 (tailT r).2.1 (tailT r).2.2.1 (tailT r).2.2.2.1, 0)))
  have l4 : (wordT (hasT r dataB).2).1.length ≤ 1000000 := by
    show (List.take _ _).length ≤ _
    rw [List.length_take]; omega
  have hk := kind_ev _ l4
  show Ev2 (fun n m => ((if (tailT r).2.2.2.2.fbad = true then some true else if (tailT r).2.2.2.2.frest = ([] : Bytes) then (address_kind n (tailT r).2.1).bind fun r49 => some (!r49) else some true : Option Bool)).bind fun t51 => _) _
  have hk : Ev2 (fun n _ => address_kind n (tailT r).2.1) (· = kindB (tailT r).2.1) := hk
  refine ev_to (decide ((tailT r).2.2.2.2.fbad = true ∨ (tailT r).2.2.2.2.frest ≠ [] ∨ kindB (tailT r).2.1 = false)) ?_ ?_
  · refine ev_ite (fun h => ev_some (by simp [h])) (fun h => ev_ite (fun h1 => ev_to _ hk (ev_some ?_)) (fun h1 => ev_some (by simp [h1])))
    cases kindB (tailT r).2.1 <;> simp [h, h1]
  · refine ev_ite (fun h => ev_some ?_) (fun h => ?_)
    · rw [if_pos (of_decide_eq_true h)]; rfl
    · rw [if_neg (fun q => h (decide_eq_true q))]
      refine ev_ite (fun h => ev_some ?_) (fun h => ev_some ?_)
      · rw [if_pos (by omega)]; rfl
      · rw [if_neg (by omega)]; rfl
end Go.Ab.R06

namespace Go.Ab.R06
open Go.Ab Go.Ab.RB Go.Lib

/-! ### Check -/
def stepsE : List TModuleStep → Int
  | [] => 0
  | x :: r => if identB x.fName = false then 7 else if keyOk x.fKey = false then 1 else stepsE r
def checkP (a : TAddress) : Int :=
  if 16 < a.fModule.length then 4 else if stepsE a.fModule ≠ 0 then stepsE a.fModule
  else if kindB a.fType = false ∨ identB a.fName = false then 7 else if keyOk a.fKey = false then 1 else 0
/-- Names and keys are of a size that a walk can bear. -/
def Sm (a : TAddress) : Prop := a.fModule.length ≤ 100000 ∧ a.fType.length ≤ 100000 ∧ a.fName.length ≤ 100000 ∧ ∀ x ∈ a.fModule, x.fName.length ≤ 100000

theorem check_l1 (a : TAddress) (ha : Sm a) : ∀ (k i : Nat), i + k = a.fModule.length → Ev2 (fun n m => address_Check_l1 n a m (i : Int)) (· = if stepsE (a.fModule.drop i) = 0 then .inl () else .inr (stepsE (a.fModule.drop i))) := by
  intro k
  induction k with
  | zero =>
    intro i hi
    refine ev_round ?_
    simp only [address_Check_l1]
    refine ev_ifF (by omega) (ev_some ?_)
    rw [List.drop_of_length_le (by omega)]; rfl
  | succ k ih =>
    intro i hi
    refine ev_round ?_
    simp only [address_Check_l1]
    have hil : i < a.fModule.length := by omega
    refine ev_ifT (by omega) (ev_ck (by omega) ?_)
    rw [lat_get _ _ hil, List.drop_eq_getElem_cons hil]
    have hx := ha.2.2.2 _ (List.getElem_mem hil)
    have := ih (i + 1) (by omega)
    have hlen := ha.1
    generalize a.fModule[i] = x at hx ⊢
    unfold stepsE
    refine ev_to _ (ident_ev x.fName (by omega)) ?_
    cases h1 : identB x.fName with
    | false => exact ev_ifT rfl (ev_some (by simp))
    | true =>
      refine ev_ifF (by simp) (ev_to _ (ev_const (valid_eq _) rfl) ?_)
      cases h2 : keyOk x.fKey with
      | false => exact ev_ifT rfl (ev_some (by simp))
      | true =>
        refine ev_ifF (by simp) (ev_ck (inR_of (by omega) (by omega)) ?_)
        rw [Int.natCast_add, Int.natCast_one] at this
        simpa using this

theorem check_ev (a : TAddress) (ha : Sm a) : Ev2 (fun n _ => address_Check n a) (· = checkP a) := by
  simp only [address_Check]
  unfold checkP
  refine ev_ite (fun h => ev_some (by rw [if_pos (by omega)])) (fun h => ?_)
  rw [if_neg (show ¬ 16 < a.fModule.length by omega)]
  have l := check_l1 a ha a.fModule.length 0 (by omega)
  rw [List.drop_zero] at l
  by_cases he : stepsE a.fModule = 0
  · rw [if_pos he] at l
    rw [if_neg (by simp [he])]
    refine ev_jnL () (ev_loop l) ?_
    refine ev_to (decide (kindB a.fType = false ∨ identB a.fName = false)) ?_ ?_
    · refine ev_to _ (kind_ev _ (by have := ha.2.1; omega)) ?_
      cases kindB a.fType with
      | false => exact ev_ifT rfl (ev_some (by simp))
      | true =>
        refine ev_ifF (by simp) (ev_to _ (ident_ev _ (by have := ha.2.2.1; omega)) (ev_some ?_))
        cases identB a.fName <;> simp
    · refine ev_ite (fun h => ev_some (by rw [if_pos (of_decide_eq_true h)])) (fun h => ?_)
      rw [if_neg (fun q => h (decide_eq_true q))]
      refine ev_to _ (ev_const (valid_eq _) rfl) ?_
      cases keyOk a.fKey with
      | false => exact ev_ifT rfl (ev_some (by simp))
      | true => exact ev_ifF (by simp) (ev_some (by simp))
  · rw [if_neg he] at l
    rw [if_pos he]
    exact ev_jnR _ (ev_loop l) rfl

theorem stepsE_zero : ∀ ms : List TModuleStep, stepsE ms = 0 ↔ ∀ x ∈ ms, identB x.fName = true ∧ keyOk x.fKey = true
  | [] => by simp [stepsE]
  | x :: r => by
    have ih := stepsE_zero r
    unfold stepsE
    cases h1 : identB x.fName with
    | false => simp [h1]
    | true =>
      cases h2 : keyOk x.fKey with
      | false => simp [h1, h2]
      | true => simp [h1, h2, ih]
theorem checkP_zero (a : TAddress) : checkP a = 0 ↔ a.fModule.length ≤ 16 ∧ (∀ x ∈ a.fModule, identB x.fName = true ∧ keyOk x.fKey = true) ∧ kindB a.fType = true ∧ identB a.fName = true ∧ keyOk a.fKey = true := by
  rw [← stepsE_zero]
  unfold checkP
  by_cases h : 16 < a.fModule.length
  · rw [if_pos h]; simp; omega
  rw [if_neg h]
  by_cases h2 : stepsE a.fModule = 0
  · rw [if_neg (by simp [h2])]
    cases kindB a.fType <;> cases identB a.fName <;> cases keyOk a.fKey <;> simp [h2] <;> omega
  · rw [if_pos h2]
    constructor
    · intro q; exact absurd q h2
    · intro q; exact q.2.1

theorem identB_len {s : Bytes} (h : identB s = true) : s.length ≤ 64 := ((identB_iff s).1 h).2.1

/-! ### Texts -/
def keyText (k : TKey) : Bytes := if keyOk k = false ∨ k.fKind = 0 then [] else if k.fKind = 1 then [91] ++ itoa k.fNum ++ [93] else [91] ++ quoteP k.fStr ++ [93]
def stepText (x : TModuleStep) : Bytes := modB ++ x.fName ++ keyText x.fKey ++ [46]
def addrText (a : TAddress) : Bytes := a.fModule.flatMap stepText ++ ((if a.fData = true then dataB else []) ++ (a.fType ++ [46] ++ a.fName ++ keyText a.fKey))
def formatP (a : TAddress) : Bytes := if checkP a = 0 then addrText a else []

theorem dec_len : ∀ (k u : Nat), u < 10 ^ (k + 1) → (decDigits u).length ≤ k + 1 := by
  intro k
  induction k with
  | zero => intro u h; rw [decDigits, dif_pos (by simpa using h)]; simp
  | succ k ih =>
    intro u h
    rw [decDigits]
    split
    · simp
    · have := ih (u / 10) (by rw [Nat.pow_succ] at h; omega)
      rw [List.length_append]; simp; omega
theorem itoa_len {v : Int} (h0 : 0 ≤ v) (h1 : v ≤ maxN) : (itoa v).length ≤ 16 := by
  obtain ⟨u, rfl⟩ : ∃ u : Nat, v = u := ⟨v.toNat, by omega⟩
  unfold itoa
  rw [if_neg (by omega), Int.toNat_natCast]
  exact dec_len 15 u (by unfold maxN at h1; omega)
theorem keyOk_num {k : TKey} (h : keyOk k = true) (h1 : k.fKind = 1) : 0 ≤ k.fNum ∧ k.fNum ≤ maxN ∧ k.fStr = [] := by
  unfold keyOk at h
  rw [if_neg (by omega), if_pos h1] at h
  exact of_decide_eq_true h
theorem keyOk_kinds {k : TKey} (h : keyOk k = true) : k.fKind = 0 ∨ k.fKind = 1 ∨ k.fKind = 2 := by
  unfold keyOk at h
  split at h
  · left; assumption
  split at h
  · right; left; assumption
  split at h
  · right; right; assumption
  · cases h
theorem keyOk_str {k : TKey} (h : keyOk k = true) (h1 : k.fKind = 2) : k.fNum = 0 ∧ k.fStr.length ≤ 4096 ∧ validD k.fStr = true := by
  unfold keyOk at h
  rw [if_neg (by omega), if_neg (by omega), if_pos h1] at h
  simpa using h
theorem keyOk_none {k : TKey} (h : keyOk k = true) (h1 : k.fKind = 0) : k = noKey := by
  unfold keyOk at h
  rw [if_pos h1] at h
  have := of_decide_eq_true h
  cases k
  simp only at *
  rw [h1, this.1, this.2]; rfl
theorem quote_len (s : Bytes) : (quoteP s).length ≤ 6 * s.length + 2 := by
  have := (flat_len s).2
  unfold quoteP
  simp only [List.length_cons, List.length_append, List.length_nil]; omega
theorem keyText_len (k : TKey) : (keyText k).length ≤ 24600 := by
  unfold keyText
  split
  · simp
  · rename_i h
    have hk : keyOk k = true := by
      cases hh : keyOk k with
      | true => rfl
      | false => exact absurd (.inl hh) h
    split
    · rename_i h1
      have hn := keyOk_num hk h1
      have := itoa_len hn.1 hn.2.1
      simp only [List.length_append, List.length_cons, List.length_nil]; omega
    · rename_i h1
      have h2 : k.fKind = 2 := by
        rcases keyOk_kinds hk with q | q | q
        · exact absurd (.inr q) h
        · exact absurd q h1
        · exact q
      have hs := keyOk_str hk h2
      have := quote_len k.fStr
      simp only [List.length_append, List.length_cons, List.length_nil]; omega

theorem fkey_ev (k : TKey) : Ev2 (fun n _ => address_FormatKey n k) (· = keyText k) := by
  simp only [address_FormatKey]
  unfold keyText
  refine ev_to (decide (keyOk k = false ∨ k.fKind = 0)) ?_ ?_
  · refine ev_to _ (ev_const (valid_eq _) rfl) ?_
    cases keyOk k with
    | false => exact ev_ifT rfl (ev_some (by simp))
    | true => exact ev_ifF (by simp) (ev_some (by simp))
  · refine ev_ite (fun h => ev_some (by rw [if_pos (of_decide_eq_true h)])) (fun h => ?_)
    have h := fun q => h (decide_eq_true q)
    rw [if_neg h]
    have hk : keyOk k = true := by
      cases hh : keyOk k with
      | true => rfl
      | false => exact absurd (.inl hh) h
    refine ev_ite (fun h1 => ?_) (fun h1 => ?_)
    · rw [if_pos h1]
      have hn := keyOk_num hk h1
      have hl := itoa_len hn.1 hn.2.1
      have hf : number_Format k.fNum = some (itoa k.fNum) := by
        unfold number_Format strconv_Itoa
        rw [ck_pos (inR_of (by omega) (by have := hn.2.1; unfold maxN at this; omega))]; rfl
      refine ev_to _ (ev_const hf rfl) (ev_ck (by simp only [List.length_cons, List.length_nil]; omega) (ev_ck (by simp only [List.length_append, List.length_cons, List.length_nil]; omega) (ev_some rfl)))
    · rw [if_neg h1]
      have h2 : k.fKind = 2 := by
        rcases keyOk_kinds hk with q | q | q
        · exact absurd (.inr q) h
        · exact absurd q h1
        · exact q
      have hs := keyOk_str hk h2
      have hl := quote_len k.fStr
      refine ev_to _ (quote_ev _ (by omega)) (ev_ck (by simp only [List.length_cons, List.length_nil]; omega) (ev_ck (by simp only [List.length_append, List.length_cons, List.length_nil]; omega) (ev_some rfl)))

theorem stepText_len {x : TModuleStep} (h : identB x.fName = true) : (stepText x).length ≤ 25000 := by
  have h1 := identB_len h
  have h2 := keyText_len x.fKey
  unfold stepText modB
  simp only [List.length_append, List.length_cons, List.length_nil]; omega
theorem steps_len : ∀ (ms : List TModuleStep), (∀ x ∈ ms, identB x.fName = true) → (ms.flatMap stepText).length ≤ 25000 * ms.length
  | [], _ => by simp
  | x :: r, h => by
    have := steps_len r fun y hy => h y (List.mem_cons_of_mem _ hy)
    have h1 := stepText_len (h x List.mem_cons_self)
    simp only [List.flatMap_cons, List.length_append, List.length_cons]; omega

theorem format_l1 (a : TAddress) (hm : a.fModule.length ≤ 16) (ha : ∀ x ∈ a.fModule, identB x.fName = true) : ∀ (k i : Nat) (f : Bytes), i + k = a.fModule.length → f.length ≤ 25000 * i → Ev2 (fun n m => address_Format_l1 n a m (i : Int) f) (· = f ++ (a.fModule.drop i).flatMap stepText) := by
  intro k
  induction k with
  | zero =>
    intro i f hi hf
    refine ev_round ?_
    simp only [address_Format_l1]
    refine ev_ifF (by omega) (ev_some ?_)
    rw [List.drop_of_length_le (by omega)]; simp
  | succ k ih =>
    intro i f hi hf
    refine ev_round ?_
    simp only [address_Format_l1]
    have hil : i < a.fModule.length := by omega
    refine ev_ifT (by omega) (ev_ck (by omega) ?_)
    rw [lat_get _ _ hil, List.drop_eq_getElem_cons hil]
    have hx := ha _ (List.getElem_mem hil)
    generalize a.fModule[i] = x at hx ⊢
    have h1 := identB_len hx
    have h2 := keyText_len x.fKey
    have h3 := stepText_len hx
    refine ev_ck (by simp only [List.length_cons, List.length_nil]; omega) (ev_to _ (fkey_ev x.fKey) ?_)
    refine ev_ck (by simp only [List.length_append, List.length_cons, List.length_nil]; omega) (ev_ck (by simp only [List.length_append, List.length_cons, List.length_nil]; omega) ?_)
    have e : ((([109, 111, 100, 117, 108, 101, 46] : Bytes) ++ x.fName) ++ keyText x.fKey) ++ ([46] : Bytes) = stepText x := rfl
    rw [e]
    refine ev_to _ (ev_const (wstr f (stepText x) (by omega)) rfl) (ev_ck (inR_of (by omega) (by omega)) ?_)
    have := ih (i + 1) (f ++ stepText x) (by omega) (by rw [List.length_append]; omega)
    rw [Int.natCast_add, Int.natCast_one] at this
    simpa using this

theorem format_ev (a : TAddress) (ha : Sm a) : Ev2 (fun n _ => address_Format n a) (· = formatP a) := by
  simp only [address_Format]
  unfold formatP
  refine ev_to _ (check_ev a ha) (ev_ite (fun h => ?_) (fun h => ev_some (by rw [if_neg h])))
  rw [if_pos h]
  obtain ⟨c1, c2, c3, c4, c5⟩ := (checkP_zero a).1 h
  have l := format_l1 a c1 (fun x hx => (c2 x hx).1) a.fModule.length 0 [] (by omega) (by simp)
  have hl := steps_len a.fModule (fun x hx => (c2 x hx).1)
  rw [List.drop_zero] at l
  refine ev_to _ (ev_loop l) ?_
  unfold addrText
  generalize a.fModule.flatMap stepText = st at hl ⊢
  have h1 : a.fType.length ≤ 64 := by
    unfold kindB at c3
    rw [Bool.and_eq_true] at c3
    exact identB_len c3.2
  have h2 := identB_len c4
  have h3 := keyText_len a.fKey
  refine ev_to (st ++ (if a.fData = true then dataB else [])) ?_ ?_
  · refine ev_ite (fun h => ?_) (fun h => ev_some (by rw [if_neg h]; simp))
    rw [if_pos h]
    exact ev_to _ (ev_const (wstr _ [100, 97, 116, 97, 46] (by simp only [List.nil_append, List.length_cons, List.length_nil]; omega)) rfl) (ev_some (by simp [dataB]))
  · have hd : (if a.fData = true then dataB else ([] : Bytes)).length ≤ 5 := by split <;> simp [dataB]
    refine ev_ck (by simp only [List.length_cons, List.length_nil]; omega) (ev_ck (by simp only [List.length_append, List.length_cons, List.length_nil]; omega) (ev_to _ (fkey_ev a.fKey) (ev_ck (by simp only [List.length_append, List.length_cons, List.length_nil]; omega) ?_)))
    refine ev_to _ (ev_const (wstr _ _ (by simp only [List.length_append, List.length_cons, List.length_nil]; omega)) rfl) (ev_to _ (ev_const (bstr _ (by simp only [List.length_append, List.length_cons, List.length_nil]; omega)) rfl) (ev_some ?_))
    simp

/-! ### What is read is what is written -/
theorem word_sound {r : Treader} (h : (wordT r).2.fbad = false) : r.fbad = false ∧ identB (wordT r).1 = true ∧ r.frest = (wordT r).1 ++ (wordT r).2.frest := by
  unfold wordT at *
  simp only [Bool.or_eq_false_iff, Bool.not_eq_false'] at h
  exact ⟨h.1, h.2, (List.take_append_drop _ _).symm⟩
theorem skip_sound {r : Treader} {p : Bytes} (h : (skipT r p).fbad = false) : r.fbad = false ∧ r.frest = p ++ (skipT r p).frest := by
  unfold skipT at *
  simp only [Bool.or_eq_false_iff, Bool.not_eq_false'] at h
  obtain ⟨t, ht⟩ := (pre_iff _ _).1 h.2
  refine ⟨h.1, ?_⟩
  simp only
  rw [ht, trim_app]
theorem key_sound {r : Treader} (h : (keyT r).2.fbad = false) : r.fbad = false ∧ keyOk (keyT r).1 = true ∧ r.frest = keyText (keyT r).1 ++ (keyT r).2.frest := by
  have hno : keyOk noKey = true ∧ keyText noKey = [] := ⟨rfl, rfl⟩
  unfold keyT at *
  by_cases hb : r.fbad = true
  · rw [if_pos hb] at h; rw [hb] at h; cases h
  rw [if_neg hb] at h ⊢
  have hb : r.fbad = false := by simpa using hb
  by_cases hp : hasPrefix r.frest [91] = false
  · rw [if_pos hp] at h ⊢
    exact ⟨hb, hno.1, by rw [hno.2]; rfl⟩
  rw [if_neg hp] at h ⊢
  obtain ⟨l, hl⟩ := (pre_iff _ _).1 (by simpa using hp)
  have hd : r.frest.drop 1 = l := by rw [hl]; rfl
  rw [hd] at h ⊢
  by_cases hq : hasPrefix l [34] = true
  · rw [if_pos hq] at h ⊢
    have hok := @unqP_ok l
    generalize unqP l = U at h hok ⊢
    obtain ⟨x, n, e⟩ := U
    simp only at h ⊢
    by_cases he : e = 0 ∧ quoteP x = l.take n.toNat
    · rw [if_pos he] at h ⊢
      obtain ⟨rfl, he⟩ := he
      have hx := hok rfl
      have hs := skip_sound h
      have hko : keyOk (TKey.mk 2 0 x) = true := by
        unfold keyOk
        simp [hx.1, hx.2.1]
      refine ⟨hb, hko, ?_⟩
      have ht : keyText (TKey.mk 2 0 x) = [91] ++ quoteP x ++ [93] := by
        unfold keyText
        rw [if_neg (by rw [hko]; simp), if_neg (by simp)]
      rw [ht, hl, he]
      have h2 := hs.2
      simp only at h2
      rw [List.append_assoc, List.append_assoc, ← h2, List.take_append_drop]
    · rw [if_neg he] at h; cases h
  · rw [if_neg hq] at h ⊢
    have hs := skip_sound h
    simp only at hs
    generalize hN : numP (l.take (idx l 93)) = N at h hs ⊢
    obtain ⟨v, e⟩ := N
    simp only at hs h ⊢
    have h1 := hs.1
    have he : e = 0 ∧ ¬ v < 0 := by simpa using h1
    obtain ⟨rfl, hv⟩ := he
    have hi := itoa_numP _ _ hN (by omega)
    have hko : keyOk (TKey.mk 1 v []) = true := by
      unfold keyOk
      simp; exact ⟨by omega, hi.2⟩
    refine ⟨hb, hko, ?_⟩
    have ht : keyText (TKey.mk 1 v []) = [91] ++ itoa v ++ [93] := by
      unfold keyText
      rw [if_neg (by rw [hko]; simp), if_pos rfl]
    rw [ht, hl, hi.1, List.append_assoc, List.append_assoc, ← hs.2, List.take_append_drop]

theorem parseL_sound : ∀ (k : Nat) (ms : List TModuleStep) (r : Treader), (parseL k ms r).2.fbad = false → r.fbad = false ∧ ∃ new, (parseL k ms r).1 = ms ++ new ∧ r.frest = new.flatMap stepText ++ (parseL k ms r).2.frest ∧ ∀ x ∈ new, identB x.fName = true ∧ keyOk x.fKey = true
  | 0, ms, r, h => ⟨h, [], by simp [parseL], by simp [parseL], by simp⟩
  | k + 1, ms, r, h => by
    unfold parseL at h ⊢
    by_cases hc : r.fbad = false ∧ hasPrefix r.frest modB = true
    · rw [if_pos hc] at h ⊢
      obtain ⟨t, ht⟩ := (pre_iff _ _).1 hc.2
      have hd : r.frest.drop 7 = t := by rw [ht]; rfl
      rw [hd] at h ⊢
      obtain ⟨b1, new, e1, e2, e3⟩ := parseL_sound k _ _ h
      have s1 := skip_sound b1
      have s2 : (keyT (wordT (Treader.mk t false)).2).2.fbad = false := s1.1
      have s3 := key_sound s2
      have s4 := word_sound s3.1
      have hs1 : (keyT (wordT (Treader.mk t false)).2).2.frest = [46] ++ (skipT (stepT (Treader.mk t false)).2 [46]).frest := s1.2
      refine ⟨hc.1, (stepT (Treader.mk t false)).1 :: new, by rw [e1]; simp, ?_, ?_⟩
      · rw [ht, List.flatMap_cons]
        have h4 := s4.2.2
        simp only at h4
        show modB ++ t = (modB ++ (wordT (Treader.mk t false)).1 ++ keyText (keyT (wordT (Treader.mk t false)).2).1 ++ [46] ++ new.flatMap stepText) ++ _
        simp only [List.append_assoc]
        rw [← e2, ← hs1, ← s3.2.2, ← h4]
      · intro x hx
        rcases List.mem_cons.1 hx with rfl | hx
        · exact ⟨s4.2.1, s3.2.1⟩
        · exact e3 x hx
    · rw [if_neg hc] at h ⊢
      exact ⟨h, [], by simp, by simp, by simp⟩

theorem parse_sound {s : Bytes} {a : TAddress} (h : parseP s = (a, 0)) : checkP a = 0 ∧ addrText a = s ∧ Sm a := by
  unfold parseP at h
  simp only at h
  have hL := parseL_sound (s.length + 1) [] (Treader.mk s false)
  generalize parseL (s.length + 1) [] (Treader.mk s false) = p at h hL
  obtain ⟨ms, r⟩ := p
  simp only at h hL
  split at h
  · cases h
  · rename_i h0
    split at h
    · cases h
    · rename_i h1
      cases h
      simp only [not_or] at h0
      obtain ⟨hb, hr, hk⟩ := h0
      have hb : (tailT r).2.2.2.2.fbad = false := by simpa using hb
      have hr : (tailT r).2.2.2.2.frest = [] := by simpa using hr
      have hk : kindB (tailT r).2.1 = true := by simpa using hk
      have hb : (keyT (wordT (skipT (wordT (hasT r dataB).2).2 [46])).2).2.fbad = false := hb
      have hr : (keyT (wordT (skipT (wordT (hasT r dataB).2).2 [46])).2).2.frest = [] := hr
      have hk : kindB (wordT (hasT r dataB).2).1 = true := hk
      have s1 := key_sound hb
      have s2 := word_sound s1.1
      have s3 := skip_sound s2.1
      have s4 := word_sound s3.1
      have hrb : r.fbad = false := s4.1
      obtain ⟨_, new, e1, e2, e3⟩ := hL hrb
      simp only [List.nil_append] at e1
      subst e1
      have hdat : r.frest = (if (hasT r dataB).1 = true then dataB else []) ++ (hasT r dataB).2.frest := by
        unfold hasT
        simp only
        cases hp : hasPrefix r.frest dataB with
        | true =>
          obtain ⟨t, ht⟩ := (pre_iff _ _).1 hp
          rw [ht, trim_app]; rfl
        | false => rw [trim_no hp]; rfl
      have hlen : ∀ x ∈ ms, x.fName.length ≤ 100000 := fun x hx => by have := identB_len (e3 x hx).1; omega
      have hty : (wordT (hasT r dataB).2).1.length ≤ 64 := identB_len s4.2.1
      have hnm := identB_len s2.2.1
      refine ⟨(checkP_zero _).2 ⟨by show ms.length ≤ 16; omega, e3, hk, s2.2.1, s1.2.1⟩, ?_, ⟨by show ms.length ≤ _; omega, ?_, ?_, hlen⟩⟩
      · show ms.flatMap stepText ++ ((if (hasT r dataB).1 = true then dataB else []) ++ ((wordT (hasT r dataB).2).1 ++ [46] ++ (wordT (skipT (wordT (hasT r dataB).2).2 [46])).1 ++ keyText (keyT (wordT (skipT (wordT (hasT r dataB).2).2 [46])).2).1)) = s
        have x1 := s1.2.2
        rw [hr, List.append_nil] at x1
        rw [← x1, List.append_assoc, ← s2.2.2, List.append_assoc, ← s3.2, ← s4.2.2, ← hdat, ← e2]
      · show (wordT (hasT r dataB).2).1.length ≤ 100000
        omega
      · show (wordT (skipT (wordT (hasT r dataB).2).2 [46])).1.length ≤ 100000
        omega
end Go.Ab.R06

namespace Go.Ab.R06
open Go.Ab Go.Ab.RB Go.Lib

/-! ### Literals -/
theorem hexD_digit : ∀ n : Fin 16, hexD (hexDigit n.1) = some n.1 ∧ ((hexDigit n.1) = 48 → n.1 = 0) := by decide
theorem hexD_dig {n : Nat} (h : n < 16) : hexD (hexDigit n) = some n := (hexD_digit ⟨n, h⟩).1
theorem hex_read (u : Nat) (h : u < 256) (t : Bytes) : hexP (hexText u ++ 125 :: t) = ((u : Int), (((hexText u).length + 1 : Nat) : Int), 0) := by
  have hv : validRune (u : Int) = true := by simp only [validRune, decide_eq_true_eq]; omega
  have h125 : hexD 125 = none := by decide
  by_cases h1 : u < 16
  · have e : hexText u = [hexDigit u] := if_pos h1
    have hr : hexRun 6 (hexText u ++ 125 :: t) 0 = (u, 1) := by
      rw [e]
      show hexRun (5 + 1) (hexDigit u :: 125 :: t) 0 = _
      rw [hexRun, hexD_dig h1]
      show ((hexRun (4 + 1) (125 :: t) (16 * 0 + u)).1, (hexRun (4 + 1) (125 :: t) (16 * 0 + u)).2 + 1) = _
      rw [hexRun, h125]; simp
    rw [hexP_eq hr, e, if_neg (by simp), if_neg]
    · simp
    · rintro (q | q | q | q)
      · exact q rfl
      · cases q
      · omega
      · rw [hv] at q; cases q
  · have e : hexText u = [hexDigit (u / 16), hexDigit (u % 16)] := if_neg h1
    have hr : hexRun 6 (hexText u ++ 125 :: t) 0 = (u, 2) := by
      rw [e]
      show hexRun (5 + 1) (hexDigit (u / 16) :: hexDigit (u % 16) :: 125 :: t) 0 = _
      rw [hexRun, hexD_dig (by omega)]
      show ((hexRun (4 + 1) (hexDigit (u % 16) :: 125 :: t) (16 * 0 + u / 16)).1, (hexRun (4 + 1) (hexDigit (u % 16) :: 125 :: t) (16 * 0 + u / 16)).2 + 1) = _
      rw [hexRun, hexD_dig (by omega)]
      show ((hexRun (3 + 1) (125 :: t) (16 * (16 * 0 + u / 16) + u % 16)).1, (hexRun (3 + 1) (125 :: t) (16 * (16 * 0 + u / 16) + u % 16)).2 + 1 + 1) = _
      rw [hexRun, h125]
      refine Prod.ext ?_ rfl
      show 16 * (16 * 0 + u / 16) + u % 16 = u
      omega
    rw [hexP_eq hr, e, if_neg (by simp), if_neg]
    · simp
    · rintro (q | q | q | q)
      · exact q rfl
      · cases q
      · have := (hexD_digit ⟨u / 16, by omega⟩).2 q.2
        simp only at this; omega
      · rw [hv] at q; cases q

theorem enc_ascii (b : UInt8) (h : b.toNat < 128) : encodeRune (b.toNat : Int) = [b] := by
  simp only [encodeRune, encodeRuneZ, if_pos (show (0 : Int) ≤ (b.toNat : Int) ∧ (b.toNat : Int) ≤ 127 by omega), List.map_cons, List.map_nil]
  simp

theorem esc_read (b : UInt8) (h : b.toNat < 128) (c : UInt8) (rest : Bytes) (he : escB b = 92 :: c :: rest) (t : Bytes) : escP (c :: rest ++ t) = ((b.toNat : Int), ((rest.length + 1 : Nat) : Int), 0) := by
  have hl : ∀ x y : UInt8, ([x, y] : Bytes) = 92 :: c :: rest → c = y ∧ rest = [] := fun x y q => by
    have := (List.cons.inj q).2
    exact ⟨((List.cons.inj this).1).symm, ((List.cons.inj this).2).symm⟩
  by_cases h10 : b.toNat = 10
  · rw [esc_n h10] at he
    obtain ⟨rfl, rfl⟩ := hl _ _ he
    rw [h10]; rfl
  by_cases h13 : b.toNat = 13
  · rw [esc_r h13] at he
    obtain ⟨rfl, rfl⟩ := hl _ _ he
    rw [h13]; rfl
  by_cases h9 : b.toNat = 9
  · rw [esc_t h9] at he
    obtain ⟨rfl, rfl⟩ := hl _ _ he
    rw [h9]; rfl
  by_cases hq : b.toNat = 34 ∨ b.toNat = 92
  · rw [esc_q hq] at he
    obtain ⟨rfl, rfl⟩ := hl _ _ he
    rw [List.cons_append, escP_cons, if_neg (by omega), if_neg (by omega), if_neg (by omega), if_pos hq]
    rfl
  by_cases hu : b.toNat < 32 ∨ b.toNat = 127
  · rw [esc_u h10 h13 h9 hu] at he
    have he : (92 : UInt8) :: 117 :: (123 :: (hexText b.toNat ++ [125])) = 92 :: c :: rest := he
    obtain ⟨hc, hr⟩ := List.cons.inj (List.cons.inj he).2
    subst hc
    subst hr
    have hh := hex_read b.toNat (by omega) t
    have e2 : (123 :: (hexText b.toNat ++ [125]) : Bytes) ++ t = 123 :: (hexText b.toNat ++ 125 :: t) := by simp
    rw [List.cons_append, e2, escP_cons, if_neg (by decide), if_neg (by decide), if_neg (by decide), if_neg (by decide), if_pos (by decide)]
    show (if (123 : UInt8).toNat = 123 then _ else _) = _
    rw [if_pos (by decide), hh]
    refine Prod.ext rfl (Prod.ext ?_ rfl)
    simp only [List.length_cons, List.length_append, List.length_nil]
    omega
  · rw [esc_b (by omega) (by omega) hu] at he
    cases he

theorem flat_high : ∀ p : Bytes, (∀ y ∈ p, 128 ≤ y.toNat) → p.flatMap escB = p
  | [], _ => rfl
  | y :: r, h => by
    have hy := h y List.mem_cons_self
    rw [List.flatMap_cons, flat_high r (fun z hz => h z (List.mem_cons_of_mem _ hz)), esc_b (by omega) (by omega) (by omega)]
    rfl

theorem unqL_quote : ∀ (n : Nat) (x : Bytes) (k i : Nat) (acc t : Bytes), x.length ≤ n → validD x = true → (x.flatMap escB ++ 34 :: t).length < k →
    unqL k (x.flatMap escB ++ 34 :: t) i acc = .inl (((i + (x.flatMap escB).length : Nat) : Int), acc ++ x) := by
  intro n
  induction n with
  | zero =>
    intro x k i acc t hx hv hk
    obtain rfl : x = [] := by cases x <;> simp_all
    obtain ⟨k, rfl⟩ : ∃ k', k = k' + 1 := ⟨k - 1, by omega⟩
    show unqL (k + 1) (34 :: t) i acc = _
    rw [unqL_cons, if_pos (by decide)]
    simp
  | succ n ih =>
    intro x k i acc t hx hv hk
    obtain ⟨k, rfl⟩ : ∃ k', k = k' + 1 := ⟨k - 1, by omega⟩
    cases x with
    | nil =>
      show unqL (k + 1) (34 :: t) i acc = _
      rw [unqL_cons, if_pos (by decide)]
      simp
    | cons b r =>
      by_cases hb : b.toNat < 128
      · have hvr : validD r = true := by rw [← validD_cons b r hb]; exact hv
        rw [List.flatMap_cons] at hk ⊢
        have hlen := escB_len b
        have hxr : r.length ≤ n := by simpa using hx
        by_cases hp : b.toNat ≠ 34 ∧ b.toNat ≠ 92 ∧ ¬ (b.toNat < 32 ∨ b.toNat = 127)
        · rw [esc_b hp.1 hp.2.1 hp.2.2] at hk ⊢
          show unqL (k + 1) (b :: (r.flatMap escB ++ 34 :: t)) i acc = _
          rw [unqL_cons, if_neg hp.1, decodeL_ascii b _ hb, if_neg (by simp only; omega), if_neg]
          · have := ih r k (i + 1) (acc ++ [b]) t hxr hvr (by simp only [List.length_append, List.length_cons, List.length_nil] at hk ⊢; omega)
            simp only [List.drop_succ_cons, List.drop_zero]
            rw [enc_ascii b hb, this]
            refine congrArg Sum.inl (Prod.ext ?_ ?_)
            · simp only [List.length_append, List.length_cons, List.length_nil]; omega
            · simp
          · unfold badR; simp only; omega
        · obtain ⟨c, rest, he⟩ : ∃ c rest, escB b = 92 :: c :: rest := by
            by_cases h10 : b.toNat = 10
            · exact ⟨_, _, esc_n h10⟩
            by_cases h13 : b.toNat = 13
            · exact ⟨_, _, esc_r h13⟩
            by_cases h9 : b.toNat = 9
            · exact ⟨_, _, esc_t h9⟩
            by_cases hq : b.toNat = 34 ∨ b.toNat = 92
            · exact ⟨_, _, esc_q hq⟩
            · exact ⟨_, _, esc_u h10 h13 h9 (by omega)⟩
          have hesc := esc_read b hb c rest he (r.flatMap escB ++ 34 :: t)
          rw [he] at hk ⊢
          have e : (92 :: c :: rest ++ r.flatMap escB) ++ 34 :: t = 92 :: (c :: rest ++ (r.flatMap escB ++ 34 :: t)) := by simp
          rw [e, unqL_cons, if_neg (by decide), decodeL_ascii 92 _ (by decide), if_pos (by decide), hesc]
          simp only [if_true, Int.toNat_natCast]
          have hd : (c :: rest ++ (r.flatMap escB ++ 34 :: t)).drop (rest.length + 1) = r.flatMap escB ++ 34 :: t := by
            have : rest.length + 1 = (c :: rest).length := by simp
            rw [this, List.drop_left]
          rw [hd, enc_ascii b hb]
          have := ih r k (i + (rest.length + 1 + 1)) (acc ++ [b]) t hxr hvr (by simp only [List.length_append, List.length_cons, List.length_nil] at hk ⊢; omega)
          rw [this]
          refine congrArg Sum.inl (Prod.ext ?_ ?_)
          · simp only [List.length_append, List.length_cons, List.length_nil]; omega
          · simp
      · have hne : b :: r ≠ [] := by simp
        obtain ⟨hnb, hvr⟩ := (valid_take _ hne).1 hv
        have hdf := dec_facts _ hne
        have hgood := hdf.2.2 hnb
        have hN := decN (b :: r).length ((b :: r).getD 0 0).toNat ((b :: r).getD 1 0).toNat ((b :: r).getD 2 0).toNat ((b :: r).getD 3 0).toNat (by simp) (UInt8.toNat_lt _)
        rw [← decodeL_N] at hN
        generalize hD : decodeL (b :: r) = D at hnb hvr hdf hgood hN
        obtain ⟨c, w⟩ := D
        simp only at hnb hvr hdf hgood hN
        have hc : 128 ≤ c := by
          rcases Nat.lt_or_ge c 128 with q | q
          · have := (hN.2.2.2.1 q).2
            have hb0 : ((b :: r).getD 0 0).toNat = b.toNat := rfl
            omega
          · exact q
        have hhigh := hN.2.2.2.2.1 hc
        have hp : ∀ y ∈ (b :: r).take w, 128 ≤ y.toNat := by
          intro y hy
          obtain ⟨j, hj, rfl⟩ := List.getElem_of_mem hy
          rw [List.length_take] at hj
          have hj2 : j < (b :: r).length := by omega
          have hg : ((b :: r).getD j 0) = ((b :: r).take w)[j]'(by rw [List.length_take]; exact hj) := by
            rw [List.getElem_take, List.getD_eq_getElem?_getD, List.getElem?_eq_getElem hj2]; rfl
          rw [← hg]
          obtain rfl | rfl | rfl | rfl : j = 0 ∨ j = 1 ∨ j = 2 ∨ j = 3 := by omega
          · exact hhigh.1
          · exact hhigh.2.1 (by omega)
          · exact hhigh.2.2.1 (by omega)
          · exact hhigh.2.2.2 (by omega)
        have hsplit : (b :: r).flatMap escB = encodeRune (c : Int) ++ ((b :: r).drop w).flatMap escB := by
          conv => lhs; rw [← List.take_append_drop w (b :: r)]
          rw [List.flatMap_append, flat_high _ hp, hgood.2]
        have hel : (encodeRune (c : Int)).length = w := by
          rw [hgood.2, List.length_take]; omega
        obtain ⟨y, p', hp'⟩ : ∃ y p', encodeRune (c : Int) = y :: p' := by
          cases hx : encodeRune (c : Int) with
          | nil => rw [hx] at hel; simp at hel; omega
          | cons y p' => exact ⟨y, p', rfl⟩
        have hy : 128 ≤ y.toNat := hp y (by rw [← hgood.2, hp']; exact List.mem_cons_self)
        have hdec := dec_enc (c : Int) hgood.1 (((b :: r).drop w).flatMap escB ++ 34 :: t)
        rw [hsplit, List.append_assoc] at hk ⊢
        have hlk : (encodeRune (c : Int) ++ (((b :: r).drop w).flatMap escB ++ 34 :: t)).drop w = ((b :: r).drop w).flatMap escB ++ 34 :: t := by
          rw [← hel, List.drop_left]
        have := ih ((b :: r).drop w) k (i + w) (acc ++ encodeRune (c : Int)) t (by rw [List.length_drop]; simp only [List.length_cons] at hx ⊢; omega) hvr (by rw [List.length_append] at hk; omega)
        rw [hp', List.cons_append] at hdec hlk ⊢
        rw [unqL_cons, if_neg (by omega), hdec]
        simp only [Int.toNat_natCast]
        rw [if_neg (by omega), if_neg]
        · rw [← hp', hel, hlk, this]
          refine congrArg Sum.inl (Prod.ext ?_ ?_)
          · rw [hp'] at hel
            simp only [List.length_append, hel, hp']; omega
          · rw [List.append_assoc, hgood.2, List.take_append_drop]
        · rw [← hp', hel]
          unfold badR; simp only; omega

theorem unqP_quote (x t : Bytes) (hv : validD x = true) (hl : x.length ≤ 4096) : unqP (quoteP x ++ t) = (x, ((quoteP x).length : Int), 0) := by
  have e : quoteP x ++ t = 34 :: (x.flatMap escB ++ 34 :: t) := by simp [quoteP]
  rw [e, unqP_cons, if_pos (by decide), unqL_quote x.length x _ 1 [] t (Nat.le_refl _) hv (by omega)]
  simp only
  rw [if_neg (by simp only [List.length_append, List.length_cons]; omega), if_neg (by simp only [List.nil_append]; omega)]
  refine Prod.ext (by simp) (Prod.ext ?_ rfl)
  simp only [quoteP, List.length_cons, List.length_append, List.length_nil]; omega

/-! ### Words, keys, steps -/
theorem id_notstop {b : UInt8} (h : idB b = true) : stopB b = false := by
  simp only [idB, Bool.or_eq_true, letB_iff, digB_iff] at h
  unfold stopB
  rw [Bool.or_eq_false_iff, decide_eq_false_iff_not, decide_eq_false_iff_not]
  omega
theorem ident_all_id {s : Bytes} (h : identB s = true) {b : UInt8} (hb : b ∈ s) : idB b = true := by
  have := (identB_iff2 s).1 h
  rw [allN_all] at this
  exact List.all_eq_true.1 this.2.2.2 b hb
theorem wordN_app : ∀ (w t : Bytes), (∀ b ∈ w, stopB b = false) → (t = [] ∨ ∃ b r, t = b :: r ∧ stopB b = true) → wordN (w ++ t) = w.length
  | [], t, _, h => by
    rcases h with rfl | ⟨b, r, rfl, hb⟩
    · rfl
    · show wordN (b :: r) = 0
      unfold wordN; rw [if_pos hb]
  | b :: w, t, hw, h => by
    show wordN (b :: (w ++ t)) = _
    unfold wordN
    rw [if_neg (by simp [hw b List.mem_cons_self]), wordN_app w t (fun y hy => hw y (List.mem_cons_of_mem _ hy)) h]
    simp
theorem word_back {w t : Bytes} (hw : identB w = true) (h : t = [] ∨ ∃ b r, t = b :: r ∧ stopB b = true) : wordT (Treader.mk (w ++ t) false) = (w, Treader.mk t false) := by
  unfold wordT
  simp only
  rw [wordN_app w t (fun b hb => id_notstop (ident_all_id hw hb)) h, List.take_left, List.drop_left, hw]
  rfl
theorem skip_back (p t : Bytes) : skipT (Treader.mk (p ++ t) false) p = Treader.mk t false := by
  unfold skipT
  simp only
  rw [trim_app, pre_app]; rfl
theorem index_at : ∀ (l : Bytes) (c : UInt8) (t : Bytes), (∀ b ∈ l, b ≠ c) → indexByte (l ++ c :: t) c = l.length
  | [], c, t, _ => by simp [indexByte]
  | b :: r, c, t, h => by
    have ih := index_at r c t (fun y hy => h y (List.mem_cons_of_mem _ hy))
    have hb : (b == c) = false := by simpa using h b List.mem_cons_self
    show indexByte (b :: (r ++ c :: t)) c = _
    unfold indexByte
    rw [hb, ih]
    have : ((r.length : Int) == -1) = false := by simp <;> omega
    simp only [Bool.false_eq_true, if_false, this, List.length_cons]
    omega
theorem itoa_digits {v : Int} (h0 : 0 ≤ v) : (itoa v).all digB = true ∧ itoa v ≠ [] := by
  obtain ⟨u, rfl⟩ : ∃ u : Nat, v = u := ⟨v.toNat, by omega⟩
  have e : itoa (u : Int) = decDigits u := by unfold itoa; rw [if_neg (by omega)]; simp
  rw [e]
  have := dec_val (u + 1) u (by omega)
  exact ⟨this.2.1, this.2.2.1⟩
theorem key_back {k : TKey} {t : Bytes} (hk : keyOk k = true) (h : hasPrefix t [91] = false) : keyT (Treader.mk (keyText k ++ t) false) = (k, Treader.mk t false) := by
  rcases keyOk_kinds hk with h0 | h0 | h0
  · have e := keyOk_none hk h0
    subst e
    have et : keyText noKey = [] := rfl
    rw [et, List.nil_append]
    unfold keyT
    rw [if_neg (by simp), if_pos h]
  · have hn := keyOk_num hk h0
    have et : keyText k = [91] ++ itoa k.fNum ++ [93] := by
      unfold keyText
      rw [if_neg (by rw [hk]; simp [h0]), if_pos h0]
    obtain ⟨hd, hne⟩ := itoa_digits hn.1
    have e1 : keyText k ++ t = [91] ++ (itoa k.fNum ++ 93 :: t) := by rw [et]; simp
    have hix : idx (itoa k.fNum ++ 93 :: t) 93 = (itoa k.fNum).length := by
      unfold idx
      rw [index_at]
      · simp
      · intro b hb q
        have := all_dig hd hb
        rw [q] at this
        have h93 : (93 : UInt8).toNat = 93 := rfl
        omega
    have hnp : hasPrefix (itoa k.fNum ++ 93 :: t) [34] = false := by
      rw [← Bool.not_eq_true, pre_iff]
      rintro ⟨u, hu⟩
      cases hx : itoa k.fNum with
      | nil => exact hne hx
      | cons c r =>
        rw [hx] at hu hd
        have hc : c = 34 := (List.cons.inj hu).1
        have := all_dig hd (b := c) List.mem_cons_self
        rw [hc] at this
        have h34 : (34 : UInt8).toNat = 34 := rfl
        omega
    unfold keyT
    rw [e1, if_neg (by simp), if_neg (by rw [pre_app]; simp)]
    have hd1 : ([91] ++ (itoa k.fNum ++ 93 :: t)).drop 1 = itoa k.fNum ++ 93 :: t := rfl
    rw [hd1, if_neg (by rw [hnp]; simp), hix, List.take_left, List.drop_left, numP_itoa _ hn.1 hn.2.1]
    simp only
    have hv0 : ¬ k.fNum < 0 := by have := hn.1; omega
    simp only [hv0, decide_true, decide_false, Bool.not_false, Bool.and_self, Bool.not_true]
    have hs := skip_back [93] t
    rw [show (93 :: t : Bytes) = [93] ++ t from rfl, hs]
    refine Prod.ext ?_ rfl
    cases k
    simp only at *
    rw [h0, hn.2.2]
  · have hs := keyOk_str hk h0
    have et : keyText k = [91] ++ quoteP k.fStr ++ [93] := by
      unfold keyText
      rw [if_neg (by rw [hk]; simp [h0]), if_neg (by omega)]
    have e1 : keyText k ++ t = [91] ++ (quoteP k.fStr ++ ([93] ++ t)) := by rw [et]; simp
    have hu := unqP_quote k.fStr ([93] ++ t) hs.2.2 hs.2.1
    unfold keyT
    rw [e1, if_neg (by simp), if_neg (by rw [pre_app]; simp)]
    have hd1 : ([91] ++ (quoteP k.fStr ++ ([93] ++ t))).drop 1 = quoteP k.fStr ++ ([93] ++ t) := rfl
    have hq : hasPrefix (quoteP k.fStr ++ ([93] ++ t)) [34] = true := by
      rw [pre_iff]; exact ⟨k.fStr.flatMap escB ++ [34] ++ ([93] ++ t), by simp [quoteP]⟩
    rw [hd1, if_pos hq, hu]
    simp only [Int.toNat_natCast]
    rw [List.take_left, List.drop_left, if_pos ⟨trivial, rfl⟩, skip_back]
    refine Prod.ext ?_ rfl
    cases k
    simp only at *
    rw [h0, hs.1]

theorem keyText_head (k : TKey) (t : Bytes) (ht : ∃ b r, t = b :: r ∧ stopB b = true) : ∃ b r, keyText k ++ t = b :: r ∧ stopB b = true := by
  unfold keyText
  split
  · exact ht
  · split
    · exact ⟨91, _, rfl, by decide⟩
    · exact ⟨91, _, rfl, by decide⟩
theorem keyText_end (k : TKey) : keyText k = [] ∨ ∃ b r, keyText k = b :: r ∧ stopB b = true := by
  unfold keyText
  split
  · exact .inl rfl
  · split
    · exact .inr ⟨91, _, rfl, by decide⟩
    · exact .inr ⟨91, _, rfl, by decide⟩
theorem pre_cons_ne {b c : UInt8} {t : Bytes} (h : b ≠ c) : hasPrefix (b :: t) [c] = false := by
  rw [← Bool.not_eq_true, pre_iff]
  rintro ⟨u, hu⟩
  exact h (List.cons.inj hu).1

theorem parseL_back : ∀ (new : List TModuleStep) (k : Nat) (ms : List TModuleStep) (t : Bytes), new.length < k → (∀ x ∈ new, identB x.fName = true ∧ keyOk x.fKey = true) → hasPrefix t modB = false →
    parseL k ms (Treader.mk (new.flatMap stepText ++ t) false) = (ms ++ new, Treader.mk t false)
  | [], k, ms, t, hk, _, ht => by
    obtain ⟨k, rfl⟩ : ∃ k', k = k' + 1 := ⟨k - 1, by omega⟩
    unfold parseL
    rw [if_neg]
    · simp
    · rintro ⟨_, q⟩
      simp only [List.flatMap_nil, List.nil_append] at q
      rw [ht] at q; cases q
  | x :: r, k, ms, t, hk, hx, ht => by
    obtain ⟨k, rfl⟩ : ∃ k', k = k' + 1 := ⟨k - 1, by omega⟩
    have h1 := hx x List.mem_cons_self
    have ih := parseL_back r k (ms ++ [x]) t (by simp only [List.length_cons] at hk; omega) (fun y hy => hx y (List.mem_cons_of_mem _ hy)) ht
    generalize hT : r.flatMap stepText ++ t = T at ih
    have e : (x :: r).flatMap stepText ++ t = modB ++ (x.fName ++ (keyText x.fKey ++ ([46] ++ T))) := by
      rw [List.flatMap_cons, List.append_assoc, hT]; simp [stepText]
    unfold parseL
    rw [e]
    simp only
    rw [if_pos ⟨trivial, pre_app _ _⟩]
    have hd : (modB ++ (x.fName ++ (keyText x.fKey ++ ([46] ++ T)))).drop 7 = x.fName ++ (keyText x.fKey ++ ([46] ++ T)) := rfl
    have hst : stepT (Treader.mk (x.fName ++ (keyText x.fKey ++ ([46] ++ T))) false) = (x, Treader.mk ([46] ++ T) false) := by
      unfold stepT
      rw [word_back (t := keyText x.fKey ++ ([46] ++ T)) h1.1 (.inr (keyText_head _ _ ⟨46, T, rfl, by decide⟩))]
      simp only
      rw [key_back (t := [46] ++ T) h1.2 (pre_cons_ne (b := 46) (c := 91) (t := T) (by decide))]
    rw [hd, hst]
    simp only
    rw [skip_back, ih]
    simp

/-- A word and a dot at the head of a text: no other word and a dot stands there. -/
theorem dot_word : ∀ (p w t u : Bytes), (∀ b ∈ p, stopB b = false) → (∀ b ∈ w, stopB b = false) → w ++ 46 :: t = p ++ 46 :: u → w = p
  | [], [], _, _, _, _, _ => rfl
  | [], c :: w, t, u, _, hw, h => by
    have := (List.cons.inj h).1
    have h2 := hw c List.mem_cons_self
    rw [this] at h2
    exact absurd h2 (by decide)
  | c :: p, [], t, u, hp, _, h => by
    have := (List.cons.inj h).1
    have h2 := hp c List.mem_cons_self
    rw [← this] at h2
    exact absurd h2 (by decide)
  | c :: p, d :: w, t, u, hp, hw, h => by
    obtain ⟨h1, h2⟩ := List.cons.inj h
    rw [h1, dot_word p w t u (fun b hb => hp b (List.mem_cons_of_mem _ hb)) (fun b hb => hw b (List.mem_cons_of_mem _ hb)) h2]

theorem kindB_iff (s : Bytes) : kindB s = true ↔ reservedB s = false ∧ identB s = true := by
  unfold kindB; simp

theorem parse_back {a : TAddress} (h : checkP a = 0) : parseP (addrText a) = (a, 0) := by
  obtain ⟨c1, c2, c3, c4, c5⟩ := (checkP_zero a).1 h
  obtain ⟨hres, hid⟩ := (kindB_iff _).1 c3
  have hns : ∀ b ∈ a.fType, stopB b = false := fun b hb => id_notstop (ident_all_id hid hb)
  have hnd : hasPrefix (a.fType ++ [46] ++ a.fName ++ keyText a.fKey) dataB = false := by
    rw [← Bool.not_eq_true, pre_iff]
    rintro ⟨u, hu⟩
    have : a.fType = [100, 97, 116, 97] := dot_word _ _ (a.fName ++ keyText a.fKey) u (by decide) hns (by simpa [dataB] using hu)
    rw [this] at hres
    exact absurd hres (by decide)
  have hnm : hasPrefix ((if a.fData = true then dataB else []) ++ (a.fType ++ [46] ++ a.fName ++ keyText a.fKey)) modB = false := by
    rw [← Bool.not_eq_true, pre_iff]
    rintro ⟨u, hu⟩
    cases hd : a.fData with
    | true =>
      rw [hd] at hu
      have := (List.cons.inj hu).1
      exact absurd this (by decide)
    | false =>
      rw [hd] at hu
      have : a.fType = [109, 111, 100, 117, 108, 101] := dot_word _ _ (a.fName ++ keyText a.fKey) u (by decide) hns (by simpa [modB] using hu)
      rw [this] at hres
      exact absurd hres (by decide)
  have hL := parseL_back a.fModule ((addrText a).length + 1) [] _ (by
    have : a.fModule.length ≤ (a.fModule.flatMap stepText).length := by
      have : ∀ ms : List TModuleStep, ms.length ≤ (ms.flatMap stepText).length := by
        intro ms
        induction ms with
        | nil => simp
        | cons x r ih =>
          have : 1 ≤ (stepText x).length := by simp only [stepText, List.length_append, List.length_cons, List.length_nil]; omega
          simp only [List.flatMap_cons, List.length_append, List.length_cons]; omega
      exact this _
    unfold addrText
    rw [List.length_append]; omega) c2 hnm
  unfold parseP
  have e : addrText a = a.fModule.flatMap stepText ++ ((if a.fData = true then dataB else []) ++ (a.fType ++ [46] ++ a.fName ++ keyText a.fKey)) := rfl
  rw [← e] at hL
  rw [hL]
  simp only [List.nil_append]
  have hT : tailT (Treader.mk ((if a.fData = true then dataB else []) ++ (a.fType ++ [46] ++ a.fName ++ keyText a.fKey)) false) = (a.fData, a.fType, a.fName, a.fKey, Treader.mk [] false) := by
    have hh : hasT (Treader.mk ((if a.fData = true then dataB else []) ++ (a.fType ++ [46] ++ a.fName ++ keyText a.fKey)) false) dataB = (a.fData, Treader.mk (a.fType ++ ([46] ++ (a.fName ++ keyText a.fKey))) false) := by
      unfold hasT
      simp only
      cases a.fData with
      | true => rw [if_pos rfl, pre_app, trim_app]; simp
      | false => rw [if_neg (by simp), List.nil_append, hnd, trim_no hnd]; simp
    have hk := key_back (t := []) c5 (by decide)
    rw [List.append_nil] at hk
    unfold tailT
    simp only
    rw [hh]
    simp only
    rw [word_back (t := [46] ++ (a.fName ++ keyText a.fKey)) hid (.inr ⟨46, a.fName ++ keyText a.fKey, rfl, by decide⟩)]
    simp only
    rw [skip_back, word_back c4 (keyText_end _)]
    simp only
    rw [hk]
  rw [hT]
  simp only [c3]
  rw [if_neg (by simp), if_neg (by omega)]
end Go.Ab.R06
