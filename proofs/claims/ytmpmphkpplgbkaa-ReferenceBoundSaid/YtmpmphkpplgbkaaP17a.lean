/- Plain facts of chapter 17: which data are bounded; the checks of values and expressions end. -/
import Derived.Test.YtmpmphkpplgbkaaR17l
import Derived.Test.YtmpmphkpplgbkaaAbEv
import Derived.Test.YtmpmphkpplgbkaaAbW
set_option linter.unusedVariables false
set_option linter.unusedSimpArgs false
set_option linter.unnecessarySimpa false
namespace Go.Ab.R17
open Go.Ab

/-- All cases of an expression, its parts first. -/
theorem expr_kid_lt {e k : TExpr} (h : k ∈ e.fKids) : SizeOf.sizeOf k < SizeOf.sizeOf e := by
  cases e with
  | mk a b c d f l g =>
    have := List.sizeOf_lt_of_mem h
    simp only [TExpr.fKids] at this ⊢
    simp; omega
theorem expr_ind {P : TExpr → Prop} (h : ∀ e, (∀ k ∈ e.fKids, P k) → P e) (e : TExpr) : P e :=
  h e fun k hk => expr_ind h k
termination_by SizeOf.sizeOf e
decreasing_by exact expr_kid_lt hk
theorem value_item_lt {e k : TValue} (h : k ∈ e.fItems) : SizeOf.sizeOf k < SizeOf.sizeOf e := by
  cases e with
  | mk a b c l g =>
    have := List.sizeOf_lt_of_mem h
    simp only [TValue.fItems] at this ⊢
    simp; omega
theorem value_ind {P : TValue → Prop} (h : ∀ e, (∀ k ∈ e.fItems, P k) → P e) (e : TValue) : P e :=
  h e fun k hk => value_ind h k
termination_by SizeOf.sizeOf e
decreasing_by exact value_item_lt hk

/-- Whatever was read is bounded. -/
inductive BV : TValue → Prop
  | mk {v : TValue} (hs : v.fStr.length ≤ maxW) (hi : v.fItems.length ≤ maxW) (hk : v.fKeys.length ≤ maxW) (hks : ∀ k ∈ v.fKeys, k.length ≤ maxW) (h : ∀ k ∈ v.fItems, BV k) : BV v
inductive BE : TExpr → Prop
  | mk {e : TExpr} (hn : e.fName.length ≤ maxW) (hk : e.fKey.length ≤ maxW) (hv : BV e.fValue) (hl : e.fKids.length ≤ maxW) (h : ∀ k ∈ e.fKids, BE k) : BE e

theorem maxW_eq : maxW = 140737488351232 := rfl
theorem inR_nat {k : Int} {l : Nat} (h : 0 ≤ k) (h2 : k ≤ l) (h3 : l ≤ maxW) : inR k := by
  rw [maxW_eq] at h3; exact inR_of (by omega) (by omega)
theorem inR_succ {k : Int} {l : Nat} (h : 0 ≤ k ∧ k < l) (h3 : l ≤ maxW) : inR (k + 1) := inR_nat (by omega) (by omega) h3

theorem byt_range (s : Bytes) (i : Int) : 0 ≤ byt s i ∧ byt s i ≤ 255 := by
  unfold byt
  have : (s.getD i.toNat 0).toNat < 256 := UInt8.toNat_lt _
  omega
theorem wrap_u8 (a : Int) : 0 ≤ IntKind.wrap .u8 a ∧ IntKind.wrap .u8 a ≤ 255 := by
  simp only [IntKind.wrap, IntKind.bits, IntKind.signed]
  simp
  omega
theorem iAnd_u8 (a b : Int) : inR (iAnd .u8 a b) := by
  have := wrap_u8 ((BitVec.ofInt (IntKind.bits .u8) a &&& BitVec.ofInt (IntKind.bits .u8) b).toNat : Nat)
  exact inR_of (by unfold iAnd; omega) (by unfold iAnd; omega)

theorem letter_ok (c : Int) : ∃ b, ref06_letter c = some b := by
  unfold ref06_letter
  split <;> (try split) <;> (try split) <;> (try split) <;> exact ⟨_, rfl⟩

theorem ident_loop (s : Bytes) (hs : s.length ≤ maxW) : ∀ (k : Nat) (i : Int), 0 ≤ i → (s.length : Int) - i ≤ k → Ev2 (fun _ m => ref06_Identifier_l1 s m i) (fun _ => True) := by
  intro k
  induction k with
  | zero =>
    intro i hi hk
    refine ev_round ?_
    simp only [ref06_Identifier_l1]
    refine ev_ifF (by omega) (ev_some trivial)
  | succ k ih =>
    intro i hi hk
    refine ev_round ?_
    simp only [ref06_Identifier_l1]
    refine ev_ite (fun h => ?_) (fun h => ev_some trivial)
    obtain ⟨b, hb⟩ := letter_ok (byt s i)
    simp only [hb, bd_some]
    refine ev_cut (fun _ => True) ?_ (fun t _ => ?_)
    · refine ev_ck ⟨hi, h⟩ (ev_ite (fun _ => ev_ck ⟨hi, h⟩ (ev_ite (fun _ => ev_some trivial) (fun _ => ev_ck ⟨hi, h⟩ (ev_some trivial)))) (fun _ => ev_some trivial))
    · exact ev_ite (fun _ => ev_some trivial) (fun _ => ev_ck (inR_succ ⟨hi, h⟩ hs) (ih (i + 1) (by omega) (by omega)))

theorem ident_tot (s : Bytes) (hs : s.length ≤ maxW) : Ev2 (fun n _ => ref06_Identifier n s) (fun _ => True) := by
  simp only [ref06_Identifier]
  refine ev_cut (fun _ => True) ?_ (fun t _ => ?_)
  · refine ev_ite (fun _ => ev_some trivial) (fun h => ev_ite (fun _ => ev_some trivial) (fun _ => ev_ck ?_ ?_))
    · have : s.length ≠ 0 := fun e => h (List.length_eq_zero_iff.1 e)
      omega
    · obtain ⟨b, hb⟩ := letter_ok (byt s 0)
      simp only [hb, bd_some]
      exact ev_some trivial
  · refine ev_ite (fun _ => ev_some trivial) (fun _ => ?_)
    refine ev_jn (ev_mono (ev_loop (ident_loop s hs s.length 0 (by omega) (by omega))) fun r _ => ?_)
    cases r with
    | inl x => exact ev_some trivial
    | inr y => trivial

end Go.Ab.R17
