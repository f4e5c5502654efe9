/- What bounds the data that a row reads; settled data of a struct's type is a value of it. -/
import Derived.Test.YtmdefcidhgbikaaGreatDoorAbW
import Derived.Test.YtmdefcidhgbikaaGreatDoorTy
import Derived.Test.YtmdefcidhgbikaaGreatDoorDat16
set_option linter.unusedVariables false
set_option linter.unusedSimpArgs false
set_option linter.unnecessarySimpa false
namespace Go.Ab
set_option autoImplicit false
theorem dec_listN {α : Type} {tt : List (Nat × TI)} {n t s b : Nat} {cs : List PV} {z : List Value} (f : α → PV) (Q : α → Prop) {e : Nat} (hl : look tt t = some ⟨.slice e, s, b, z⟩) (h : WTf tt n t cs)
    (he : ∀ m x, m < n → WTf tt m e x.cells → x = mkE (((look tt e).map (·.k.isAgg)).getD false) x.cells → ∃ y, x = f y ∧ Q y) : ∃ l : List α, cs = [eL f l] ∧ l.length * (((look tt e).map (·.bytes)).getD 0) ≤ maxW ∧ ∀ y ∈ l, Q y := by
  cases n with
  | zero => exact h.elim
  | succ n =>
    obtain ⟨l, h1, h2, h3⟩ := dec_list f Q hl h (fun x k1 k2 => he n x (by omega) k1 k2)
    exact ⟨l, h1, h2.2, h3⟩
inductive TValue.Bd : TValue → Prop where
  | mk {x : TValue} (bKind : inR x.fKind) (bNum : inR x.fNum) (bStr : x.fStr.length ≤ maxW) (bItems : x.fItems.length * 80 ≤ maxW) (eItems : ∀ y ∈ x.fItems, TValue.Bd y) (bKeys : x.fKeys.length * 16 ≤ maxW) (eKeys : ∀ y ∈ x.fKeys, y.length ≤ maxW) : TValue.Bd x
theorem TValue.Bd.bKeys {x : TValue} (h : TValue.Bd x) : x.fKeys.length * 16 ≤ maxW := by cases h; assumption
theorem TValue.dec (n : Nat) : (∀ cs, WTf tt n 28 cs → ∃ x : TValue, cs = TValue.cs x ∧ TValue.Bd x) := by
  induction n using Nat.strongRecOn with
  | _ n ih =>
  have ih_TValue : ∀ m, m < n → (∀ cs, WTf tt m 28 cs → ∃ x : TValue, cs = TValue.cs x ∧ TValue.Bd x) := fun m hm => (ih m hm)
  intro cs h
  cases n with
  | zero => exact h.elim
  | succ n =>
  have h0 := dec_struct rfl h
  obtain ⟨c0, q0, rfl, k0, h0⟩ := wts_cons h0
  obtain ⟨c1, q1, rfl, k1, h0⟩ := wts_cons h0
  obtain ⟨c2, q2, rfl, k2, h0⟩ := wts_cons h0
  obtain ⟨c3, q3, rfl, k3, h0⟩ := wts_cons h0
  obtain ⟨c4, q4, rfl, k4, h0⟩ := wts_cons h0
  have e : q4 = [] := h0
  subst e
  obtain ⟨x1, rfl, b2⟩ := dec_i64 rfl k0
  obtain ⟨x3, rfl, b4⟩ := dec_i64 rfl k1
  obtain ⟨x5, rfl, b6⟩ := dec_str rfl k2
  obtain ⟨x7, rfl, b8⟩ := dec_listN eTValue (fun y => TValue.Bd y) rfl k3 (fun m9 y10 hm11 k12 k13 => by
    obtain ⟨x14, e16, b15⟩ := ih_TValue _ (by omega) _ k12
    exact ⟨x14, (mkA_eq e16 k13).trans (TValue.agg_eq _).symm, b15⟩
    )
  obtain ⟨x17, rfl, b18⟩ := dec_listN eS (fun y => y.length ≤ maxW) rfl k4 (fun m19 y20 hm21 k22 k23 => by
    obtain ⟨x24, e26, b25⟩ := dec_str rfl k22
    exact ⟨x24, mk1_eq e26 k23, b25⟩
    )
  exact ⟨TValue.mk x1 x3 x5 x7 x17, rfl, .mk b2 b4 b6 b8.1 b8.2 b18.1 b18.2⟩
inductive TExpr.Bd : TExpr → Prop where
  | mk {x : TExpr} (bKind : inR x.fKind) (bOp : inR x.fOp) (bName : x.fName.length ≤ maxW) (bKey : x.fKey.length ≤ maxW) (bValue : TValue.Bd x.fValue) (bKids : x.fKids.length * 160 ≤ maxW) (eKids : ∀ y ∈ x.fKids, TExpr.Bd y) (bAt : inR x.fAt) : TExpr.Bd x
theorem TExpr.Bd.bValue {x : TExpr} (h : TExpr.Bd x) : TValue.Bd x.fValue := by cases h; assumption
theorem TExpr.dec (n : Nat) : (∀ cs, WTf tt n 31 cs → ∃ x : TExpr, cs = TExpr.cs x ∧ TExpr.Bd x) := by
  induction n using Nat.strongRecOn with
  | _ n ih =>
  have ih_TExpr : ∀ m, m < n → (∀ cs, WTf tt m 31 cs → ∃ x : TExpr, cs = TExpr.cs x ∧ TExpr.Bd x) := fun m hm => (ih m hm)
  intro cs h
  cases n with
  | zero => exact h.elim
  | succ n =>
  have h0 := dec_struct rfl h
  obtain ⟨c0, q0, rfl, k0, h0⟩ := wts_cons h0
  obtain ⟨c1, q1, rfl, k1, h0⟩ := wts_cons h0
  obtain ⟨c2, q2, rfl, k2, h0⟩ := wts_cons h0
  obtain ⟨c3, q3, rfl, k3, h0⟩ := wts_cons h0
  obtain ⟨c4, q4, rfl, k4, h0⟩ := wts_cons h0
  obtain ⟨c5, q5, rfl, k5, h0⟩ := wts_cons h0
  obtain ⟨c6, q6, rfl, k6, h0⟩ := wts_cons h0
  have e : q6 = [] := h0
  subst e
  obtain ⟨x27, rfl, b28⟩ := dec_i64 rfl k0
  obtain ⟨x29, rfl, b30⟩ := dec_i64 rfl k1
  obtain ⟨x31, rfl, b32⟩ := dec_str rfl k2
  obtain ⟨x33, rfl, b34⟩ := dec_str rfl k3
  obtain ⟨x35, rfl, b36⟩ := TValue.dec _ _ k4
  obtain ⟨x37, rfl, b38⟩ := dec_listN eTExpr (fun y => TExpr.Bd y) rfl k5 (fun m39 y40 hm41 k42 k43 => by
    obtain ⟨x44, e46, b45⟩ := ih_TExpr _ (by omega) _ k42
    exact ⟨x44, (mkA_eq e46 k43).trans (TExpr.agg_eq _).symm, b45⟩
    )
  obtain ⟨x47, rfl, b48⟩ := dec_i64 rfl k6
  exact ⟨TExpr.mk x27 x29 x31 x33 x35 x37 x47, rfl, .mk b28 b30 b32 b34 b36 b38.1 b38.2 b48⟩
inductive TAttribute.Bd : TAttribute → Prop where
  | mk {x : TAttribute} (bName : x.fName.length ≤ maxW) (bExpr : TExpr.Bd x.fExpr) (bAt : inR x.fAt) : TAttribute.Bd x
theorem TAttribute.Bd.bExpr {x : TAttribute} (h : TAttribute.Bd x) : TExpr.Bd x.fExpr := by cases h; assumption
theorem TAttribute.dec (n : Nat) : (∀ cs, WTf tt n 65 cs → ∃ x : TAttribute, cs = TAttribute.cs x ∧ TAttribute.Bd x) := by
  induction n using Nat.strongRecOn with
  | _ n ih =>
  have ih_TAttribute : ∀ m, m < n → (∀ cs, WTf tt m 65 cs → ∃ x : TAttribute, cs = TAttribute.cs x ∧ TAttribute.Bd x) := fun m hm => (ih m hm)
  intro cs h
  cases n with
  | zero => exact h.elim
  | succ n =>
  have h0 := dec_struct rfl h
  obtain ⟨c0, q0, rfl, k0, h0⟩ := wts_cons h0
  obtain ⟨c1, q1, rfl, k1, h0⟩ := wts_cons h0
  obtain ⟨c2, q2, rfl, k2, h0⟩ := wts_cons h0
  have e : q2 = [] := h0
  subst e
  obtain ⟨x49, rfl, b50⟩ := dec_str rfl k0
  obtain ⟨x51, rfl, b52⟩ := TExpr.dec _ _ k1
  obtain ⟨x53, rfl, b54⟩ := dec_i64 rfl k2
  exact ⟨TAttribute.mk x49 x51 x53, rfl, .mk b50 b52 b54⟩
mutual
inductive TBody.Bd : TBody → Prop where
  | mk {x : TBody} (bAttrs : x.fAttrs.length * 184 ≤ maxW) (eAttrs : ∀ y ∈ x.fAttrs, TAttribute.Bd y) (bBlocks : x.fBlocks.length * 96 ≤ maxW) (eBlocks : ∀ y ∈ x.fBlocks, TBlock.Bd y) : TBody.Bd x
inductive TBlock.Bd : TBlock → Prop where
  | mk {x : TBlock} (bType : x.fType.length ≤ maxW) (bLabels : x.fLabels.length * 16 ≤ maxW) (eLabels : ∀ y ∈ x.fLabels, y.length ≤ maxW) (bBody : TBody.Bd x.fBody) (bAt : inR x.fAt) : TBlock.Bd x
end
theorem TBody.Bd.bAttrs {x : TBody} (h : TBody.Bd x) : x.fAttrs.length * 184 ≤ maxW := by cases h; assumption
theorem TBody.Bd.eAttrs {x : TBody} (h : TBody.Bd x) : ∀ y ∈ x.fAttrs, TAttribute.Bd y := by cases h; assumption
theorem TBody.Bd.bBlocks {x : TBody} (h : TBody.Bd x) : x.fBlocks.length * 96 ≤ maxW := by cases h; assumption
theorem TBody.Bd.eBlocks {x : TBody} (h : TBody.Bd x) : ∀ y ∈ x.fBlocks, TBlock.Bd y := by cases h; assumption
theorem TBlock.Bd.bLabels {x : TBlock} (h : TBlock.Bd x) : x.fLabels.length * 16 ≤ maxW := by cases h; assumption
theorem TBlock.Bd.eLabels {x : TBlock} (h : TBlock.Bd x) : ∀ y ∈ x.fLabels, y.length ≤ maxW := by cases h; assumption
theorem TBody.decs (n : Nat) : (∀ cs, WTf tt n 35 cs → ∃ x : TBody, cs = TBody.cs x ∧ TBody.Bd x) ∧ (∀ cs, WTf tt n 67 cs → ∃ x : TBlock, cs = TBlock.cs x ∧ TBlock.Bd x) := by
  induction n using Nat.strongRecOn with
  | _ n ih =>
  have ih_TBody : ∀ m, m < n → (∀ cs, WTf tt m 35 cs → ∃ x : TBody, cs = TBody.cs x ∧ TBody.Bd x) := fun m hm => (ih m hm).1
  have ih_TBlock : ∀ m, m < n → (∀ cs, WTf tt m 67 cs → ∃ x : TBlock, cs = TBlock.cs x ∧ TBlock.Bd x) := fun m hm => (ih m hm).2
  refine ⟨?_, ?_⟩
  · intro cs h
    cases n with
    | zero => exact h.elim
    | succ n =>
    have h0 := dec_struct rfl h
    obtain ⟨c0, q0, rfl, k0, h0⟩ := wts_cons h0
    obtain ⟨c1, q1, rfl, k1, h0⟩ := wts_cons h0
    have e : q1 = [] := h0
    subst e
    obtain ⟨x55, rfl, b56⟩ := dec_listN eTAttribute (fun y => TAttribute.Bd y) rfl k0 (fun m57 y58 hm59 k60 k61 => by
      obtain ⟨x62, e64, b63⟩ := TAttribute.dec _ _ k60
      exact ⟨x62, (mkA_eq e64 k61).trans (TAttribute.agg_eq _).symm, b63⟩
      )
    obtain ⟨x65, rfl, b66⟩ := dec_listN eTBlock (fun y => TBlock.Bd y) rfl k1 (fun m67 y68 hm69 k70 k71 => by
      obtain ⟨x72, e74, b73⟩ := ih_TBlock _ (by omega) _ k70
      exact ⟨x72, (mkA_eq e74 k71).trans (TBlock.agg_eq _).symm, b73⟩
      )
    exact ⟨TBody.mk x55 x65, rfl, .mk b56.1 b56.2 b66.1 b66.2⟩
  · intro cs h
    cases n with
    | zero => exact h.elim
    | succ n =>
    have h0 := dec_struct rfl h
    obtain ⟨c0, q0, rfl, k0, h0⟩ := wts_cons h0
    obtain ⟨c1, q1, rfl, k1, h0⟩ := wts_cons h0
    obtain ⟨c2, q2, rfl, k2, h0⟩ := wts_cons h0
    obtain ⟨c3, q3, rfl, k3, h0⟩ := wts_cons h0
    have e : q3 = [] := h0
    subst e
    obtain ⟨x75, rfl, b76⟩ := dec_str rfl k0
    obtain ⟨x77, rfl, b78⟩ := dec_listN eS (fun y => y.length ≤ maxW) rfl k1 (fun m79 y80 hm81 k82 k83 => by
      obtain ⟨x84, e86, b85⟩ := dec_str rfl k82
      exact ⟨x84, mk1_eq e86 k83, b85⟩
      )
    obtain ⟨x87, rfl, b88⟩ := ih_TBody _ (by omega) _ k2
    obtain ⟨x89, rfl, b90⟩ := dec_i64 rfl k3
    exact ⟨TBlock.mk x75 x77 x87 x89, rfl, .mk b76 b78.1 b78.2 b88 b90⟩
theorem TBody.dec (n : Nat) : (∀ cs, WTf tt n 35 cs → ∃ x : TBody, cs = TBody.cs x ∧ TBody.Bd x) := (TBody.decs n).1
inductive TDiag.Bd : TDiag → Prop where
  | mk {x : TDiag} (bKind : inR x.fKind) (bAt : inR x.fAt) (bName : x.fName.length ≤ maxW) : TDiag.Bd x
inductive TToken.Bd : TToken → Prop where
  | mk {x : TToken} (bKind : inR x.fKind) (bText : x.fText.length ≤ maxW) (bAt : inR x.fAt) : TToken.Bd x
inductive Tchecker.Bd : Tchecker → Prop where
  | mk {x : Tchecker} (bcount : inR x.fcount) : Tchecker.Bd x
inductive Ttemplate.Bd : Ttemplate → Prop where
  | mk {x : Ttemplate} (bs : x.fs.length ≤ maxW) (bat : inR x.fat) (bi : inR x.fi) (bfrom : inR x.ffrom) (btext : x.ftext.length ≤ maxW) (bparts : x.fparts.length * 160 ≤ maxW) (eparts : ∀ y ∈ x.fparts, TExpr.Bd y) : Ttemplate.Bd x
end Go.Ab
