/- What bounds the data that a row reads; settled data of a struct's type is a value of it. -/
import Derived.Test.YtmpmphkpplgbkaaAbW
import Derived.Test.YtmpmphkpplgbkaaTy
import Derived.Test.YtmpmphkpplgbkaaDat17
set_option linter.unusedVariables false
set_option linter.unusedSimpArgs false
set_option linter.unnecessarySimpa false
namespace Go.Ab
set_option autoImplicit false

theorem dec_listN {α : Type} {tt : List (Nat × TI)} {n t s b : Nat} {cs : List PV} {z : List Value} (f : α → PV) (Q : α → Prop) {e : Nat} (hl : look tt t = some ⟨.slice e, s, b, z⟩) (h : WTf tt n t cs)
    (he : ∀ m x, m < n → WTf tt m e x.cells → x = mkE (((look tt e).map (·.k.isAgg)).getD false) x.cells → ∃ y, x = f y ∧ Q y) : ∃ l : List α, cs = [eL f l] ∧ l.length * (((look tt e).map (·.bytes)).getD 0) ≤ maxW ∧ ∀ y ∈ l, Q y := by
  cases n with
  | zero => exact h.elim
  | succ n =>
    obtain ⟨l, h1, h2, h3⟩ := dec_list f Q hl h (fun x k1 k2 => he n x (by omega) k1 k2)
    exact ⟨l, h1, h2.2, h3⟩

inductive TValue.Bd : TValue → Prop where
  | mk {x : TValue} (bKind : inR x.fKind) (bNum : inR x.fNum) (bStr : x.fStr.length ≤ maxW) (bItems : x.fItems.length * 80 ≤ maxW) (eItems : ∀ y ∈ x.fItems, TValue.Bd y) (bKeys : x.fKeys.length * 16 ≤ maxW) (eKeys : ∀ y ∈ x.fKeys, y.length ≤ maxW) : TValue.Bd x

theorem TValue.Bd.bKind {x : TValue} (h : TValue.Bd x) : inR x.fKind := by cases h; assumption

theorem TValue.Bd.bNum {x : TValue} (h : TValue.Bd x) : inR x.fNum := by cases h; assumption

theorem TValue.Bd.bStr {x : TValue} (h : TValue.Bd x) : x.fStr.length ≤ maxW := by cases h; assumption

theorem TValue.Bd.bItems {x : TValue} (h : TValue.Bd x) : x.fItems.length * 80 ≤ maxW := by cases h; assumption

theorem TValue.Bd.eItems {x : TValue} (h : TValue.Bd x) : ∀ y ∈ x.fItems, TValue.Bd y := by cases h; assumption

theorem TValue.Bd.bKeys {x : TValue} (h : TValue.Bd x) : x.fKeys.length * 16 ≤ maxW := by cases h; assumption

theorem TValue.Bd.eKeys {x : TValue} (h : TValue.Bd x) : ∀ y ∈ x.fKeys, y.length ≤ maxW := by cases h; assumption

theorem TValue.dec (n : Nat) : (∀ cs, WTf tt n 28 cs → ∃ x : TValue, cs = TValue.cs x ∧ TValue.Bd x) := by
  induction n using Nat.strongRecOn with
  | _ n ih =>
  have ih_TValue : ∀ m, m < n → (∀ cs, WTf tt m 28 cs → ∃ x : TValue, cs = TValue.cs x ∧ TValue.Bd x) := fun m hm => (ih m hm)
  intro cs h
  cases n with
  | zero => exact h.elim
  | succ n =>
  have h0 := dec_struct rfl h
  obtain ⟨c0, q0, rfl, k0, h0⟩ := wts_cons h0
  obtain ⟨c1, q1, rfl, k1, h0⟩ := wts_cons h0
  obtain ⟨c2, q2, rfl, k2, h0⟩ := wts_cons h0
  obtain ⟨c3, q3, rfl, k3, h0⟩ := wts_cons h0
  obtain ⟨c4, q4, rfl, k4, h0⟩ := wts_cons h0
  have e : q4 = [] := h0
  subst e
  obtain ⟨x1, rfl, b2⟩ := dec_i64 rfl k0
  obtain ⟨x3, rfl, b4⟩ := dec_i64 rfl k1
  obtain ⟨x5, rfl, b6⟩ := dec_str rfl k2
  obtain ⟨x7, rfl, b8⟩ := dec_listN eTValue (fun y => TValue.Bd y) rfl k3 (fun m9 y10 hm11 k12 k13 => by
    obtain ⟨x14, e16, b15⟩ := ih_TValue _ (by omega) _ k12
    exact ⟨x14, (mkA_eq e16 k13).trans (TValue.agg_eq _).symm, b15⟩
    )
  obtain ⟨x17, rfl, b18⟩ := dec_listN eS (fun y => y.length ≤ maxW) rfl k4 (fun m19 y20 hm21 k22 k23 => by
    obtain ⟨x24, e26, b25⟩ := dec_str rfl k22
    exact ⟨x24, mk1_eq e26 k23, b25⟩
    )
  exact ⟨TValue.mk x1 x3 x5 x7 x17, rfl, .mk b2 b4 b6 b8.1 b8.2 b18.1 b18.2⟩

inductive TExpr.Bd : TExpr → Prop where
  | mk {x : TExpr} (bKind : inR x.fKind) (bOp : inR x.fOp) (bName : x.fName.length ≤ maxW) (bKey : x.fKey.length ≤ maxW) (bValue : TValue.Bd x.fValue) (bKids : x.fKids.length * 160 ≤ maxW) (eKids : ∀ y ∈ x.fKids, TExpr.Bd y) (bAt : inR x.fAt) : TExpr.Bd x

theorem TExpr.Bd.bKind {x : TExpr} (h : TExpr.Bd x) : inR x.fKind := by cases h; assumption

theorem TExpr.Bd.bOp {x : TExpr} (h : TExpr.Bd x) : inR x.fOp := by cases h; assumption

theorem TExpr.Bd.bName {x : TExpr} (h : TExpr.Bd x) : x.fName.length ≤ maxW := by cases h; assumption

theorem TExpr.Bd.bKey {x : TExpr} (h : TExpr.Bd x) : x.fKey.length ≤ maxW := by cases h; assumption

theorem TExpr.Bd.bValue {x : TExpr} (h : TExpr.Bd x) : TValue.Bd x.fValue := by cases h; assumption

theorem TExpr.Bd.bKids {x : TExpr} (h : TExpr.Bd x) : x.fKids.length * 160 ≤ maxW := by cases h; assumption

theorem TExpr.Bd.eKids {x : TExpr} (h : TExpr.Bd x) : ∀ y ∈ x.fKids, TExpr.Bd y := by cases h; assumption

theorem TExpr.Bd.bAt {x : TExpr} (h : TExpr.Bd x) : inR x.fAt := by cases h; assumption

theorem TExpr.dec (n : Nat) : (∀ cs, WTf tt n 31 cs → ∃ x : TExpr, cs = TExpr.cs x ∧ TExpr.Bd x) := by
  induction n using Nat.strongRecOn with
  | _ n ih =>
  have ih_TExpr : ∀ m, m < n → (∀ cs, WTf tt m 31 cs → ∃ x : TExpr, cs = TExpr.cs x ∧ TExpr.Bd x) := fun m hm => (ih m hm)
  intro cs h
  cases n with
  | zero => exact h.elim
  | succ n =>
  have h0 := dec_struct rfl h
  obtain ⟨c0, q0, rfl, k0, h0⟩ := wts_cons h0
  obtain ⟨c1, q1, rfl, k1, h0⟩ := wts_cons h0
  obtain ⟨c2, q2, rfl, k2, h0⟩ := wts_cons h0
  obtain ⟨c3, q3, rfl, k3, h0⟩ := wts_cons h0
  obtain ⟨c4, q4, rfl, k4, h0⟩ := wts_cons h0
  obtain ⟨c5, q5, rfl, k5, h0⟩ := wts_cons h0
  obtain ⟨c6, q6, rfl, k6, h0⟩ := wts_cons h0
  have e : q6 = [] := h0
  subst e
  obtain ⟨x27, rfl, b28⟩ := dec_i64 rfl k0
  obtain ⟨x29, rfl, b30⟩ := dec_i64 rfl k1
  obtain ⟨x31, rfl, b32⟩ := dec_str rfl k2
  obtain ⟨x33, rfl, b34⟩ := dec_str rfl k3
  obtain ⟨x35, rfl, b36⟩ := TValue.dec _ _ k4
  obtain ⟨x37, rfl, b38⟩ := dec_listN eTExpr (fun y => TExpr.Bd y) rfl k5 (fun m39 y40 hm41 k42 k43 => by
    obtain ⟨x44, e46, b45⟩ := ih_TExpr _ (by omega) _ k42
    exact ⟨x44, (mkA_eq e46 k43).trans (TExpr.agg_eq _).symm, b45⟩
    )
  obtain ⟨x47, rfl, b48⟩ := dec_i64 rfl k6
  exact ⟨TExpr.mk x27 x29 x31 x33 x35 x37 x47, rfl, .mk b28 b30 b32 b34 b36 b38.1 b38.2 b48⟩

inductive TRef.Bd : TRef → Prop where
  | mk {x : TRef} (bKind : inR x.fKind) (bType : x.fType.length ≤ maxW) (bName : x.fName.length ≤ maxW) (bAt : inR x.fAt) : TRef.Bd x

theorem TRef.Bd.bKind {x : TRef} (h : TRef.Bd x) : inR x.fKind := by cases h; assumption

theorem TRef.Bd.bType {x : TRef} (h : TRef.Bd x) : x.fType.length ≤ maxW := by cases h; assumption

theorem TRef.Bd.bName {x : TRef} (h : TRef.Bd x) : x.fName.length ≤ maxW := by cases h; assumption

theorem TRef.Bd.bAt {x : TRef} (h : TRef.Bd x) : inR x.fAt := by cases h; assumption

theorem TRef.dec (n : Nat) : (∀ cs, WTf tt n 36 cs → ∃ x : TRef, cs = TRef.cs x ∧ TRef.Bd x) := by
  induction n using Nat.strongRecOn with
  | _ n ih =>
  have ih_TRef : ∀ m, m < n → (∀ cs, WTf tt m 36 cs → ∃ x : TRef, cs = TRef.cs x ∧ TRef.Bd x) := fun m hm => (ih m hm)
  intro cs h
  cases n with
  | zero => exact h.elim
  | succ n =>
  have h0 := dec_struct rfl h
  obtain ⟨c0, q0, rfl, k0, h0⟩ := wts_cons h0
  obtain ⟨c1, q1, rfl, k1, h0⟩ := wts_cons h0
  obtain ⟨c2, q2, rfl, k2, h0⟩ := wts_cons h0
  obtain ⟨c3, q3, rfl, k3, h0⟩ := wts_cons h0
  have e : q3 = [] := h0
  subst e
  obtain ⟨x49, rfl, b50⟩ := dec_i64 rfl k0
  obtain ⟨x51, rfl, b52⟩ := dec_str rfl k1
  obtain ⟨x53, rfl, b54⟩ := dec_str rfl k2
  obtain ⟨x55, rfl, b56⟩ := dec_i64 rfl k3
  exact ⟨TRef.mk x49 x51 x53 x55, rfl, .mk b50 b52 b54 b56⟩

inductive TAttribute.Bd : TAttribute → Prop where
  | mk {x : TAttribute} (bName : x.fName.length ≤ maxW) (bExpr : TExpr.Bd x.fExpr) (bAt : inR x.fAt) : TAttribute.Bd x

theorem TAttribute.Bd.bName {x : TAttribute} (h : TAttribute.Bd x) : x.fName.length ≤ maxW := by cases h; assumption

theorem TAttribute.Bd.bExpr {x : TAttribute} (h : TAttribute.Bd x) : TExpr.Bd x.fExpr := by cases h; assumption

theorem TAttribute.Bd.bAt {x : TAttribute} (h : TAttribute.Bd x) : inR x.fAt := by cases h; assumption

theorem TAttribute.dec (n : Nat) : (∀ cs, WTf tt n 96 cs → ∃ x : TAttribute, cs = TAttribute.cs x ∧ TAttribute.Bd x) := by
  induction n using Nat.strongRecOn with
  | _ n ih =>
  have ih_TAttribute : ∀ m, m < n → (∀ cs, WTf tt m 96 cs → ∃ x : TAttribute, cs = TAttribute.cs x ∧ TAttribute.Bd x) := fun m hm => (ih m hm)
  intro cs h
  cases n with
  | zero => exact h.elim
  | succ n =>
  have h0 := dec_struct rfl h
  obtain ⟨c0, q0, rfl, k0, h0⟩ := wts_cons h0
  obtain ⟨c1, q1, rfl, k1, h0⟩ := wts_cons h0
  obtain ⟨c2, q2, rfl, k2, h0⟩ := wts_cons h0
  have e : q2 = [] := h0
  subst e
  obtain ⟨x57, rfl, b58⟩ := dec_str rfl k0
  obtain ⟨x59, rfl, b60⟩ := TExpr.dec _ _ k1
  obtain ⟨x61, rfl, b62⟩ := dec_i64 rfl k2
  exact ⟨TAttribute.mk x57 x59 x61, rfl, .mk b58 b60 b62⟩

mutual
inductive TBody.Bd : TBody → Prop where
  | mk {x : TBody} (bAttrs : x.fAttrs.length * 184 ≤ maxW) (eAttrs : ∀ y ∈ x.fAttrs, TAttribute.Bd y) (bBlocks : x.fBlocks.length * 96 ≤ maxW) (eBlocks : ∀ y ∈ x.fBlocks, TBlock.Bd y) : TBody.Bd x
inductive TBlock.Bd : TBlock → Prop where
  | mk {x : TBlock} (bType : x.fType.length ≤ maxW) (bLabels : x.fLabels.length * 16 ≤ maxW) (eLabels : ∀ y ∈ x.fLabels, y.length ≤ maxW) (bBody : TBody.Bd x.fBody) (bAt : inR x.fAt) : TBlock.Bd x
end

theorem TBody.Bd.bAttrs {x : TBody} (h : TBody.Bd x) : x.fAttrs.length * 184 ≤ maxW := by cases h; assumption

theorem TBody.Bd.eAttrs {x : TBody} (h : TBody.Bd x) : ∀ y ∈ x.fAttrs, TAttribute.Bd y := by cases h; assumption

theorem TBody.Bd.bBlocks {x : TBody} (h : TBody.Bd x) : x.fBlocks.length * 96 ≤ maxW := by cases h; assumption

theorem TBody.Bd.eBlocks {x : TBody} (h : TBody.Bd x) : ∀ y ∈ x.fBlocks, TBlock.Bd y := by cases h; assumption

theorem TBlock.Bd.bType {x : TBlock} (h : TBlock.Bd x) : x.fType.length ≤ maxW := by cases h; assumption

theorem TBlock.Bd.bLabels {x : TBlock} (h : TBlock.Bd x) : x.fLabels.length * 16 ≤ maxW := by cases h; assumption

theorem TBlock.Bd.eLabels {x : TBlock} (h : TBlock.Bd x) : ∀ y ∈ x.fLabels, y.length ≤ maxW := by cases h; assumption

theorem TBlock.Bd.bBody {x : TBlock} (h : TBlock.Bd x) : TBody.Bd x.fBody := by cases h; assumption

theorem TBlock.Bd.bAt {x : TBlock} (h : TBlock.Bd x) : inR x.fAt := by cases h; assumption

theorem TBody.decs (n : Nat) : (∀ cs, WTf tt n 53 cs → ∃ x : TBody, cs = TBody.cs x ∧ TBody.Bd x) ∧ (∀ cs, WTf tt n 99 cs → ∃ x : TBlock, cs = TBlock.cs x ∧ TBlock.Bd x) := by
  induction n using Nat.strongRecOn with
  | _ n ih =>
  have ih_TBody : ∀ m, m < n → (∀ cs, WTf tt m 53 cs → ∃ x : TBody, cs = TBody.cs x ∧ TBody.Bd x) := fun m hm => (ih m hm).1
  have ih_TBlock : ∀ m, m < n → (∀ cs, WTf tt m 99 cs → ∃ x : TBlock, cs = TBlock.cs x ∧ TBlock.Bd x) := fun m hm => (ih m hm).2
  refine ⟨?_, ?_⟩
  · intro cs h
    cases n with
    | zero => exact h.elim
    | succ n =>
    have h0 := dec_struct rfl h
    obtain ⟨c0, q0, rfl, k0, h0⟩ := wts_cons h0
    obtain ⟨c1, q1, rfl, k1, h0⟩ := wts_cons h0
    have e : q1 = [] := h0
    subst e
    obtain ⟨x63, rfl, b64⟩ := dec_listN eTAttribute (fun y => TAttribute.Bd y) rfl k0 (fun m65 y66 hm67 k68 k69 => by
      obtain ⟨x70, e72, b71⟩ := TAttribute.dec _ _ k68
      exact ⟨x70, (mkA_eq e72 k69).trans (TAttribute.agg_eq _).symm, b71⟩
      )
    obtain ⟨x73, rfl, b74⟩ := dec_listN eTBlock (fun y => TBlock.Bd y) rfl k1 (fun m75 y76 hm77 k78 k79 => by
      obtain ⟨x80, e82, b81⟩ := ih_TBlock _ (by omega) _ k78
      exact ⟨x80, (mkA_eq e82 k79).trans (TBlock.agg_eq _).symm, b81⟩
      )
    exact ⟨TBody.mk x63 x73, rfl, .mk b64.1 b64.2 b74.1 b74.2⟩
  · intro cs h
    cases n with
    | zero => exact h.elim
    | succ n =>
    have h0 := dec_struct rfl h
    obtain ⟨c0, q0, rfl, k0, h0⟩ := wts_cons h0
    obtain ⟨c1, q1, rfl, k1, h0⟩ := wts_cons h0
    obtain ⟨c2, q2, rfl, k2, h0⟩ := wts_cons h0
    obtain ⟨c3, q3, rfl, k3, h0⟩ := wts_cons h0
    have e : q3 = [] := h0
    subst e
    obtain ⟨x83, rfl, b84⟩ := dec_str rfl k0
    obtain ⟨x85, rfl, b86⟩ := dec_listN eS (fun y => y.length ≤ maxW) rfl k1 (fun m87 y88 hm89 k90 k91 => by
      obtain ⟨x92, e94, b93⟩ := dec_str rfl k90
      exact ⟨x92, mk1_eq e94 k91, b93⟩
      )
    obtain ⟨x95, rfl, b96⟩ := ih_TBody _ (by omega) _ k2
    obtain ⟨x97, rfl, b98⟩ := dec_i64 rfl k3
    exact ⟨TBlock.mk x83 x85 x95 x97, rfl, .mk b84 b86.1 b86.2 b96 b98⟩

theorem TBody.dec (n : Nat) : (∀ cs, WTf tt n 53 cs → ∃ x : TBody, cs = TBody.cs x ∧ TBody.Bd x) := (TBody.decs n).1

theorem TBlock.dec (n : Nat) : (∀ cs, WTf tt n 99 cs → ∃ x : TBlock, cs = TBlock.cs x ∧ TBlock.Bd x) := (TBody.decs n).2

inductive TChain.Bd : TChain → Prop where
  | mk {x : TChain} (bRoot : TExpr.Bd x.fRoot) (bNames : x.fNames.length * 16 ≤ maxW) (eNames : ∀ y ∈ x.fNames, y.length ≤ maxW) (bStep : x.fStep.length * 1 ≤ maxW) (bKids : x.fKids.length * 160 ≤ maxW) (eKids : ∀ y ∈ x.fKids, TExpr.Bd y) : TChain.Bd x

theorem TChain.Bd.bRoot {x : TChain} (h : TChain.Bd x) : TExpr.Bd x.fRoot := by cases h; assumption

theorem TChain.Bd.bNames {x : TChain} (h : TChain.Bd x) : x.fNames.length * 16 ≤ maxW := by cases h; assumption

theorem TChain.Bd.eNames {x : TChain} (h : TChain.Bd x) : ∀ y ∈ x.fNames, y.length ≤ maxW := by cases h; assumption

theorem TChain.Bd.bStep {x : TChain} (h : TChain.Bd x) : x.fStep.length * 1 ≤ maxW := by cases h; assumption

theorem TChain.Bd.bKids {x : TChain} (h : TChain.Bd x) : x.fKids.length * 160 ≤ maxW := by cases h; assumption

theorem TChain.Bd.eKids {x : TChain} (h : TChain.Bd x) : ∀ y ∈ x.fKids, TExpr.Bd y := by cases h; assumption

theorem TChain.dec (n : Nat) : (∀ cs, WTf tt n 67 cs → ∃ x : TChain, cs = TChain.cs x ∧ TChain.Bd x) := by
  induction n using Nat.strongRecOn with
  | _ n ih =>
  have ih_TChain : ∀ m, m < n → (∀ cs, WTf tt m 67 cs → ∃ x : TChain, cs = TChain.cs x ∧ TChain.Bd x) := fun m hm => (ih m hm)
  intro cs h
  cases n with
  | zero => exact h.elim
  | succ n =>
  have h0 := dec_struct rfl h
  obtain ⟨c0, q0, rfl, k0, h0⟩ := wts_cons h0
  obtain ⟨c1, q1, rfl, k1, h0⟩ := wts_cons h0
  obtain ⟨c2, q2, rfl, k2, h0⟩ := wts_cons h0
  obtain ⟨c3, q3, rfl, k3, h0⟩ := wts_cons h0
  have e : q3 = [] := h0
  subst e
  obtain ⟨x99, rfl, b100⟩ := TExpr.dec _ _ k0
  obtain ⟨x101, rfl, b102⟩ := dec_listN eS (fun y => y.length ≤ maxW) rfl k1 (fun m103 y104 hm105 k106 k107 => by
    obtain ⟨x108, e110, b109⟩ := dec_str rfl k106
    exact ⟨x108, mk1_eq e110 k107, b109⟩
    )
  obtain ⟨x111, rfl, b112⟩ := dec_listN eB (fun y => True) rfl k2 (fun m113 y114 hm115 k116 k117 => by
    obtain ⟨x118, e120⟩ := dec_bool rfl k116
    exact ⟨x118, mk1_eq e120 k117, trivial⟩
    )
  obtain ⟨x121, rfl, b122⟩ := dec_listN eTExpr (fun y => TExpr.Bd y) rfl k3 (fun m123 y124 hm125 k126 k127 => by
    obtain ⟨x128, e130, b129⟩ := TExpr.dec _ _ k126
    exact ⟨x128, (mkA_eq e130 k127).trans (TExpr.agg_eq _).symm, b129⟩
    )
  exact ⟨TChain.mk x99 x101 x111 x121, rfl, .mk b100 b102.1 b102.2 b112.1 b122.1 b122.2⟩

inductive Tfinder.Bd : Tfinder → Prop where
  | mk {x : Tfinder} (bout : x.fout.length * 48 ≤ maxW) (eout : ∀ y ∈ x.fout, TRef.Bd y) : Tfinder.Bd x

theorem Tfinder.Bd.bout {x : Tfinder} (h : Tfinder.Bd x) : x.fout.length * 48 ≤ maxW := by cases h; assumption

theorem Tfinder.Bd.eout {x : Tfinder} (h : Tfinder.Bd x) : ∀ y ∈ x.fout, TRef.Bd y := by cases h; assumption

theorem Tfinder.dec (n : Nat) : (∀ cs, WTf tt n 72 cs → ∃ x : Tfinder, cs = Tfinder.cs x ∧ Tfinder.Bd x) := by
  induction n using Nat.strongRecOn with
  | _ n ih =>
  have ih_Tfinder : ∀ m, m < n → (∀ cs, WTf tt m 72 cs → ∃ x : Tfinder, cs = Tfinder.cs x ∧ Tfinder.Bd x) := fun m hm => (ih m hm)
  intro cs h
  cases n with
  | zero => exact h.elim
  | succ n =>
  have h0 := dec_struct rfl h
  obtain ⟨c0, q0, rfl, k0, h0⟩ := wts_cons h0
  have e : q0 = [] := h0
  subst e
  obtain ⟨x131, rfl, b132⟩ := dec_listN eTRef (fun y => TRef.Bd y) rfl k0 (fun m133 y134 hm135 k136 k137 => by
    obtain ⟨x138, e140, b139⟩ := TRef.dec _ _ k136
    exact ⟨x138, (mkA_eq e140 k137).trans (TRef.agg_eq _).symm, b139⟩
    )
  exact ⟨Tfinder.mk x131, rfl, .mk b132.1 b132.2⟩

end Go.Ab
