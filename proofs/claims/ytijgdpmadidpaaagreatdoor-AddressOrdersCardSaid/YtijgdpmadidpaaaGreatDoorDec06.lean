/- What bounds the data that a row reads; settled data of a struct's type is a value of it. -/
import Derived.Test.YtijgdpmadidpaaaGreatDoorAbW
import Derived.Test.YtijgdpmadidpaaaGreatDoorTy
import Derived.Test.YtijgdpmadidpaaaGreatDoorDat06
set_option linter.unusedVariables false
set_option linter.unusedSimpArgs false
set_option linter.unnecessarySimpa false
namespace Go.Ab
set_option autoImplicit false

theorem dec_listN {α : Type} {tt : List (Nat × TI)} {n t s b : Nat} {cs : List PV} {z : List Value} (f : α → PV) (Q : α → Prop) {e : Nat} (hl : look tt t = some ⟨.slice e, s, b, z⟩) (h : WTf tt n t cs)
    (he : ∀ m x, m < n → WTf tt m e x.cells → x = mkE (((look tt e).map (·.k.isAgg)).getD false) x.cells → ∃ y, x = f y ∧ Q y) : ∃ l : List α, cs = [eL f l] ∧ l.length * (((look tt e).map (·.bytes)).getD 0) ≤ maxW ∧ ∀ y ∈ l, Q y := by
  cases n with
  | zero => exact h.elim
  | succ n =>
    obtain ⟨l, h1, h2, h3⟩ := dec_list f Q hl h (fun x k1 k2 => he n x (by omega) k1 k2)
    exact ⟨l, h1, h2.2, h3⟩

inductive TKey.Bd : TKey → Prop where
  | mk {x : TKey} (bKind : inR x.fKind) (bNum : inR x.fNum) (bStr : x.fStr.length ≤ maxW) : TKey.Bd x

theorem TKey.Bd.bKind {x : TKey} (h : TKey.Bd x) : inR x.fKind := by cases h; assumption

theorem TKey.Bd.bNum {x : TKey} (h : TKey.Bd x) : inR x.fNum := by cases h; assumption

theorem TKey.Bd.bStr {x : TKey} (h : TKey.Bd x) : x.fStr.length ≤ maxW := by cases h; assumption

theorem TKey.dec (n : Nat) : (∀ cs, WTf tt n 25 cs → ∃ x : TKey, cs = TKey.cs x ∧ TKey.Bd x) := by
  induction n using Nat.strongRecOn with
  | _ n ih =>
  have ih_TKey : ∀ m, m < n → (∀ cs, WTf tt m 25 cs → ∃ x : TKey, cs = TKey.cs x ∧ TKey.Bd x) := fun m hm => (ih m hm)
  intro cs h
  cases n with
  | zero => exact h.elim
  | succ n =>
  have h0 := dec_struct rfl h
  obtain ⟨c0, q0, rfl, k0, h0⟩ := wts_cons h0
  obtain ⟨c1, q1, rfl, k1, h0⟩ := wts_cons h0
  obtain ⟨c2, q2, rfl, k2, h0⟩ := wts_cons h0
  have e : q2 = [] := h0
  subst e
  obtain ⟨x1, rfl, b2⟩ := dec_i64 rfl k0
  obtain ⟨x3, rfl, b4⟩ := dec_i64 rfl k1
  obtain ⟨x5, rfl, b6⟩ := dec_str rfl k2
  exact ⟨TKey.mk x1 x3 x5, rfl, .mk b2 b4 b6⟩

inductive TModuleStep.Bd : TModuleStep → Prop where
  | mk {x : TModuleStep} (bName : x.fName.length ≤ maxW) (bKey : TKey.Bd x.fKey) : TModuleStep.Bd x

theorem TModuleStep.Bd.bName {x : TModuleStep} (h : TModuleStep.Bd x) : x.fName.length ≤ maxW := by cases h; assumption

theorem TModuleStep.Bd.bKey {x : TModuleStep} (h : TModuleStep.Bd x) : TKey.Bd x.fKey := by cases h; assumption

theorem TModuleStep.dec (n : Nat) : (∀ cs, WTf tt n 44 cs → ∃ x : TModuleStep, cs = TModuleStep.cs x ∧ TModuleStep.Bd x) := by
  induction n using Nat.strongRecOn with
  | _ n ih =>
  have ih_TModuleStep : ∀ m, m < n → (∀ cs, WTf tt m 44 cs → ∃ x : TModuleStep, cs = TModuleStep.cs x ∧ TModuleStep.Bd x) := fun m hm => (ih m hm)
  intro cs h
  cases n with
  | zero => exact h.elim
  | succ n =>
  have h0 := dec_struct rfl h
  obtain ⟨c0, q0, rfl, k0, h0⟩ := wts_cons h0
  obtain ⟨c1, q1, rfl, k1, h0⟩ := wts_cons h0
  have e : q1 = [] := h0
  subst e
  obtain ⟨x7, rfl, b8⟩ := dec_str rfl k0
  obtain ⟨x9, rfl, b10⟩ := TKey.dec _ _ k1
  exact ⟨TModuleStep.mk x7 x9, rfl, .mk b8 b10⟩

inductive TAddress.Bd : TAddress → Prop where
  | mk {x : TAddress} (bModule : x.fModule.length * 48 ≤ maxW) (eModule : ∀ y ∈ x.fModule, TModuleStep.Bd y) (bType : x.fType.length ≤ maxW) (bName : x.fName.length ≤ maxW) (bKey : TKey.Bd x.fKey) : TAddress.Bd x

theorem TAddress.Bd.bModule {x : TAddress} (h : TAddress.Bd x) : x.fModule.length * 48 ≤ maxW := by cases h; assumption

theorem TAddress.Bd.eModule {x : TAddress} (h : TAddress.Bd x) : ∀ y ∈ x.fModule, TModuleStep.Bd y := by cases h; assumption

theorem TAddress.Bd.bType {x : TAddress} (h : TAddress.Bd x) : x.fType.length ≤ maxW := by cases h; assumption

theorem TAddress.Bd.bName {x : TAddress} (h : TAddress.Bd x) : x.fName.length ≤ maxW := by cases h; assumption

theorem TAddress.Bd.bKey {x : TAddress} (h : TAddress.Bd x) : TKey.Bd x.fKey := by cases h; assumption

theorem TAddress.dec (n : Nat) : (∀ cs, WTf tt n 27 cs → ∃ x : TAddress, cs = TAddress.cs x ∧ TAddress.Bd x) := by
  induction n using Nat.strongRecOn with
  | _ n ih =>
  have ih_TAddress : ∀ m, m < n → (∀ cs, WTf tt m 27 cs → ∃ x : TAddress, cs = TAddress.cs x ∧ TAddress.Bd x) := fun m hm => (ih m hm)
  intro cs h
  cases n with
  | zero => exact h.elim
  | succ n =>
  have h0 := dec_struct rfl h
  obtain ⟨c0, q0, rfl, k0, h0⟩ := wts_cons h0
  obtain ⟨c1, q1, rfl, k1, h0⟩ := wts_cons h0
  obtain ⟨c2, q2, rfl, k2, h0⟩ := wts_cons h0
  obtain ⟨c3, q3, rfl, k3, h0⟩ := wts_cons h0
  obtain ⟨c4, q4, rfl, k4, h0⟩ := wts_cons h0
  have e : q4 = [] := h0
  subst e
  obtain ⟨x11, rfl, b12⟩ := dec_listN eTModuleStep (fun y => TModuleStep.Bd y) rfl k0 (fun m13 y14 hm15 k16 k17 => by
    obtain ⟨x18, e20, b19⟩ := TModuleStep.dec _ _ k16
    exact ⟨x18, (mkA_eq e20 k17).trans (TModuleStep.agg_eq _).symm, b19⟩
    )
  obtain ⟨x21, rfl⟩ := dec_bool rfl k1
  obtain ⟨x23, rfl, b24⟩ := dec_str rfl k2
  obtain ⟨x25, rfl, b26⟩ := dec_str rfl k3
  obtain ⟨x27, rfl, b28⟩ := TKey.dec _ _ k4
  exact ⟨TAddress.mk x11 x21 x23 x25 x27, rfl, .mk b12.1 b12.2 b24 b26 b28⟩

inductive Treader.Bd : Treader → Prop where
  | mk {x : Treader} (brest : x.frest.length ≤ maxW) : Treader.Bd x

theorem Treader.Bd.brest {x : Treader} (h : Treader.Bd x) : x.frest.length ≤ maxW := by cases h; assumption

theorem Treader.dec (n : Nat) : (∀ cs, WTf tt n 61 cs → ∃ x : Treader, cs = Treader.cs x ∧ Treader.Bd x) := by
  induction n using Nat.strongRecOn with
  | _ n ih =>
  have ih_Treader : ∀ m, m < n → (∀ cs, WTf tt m 61 cs → ∃ x : Treader, cs = Treader.cs x ∧ Treader.Bd x) := fun m hm => (ih m hm)
  intro cs h
  cases n with
  | zero => exact h.elim
  | succ n =>
  have h0 := dec_struct rfl h
  obtain ⟨c0, q0, rfl, k0, h0⟩ := wts_cons h0
  obtain ⟨c1, q1, rfl, k1, h0⟩ := wts_cons h0
  have e : q1 = [] := h0
  subst e
  obtain ⟨x29, rfl, b30⟩ := dec_str rfl k0
  obtain ⟨x31, rfl⟩ := dec_bool rfl k1
  exact ⟨Treader.mk x29 x31, rfl, .mk b30⟩

end Go.Ab
