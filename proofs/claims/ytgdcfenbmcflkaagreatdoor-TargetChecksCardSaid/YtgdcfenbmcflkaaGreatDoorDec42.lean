/- What bounds the data that a row reads; settled data of a struct's type is a value of it. -/
import Derived.Test.YtgdcfenbmcflkaaGreatDoorAbW
import Derived.Test.YtgdcfenbmcflkaaGreatDoorTy
import Derived.Test.YtgdcfenbmcflkaaGreatDoorDat42
set_option linter.unusedVariables false
set_option linter.unusedSimpArgs false
set_option linter.unnecessarySimpa false
namespace Go.Ab
set_option autoImplicit false

theorem dec_listN {α : Type} {tt : List (Nat × TI)} {n t s b : Nat} {cs : List PV} {z : List Value} (f : α → PV) (Q : α → Prop) {e : Nat} (hl : look tt t = some ⟨.slice e, s, b, z⟩) (h : WTf tt n t cs)
    (he : ∀ m x, m < n → WTf tt m e x.cells → x = mkE (((look tt e).map (·.k.isAgg)).getD false) x.cells → ∃ y, x = f y ∧ Q y) : ∃ l : List α, cs = [eL f l] ∧ l.length * (((look tt e).map (·.bytes)).getD 0) ≤ maxW ∧ ∀ y ∈ l, Q y := by
  cases n with
  | zero => exact h.elim
  | succ n =>
    obtain ⟨l, h1, h2, h3⟩ := dec_list f Q hl h (fun x k1 k2 => he n x (by omega) k1 k2)
    exact ⟨l, h1, h2.2, h3⟩

inductive TEdge.Bd : TEdge → Prop where
  | mk {x : TEdge} (bFrom : x.fFrom.length ≤ maxW) (bTo : x.fTo.length ≤ maxW) : TEdge.Bd x

theorem TEdge.Bd.bFrom {x : TEdge} (h : TEdge.Bd x) : x.fFrom.length ≤ maxW := by cases h; assumption

theorem TEdge.Bd.bTo {x : TEdge} (h : TEdge.Bd x) : x.fTo.length ≤ maxW := by cases h; assumption

theorem TEdge.dec (n : Nat) : (∀ cs, WTf tt n 56 cs → ∃ x : TEdge, cs = TEdge.cs x ∧ TEdge.Bd x) := by
  induction n using Nat.strongRecOn with
  | _ n ih =>
  have ih_TEdge : ∀ m, m < n → (∀ cs, WTf tt m 56 cs → ∃ x : TEdge, cs = TEdge.cs x ∧ TEdge.Bd x) := fun m hm => (ih m hm)
  intro cs h
  cases n with
  | zero => exact h.elim
  | succ n =>
  have h0 := dec_struct rfl h
  obtain ⟨c0, q0, rfl, k0, h0⟩ := wts_cons h0
  obtain ⟨c1, q1, rfl, k1, h0⟩ := wts_cons h0
  have e : q1 = [] := h0
  subst e
  obtain ⟨x1, rfl, b2⟩ := dec_str rfl k0
  obtain ⟨x3, rfl, b4⟩ := dec_str rfl k1
  exact ⟨TEdge.mk x1 x3, rfl, .mk b2 b4⟩

inductive TGraph.Bd : TGraph → Prop where
  | mk {x : TGraph} (bNodes : x.fNodes.length * 16 ≤ maxW) (eNodes : ∀ y ∈ x.fNodes, y.length ≤ maxW) (bEdges : x.fEdges.length * 32 ≤ maxW) (eEdges : ∀ y ∈ x.fEdges, TEdge.Bd y) : TGraph.Bd x

theorem TGraph.Bd.bNodes {x : TGraph} (h : TGraph.Bd x) : x.fNodes.length * 16 ≤ maxW := by cases h; assumption

theorem TGraph.Bd.eNodes {x : TGraph} (h : TGraph.Bd x) : ∀ y ∈ x.fNodes, y.length ≤ maxW := by cases h; assumption

theorem TGraph.Bd.bEdges {x : TGraph} (h : TGraph.Bd x) : x.fEdges.length * 32 ≤ maxW := by cases h; assumption

theorem TGraph.Bd.eEdges {x : TGraph} (h : TGraph.Bd x) : ∀ y ∈ x.fEdges, TEdge.Bd y := by cases h; assumption

theorem TGraph.dec (n : Nat) : (∀ cs, WTf tt n 32 cs → ∃ x : TGraph, cs = TGraph.cs x ∧ TGraph.Bd x) := by
  induction n using Nat.strongRecOn with
  | _ n ih =>
  have ih_TGraph : ∀ m, m < n → (∀ cs, WTf tt m 32 cs → ∃ x : TGraph, cs = TGraph.cs x ∧ TGraph.Bd x) := fun m hm => (ih m hm)
  intro cs h
  cases n with
  | zero => exact h.elim
  | succ n =>
  have h0 := dec_struct rfl h
  obtain ⟨c0, q0, rfl, k0, h0⟩ := wts_cons h0
  obtain ⟨c1, q1, rfl, k1, h0⟩ := wts_cons h0
  have e : q1 = [] := h0
  subst e
  obtain ⟨x5, rfl, b6⟩ := dec_listN eS (fun y => y.length ≤ maxW) rfl k0 (fun m7 y8 hm9 k10 k11 => by
    obtain ⟨x12, e14, b13⟩ := dec_str rfl k10
    exact ⟨x12, mk1_eq e14 k11, b13⟩
    )
  obtain ⟨x15, rfl, b16⟩ := dec_listN eTEdge (fun y => TEdge.Bd y) rfl k1 (fun m17 y18 hm19 k20 k21 => by
    obtain ⟨x22, e24, b23⟩ := TEdge.dec _ _ k20
    exact ⟨x22, (mkA_eq e24 k21).trans (TEdge.agg_eq _).symm, b23⟩
    )
  exact ⟨TGraph.mk x5 x15, rfl, .mk b6.1 b6.2 b16.1 b16.2⟩

inductive TValue.Bd : TValue → Prop where
  | mk {x : TValue} (bKind : inR x.fKind) (bNum : inR x.fNum) (bStr : x.fStr.length ≤ maxW) (bItems : x.fItems.length * 80 ≤ maxW) (eItems : ∀ y ∈ x.fItems, TValue.Bd y) (bKeys : x.fKeys.length * 16 ≤ maxW) (eKeys : ∀ y ∈ x.fKeys, y.length ≤ maxW) : TValue.Bd x

theorem TValue.Bd.bKind {x : TValue} (h : TValue.Bd x) : inR x.fKind := by cases h; assumption

theorem TValue.Bd.bNum {x : TValue} (h : TValue.Bd x) : inR x.fNum := by cases h; assumption

theorem TValue.Bd.bStr {x : TValue} (h : TValue.Bd x) : x.fStr.length ≤ maxW := by cases h; assumption

theorem TValue.Bd.bItems {x : TValue} (h : TValue.Bd x) : x.fItems.length * 80 ≤ maxW := by cases h; assumption

theorem TValue.Bd.eItems {x : TValue} (h : TValue.Bd x) : ∀ y ∈ x.fItems, TValue.Bd y := by cases h; assumption

theorem TValue.Bd.bKeys {x : TValue} (h : TValue.Bd x) : x.fKeys.length * 16 ≤ maxW := by cases h; assumption

theorem TValue.Bd.eKeys {x : TValue} (h : TValue.Bd x) : ∀ y ∈ x.fKeys, y.length ≤ maxW := by cases h; assumption

theorem TValue.dec (n : Nat) : (∀ cs, WTf tt n 45 cs → ∃ x : TValue, cs = TValue.cs x ∧ TValue.Bd x) := by
  induction n using Nat.strongRecOn with
  | _ n ih =>
  have ih_TValue : ∀ m, m < n → (∀ cs, WTf tt m 45 cs → ∃ x : TValue, cs = TValue.cs x ∧ TValue.Bd x) := fun m hm => (ih m hm)
  intro cs h
  cases n with
  | zero => exact h.elim
  | succ n =>
  have h0 := dec_struct rfl h
  obtain ⟨c0, q0, rfl, k0, h0⟩ := wts_cons h0
  obtain ⟨c1, q1, rfl, k1, h0⟩ := wts_cons h0
  obtain ⟨c2, q2, rfl, k2, h0⟩ := wts_cons h0
  obtain ⟨c3, q3, rfl, k3, h0⟩ := wts_cons h0
  obtain ⟨c4, q4, rfl, k4, h0⟩ := wts_cons h0
  have e : q4 = [] := h0
  subst e
  obtain ⟨x25, rfl, b26⟩ := dec_i64 rfl k0
  obtain ⟨x27, rfl, b28⟩ := dec_i64 rfl k1
  obtain ⟨x29, rfl, b30⟩ := dec_str rfl k2
  obtain ⟨x31, rfl, b32⟩ := dec_listN eTValue (fun y => TValue.Bd y) rfl k3 (fun m33 y34 hm35 k36 k37 => by
    obtain ⟨x38, e40, b39⟩ := ih_TValue _ (by omega) _ k36
    exact ⟨x38, (mkA_eq e40 k37).trans (TValue.agg_eq _).symm, b39⟩
    )
  obtain ⟨x41, rfl, b42⟩ := dec_listN eS (fun y => y.length ≤ maxW) rfl k4 (fun m43 y44 hm45 k46 k47 => by
    obtain ⟨x48, e50, b49⟩ := dec_str rfl k46
    exact ⟨x48, mk1_eq e50 k47, b49⟩
    )
  exact ⟨TValue.mk x25 x27 x29 x31 x41, rfl, .mk b26 b28 b30 b32.1 b32.2 b42.1 b42.2⟩

inductive TChange.Bd : TChange → Prop where
  | mk {x : TChange} (bAddr : x.fAddr.length ≤ maxW) (bDeposed : x.fDeposed.length ≤ maxW) (bType : x.fType.length ≤ maxW) (bAction : inR x.fAction) (bReason : inR x.fReason) (bBefore : TValue.Bd x.fBefore) (bAfter : TValue.Bd x.fAfter) (bID : x.fID.length ≤ maxW) (bReplace : x.fReplace.length * 16 ≤ maxW) (eReplace : ∀ y ∈ x.fReplace, y.length ≤ maxW) (bDeps : x.fDeps.length * 16 ≤ maxW) (eDeps : ∀ y ∈ x.fDeps, y.length ≤ maxW) (bOldDeps : x.fOldDeps.length * 16 ≤ maxW) (eOldDeps : ∀ y ∈ x.fOldDeps, y.length ≤ maxW) : TChange.Bd x

theorem TChange.Bd.bAddr {x : TChange} (h : TChange.Bd x) : x.fAddr.length ≤ maxW := by cases h; assumption

theorem TChange.Bd.bDeposed {x : TChange} (h : TChange.Bd x) : x.fDeposed.length ≤ maxW := by cases h; assumption

theorem TChange.Bd.bType {x : TChange} (h : TChange.Bd x) : x.fType.length ≤ maxW := by cases h; assumption

theorem TChange.Bd.bAction {x : TChange} (h : TChange.Bd x) : inR x.fAction := by cases h; assumption

theorem TChange.Bd.bReason {x : TChange} (h : TChange.Bd x) : inR x.fReason := by cases h; assumption

theorem TChange.Bd.bBefore {x : TChange} (h : TChange.Bd x) : TValue.Bd x.fBefore := by cases h; assumption

theorem TChange.Bd.bAfter {x : TChange} (h : TChange.Bd x) : TValue.Bd x.fAfter := by cases h; assumption

theorem TChange.Bd.bID {x : TChange} (h : TChange.Bd x) : x.fID.length ≤ maxW := by cases h; assumption

theorem TChange.Bd.bReplace {x : TChange} (h : TChange.Bd x) : x.fReplace.length * 16 ≤ maxW := by cases h; assumption

theorem TChange.Bd.eReplace {x : TChange} (h : TChange.Bd x) : ∀ y ∈ x.fReplace, y.length ≤ maxW := by cases h; assumption

theorem TChange.Bd.bDeps {x : TChange} (h : TChange.Bd x) : x.fDeps.length * 16 ≤ maxW := by cases h; assumption

theorem TChange.Bd.eDeps {x : TChange} (h : TChange.Bd x) : ∀ y ∈ x.fDeps, y.length ≤ maxW := by cases h; assumption

theorem TChange.Bd.bOldDeps {x : TChange} (h : TChange.Bd x) : x.fOldDeps.length * 16 ≤ maxW := by cases h; assumption

theorem TChange.Bd.eOldDeps {x : TChange} (h : TChange.Bd x) : ∀ y ∈ x.fOldDeps, y.length ≤ maxW := by cases h; assumption

theorem TChange.dec (n : Nat) : (∀ cs, WTf tt n 47 cs → ∃ x : TChange, cs = TChange.cs x ∧ TChange.Bd x) := by
  induction n using Nat.strongRecOn with
  | _ n ih =>
  have ih_TChange : ∀ m, m < n → (∀ cs, WTf tt m 47 cs → ∃ x : TChange, cs = TChange.cs x ∧ TChange.Bd x) := fun m hm => (ih m hm)
  intro cs h
  cases n with
  | zero => exact h.elim
  | succ n =>
  have h0 := dec_struct rfl h
  obtain ⟨c0, q0, rfl, k0, h0⟩ := wts_cons h0
  obtain ⟨c1, q1, rfl, k1, h0⟩ := wts_cons h0
  obtain ⟨c2, q2, rfl, k2, h0⟩ := wts_cons h0
  obtain ⟨c3, q3, rfl, k3, h0⟩ := wts_cons h0
  obtain ⟨c4, q4, rfl, k4, h0⟩ := wts_cons h0
  obtain ⟨c5, q5, rfl, k5, h0⟩ := wts_cons h0
  obtain ⟨c6, q6, rfl, k6, h0⟩ := wts_cons h0
  obtain ⟨c7, q7, rfl, k7, h0⟩ := wts_cons h0
  obtain ⟨c8, q8, rfl, k8, h0⟩ := wts_cons h0
  obtain ⟨c9, q9, rfl, k9, h0⟩ := wts_cons h0
  obtain ⟨c10, q10, rfl, k10, h0⟩ := wts_cons h0
  obtain ⟨c11, q11, rfl, k11, h0⟩ := wts_cons h0
  obtain ⟨c12, q12, rfl, k12, h0⟩ := wts_cons h0
  obtain ⟨c13, q13, rfl, k13, h0⟩ := wts_cons h0
  have e : q13 = [] := h0
  subst e
  obtain ⟨x51, rfl, b52⟩ := dec_str rfl k0
  obtain ⟨x53, rfl, b54⟩ := dec_str rfl k1
  obtain ⟨x55, rfl, b56⟩ := dec_str rfl k2
  obtain ⟨x57, rfl, b58⟩ := dec_i64 rfl k3
  obtain ⟨x59, rfl, b60⟩ := dec_i64 rfl k4
  obtain ⟨x61, rfl, b62⟩ := TValue.dec _ _ k5
  obtain ⟨x63, rfl, b64⟩ := TValue.dec _ _ k6
  obtain ⟨x65, rfl, b66⟩ := dec_str rfl k7
  obtain ⟨x67, rfl, b68⟩ := dec_listN eS (fun y => y.length ≤ maxW) rfl k8 (fun m69 y70 hm71 k72 k73 => by
    obtain ⟨x74, e76, b75⟩ := dec_str rfl k72
    exact ⟨x74, mk1_eq e76 k73, b75⟩
    )
  obtain ⟨x77, rfl⟩ := dec_bool rfl k9
  obtain ⟨x79, rfl⟩ := dec_bool rfl k10
  obtain ⟨x81, rfl⟩ := dec_bool rfl k11
  obtain ⟨x83, rfl, b84⟩ := dec_listN eS (fun y => y.length ≤ maxW) rfl k12 (fun m85 y86 hm87 k88 k89 => by
    obtain ⟨x90, e92, b91⟩ := dec_str rfl k88
    exact ⟨x90, mk1_eq e92 k89, b91⟩
    )
  obtain ⟨x93, rfl, b94⟩ := dec_listN eS (fun y => y.length ≤ maxW) rfl k13 (fun m95 y96 hm97 k98 k99 => by
    obtain ⟨x100, e102, b101⟩ := dec_str rfl k98
    exact ⟨x100, mk1_eq e102 k99, b101⟩
    )
  exact ⟨TChange.mk x51 x53 x55 x57 x59 x61 x63 x65 x67 x77 x79 x81 x83 x93, rfl, .mk b52 b54 b56 b58 b60 b62 b64 b66 b68.1 b68.2 b84.1 b84.2 b94.1 b94.2⟩

inductive Tchooser.Bd : Tchooser → Prop where
  | mk {x : Tchooser} (bchanges : x.fchanges.length * 320 ≤ maxW) (echanges : ∀ y ∈ x.fchanges, TChange.Bd y) (bresources : x.fresources.length * 16 ≤ maxW) (eresources : ∀ y ∈ x.fresources, y.length ≤ maxW) (bchosen : x.fchosen.length * 1 ≤ maxW) (btodo : x.ftodo.length * 8 ≤ maxW) (etodo : ∀ y ∈ x.ftodo, inR y) : Tchooser.Bd x

theorem Tchooser.Bd.bchanges {x : Tchooser} (h : Tchooser.Bd x) : x.fchanges.length * 320 ≤ maxW := by cases h; assumption

theorem Tchooser.Bd.echanges {x : Tchooser} (h : Tchooser.Bd x) : ∀ y ∈ x.fchanges, TChange.Bd y := by cases h; assumption

theorem Tchooser.Bd.bresources {x : Tchooser} (h : Tchooser.Bd x) : x.fresources.length * 16 ≤ maxW := by cases h; assumption

theorem Tchooser.Bd.eresources {x : Tchooser} (h : Tchooser.Bd x) : ∀ y ∈ x.fresources, y.length ≤ maxW := by cases h; assumption

theorem Tchooser.Bd.bchosen {x : Tchooser} (h : Tchooser.Bd x) : x.fchosen.length * 1 ≤ maxW := by cases h; assumption

theorem Tchooser.Bd.btodo {x : Tchooser} (h : Tchooser.Bd x) : x.ftodo.length * 8 ≤ maxW := by cases h; assumption

theorem Tchooser.Bd.etodo {x : Tchooser} (h : Tchooser.Bd x) : ∀ y ∈ x.ftodo, inR y := by cases h; assumption

theorem Tchooser.dec (n : Nat) : (∀ cs, WTf tt n 65 cs → ∃ x : Tchooser, cs = Tchooser.cs x ∧ Tchooser.Bd x) := by
  induction n using Nat.strongRecOn with
  | _ n ih =>
  have ih_Tchooser : ∀ m, m < n → (∀ cs, WTf tt m 65 cs → ∃ x : Tchooser, cs = Tchooser.cs x ∧ Tchooser.Bd x) := fun m hm => (ih m hm)
  intro cs h
  cases n with
  | zero => exact h.elim
  | succ n =>
  have h0 := dec_struct rfl h
  obtain ⟨c0, q0, rfl, k0, h0⟩ := wts_cons h0
  obtain ⟨c1, q1, rfl, k1, h0⟩ := wts_cons h0
  obtain ⟨c2, q2, rfl, k2, h0⟩ := wts_cons h0
  obtain ⟨c3, q3, rfl, k3, h0⟩ := wts_cons h0
  have e : q3 = [] := h0
  subst e
  obtain ⟨x103, rfl, b104⟩ := dec_listN eTChange (fun y => TChange.Bd y) rfl k0 (fun m105 y106 hm107 k108 k109 => by
    obtain ⟨x110, e112, b111⟩ := TChange.dec _ _ k108
    exact ⟨x110, (mkA_eq e112 k109).trans (TChange.agg_eq _).symm, b111⟩
    )
  obtain ⟨x113, rfl, b114⟩ := dec_listN eS (fun y => y.length ≤ maxW) rfl k1 (fun m115 y116 hm117 k118 k119 => by
    obtain ⟨x120, e122, b121⟩ := dec_str rfl k118
    exact ⟨x120, mk1_eq e122 k119, b121⟩
    )
  obtain ⟨x123, rfl, b124⟩ := dec_listN eB (fun y => True) rfl k2 (fun m125 y126 hm127 k128 k129 => by
    obtain ⟨x130, e132⟩ := dec_bool rfl k128
    exact ⟨x130, mk1_eq e132 k129, trivial⟩
    )
  obtain ⟨x133, rfl, b134⟩ := dec_listN eI (fun y => inR y) rfl k3 (fun m135 y136 hm137 k138 k139 => by
    obtain ⟨x140, e142, b141⟩ := dec_i64 rfl k138
    exact ⟨x140, mk1_eq e142 k139, b141⟩
    )
  exact ⟨Tchooser.mk x103 x113 x123 x133, rfl, .mk b104.1 b104.2 b114.1 b114.2 b124.1 b134.1 b134.2⟩

inductive TKey.Bd : TKey → Prop where
  | mk {x : TKey} (bKind : inR x.fKind) (bNum : inR x.fNum) (bStr : x.fStr.length ≤ maxW) : TKey.Bd x

theorem TKey.Bd.bKind {x : TKey} (h : TKey.Bd x) : inR x.fKind := by cases h; assumption

theorem TKey.Bd.bNum {x : TKey} (h : TKey.Bd x) : inR x.fNum := by cases h; assumption

theorem TKey.Bd.bStr {x : TKey} (h : TKey.Bd x) : x.fStr.length ≤ maxW := by cases h; assumption

theorem TKey.dec (n : Nat) : (∀ cs, WTf tt n 78 cs → ∃ x : TKey, cs = TKey.cs x ∧ TKey.Bd x) := by
  induction n using Nat.strongRecOn with
  | _ n ih =>
  have ih_TKey : ∀ m, m < n → (∀ cs, WTf tt m 78 cs → ∃ x : TKey, cs = TKey.cs x ∧ TKey.Bd x) := fun m hm => (ih m hm)
  intro cs h
  cases n with
  | zero => exact h.elim
  | succ n =>
  have h0 := dec_struct rfl h
  obtain ⟨c0, q0, rfl, k0, h0⟩ := wts_cons h0
  obtain ⟨c1, q1, rfl, k1, h0⟩ := wts_cons h0
  obtain ⟨c2, q2, rfl, k2, h0⟩ := wts_cons h0
  have e : q2 = [] := h0
  subst e
  obtain ⟨x143, rfl, b144⟩ := dec_i64 rfl k0
  obtain ⟨x145, rfl, b146⟩ := dec_i64 rfl k1
  obtain ⟨x147, rfl, b148⟩ := dec_str rfl k2
  exact ⟨TKey.mk x143 x145 x147, rfl, .mk b144 b146 b148⟩

inductive TModuleStep.Bd : TModuleStep → Prop where
  | mk {x : TModuleStep} (bName : x.fName.length ≤ maxW) (bKey : TKey.Bd x.fKey) : TModuleStep.Bd x

theorem TModuleStep.Bd.bName {x : TModuleStep} (h : TModuleStep.Bd x) : x.fName.length ≤ maxW := by cases h; assumption

theorem TModuleStep.Bd.bKey {x : TModuleStep} (h : TModuleStep.Bd x) : TKey.Bd x.fKey := by cases h; assumption

theorem TModuleStep.dec (n : Nat) : (∀ cs, WTf tt n 101 cs → ∃ x : TModuleStep, cs = TModuleStep.cs x ∧ TModuleStep.Bd x) := by
  induction n using Nat.strongRecOn with
  | _ n ih =>
  have ih_TModuleStep : ∀ m, m < n → (∀ cs, WTf tt m 101 cs → ∃ x : TModuleStep, cs = TModuleStep.cs x ∧ TModuleStep.Bd x) := fun m hm => (ih m hm)
  intro cs h
  cases n with
  | zero => exact h.elim
  | succ n =>
  have h0 := dec_struct rfl h
  obtain ⟨c0, q0, rfl, k0, h0⟩ := wts_cons h0
  obtain ⟨c1, q1, rfl, k1, h0⟩ := wts_cons h0
  have e : q1 = [] := h0
  subst e
  obtain ⟨x149, rfl, b150⟩ := dec_str rfl k0
  obtain ⟨x151, rfl, b152⟩ := TKey.dec _ _ k1
  exact ⟨TModuleStep.mk x149 x151, rfl, .mk b150 b152⟩

inductive TAddress.Bd : TAddress → Prop where
  | mk {x : TAddress} (bModule : x.fModule.length * 48 ≤ maxW) (eModule : ∀ y ∈ x.fModule, TModuleStep.Bd y) (bType : x.fType.length ≤ maxW) (bName : x.fName.length ≤ maxW) (bKey : TKey.Bd x.fKey) : TAddress.Bd x

theorem TAddress.Bd.bModule {x : TAddress} (h : TAddress.Bd x) : x.fModule.length * 48 ≤ maxW := by cases h; assumption

theorem TAddress.Bd.eModule {x : TAddress} (h : TAddress.Bd x) : ∀ y ∈ x.fModule, TModuleStep.Bd y := by cases h; assumption

theorem TAddress.Bd.bType {x : TAddress} (h : TAddress.Bd x) : x.fType.length ≤ maxW := by cases h; assumption

theorem TAddress.Bd.bName {x : TAddress} (h : TAddress.Bd x) : x.fName.length ≤ maxW := by cases h; assumption

theorem TAddress.Bd.bKey {x : TAddress} (h : TAddress.Bd x) : TKey.Bd x.fKey := by cases h; assumption

theorem TAddress.dec (n : Nat) : (∀ cs, WTf tt n 80 cs → ∃ x : TAddress, cs = TAddress.cs x ∧ TAddress.Bd x) := by
  induction n using Nat.strongRecOn with
  | _ n ih =>
  have ih_TAddress : ∀ m, m < n → (∀ cs, WTf tt m 80 cs → ∃ x : TAddress, cs = TAddress.cs x ∧ TAddress.Bd x) := fun m hm => (ih m hm)
  intro cs h
  cases n with
  | zero => exact h.elim
  | succ n =>
  have h0 := dec_struct rfl h
  obtain ⟨c0, q0, rfl, k0, h0⟩ := wts_cons h0
  obtain ⟨c1, q1, rfl, k1, h0⟩ := wts_cons h0
  obtain ⟨c2, q2, rfl, k2, h0⟩ := wts_cons h0
  obtain ⟨c3, q3, rfl, k3, h0⟩ := wts_cons h0
  obtain ⟨c4, q4, rfl, k4, h0⟩ := wts_cons h0
  have e : q4 = [] := h0
  subst e
  obtain ⟨x153, rfl, b154⟩ := dec_listN eTModuleStep (fun y => TModuleStep.Bd y) rfl k0 (fun m155 y156 hm157 k158 k159 => by
    obtain ⟨x160, e162, b161⟩ := TModuleStep.dec _ _ k158
    exact ⟨x160, (mkA_eq e162 k159).trans (TModuleStep.agg_eq _).symm, b161⟩
    )
  obtain ⟨x163, rfl⟩ := dec_bool rfl k1
  obtain ⟨x165, rfl, b166⟩ := dec_str rfl k2
  obtain ⟨x167, rfl, b168⟩ := dec_str rfl k3
  obtain ⟨x169, rfl, b170⟩ := TKey.dec _ _ k4
  exact ⟨TAddress.mk x153 x163 x165 x167 x169, rfl, .mk b154.1 b154.2 b166 b168 b170⟩

inductive Treader.Bd : Treader → Prop where
  | mk {x : Treader} (brest : x.frest.length ≤ maxW) : Treader.Bd x

theorem Treader.Bd.brest {x : Treader} (h : Treader.Bd x) : x.frest.length ≤ maxW := by cases h; assumption

theorem Treader.dec (n : Nat) : (∀ cs, WTf tt n 98 cs → ∃ x : Treader, cs = Treader.cs x ∧ Treader.Bd x) := by
  induction n using Nat.strongRecOn with
  | _ n ih =>
  have ih_Treader : ∀ m, m < n → (∀ cs, WTf tt m 98 cs → ∃ x : Treader, cs = Treader.cs x ∧ Treader.Bd x) := fun m hm => (ih m hm)
  intro cs h
  cases n with
  | zero => exact h.elim
  | succ n =>
  have h0 := dec_struct rfl h
  obtain ⟨c0, q0, rfl, k0, h0⟩ := wts_cons h0
  obtain ⟨c1, q1, rfl, k1, h0⟩ := wts_cons h0
  have e : q1 = [] := h0
  subst e
  obtain ⟨x171, rfl, b172⟩ := dec_str rfl k0
  obtain ⟨x173, rfl⟩ := dec_bool rfl k1
  exact ⟨Treader.mk x171 x173, rfl, .mk b172⟩

inductive TPlace.Bd : TPlace → Prop where
  | mk {x : TPlace} (bAddr : TAddress.Bd x.fAddr) : TPlace.Bd x

theorem TPlace.Bd.bAddr {x : TPlace} (h : TPlace.Bd x) : TAddress.Bd x.fAddr := by cases h; assumption

theorem TPlace.dec (n : Nat) : (∀ cs, WTf tt n 118 cs → ∃ x : TPlace, cs = TPlace.cs x ∧ TPlace.Bd x) := by
  induction n using Nat.strongRecOn with
  | _ n ih =>
  have ih_TPlace : ∀ m, m < n → (∀ cs, WTf tt m 118 cs → ∃ x : TPlace, cs = TPlace.cs x ∧ TPlace.Bd x) := fun m hm => (ih m hm)
  intro cs h
  cases n with
  | zero => exact h.elim
  | succ n =>
  have h0 := dec_struct rfl h
  obtain ⟨c0, q0, rfl, k0, h0⟩ := wts_cons h0
  obtain ⟨c1, q1, rfl, k1, h0⟩ := wts_cons h0
  have e : q1 = [] := h0
  subst e
  obtain ⟨x175, rfl, b176⟩ := TAddress.dec _ _ k0
  obtain ⟨x177, rfl⟩ := dec_bool rfl k1
  exact ⟨TPlace.mk x175 x177, rfl, .mk b176⟩

end Go.Ab
