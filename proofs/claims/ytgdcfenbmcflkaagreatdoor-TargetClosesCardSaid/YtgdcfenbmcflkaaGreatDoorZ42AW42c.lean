/- The statement TargetCloses is proved, and its tied card: for all inputs that are Go values of the law's parameters' types, the law returns true and never panics. No further condition. -/
import Derived.Test.YtgdcfenbmcflkaaGreatDoorCards
import Derived.Test.YtgdcfenbmcflkaaGreatDoorTie
import Derived.WalkKit
import Derived.SizedLaws
import Derived.ProofKit
import Derived.OpenShut
import Derived.ShutString
import Derived.LaidMore
import Derived.Stop.Joined
import Derived.Deep.DeepHandedRow
import Derived.Deep.DeepWitnessRowRef
import Derived.Test.YtgdcfenbmcflkaaGreatDoorZ42Aa
import Derived.Test.YtgdcfenbmcflkaaGreatDoorZ42Ab
import Derived.Test.YtgdcfenbmcflkaaGreatDoorZ42Ac
import Derived.Test.YtgdcfenbmcflkaaGreatDoorZ42Ad
import Derived.Test.YtgdcfenbmcflkaaGreatDoorZ42Ae
section
set_option linter.unusedVariables false
set_option linter.unusedSimpArgs false
set_option linter.unnecessarySimpa false
namespace Go.Ab.R06
open Go.Ab Go.Ab.RB Go.Lib
theorem po : ∀ a : Bytes, Op.bytesLess a a = false
 | [] => rfl
 | a :: x => by simp [Op.bytesLess, po x]
theorem uI : ∀ {a b c : Bytes}, Op.bytesLess a b = true → Op.bytesLess b c = true → Op.bytesLess a c = true
 | _, [], _, h, _ => by simp [Op.bytesLess] at h
 | _, _ :: _, [], _, h => by simp [Op.bytesLess] at h
 | [], _ :: _, _ :: _, _, _ => rfl
 | a :: x, b :: y, c :: z, h1, h2 => by
  simp only [Op.bytesLess, Bool.or_eq_true, Bool.and_eq_true, decide_eq_true_eq, beq_iff_eq] at h1 h2 ⊢
  rcases h1 with h1 | ⟨rfl, h1⟩
  ·rcases h2 with h2 | ⟨rfl, h2⟩
   ·exact .inl (UInt8.lt_trans h1 h2)
   ·exact .inl h1
  ·rcases h2 with h2 | ⟨rfl, h2⟩
   ·exact .inl h2
   ·exact .inr ⟨rfl, uI h1 h2⟩
theorem yy : ∀ a b : Bytes, Op.bytesLess a b = true ∨ a = b ∨ Op.bytesLess b a = true
 | [], [] => .inr (.inl rfl)
 | [], _ :: _ => .inl rfl
 | _ :: _, [] => .inr (.inr rfl)
 | a :: x, b :: y => by
  simp only [Op.bytesLess, Bool.or_eq_true, Bool.and_eq_true, decide_eq_true_eq, beq_iff_eq, List.cons.injEq]
  rcases Nat.lt_trichotomy a.toNat b.toNat with h | h | h
  ·exact .inl (.inl (UInt8.lt_iff_toNat_lt.2 h))
  ·have e : a = b := UInt8.toNat_inj.1 h
   subst e
   rcases yy x y with h | h | h
   ·exact .inl (.inr ⟨rfl, h⟩)
   ·exact .inr (.inl ⟨rfl, h⟩)
   ·exact .inr (.inr (.inr ⟨rfl, h⟩))
  ·exact .inr (.inr (.inl (UInt8.lt_iff_toNat_lt.2 h)))
def Asc (l : List Bytes) : Prop := l.Pairwise fun a b => Op.bytesLess a b = true
theorem tr : ∀ {a b : List Bytes}, Asc a → Asc b → (∀ x, x ∈ a ↔ x ∈ b) → a = b
 | [], [], _, _, _ => rfl
 | [], y :: b, _, _, h => by have := (h y).2 (List.mem_cons_self ..); cases this
 | x :: a, [], _, _, h => by have := (h x).1 (List.mem_cons_self ..); cases this
 | x :: a, y :: b, ha, hb, h => by
  have ha' := List.pairwise_cons.1 ha
  have hb' := List.pairwise_cons.1 hb
  have e : x = y := by
   rcases List.mem_cons.1 ((h x).1 (List.mem_cons_self ..)) with e | h1
   ·exact e
   ·rcases List.mem_cons.1 ((h y).2 (List.mem_cons_self ..)) with e | h2
    ·exact e.symm
    ·have := uI (hb'.1 x h1) (ha'.1 y h2)
     rw [po] at this; cases this
  subst e
  rw [tr ha'.2 hb'.2 fun z => ?_]
  constructor
  ·intro hz
   rcases List.mem_cons.1 ((h z).1 (List.mem_cons_of_mem _ hz)) with e | h1
   ·subst e; have := ha'.1 z hz; rw [po] at this; cases this
   ·exact h1
  ·intro hz
   rcases List.mem_cons.1 ((h z).2 (List.mem_cons_of_mem _ hz)) with e | h1
   ·subst e; have := hb'.1 z hz; rw [po] at this; cases this
   ·exact h1
theorem oW {α : Type} : ∀ (L : List (Bytes × α)) (k : Bytes) (v : α) (k' : Bytes), bZ (gU L k v) k' = if k = k' then some v else bZ L k'
 | [], k, v, k' => by simp [gU, bZ]
 | (j, u) :: r, k, v, k' => by
  simp only [gU]
  by_cases e : j = k
  ·subst e; rw [if_pos rfl]; simp only [bZ]
   by_cases e2 : j = k' <;> simp [e2]
  ·rw [if_neg e]; simp only [bZ]
   rw [oW r k v k']
   by_cases e2 : j = k'
   ·subst e2; simp [show ¬ k = j from fun q => e q.symm]
   ·simp [e2]
def iG (es : List b8) (x : Bytes) : List Bytes := (es.filter fun e => decide (e.fFrom = x)).map b8.fTo
def nxS (m : List (Bytes × List Bytes)) (e : b8) : List (Bytes × List Bytes) := gU m e.fFrom ((bZ m e.fFrom).getD [] ++ [e.fTo])
theorem wA : ∀ (es : List b8) (m : List (Bytes × List Bytes)) (x : Bytes), (bZ (es.foldl nxS m) x).getD [] = (bZ m x).getD [] ++ iG es x
 | [], m, x => by simp [iG]
 | e :: es, m, x => by
  rw [List.foldl_cons, wA es]
  unfold nxS iG
  rw [oW, List.filter_cons]
  by_cases h : e.fFrom = x
  ·subst h; simp
  ·simp [h]
theorem zn (es : List b8) (x : Bytes) : (iG es x).length ≤ es.length := by
 unfold iG; rw [List.length_map]; exact List.length_filter_le ..
theorem Ag (g : aO) (hb : g.fEdges.length ≤ 100) : ∀ (k i : Nat) (out : List (Bytes × List Bytes)), i + k = g.fEdges.length → (∀ x, ((bZ out x).getD []).length ≤ i) → Ev2 (fun _ m => dJ g m out (i : Int)) (· = (g.fEdges.drop i).foldl nxS out) := by
 intro k
 induction k with
 | zero =>
  intro i out hi ho
  refine ax ?_
  simp only [dJ]
  exact aC (by omega) (ab (by rw [List.drop_of_length_le (by omega)]; rfl))
 | succ k ih =>
  intro i out hi ho
  have h1 : i < g.fEdges.length := by omega
  refine ax ?_
  simp only [dJ]
  refine av (by omega) (am (by omega) ?_)
  rw [bS _ _ h1, List.drop_eq_getElem_cons h1, List.foldl_cons]
  refine am ?_ (am (br (by omega) (by omega)) ?_)
  ·have := ho g.fEdges[i].fFrom
   simp only [List.length_cons, List.length_nil]; omega
  ·have := ih (i + 1) (nxS out g.fEdges[i]) (by omega) (fun x => by
    unfold nxS
    rw [oW]
    have h2 := ho g.fEdges[i].fFrom
    have h3 := ho x
    split
    ·simp only [Option.getD_some, List.length_append, List.length_cons, List.length_nil]; omega
    ·omega)
   rw [Int.natCast_add, Int.natCast_one] at this
   exact this
theorem zZ (g : aO) (hb : g.fEdges.length ≤ 100) : Ev2 (fun n _ => gR n g) (fun m => ∀ x, (bZ m x).getD [] = iG g.fEdges x) := by
 simp only [gR]
 have l1 := Ag g hb g.fEdges.length 0 [] (by omega) (fun x => by simp [bZ])
 refine bu _ (a7 l1) (ab fun x => ?_)
 rw [List.drop_zero, wA]; rfl
def inS (m : List (Bytes × Bool)) (x : Bytes) : Bool := (bZ m x).getD false
theorem om (m : List (Bytes × Bool)) (s x : Bytes) : inS (gU m s true) x = (decide (s = x) || inS m x) := by
 unfold inS; rw [oW]
 by_cases h : s = x <;> simp [h]
theorem BU (l : List Bytes) (hb : l.length ≤ cg) : ∀ (k i : Nat) (out : List (Bytes × Bool)), i + k = l.length → Ev2 (fun _ m => dY l m out (i : Int)) (fun r => ∀ x, inS r x = true ↔ inS out x = true ∨ x ∈ l.drop i) := by
 have hW := kP
 intro k
 induction k with
 | zero =>
  intro i out hi
  refine ax ?_
  simp only [dY]
  exact aC (by omega) (ab (fun x => by rw [List.drop_of_length_le (by omega)]; simp))
 | succ k ih =>
  intro i out hi
  have h1 : i < l.length := by omega
  refine ax ?_
  simp only [dY]
  refine av (by omega) (am (by omega) (am (br (by omega) (by omega)) ?_))
  rw [bS _ _ h1, List.drop_eq_getElem_cons h1]
  have := ih (i + 1) (gU out l[i] true) (by omega)
  rw [Int.natCast_add, Int.natCast_one] at this
  refine dM this fun r hr x => ?_
  rw [hr x, om, List.mem_cons, Bool.or_eq_true, decide_eq_true_eq]
  constructor
  ·rintro ((h | h) | h)
   ·exact .inr (.inl h.symm)
   ·exact .inl h
   ·exact .inr (.inr h)
  ·rintro (h | h | h)
   ·exact .inl (.inr h)
   ·exact .inl (.inl h.symm)
   ·exact .inr h
theorem zh (l : List Bytes) (hb : l.length ≤ cg) : Ev2 (fun n _ => hQ n l) (fun r => ∀ x, inS r x = true ↔ x ∈ l) := by
 simp only [hQ]
 refine bQ _ (a7 (BU l hb l.length 0 [] (by omega))) (fun r hr => ab fun x => ?_)
 rw [hr x, List.drop_zero]
 simp [inS, bZ]
theorem zO (l : List Bytes) (q : List (Bytes × Bool)) (hb : l.length ≤ 100000) : ∀ (k i : Nat) (out : List Bytes), i + k = l.length → out.length ≤ i → Ev2 (fun _ m => dK l q m out (i : Int)) (· = out ++ (l.drop i).filter (inS q)) := by
 intro k
 induction k with
 | zero =>
  intro i out hi ho
  refine ax ?_
  simp only [dK]
  exact aC (by omega) (ab (by rw [List.drop_of_length_le (by omega)]; simp))
 | succ k ih =>
  intro i out hi ho
  have h1 : i < l.length := by omega
  refine ax ?_
  simp only [dK]
  refine av (by omega) ?_
  rw [bS _ _ h1, List.drop_eq_getElem_cons h1, List.filter_cons]
  have hq : (bZ q l[i]).getD false = inS q l[i] := rfl
  rw [hq]
  refine bQ (· = out ++ if inS q l[i] = true then [l[i]] else []) (am (by omega) (aN (fun h => am (by simp only [List.length_cons, List.length_nil]; omega) (ab (by rw [if_pos h]))) (fun h => ab (by rw [if_neg h, List.append_nil])))) (fun x hx => ?_)
  subst hx
  refine am (br (by omega) (by omega)) ?_
  have := ih (i + 1) (out ++ if inS q l[i] = true then [l[i]] else []) (by omega) (by
   rw [List.length_append]
   split <;> simp <;> omega)
  rw [Int.natCast_add, Int.natCast_one] at this
  refine dM this fun r hr => ?_
  rw [hr]
  split <;> simp
theorem ws (l : List Bytes) (q : List (Bytes × Bool)) (hb : l.length ≤ 100000) : Ev2 (fun n _ => gq n l q) (· = l.filter (inS q)) := by
 simp only [gq]
 exact bu _ (a7 (zO l q hb l.length 0 [] (by omega) (Nat.le_refl _))) (ab (by rw [List.drop_zero, List.nil_append]))
inductive Rg (es : List b8) (S : Bytes → Prop) : Bytes → Prop where
 | base {x : Bytes} (h : S x) : Rg es S x
 | step {x y : Bytes} (h : Rg es S x) (hy : y ∈ iG es x) : Rg es S y
theorem Rg.mono {es : List b8} {S T : Bytes → Prop} (h : ∀ x, S x → Rg es T x) {x : Bytes} (hx : Rg es S x) : Rg es T x := by
 induction hx with
 | base h0 => exact h _ h0
 | step _ hy ih => exact .step ih hy
def push (st : List (Bytes × Bool) × List Bytes) (x : Bytes) : List (Bytes × Bool) × List Bytes := if inS st.1 x = true then st else (gU st.1 x true, st.2 ++ [x])
theorem AA {sn : List (Bytes × Bool)} {t : List Bytes} {x : Bytes} (h : inS sn x = false) : push (sn, t) x = (gU sn x true, t ++ [x]) := by unfold push; rw [if_neg (by simp [h])]
theorem zB {sn : List (Bytes × Bool)} {t : List Bytes} {x : Bytes} (h : inS sn x = true) : push (sn, t) x = (sn, t) := by unfold push; rw [if_pos h]
theorem zF (st : List (Bytes × Bool) × List Bytes) (x : Bytes) : (push st x).2.length ≤ st.2.length + 1 := by
 unfold push; split <;> simp
theorem yf (tq : List (Bytes × List Bytes)) (td : List Bytes) (L : List Bytes) (hL : (bZ tq (lat td ((td.length : Int) - 1))).getD [] = L) (hb : L.length ≤ 1000) : ∀ (k i : Nat) (sn : List (Bytes × Bool)) (t : List Bytes), i + k = L.length → t.length ≤ 1000000 + i → Ev2 (fun _ m => cJ tq td m sn t (i : Int)) (· = (L.drop i).foldl push (sn, t)) := by
 intro k
 induction k with
 | zero =>
  intro i sn t hi ht
  refine ax ?_
  simp only [cJ, hL]
  exact aC (by omega) (ab (by rw [List.drop_of_length_le (by omega)]; rfl))
 | succ k ih =>
  intro i sn t hi ht
  have h1 : i < L.length := by omega
  refine ax ?_
  simp only [cJ, hL]
  refine av (by omega) ?_
  rw [bS _ _ h1, List.drop_eq_getElem_cons h1, List.foldl_cons]
  have hq : (bZ sn L[i]).getD false = inS sn L[i] := rfl
  rw [hq]
  refine bQ (· = push (sn, t) L[i]) (am (by omega) ?_) (fun x hx => ?_)
  ·unfold push
   cases hc : inS sn L[i]
   ·exact av rfl (am (by simp only [List.length_cons, List.length_nil]; omega) (ab rfl))
   ·exact aC (by decide) (ab rfl)
  ·subst hx
   refine am (br (by omega) (by omega)) ?_
   have hl := zF (sn, t) L[i]
   have := ih (i + 1) (push (sn, t) L[i]).1 (push (sn, t) L[i]).2 (by omega) (by simp only at hl; omega)
   rw [Int.natCast_add, Int.natCast_one] at this
   exact this
def uns (U : List Bytes) (sn : List (Bytes × Bool)) : Nat := (U.filter fun y => !(inS sn y)).length
theorem zP : ∀ (U : List Bytes) (sn : List (Bytes × Bool)) (x : Bytes), x ∈ U → inS sn x = false → uns U (gU sn x true) + 1 ≤ uns U sn := by
 have le : ∀ (U : List Bytes) (sn : List (Bytes × Bool)) (x : Bytes), uns U (gU sn x true) ≤ uns U sn := by
  intro U sn x
  induction U with
  | nil => exact Nat.le_refl _
  | cons y U ih =>
   unfold uns at ih ⊢
   rw [List.filter_cons, List.filter_cons, om]
   cases hy : inS sn y
   ·cases hd : decide (x = y) <;> simp <;> omega
   ·cases hd : decide (x = y) <;> simp <;> omega
 intro U sn x hx hs
 induction U with
 | nil => cases hx
 | cons y U ih =>
  have h2 := le U sn x
  unfold uns at ih h2 ⊢
  rw [List.filter_cons, List.filter_cons, om]
  by_cases e : x = y
  ·subst e
   rw [hs]; simp; omega
  ·have := ih ((List.mem_cons.1 hx).resolve_left e)
   cases hy : inS sn y
   ·simp [e]; omega
   ·simp [e]; omega
theorem pd (U : List Bytes) : ∀ (L : List Bytes) (sn : List (Bytes × Bool)) (t : List Bytes), (∀ y ∈ L, y ∈ U) →
  (∀ y, inS (L.foldl push (sn, t)).1 y = true ↔ inS sn y = true ∨ y ∈ L) ∧ (∀ y ∈ t, y ∈ (L.foldl push (sn, t)).2) ∧
  (∀ y ∈ (L.foldl push (sn, t)).2, y ∈ t ∨ y ∈ L) ∧ (∀ y, inS (L.foldl push (sn, t)).1 y = true → inS sn y = true ∨ y ∈ (L.foldl push (sn, t)).2) ∧
  (L.foldl push (sn, t)).2.length + uns U (L.foldl push (sn, t)).1 ≤ t.length + uns U sn
 | [], sn, t, _ => ⟨fun y => by simp, fun y h => h, fun y h => .inl h, fun y h => .inl h, Nat.le_refl _⟩
 | x :: L, sn, t, hU => by
  rw [List.foldl_cons]
  have hU' : ∀ y ∈ L, y ∈ U := fun y h => hU y (List.mem_cons_of_mem _ h)
  cases hc : inS sn x
  ·rw [AA hc]
   obtain ⟨a1, a2, a3, a4, a5⟩ := pd U L (gU sn x true) (t ++ [x]) hU'
   refine ⟨fun y => ?_, fun y h => a2 y (List.mem_append_left _ h), fun y h => ?_, fun y h => ?_, ?_⟩
   ·rw [a1 y, om, List.mem_cons, Bool.or_eq_true, decide_eq_true_eq]
    constructor
    ·rintro ((h | h) | h)
     ·exact .inr (.inl h.symm)
     ·exact .inl h
     ·exact .inr (.inr h)
    ·rintro (h | h | h)
     ·exact .inl (.inr h)
     ·exact .inl (.inl h.symm)
     ·exact .inr h
   ·rcases a3 y h with h | h
    ·rcases List.mem_append.1 h with h | h
     ·exact .inl h
     ·exact .inr (by rw [List.mem_singleton.1 h]; exact List.mem_cons_self ..)
    ·exact .inr (List.mem_cons_of_mem _ h)
   ·rcases a4 y h with h | h
    ·rw [om, Bool.or_eq_true, decide_eq_true_eq] at h
     rcases h with h | h
     ·subst h; exact .inr (a2 _ (List.mem_append_right _ (List.mem_singleton.2 rfl)))
     ·exact .inl h
    ·exact .inr h
   ·have := zP U sn x (hU x (List.mem_cons_self ..)) hc
    rw [List.length_append, List.length_singleton] at a5
    omega
  ·rw [zB hc]
   obtain ⟨a1, a2, a3, a4, a5⟩ := pd U L sn t hU'
   refine ⟨fun y => ?_, a2, fun y h => ?_, a4, a5⟩
   ·rw [a1 y, List.mem_cons]
    constructor
    ·rintro (h | h)
     ·exact .inl h
     ·exact .inr (.inr h)
    ·rintro (h | h | h)
     ·exact .inl h
     ·subst h; exact .inl hc
     ·exact .inr h
   ·rcases a3 y h with h | h
    ·exact .inl h
    ·exact .inr (List.mem_cons_of_mem _ h)
structure DfI (es : List b8) (S : Bytes → Prop) (sn : List (Bytes × Bool)) (t : List Bytes) : Prop where
 a : ∀ x, inS sn x = true → Rg es S x
 b : ∀ x, S x → inS sn x = true
 c : ∀ x ∈ t, inS sn x = true
 d : ∀ x, inS sn x = true → x ∈ t ∨ ∀ y ∈ iG es x, inS sn y = true
theorem DfI.fin {es : List b8} {S : Bytes → Prop} {sn : List (Bytes × Bool)} (h : DfI es S sn []) (x : Bytes) : inS sn x = true ↔ Rg es S x := by
 refine ⟨h.a x, fun hr => ?_⟩
 induction hr with
 | base h0 => exact h.b _ h0
 | step _ hy ih =>
  rcases h.d _ ih with h1 | h1
  ·cases h1
  ·exact h1 _ hy
theorem yz (es : List b8) (U : List Bytes) (S : Bytes → Prop) (tq : List (Bytes × List Bytes)) (hto : ∀ x, (bZ tq x).getD [] = iG es x) (he : es.length ≤ 100) (hU : ∀ x, ∀ y ∈ iG es x, y ∈ U) : ∀ (k : Nat) (sn : List (Bytes × Bool)) (t : List Bytes), t.length + uns U sn ≤ k → k ≤ 1000000 → DfI es S sn t → Ev2 (fun n m => cG n tq m sn t) (fun r => ∀ x, inS r x = true ↔ Rg es S x) := by
 intro k
 induction k with
 | zero =>
  intro sn t hk _ hI
  have ht : t = [] := List.length_eq_zero_iff.1 (by omega)
  subst ht
  refine ax ?_
  simp only [cG]
  exact aC (by decide) (ab hI.fin)
 | succ k ih =>
  intro sn t hk hK hI
  refine ax ?_
  simp only [cG]
  refine aN (fun h => ?_) (fun h => ?_)
  ·have hpos : 0 < t.length := by omega
   refine am (br (by omega) (by omega)) (am (by omega) (am (br (by omega) (by omega)) (am (by omega) ?_)))
   have hx : lat t ((t.length : Int) - 1) = t[t.length - 1] := by
    have := bS t (t.length - 1) (by omega)
    rw [← this]; congr 1; omega
   have hL : (bZ tq (lat t ((t.length : Int) - 1))).getD [] = iG es t[t.length - 1] := by rw [hx, hto]
   have hlen := zn es t[t.length - 1]
   have hi := yf tq t _ hL (by omega) (iG es t[t.length - 1]).length 0 sn (t.take ((t.length : Int) - 1).toNat) (by omega) (by rw [List.length_take]; omega)
   refine bu _ (a7 hi) ?_
   rw [List.drop_zero]
   have htk : ((t.length : Int) - 1).toNat = t.length - 1 := by omega
   rw [htk]
   obtain ⟨a1, a2, a3, a4, a5⟩ := pd U (iG es t[t.length - 1]) sn (t.take (t.length - 1)) (hU _)
   have hmem : t[t.length - 1] ∈ t := List.getElem_mem (by omega)
   have hsp : ∀ y, y ∈ t ↔ y ∈ t.take (t.length - 1) ∨ y = t[t.length - 1] := by
    intro y
    have e : t.take (t.length - 1) ++ [t[t.length - 1]] = t := by
     have := List.take_append_getElem (l := t) (i := t.length - 1) (by omega)
     rw [this, List.take_of_length_le (by omega)]
    constructor
    ·intro h; rw [← e] at h
     rcases List.mem_append.1 h with h | h
     ·exact .inl h
     ·exact .inr (List.mem_singleton.1 h)
    ·rintro (h | h)
     ·exact List.mem_of_mem_take h
     ·rw [h]; exact hmem
   refine ih _ _ ?_ (by omega) ⟨fun x hx => ?_, fun x hx => (a1 x).2 (.inl (hI.b x hx)), fun x hx => ?_, fun x hx => ?_⟩
   ·rw [List.length_take] at a5; omega
   ·rcases (a1 x).1 hx with h1 | h1
    ·exact hI.a x h1
    ·exact .step (hI.a _ (hI.c _ hmem)) h1
   ·rcases a3 x hx with h1 | h1
    ·exact (a1 x).2 (.inl (hI.c x ((hsp x).2 (.inl h1))))
    ·exact (a1 x).2 (.inr h1)
   ·rcases a4 x hx with h1 | h1
    ·rcases hI.d x h1 with h2 | h2
     ·rcases (hsp x).1 h2 with h3 | h3
      ·exact .inl (a2 x h3)
      ·subst h3; exact .inr fun y hy => (a1 y).2 (.inr hy)
     ·exact .inr fun y hy => (a1 y).2 (.inl (h2 y hy))
    ·exact .inl h1
  ·have ht : t = [] := List.length_eq_zero_iff.1 (by omega)
   subst ht
   exact ab hI.fin
theorem xW (g : aO) (from_ : List Bytes) (hn : g.fNodes.length ≤ 30) (he : g.fEdges.length ≤ 100) (hf : from_.length ≤ 100000) (hv : ∀ e ∈ g.fEdges, e.fTo ∈ g.fNodes) :
  Ev2 (fun n _ => gi n g from_) (fun a => (∃ p : Bytes → Bool, a = g.fNodes.filter p) ∧ ∀ x, x ∈ a ↔ x ∈ g.fNodes ∧ Rg g.fEdges (fun y => y ∈ g.fNodes ∧ y ∈ from_) x) := by
 have hU : ∀ x, ∀ y ∈ iG g.fEdges x, y ∈ g.fNodes := by
  intro x y hy
  unfold iG at hy
  obtain ⟨e, he, rfl⟩ := List.mem_map.1 hy
  exact hv e (List.mem_filter.1 he).1
 simp only [gi]
 refine bQ _ (zZ g he) (fun tq hto => ?_)
 refine bQ _ (zh from_ (by unfold cg; omega)) (fun s1 hs1 => ?_)
 refine bu _ (ws g.fNodes s1 (by omega)) ?_
 have hlf : (g.fNodes.filter (inS s1)).length ≤ g.fNodes.length := List.length_filter_le ..
 refine bQ (fun r => ∀ x, inS r x = true ↔ Rg g.fEdges (fun y => y ∈ g.fNodes ∧ y ∈ from_) x) ?_ (fun r hr => ?_)
 ·simp only [fT]
  refine bQ _ (zh (g.fNodes.filter (inS s1)) (by unfold cg; omega)) (fun s2 hs2 => am (by omega) ?_)
  refine bQ (fun r => ∀ x, inS r x = true ↔ Rg g.fEdges (fun y => y ∈ g.fNodes ∧ y ∈ from_) x) (a7 (yz g.fEdges g.fNodes _ tq hto he hU 1000 s2 _ ?_ (by omega) ?_)) (fun r hr => ab hr)
  ·have : uns g.fNodes s2 ≤ g.fNodes.length := List.length_filter_le ..
   omega
  ·have hm : ∀ x, inS s2 x = true ↔ x ∈ g.fNodes ∧ x ∈ from_ := fun x => by rw [hs2 x, List.mem_filter, hs1 x]
   exact ⟨fun x hx => .base ((hm x).1 hx), fun x hx => (hm x).2 hx, fun x hx => (hs2 x).2 hx, fun x hx => .inl ((hs2 x).1 hx)⟩
 ·refine bu _ (ws g.fNodes r (by omega)) (ab ⟨⟨_, rfl⟩, fun x => ?_⟩)
  rw [List.mem_filter, hr x]
end Go.Ab.R06
end
section
set_option linter.unusedVariables false
set_option linter.unusedSimpArgs false
set_option linter.unnecessarySimpa false
namespace Go.Ab.R06
open Go.Ab Go.Ab.RB Go.Lib
theorem BN (l : List Bytes) (s : Bytes) (hb : l.length ≤ cg) : ∀ (k i : Nat), i + k = l.length → Ev2 (fun _ m => fH l s m (i : Int)) (· = if s ∈ l.drop i then .inr true else .inl ()) := by
 have hW := kP
 intro k
 induction k with
 | zero =>
  intro i hi
  refine ax ?_
  simp only [fH]
  exact aC (by omega) (ab (by rw [List.drop_of_length_le (by omega)]; simp))
 | succ k ih =>
  intro i hi
  have h1 : i < l.length := by omega
  refine ax ?_
  simp only [fH]
  refine av (by omega) (am (by omega) ?_)
  rw [bS _ _ h1, List.drop_eq_getElem_cons h1]
  refine aN (fun h => ab (by rw [if_pos (by simp [h])])) (fun h => am (br (by omega) (by omega)) ?_)
  have := ih (i + 1) (by omega)
  rw [Int.natCast_add, Int.natCast_one] at this
  refine dM this fun r hr => ?_
  rw [hr]
  have hm : s ∈ l[i] :: l.drop (i + 1) ↔ s ∈ l.drop (i + 1) := by
   rw [List.mem_cons]; exact ⟨fun q => q.resolve_left fun e => h e.symm, .inr⟩
  simp only [hm]
theorem xS (l : List Bytes) (s : Bytes) (hb : l.length ≤ cg) : Ev2 (fun n _ => kc n l s) (· = decide (s ∈ l)) := by
 simp only [kc]
 have l1 := BN l s hb l.length 0 (by omega)
 rw [List.drop_zero] at l1
 by_cases h : s ∈ l
 ·rw [if_pos h] at l1
  exact ju true (a7 l1) (by simp [h])
 ·rw [if_neg h] at l1
  exact gJ () (a7 l1) (ab (by simp [h]))
theorem AP (a b : List Bytes) (hl : a.length = b.length) (hb : a.length ≤ cg) : ∀ (k i : Nat), i + k = a.length → Ev2 (fun _ m => dV a b m (i : Int)) (· = if a.drop i = b.drop i then .inl () else .inr false) := by
 have hW := kP
 intro k
 induction k with
 | zero =>
  intro i hi
  refine ax ?_
  simp only [dV]
  exact aC (by omega) (ab (by rw [List.drop_of_length_le (by omega), List.drop_of_length_le (by omega)]; simp))
 | succ k ih =>
  intro i hi
  have h1 : i < a.length := by omega
  have h2 : i < b.length := by omega
  refine ax ?_
  simp only [dV]
  refine av (by omega) (am (by omega) (am (by omega) ?_))
  rw [bS _ _ h1, bS _ _ h2, List.drop_eq_getElem_cons h1, List.drop_eq_getElem_cons h2]
  refine aN (fun h => am (br (by omega) (by omega)) ?_) (fun h => ab (by rw [if_neg (fun e => h (List.cons.inj e).1)]))
  have := ih (i + 1) (by omega)
  rw [Int.natCast_add, Int.natCast_one] at this
  refine dM this fun r hr => ?_
  rw [hr, h]
  simp only [List.cons.injEq, true_and]
theorem qO (a b : List Bytes) (hb : a.length ≤ cg) : Ev2 (fun n _ => eZ n a b) (· = decide (a = b)) := by
 simp only [eZ]
 refine aN (fun h => ?_) (fun h => ab (by rw [decide_eq_false (fun e => h (by rw [e]))]))
 have l1 := AP a b (by omega) hb a.length 0 (by omega)
 rw [List.drop_zero, List.drop_zero] at l1
 by_cases h : a = b
 ·rw [if_pos h] at l1
  exact gJ () (a7 l1) (ab (by rw [decide_eq_true h]))
 ·rw [if_neg h] at l1
  exact ju false (a7 l1) (by rw [decide_eq_false h])
def eqv (x y : aa) : Bool := decide (x.fAddr = y.fAddr) && decide (x.fDeposed = y.fDeposed) && decide (x.fAction = y.fAction) && decide (x.fDeps = y.fDeps) && decide (x.fOldDeps = y.fOldDeps)
theorem ui (x : aa) : eqv x x = true := by simp [eqv]
def nX : List aa → List aa → Bool
 | [], [] => true
 | x :: a, y :: b => eqv x y && nX a b
 | _, _ => false
theorem sO : ∀ a : List aa, nX a a = true
 | [] => rfl
 | x :: a => by simp only [nX, ui, sO a, Bool.and_self]
theorem tT : ∀ {a b : List aa}, nX a b = true → a.length = b.length
 | [], [], _ => rfl
 | [], _ :: _, h => by simp [nX] at h
 | _ :: _, [], h => by simp [nX] at h
 | x :: a, y :: b, h => by
  simp only [nX, Bool.and_eq_true] at h
  simp only [List.length_cons, tT h.2]
theorem CB (a b : List aa) (hl : a.length = b.length) (hn : a.length ≤ 1000) (ha : ∀ c ∈ a, aa.Bd c) : ∀ (k i : Nat), i + k = a.length → Ev2 (fun n m => ey n a b m (i : Int)) (· = if nX (a.drop i) (b.drop i) = true then .inl () else .inr false) := by
 intro k
 induction k with
 | zero =>
  intro i hi
  refine ax ?_
  simp only [ey]
  exact aC (by omega) (ab (by rw [List.drop_of_length_le (by omega), List.drop_of_length_le (by omega)]; rfl))
 | succ k ih =>
  intro i hi
  have h1 : i < a.length := by omega
  have h2 : i < b.length := by omega
  have hb := ha _ (List.getElem_mem h1)
  have d1 := hb.bDeps
  have d2 := hb.bOldDeps
  refine ax ?_
  simp only [ey]
  refine av (by omega) ?_
  rw [bS _ _ h1, bS _ _ h2, List.drop_eq_getElem_cons h1, List.drop_eq_getElem_cons h2]
  refine bu (!eqv a[i] b[i]) ?_ ?_
  ·unfold eqv
   refine am (by omega) (am (by omega) (aN (fun e1 => ?_) (fun e1 => ab (by rw [decide_eq_false e1]; rfl))))
   refine am (by omega) (am (by omega) (aN (fun e2 => ?_) (fun e2 => ab (by rw [decide_eq_false e2]; simp))))
   refine am (by omega) (am (by omega) (aN (fun e3 => ?_) (fun e3 => ab (by rw [decide_eq_false e3]; simp))))
   rw [decide_eq_true e1, decide_eq_true e2, decide_eq_true e3, Bool.true_and, Bool.true_and, Bool.true_and]
   refine am (by omega) (am (by omega) (bu _ (qO _ _ (by omega)) ?_))
   cases decide (a[i].fDeps = b[i].fDeps)
   ·exact av rfl (ab (by simp))
   ·exact aC (by decide) (am (by omega) (am (by omega) (bu _ (qO _ _ (by omega)) (ab (by simp)))))
  ·have e : nX (a[i] :: a.drop (i + 1)) (b[i] :: b.drop (i + 1)) = (eqv a[i] b[i] && nX (a.drop (i + 1)) (b.drop (i + 1))) := rfl
   simp only [e]
   by_cases hq : eqv a[i] b[i] = true
   ·simp only [hq, Bool.true_and]
    refine aC (by decide) (am (br (by omega) (by omega)) ?_)
    have := ih (i + 1) (by omega)
    rw [Int.natCast_add, Int.natCast_one] at this
    exact this
   ·have hq := Bool.eq_false_iff.2 hq
    simp only [hq, Bool.false_and]
    exact av rfl (ab rfl)
theorem zo (a b : List aa) (hn : a.length ≤ 1000) (ha : ∀ c ∈ a, aa.Bd c) : Ev2 (fun n _ => iK n a b) (· = nX a b) := by
 simp only [iK]
 refine aN (fun h => ?_) (fun h => ab ?_)
 ·have l1 := CB a b (by omega) hn ha a.length 0 (by omega)
  rw [List.drop_zero, List.drop_zero] at l1
  cases hq : nX a b
  ·rw [if_neg (by simp [hq])] at l1
   exact ju false (a7 l1) rfl
  ·rw [if_pos hq] at l1
   exact gJ () (a7 l1) (ab rfl)
 ·cases hq : nX a b
  ·rfl
  ·exact absurd (congrArg (fun n : Nat => (n : Int)) (tT hq)) h
theorem tJ {α : Type} (l : List α) (i : Nat) (h : i < l.length) : sub l (i : Int) ((i : Int) + 1) = [l[i]] := by
 have e : ((i : Int) + 1) = ((i + 1 : Nat) : Int) := by omega
 rw [e, wz, List.drop_take, Nat.add_sub_cancel_left, List.drop_eq_getElem_cons h]; rfl
theorem sZ {t : List Bytes} {l : List aa} (h : tv t l = true) : t.length ≤ 16 ∧ (∀ p ∈ t, p.length ≤ 300) ∧ l.length ≤ 20 ∧ ∀ c ∈ l, c.fAddr.length ≤ 300 := by
 unfold tv at h
 rw [Bool.and_eq_true, Bool.and_eq_true, Bool.and_eq_true, List.all_eq_true, decide_eq_true_eq, decide_eq_true_eq] at h
 obtain ⟨⟨⟨h1, h2⟩, h3⟩, h4⟩ := h
 have h5 := lP h1
 refine ⟨by omega, h5.2, h3, fun c hc => ?_⟩
 have := h4 c hc
 unfold p8 at this
 rw [Bool.and_eq_true, Bool.and_eq_true, decide_eq_true_eq] at this
 exact this.1.1
end Go.Ab.R06
end
section
set_option linter.unusedVariables false
set_option linter.unusedSimpArgs false
set_option linter.unnecessarySimpa false
namespace Go.Ab.R06
open Go.Proofs Go.Ab Go.Ab.RB
attribute [local irreducible] awp d9 aU aF bO AV.sub M dU
def fF (l_0 : List Bytes) (s_1 : Bytes) : Nat → Int → Option (Unit ⊕ Bool)
 | 0, _ => none
 | m + 1, i6 =>
 if i6 < (l_0.length : Int) then
  ck ((0 : Int) ≤ i6 ∧ i6 < (l_0.length : Int)) <|
  if lat l_0 i6 = s_1 then
   some (.inr true)
  else
   ck (inR (i6 + 1)) <|
   fF l_0 s_1 m (i6 + 1)
 else
  some (.inl ())
def hH (n : Nat) (l_0 : List Bytes) (s_1 : Bytes) : Option Bool :=
 jn (fF l_0 s_1 n 0) fun q12 =>
 some false
set_option maxHeartbeats 4000000 in
theorem g0 (n : Nat) (l_0 : List Bytes) (s_1 : Bytes) (r : Bool) (h0 : hH n l_0 s_1 = some r) : aF Tryz.prog 35 [eL eS l_0, eS s_1] (· = .p (eB r)) := by
 unfold hH at h0
 refine bG good Tryz.func35 rfl rfl rfl fun w0 => mP (fun v : Bool => .p (eB v)) ?_
 refine nx 10 rfl ?_
 obtain ⟨o13, h1, hL0, hR0⟩ := eH h0
 refine kEx 0 (fun v14 : Unit => o13 = .inl v14) (fun v14 => ⟨[], []⟩) (fun v14 hv => ?_) ?_
 ·have h0 := hL0 _ hv
  exact nx 6 rfl (mQ (oi h0) rfl (sr))
 refine lG (fun (q15 : Int) => ⟨[(0, .p (eL eS l_0)), (1, .p (eS s_1)), (5, .p (eI q15))], []⟩) (fun m (q15 : Int) => fF l_0 s_1 m q15) (fun _ => rfl) 0 h1 (gE rfl rfl) ?_
 rintro m i6 h1
 replace h1 : fF l_0 s_1 (m + 1) i6 = some o13 := h1
 rw [fF] at h1
 refine nx 5 rfl (oLl (f := eS) rfl rfl ?_)
 refine nx 2 rfl (fD [9] h1 rfl (fun c7 h1 => ?_) fun c7 h1 => ?_)
 ·refine nx 8 rfl (oE h1 (fun _ => rfl) rfl rfl (fun _ => rfl) fun hk8 h1 => ?_)
  refine nx 2 rfl (oS rfl rfl ?_)
  refine nx 1 rfl (fD [17] h1 rfl (fun c9 h1 => ?_) fun c9 h1 => ?_)
  ·exact nx 6 rfl (mQ (hR0 _ (oi h1).symm) rfl (sr))
  refine nx 4 rfl (oA h1 rfl rfl fun hk10 h1 => ?_)
  exact nx 2 rfl (eX (i6 + 1) h1 (gE rfl rfl))
 exact nx 2 rfl (eXi _ (oi h1).symm (gE rfl rfl))
def lU (a_0 : b8) (b_1 : b8) : Option Bool :=
 (
   if (Op.bytesLess a_0.fFrom b_1.fFrom) = true then
    some true
   else
    if a_0.fFrom = b_1.fFrom then
     some (Op.bytesLess a_0.fTo b_1.fTo)
    else
     some false
  : Option Bool).bind fun t3 =>
 some t3
set_option maxHeartbeats 4000000 in
theorem sf (a_0 : b8) (b_1 : b8) (r : Bool) (h0 : lU a_0 b_1 = some r) : aF Tryz.prog 36 [.agg (b8.cs a_0), .agg (b8.cs b_1)] (· = .p (eB r)) := by
 unfold lU at h0
 refine bG good Tryz.func36 rfl rfl rfl fun w0 => mP (fun v : Bool => .p (eB v)) ?_
 refine nx 7 rfl (bd h0 fun o5 h1 h0 => ?_)
 refine kN o5 (fun v6 => ⟨[(4, .p (eB v6))], []⟩) ?_ ?_
 ·exact nx 2 rfl (mQ (oi h0) rfl (sr))
 refine nx 5 rfl (oS rfl rfl ?_)
 refine nx 1 rfl (fB [9, 10] h1 rfl (fun c1 h1 => ?_) fun c1 h1 => ?_)
 ·exact nx 15 rfl (eX _ (oi h1).symm (gE rfl rfl))
 refine nx 4 rfl (oS rfl rfl ?_)
 refine nx 1 rfl (fD [15, 16] h1 rfl (fun c2 h1 => ?_) fun c2 h1 => ?_)
 ·refine nx 4 rfl (oS rfl rfl ?_)
  exact nx 4 rfl (eX _ (oi h1).symm (gE rfl rfl))
 exact nx 9 rfl (eX _ (oi h1).symm (gE rfl rfl))
def en (g_0 : aO) : Nat → Int → Option (Unit ⊕ Int)
 | 0, _ => none
 | m + 1, i9 =>
 if i9 < (g_0.fNodes.length : Int) then
  ck (inR (i9 - 1)) <|
  ck ((0 : Int) ≤ i9 - 1 ∧ i9 - 1 < (g_0.fNodes.length : Int)) <|
  ck ((0 : Int) ≤ i9 ∧ i9 < (g_0.fNodes.length : Int)) <|
  if (!Op.bytesLess (lat g_0.fNodes (i9 - 1)) (lat g_0.fNodes i9)) = true then
   some (.inr 1)
  else
   ck (inR (i9 + 1)) <|
   en g_0 m (i9 + 1)
 else
  some (.inl ())
def eD (n : Nat) (g_0 : aO) : Nat → Int → Option (Unit ⊕ Int)
 | 0, _ => none
 | m + 1, i37 =>
 if i37 < (g_0.fEdges.length : Int) then
  (
    ck ((0 : Int) ≤ i37 ∧ i37 < (g_0.fEdges.length : Int)) <|
    (hH n g_0.fNodes ((lat g_0.fEdges i37).fFrom)).bind fun r40 =>
    if (!r40) = true then
     some true
    else
     ck ((0 : Int) ≤ i37 ∧ i37 < (g_0.fEdges.length : Int)) <|
     (hH n g_0.fNodes ((lat g_0.fEdges i37).fTo)).bind fun r44 =>
     some (!r44)
   : Option Bool).bind fun t46 =>
  if t46 = true then
   some (.inr 9)
  else
   (
     if 0 < i37 then
      ck (inR (i37 - 1)) <|
      ck ((0 : Int) ≤ i37 - 1 ∧ i37 - 1 < (g_0.fEdges.length : Int)) <|
      ck ((0 : Int) ≤ i37 ∧ i37 < (g_0.fEdges.length : Int)) <|
      (lU (lat g_0.fEdges (i37 - 1)) (lat g_0.fEdges i37)).bind fun r52 =>
      some (!r52)
     else
      some false
    : Option Bool).bind fun t54 =>
   if t54 = true then
    some (.inr 1)
   else
    ck (inR (i37 + 1)) <|
    eD n g_0 m (i37 + 1)
 else
  some (.inl ())
def jG (n : Nat) (g_0 : aO) : Option Int :=
 if 2048 < (g_0.fNodes.length : Int) then
  some 14
 else
  jn (en g_0 n 1) fun q58 =>
  jn (eD n g_0 n 0) fun q59 =>
  some 0
set_option maxHeartbeats 4000000 in
theorem re (n : Nat) (g_0 : aO) (r : Int) (h0 : jG n g_0 = some r) : aF Tryz.prog 17 [.agg (aO.cs g_0)] (· = .p (eI r)) := by
 unfold jG at h0
 refine bG good Tryz.func17 rfl rfl rfl fun w0 => mP (fun v : Int => .p (eI v)) ?_
 refine nx 10 rfl (oLl (f := eS) rfl rfl ?_)
 refine nx 2 rfl (fD [8] h0 rfl (fun c1 h0 => ?_) fun c1 h0 => ?_)
 ·exact nx 6 rfl (mQ (oi h0) rfl (sr))
 refine nx 8 rfl ?_
 obtain ⟨o62, h1, hL0, hR0⟩ := eH h0
 refine kEx 0 (fun v63 : Unit => o62 = .inl v63) (fun v63 => ⟨[(1, .ptr 1 0)], [(1, (aO.cs g_0).map .p)]⟩) (fun v63 hv => ?_) ?_
 ·have h0 := hL0 _ hv
  refine nx 7 rfl ?_
  obtain ⟨o64, h1, hL0, hR0⟩ := eH h0
  refine kEx 2 (fun v65 : Unit => o64 = .inl v65) (fun v65 => ⟨[], []⟩) (fun v65 hv => ?_) ?_
  ·have h0 := hL0 _ hv
   exact nx 6 rfl (mQ (oi h0) rfl (sr))
  refine lG (fun (q66 : Int) => ⟨[(1, .ptr 1 0), (4, .p (eI q66))], [(1, (aO.cs g_0).map .p)]⟩) (fun m (q66 : Int) => eD n g_0 m q66) (fun _ => rfl) 0 h1 (gE rfl rfl) ?_
  rintro m i37 h1
  replace h1 : eD n g_0 (m + 1) i37 = some o64 := h1
  rw [eD] at h1
  refine nx 6 rfl (oLl (f := fQ) rfl rfl ?_)
  refine nx 2 rfl (fD [32] h1 rfl (fun c38 h1 => ?_) fun c38 h1 => ?_)
  ·refine nx 6 rfl (bd h1 fun o67 h2 h1 => ?_)
   refine kN o67 (fun v68 => ⟨[(1, .ptr 1 0), (4, .p (eI i37)), (56, .p (eB v68))], [(1, (aO.cs g_0).map .p)]⟩) ?_ ?_
   ·refine nx 1 rfl (fB [56] h1 rfl (fun c47 h1 => ?_) fun c47 h1 => ?_)
    ·exact nx 6 rfl (mQ (hR0 _ (oi h1).symm) rfl (sr))
    refine nx 3 rfl (bd h1 fun o69 h2 h1 => ?_)
    refine kN o69 (fun v70 => ⟨[(1, .ptr 1 0), (4, .p (eI i37)), (73, .p (eB v70))], [(1, (aO.cs g_0).map .p)]⟩) ?_ ?_
    ·refine nx 1 rfl (fB [73] h1 rfl (fun c55 h1 => ?_) fun c55 h1 => ?_)
     ·exact nx 6 rfl (mQ (hR0 _ (oi h1).symm) rfl (sr))
     refine nx 4 rfl (oA h1 rfl rfl fun hk56 h1 => ?_)
     exact nx 2 rfl (eX (i37 + 1) h1 (gE rfl rfl))
    refine fD (p := 0 < i37) [] h2 rfl (fun c48 h2 => ?_) fun c48 h2 => ?_
    ·refine cc' h2 fun hk49 h2 => cc' h2 fun hk50 h2 => cc' h2 fun hk51 h2 => bd h2 fun r52 e53 h2 => mD [(1, .ptr 1 0), (4, .p (eI i37))] rfl ⟨rfl, rfl, trivial⟩ rfl (dR 1 rfl ?_)
     refine dL (dt c48) rfl (dR 4 rfl ?_)
     refine dq (.p (eI (i37 - 1))) [59,62] rfl (fun _ e _ q => aZ (eV rfl rfl rfl (e _ _ rfl) rfl rfl hk49 q) rfl rfl (e _ _ rfl) (rfl)) rfl (dq (.rptr (b8.cs (lat g_0.fEdges (i37 - 1)))) [59,61,63] rfl (fun _ e _ q => aZ (ce (f := fQ) (l := g_0.fEdges) b8.cs rfl rfl rfl rfl rfl rfl (e _ _ rfl) rfl (e _ _ rfl) hk50 b8.cells_eq (fun _ => rfl) q) rfl rfl (e _ _ rfl) (rfl)) rfl ?_)
     refine dR 4 rfl (dq (.rptr (b8.cs (lat g_0.fEdges i37))) [59,67,68] rfl (fun _ e _ q => aZ (ce (f := fQ) (l := g_0.fEdges) b8.cs rfl rfl rfl rfl rfl rfl (e _ _ rfl) rfl (e _ _ rfl) hk51 b8.cells_eq (fun _ => rfl) q) rfl rfl (e _ _ rfl) (rfl)) rfl ?_)
     refine dR 1 rfl (dq (.p (eB r52)) [59,65,70] rfl (fun _ e _ q => aZ (bj (sf (lat g_0.fEdges (i37 - 1)) (lat g_0.fEdges i37) _ e53) rfl rfl rfl (ay (e _ _ rfl) (ay (e _ _ rfl) bm)) ⟨sr, sr, trivial⟩ Tryz.call36 rfl q) rfl rfl (e _ _ rfl) (rfl)) rfl ?_)
     refine dR 2 rfl (dE rfl ?_)
     exact nx 1 rfl (eX _ (oi h2).symm (gE rfl rfl))
    refine mD [(1, .ptr 1 0), (4, .p (eI i37))] rfl ⟨rfl, rfl, trivial⟩ rfl (dR 1 rfl ?_)
    refine dL (df c48) rfl (dR 15 rfl ?_)
    refine dE rfl (nx 1 rfl ?_)
    exact eX _ (oi h2).symm (gE rfl rfl)
   refine cc' h2 fun hk39 h2 => bd h2 fun r40 e41 h2 => fB (p := !r40) [] h2 rfl (fun c42 h2 => ?_) fun c42 h2 => ?_
   ·refine mD [(1, .ptr 1 0), (4, .p (eI i37))] rfl ⟨rfl, rfl, trivial⟩ rfl (dR 5 rfl ?_)
    refine dq (.rptr (b8.cs (lat g_0.fEdges i37))) [38,39] rfl (fun _ e _ q => ae rfl (ce (f := fQ) (l := g_0.fEdges) b8.cs rfl rfl rfl rfl rfl rfl (e _ _ rfl) rfl (e _ _ rfl) hk39 b8.cells_eq (fun _ => rfl) q)) rfl (dR 2 rfl ?_)
    refine dq (.p (eB r40)) [36,42] rfl (fun _ e _ q => ae rfl (bj (g0 _ g_0.fNodes ((lat g_0.fEdges i37).fFrom) _ e41) rfl rfl rfl (ay (e _ _ rfl) (ay (e _ _ rfl) bm)) ⟨sr, sr, trivial⟩ Tryz.call35 rfl q)) rfl (dL (c42) rfl ?_)
    refine dR 12 rfl (dE rfl ?_)
    exact nx 1 rfl (eX _ (oi h2).symm (gE rfl rfl))
   refine cc' h2 fun hk43 h2 => bd h2 fun r44 e45 h2 => mD [(1, .ptr 1 0), (4, .p (eI i37))] rfl ⟨rfl, rfl, trivial⟩ rfl (dR 5 rfl ?_)
   refine dq (.rptr (b8.cs (lat g_0.fEdges i37))) [38,39] rfl (fun _ e _ q => ae rfl (ce (f := fQ) (l := g_0.fEdges) b8.cs rfl rfl rfl rfl rfl rfl (e _ _ rfl) rfl (e _ _ rfl) hk39 b8.cells_eq (fun _ => rfl) q)) rfl (dR 2 rfl ?_)
   refine dq (.p (eB r40)) [36,42] rfl (fun _ e _ q => ae rfl (bj (g0 _ g_0.fNodes ((lat g_0.fEdges i37).fFrom) _ e41) rfl rfl rfl (ay (e _ _ rfl) (ay (e _ _ rfl) bm)) ⟨sr, sr, trivial⟩ Tryz.call35 rfl q)) rfl (dL (c42) rfl ?_)
   refine dR 6 rfl (dq (.rptr (b8.cs (lat g_0.fEdges i37))) [45,49,50] rfl (fun _ e _ q => aZ (ce (f := fQ) (l := g_0.fEdges) b8.cs rfl rfl rfl rfl rfl rfl (e _ _ rfl) rfl (e _ _ rfl) hk43 b8.cells_eq (fun _ => rfl) q) rfl rfl (e _ _ rfl) (rfl)) rfl ?_)
   refine dR 2 rfl (dq (.p (eB r44)) [45,47,53] rfl (fun _ e _ q => aZ (bj (g0 _ g_0.fNodes ((lat g_0.fEdges i37).fTo) _ e45) rfl rfl rfl (ay (e _ _ rfl) (ay (e _ _ rfl) bm)) ⟨sr, sr, trivial⟩ Tryz.call35 rfl q) rfl rfl (e _ _ rfl) (rfl)) rfl ?_)
   refine dR 2 rfl (dE rfl ?_)
   exact nx 1 rfl (eX _ (oi h2).symm (gE rfl rfl))
  exact nx 2 rfl (eXi _ (oi h1).symm (gE rfl rfl))
 refine lG (fun (q71 : Int) => ⟨[(1, .ptr 1 0), (3, .p (eI q71))], [(1, (aO.cs g_0).map .p)]⟩) (fun m (q71 : Int) => en g_0 m q71) (fun _ => rfl) 1 h1 (gE rfl rfl) ?_
 rintro m i9 h1
 replace h1 : en g_0 (m + 1) i9 = some o62 := h1
 rw [en] at h1
 refine nx 6 rfl (oLl (f := eS) rfl rfl ?_)
 refine nx 2 rfl (fD [13] h1 rfl (fun c10 h1 => ?_) fun c10 h1 => ?_)
 ·refine nx 5 rfl (cc' h1 fun hk11 h1 => ?_)
  refine cc' h1 fun hk12 h1 => cc' h1 fun hk13 h1 => mD [(1, .ptr 1 0), (3, .p (eI i9))] rfl ⟨rfl, rfl, trivial⟩ rfl (dR 3 rfl ?_)
  refine dq (.p (eI (i9 - 1))) [18] rfl (fun _ e _ q => ae rfl (eV rfl rfl rfl (e _ _ rfl) rfl rfl hk11 q)) rfl (dq (.rptr [eS (lat g_0.fNodes (i9 - 1))]) [17,19] rfl (fun _ e _ q => ae rfl (ce (f := eS) (l := g_0.fNodes) (fun x => [eS x]) rfl rfl rfl rfl rfl rfl (e _ _ rfl) rfl (e _ _ rfl) hk12 (fun _ => rfl) (fun _ => rfl) q)) rfl ?_)
  refine dR 4 rfl (dq (.rptr [eS (lat g_0.fNodes i9)]) [23,24] rfl (fun _ e _ q => ae rfl (ce (f := eS) (l := g_0.fNodes) (fun x => [eS x]) rfl rfl rfl rfl rfl rfl (e _ _ rfl) rfl (e _ _ rfl) hk13 (fun _ => rfl) (fun _ => rfl) q)) rfl ?_)
  refine dR 1 rfl (dq (.p (eB (!Op.bytesLess (lat g_0.fNodes (i9 - 1)) (lat g_0.fNodes i9)))) [21,26] rfl (fun _ e _ q => ae rfl (cE rfl rfl rfl (e _ _ rfl) (e _ _ rfl) rfl q)) rfl ?_)
  refine dE rfl (nx 1 rfl ?_)
  refine fB [27] h1 rfl (fun c14 h1 => ?_) fun c14 h1 => ?_
  ·exact nx 6 rfl (mQ (hR0 _ (oi h1).symm) rfl (sr))
  refine nx 4 rfl (oA h1 rfl rfl fun hk15 h1 => ?_)
  exact nx 2 rfl (eX (i9 + 1) h1 (gE rfl rfl))
 exact nx 2 rfl (eXi _ (oi h1).symm (gE rfl rfl))
def fg (l_0 : List Bytes) (s_1 : Bytes) : Nat → Int → Option Int
 | 0, _ => none
 | m + 1, k10 =>
 (
   if k10 < (l_0.length : Int) then
    ck ((0 : Int) ≤ k10 ∧ k10 < (l_0.length : Int)) <|
    some (Op.bytesLess (lat l_0 k10) s_1)
   else
    some false
  : Option Bool).bind fun t13 =>
 if t13 = true then
  ck (inR (k10 + 1)) <|
  fg l_0 s_1 m (k10 + 1)
 else
  some k10
def iy (n : Nat) (l_0 : List Bytes) (s_1 : Bytes) : Option (List Bytes) :=
 (hH n l_0 s_1).bind fun r1 =>
 if r1 = true then
  some l_0
 else
  (fg l_0 s_1 n 0).bind fun k17 =>
  ck ((0 : Int) ≤ 0 ∧ 0 ≤ k17 ∧ k17 ≤ (l_0.length : Int)) <|
  ck ((sub l_0 0 k17).length * 16 ≤ 140737488355328) <|
  ck (((sub l_0 0 k17).length + [s_1].length) * 16 ≤ 140737488355328) <|
  ck ((0 : Int) ≤ k17 ∧ k17 ≤ (l_0.length : Int) ∧ (l_0.length : Int) ≤ (l_0.length : Int)) <|
  ck ((((sub l_0 0 k17) ++ [s_1]).length + (sub l_0 k17 (l_0.length : Int)).length) * 16 ≤ 140737488355328) <|
  some (((sub l_0 0 k17) ++ [s_1]) ++ (sub l_0 k17 (l_0.length : Int)))
set_option maxHeartbeats 4000000 in
theorem kS (n : Nat) (l_0 : List Bytes) (s_1 : Bytes) (r : (List Bytes)) (h0 : iy n l_0 s_1 = some r) : aF Tryz.prog 87 [eL eS l_0, eS s_1] (· = .p (eL eS r)) := by
 unfold iy at h0
 refine bG good Tryz.func87 rfl rfl rfl fun w0 => mP (fun v : (List Bytes) => .p (eL eS v)) ?_
 refine nx 9 rfl (bd h0 fun r1 e2 h0 => ?_)
 refine oK (g0 _ l_0 s_1 _ e2) rfl ⟨sr, sr, trivial⟩ Tryz.call35 rfl (nx 1 rfl ?_)
 refine fB [9] h0 rfl (fun c3 h0 => ?_) fun c3 h0 => ?_
 ·exact nx 7 rfl (mQ (oi h0) rfl (sr))
 refine nx 12 rfl (bd h0 fun o25 h1 h0 => ?_)
 refine kE 0 o25 (fun v26 => ⟨[(0, .p (eL eS l_0)), (1, .p (eS s_1)), (5, .p (.val (.slice none 0 0))), (6, .p (eI v26))], []⟩) ?_ ?_
 ·refine nx 6 rfl (cc' h0 fun hk18 h0 => ?_)
  refine mO rfl (fC (f := eS) (l := l_0) rfl rfl rfl rfl rfl rfl rfl rfl rfl rfl hk18 (fun _ => rfl) ?_)
  refine cc' h0 fun hk19 h0 => mO rfl (zX eS (sub l_0 0 o25) 0 rfl rfl rfl rfl rfl rfl rfl rfl rfl rfl rfl (fun _ => rfl) rfl rfl rfl rfl hk19 ?_)
  refine nx 6 rfl (mO rfl (bN eS [s_1] rfl rfl rfl rfl rfl rfl rfl rfl rfl rfl rfl rfl rfl rfl ?_))
  refine cc' h0 fun hk20 h0 => mO rfl (fL eS (sub l_0 0 o25) [s_1] rfl rfl rfl rfl rfl rfl rfl rfl rfl rfl rfl rfl rfl (fun _ => rfl) rfl rfl rfl rfl hk20 ?_)
  refine nx 7 rfl (cc' h0 fun hk21 h0 => ?_)
  refine mO rfl (fC (f := eS) (l := l_0) rfl rfl rfl rfl rfl rfl rfl rfl rfl rfl hk21 (fun _ => rfl) ?_)
  refine cc' h0 fun hk22 h0 => mO rfl (fL eS ((sub l_0 0 o25) ++ [s_1]) (sub l_0 o25 (l_0.length : Int)) rfl rfl rfl rfl rfl rfl rfl rfl rfl rfl rfl rfl rfl (fun _ => rfl) rfl rfl rfl rfl hk22 ?_)
  exact nx 3 rfl (mQ (oi h0) rfl (AV.sub_vec _ _ _ _))
 refine lG (fun (q27 : Int) => ⟨[(0, .p (eL eS l_0)), (1, .p (eS s_1)), (5, .p (.val (.slice none 0 0))), (6, .p (eI q27))], []⟩) (fun m (q27 : Int) => fg l_0 s_1 m q27) (fun _ => rfl) 0 h1 (gE rfl rfl) ?_
 rintro m k10 h1
 replace h1 : fg l_0 s_1 (m + 1) k10 = some o25 := h1
 rw [fg] at h1
 refine nx 2 rfl (bd h1 fun o28 h2 h1 => ?_)
 refine kN o28 (fun v29 => ⟨[(0, .p (eL eS l_0)), (1, .p (eS s_1)), (5, .p (.val (.slice none 0 0))), (6, .p (eI k10)), (22, .p (eB v29))], []⟩) ?_ ?_
 ·refine nx 1 rfl (fB [22] h1 rfl (fun c14 h1 => ?_) fun c14 h1 => ?_)
  ·refine nx 5 rfl (oA h1 rfl rfl fun hk15 h1 => ?_)
   exact nx 2 rfl (eX (k10 + 1) h1 (gE rfl rfl))
  exact nx 2 rfl (eXi _ (oi h1).symm (gE rfl rfl))
 refine nx 3 rfl (oLl (f := eS) rfl rfl ?_)
 refine nx 2 rfl (fD [14, 15] h2 rfl (fun c11 h2 => ?_) fun c11 h2 => ?_)
 ·refine nx 2 rfl (oE h2 (fun _ => rfl) rfl rfl (fun _ => rfl) fun hk12 h2 => ?_)
  refine nx 2 rfl (oS rfl rfl ?_)
  exact nx 2 rfl (eX _ (oi h2).symm (gE rfl rfl))
 exact nx 8 rfl (eX _ (oi h2).symm (gE rfl rfl))
def fe (n : Nat) (g_0 : aO) (from_1 : List Bytes) : Nat → (List Bytes) → Int → Option (List Bytes)
 | 0, _, _ => none
 | m + 1, out13, i14 =>
 if i14 < (g_0.fEdges.length : Int) then
  (
    ck ((0 : Int) ≤ i14 ∧ i14 < (g_0.fEdges.length : Int)) <|
    (hH n from_1 ((lat g_0.fEdges i14).fFrom)).bind fun r17 =>
    if r17 = true then
     ck ((0 : Int) ≤ i14 ∧ i14 < (g_0.fEdges.length : Int)) <|
     (iy n out13 ((lat g_0.fEdges i14).fTo)).bind fun r21 =>
     some r21
    else
     some out13
   : Option (List Bytes)).bind fun out23 =>
  ck (inR (i14 + 1)) <|
  fe n g_0 from_1 m out23 (i14 + 1)
 else
  some out13
def kr (n : Nat) (g_0 : aO) (from_1 : List Bytes) : Option (List Bytes) :=
 (fe n g_0 from_1 n [] 0).bind fun out27 =>
 some out27
set_option maxHeartbeats 4000000 in
theorem sc (n : Nat) (g_0 : aO) (from_1 : List Bytes) (r : (List Bytes)) (h0 : kr n g_0 from_1 = some r) : aF Tryz.prog 88 [.agg (aO.cs g_0), eL eS from_1] (· = .p (eL eS r)) := by
 unfold kr at h0
 refine bG good Tryz.func88 rfl rfl rfl fun w0 => mP (fun v : (List Bytes) => .p (eL eS v)) ?_
 refine nx 15 rfl (bd h0 fun o30 h1 h0 => ?_)
 refine kE 0 o30 (fun v31 => ⟨[(5, .p (eL eS v31))], []⟩) ?_ ?_
 ·exact nx 7 rfl (mQ (oi h0) rfl (sr))
 refine lG (fun (q32 : (List Bytes) × Int) => ⟨[(1, .p (eL eS from_1)), (2, .ptr 2 0), (5, .p (eL eS q32.1)), (6, .p (eI q32.2))], [(2, (aO.cs g_0).map .p)]⟩) (fun m (q32 : (List Bytes) × Int) => fe n g_0 from_1 m q32.1 q32.2) (fun _ => rfl) ([], 0) h1 (b7 (cj ⟨er rfl, er rfl, ⟨_, rfl, eO _⟩, er rfl, trivial⟩ ⟨⟨_, rfl, ⟨sr, sr, trivial⟩⟩, trivial⟩)) ?_
 rintro m ⟨out13, i14⟩ h1
 replace h1 : fe n g_0 from_1 (m + 1) out13 i14 = some o30 := h1
 rw [fe] at h1
 refine nx 6 rfl (oLl (f := fQ) rfl rfl ?_)
 refine nx 2 rfl (fD [11] h1 rfl (fun c15 h1 => ?_) fun c15 h1 => ?_)
 ·refine nx 3 rfl (bd h1 fun o33 h2 h1 => ?_)
  refine kN o33 (fun v34 => ⟨[(1, .p (eL eS from_1)), (2, .ptr 2 0), (5, .p (eL eS v34)), (6, .p (eI i14))], [(2, (aO.cs g_0).map .p)]⟩) ?_ ?_
  ·refine nx 3 rfl (oA h1 rfl rfl fun hk24 h1 => ?_)
   exact nx 2 rfl (eX (o33, i14 + 1) h1 (gE rfl rfl))
  refine nx 7 rfl (oE h2 b8.cells_eq rfl rfl (fun _ => rfl) fun hk16 h2 => ?_)
  refine nx 2 rfl (bd h2 fun r17 e18 h2 => ?_)
  refine oK (g0 _ from_1 ((lat g_0.fEdges i14).fFrom) _ e18) rfl ⟨sr, sr, trivial⟩ Tryz.call35 rfl (nx 1 rfl ?_)
  refine fB [21] h2 rfl (fun c19 h2 => ?_) fun c19 h2 => ?_
  ·refine nx 6 rfl (oE h2 b8.cells_eq rfl rfl (fun _ => rfl) fun hk20 h2 => ?_)
   refine nx 2 rfl (bd h2 fun r21 e22 h2 => ?_)
   refine oK (kS _ out13 ((lat g_0.fEdges i14).fTo) _ e22) rfl ⟨sr, sr, trivial⟩ Tryz.call87 rfl (nx 2 rfl ?_)
   exact eX _ (oi h2).symm (gE rfl rfl)
  exact nx 2 rfl (eX _ (oi h2).symm (gE rfl rfl))
 exact nx 2 rfl (eXi _ (oi h1).symm (gE rfl rfl))
def dS (n : Nat) (g_0 : aO) (from_1 : List Bytes) : Nat → (List Bytes) → Int → Option (List Bytes)
 | 0, _, _ => none
 | m + 1, out13, i14 =>
 if i14 < (from_1.length : Int) then
  (
    ck ((0 : Int) ≤ i14 ∧ i14 < (from_1.length : Int)) <|
    (hH n g_0.fNodes (lat from_1 i14)).bind fun r17 =>
    if r17 = true then
     ck ((0 : Int) ≤ i14 ∧ i14 < (from_1.length : Int)) <|
     (iy n out13 (lat from_1 i14)).bind fun r21 =>
     some r21
    else
     some out13
   : Option (List Bytes)).bind fun out23 =>
  ck (inR (i14 + 1)) <|
  dS n g_0 from_1 m out23 (i14 + 1)
 else
  some out13
def dW (n : Nat) (r50 : (List Bytes)) : Nat → (List Bytes) → Int → Option (List Bytes)
 | 0, _, _ => none
 | m + 1, more59, i60 =>
 if i60 < (r50.length : Int) then
  ck ((0 : Int) ≤ i60 ∧ i60 < (r50.length : Int)) <|
  (iy n more59 (lat r50 i60)).bind fun r63 =>
  ck (inR (i60 + 1)) <|
  dW n r50 m r63 (i60 + 1)
 else
  some more59
def dO (n : Nat) (g_0 : aO) : Nat → (List Bytes) → Option (Unit ⊕ (List Bytes))
 | 0, _ => none
 | m + 1, out49 =>
 (kr n g_0 out49).bind fun r50 =>
 (dW n r50 n out49 0).bind fun more68 =>
 if (more68.length : Int) = (out49.length : Int) then
  some (.inr out49)
 else
  dO n g_0 m more68
def jA (n : Nat) (g_0 : aO) (from_1 : List Bytes) : Option (List Bytes) :=
 (dS n g_0 from_1 n [] 0).bind fun out27 =>
 jn (dO n g_0 n out27) fun q73 =>
 none
set_option maxHeartbeats 4000000 in
theorem pO (n : Nat) (g_0 : aO) (from_1 : List Bytes) (r : (List Bytes)) (h0 : jA n g_0 from_1 = some r) : aF Tryz.prog 61 [.agg (aO.cs g_0), eL eS from_1] (· = .p (eL eS r)) := by
 unfold jA at h0
 refine bG good Tryz.func61 rfl rfl rfl fun w0 => mP (fun v : (List Bytes) => .p (eL eS v)) ?_
 refine nx 15 rfl (bd h0 fun o75 h1 h0 => ?_)
 refine kE 0 o75 (fun v76 => ⟨[(2, .ptr 2 0), (5, .p (eL eS v76))], [(2, (aO.cs g_0).map .p)]⟩) ?_ ?_
 ·refine nx 2 rfl ?_
  obtain ⟨o77, h1, hL0, hR0⟩ := eH h0
  refine kEx 0 (fun v78 : Unit => o77 = .inl v78) (fun v78 => ⟨[], []⟩) (fun v78 hv => ?_) ?_
  ·have h0 := hL0 _ hv
   refine nx 1 rfl ?_
   cases h0
  refine lG (fun (q79 : (List Bytes)) => ⟨[(2, .ptr 2 0), (5, .p (eL eS q79))], [(2, (aO.cs g_0).map .p)]⟩) (fun m (q79 : (List Bytes)) => dO n g_0 m q79) (fun _ => rfl) o75 h1 (gE rfl rfl) ?_
  rintro m out49 h1
  replace h1 : dO n g_0 (m + 1) out49 = some o77 := h1
  rw [dO] at h1
  refine nx 10 rfl (bd h1 fun r50 e51 h1 => ?_)
  refine oK (sc _ g_0 out49 _ e51) rfl ⟨sr, sr, trivial⟩ Tryz.call88 rfl (nx 8 rfl ?_)
  refine bd h1 fun o80 h2 h1 => kE 4 o80 (fun v81 => ⟨[(2, .ptr 2 0), (5, .p (eL eS out49)), (7, .p (eL eS v81))], [(2, (aO.cs g_0).map .p)]⟩) ?_ ?_
  ·refine nx 5 rfl (oLl (f := eS) rfl rfl ?_)
   refine nx 1 rfl (oLl (f := eS) rfl rfl ?_)
   refine nx 2 rfl (fD [49] h1 rfl (fun c69 h1 => ?_) fun c69 h1 => ?_)
   ·exact nx 7 rfl (mQ (hR0 _ (oi h1).symm) rfl (sr))
   exact nx 6 rfl (eX o80 h1 (gE rfl rfl))
  refine lG (fun (q82 : (List Bytes) × Int) => ⟨[(2, .ptr 2 0), (5, .p (eL eS out49)), (7, .p (eL eS q82.1)), (8, .p (eL eS r50)), (9, .p (eI q82.2))], [(2, (aO.cs g_0).map .p)]⟩) (fun m (q82 : (List Bytes) × Int) => dW n r50 m q82.1 q82.2) (fun _ => rfl) (out49, 0) h2 (gE rfl rfl) ?_
  rintro m ⟨more59, i60⟩ h2
  replace h2 : dW n r50 (m + 1) more59 i60 = some o80 := h2
  rw [dW] at h2
  refine nx 5 rfl (oLl (f := eS) rfl rfl ?_)
  refine nx 2 rfl (fD [36] h2 rfl (fun c61 h2 => ?_) fun c61 h2 => ?_)
  ·refine nx 8 rfl (oE h2 (fun _ => rfl) rfl rfl (fun _ => rfl) fun hk62 h2 => ?_)
   refine nx 1 rfl (bd h2 fun r63 e64 h2 => ?_)
   refine oK (kS _ more59 (lat r50 i60) _ e64) rfl ⟨sr, sr, trivial⟩ Tryz.call87 rfl (nx 4 rfl ?_)
   exact oA h2 rfl rfl fun hk65 h2 => nx 2 rfl (eX (r63, i60 + 1) h2 (gE rfl rfl))
  exact nx 2 rfl (eXi _ (oi h2).symm (gE rfl rfl))
 refine lG (fun (q83 : (List Bytes) × Int) => ⟨[(1, .p (eL eS from_1)), (2, .ptr 2 0), (5, .p (eL eS q83.1)), (6, .p (eI q83.2))], [(2, (aO.cs g_0).map .p)]⟩) (fun m (q83 : (List Bytes) × Int) => dS n g_0 from_1 m q83.1 q83.2) (fun _ => rfl) ([], 0) h1 (b7 (cj ⟨er rfl, er rfl, ⟨_, rfl, eO _⟩, er rfl, trivial⟩ ⟨⟨_, rfl, ⟨sr, sr, trivial⟩⟩, trivial⟩)) ?_
 rintro m ⟨out13, i14⟩ h1
 replace h1 : dS n g_0 from_1 (m + 1) out13 i14 = some o75 := h1
 rw [dS] at h1
 refine nx 5 rfl (oLl (f := eS) rfl rfl ?_)
 refine nx 2 rfl (fD [13] h1 rfl (fun c15 h1 => ?_) fun c15 h1 => ?_)
 ·refine nx 3 rfl (bd h1 fun o84 h2 h1 => ?_)
  refine kN o84 (fun v85 => ⟨[(1, .p (eL eS from_1)), (2, .ptr 2 0), (5, .p (eL eS v85)), (6, .p (eI i14))], [(2, (aO.cs g_0).map .p)]⟩) ?_ ?_
  ·refine nx 3 rfl (oA h1 rfl rfl fun hk24 h1 => ?_)
   exact nx 2 rfl (eX (o84, i14 + 1) h1 (gE rfl rfl))
  refine nx 2 rfl (cc' h2 fun hk16 h2 => ?_)
  refine bd h2 fun r17 e18 h2 => mD [(1, .p (eL eS from_1)), (2, .ptr 2 0), (5, .p (eL eS out13)), (6, .p (eI i14))] rfl ⟨rfl, rfl, rfl, rfl, trivial⟩ rfl (dR 4 rfl ?_)
  refine dq (.rptr [eS (lat from_1 i14)]) [18,19] rfl (fun _ e _ q => ae rfl (ce (f := eS) (l := from_1) (fun x => [eS x]) rfl rfl rfl rfl rfl rfl (e _ _ rfl) rfl (e _ _ rfl) hk16 (fun _ => rfl) (fun _ => rfl) q)) rfl (dR 1 rfl ?_)
  refine dq (.p (eB r17)) [17,21] rfl (fun _ e _ q => ae rfl (bj (g0 _ g_0.fNodes (lat from_1 i14) _ e18) rfl rfl rfl (ay (e _ _ rfl) (ay (e _ _ rfl) bm)) ⟨sr, sr, trivial⟩ Tryz.call35 rfl q)) rfl (dE rfl ?_)
  refine nx 1 rfl (fB [22] h2 rfl (fun c19 h2 => ?_) fun c19 h2 => ?_)
  ·refine nx 5 rfl (oE h2 (fun _ => rfl) rfl rfl (fun _ => rfl) fun hk20 h2 => ?_)
   refine nx 1 rfl (bd h2 fun r21 e22 h2 => ?_)
   refine oK (kS _ out13 (lat from_1 i14) _ e22) rfl ⟨sr, sr, trivial⟩ Tryz.call87 rfl (nx 2 rfl ?_)
   exact eX _ (oi h2).symm (gE rfl rfl)
  exact nx 2 rfl (eX _ (oi h2).symm (gE rfl rfl))
 exact nx 2 rfl (eXi _ (oi h1).symm (gE rfl rfl))
def kA (n : Nat) (g_0 : aO) (from_1 : List Bytes) : Option (List Bytes) :=
 (jA n g_0 from_1).bind fun r1 =>
 some r1
set_option maxHeartbeats 4000000 in
theorem rm (n : Nat) (g_0 : aO) (from_1 : List Bytes) (r : (List Bytes)) (h0 : kA n g_0 from_1 = some r) : aF Tryz.prog 38 [.agg (aO.cs g_0), eL eS from_1] (· = .p (eL eS r)) := by
 unfold kA at h0
 refine bG good Tryz.func38 rfl rfl rfl fun w0 => mP (fun v : (List Bytes) => .p (eL eS v)) ?_
 refine nx 9 rfl (bd h0 fun r1 e2 h0 => ?_)
 refine oK (pO _ g_0 from_1 _ e2) rfl ⟨sr, sr, trivial⟩ Tryz.call61 rfl (nx 3 rfl ?_)
 exact mQ (oi h0) rfl (sr)
def jS (n : Nat) (g_0 : aO) (statics_1 : List Bytes) : Option (List Bytes) :=
 (kA n g_0 statics_1).bind fun r1 =>
 some r1
set_option maxHeartbeats 4000000 in
theorem qX (n : Nat) (g_0 : aO) (statics_1 : List Bytes) (r : (List Bytes)) (h0 : jS n g_0 statics_1 = some r) : aF Tryz.prog 21 [.agg (aO.cs g_0), eL eS statics_1] (· = .p (eL eS r)) := by
 unfold jS at h0
 refine bG good Tryz.func21 rfl rfl rfl fun w0 => mP (fun v : (List Bytes) => .p (eL eS v)) ?_
 refine nx 9 rfl (bd h0 fun r1 e2 h0 => ?_)
 refine oK (rm _ g_0 statics_1 _ e2) rfl ⟨sr, sr, trivial⟩ Tryz.call38 rfl (nx 3 rfl ?_)
 exact mQ (oi h0) rfl (sr)
def cC (n : Nat) (g_0 : aO) (l_1 : List Bytes) (r14 : (List Bytes)) : Nat → Int → Option (Unit ⊕ Bool)
 | 0, _ => none
 | m + 1, i28 =>
 if i28 < (l_1.length : Int) then
  (
    ck ((0 : Int) ≤ i28 ∧ i28 < (l_1.length : Int)) <|
    (kc n g_0.fNodes (lat l_1 i28)).bind fun r31 =>
    if r31 = true then
     ck ((0 : Int) ≤ i28 ∧ i28 < (l_1.length : Int)) <|
     (kc n r14 (lat l_1 i28)).bind fun r35 =>
     some (!r35)
    else
     some false
   : Option Bool).bind fun t37 =>
  if t37 = true then
   some (.inr false)
  else
   ck (inR (i28 + 1)) <|
   cC n g_0 l_1 r14 m (i28 + 1)
 else
  some (.inl ())
def gp (n : Nat) (g_0 : aO) (l_1 : List Bytes) : Option Bool :=
 (
   (ff n g_0.fNodes 30).bind fun r1 =>
   if (!r1) = true then
    some true
   else
    if 100 < (g_0.fEdges.length : Int) then
     some true
    else
     (ff n l_1 30).bind fun r5 =>
     if (!r5) = true then
      some true
     else
      (jG n g_0).bind fun r8 =>
      some (!decide (r8 = 0))
  : Option Bool).bind fun t10 =>
 if t10 = true then
  (dQ n).bind fun r12 =>
  some r12
 else
  (eg n g_0 l_1).bind fun r14 =>
  jn (cC n g_0 l_1 r14 n 0) fun q55 =>
  (
    (jS n g_0 l_1).bind fun r41 =>
    (eZ n r14 r41).bind fun r43 =>
    if r43 = true then
     (eg n g_0 r14).bind fun r46 =>
     (eZ n r46 r14).bind fun r48 =>
     if r48 = true then
      (dQ n).bind fun r51 =>
      some r51
     else
      some false
    else
     some false
   : Option Bool).bind fun t53 =>
  some t53
set_option maxHeartbeats 4000000 in
theorem mh (n : Nat) (g_0 : aO) (l_1 : List Bytes) (r : Bool) (h0 : gp n g_0 l_1 = some r) : aF Tryz.prog 5 [.agg (aO.cs g_0), eL eS l_1] (· = .p (eB r)) := by
 unfold gp at h0
 refine bG good Tryz.func5 rfl rfl rfl fun w0 => mP (fun v : Bool => .p (eB v)) ?_
 refine nx 7 rfl (bd h0 fun o58 h1 h0 => ?_)
 refine kN o58 (fun v59 => ⟨[(1, .p (eL eS l_1)), (2, .ptr 2 0), (26, .p (eB v59))], [(2, (aO.cs g_0).map .p)]⟩) ?_ ?_
 ·refine nx 1 rfl (fB [26] h0 rfl (fun c11 h0 => ?_) fun c11 h0 => ?_)
  ·refine nx 3 rfl (bd h0 fun r12 e13 h0 => ?_)
   refine oK (f0 _  _ e13) rfl trivial Tryz.call13 rfl (nx 3 rfl ?_)
   exact mQ (oi h0) rfl (sr)
  refine nx 6 rfl (bd h0 fun r14 e15 h0 => ?_)
  refine oK (jW _ g_0 l_1 _ e15) rfl ⟨sr, sr, trivial⟩ Tryz.call18 rfl (nx 8 rfl ?_)
  obtain ⟨o60, h1, hL0, hR0⟩ := eH h0
  refine kEx 0 (fun v61 : Unit => o60 = .inl v61) (fun v61 => ⟨[(1, .p (eL eS l_1)), (2, .ptr 2 0), (5, .p (eL eS r14))], [(2, (aO.cs g_0).map .p)]⟩) (fun v61 hv => ?_) ?_
  ·have h0 := hL0 _ hv
   refine nx 2 rfl (bd h0 fun o62 h1 h0 => ?_)
   refine kN o62 (fun v63 => ⟨[(4, .p (eB v63))], []⟩) ?_ ?_
   ·exact nx 2 rfl (mQ (oi h0) rfl (sr))
   refine nx 4 rfl (bd h1 fun r41 e42 h1 => ?_)
   refine oK (qX _ g_0 l_1 _ e42) rfl ⟨sr, sr, trivial⟩ Tryz.call21 rfl (bd h1 fun r43 e44 h1 => ?_)
   refine oK (gd _ r14 r41 _ e44) rfl ⟨sr, sr, trivial⟩ Tryz.call20 rfl (nx 1 rfl ?_)
   refine fB [57, 58] h1 rfl (fun c45 h1 => ?_) fun c45 h1 => ?_
   ·refine nx 2 rfl (bd h1 fun r46 e47 h1 => ?_)
    refine oK (jW _ g_0 r14 _ e47) rfl ⟨sr, sr, trivial⟩ Tryz.call18 rfl (nx 1 rfl ?_)
    refine bd h1 fun r48 e49 h1 => oK (gd _ r46 r14 _ e49) rfl ⟨sr, sr, trivial⟩ Tryz.call20 rfl (nx 2 rfl ?_)
    refine fB [63, 64, 65] h1 rfl (fun c50 h1 => ?_) fun c50 h1 => ?_
    ·refine bd h1 fun r51 e52 h1 => oK (f0 _  _ e52) rfl trivial Tryz.call13 rfl (nx 3 rfl ?_)
     exact eX _ (oi h1).symm (gE rfl rfl)
    exact nx 4 rfl (eX _ (oi h1).symm (gE rfl rfl))
   exact nx 11 rfl (eX _ (oi h1).symm (gE rfl rfl))
  refine lG (fun (q64 : Int) => ⟨[(1, .p (eL eS l_1)), (2, .ptr 2 0), (5, .p (eL eS r14)), (6, .p (eI q64))], [(2, (aO.cs g_0).map .p)]⟩) (fun m (q64 : Int) => cC n g_0 l_1 r14 m q64) (fun _ => rfl) 0 h1 (gE rfl rfl) ?_
  rintro m i28 h1
  replace h1 : cC n g_0 l_1 r14 (m + 1) i28 = some o60 := h1
  rw [cC] at h1
  refine nx 5 rfl (oLl (f := eS) rfl rfl ?_)
  refine nx 2 rfl (fD [34] h1 rfl (fun c29 h1 => ?_) fun c29 h1 => ?_)
  ·refine nx 5 rfl (bd h1 fun o65 h2 h1 => ?_)
   refine kN o65 (fun v66 => ⟨[(1, .p (eL eS l_1)), (2, .ptr 2 0), (5, .p (eL eS r14)), (6, .p (eI i28)), (52, .p (eB v66))], [(2, (aO.cs g_0).map .p)]⟩) ?_ ?_
   ·refine nx 1 rfl (fB [52] h1 rfl (fun c38 h1 => ?_) fun c38 h1 => ?_)
    ·exact nx 6 rfl (mQ (hR0 _ (oi h1).symm) rfl (sr))
    refine nx 4 rfl (oA h1 rfl rfl fun hk39 h1 => ?_)
    exact nx 2 rfl (eX (i28 + 1) h1 (gE rfl rfl))
   refine cc' h2 fun hk30 h2 => bd h2 fun r31 e32 h2 => fB (p := r31) [] h2 rfl (fun c33 h2 => ?_) fun c33 h2 => ?_
   ·refine cc' h2 fun hk34 h2 => bd h2 fun r35 e36 h2 => mD [(1, .p (eL eS l_1)), (2, .ptr 2 0), (5, .p (eL eS r14)), (6, .p (eI i28))] rfl ⟨rfl, rfl, rfl, rfl, trivial⟩ rfl (dR 4 rfl ?_)
    refine dq (.rptr [eS (lat l_1 i28)]) [39,40] rfl (fun _ e _ q => ae rfl (ce (f := eS) (l := l_1) (fun x => [eS x]) rfl rfl rfl rfl rfl rfl (e _ _ rfl) rfl (e _ _ rfl) hk30 (fun _ => rfl) (fun _ => rfl) q)) rfl (dR 1 rfl ?_)
    refine dq (.p (eB r31)) [38,42] rfl (fun _ e _ q => ae rfl (bj (lD _ g_0.fNodes (lat l_1 i28) _ e32) rfl rfl rfl (ay (e _ _ rfl) (ay (e _ _ rfl) bm)) ⟨sr, sr, trivial⟩ Tryz.call19 rfl q)) rfl (dL (c33) rfl ?_)
    refine dR 3 rfl (dq (.rptr [eS (lat l_1 i28)]) [44,46,47] rfl (fun _ e _ q => aZ (ce (f := eS) (l := l_1) (fun x => [eS x]) rfl rfl rfl rfl rfl rfl (e _ _ rfl) rfl (e _ _ rfl) hk34 (fun _ => rfl) (fun _ => rfl) q) rfl rfl (e _ _ rfl) (rfl)) rfl ?_)
    refine dR 1 rfl (dq (.p (eB r35)) [44,45,49] rfl (fun _ e _ q => aZ (bj (lD _ r14 (lat l_1 i28) _ e36) rfl rfl rfl (ay (e _ _ rfl) (ay (e _ _ rfl) bm)) ⟨sr, sr, trivial⟩ Tryz.call19 rfl q) rfl rfl (e _ _ rfl) (rfl)) rfl ?_)
    refine dR 2 rfl (dE rfl ?_)
    exact nx 1 rfl (eX _ (oi h2).symm (gE rfl rfl))
   refine mD [(1, .p (eL eS l_1)), (2, .ptr 2 0), (5, .p (eL eS r14)), (6, .p (eI i28))] rfl ⟨rfl, rfl, rfl, rfl, trivial⟩ rfl (dR 4 rfl ?_)
   refine dq (.rptr [eS (lat l_1 i28)]) [39,40] rfl (fun _ e _ q => ae rfl (ce (f := eS) (l := l_1) (fun x => [eS x]) rfl rfl rfl rfl rfl rfl (e _ _ rfl) rfl (e _ _ rfl) hk30 (fun _ => rfl) (fun _ => rfl) q)) rfl (dR 1 rfl ?_)
   refine dq (.p (eB r31)) [38,42] rfl (fun _ e _ q => ae rfl (bj (lD _ g_0.fNodes (lat l_1 i28) _ e32) rfl rfl rfl (ay (e _ _ rfl) (ay (e _ _ rfl) bm)) ⟨sr, sr, trivial⟩ Tryz.call19 rfl q)) rfl (dL (c33) rfl ?_)
   refine dR 8 rfl (dE rfl ?_)
   exact nx 1 rfl (eX _ (oi h2).symm (gE rfl rfl))
  exact nx 2 rfl (eXi _ (oi h1).symm (gE rfl rfl))
 refine nx 3 rfl (bd h1 fun r1 e2 h1 => ?_)
 refine oK (ge _ g_0.fNodes 30 _ e2) rfl ⟨sr, sr, trivial⟩ Tryz.call10 rfl (nx 2 rfl ?_)
 refine fB [10, 11] h1 rfl (fun c3 h1 => ?_) fun c3 h1 => ?_
 ·exact nx 16 rfl (eX _ (oi h1).symm (gE rfl rfl))
 refine nx 2 rfl (oLl (f := fQ) rfl rfl ?_)
 refine nx 3 rfl (fD [15, 16, 17] h1 rfl (fun c4 h1 => ?_) fun c4 h1 => ?_)
 ·exact nx 10 rfl (eX _ (oi h1).symm (gE rfl rfl))
 refine nx 1 rfl (bd h1 fun r5 e6 h1 => ?_)
 refine oK (ge _ l_1 30 _ e6) rfl ⟨sr, sr, trivial⟩ Tryz.call10 rfl (nx 3 rfl ?_)
 refine fB [20, 21, 22] h1 rfl (fun c7 h1 => ?_) fun c7 h1 => ?_
 ·exact nx 5 rfl (eX _ (oi h1).symm (gE rfl rfl))
 refine nx 1 rfl (bd h1 fun r8 e9 h1 => ?_)
 refine oK (re _ g_0 _ e9) rfl ⟨sr, trivial⟩ Tryz.call17 rfl (nx 3 rfl ?_)
 exact eX _ (oi h1).symm (gE rfl rfl)
end Go.Ab.R06
end
section
set_option linter.unusedVariables false
set_option linter.unusedSimpArgs false
set_option linter.unnecessarySimpa false
namespace Go.Ab.R06
open Go.Ab Go.Ab.RB Go.Lib
theorem Be (l : List Bytes) (s : Bytes) (hb : l.length ≤ cg) : ∀ (k i : Nat), i + k = l.length → Ev2 (fun _ m => fF l s m (i : Int)) (· = if s ∈ l.drop i then .inr true else .inl ()) := by
 have hW := kP
 intro k
 induction k with
 | zero =>
  intro i hi
  refine ax ?_
  simp only [fF]
  exact aC (by omega) (ab (by rw [List.drop_of_length_le (by omega)]; simp))
 | succ k ih =>
  intro i hi
  have h1 : i < l.length := by omega
  refine ax ?_
  simp only [fF]
  refine av (by omega) (am (by omega) ?_)
  rw [bS _ _ h1, List.drop_eq_getElem_cons h1]
  refine aN (fun h => ab (by rw [if_pos (by simp [h])])) (fun h => am (br (by omega) (by omega)) ?_)
  have := ih (i + 1) (by omega)
  rw [Int.natCast_add, Int.natCast_one] at this
  refine dM this fun r hr => ?_
  rw [hr]
  have hm : s ∈ l[i] :: l.drop (i + 1) ↔ s ∈ l.drop (i + 1) := by
   rw [List.mem_cons]; exact ⟨fun q => q.resolve_left fun e => h e.symm, .inr⟩
  simp only [hm]
theorem rG (l : List Bytes) (s : Bytes) (hb : l.length ≤ cg) : Ev2 (fun n _ => hH n l s) (· = decide (s ∈ l)) := by
 simp only [hH]
 have l1 := Be l s hb l.length 0 (by omega)
 rw [List.drop_zero] at l1
 by_cases h : s ∈ l
 ·rw [if_pos h] at l1
  exact ju true (a7 l1) (by simp [h])
 ·rw [if_neg h] at l1
  exact gJ () (a7 l1) (ab (by simp [h]))
theorem kL : ∀ {a b : List Bytes}, Asc a → Asc b → (∀ x ∈ a, x ∈ b) → a.length ≤ b.length ∧ (a.length = b.length → a = b)
 | [], b, _, _, _ => ⟨Nat.zero_le _, fun h => (List.length_eq_zero_iff.1 h.symm).symm⟩
 | x :: a, [], _, _, h => by have := h x (List.mem_cons_self ..); cases this
 | x :: a, y :: b, ha, hb, h => by
  have ha' := List.pairwise_cons.1 ha
  have hb' := List.pairwise_cons.1 hb
  by_cases e : x = y
  ·subst e
   obtain ⟨h1, h2⟩ := kL ha'.2 hb'.2 fun z hz => by
    rcases List.mem_cons.1 (h z (List.mem_cons_of_mem _ hz)) with e | h1
    ·subst e; have := ha'.1 z hz; rw [po] at this; cases this
    ·exact h1
   refine ⟨by simpa using h1, fun hl => by rw [h2 (by simpa using hl)]⟩
  ·have hx : x ∈ b := (List.mem_cons.1 (h x (List.mem_cons_self ..))).resolve_left e
   have hyx := hb'.1 x hx
   obtain ⟨h1, _⟩ := kL ha hb'.2 fun z hz => by
    rcases List.mem_cons.1 (h z hz) with e1 | h1
    ·exfalso
     subst e1
     rcases List.mem_cons.1 hz with e2 | h2
     ·exact e e2.symm
     ·have := uI hyx (ha'.1 z h2)
      rw [po] at this; cases this
    ·exact h1
   simp only [List.length_cons] at h1 ⊢
   exact ⟨by omega, fun hl => by omega⟩
theorem Af (l : List Bytes) (s : Bytes) (hb : l.length ≤ 100000) : ∀ (k i : Nat), i + k = l.length → (∀ x ∈ l.take i, Op.bytesLess x s = true) → Ev2 (fun _ m => fg l s m (i : Int)) (fun r => ∃ j : Nat, r = (j : Int) ∧ j ≤ l.length ∧ (∀ x ∈ l.take j, Op.bytesLess x s = true) ∧ ∀ h : j < l.length, Op.bytesLess l[j] s = false) := by
 intro k
 induction k with
 | zero =>
  intro i hi ho
  refine ax ?_
  simp only [fg]
  refine bu false (aC (by omega) (ab rfl)) (aC (by decide) (ab ⟨i, rfl, by omega, ho, fun h => by omega⟩))
 | succ k ih =>
  intro i hi ho
  have h1 : i < l.length := by omega
  refine ax ?_
  simp only [fg]
  refine bu (Op.bytesLess l[i] s) (av (by omega) (am (by omega) (by rw [bS _ _ h1]; exact ab rfl))) ?_
  cases hq : Op.bytesLess l[i] s
  ·exact aC (by decide) (ab ⟨i, rfl, by omega, ho, fun _ => hq⟩)
  ·refine av rfl (am (br (by omega) (by omega)) ?_)
   have := ih (i + 1) (by omega) (fun x hx => by
    rw [← List.take_append_getElem h1] at hx
    rcases List.mem_append.1 hx with h | h
    ·exact ho x h
    ·rw [List.mem_singleton.1 h]; exact hq)
   rw [Int.natCast_add, Int.natCast_one] at this
   exact this
theorem tI (l : List Bytes) (s : Bytes) (hb : l.length ≤ 100000) (ha : Asc l) : Ev2 (fun n _ => iy n l s) (fun r => Asc r ∧ (∀ x, x ∈ r ↔ x ∈ l ∨ x = s) ∧ r.length ≤ l.length + 1) := by
 simp only [iy]
 refine bu _ (rG l s (by unfold cg; omega)) ?_
 by_cases hs : s ∈ l
 ·rw [decide_eq_true hs]
  exact av rfl (ab ⟨ha, fun x => ⟨.inl, fun h => h.elim id (fun e => e ▸ hs)⟩, by omega⟩)
 ·rw [decide_eq_false hs]
  refine aC (by decide) (bQ _ (a7 (Af l s hb l.length 0 (by omega) (fun x hx => by simp at hx))) (fun r hr => ?_))
  obtain ⟨j, rfl, hj, hlt, hge⟩ := hr
  have e1 : sub l 0 (j : Int) = l.take j := by rw [show (0 : Int) = ((0 : Nat) : Int) from rfl, wz, List.drop_zero]
  have e2 : sub l (j : Int) (l.length : Int) = l.drop j := by rw [jC]; rfl
  rw [e1, e2]
  have l1 : (l.take j).length = j := by rw [List.length_take]; omega
  have l2 : (l.drop j).length = l.length - j := List.length_drop ..
  refine am (by omega) (am (by omega) (am (by simp only [List.length_cons, List.length_nil]; omega) (am (by omega) (am (by simp only [List.length_append, List.length_cons, List.length_nil]; omega) (ab ⟨?_, fun x => ?_, ?_⟩)))))
  ·have hp : Asc (l.take j ++ l.drop j) := by rw [List.take_append_drop]; exact ha
   have hp := List.pairwise_append.1 hp
   have hgt : ∀ y ∈ l.drop j, Op.bytesLess s y = true := by
    intro y hy
    by_cases hjl : j < l.length
    ·rw [List.drop_eq_getElem_cons hjl] at hy hp
     have hsj : Op.bytesLess s l[j] = true := by
      rcases yy l[j] s with h | h | h
      ·rw [hge hjl] at h; cases h
      ·exact absurd (h ▸ List.getElem_mem hjl) hs
      ·exact h
     rcases List.mem_cons.1 hy with e | h
     ·rw [e]; exact hsj
     ·exact uI hsj ((List.pairwise_cons.1 hp.2.1).1 y h)
    ·rw [List.drop_of_length_le (by omega)] at hy; cases hy
   refine List.pairwise_append.2 ⟨List.pairwise_append.2 ⟨hp.1, List.pairwise_singleton _ _, fun x hx y hy => by rw [List.mem_singleton.1 hy]; exact hlt x hx⟩, hp.2.1, fun x hx y hy => ?_⟩
   rcases List.mem_append.1 hx with h | h
   ·exact hp.2.2 x h y hy
   ·rw [List.mem_singleton.1 h]; exact hgt y hy
  ·have hm : x ∈ l ↔ x ∈ l.take j ∨ x ∈ l.drop j := by rw [← List.mem_append, List.take_append_drop]
   rw [List.mem_append, List.mem_append, List.mem_singleton, hm]
   constructor
   ·rintro ((h | h) | h)
    ·exact .inl (.inl h)
    ·exact .inr h
    ·exact .inl (.inr h)
   ·rintro ((h | h) | h)
    ·exact .inl (.inl h)
    ·exact .inr h
    ·exact .inl (.inr h)
  ·simp only [List.length_append, List.length_cons, List.length_nil]; omega
theorem B9 (g : aO) (fr : List Bytes) (he : g.fEdges.length ≤ 100) (hf : fr.length ≤ 100000) : ∀ (k i : Nat) (out : List Bytes), i + k = g.fEdges.length → Asc out → out.length ≤ i → Ev2 (fun n m => fe n g fr m out (i : Int)) (fun r => Asc r ∧ r.length ≤ 100 ∧ ∀ x, x ∈ r ↔ x ∈ out ∨ ∃ e ∈ g.fEdges.drop i, e.fFrom ∈ fr ∧ e.fTo = x) := by
 intro k
 induction k with
 | zero =>
  intro i out hi ha ho
  refine ax ?_
  simp only [fe]
  exact aC (by omega) (ab ⟨ha, by omega, fun x => by rw [List.drop_of_length_le (by omega)]; simp⟩)
 | succ k ih =>
  intro i out hi ha ho
  have h1 : i < g.fEdges.length := by omega
  refine ax ?_
  simp only [fe]
  refine av (by omega) ?_
  rw [bS _ _ h1, List.drop_eq_getElem_cons h1]
  refine bQ (fun r => Asc r ∧ r.length ≤ i + 1 ∧ ∀ x, x ∈ r ↔ x ∈ out ∨ g.fEdges[i].fFrom ∈ fr ∧ g.fEdges[i].fTo = x) (am (by omega) ?_) (fun r hr => ?_)
  ·refine bu _ (rG fr g.fEdges[i].fFrom (by unfold cg; omega)) ?_
   by_cases hq : g.fEdges[i].fFrom ∈ fr
   ·rw [decide_eq_true hq]
    refine av rfl (am (by omega) (bQ _ (tI out g.fEdges[i].fTo (by omega) ha) (fun r hr => ab ⟨hr.1, by omega, fun x => ?_⟩)))
    rw [hr.2.1 x]
    exact ⟨fun h => h.elim .inl (fun e => .inr ⟨hq, e.symm⟩), fun h => h.elim .inl (fun e => .inr e.2.symm)⟩
   ·rw [decide_eq_false hq]
    exact aC (by decide) (ab ⟨ha, by omega, fun x => ⟨.inl, fun h => h.elim id (fun e => absurd e.1 hq)⟩⟩)
  ·refine am (br (by omega) (by omega)) ?_
   have := ih (i + 1) r (by omega) hr.1 hr.2.1
   rw [Int.natCast_add, Int.natCast_one] at this
   refine dM this fun q hq => ⟨hq.1, hq.2.1, fun x => ?_⟩
   rw [hq.2.2 x, hr.2.2 x]
   simp only [List.mem_cons, exists_eq_or_imp]
   exact or_assoc
theorem y6 (g : aO) (fr : List Bytes) (he : g.fEdges.length ≤ 100) (hf : fr.length ≤ 100000) : Ev2 (fun n _ => kr n g fr) (fun r => Asc r ∧ r.length ≤ 100 ∧ ∀ x, x ∈ r ↔ ∃ e ∈ g.fEdges, e.fFrom ∈ fr ∧ e.fTo = x) := by
 simp only [kr]
 refine bQ _ (a7 (B9 g fr he hf g.fEdges.length 0 [] (by omega) .nil (Nat.le_refl _))) (fun r hr => ab ⟨hr.1, hr.2.1, fun x => ?_⟩)
 rw [hr.2.2 x, List.drop_zero]
 simp
theorem BI (g : aO) (fr : List Bytes) (hn : g.fNodes.length ≤ 1000) (hf : fr.length ≤ 1000) : ∀ (k i : Nat) (out : List Bytes), i + k = fr.length → Asc out → out.length ≤ i → Ev2 (fun n m => dS n g fr m out (i : Int)) (fun r => Asc r ∧ ∀ x, x ∈ r ↔ x ∈ out ∨ x ∈ fr.drop i ∧ x ∈ g.fNodes) := by
 intro k
 induction k with
 | zero =>
  intro i out hi ha ho
  refine ax ?_
  simp only [dS]
  exact aC (by omega) (ab ⟨ha, fun x => by rw [List.drop_of_length_le (by omega)]; simp⟩)
 | succ k ih =>
  intro i out hi ha ho
  have h1 : i < fr.length := by omega
  refine ax ?_
  simp only [dS]
  refine av (by omega) ?_
  rw [bS _ _ h1, List.drop_eq_getElem_cons h1]
  refine bQ (fun r => Asc r ∧ r.length ≤ i + 1 ∧ ∀ x, x ∈ r ↔ x ∈ out ∨ fr[i] ∈ g.fNodes ∧ fr[i] = x) (am (by omega) ?_) (fun r hr => ?_)
  ·refine bu _ (rG g.fNodes fr[i] (by unfold cg; omega)) ?_
   by_cases hq : fr[i] ∈ g.fNodes
   ·rw [decide_eq_true hq]
    refine av rfl (am (by omega) (bQ _ (tI out fr[i] (by omega) ha) (fun r hr => ab ⟨hr.1, by omega, fun x => ?_⟩)))
    rw [hr.2.1 x]
    exact ⟨fun h => h.elim .inl (fun e => .inr ⟨hq, e.symm⟩), fun h => h.elim .inl (fun e => .inr e.2.symm)⟩
   ·rw [decide_eq_false hq]
    exact aC (by decide) (ab ⟨ha, by omega, fun x => ⟨.inl, fun h => h.elim id (fun e => absurd e.1 hq)⟩⟩)
  ·refine am (br (by omega) (by omega)) ?_
   have := ih (i + 1) r (by omega) hr.1 hr.2.1
   rw [Int.natCast_add, Int.natCast_one] at this
   refine dM this fun q hq => ⟨hq.1, fun x => ?_⟩
   rw [hq.2 x, hr.2.2 x, List.mem_cons]
   constructor
   ·rintro ((h | ⟨h, e⟩) | h)
    ·exact .inl h
    ·subst e; exact .inr ⟨.inl rfl, h⟩
    ·exact .inr ⟨.inr h.1, h.2⟩
   ·rintro (h | ⟨h | h, h2⟩)
    ·exact .inl (.inl h)
    ·subst h; exact .inl (.inr ⟨h2, rfl⟩)
    ·exact .inr ⟨h, h2⟩
theorem xQ (L : List Bytes) (hL : L.length ≤ 1000) : ∀ (k i : Nat) (out : List Bytes), i + k = L.length → Asc out → out.length ≤ 2000 + i → Ev2 (fun n m => dW n L m out (i : Int)) (fun r => Asc r ∧ ∀ x, x ∈ r ↔ x ∈ out ∨ x ∈ L.drop i) := by
 intro k
 induction k with
 | zero =>
  intro i out hi ha ho
  refine ax ?_
  simp only [dW]
  exact aC (by omega) (ab ⟨ha, fun x => by rw [List.drop_of_length_le (by omega)]; simp⟩)
 | succ k ih =>
  intro i out hi ha ho
  have h1 : i < L.length := by omega
  refine ax ?_
  simp only [dW]
  refine av (by omega) (am (by omega) ?_)
  rw [bS _ _ h1, List.drop_eq_getElem_cons h1]
  refine bQ _ (tI out L[i] (by omega) ha) (fun r hr => am (br (by omega) (by omega)) ?_)
  have := ih (i + 1) r (by omega) hr.1 (by omega)
  rw [Int.natCast_add, Int.natCast_one] at this
  refine dM this fun q hq => ⟨hq.1, fun x => ?_⟩
  rw [hq.2 x, hr.2.1 x, List.mem_cons]
  exact or_assoc
theorem BG (g : aO) (S : Bytes → Prop) (hn : g.fNodes.length ≤ 30) (he : g.fEdges.length ≤ 100) (hA : Asc g.fNodes) (hv : ∀ e ∈ g.fEdges, e.fTo ∈ g.fNodes) : ∀ (k : Nat) (out : List Bytes), g.fNodes.length ≤ out.length + k → Asc out → (∀ x ∈ out, x ∈ g.fNodes) → (∀ x, S x → x ∈ out) → (∀ x ∈ out, Rg g.fEdges S x) → Ev2 (fun n m => dO n g m out) (fun r => ∃ a, r = .inr a ∧ Asc a ∧ ∀ x, x ∈ a ↔ Rg g.fEdges S x) := by
 intro k
 induction k with
 | zero =>
  intro out hk ha h1 h2 h3
  have hl := (kL ha hA h1).1
  have e := (kL ha hA h1).2 (by omega)
  refine ax ?_
  simp only [dO]
  refine bQ _ (y6 g out he (by omega)) (fun nx hnx => ?_)
  refine bQ _ (a7 (xQ nx (by omega) nx.length 0 out (by omega) ha (by omega))) (fun mo hmo => ?_)
  have hin : ∀ x ∈ mo, x ∈ out := by
   intro x hx
   rcases (hmo.2 x).1 hx with h | h
   ·exact h
   ·rw [List.drop_zero] at h
    obtain ⟨ed, he1, _, e2⟩ := (hnx.2.2 x).1 h
    rw [e]; subst e2; exact hv ed he1
  have hl2 := (kL hmo.1 ha hin).1
  have hl3 := (kL ha hmo.1 (fun x hx => (hmo.2 x).2 (.inl hx))).1
  refine av (by omega) (ab ⟨out, rfl, ha, fun x => ⟨h3 x, fun hr => ?_⟩⟩)
  induction hr with
  | base h0 => exact h2 _ h0
  | step _ hy ih =>
   unfold iG at hy
   obtain ⟨ed, he1, rfl⟩ := List.mem_map.1 hy
   rw [e]; exact hv ed (List.mem_filter.1 he1).1
 | succ k ih =>
  intro out hk ha h1 h2 h3
  have hl := (kL ha hA h1).1
  refine ax ?_
  simp only [dO]
  refine bQ _ (y6 g out he (by omega)) (fun nx hnx => ?_)
  refine bQ _ (a7 (xQ nx (by omega) nx.length 0 out (by omega) ha (by omega))) (fun mo hmo => ?_)
  rw [List.drop_zero] at hmo
  have hsup : ∀ x ∈ out, x ∈ mo := fun x hx => (hmo.2 x).2 (.inl hx)
  have hl3 := kL ha hmo.1 hsup
  refine aN (fun h => ab ⟨out, rfl, ha, fun x => ⟨h3 x, fun hr => ?_⟩⟩) (fun h => ?_)
  ·have e : out = mo := hl3.2 (by omega)
   induction hr with
   | base h0 => exact h2 _ h0
   | step _ hy ih =>
    unfold iG at hy
    obtain ⟨ed, he1, rfl⟩ := List.mem_map.1 hy
    have h4 := List.mem_filter.1 he1
    rw [e]
    exact (hmo.2 _).2 (.inr ((hnx.2.2 _).2 ⟨ed, h4.1, by rw [of_decide_eq_true h4.2]; exact ih, rfl⟩))
  ·refine ih mo (by omega) hmo.1 (fun x hx => ?_) (fun x hx => hsup x (h2 x hx)) (fun x hx => ?_)
   ·rcases (hmo.2 x).1 hx with h4 | h4
    ·exact h1 x h4
    ·obtain ⟨ed, he1, _, e2⟩ := (hnx.2.2 x).1 h4
     subst e2; exact hv ed he1
   ·rcases (hmo.2 x).1 hx with h4 | h4
    ·exact h3 x h4
    ·obtain ⟨ed, he1, hf1, e2⟩ := (hnx.2.2 x).1 h4
     refine .step (h3 _ hf1) ?_
     unfold iG
     exact List.mem_map.2 ⟨ed, List.mem_filter.2 ⟨he1, decide_eq_true rfl⟩, e2⟩
theorem w7 (g : aO) (fr : List Bytes) (hn : g.fNodes.length ≤ 30) (he : g.fEdges.length ≤ 100) (hf : fr.length ≤ 1000) (hA : Asc g.fNodes) (hv : ∀ e ∈ g.fEdges, e.fTo ∈ g.fNodes) :
  Ev2 (fun n _ => jS n g fr) (fun a => Asc a ∧ ∀ x, x ∈ a ↔ Rg g.fEdges (fun y => y ∈ g.fNodes ∧ y ∈ fr) x) := by
 simp only [jS, kA]
 refine bQ (fun a => Asc a ∧ ∀ x, x ∈ a ↔ Rg g.fEdges (fun y => y ∈ g.fNodes ∧ y ∈ fr) x) (bQ (fun a => Asc a ∧ ∀ x, x ∈ a ↔ Rg g.fEdges (fun y => y ∈ g.fNodes ∧ y ∈ fr) x) ?_ (fun r hr => ab hr)) (fun r hr => ab hr)
 simp only [jA]
 refine bQ _ (a7 (BI g fr (by omega) hf fr.length 0 [] (by omega) .nil (Nat.le_refl _))) (fun out ho => ?_)
 rw [List.drop_zero] at ho
 have hm : ∀ x, x ∈ out ↔ x ∈ g.fNodes ∧ x ∈ fr := fun x => by
  rw [ho.2 x]
  exact ⟨fun h => h.elim (fun h => by cases h) (fun h => ⟨h.2, h.1⟩), fun h => .inr ⟨h.2, h.1⟩⟩
 have h4 := BG g (fun y => y ∈ g.fNodes ∧ y ∈ fr) hn he hA hv g.fNodes.length out (by omega) ho.1 (fun x hx => ((hm x).1 hx).1) (fun x hx => (hm x).2 hx) (fun x hx => .base ((hm x).1 hx))
 refine kB (dM (a7 h4) fun r hr => ?_)
 obtain ⟨a, rfl, h5⟩ := hr
 exact h5
theorem BK (g : aO) (hn : g.fNodes.length ≤ 30) : ∀ (k i : Nat), i + k = g.fNodes.length + 1 → 1 ≤ i → Ev2 (fun _ m => en g m (i : Int)) (fun r => (∃ y, r = .inr y ∧ y ≠ 0) ∨ r = .inl () ∧ ∀ q (h : q + 1 < g.fNodes.length), i ≤ q + 1 → Op.bytesLess g.fNodes[q] g.fNodes[q + 1] = true) := by
 intro k
 induction k with
 | zero =>
  intro i hi h0
  refine ax ?_
  simp only [en]
  exact aC (by omega) (ab (.inr ⟨rfl, fun q h hq => by omega⟩))
 | succ k ih =>
  intro i hi h0
  refine ax ?_
  simp only [en]
  refine aN (fun h => ?_) (fun h => ab (.inr ⟨rfl, fun q h hq => by omega⟩))
  have h1 : i < g.fNodes.length := by omega
  refine am (br (by omega) (by omega)) (am (by omega) (am (by omega) ?_))
  have e1 : lat g.fNodes ((i : Int) - 1) = g.fNodes[i - 1] := by
   rw [← bS g.fNodes (i - 1) (by omega)]; congr 1; omega
  rw [e1, bS _ _ h1]
  cases hq : Op.bytesLess g.fNodes[i - 1] g.fNodes[i]
  ·exact av rfl (ab (.inl ⟨1, rfl, by decide⟩))
  ·refine aC (by decide) (am (br (by omega) (by omega)) ?_)
   have := ih (i + 1) (by omega) (by omega)
   rw [Int.natCast_add, Int.natCast_one] at this
   refine dM this fun r hr => hr.imp id fun ⟨a1, a2⟩ => ⟨a1, fun q h h2 => ?_⟩
   by_cases e : i = q + 1
   ·subst e; simpa using hq
   ·exact a2 q h (by omega)
theorem A8 (g : aO) (hn : g.fNodes.length ≤ 30) (he : g.fEdges.length ≤ 100) : ∀ (k i : Nat), i + k = g.fEdges.length → Ev2 (fun n m => eD n g m (i : Int)) (fun r => (∃ y, r = .inr y ∧ y ≠ 0) ∨ r = .inl () ∧ ∀ e ∈ g.fEdges.drop i, e.fTo ∈ g.fNodes) := by
 intro k
 induction k with
 | zero =>
  intro i hi
  refine ax ?_
  simp only [eD]
  exact aC (by omega) (ab (.inr ⟨rfl, fun e h => by rw [List.drop_of_length_le (by omega)] at h; cases h⟩))
 | succ k ih =>
  intro i hi
  have h1 : i < g.fEdges.length := by omega
  refine ax ?_
  simp only [eD]
  refine av (by omega) ?_
  rw [bS _ _ h1, List.drop_eq_getElem_cons h1]
  refine bQ (fun r => r = true ∨ r = false ∧ g.fEdges[i].fTo ∈ g.fNodes) (am (by omega) ?_) (fun r hr => ?_)
  ·refine bu _ (rG g.fNodes g.fEdges[i].fFrom (by unfold cg; omega)) ?_
   refine aN (fun _ => ab (.inl rfl)) (fun _ => am (by omega) (bu _ (rG g.fNodes g.fEdges[i].fTo (by unfold cg; omega)) (ab ?_)))
   by_cases hq : g.fEdges[i].fTo ∈ g.fNodes
   ·exact .inr ⟨by rw [decide_eq_true hq]; rfl, hq⟩
   ·exact .inl (by rw [decide_eq_false hq]; rfl)
  ·rcases hr with rfl | ⟨rfl, hr⟩
   ·exact av rfl (ab (.inl ⟨9, rfl, by decide⟩))
   ·refine aC (by decide) ?_
    refine bQ (fun _ => True) ?_ (fun x _ => ?_)
    ·refine aN (fun h => am (br (by omega) (by omega)) (am (by omega) (am (by omega) ?_))) (fun _ => ab trivial)
     simp only [lU]
     refine bQ (fun _ => True) (bQ (fun _ => True) ?_ (fun _ _ => ab trivial)) (fun _ _ => ab trivial)
     exact aN (fun _ => ab trivial) (fun _ => aN (fun _ => ab trivial) (fun _ => ab trivial))
    ·refine aN (fun _ => ab (.inl ⟨1, rfl, by decide⟩)) (fun _ => am (br (by omega) (by omega)) ?_)
     have := ih (i + 1) (by omega)
     rw [Int.natCast_add, Int.natCast_one] at this
     refine dM this fun r hr2 => hr2.imp id fun ⟨a1, a2⟩ => ⟨a1, fun e h => ?_⟩
     rcases List.mem_cons.1 h with e1 | h
     ·rw [e1]; exact hr
     ·exact a2 e h
theorem xx {l : List Bytes} (h : ∀ q (h : q + 1 < l.length), Op.bytesLess l[q] l[q + 1] = true) : Asc l := by
 refine List.pairwise_iff_getElem.2 fun i j hi hj hij => ?_
 obtain ⟨d, rfl⟩ : ∃ d, j = i + 1 + d := ⟨j - i - 1, by omega⟩
 induction d with
 | zero => exact h i hj
 | succ d ih => exact uI (ih (by omega) (by omega)) (h (i + 1 + d) hj)
theorem zY (g : aO) (hn : g.fNodes.length ≤ 30) (he : g.fEdges.length ≤ 100) : Ev2 (fun n _ => jG n g) (fun r => r = 0 → Asc g.fNodes ∧ ∀ e ∈ g.fEdges, e.fTo ∈ g.fNodes) := by
 simp only [jG]
 refine aC (by omega) ?_
 refine kB (dM (a7 (BK g hn g.fNodes.length 1 (by omega) (by omega))) fun r hr => ?_)
 rcases hr with ⟨y, rfl, hy⟩ | ⟨rfl, h1⟩
 ·exact fun h => absurd h hy
 ·refine kB (dM (a7 (A8 g hn he g.fEdges.length 0 (by omega))) fun r hr => ?_)
  rcases hr with ⟨y, rfl, hy⟩ | ⟨rfl, h2⟩
  ·exact fun h => absurd h hy
  ·exact ab fun _ => ⟨xx fun q h => h1 q h (by omega), fun e h => h2 e (by rw [List.drop_zero]; exact h)⟩
theorem Cr (g : aO) (l a : List Bytes) (hn : g.fNodes.length ≤ 30) (hl : l.length ≤ 30) (ha : a.length ≤ 1000) (hm : ∀ x ∈ l, x ∈ g.fNodes → x ∈ a) : ∀ (k i : Nat), i + k = l.length → Ev2 (fun n m => cC n g l a m (i : Int)) (· = .inl ()) := by
 intro k
 induction k with
 | zero =>
  intro i hi
  refine ax ?_
  simp only [cC]
  exact aC (by omega) (ab rfl)
 | succ k ih =>
  intro i hi
  have h1 : i < l.length := by omega
  refine ax ?_
  simp only [cC]
  refine av (by omega) ?_
  rw [bS _ _ h1]
  refine bu false (am (by omega) (bu _ (xS g.fNodes l[i] (by unfold cg; omega)) ?_)) (aC (by decide) (am (br (by omega) (by omega)) ?_))
  ·by_cases hq : l[i] ∈ g.fNodes
   ·rw [decide_eq_true hq]
    refine av rfl (am (by omega) (bu _ (xS a l[i] (by unfold cg; omega)) (ab ?_)))
    rw [decide_eq_true (hm _ (List.getElem_mem h1) hq)]; rfl
   ·rw [decide_eq_false hq]
    exact aC (by decide) (ab rfl)
  ·have := ih (i + 1) (by omega)
   rw [Int.natCast_add, Int.natCast_one] at this
   exact this
theorem sI (g : aO) (fr : List Bytes) (hn : g.fNodes.length ≤ 30) (he : g.fEdges.length ≤ 100) (hf : fr.length ≤ 100000) (hA : Asc g.fNodes) (hv : ∀ e ∈ g.fEdges, e.fTo ∈ g.fNodes) :
  Ev2 (fun n _ => eg n g fr) (fun a => Asc a ∧ a.length ≤ 30 ∧ ∀ x, x ∈ a ↔ Rg g.fEdges (fun y => y ∈ g.fNodes ∧ y ∈ fr) x) := by
 simp only [eg]
 refine bQ _ (xW g fr hn he hf hv) (fun a ha => ab ?_)
 obtain ⟨⟨p, rfl⟩, h2⟩ := ha
 have hl : (g.fNodes.filter p).length ≤ g.fNodes.length := List.length_filter_le ..
 refine ⟨hA.filter _, by omega, fun x => ?_⟩
 rw [h2 x]
 refine ⟨fun h => h.2, fun h => ⟨?_, h⟩⟩
 cases h with
 | base h0 => exact h0.1
 | step _ hy =>
  unfold iG at hy
  obtain ⟨ed, he1, rfl⟩ := List.mem_map.1 hy
  exact hv ed (List.mem_filter.1 he1).1
theorem u6 (g : aO) (l : List Bytes) (hg : aO.Bd g) (hl : l.length ≤ cg) : Ev2 (fun n _ => gp n g l) (· = true) := by
 have b1 := hg.bNodes
 simp only [gp]
 refine bQ (fun r => r = false → g.fNodes.length ≤ 30 ∧ g.fEdges.length ≤ 100 ∧ l.length ≤ 30 ∧ Asc g.fNodes ∧ ∀ e ∈ g.fEdges, e.fTo ∈ g.fNodes) ?_ (fun r hr => ?_)
 ·refine bu _ (lw g.fNodes 30 (by omega)) ?_
  cases hq : jh g.fNodes 30
  ·exact av rfl (ab (fun h => by cases h))
  ·have h1 := (lP hq).1
   refine aC (by decide) (aN (fun _ => ab (fun h => by cases h)) (fun h2 => ?_))
   refine bu _ (lw l 30 hl) ?_
   cases hq2 : jh l 30
   ·exact av rfl (ab (fun h => by cases h))
   ·have h3 := (lP hq2).1
    refine aC (by decide) (bQ _ (zY g (by omega) (by omega)) (fun r hr => ab (fun h => ?_)))
    have hr0 : r = 0 := by
     by_cases e : r = 0
     ·exact e
     ·rw [decide_eq_false e] at h; cases h
    exact ⟨by omega, by omega, by omega, hr hr0⟩
 ·cases r
  ·obtain ⟨n1, n2, n3, hA, hv⟩ := hr rfl
   refine aC (by decide) (bQ _ (sI g l n1 n2 (by omega) hA hv) (fun a ha => ?_))
   refine gJ () (a7 (Cr g l a n1 n3 (by omega) (fun x hx hxn => (ha.2.2 x).2 (.base ⟨hxn, hx⟩)) l.length 0 (by omega))) ?_
   refine bu true ?_ (ab rfl)
   refine bQ _ (w7 g l n1 n2 (by omega) hA hv) (fun c hc => ?_)
   have e1 : a = c := tr ha.1 hc.1 fun x => by rw [ha.2.2 x, hc.2 x]
   refine bu _ (qO a c (by unfold cg; omega)) ?_
   rw [decide_eq_true e1]
   refine av rfl (bQ _ (sI g a n1 n2 (by omega) hA hv) (fun a2 ha2 => ?_))
   have hin : ∀ x ∈ a, x ∈ g.fNodes := by
    intro x hx
    have h := (ha.2.2 x).1 hx
    cases h with
    | base h0 => exact h0.1
    | step _ hy =>
     unfold iG at hy
     obtain ⟨ed, he1, rfl⟩ := List.mem_map.1 hy
     exact hv ed (List.mem_filter.1 he1).1
   have e2 : a2 = a := tr ha2.1 ha.1 fun x => by
    rw [ha2.2.2 x]
    refine ⟨fun h => (ha.2.2 x).2 (h.mono fun y hy => (ha.2.2 y).1 hy.2), fun h => .base ⟨hin x h, h⟩⟩
   refine bu _ (qO a2 a (by unfold cg; omega)) ?_
   rw [decide_eq_true e2]
   exact av rfl (bu _ li (ab rfl))
  ·exact av rfl (bu _ li (ab rfl))
end Go.Ab.R06
end
section
set_option linter.unusedVariables false
set_option linter.unusedSimpArgs false
set_option linter.unnecessarySimpa false
namespace Go.Ab.R06
open Go.Proofs Go.Ab Go.Ab.RB
theorem xN {n : Nat} {a : PV} (h1 : WTf tt n 22 a.cells) (h2 : a = mkE (((look tt 22).map (·.k.isAgg)).getD false) a.cells) : ∃ l : List Bytes, a = eL eS l ∧ l.length ≤ cg := by
 obtain ⟨l, e1, b1, _⟩ := gA eS (fun y => y.length ≤ cg) rfl h1 (fun m x hm k1 k2 => by
  cases m with
  | zero => exact k1.elim
  | succ m =>
   obtain ⟨y, e, b⟩ := Go.Ab.fK rfl k1
   exact ⟨y, ke e k2, b⟩)
 have b1 : l.length * 16 ≤ cg := b1
 exact ⟨l, ke e1 h2, by omega⟩
theorem ve (qs : List PV) (h : WTa tt [32, 22] qs) : aF Tryz.prog 5 qs (· = .p (.val (.bool true))) := by
 match qs, h with
 | [a, b], ⟨⟨n, h1, h2⟩, ⟨m, k1, k2⟩, _⟩ =>
  obtain ⟨g, e1, bg⟩ := aO.dec n _ h1
  obtain rfl : a = .agg (aO.cs g) := by rw [h2, e1]; rfl
  obtain ⟨l, rfl, b1⟩ := xN k1 k2
  obtain ⟨n, r, hr, rfl⟩ := vz (u6 g l bg b1)
  exact mh n g l true hr
end Go.Ab.R06
end
section
set_option linter.unusedSimpArgs false
set_option linter.unnecessarySimpa false
namespace Go.Proofs.YtgdcfenbmcflkaaGreatDoor.targetCloses
open Go.ChangeShapes Go.WideShapes Go.ChangeAt Go.RowKit
set_option linter.unusedVariables false
theorem own : ownKnob Tryz.prog.godebug = none := by kernel_rfl
theorem laid : laidOutB Tryz.prog = true := by kernel_rfl
theorem mapped : mapsRowed Tryz.prog = true := by kernel_rfl
theorem full : ((List.range Tryz.prog.types.size).all fun t => match Tryz.prog.underlying t with | some (.slice e) => decide (0 < Tryz.prog.cellsOf e) | _ => true) = true := by kernel_rfl
theorem rowed : (([32, 22] : List Nat).all fun t => decide (t < Tryz.prog.types.size)) = true := by kernel_rfl
theorem plain : ([32, 22, 9, 30, 56] : List Nat).all (Go.Ab.jm Go.Ab.tt [32, 22, 9, 30, 56]) = true := by kernel_rfl
theorem globs : Go.Ab.qJ Tryz.prog Rows.targetClosesRow.laid = true := by kernel_rfl
noncomputable def laidW0 (os : Os) : World :=
  { World.doorLaid Tryz.prog 72 os with heap := (World.doorLaid Tryz.prog 72 os).heap.modify 1 fun
      | .cells _ t frozen => .cells (Go.Ab.uq.map Go.Ab.GC.val).toArray t frozen
      | o => o }
noncomputable def laidW (os : Os) : World := laidW0 os
theorem laid_met (os : Os) : laidMetH Tryz.prog Rows.targetClosesRow.laid ((laidW os).forCall (fun _ _ => 0) ⟨#[], #[.agg #[.slice none 0 0, .slice none 0 0], .slice none 0 0], []⟩).memory :=
  laidMetH_of_parts3 (fuel := 8) (laidMet_of_run' 8 (by kernel_rfl) (by kernel_rfl)) (by kernel_rfl) (by kernel_rfl)
theorem reads (os : Os) {H : Type} (enc : TypeId × Value → H) : (DataW.whole enc Tryz.prog ((laidW os).forCall (fun _ _ => 0) ⟨#[], #[.agg #[.slice none 0 0, .slice none 0 0], .slice none 0 0], []⟩).memory Tryz.f5.params.toList Rows.targetClosesSpec.vars false #[.agg #[.slice none 0 0, .slice none 0 0], .slice none 0 0].toList 8).isSome = true := by kernel_rfl
set_option maxRecDepth 100000 in
theorem lifted (os : Os) (started : os.Started) (H : Type) (enc : TypeId × Value → H) (F : Stop.Interp) :
    ReturnsInHanded {} Tryz.checked os 5 .any ((OpenSpec.ofChange Rows.targetClosesSpec).preRow enc Tryz.prog Tryz.f5 Rows.targetClosesRow.domain false Rows.targetClosesRow.laid) (((OpenSpec.ofChange Rows.targetClosesSpec).at F).post enc Tryz.prog Tryz.f5 false true false false) := by
  obtain ⟨x, hx⟩ := Option.isSome_iff_exists.1 (reads os enc)
  refine returnsInHanded_of_row (C := Tryz.checked) (s := OpenSpec.ofChange Rows.targetClosesSpec) own started (by kernel_rfl) Tryz.func5
    (witness_row_atRef (enc := enc) (C := Tryz.checked) false (laidW os) #[.agg #[.slice none 0 0, .slice none 0 0], .slice none 0 0] rfl (by kernel_rfl) (by kernel_rfl) (by kernel_rfl)
      (OpenSpec.preRow_of_cond 8 hx rfl (fun k hk => by cases hk) (by kernel_rfl) (laid_met os))) ?_
  intro W base args ds gs before hval0 hW _ _ hsz0 hL hsh _
  rw [MakeChecks.laidMetH_plain _ _ _ (by kernel_rfl)] at hL
  have hgl := Go.Ab.tl globs hL hsh
  have hval : ∀ (j : Nat) t v, Tryz.f5.params[j]? = some t → args[j]? = some v → Value.okWide Tryz.prog W .any base t v := hval0
  have hW' := hW
  obtain ⟨p, q, hA0, hV, rfl, hfz, hnd⟩ := hW
  have hA : DataW.TrodAll enc Tryz.prog W 0 (fun _ => true) true Tryz.f5.params.toList args.toList ds p := hA0
  have hsz : (DataW.weightsEach Tryz.prog (Tryz.f5.params.toList ++ Rows.targetClosesSpec.plain.varTypes Tryz.prog) (ds ++ gs)).all (· ≤ reachBytes) = true := hsz0
  rw [Tryz.params5] at hA hval hsz
  obtain ⟨rfl, rfl⟩ := trodVars_none hV
  clear hA0 hval0 hV hsz0
  rw [List.append_nil] at hsz
  have hA2 : DataW.TrodAll enc Tryz.prog W 0 (fun _ => true) true [32, 22] args.toList ds p := hA
  have hlt : ∀ x ∈ p, x.block < W.heap.size := fun x hx => hW'.lt x (List.mem_append_left _ hx)
  obtain ⟨qs, g1, g2, g3⟩ := Go.Ab.nf Go.Ab.good plain (by decide) (fun j t v hj hv => hval j t v (by simpa using hj) (by simpa using hv)) hA2 (fun w hw => of_decide_eq_true (List.all_eq_true.1 hsz w hw))
  have hds : ∃ d0 d1, ds = [d0, d1] := by
    obtain ⟨v0, vs0, d0, ds0, p0, q0, _, e0, _, _, r0⟩ := trodAll_cons hA2
    obtain ⟨v1, vs1, d1, ds1, p1, q1, _, e1, _, _, r1⟩ := trodAll_cons r0
    obtain ⟨_, z, _⟩ := trodAll_nil r1
    exact ⟨d0, d1, by rw [e0, e1, z]⟩
  obtain ⟨d0, d1, rfl⟩ := hds
  refine (Go.Ab.grown_of (Go.Ab.R06.ve qs g3) W hgl (by simpa using g1.symm) (fun i c v hc hv => g2 i c v hc (by simpa using hv))).mono fun e W' ⟨he, hg⟩ => ?_
  subst he
  exact ⟨_, rfl, Go.Ab.pB (pa := p) (pv := []) hW' (fun _ _ _ => (trodAll_cons_mk (shut_bool Tryz.underlying4 _) trodAll_mk0)) (fun sp hsp => Go.Ab.pF laid mapped full hg rowed hlt hA2 sp (fun x hx => hsp x (List.mem_append_left _ hx))) (fun _ _ => rfl) rfl
    hg (ok_one (by kernel_rfl) rfl (okWide_bool_mk Tryz.underlying4 _))⟩
theorem said : Rows.TargetClosesSaid :=
  OpenClaim.holds_of_cond 5 Tryz.f5 rfl rfl rfl rfl rfl rfl rfl ⟨rfl, rfl, rfl, rfl, rfl⟩ rfl rfl rfl rfl rfl (by kernel_rfl) Tryz.func5 (by kernel_rfl)
    (of_decide_eq_true (by kernel_rfl)) (by unfold Func.isWrapper; first | (rw [if_pos (by decide +kernel)]; kernel_rfl) | (rw [if_neg (by decide +kernel)]; exact ⟨rfl, rfl⟩))
    (fun os started H enc _ F => by rw [OpenClaim.pre_eq_preRow]; exact lifted os started H enc F)
theorem plainly (f : FuncId) (fn : Func) (hf : Tryz.pinned.checked.prog.funcNamed "provision/provisionlaw42.TargetCloses" = some f) (hfn : Tryz.pinned.checked.prog.funcs[f]? = some fn) :
    true = Tryz.pinned.checked.prog.looks [] ∧ ∀ (j : Nat) t, fn.params[j]? = some t → Tryz.pinned.checked.prog.wantsStandIn t = false := by
  obtain rfl : f = 5 := Option.some.inj ((show Tryz.prog.funcNamed "provision/provisionlaw42.TargetCloses" = some 5 by kernel_rfl).symm.trans hf) |>.symm
  obtain rfl : fn = Tryz.f5 := (Option.some.inj (Tryz.func5.symm.trans hfn)).symm
  refine ⟨by kernel_rfl, fun j t ht => ?_⟩
  rw [Tryz.params5] at ht
  have hm : t ∈ ([32, 22] : List Nat) := by have := Array.mem_of_getElem? ht; first | (simp at this ⊢; omega) | simpa using this
  have hall : (([32, 22] : List Nat).all fun u => !Tryz.prog.wantsStandIn u) = true := by kernel_rfl
  exact (show Tryz.prog.wantsStandIn t = false by simpa using List.all_eq_true.1 hall t hm)
theorem proved : Rows.TargetClosesCardSaid :=
  Claim7.holds_tied_plain_at .later [] _ _ _ _ said (fun _ h => by cases h) (by kernel_rfl) (fun _ h => by cases h) targetCloses_row_tie rfl ⟨rfl, rfl⟩ (by kernel_rfl) rfl plainly (by kernel_rfl)
#print axioms proved
end Go.Proofs.YtgdcfenbmcflkaaGreatDoor.targetCloses
end
