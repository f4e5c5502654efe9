/- The statement TargetWhole is proved, and its tied card: for all inputs that are Go values of the law's parameters' types, the law returns true and never panics. No further condition. -/
import Derived.Lib.MapLaws
import Derived.Lib.ValidLaws
import Derived.Lib.IndexLaws
import Derived.Test.YtgdcfenbmcflkaaGreatDoorCards
import Derived.Test.YtgdcfenbmcflkaaGreatDoorTie
import Derived.WalkKit
import Derived.SizedLaws
import Derived.ProofKit
import Derived.OpenShut
import Derived.ShutString
import Derived.LaidMore
import Derived.Stop.Joined
import Derived.Deep.DeepHandedRow
import Derived.Deep.DeepWitnessRowRef
import Derived.Test.YtgdcfenbmcflkaaGreatDoorZ42Aa
import Derived.Test.YtgdcfenbmcflkaaGreatDoorZ42Ab
import Derived.Test.YtgdcfenbmcflkaaGreatDoorZ42Ac
import Derived.Test.YtgdcfenbmcflkaaGreatDoorZ42Ad
import Derived.Test.YtgdcfenbmcflkaaGreatDoorZ42Ae
section
set_option linter.unusedVariables false
set_option linter.unusedSimpArgs false
set_option linter.unnecessarySimpa false
namespace Go.Ab.R06
open Go.Ab Go.Ab.RB
section
variable {α β : Type} {P : α → Prop}
theorem aT {g : Nat → Nat → Option β} {k : Nat → Nat → β → Option α} (x : β) (h : Ev2 g (· = x)) (hk : Ev2 (fun n m => k n m x) P) : Ev2 (fun n m => (g n m).bind (k n m)) P :=
 bQ (· = x) h fun y hy => by subst hy; exact hk
end
def vG (b : UInt8) : Bool := (decide (97 ≤ b.toNat) && decide (b.toNat ≤ 122)) || (decide (65 ≤ b.toNat) && decide (b.toNat ≤ 90)) || decide (b.toNat = 95)
def md (b : UInt8) : Bool := decide (48 ≤ b.toNat) && decide (b.toNat ≤ 57)
def idB (b : UInt8) : Bool := vG b || md b
def eN : Bytes → Bool
 | [] => false
 | b :: r => decide ((b :: r).length ≤ 64) && vG b && r.all idB
def tS (s : Bytes) (i : Nat) : Bool := vG (s.getD i 0) || (decide (i ≠ 0) && md (s.getD i 0))
def pg (p : Nat → Bool) : Nat → Nat → Bool
 | _, 0 => true
 | i, k + 1 => p i && pg p (i + 1) k
theorem rl (p : Nat → Bool) : ∀ (k i : Nat), pg p i k = true ↔ ∀ j, i ≤ j → j < i + k → p j = true
 | 0, i => by simp [pg]; intro j h1 h2; omega
 | k + 1, i => by
  rw [pg, Bool.and_eq_true, rl p k (i + 1)]
  constructor
  ·rintro ⟨h1, h2⟩ j h3 h4
   by_cases e : j = i
   ·rw [e]; exact h1
   ·exact h2 j (by omega) (by omega)
  ·intro h
   exact ⟨h i (by omega) (by omega), fun j h1 h2 => h j (by omega) (by omega)⟩
theorem or32 : (List.range 256).all (fun n => (decide ((97 : Int) ≤ iOr .u8 (n : Int) 32) && decide (iOr .u8 (n : Int) 32 ≤ 122)) == ((decide (97 ≤ n) && decide (n ≤ 122)) || (decide (65 ≤ n) && decide (n ≤ 90)))) = true := by kernel_rfl
theorem Ba (b : UInt8) : (97 ≤ iOr .u8 ((b.toNat : Nat) : Int) 32 ∧ iOr .u8 ((b.toNat : Nat) : Int) 32 ≤ 122) ↔ ((97 ≤ b.toNat ∧ b.toNat ≤ 122) ∨ (65 ≤ b.toNat ∧ b.toNat ≤ 90)) := by
 have h := List.all_eq_true.1 or32 b.toNat (List.mem_range.2 b.toNat_lt)
 have h := eq_of_beq h
 rw [Bool.eq_iff_iff] at h
 simpa using h
theorem uC (b : UInt8) : vG b = true ↔ (97 ≤ b.toNat ∧ b.toNat ≤ 122) ∨ (65 ≤ b.toNat ∧ b.toNat ≤ 90) ∨ b.toNat = 95 := by
 simp [vG, or_assoc]
theorem mI (b : UInt8) : md b = true ↔ 48 ≤ b.toNat ∧ b.toNat ≤ 57 := by simp [md]
theorem eqB {a b : Bool} (h : a = true ↔ b = true) : a = b := Bool.eq_iff_iff.2 h
theorem oR (s : Bytes) (i : Nat) : tS s i = true ↔ vG (s.getD i 0) = true ∨ (i ≠ 0 ∧ md (s.getD i 0) = true) := by simp [tS]
theorem rK (s : Bytes) : eN s = true ↔ s ≠ [] ∧ s.length ≤ 64 ∧ pg (tS s) 0 s.length = true := by
 rw [rl]
 cases s with
 | nil => simp [eN]
 | cons b r =>
  simp only [eN, Bool.and_eq_true, decide_eq_true_eq, List.all_eq_true]
  constructor
  ·rintro ⟨⟨h1, h2⟩, h3⟩
   refine ⟨by simp, h1, fun j _ hj => ?_⟩
   rw [oR]
   cases j with
   | zero => exact .inl h2
   | succ j =>
    have hm : r.getD j 0 ∈ r := by
     rw [List.getD_eq_getElem?_getD, List.getElem?_eq_getElem (by simp at hj; omega)]
     exact List.getElem_mem _
    have := h3 _ hm
    simp only [idB, Bool.or_eq_true] at this
    rcases this with h | h
    ·exact .inl h
    ·exact .inr ⟨by omega, h⟩
  ·rintro ⟨_, h1, h2⟩
   refine ⟨⟨h1, ?_⟩, fun x hx => ?_⟩
   ·have := (oR _ _).1 (h2 0 (by omega) (by simp))
    simpa using this
   ·obtain ⟨j, hj, rfl⟩ := List.getElem_of_mem hx
    have := (oR _ _).1 (h2 (j + 1) (by omega) (by simp; omega))
    rw [show (b :: r).getD (j + 1) 0 = r[j] by simp [hj]] at this
    simp only [idB, Bool.or_eq_true]
    rcases this with h | h
    ·exact .inl h
    ·exact .inr h.2
end Go.Ab.R06
namespace Go.Ab.R06
open Go.Ab Go.Ab.RB Go.Lib
def gS (acc : Nat) (l : Bytes) : Nat := l.foldl (fun a b => a * 10 + (b.toNat - 48)) acc
theorem o8 (a : Nat) : gS a [] = a := rfl
theorem pm (a : Nat) (b : UInt8) (l : Bytes) : gS a (b :: l) = gS (a * 10 + (b.toNat - 48)) l := by simp only [gS, List.foldl_cons]
theorem tY (a : Nat) (l m : Bytes) : gS a (l ++ m) = gS (gS a l) m := by simp [gS]
theorem sP (a : Nat) (l : Bytes) (b : UInt8) : gS a (l ++ [b]) = gS a l * 10 + (b.toNat - 48) := by rw [tY]; rfl
theorem wG : ∀ (l : Bytes) (a : Nat), a ≤ gS a l
 | [], a => Nat.le_of_eq (o8 a).symm
 | b :: r, a => by
  rw [pm]
  have := wG r (a * 10 + (b.toNat - 48))
  generalize gS (a * 10 + (b.toNat - 48)) r = v at this ⊢
  omega
theorem qK {l : Bytes} (h : l.all md = true) {b : UInt8} (hb : b ∈ l) : 48 ≤ b.toNat ∧ b.toNat ≤ 57 := (mI b).1 (List.all_eq_true.1 h b hb)
theorem zf : ∀ (l : Bytes) (acc : Nat), l.all md = true → (gS acc l ≤ 18446744073709551615 → parseUintM 18446744073709551615 acc l = .ok (gS acc l)) ∧ (18446744073709551615 < gS acc l → acc ≤ 18446744073709551615 → parseUintM 18446744073709551615 acc l = .range)
 | [], acc, _ => by
  rw [o8]
  exact ⟨fun _ => rfl, fun h h' => by omega⟩
 | b :: r, acc, h => by
  have hb := qK h List.mem_cons_self
  have hr : r.all md = true := by simp only [List.all_cons, Bool.and_eq_true] at h; exact h.2
  rw [parseUintM, if_pos hb, pm]
  have hg := wG r (acc * 10 + (b.toNat - 48))
  have ih := zf r (acc * 10 + (b.toNat - 48)) hr
  generalize gS (acc * 10 + (b.toNat - 48)) r = v at hg ih ⊢
  by_cases h1 : 1844674407370955162 ≤ acc
  ·rw [if_pos h1]
   exact ⟨fun h2 => by omega, fun _ _ => rfl⟩
  ·rw [if_neg h1]
   by_cases h2 : 18446744073709551615 < acc * 10 + (b.toNat - 48)
   ·rw [if_pos h2]
    exact ⟨fun h3 => by omega, fun _ _ => rfl⟩
   ·rw [if_neg h2]
    exact ⟨ih.1, fun h3 _ => ih.2 h3 (by omega)⟩
theorem Bi (l : Bytes) (hne : l ≠ []) (h : l.all md = true) : parseUintB 64 l = if gS 0 l ≤ 18446744073709551615 then .ok (gS 0 l) else .range := by
 rw [parseUintB, if_neg hne]
 show parseUintM (2 ^ 64 - 1) 0 l = _
 rw [show (2 ^ 64 - 1 : Nat) = 18446744073709551615 from rfl]
 have := zf l 0 h
 generalize gS 0 l = v at this ⊢
 by_cases q : v ≤ 18446744073709551615
 ·rw [if_pos q]; exact this.1 q
 ·rw [if_neg q]; exact this.2 (by omega) (by omega)
def tj (l : Bytes) : Bool := !l.isEmpty && l.all md && (decide (l.getD 0 0 ≠ 48) || decide (l.length = 1))
theorem ks (l : Bytes) : tj l = true ↔ l ≠ [] ∧ l.all md = true ∧ (l.getD 0 0 ≠ 48 ∨ l.length = 1) := by
 simp [tj, and_assoc]
def nD (s : Bytes) : Bool := decide (0 < s.length) && decide (s.getD 0 0 = 45)
def digits (s : Bytes) : Bytes := if nD s = true then s.drop 1 else s
def oq (s : Bytes) : Bool := !(nD s && decide (s.drop 1 = [48])) && tj (digits s)
def lk (s : Bytes) : Int := if nD s = true then -(gS 0 (digits s) : Int) else (gS 0 (digits s) : Int)
def j7 : Int := 9007199254740992
def pQ (s : Bytes) : Int × Int := if oq s = true then (if -j7 ≤ lk s ∧ lk s ≤ j7 then (lk s, 0) else (0, 5)) else (0, 2)
theorem zc (s : Bytes) (hs : s.length ≤ 1000000000) : ∀ (k i : Nat), i + k = s.length → Ev2 (fun _ m => bP s m (i : Int)) (· = if pg (fun j => md (s.getD j 0)) i k then .inl () else .inr false) := by
 intro k
 induction k with
 | zero =>
  intro i hi
  refine ax ?_
  simp only [bP]
  refine aC (by omega) (ab rfl)
 | succ k ih =>
  intro i hi
  refine ax ?_
  simp only [bP]
  refine av (by omega) ?_
  have hb : byt s i = ((s.getD i 0).toNat : Int) := j6 s i
  rw [hb]
  refine aT (!md (s.getD i 0)) ?_ ?_
  ·have h := mI (s.getD i 0)
   generalize s.getD i 0 = b at h ⊢
   refine am (by omega) (aN (fun h1 => ab ?_) (fun h1 => am (by omega) (ab ?_)))
   ·have : md b = false := by rw [← Bool.not_eq_true, h]; omega
    simp [this]
   ·refine eqB ?_
    rw [decide_eq_true_eq, Bool.not_eq_true', ← Bool.not_eq_true, h]
    omega
  ·cases hk : md (s.getD i 0) with
   | false => exact av rfl (ab (by simp only [pg, hk, Bool.false_and]; rfl))
   | true =>
    refine aC (by simp) (am (br (by omega) (by omega)) ?_)
    have := ih (i + 1) (by omega)
    rw [Int.natCast_add, Int.natCast_one] at this
    simp only [pg, hk, Bool.true_and]
    exact this
theorem yD (s : Bytes) (p : UInt8 → Bool) : pg (fun j => p (s.getD j 0)) 0 s.length = s.all p := by
 refine eqB ?_
 rw [rl, List.all_eq_true]
 constructor
 ·intro h x hx
  obtain ⟨j, hj, rfl⟩ := List.getElem_of_mem hx
  have := h j (by omega) (by omega)
  simpa [hj] using this
 ·intro h j _ hj
  have hj : j < s.length := by omega
  have := h s[j] (List.getElem_mem hj)
  simpa [hj] using this
theorem tA (s : Bytes) (hs : s.length ≤ 1000000000) : Ev2 (fun n _ => dT n s) (· = oq s) := by
 simp only [dT]
 have hb : byt s 0 = ((s.getD 0 0).toNat : Int) := j6 s 0
 have hneg : nD s = true ↔ 0 < s.length ∧ s.getD 0 0 = 45 := by simp [nD]
 have h45 : (s.getD 0 0).toNat = 45 ↔ s.getD 0 0 = 45 := ⟨fun h => UInt8.toNat_inj.1 h, fun h => by rw [h]; rfl⟩
 have body : ∀ t : Bytes, t.length ≤ 1000000000 → Ev2 (fun n m => jn (bP t n 0) fun q31 =>
   ((if t = ([] : Bytes) then some false else ck ((0 : Int) ≤ 0 ∧ 0 < (t.length : Int)) <| if byt t 0 = 48 then some (decide ((t.length : Int) = 1)) else some true) : Option Bool).bind fun t28 => some t28) (· = tj t) := by
  intro t ht
  have l := zc t ht t.length 0 (by omega)
  rw [yD] at l
  have hc := ks t
  have hb' : byt t 0 = ((t.getD 0 0).toNat : Int) := j6 t 0
  have h48 : (t.getD 0 0).toNat = 48 ↔ t.getD 0 0 = 48 := ⟨fun h => UInt8.toNat_inj.1 h, fun h => by rw [h]; rfl⟩
  cases ha : t.all md with
  | false =>
   rw [ha] at l hc
   refine ju false (a7 l) (eqB ?_)
   rw [hc]; simp
  | true =>
   rw [ha] at l hc
   refine gJ () (a7 l) (bQ (· = tj t) ?_ (fun x hx => ab hx))
   refine aN (fun h => ab (eqB ?_)) (fun h => am ?_ ?_)
   ·rw [hc]; simp [h]
   ·have := List.length_pos_iff.2 h; omega
   ·rw [hb']
    refine aN (fun h1 => ab (eqB ?_)) (fun h1 => ab (eqB ?_))
    ·have h2 := h48.1 (by omega)
     rw [hc, decide_eq_true_eq]
     constructor
     ·intro q; exact ⟨h, by simp, .inr (by omega)⟩
     ·rintro ⟨_, _, q | q⟩
      ·exact absurd h2 q
      ·omega
    ·rw [hc]; simp only [true_iff]
     exact ⟨h, by simp, .inl fun q => h1 (by have := h48.2 q; omega)⟩
 refine kB (aT (nD s) ?_ ?_)
 ·refine aN (fun h => am (by omega) (ab (eqB ?_))) (fun h => ab (eqB ?_))
  ·rw [hneg, hb, decide_eq_true_eq]
   constructor
   ·intro q; exact ⟨by omega, h45.1 (by omega)⟩
   ·rintro ⟨_, q⟩; have := h45.2 q; omega
  ·rw [hneg]
   constructor
   ·intro q; cases q
   ·rintro ⟨q, _⟩; omega
 ·rw [jC]
  show Ev2 (fun n m => if nD s = true then ck _ (if s.drop 1 = [48] then some (Sum.inr false) else some (Sum.inl (s.drop 1))) else some (Sum.inl s)) _
  refine aN (fun h => am ?_ (aN (fun h1 => ab ?_) (fun h1 => ab ?_))) (fun h => ab ?_)
  ·have := hneg.1 h; omega
  ·simp [oq, h, h1]
  ·have e : oq s = tj (s.drop 1) := by unfold oq digits; rw [if_pos h, decide_eq_false h1]; simp
   rw [e]
   exact body _ (by simp; omega)
  ·have e : oq s = tj s := by simp [oq, h, digits]
   rw [e]
   exact body _ hs
theorem A2 (v : Int) : iR v = some (decide (-j7 ≤ v ∧ v ≤ j7)) := by
 simp only [iR]
 by_cases h : (-9007199254740992 : Int) ≤ v
 ·rw [if_pos h]
  by_cases h2 : v ≤ 9007199254740992
  ·simp [h2, j7, h]
  ·simp [h2, j7]
 ·rw [if_neg h, Option.bind_some]
  refine congrArg some (eqB ?_)
  rw [decide_eq_true_eq]; unfold j7
  constructor
  ·intro q; cases q
  ·intro q; exact absurd q.1 h
theorem qk {s : Bytes} (h : oq s = true) : digits s ≠ [] ∧ (digits s).all md = true := by
 simp only [oq, Bool.and_eq_true] at h
 have := (ks _).1 h.2
 exact ⟨this.1, this.2.1⟩
theorem B0 (s : Bytes) (h : oq s = true) : parseIntB 64 s = if (if nD s = true then 9223372036854775808 < gS 0 (digits s) else 9223372036854775808 ≤ gS 0 (digits s)) then .range else .ok (lk s) := by
 obtain ⟨h1, h2⟩ := qk h
 cases s with
 | nil => exact absurd (by simp [digits, nD]) h1
 | cons c r =>
  have e45 : c.toNat = 45 ↔ c = 45 := ⟨fun h => UInt8.toNat_inj.1 h, fun h => by rw [h]; rfl⟩
  have hneg : nD (c :: r) = decide (c = 45) := by simp [nD]
  have hd : (if c.toNat = 43 ∨ c.toNat = 45 then r else c :: r) = digits (c :: r) := by
   unfold digits
   rw [hneg]
   by_cases q : c = 45
   ·rw [if_pos (.inr (e45.2 q)), if_pos (by simp [q])]; rfl
   ·have e : digits (c :: r) = c :: r := by unfold digits; rw [hneg, if_neg (by simp [q])]
    have e2 : (if decide (c = 45) = true then List.drop 1 (c :: r) else c :: r) = c :: r := if_neg (by simp [q])
    rw [e2, if_neg]
    rintro (k | k)
    ·rw [e] at h2
     have := qK h2 List.mem_cons_self
     omega
    ·exact q (e45.1 k)
  have hp := Bi _ h1 h2
  unfold parseIntB
  simp only [hd, hp]
  rw [hneg]
  unfold lk
  rw [hneg]
  generalize gS 0 (digits (c :: r)) = v
  by_cases q : c = 45
  ·subst q
   by_cases hv : v ≤ 18446744073709551615
   ·simp only [hv, if_true]
    by_cases hw : 9223372036854775808 < v
    ·simp [hw]
    ·simp [hw]
   ·simp only [hv, if_false]
    rw [if_pos]; simp; omega
  ·have q' : ¬ c.toNat = 45 := fun k => q (e45.1 k)
   by_cases hv : v ≤ 18446744073709551615
   ·simp only [hv, if_true]
    by_cases hw : 9223372036854775808 ≤ v
    ·simp [q, q', hw]
    ·simp [q, q', hw]
   ·simp only [hv, if_false]
    rw [if_pos]; simp [q]; omega
theorem um (s : Bytes) (hs : s.length ≤ 1000000000) : Ev2 (fun n _ => fI n s) (· = pQ s) := by
 simp only [fI]
 refine aT _ (tA s hs) ?_
 cases hc : oq s with
 | false => exact av rfl (ab (by simp [pQ, hc]))
 | true =>
  refine aC (by simp) ?_
  have hp : g6 s 10 64 = some (match parseIntB 64 s with | .ok v => (v, false) | .range => (intSat 64 s, true) | _ => (0, true)) := by
   unfold g6
   exact dN ⟨rfl, rfl, by omega⟩
  rw [B0 s hc] at hp
  have e : pQ s = (if -j7 ≤ lk s ∧ lk s ≤ j7 then (lk s, 0) else (0, 5)) := by simp [pQ, hc]
  rw [e]
  by_cases hr : (if nD s = true then 9223372036854775808 < gS 0 (digits s) else 9223372036854775808 ≤ gS 0 (digits s))
  ·rw [if_pos hr] at hp
   refine aT _ (bh hp rfl) ?_
   refine aT true (av rfl (ab rfl)) (av rfl (ab ?_))
   rw [if_neg]
   unfold lk j7
   cases hn : nD s with
   | true => rw [hn, if_pos rfl] at hr; rw [if_pos rfl]; omega
   | false => rw [hn, if_neg (by simp)] at hr; rw [if_neg (by simp)]; omega
  ·rw [if_neg hr] at hp
   refine aT _ (bh hp rfl) ?_
   refine aT (!decide (-j7 ≤ lk s ∧ lk s ≤ j7)) ?_ ?_
   ·exact aC (by simp) (aT _ (bh (A2 _) rfl) (ab rfl))
   ·by_cases q : -j7 ≤ lk s ∧ lk s ≤ j7
    ·rw [if_pos q]
     exact aC (by simp [q]) (ab rfl)
    ·rw [if_neg q]
     exact av (by simp only [q, decide_false, Bool.not_false]) (ab rfl)
theorem Ay : ∀ (n u : Nat), u < n → gS 0 (decDigits u) = u ∧ (decDigits u).all md = true ∧ decDigits u ≠ [] ∧ ((decDigits u).getD 0 0 ≠ 48 ∨ (decDigits u).length = 1) ∧ (1 ≤ u → (decDigits u).getD 0 0 ≠ 48) := by
 intro n
 induction n with
 | zero => intro u h; omega
 | succ n ih =>
  intro u hu
  have hdig : ∀ k, k < 10 → (UInt8.ofNat (48 + k)).toNat = 48 + k := fun k hk => by
   rw [UInt8.toNat_ofNat']; omega
  rw [decDigits]
  by_cases h : u < 10
  ·rw [dif_pos h]
   have := hdig u h
   refine ⟨by rw [pm, o8, this]; omega, by simp only [List.all_cons, List.all_nil, Bool.and_true, mI, this]; omega, by simp, .inr rfl, fun h1 => ?_⟩
   intro q
   have q' : (UInt8.ofNat (48 + u)) = 48 := q
   rw [q'] at this
   have : (48 : UInt8).toNat = 48 := rfl
   omega
  ·rw [dif_neg h]
   obtain ⟨a1, a2, a3, a4, a5⟩ := ih (u / 10) (by omega)
   have hd := hdig (u % 10) (by omega)
   have hh : (decDigits (u / 10) ++ [UInt8.ofNat (48 + u % 10)]).getD 0 0 = (decDigits (u / 10)).getD 0 0 := by
    cases hx : decDigits (u / 10) with
    | nil => exact absurd hx a3
    | cons c r => rfl
   refine ⟨?_, ?_, by simp, ?_, ?_⟩
   ·rw [sP, a1, hd]; omega
   ·rw [List.all_append, a2]; simp only [List.all_cons, List.all_nil, Bool.and_true, Bool.true_and, mI, hd]; omega
   ·rw [hh]; exact .inl (a5 (by omega))
   ·rw [hh]; exact fun _ => a5 (by omega)
theorem uH : ∀ (n : Nat) (l : Bytes), l.length ≤ n → tj l = true → decDigits (gS 0 l) = l ∧ (l.getD 0 0 ≠ 48 → 1 ≤ gS 0 l) := by
 intro n
 induction n with
 | zero => intro l hl h; have := ((ks l).1 h).1; cases l <;> simp_all
 | succ n ih =>
  intro l hl h
  obtain ⟨h1, h2, h3⟩ := (ks l).1 h
  have hof : ∀ b : UInt8, 48 ≤ b.toNat → UInt8.ofNat (48 + (b.toNat - 48)) = b := fun b hb => by
   rw [show 48 + (b.toNat - 48) = b.toNat by omega]; simp
  rcases List.eq_nil_or_concat l with rfl | ⟨m, b, rfl⟩
  ·exact absurd rfl h1
  ·simp only [List.concat_eq_append] at *
   have hb := qK h2 (b := b) (by simp)
   rw [sP]
   by_cases hm : m = []
   ·subst hm
    rw [o8, decDigits, dif_pos (by omega)]
    refine ⟨by simp [hof b hb.1], fun q => ?_⟩
    have q : b ≠ 48 := q
    have : b.toNat ≠ 48 := fun k => q (UInt8.toNat_inj.1 k)
    omega
   ·have hcm : tj m = true := by
     rw [ks]
     refine ⟨hm, ?_, ?_⟩
     ·rw [List.all_append, Bool.and_eq_true] at h2; exact h2.1
     ·rcases h3 with q | q
      ·left
       cases m with
       | nil => exact absurd rfl hm
       | cons c r => exact q
      ·cases m with
       | nil => exact absurd rfl hm
       | cons c r => simp at q
    obtain ⟨i1, i2⟩ := ih m (by simp at hl; omega) hcm
    have hne : m.getD 0 0 ≠ 48 := by
     rcases h3 with q | q
     ·cases m with
      | nil => exact absurd rfl hm
      | cons c r => exact q
     ·cases m with
      | nil => exact absurd rfl hm
      | cons c r => simp at q
    have hpos := i2 hne
    refine ⟨?_, fun _ => by omega⟩
    rw [decDigits, dif_neg (by omega)]
    rw [show (gS 0 m * 10 + (b.toNat - 48)) / 10 = gS 0 m by omega, show (gS 0 m * 10 + (b.toNat - 48)) % 10 = b.toNat - 48 by omega, i1, hof b hb.1]
theorem Cg (v : Int) (h0 : 0 ≤ v) (h1 : v ≤ j7) : pQ (itoa v) = (v, 0) := by
 obtain ⟨u, rfl⟩ : ∃ u : Nat, v = u := ⟨v.toNat, by omega⟩
 have e : itoa (u : Int) = decDigits u := by unfold itoa; rw [if_neg (by omega)]; simp
 obtain ⟨a1, a2, a3, a4, a5⟩ := Ay (u + 1) u (by omega)
 have hn : nD (decDigits u) = false := by
  rw [← Bool.not_eq_true]
  intro q
  simp only [nD, Bool.and_eq_true, decide_eq_true_eq] at q
  have hm : (decDigits u).getD 0 0 ∈ decDigits u := by
   rw [List.getD_eq_getElem?_getD, List.getElem?_eq_getElem q.1]; exact List.getElem_mem _
  have := qK a2 hm
  rw [q.2] at this
  have : (45 : UInt8).toNat = 45 := rfl
  omega
 have hd : digits (decDigits u) = decDigits u := by simp [digits, hn]
 have hc : oq (decDigits u) = true := by
  simp only [oq, hn, hd, Bool.false_and, Bool.not_false, Bool.true_and]
  exact (ks _).2 ⟨a3, a2, a4⟩
 have hv : lk (decDigits u) = u := by simp [lk, hn, hd, a1]
 rw [e, pQ, if_pos hc, hv, if_pos ⟨by unfold j7 at *; omega, h1⟩]
theorem xG (s : Bytes) (v : Int) (h : pQ s = (v, 0)) (h0 : 0 ≤ v) : itoa v = s ∧ v ≤ j7 := by
 unfold pQ at h
 split at h
 ·rename_i hc
  split at h
  ·rename_i hr
   have hv : lk s = v := congrArg Prod.fst h
   obtain ⟨h1, h2⟩ := qk hc
   simp only [oq, Bool.and_eq_true] at hc
   have hb := (uH _ (digits s) (Nat.le_refl _) hc.2)
   have hcn := (ks _).1 hc.2
   cases hn : nD s with
   | true =>
    exfalso
    have hv2 : lk s = -(gS 0 (digits s) : Int) := by simp [lk, hn]
    have hz : gS 0 (digits s) = 0 := by omega
    have : decDigits 0 = digits s := by rw [← hz]; exact hb.1
    rw [decDigits, dif_pos (by omega)] at this
    have hd : digits s = s.drop 1 := by simp [digits, hn]
    rw [hd] at this
    have h48 : s.drop 1 = [48] := this.symm
    simp [hn, h48] at hc
   | false =>
    have hd : digits s = s := by simp [digits, hn]
    have hv2 : lk s = (gS 0 s : Int) := by simp [lk, hn, hd]
    rw [hd] at hb
    refine ⟨?_, by rw [← hv]; exact hr.2⟩
    rw [← hv, hv2]
    unfold itoa
    rw [if_neg (by omega)]
    simpa using hb.1
  ·have := congrArg Prod.snd h; simp at this
 ·have := congrArg Prod.snd h; simp at this
end Go.Ab.R06
namespace Go.Ab.R06
open Go.Ab Go.Ab.RB Go.Lib
theorem ul (x : Int) : IntKind.wrap .u8 x = x % 256 := by simp [IntKind.wrap, IntKind.bits, IntKind.signed]
theorem wrap32 (x : Int) : IntKind.wrap .u32 x = x % 4294967296 := by simp [IntKind.wrap, IntKind.bits, IntKind.signed]
theorem shr6 (x : Int) : fX .i32 x 6 = x / 64 := by
 show x.fdiv (2 ^ 6) = x / 64
 rw [Int.fdiv_eq_ediv_of_nonneg _ (by decide)]; rfl
theorem Cl (x : Int) : fX .i32 x 12 = x / 4096 := by
 show x.fdiv (2 ^ 12) = x / 4096
 rw [Int.fdiv_eq_ediv_of_nonneg _ (by decide)]; rfl
theorem CE (x : Int) : fX .i32 x 18 = x / 262144 := by
 show x.fdiv (2 ^ 18) = x / 262144
 rw [Int.fdiv_eq_ediv_of_nonneg _ (by decide)]; rfl
theorem t63 : (List.range 256).all (fun n => gh .u8 (n : Int) 63 == ((n % 64 : Nat) : Int)) = true := by kernel_rfl
theorem t128 : (List.range 64).all (fun n => iOr .u8 128 (n : Int) == ((128 + n : Nat) : Int)) = true := by kernel_rfl
theorem t192 : (List.range 32).all (fun n => iOr .u8 192 (n : Int) == ((192 + n : Nat) : Int)) = true := by kernel_rfl
theorem t224 : (List.range 16).all (fun n => iOr .u8 224 (n : Int) == ((224 + n : Nat) : Int)) = true := by kernel_rfl
theorem t240 : (List.range 8).all (fun n => iOr .u8 240 (n : Int) == ((240 + n : Nat) : Int)) = true := by kernel_rfl
theorem tab {f g : Nat → Int} {m : Nat} (h : (List.range m).all (fun n => f n == g n) = true) (n : Nat) (hn : n < m) : f n = g n := eq_of_beq (List.all_eq_true.1 h n (List.mem_range.2 hn))
theorem zl (x : Int) : gh .u8 (IntKind.wrap .u8 x) 63 = x % 64 := by
 rw [ul]
 obtain ⟨n, hn⟩ : ∃ n : Nat, x % 256 = n := ⟨(x % 256).toNat, by omega⟩
 rw [hn, tab t63 n (by omega)]; omega
theorem zD {x : Int} (h0 : 0 ≤ x) (h1 : x < 64) : iOr .u8 128 x = 128 + x := by
 obtain ⟨n, rfl⟩ : ∃ n : Nat, x = n := ⟨x.toNat, by omega⟩
 rw [tab t128 n (by omega)]; omega
theorem Cs {x : Int} (h0 : 0 ≤ x) (h1 : x < 32) : iOr .u8 192 x = 192 + x := by
 obtain ⟨n, rfl⟩ : ∃ n : Nat, x = n := ⟨x.toNat, by omega⟩
 rw [tab t192 n (by omega)]; omega
theorem Cm {x : Int} (h0 : 0 ≤ x) (h1 : x < 16) : iOr .u8 224 x = 224 + x := by
 obtain ⟨n, rfl⟩ : ∃ n : Nat, x = n := ⟨x.toNat, by omega⟩
 rw [tab t224 n (by omega)]; omega
theorem Cq {x : Int} (h0 : 0 ≤ x) (h1 : x < 8) : iOr .u8 240 x = 240 + x := by
 obtain ⟨n, rfl⟩ : ∃ n : Nat, x = n := ⟨x.toNat, by omega⟩
 rw [tab t240 n (by omega)]; omega
def gH (r : Int) : Prop := (0 ≤ r ∧ r < 55296) ∨ (57343 < r ∧ r ≤ 1114111)
theorem uU (p : Bytes) (r : Int) (h : gH r) (hp : p.length ≤ 100000000000) : dX p r = some (p ++ encodeRune r) := by
 have h0 : 0 ≤ r ∧ r ≤ 1114111 := by unfold gH at h; omega
 have hw : IntKind.wrap .u32 r = r := by rw [wrap32]; omega
 unfold dX
 rw [hw]
 by_cases h1 : r ≤ 127
 ·have hw8 : IntKind.wrap .u8 r = r := by rw [ul]; omega
  rw [if_pos h1, hw8, dN (by omega), dN (by simp; omega)]
  simp only [encodeRune, encodeRuneZ, if_pos (show 0 ≤ r ∧ r ≤ 127 from ⟨h0.1, h1⟩), List.map_cons, List.map_nil, u8]
 rw [if_neg h1]
 unfold dd
 rw [hw, zl, shr6, Cl, CE, zl, zl]
 have o1 : iOr .u8 128 (r % 64) = 128 + r % 64 := zD (by omega) (by omega)
 have o2 : iOr .u8 128 (r / 64 % 64) = 128 + r / 64 % 64 := zD (by omega) (by omega)
 have o3 : iOr .u8 128 (r / 4096 % 64) = 128 + r / 4096 % 64 := zD (by omega) (by omega)
 rw [o1, o2, o3]
 have n1 : ¬ (0 ≤ r ∧ r ≤ 127) := by omega
 by_cases h2 : r ≤ 2047
 ·have hw8 : IntKind.wrap .u8 (r / 64) = r / 64 := by rw [ul]; omega
  rw [if_pos h2, hw8, Cs (by omega) (by omega), dN (by omega), dN (by omega), dN (by omega), dN (by simp; omega)]
  simp only [encodeRune, encodeRuneZ, if_neg n1, if_pos (show 128 ≤ r ∧ r ≤ 2047 by omega), List.map_cons, List.map_nil, u8, Option.bind_some]
 rw [if_neg h2]
 have n2 : ¬ (128 ≤ r ∧ r ≤ 2047) := by omega
 by_cases h3 : r < 55296 ∨ (57343 < r ∧ r ≤ 65535)
 ·have hw8 : IntKind.wrap .u8 (r / 4096) = r / 4096 := by rw [ul]; omega
  have e : ((if r < 55296 then some true else if 57343 < r then some (decide (r ≤ 65535)) else some false) : Option Bool) = some true := by
   rcases h3 with q | q
   ·rw [if_pos q]
   ·rw [if_neg (by omega), if_pos q.1]; simp [q.2]
  rw [e, Option.bind_some, if_pos rfl, hw8, Cm (by omega) (by omega), dN (by omega), dN (by omega), dN (by omega), dN (by omega), dN (by omega), dN (by simp; omega)]
  simp only [encodeRune, encodeRuneZ, if_neg n1, if_neg n2, if_pos (show (2048 ≤ r ∧ r < 55296) ∨ (57343 < r ∧ r ≤ 65535) by omega), List.map_cons, List.map_nil, u8, Option.bind_some]
 ·have h4 : 65535 < r := by unfold gH at h; omega
  have hw8 : IntKind.wrap .u8 (r / 262144) = r / 262144 := by rw [ul]; omega
  have e : ((if r < 55296 then some true else if 57343 < r then some (decide (r ≤ 65535)) else some false) : Option Bool) = some false := by
   rw [if_neg (by omega), if_pos (by omega)]; simp; omega
  have e2 : ((if 65535 < r then some (decide (r ≤ 1114111)) else some false) : Option Bool) = some true := by rw [if_pos h4]; simp; omega
  rw [e, Option.bind_some, if_neg (by simp), e2, Option.bind_some, if_pos rfl, hw8, Cq (by omega) (by omega), dN (by omega), dN (by omega), dN (by omega), dN (by omega), dN (by omega), dN (by omega), dN (by omega), dN (by simp; omega)]
  simp only [encodeRune, encodeRuneZ, if_neg n1, if_neg n2, if_neg (show ¬ ((2048 ≤ r ∧ r < 55296) ∨ (57343 < r ∧ r ≤ 65535)) by omega), if_pos (show 65536 ≤ r ∧ r ≤ 1114111 by omega), List.map_cons, List.map_nil, u8, Option.bind_some]
theorem fK (l : Bytes) (h : l ≠ []) : decodeGo (str l) = decodeL l := by
 unfold decodeGo
 rw [if_neg]
 ·rfl
 ·rw [gZ]; intro q; exact h (List.length_eq_zero_iff.1 q)
theorem nq (r : Int) (h : gH r) : 1 ≤ (encodeRune r).length ∧ (encodeRune r).length ≤ 4 := by
 unfold encodeRune encodeRuneZ
 rw [List.length_map]
 repeat' split
 all_goals simp
theorem AE (r : Int) (h : gH r) (t : Bytes) : decodeL (encodeRune r ++ t) = (r.toNat, (encodeRune r).length) := by
 have h0 : 0 ≤ r ∧ r ≤ 1114111 := by unfold gH at h; omega
 have hb : ∀ x : Int, 0 ≤ x → x < 256 → (x.toNat.toUInt8).toNat = x.toNat := fun x a b => by
  show (UInt8.ofNat x.toNat).toNat = _
  rw [UInt8.toNat_ofNat']; omega
 rw [decodeL_N]
 by_cases h1 : r ≤ 127
 ·have e : encodeRune r = [r.toNat.toUInt8] := by simp only [encodeRune, encodeRuneZ, if_pos (show 0 ≤ r ∧ r ≤ 127 from ⟨h0.1, h1⟩), List.map_cons, List.map_nil]
  rw [e]
  have b0 := hb r (by omega) (by omega)
  simp only [List.cons_append, List.getD_cons_zero, b0]
  unfold decodeN
  rw [if_pos (by omega)]; rfl
 have n1 : ¬ (0 ≤ r ∧ r ≤ 127) := by omega
 by_cases h2 : r ≤ 2047
 ·have e : encodeRune r = [(192 + r / 64).toNat.toUInt8, (128 + r % 64).toNat.toUInt8] := by
   simp only [encodeRune, encodeRuneZ, if_neg n1, if_pos (show 128 ≤ r ∧ r ≤ 2047 by omega), List.map_cons, List.map_nil]
  rw [e]
  have b0 := hb (192 + r / 64) (by omega) (by omega)
  have b1 := hb (128 + r % 64) (by omega) (by omega)
  simp only [List.cons_append, List.getD_cons_zero, List.getD_cons_succ, b0, b1, List.length_cons, List.nil_append]
  unfold decodeN
  rw [if_neg (by omega), if_pos (by omega), if_pos (by omega)]
  refine Prod.ext ?_ rfl
  show _ = r.toNat
  simp only; omega
 have n2 : ¬ (128 ≤ r ∧ r ≤ 2047) := by omega
 by_cases h3 : r < 55296 ∨ (57343 < r ∧ r ≤ 65535)
 ·have e : encodeRune r = [(224 + r / 4096).toNat.toUInt8, (128 + r / 64 % 64).toNat.toUInt8, (128 + r % 64).toNat.toUInt8] := by
   simp only [encodeRune, encodeRuneZ, if_neg n1, if_neg n2, if_pos (show (2048 ≤ r ∧ r < 55296) ∨ (57343 < r ∧ r ≤ 65535) by omega), List.map_cons, List.map_nil]
  rw [e]
  have b0 := hb (224 + r / 4096) (by omega) (by omega)
  have b1 := hb (128 + r / 64 % 64) (by omega) (by omega)
  have b2 := hb (128 + r % 64) (by omega) (by omega)
  simp only [List.cons_append, List.getD_cons_zero, List.getD_cons_succ, b0, b1, b2, List.length_cons, List.nil_append]
  unfold decodeN
  rw [if_neg (by omega), if_neg (by omega), if_pos (by omega), if_pos (by omega)]
  refine Prod.ext ?_ rfl
  show _ = r.toNat
  simp only; omega
 ·have h4 : 65535 < r := by unfold gH at h; omega
  have e : encodeRune r = [(240 + r / 262144).toNat.toUInt8, (128 + r / 4096 % 64).toNat.toUInt8, (128 + r / 64 % 64).toNat.toUInt8, (128 + r % 64).toNat.toUInt8] := by
   simp only [encodeRune, encodeRuneZ, if_neg n1, if_neg n2, if_neg (show ¬ ((2048 ≤ r ∧ r < 55296) ∨ (57343 < r ∧ r ≤ 65535)) by omega), if_pos (show 65536 ≤ r ∧ r ≤ 1114111 by omega), List.map_cons, List.map_nil]
  rw [e]
  have b0 := hb (240 + r / 262144) (by omega) (by omega)
  have b1 := hb (128 + r / 4096 % 64) (by omega) (by omega)
  have b2 := hb (128 + r / 64 % 64) (by omega) (by omega)
  have b3 := hb (128 + r % 64) (by omega) (by omega)
  simp only [List.cons_append, List.getD_cons_zero, List.getD_cons_succ, b0, b1, b2, b3, List.length_cons, List.nil_append]
  unfold decodeN
  rw [if_neg (by omega), if_neg (by omega), if_neg (by omega), if_pos (by omega), if_pos (by omega)]
  refine Prod.ext ?_ rfl
  show _ = r.toNat
  simp only; omega
theorem sJ (r : Int) (h : gH r) (t : Bytes) : validD (encodeRune r ++ t) = validD t := by
 have hl := nq r h
 have hne : encodeRune r ++ t ≠ [] := by
  intro q; rw [List.append_eq_nil_iff] at q; rw [q.1] at hl; simp at hl
 rw [validD_step _ hne, AE r h t, if_neg]
 ·simp
 ·rintro ⟨a, b⟩
  have hr : r = 65533 := by omega
  subst hr
  simp [encodeRune, encodeRuneZ] at b
theorem sG (l : Bytes) (h : l ≠ []) : 1 ≤ (decodeL l).2 ∧ (decodeL l).2 ≤ l.length ∧ (¬ ((decodeL l).1 = 65533 ∧ (decodeL l).2 = 1) → gH ((decodeL l).1 : Int) ∧ encodeRune ((decodeL l).1 : Int) = l.take (decodeL l).2) := by
 have hl : 0 < l.length := List.length_pos_iff.2 h
 have hd := decN l.length (l.getD 0 0).toNat (l.getD 1 0).toNat (l.getD 2 0).toNat (l.getD 3 0).toNat (by omega) (UInt8.toNat_lt _)
 rw [← decodeL_N] at hd
 refine ⟨hd.1, hd.2.1, fun q => ⟨?_, encode_decode l h q⟩⟩
 have := hd.2.2.2.2.2
 unfold gH; omega
end Go.Ab.R06
namespace Go.Ab.R06
open Go.Ab Go.Ab.RB Go.Lib
theorem vE (f x : Bytes) (h : f.length + x.length ≤ 100000000000) : ba (aD.mk f) x = some ((x.length : Int), false, aD.mk (f ++ x)) := by
 unfold ba ct
 rw [Option.bind_some, dN (by simp only; omega)]
theorem uj (f : Bytes) (b : UInt8) (h : f.length ≤ 100000000000) : bI (aD.mk f) (b.toNat : Int) = some (false, aD.mk (f ++ [b])) := by
 have := b.toNat_lt
 unfold bI ct
 rw [Option.bind_some, dN (by omega), dN (by simp; omega), BQ]
theorem AY (f : Bytes) (r : Int) (hr : gH r) (h : f.length ≤ 10000000000) : du (aD.mk f) r = some (((encodeRune r).length : Int), false, aD.mk (f ++ encodeRune r)) := by
 have hl := nq r hr
 unfold du ct
 rw [Option.bind_some, uU f r hr (by omega), Option.bind_some]
 have e : ((f ++ encodeRune r).length : Int) - (f.length : Int) = (encodeRune r).length := by rw [List.length_append]; omega
 rw [e, dN (br (by omega) (by omega))]
theorem BJ (f : Bytes) (h : f.length ≤ 1000000000000) : dl (aD.mk f) = some (f, aD.mk f) := by
 unfold dl
 rw [dN (by simp only; omega)]
def kZ (b : UInt8) : Bytes :=
 if b.toNat = 10 then [92, 110] else if b.toNat = 13 then [92, 114] else if b.toNat = 9 then [92, 116]
 else if b.toNat = 34 ∨ b.toNat = 92 then [92, b] else if b.toNat < 32 ∨ b.toNat = 127 then [92, 117, 123] ++ gL b.toNat ++ [125] else [b]
def lE (s : Bytes) : Bytes := 34 :: (s.flatMap kZ ++ [34])
theorem CG {b : UInt8} (h : b.toNat = 10) : kZ b = [92, 110] := by unfold kZ; rw [if_pos h]
theorem Cy {b : UInt8} (h : b.toNat = 13) : kZ b = [92, 114] := by unfold kZ; rw [if_neg (by omega), if_pos h]
theorem Cu {b : UInt8} (h : b.toNat = 9) : kZ b = [92, 116] := by unfold kZ; rw [if_neg (by omega), if_neg (by omega), if_pos h]
theorem CL {b : UInt8} (h : b.toNat = 34 ∨ b.toNat = 92) : kZ b = [92, b] := by unfold kZ; rw [if_neg (by omega), if_neg (by omega), if_neg (by omega), if_pos h]
theorem Ck {b : UInt8} (h1 : b.toNat ≠ 10) (h2 : b.toNat ≠ 13) (h3 : b.toNat ≠ 9) (h : b.toNat < 32 ∨ b.toNat = 127) : kZ b = [92, 117, 123] ++ gL b.toNat ++ [125] := by
 unfold kZ; rw [if_neg h1, if_neg h2, if_neg h3, if_neg (by omega), if_pos h]
theorem CK {b : UInt8} (h1 : b.toNat ≠ 34) (h2 : b.toNat ≠ 92) (h : ¬ (b.toNat < 32 ∨ b.toNat = 127)) : kZ b = [b] := by
 unfold kZ; rw [if_neg (by omega), if_neg (by omega), if_neg (by omega), if_neg (by omega), if_neg h]
theorem qv (n : Nat) : 1 ≤ (gL n).length ∧ (gL n).length ≤ 2 := by
 unfold gL; split <;> simp
theorem uk (b : UInt8) : 1 ≤ (kZ b).length ∧ (kZ b).length ≤ 6 := by
 have := qv b.toNat
 unfold kZ
 repeat' split
 all_goals (simp; try omega)
theorem uV (s : Bytes) : s.length ≤ (s.flatMap kZ).length ∧ (s.flatMap kZ).length ≤ 6 * s.length := by
 induction s with
 | nil => simp
 | cons b r ih => have := uk b; simp only [List.flatMap_cons, List.length_append, List.length_cons]; omega
theorem ye (s : Bytes) (hs : s.length ≤ 1000000000) : ∀ (k i : Nat) (f : Bytes), i + k = s.length → f.length ≤ 6 * i + 1 → Ev2 (fun _ m => cS s m (i : Int) f) (· = f ++ (s.drop i).flatMap kZ) := by
 intro k
 induction k with
 | zero =>
  intro i f hi hf
  refine ax ?_
  simp only [cS]
  refine aC (by omega) (ab ?_)
  rw [List.drop_of_length_le (by omega)]; simp
 | succ k ih =>
  intro i f hi hf
  refine ax ?_
  simp only [cS]
  refine av (by omega) (am (by omega) ?_)
  have hb : byt s i = ((s.getD i 0).toNat : Int) := j6 s i
  rw [hb]
  have hd : s.drop i = s.getD i 0 :: s.drop (i + 1) := by
   rw [List.getD_eq_getElem?_getD, List.getElem?_eq_getElem (by omega), Option.getD_some]
   exact List.drop_eq_getElem_cons (by omega)
  rw [hd, List.flatMap_cons]
  generalize s.getD i 0 = b
  have hbl := b.toNat_lt
  have he := uk b
  refine aT (f ++ kZ b) ?_ ?_
  ·refine aN (fun h1 => ?_) (fun h1 => aN (fun h2 => ?_) (fun h2 => aN (fun h3 => ?_) (fun h3 => ?_)))
   ·rw [CG (by omega)]
    exact aT _ (bh (vE f [92, 110] (by simp only [List.length_cons, List.length_nil]; omega)) rfl) (ab rfl)
   ·rw [Cy (by omega)]
    exact aT _ (bh (vE f [92, 114] (by simp only [List.length_cons, List.length_nil]; omega)) rfl) (ab rfl)
   ·rw [Cu (by omega)]
    exact aT _ (bh (vE f [92, 116] (by simp only [List.length_cons, List.length_nil]; omega)) rfl) (ab rfl)
   refine aT (decide (b.toNat = 34 ∨ b.toNat = 92)) ?_ ?_
   ·by_cases h : b.toNat = 34
    ·exact av (by omega) (ab (by simp [h]))
    ·exact aC (by omega) (ab (eqB (by rw [decide_eq_true_eq, decide_eq_true_eq]; omega)))
   by_cases h4 : b.toNat = 34 ∨ b.toNat = 92
   ·rw [CL h4]
    refine av (by simp [h4]) ?_
    refine aT _ (bh (uj f 92 (by omega)) rfl) (aT _ (bh (uj (f ++ [92]) b (by simp only [List.length_append, List.length_cons, List.length_nil]; omega)) rfl) (ab ?_))
    simp
   refine aC (by simp only [decide_eq_true_eq]; exact h4) ?_
   refine aT (decide (b.toNat < 32 ∨ b.toNat = 127)) ?_ ?_
   ·by_cases h : b.toNat < 32
    ·exact av (by omega) (ab (by simp [h]))
    ·exact aC (by omega) (ab (eqB (by rw [decide_eq_true_eq, decide_eq_true_eq]; omega)))
   by_cases h5 : b.toNat < 32 ∨ b.toNat = 127
   ·rw [Ck (by omega) (by omega) (by omega) h5]
    refine av (by simp [h5]) (am (br (by omega) (by omega)) ?_)
    have hx : gO (b.toNat : Int) 16 = some (gL b.toNat) := by
     unfold gO
     rw [dN ⟨rfl, by omega, by omega⟩]; rfl
    have hxl := qv b.toNat
    refine aT _ (bh hx rfl) (am (by simp only [List.length_cons, List.length_nil]; omega) (am (by simp only [List.length_append, List.length_cons, List.length_nil]; omega) ?_))
    exact aT _ (bh (vE f _ (by simp only [List.length_append, List.length_cons, List.length_nil]; omega)) rfl) (ab (by simp))
   ·rw [CK (by omega) (by omega) h5]
    refine aC (by simp only [decide_eq_true_eq]; exact h5) ?_
    exact aT _ (bh (uj f b (by omega)) rfl) (ab rfl)
  ·refine am (br (by omega) (by omega)) ?_
   have := ih (i + 1) (f ++ kZ b) (by omega) (by rw [List.length_append]; omega)
   rw [Int.natCast_add, Int.natCast_one] at this
   simpa using this
theorem rP (s : Bytes) (hs : s.length ≤ 1000000000) : Ev2 (fun n _ => eQ n s) (· = lE s) := by
 simp only [eQ]
 have hf := uV s
 refine aT _ (bh (uj [] 34 (by simp)) rfl) ?_
 have l := ye s hs s.length 0 [34] (by omega) (by simp)
 rw [List.drop_zero] at l
 refine aT _ (a7 l) ?_
 refine aT _ (bh (uj _ 34 (by simp only [List.length_append, List.length_cons, List.length_nil]; omega)) rfl) (aT _ (bh (BJ _ (by simp only [List.length_append, List.length_cons, List.length_nil]; omega)) rfl) (ab ?_))
 simp [lE]
theorem Bw (s : Bytes) : iT s = some (decide (s.length ≤ 4096) && validD s) := by
 unfold iT
 by_cases h : (s.length : Int) ≤ 4096
 ·have hv : eh s = some (validD s) := by unfold eh; exact dN (by omega)
  rw [if_pos h, hv]
  simp; omega
 ·rw [if_neg h]
  simp; intro q; omega
end Go.Ab.R06
namespace Go.Ab.R06
open Go.Ab Go.Ab.RB Go.Lib
def va (b : UInt8) : Option Nat := if 48 ≤ b.toNat ∧ b.toNat ≤ 57 then some (b.toNat - 48) else if 97 ≤ b.toNat ∧ b.toNat ≤ 102 then some (b.toNat - 87) else none
def Bv : Bytes := [48, 49, 50, 51, 52, 53, 54, 55, 56, 57, 97, 98, 99, 100, 101, 102]
theorem hexT : (List.range 256).all (fun n => indexByte Bv (UInt8.ofNat n) == (match va (UInt8.ofNat n) with | some d => (d : Int) | none => -1)) = true := by kernel_rfl
theorem w8 (b : UInt8) : indexByte Bv b = match va b with | some d => (d : Int) | none => -1 := by
 have := eq_of_beq (List.all_eq_true.1 hexT b.toNat (List.mem_range.2 b.toNat_lt))
 simpa using this
theorem z6 {b : UInt8} {d : Nat} (h : va b = some d) : d < 16 := by
 unfold va at h
 split at h
 ·cases h; omega
 ·split at h
  ·cases h; omega
  ·cases h
def iO : Nat → Bytes → Nat → Nat × Nat
 | 0, _, a => (a, 0)
 | _ + 1, [], a => (a, 0)
 | k + 1, b :: r, a => match va b with
  | some d => ((iO k r (16 * a + d)).1, (iO k r (16 * a + d)).2 + 1)
  | none => (a, 0)
theorem pJ : ∀ (k : Nat) (l : Bytes) (a : Nat), (iO k l a).2 ≤ k ∧ (iO k l a).2 ≤ l.length
 | 0, _, _ => ⟨Nat.le_refl _, Nat.zero_le _⟩
 | _ + 1, [], _ => ⟨Nat.zero_le _, Nat.le_refl _⟩
 | k + 1, b :: r, a => by
  unfold iO
  cases va b with
  | none => exact ⟨Nat.zero_le _, Nat.zero_le _⟩
  | some d => have := pJ k r (16 * a + d); simp only [List.length_cons]; omega
theorem nh (n : Int) (h0 : 0 ≤ n) (h1 : n < 2147483648) : IntKind.wrap .i32 n = n := by
 simp [IntKind.wrap, IntKind.bits, IntKind.signed]
 omega
theorem B3 (s : Bytes) (hs : s.length ≤ 1000000000) : ∀ (k i a : Nat), i + k = 6 → i ≤ s.length → a < 16 ^ i → Ev2 (fun _ m => bK s m (a : Int) (i : Int))
  (· = (((iO k (s.drop i) a).1 : Int), ((i + (iO k (s.drop i) a).2 : Nat) : Int))) := by
 intro k
 induction k with
 | zero =>
  intro i a hi hl ha
  refine ax ?_
  simp only [bK]
  refine aT false ?_ (aC (by simp) (ab (by simp [iO])))
  exact aN (fun h => ab (by simp; omega)) (fun h => ab rfl)
 | succ k ih =>
  intro i a hi hl ha
  refine ax ?_
  simp only [bK]
  by_cases h : i < s.length
  ·refine aT true (av (by omega) (ab (by simp; omega))) (av rfl (am (by omega) ?_))
   have hb : byt s i = ((s.getD i 0).toNat : Int) := j6 s i
   rw [hb]
   have hd : s.drop i = s.getD i 0 :: s.drop (i + 1) := by
    rw [List.getD_eq_getElem?_getD, List.getElem?_eq_getElem h, Option.getD_some]
    exact List.drop_eq_getElem_cons h
   rw [hd]
   generalize s.getD i 0 = b
   have hx : strings_IndexByte ([48, 49, 50, 51, 52, 53, 54, 55, 56, 57, 97, 98, 99, 100, 101, 102] : Bytes) (b.toNat : Int) = some (indexByte Bv b) := by
    unfold strings_IndexByte
    have : ((b.toNat : Int).toNat.toUInt8) = b := by simp
    rw [this]; rfl
   refine aT _ (bh hx rfl) ?_
   rw [w8]
   unfold iO
   cases hh : va b with
   | none => exact av (by decide) (ab (by simp))
   | some d =>
    have hlt := z6 hh
    have hp : 16 ^ i ≤ 16 ^ 5 := Nat.pow_le_pow_right (by decide) (by omega)
    have hp5 : (16 : Nat) ^ 5 = 1048576 := rfl
    refine aC (by simp) (am (br (by omega) (by omega)) ?_)
    have e1 : IntKind.wrap .i32 (16 * (a : Int)) = 16 * (a : Int) := nh _ (by omega) (by omega)
    have e2 : IntKind.wrap .i32 (d : Int) = (d : Int) := nh _ (by omega) (by omega)
    have e3 : IntKind.wrap .i32 (16 * (a : Int) + (d : Int)) = ((16 * a + d : Nat) : Int) := by
     rw [nh _ (by omega) (by omega)]; omega
    rw [e1, e2, e3]
    have := ih (i + 1) (16 * a + d) (by omega) (by omega) (by rw [Nat.pow_succ]; omega)
    rw [show (((i + 1 : Nat)) : Int) = (i : Int) + 1 by omega] at this
    refine dM this fun r hr => ?_
    rw [hr]
    refine Prod.ext rfl ?_
    show ((i + 1 + _ : Nat) : Int) = ((i + (_ + 1) : Nat) : Int)
    omega
  ·refine aT false (aC (by omega) (ab rfl)) (aC (by simp) (ab ?_))
   rw [List.drop_of_length_le (by omega)]
   simp [iO]
def j3 (s : Bytes) : Int × Int × Int :=
 let h := iO 6 s 0
 if h.2 = s.length then (0, 0, 40)
 else if s.getD h.2 0 ≠ 125 ∨ h.2 = 0 ∨ (1 < h.2 ∧ s.getD 0 0 = 48) ∨ validRune (h.1 : Int) = false then (0, 0, 2)
 else ((h.1 : Int), ((h.2 + 1 : Nat) : Int), 0)
theorem wC {b : UInt8} {n : Nat} (hn : n < 256) : b.toNat = n ↔ b = UInt8.ofNat n := by
 constructor
 ·intro h; apply UInt8.toNat_inj.1; rw [h, UInt8.toNat_ofNat']; omega
 ·intro h; rw [h, UInt8.toNat_ofNat']; omega
theorem AC {s : Bytes} {v c : Nat} (h : iO 6 s 0 = (v, c)) : j3 s = if c = s.length then (0, 0, 40) else if s.getD c 0 ≠ 125 ∨ c = 0 ∨ (1 < c ∧ s.getD 0 0 = 48) ∨ validRune (v : Int) = false then (0, 0, 2) else ((v : Int), ((c + 1 : Nat) : Int), 0) := by
 unfold j3; rw [h]
theorem AO (s : Bytes) (hs : s.length ≤ 1000000000) : Ev2 (fun n _ => cQ n s) (· = j3 s) := by
 simp only [cQ]
 have l := B3 s hs 6 0 0 rfl (Nat.zero_le _) (by decide)
 rw [List.drop_zero, Nat.zero_add] at l
 have hle := pJ 6 s 0
 refine aT _ (a7 l) ?_
 obtain ⟨v, c, hh⟩ : ∃ v c, iO 6 s 0 = (v, c) := ⟨_, _, rfl⟩
 have hP := AC hh
 rw [hh] at hle ⊢
 simp only at hle ⊢
 refine aN (fun h => ab ?_) (fun h => ?_)
 ·rw [hP, if_pos (by omega)]
 rw [if_neg (show ¬ c = s.length by omega)] at hP
 have hb : byt s c = ((s.getD c 0).toNat : Int) := j6 s c
 have hb0 : byt s 0 = ((s.getD 0 0).toNat : Int) := j6 s 0
 have h125 : (s.getD c 0).toNat = 125 ↔ s.getD c 0 = 125 := wC (by decide)
 have h48 : (s.getD 0 0).toNat = 48 ↔ s.getD 0 0 = 48 := wC (by decide)
 have hv : dm (v : Int) = some (validRune (v : Int)) := rfl
 have key : Ev2 (fun _ _ => (ck ((0 : Int) ≤ (c : Int) ∧ (c : Int) < (s.length : Int)) <|
  if byt s c = 125 then
   if (c : Int) = 0 then some true
   else
   if 1 < (c : Int) then
    ck ((0 : Int) ≤ 0 ∧ 0 < (s.length : Int)) <|
    if byt s 0 = 48 then some true
    else (dm (v : Int)).bind fun r32 => some (!r32)
   else (dm (v : Int)).bind fun r34 => some (!r34)
  else some true : Option Bool)) (· = decide (s.getD c 0 ≠ 125 ∨ c = 0 ∨ (1 < c ∧ s.getD 0 0 = 48) ∨ validRune (v : Int) = false)) := by
  refine am (by omega) ?_
  rw [hb, hb0]
  refine aN (fun h1 => aN (fun h2 => ab ?_) (fun h2 => aN (fun h3 => am (by omega) (aN (fun h4 => ab ?_) (fun h4 => ?_))) (fun h3 => ?_))) (fun h1 => ab ?_)
  ·symm; rw [decide_eq_true_eq]; right; left; omega
  ·symm; rw [decide_eq_true_eq]; right; right; left; exact ⟨by omega, h48.1 (by omega)⟩
  ·have q1 : ¬ s.getD c 0 ≠ 125 := fun q => q (h125.1 (by omega))
   have q2 : ¬ (1 < c ∧ s.getD 0 0 = 48) := fun q => h4 (by have := h48.2 q.2; omega)
   refine aT _ (bh hv rfl) (ab (eqB ?_))
   rw [decide_eq_true_eq]
   have : ¬ c = 0 := by omega
   simp only [q1, q2, false_or, this, Bool.not_eq_true']
  ·have q1 : ¬ s.getD c 0 ≠ 125 := fun q => q (h125.1 (by omega))
   refine aT _ (bh hv rfl) (ab (eqB ?_))
   rw [decide_eq_true_eq]
   have a1 : ¬ c = 0 := by omega
   have a2 : ¬ 1 < c := by omega
   simp only [q1, a1, a2, false_or, false_and, Bool.not_eq_true']
  ·symm; rw [decide_eq_true_eq]; left; intro q; exact h1 (by have := h125.2 q; omega)
 refine aT _ key ?_
 refine aN (fun h1 => ab ?_) (fun h1 => am (br (by omega) (by omega)) (ab ?_))
 ·rw [hP, if_pos (of_decide_eq_true h1)]
 ·rw [hP, if_neg (fun q => h1 (decide_eq_true q))]
  refine Prod.ext rfl (Prod.ext ?_ rfl)
  show (c : Int) + 1 = ((c + 1 : Nat) : Int)
  omega
def kd (s : Bytes) : Int × Int × Int := match s with
 | [] => (0, 0, 40)
 | b :: r => if b.toNat = 110 then (10, 1, 0) else if b.toNat = 114 then (13, 1, 0) else if b.toNat = 116 then (9, 1, 0)
  else if b.toNat = 34 ∨ b.toNat = 92 then ((b.toNat : Int), 1, 0)
  else if b.toNat = 117 then (match r with
   | [] => (0, 0, 40)
   | c :: t => if c.toNat = 123 then ((j3 t).1, (j3 t).2.1 + 2, (j3 t).2.2) else (0, 0, 2))
  else (0, 0, 2)
theorem w2 (b : UInt8) (r : Bytes) : kd (b :: r) = if b.toNat = 110 then (10, 1, 0) else if b.toNat = 114 then (13, 1, 0) else if b.toNat = 116 then (9, 1, 0)
  else if b.toNat = 34 ∨ b.toNat = 92 then ((b.toNat : Int), 1, 0)
  else if b.toNat = 117 then (match r with
   | [] => (0, 0, 40)
   | c :: t => if c.toNat = 123 then ((j3 t).1, (j3 t).2.1 + 2, (j3 t).2.2) else (0, 0, 2))
  else (0, 0, 2) := rfl
theorem wq (s : Bytes) : 0 ≤ (j3 s).2.1 ∧ (j3 s).2.1 ≤ s.length ∧ ((j3 s).2.2 = 0 → gH (j3 s).1) ∧ 0 ≤ (j3 s).2.2 := by
 have hle := pJ 6 s 0
 unfold j3
 generalize iO 6 s 0 = h at hle ⊢
 obtain ⟨v, c⟩ := h
 simp only at hle ⊢
 split
 ·simp <;> omega
 ·split
  ·simp <;> omega
  ·rename_i h1 h2
   refine ⟨by simp only; omega, by simp only; omega, fun _ => ?_, by simp⟩
   have : validRune (v : Int) = true := by
    cases hv : validRune (v : Int) with
    | true => rfl
    | false => exact absurd (.inr (.inr (.inr hv))) h2
   simp only [validRune, decide_eq_true_eq] at this
   unfold gH; simp only; omega
theorem wV (s : Bytes) : 0 ≤ (kd s).2.1 ∧ (kd s).2.1 ≤ s.length + 1 ∧ ((kd s).2.2 = 0 → gH (kd s).1 ∧ (kd s).2.1 ≤ s.length) ∧ 0 ≤ (kd s).2.2 := by
 unfold kd
 split
 ·simp
 ·rename_i b r
  have hb := b.toNat_lt
  split
  ·simp [gH] <;> omega
  split
  ·simp [gH] <;> omega
  split
  ·simp [gH] <;> omega
  split
  ·simp [gH] <;> omega
  split
  ·split
   ·simp
   ·rename_i c t
    have := wq t
    split
    ·refine ⟨by simp only; omega, by simp only [List.length_cons]; omega, fun q => ⟨this.2.2.1 q, by simp only [List.length_cons]; omega⟩, this.2.2.2⟩
    ·simp <;> omega
  ·simp <;> omega
theorem Ai (s : Bytes) (hs : s.length ≤ 1000000000) : Ev2 (fun n _ => eY n s) (· = kd s) := by
 simp only [eY]
 cases s with
 | nil => exact av rfl (ab rfl)
 | cons b r =>
  have hl : ((b :: r).length : Int) = (r.length : Int) + 1 := by simp
  refine aC (by simp) (am (by omega) ?_)
  have hb : byt (b :: r) 0 = (b.toNat : Int) := rfl
  have hbl := b.toNat_lt
  rw [hb]
  have hP := w2 b r
  refine aN (fun h => ab (by rw [hP, if_pos (by omega)])) (fun h1 => ?_)
  rw [if_neg (show ¬ b.toNat = 110 by omega)] at hP
  refine aN (fun h => ab (by rw [hP, if_pos (by omega)])) (fun h2 => ?_)
  rw [if_neg (show ¬ b.toNat = 114 by omega)] at hP
  refine aN (fun h => ab (by rw [hP, if_pos (by omega)])) (fun h3 => ?_)
  rw [if_neg (show ¬ b.toNat = 116 by omega)] at hP
  refine aT (decide (b.toNat = 34 ∨ b.toNat = 92)) ?_ ?_
  ·by_cases h : b.toNat = 34
   ·exact av (by omega) (ab (by simp [h]))
   ·exact aC (by omega) (ab (eqB (by rw [decide_eq_true_eq, decide_eq_true_eq]; omega)))
  by_cases h4 : b.toNat = 34 ∨ b.toNat = 92
  ·rw [if_pos h4] at hP
   rw [hP]
   refine av (by simp [h4]) (am (by omega) (ab ?_))
   rw [nh _ (by omega) (by omega)]
  rw [if_neg h4] at hP
  refine aC (by simp only [decide_eq_true_eq]; exact h4) ?_
  refine aN (fun h5 => ?_) (fun h5 => ab (by rw [hP, if_neg (by omega)]))
  rw [if_pos (show b.toNat = 117 by omega)] at hP
  rw [hP]
  cases r with
  | nil => exact av (by simp) (ab rfl)
  | cons c t =>
   have hl2 : ((b :: c :: t).length : Int) = (t.length : Int) + 2 := by simp <;> omega
   refine aC (by omega) (am (by omega) ?_)
   have hc : byt (b :: c :: t) 1 = (c.toNat : Int) := rfl
   rw [hc]
   refine aN (fun h6 => am (by omega) ?_) (fun h6 => ab (by show _ = if c.toNat = 123 then _ else _; rw [if_neg (by omega)]))
   have e6 : (if c.toNat = 123 then ((j3 t).1, (j3 t).2.1 + 2, (j3 t).2.2) else ((0, 0, 2) : Int × Int × Int)) = ((j3 t).1, (j3 t).2.1 + 2, (j3 t).2.2) := if_pos (by omega)
   show Ev2 _ (· = if c.toNat = 123 then ((j3 t).1, (j3 t).2.1 + 2, (j3 t).2.2) else ((0, 0, 2) : Int × Int × Int))
   rw [e6, jC]
   show Ev2 (fun n m => (cQ n t).bind _) _
   have hle := wq t
   have htl : t.length ≤ 1000000000 := by simp at hs; omega
   exact aT _ (AO t htl) (am (br (by omega) (by omega)) (ab rfl))
end Go.Ab.R06
namespace Go.Ab.R06
open Go.Ab Go.Ab.RB Go.Lib
def vM (c : Nat × Nat) : Prop := (c.1 = 65533 ∧ c.2 = 1) ∨ c.1 < 32 ∨ c.1 = 127
instance (c : Nat × Nat) : Decidable (vM c) := inferInstanceAs (Decidable (_ ∨ _))
def mK : Nat → Bytes → Nat → Bytes → (Int × Bytes) ⊕ (Bytes × Int × Int)
 | 0, _, at', acc => .inl ((at' : Int), acc)
 | _ + 1, [], at', acc => .inl ((at' : Int), acc)
 | n + 1, b :: r, at', acc => if b.toNat = 34 then .inl ((at' : Int), acc)
  else if (decodeL (b :: r)).1 = 92 then
   (if (kd r).2.2 = 0 then mK n (r.drop (kd r).2.1.toNat) (at' + ((kd r).2.1.toNat + 1)) (acc ++ encodeRune (kd r).1) else .inr ([], 0, (kd r).2.2))
  else if vM (decodeL (b :: r)) then .inr ([], 0, 2)
  else mK n ((b :: r).drop (decodeL (b :: r)).2) (at' + (decodeL (b :: r)).2) (acc ++ encodeRune ((decodeL (b :: r)).1 : Int))
theorem sC (n : Nat) (b : UInt8) (r : Bytes) (at' : Nat) (acc : Bytes) : mK (n + 1) (b :: r) at' acc = if b.toNat = 34 then .inl ((at' : Int), acc)
  else if (decodeL (b :: r)).1 = 92 then
   (if (kd r).2.2 = 0 then mK n (r.drop (kd r).2.1.toNat) (at' + ((kd r).2.1.toNat + 1)) (acc ++ encodeRune (kd r).1) else .inr ([], 0, (kd r).2.2))
  else if vM (decodeL (b :: r)) then .inr ([], 0, 2)
  else mK n ((b :: r).drop (decodeL (b :: r)).2) (at' + (decodeL (b :: r)).2) (acc ++ encodeRune ((decodeL (b :: r)).1 : Int)) := by rw [mK]
theorem A6 (s : Bytes) (hs : s.length ≤ 1000000000) : ∀ (k : Nat) (l : Bytes) (i : Nat) (f : Bytes), l.length < k → s.drop i = l → i + l.length = s.length → f.length ≤ 4 * i → Ev2 (fun n m => cM n s m (i : Int) f) (· = mK k l i f) := by
 intro k
 induction k with
 | zero => intro l i f h; omega
 | succ k ih =>
  intro l i f hk hl hi hf
  refine ax ?_
  simp only [cM]
  cases l with
  | nil =>
   simp only [List.length_nil] at hi
   refine aT false (aC (by omega) (ab rfl)) (aC (by simp) (ab ?_))
   rw [mK]
  | cons b r =>
   have hil : i < s.length := by simp only [List.length_cons] at hi; omega
   have hb : byt s i = (b.toNat : Int) := by
    rw [j6]
    have : s.getD i 0 = b := by
     have := List.drop_eq_getElem_cons hil
     rw [hl] at this
     rw [List.getD_eq_getElem?_getD, List.getElem?_eq_getElem hil]
     exact (List.cons.inj this).1.symm
    rw [this]
   have hr : s.drop (i + 1) = r := by
    have := List.drop_eq_getElem_cons hil
    rw [hl] at this
    exact (List.cons.inj this).2.symm
   have hlr : r.length + i + 1 = s.length := by simp only [List.length_cons] at hi; omega
   have hU := sC k b r i f
   rw [hb]
   by_cases h34 : b.toNat = 34
   ·rw [if_pos h34] at hU
    exact aT false (av (by omega) (am (by omega) (ab (by simp; omega)))) (aC (by simp) (ab hU.symm))
   rw [if_neg h34] at hU
   refine aT true (av (by omega) (am (by omega) (ab (by simp; omega)))) (av rfl (am (by omega) ?_))
   rw [jC, Int.toNat_natCast, hl]
   have hd : dc (b :: r) = some (((decodeL (b :: r)).1 : Int), ((decodeL (b :: r)).2 : Int)) := by
    unfold dc
    rw [fK _ (by simp)]
   refine aT _ (bh hd rfl) ?_
   have hdf := sG (b :: r) (by simp)
   generalize hD : decodeL (b :: r) = D at hU hdf ⊢
   obtain ⟨c, w⟩ := D
   simp only at hU hdf ⊢
   by_cases h92 : c = 92
   ·rw [if_pos h92] at hU
    have hes := wV r
    have hev := Ai r (by omega)
    have sub1 : sub s ((i : Int) + 1) (s.length : Int) = r := by
     rw [jC, show ((i : Int) + 1).toNat = i + 1 by omega, hr]
    generalize kd r = E at hU hes hev
    obtain ⟨x, y, z⟩ := E
    simp only at hU hes hev
    by_cases hz : z = 0
    ·rw [if_pos hz] at hU
     refine kB (av (by omega) (am (br (by omega) (by omega)) (am (by omega) ?_)))
     rw [sub1]
     obtain ⟨e1, e2⟩ := hes.2.2.1 hz
     obtain ⟨y', rfl⟩ : ∃ y' : Nat, y = y' := ⟨y.toNat, by omega⟩
     rw [Int.toNat_natCast] at hU
     refine aT _ hev (av hz (am (br (by dsimp only; omega) (by dsimp only; omega)) (ab ?_)))
     refine aT _ (bh (AY f x e1 (by omega)) rfl) (am (br (by dsimp only; omega) (by dsimp only; omega)) ?_)
     have hle := nq x e1
     have := ih (r.drop y') (i + (y' + 1)) (f ++ encodeRune x) (by rw [List.length_drop]; simp only [List.length_cons] at hk; omega) (by rw [← hr, List.drop_drop]; congr 1; omega) (by rw [List.length_drop]; omega) (by rw [List.length_append]; omega)
     rw [← hU] at this
     rw [show ((i + (y' + 1) : Nat) : Int) = (i : Int) + ((y' : Int) + 1) by omega] at this
     exact this
    ·rw [if_neg hz] at hU
     refine kB (av (by omega) (am (br (by omega) (by omega)) (am (by omega) ?_)))
     rw [sub1]
     refine aT _ hev (aC hz (ab ?_))
     exact hU.symm
   ·rw [if_neg h92] at hU
    have hbad : Ev2 (fun _ _ => (if (c : Int) = 65533 then if (w : Int) = 1 then some true else if (c : Int) < 32 then some true else some (decide ((c : Int) = 127)) else if (c : Int) < 32 then some true else some (decide ((c : Int) = 127)) : Option Bool)) (· = decide (vM (c, w))) := by
     refine aN (fun h1 => aN (fun h2 => ab ?_) (fun h2 => aN (fun h3 => ab ?_) (fun h3 => ab (eqB ?_)))) (fun h1 => aN (fun h3 => ab ?_) (fun h3 => ab (eqB ?_)))
     ·symm; rw [decide_eq_true_eq]; left; simp only; omega
     ·symm; rw [decide_eq_true_eq]; right; left; simp only; omega
     ·rw [decide_eq_true_eq, decide_eq_true_eq]; unfold vM; simp only; omega
     ·symm; rw [decide_eq_true_eq]; right; left; simp only; omega
     ·rw [decide_eq_true_eq, decide_eq_true_eq]; unfold vM; simp only; omega
    by_cases hbd : vM (c, w)
    ·rw [if_pos hbd] at hU
     refine kB (aC (by omega) (aT _ hbad (av (by simp only [decide_eq_true_eq]; exact hbd) (ab ?_))))
     exact hU.symm
    ·rw [if_neg hbd] at hU
     refine kB (aC (by omega) (aT _ hbad (aC (by simp only [decide_eq_true_eq]; exact hbd) (ab ?_))))
     have hgood := hdf.2.2 (fun q => hbd (.inl q))
     refine aT _ (bh (AY f c hgood.1 (by omega)) rfl) (am (br (by simp only [List.length_cons] at hdf; omega) (by simp only [List.length_cons] at hdf; omega)) ?_)
     have hle := nq c hgood.1
     have hw : w ≤ r.length + 1 := by simpa using hdf.2.1
     have hw1 := hdf.1
     have := ih ((b :: r).drop w) (i + w) (f ++ encodeRune (c : Int)) (by rw [List.length_drop]; simp only [List.length_cons] at hk ⊢; omega) (by rw [← hl, List.drop_drop]) (by rw [List.length_drop]; simp only [List.length_cons]; omega) (by rw [List.length_append]; omega)
     rw [← hU] at this
     rw [show ((i + w : Nat) : Int) = (i : Int) + (w : Int) by omega] at this
     exact this
def mj : Bytes → Bytes × Int × Int
 | [] => ([], 0, 40)
 | b :: r => if b.toNat = 34 then (match mK (r.length + 1) r 1 [] with
   | .inl q => if q.1 = ((r.length + 1 : Nat) : Int) then ([], 0, 40) else if 4096 < q.2.length then ([], 0, 3) else (q.2, q.1 + 1, 0)
   | .inr e => e)
  else ([], 0, 2)
theorem pp (b : UInt8) (r : Bytes) : mj (b :: r) = if b.toNat = 34 then (match mK (r.length + 1) r 1 [] with
   | .inl q => if q.1 = ((r.length + 1 : Nat) : Int) then ([], 0, 40) else if 4096 < q.2.length then ([], 0, 3) else (q.2, q.1 + 1, 0)
   | .inr e => e)
  else ([], 0, 2) := rfl
theorem tC : ∀ (k : Nat) (l : Bytes) (i : Nat) (f : Bytes), (∀ a g, mK k l i f = .inl (a, g) → (i : Int) ≤ a ∧ a ≤ ((i + l.length : Nat) : Int) ∧ g.length ≤ f.length + 4 * l.length ∧ ((∀ t, validD (f ++ t) = validD t) → ∀ t, validD (g ++ t) = validD t)) ∧ (∀ x, mK k l i f = .inr x → x.1 = [] ∧ x.2.1 = 0 ∧ x.2.2 ≠ 0) := by
 intro k
 induction k with
 | zero =>
  intro l i f
  refine ⟨fun a g h => ?_, fun x h => (by rw [mK] at h; cases h)⟩
  rw [mK] at h; cases h
  exact ⟨by omega, by omega, by omega, fun q => q⟩
 | succ k ih =>
  intro l i f
  cases l with
  | nil =>
   refine ⟨fun a g h => ?_, fun x h => (by rw [mK] at h; cases h)⟩
   rw [mK] at h; cases h
   exact ⟨by omega, by simp, by simp, fun q => q⟩
  | cons b r =>
   rw [sC]
   have hdf := sG (b :: r) (by simp)
   have hes := wV r
   split
   ·refine ⟨fun a g h => ?_, fun x h => (by cases h)⟩
    cases h
    exact ⟨by omega, by simp only [List.length_cons]; omega, by omega, fun q => q⟩
   split
   ·split
    ·rename_i hz
     obtain ⟨e1, e2⟩ := hes.2.2.1 hz
     have hle := nq _ e1
     have hi := ih (r.drop (kd r).2.1.toNat) (i + ((kd r).2.1.toNat + 1)) (f ++ encodeRune (kd r).1)
     refine ⟨fun a g h => ?_, hi.2⟩
     have := hi.1 a g h
     rw [List.length_drop, List.length_append] at this
     refine ⟨by omega, by simp only [List.length_cons]; omega, by simp only [List.length_cons]; omega, fun q => this.2.2.2 fun t => ?_⟩
     rw [List.append_assoc, q, sJ _ e1]
    ·rename_i hz
     refine ⟨fun a g h => (by cases h), fun x h => ?_⟩
     cases h
     exact ⟨rfl, rfl, hz⟩
   split
   ·refine ⟨fun a g h => (by cases h), fun x h => ?_⟩
    cases h
    exact ⟨rfl, rfl, by decide⟩
   ·rename_i hbd
    have hgood := hdf.2.2 (fun q => hbd (.inl q))
    have hle := nq _ hgood.1
    have hi := ih ((b :: r).drop (decodeL (b :: r)).2) (i + (decodeL (b :: r)).2) (f ++ encodeRune ((decodeL (b :: r)).1 : Int))
    refine ⟨fun a g h => ?_, hi.2⟩
    have := hi.1 a g h
    rw [List.length_drop, List.length_append] at this
    simp only [List.length_cons] at this hdf ⊢
    refine ⟨by omega, by omega, by omega, fun q => this.2.2.2 fun t => ?_⟩
    rw [List.append_assoc, q, sJ _ hgood.1]
theorem A9 (s : Bytes) (hs : s.length ≤ 1000000000) : Ev2 (fun n _ => em n s) (· = mj s) := by
 simp only [em]
 cases s with
 | nil => exact av rfl (ab rfl)
 | cons b r =>
  have hl : ((b :: r).length : Int) = (r.length : Int) + 1 := by simp
  have hln : (b :: r).length = r.length + 1 := by simp
  refine aC (by simp) (am (by omega) ?_)
  have hb : byt (b :: r) 0 = (b.toNat : Int) := rfl
  rw [hb]
  rw [pp]
  refine aN (fun h => ?_) (fun h => ab (by rw [if_neg (show ¬ b.toNat = 34 by omega)]))
  have l := A6 (b :: r) hs (r.length + 1) r 1 [] (by omega) rfl (by omega) (by simp)
  have hle := tC (r.length + 1) r 1 []
  have e34 : b.toNat = 34 := by omega
  simp only [e34, if_true]
  generalize mK (r.length + 1) r 1 [] = U at l hle ⊢
  cases U with
  | inr e => exact ju e (a7 l) rfl
  | inl q =>
   obtain ⟨a, g⟩ := q
   have hq := hle.1 a g rfl
   simp only [List.length_nil, Nat.zero_add] at hq
   refine gJ (a, g) (a7 l) ?_
   refine aN (fun h => ab (by simp only at h ⊢; rw [if_pos (by omega)])) (fun h => ?_)
   simp only at h ⊢
   rw [if_neg (by omega)]
   refine aT _ (bh rfl rfl) (aN (fun h1 => ab (by simp only at h1; rw [if_pos (by omega)])) (fun h1 => ?_))
   simp only at h1
   rw [if_neg (by omega)]
   refine aT _ (bh (BJ g (by omega)) rfl) (am (br (by omega) (by omega)) (ab rfl))
theorem Ah {s x : Bytes} {n : Int} (h : mj s = (x, n, 0)) : x.length ≤ 4096 ∧ validD x = true ∧ 2 ≤ n ∧ n ≤ s.length := by
 cases s with
 | nil => cases h
 | cons b r =>
  rw [pp] at h
  split at h
  ·have hle := tC (r.length + 1) r 1 []
   split at h
   ·rename_i q hq
    obtain ⟨a, g⟩ := q
    have hg := hle.1 a g hq
    simp only at h
    split at h
    ·cases h
    ·split at h
     ·cases h
     ·rename_i h1 h2
      cases h
      simp only [List.length_cons]
      refine ⟨by omega, ?_, by omega, by omega⟩
      have := hg.2.2.2 (fun t => by simp) []
      simpa [validD_nil] using this
   ·rename_i e he
    subst h
    exact absurd rfl (hle.2 _ he).2.2
  ·cases h
theorem Ae (s : Bytes) : 0 ≤ (mj s).2.1 ∧ (mj s).2.1 ≤ s.length ∧ ((mj s).2.2 ≠ 0 → (mj s).1 = [] ∧ (mj s).2.1 = 0) ∧ (mj s).1.length ≤ 4096 := by
 cases s with
 | nil => exact ⟨Int.le_refl _, Int.le_refl _, fun _ => ⟨rfl, rfl⟩, Nat.zero_le _⟩
 | cons b r =>
  rw [pp]
  split
  ·have hle := tC (r.length + 1) r 1 []
   split
   ·rename_i q hq
    obtain ⟨a, g⟩ := q
    have hg := hle.1 a g hq
    simp only
    split
    ·simp; omega
    ·split
     ·simp; omega
     ·rename_i h1 h2
      simp only [List.length_cons] at *
      exact ⟨by omega, by omega, fun q => absurd rfl q, by omega⟩
   ·rename_i e he
    have := hle.2 _ he
    rw [this.1, this.2.1]
    simp; omega
  ·simp; omega
theorem AQ : ∀ (k u : Nat), u < 10 ^ (k + 1) → (decDigits u).length ≤ k + 1 := by
 intro k
 induction k with
 | zero => intro u h; rw [decDigits, dif_pos (by simpa using h)]; simp
 | succ k ih =>
  intro u h
  rw [decDigits]
  split
  ·simp
  ·have := ih (u / 10) (by rw [Nat.pow_succ] at h; omega)
   rw [List.length_append]; simp; omega
theorem uS {v : Int} (h0 : 0 ≤ v) (h1 : v ≤ j7) : (itoa v).length ≤ 16 := by
 obtain ⟨u, rfl⟩ : ∃ u : Nat, v = u := ⟨v.toNat, by omega⟩
 unfold itoa
 rw [if_neg (by omega), Int.toNat_natCast]
 exact AQ 15 u (by unfold j7 at h1; omega)
end Go.Ab.R06
end
section
set_option linter.unusedVariables false
set_option linter.unusedSimpArgs false
set_option linter.unnecessarySimpa false
namespace Go.Ab.R06
open Go.Proofs Go.Ab Go.Ab.RB
attribute [local irreducible] awp d9 aU aF bO AV.sub M dU
end Go.Ab.R06
end
section
set_option linter.unusedVariables false
set_option linter.unusedSimpArgs false
set_option linter.unnecessarySimpa false
namespace Go.Ab.R06
open Go.Proofs Go.Ab Go.Ab.RB
attribute [local irreducible] awp d9 aU aF bO AV.sub M dU
end Go.Ab.R06
end
section
set_option linter.unusedVariables false
set_option linter.unusedSimpArgs false
set_option linter.unnecessarySimpa false
namespace Go.Ab.R06
open Go.Ab Go.Ab.RB
theorem yC (s : Bytes) (hs : s.length ≤ 1000000000) : ∀ (k i : Nat), i + k = s.length → Ev2 (fun _ m => bJ s m (i : Int)) (· = if pg (tS s) i k then .inl () else .inr false) := by
 intro k
 induction k with
 | zero =>
  intro i hi
  refine ax ?_
  simp only [bJ]
  refine aC (by omega) (ab rfl)
 | succ k ih =>
  intro i hi
  refine ax ?_
  simp only [bJ]
  refine av (by omega) (am (by omega) ?_)
  have hb : byt s i = ((s.getD i 0).toNat : Int) := j6 s i
  rw [hb]
  have hor := Ba (s.getD i 0)
  have hok := oR s i
  rw [uC, mI] at hok
  refine aT (!tS s i) ?_ ?_
  ·generalize s.getD i 0 = b at hor hok ⊢
   generalize tS s i = o at hok ⊢
   generalize iOr .u8 ((b.toNat : Nat) : Int) 32 = v at hor ⊢
   have hT : (vG b = true) → o = true := fun h => hok.2 (.inl ((uC b).1 h))
   have mk : ∀ x : Bool, (x = true ↔ ¬ (((97 ≤ b.toNat ∧ b.toNat ≤ 122) ∨ (65 ≤ b.toNat ∧ b.toNat ≤ 90) ∨ b.toNat = 95) ∨ (i ≠ 0 ∧ 48 ≤ b.toNat ∧ b.toNat ≤ 57))) → x = !o := fun x hx => eqB (by rw [hx, ← hok]; simp)
   refine am (by omega) (aN (fun h => ab (mk _ ?_)) (fun h => aN (fun h1 => ?_) (fun h1 => aN (fun h2 => ?_) (fun h2 => ab (mk _ ?_)))))
   ·simp; omega
   ·refine aN (fun h3 => ab (mk _ ?_)) (fun h3 => am (by omega) (aN (fun h4 => ab (mk _ ?_)) (fun h4 => am (by omega) (ab (mk _ ?_)))))
    ·simp; omega
    ·simp; omega
    ·rw [decide_eq_true_eq]; omega
   ·refine aN (fun h3 => ab (mk _ ?_)) (fun h3 => am (by omega) (aN (fun h4 => ab (mk _ ?_)) (fun h4 => am (by omega) (ab (mk _ ?_)))))
    ·simp; omega
    ·simp; omega
    ·rw [decide_eq_true_eq]; omega
   ·simp; omega
  ·cases hk : tS s i with
   | false => exact av (by simp) (ab (by simp [pg, hk]))
   | true =>
    refine aC (by simp) (am (br (by omega) (by omega)) ?_)
    have := ih (i + 1) (by omega)
    rw [Int.natCast_add, Int.natCast_one] at this
    simpa [pg, hk] using this
theorem oT (s : Bytes) (hs : s.length ≤ 1000000000) : Ev2 (fun n _ => cm n s) (· = eN s) := by
 simp only [cm]
 have h := yC s hs s.length 0 (by omega)
 have hi := rK s
 cases ha : pg (tS s) 0 s.length with
 | false =>
  rw [ha] at h hi
  refine ju false (a7 h) (eqB ?_)
  rw [hi]; simp
 | true =>
  rw [ha] at h hi
  refine gJ () (a7 h) ?_
  refine bQ (· = eN s) (aN (fun h => ab (eqB ?_)) (fun h => ab (eqB ?_))) (fun t ht => ab ht)
  ·rw [hi]; simp [h]
  ·rw [hi, decide_eq_true_eq]; simp [h]; omega
end Go.Ab.R06
end
section
set_option linter.unusedVariables false
set_option linter.unusedSimpArgs false
set_option linter.unnecessarySimpa false
namespace Go.Ab.R06
open Go.Ab Go.Ab.RB Go.Lib
theorem kK (s p : Bytes) : hasPrefix s p = true ↔ ∃ t, s = p ++ t := by
 unfold hasPrefix
 rw [List.isPrefixOf_iff_prefix]
 exact ⟨fun ⟨t, h⟩ => ⟨t, h.symm⟩, fun ⟨t, h⟩ => ⟨t, h.symm⟩⟩
theorem z1 (p t : Bytes) : hasPrefix (p ++ t) p = true := (kK _ _).2 ⟨t, rfl⟩
theorem ov (p t : Bytes) : trimPrefix (p ++ t) p = t := by
 unfold trimPrefix
 rw [z1, if_pos rfl]; simp
theorem tp {s p : Bytes} (h : hasPrefix s p = false) : trimPrefix s p = s := by
 unfold trimPrefix; rw [h]; simp
def ka (r : aB) (p : Bytes) : Bool × aB := (hasPrefix r.frest p, aB.mk (trimPrefix r.frest p) r.fbad)
def ip (r : aB) (p : Bytes) : aB := aB.mk (trimPrefix r.frest p) (r.fbad || !hasPrefix r.frest p)
theorem has_eq (r : aB) (p : Bytes) : ec r p = some (ka r p) := rfl
theorem qI (r : aB) (p : Bytes) : dv r p = some (ip r p) := by
 unfold dv strings_CutPrefix ip
 simp only [Option.bind_some]
 cases r.fbad <;> simp
def wl (b : UInt8) : Bool := decide (b.toNat = 46) || decide (b.toNat = 91)
def lv : Bytes → Nat
 | [] => 0
 | b :: r => if wl b = true then 0 else lv r + 1
theorem ut : ∀ l : Bytes, lv l ≤ l.length
 | [] => Nat.le_refl _
 | b :: r => by
  unfold lv
  have := ut r
  split
  ·omega
  ·simp only [List.length_cons]; omega
theorem yM (b : UInt8) : ([46, 91] : Bytes).contains b = wl b := by
 refine eqB ?_
 have h1 : b.toNat = 46 ↔ b = 46 := wC (by decide)
 have h2 : b.toNat = 91 ↔ b = 91 := wC (by decide)
 unfold wl
 rw [Bool.or_eq_true, decide_eq_true_eq, decide_eq_true_eq, h1, h2]
 simp
theorem rE : ∀ l : Bytes, (if indexAny l [46, 91] < 0 then (l.length : Int) else indexAny l [46, 91]) = (lv l : Int)
 | [] => rfl
 | b :: r => by
  have ih := rE r
  have hge := indexAny_ge [46, 91] r
  unfold indexAny lv
  rw [yM]
  cases hs : wl b with
  | true => simp
  | false =>
   simp only [Bool.false_eq_true, if_false, List.length_cons]
   by_cases h : indexAny r [46, 91] = -1
   ·rw [h] at ih
    simp only [h, beq_self_eq_true, if_true]
    rw [if_pos (by decide)] at ih ⊢
    omega
   ·have hb : (indexAny r [46, 91] == -1) = false := by simp [h]
    rw [hb]
    rw [if_neg (by omega)] at ih
    simp only [Bool.false_eq_true, if_false]
    rw [if_neg (by omega)]
    omega
def ee (r : aB) : Bytes × aB := (r.frest.take (lv r.frest), aB.mk (r.frest.drop (lv r.frest)) (r.fbad || !eN (r.frest.take (lv r.frest))))
theorem tM (r : aB) (hs : r.frest.length ≤ 1000000000) : Ev2 (fun n _ => cp n r) (· = ee r) := by
 simp only [cp]
 have hx : strings_IndexAny r.frest [46, 91] = some (indexAny r.frest [46, 91]) := by
  unfold strings_IndexAny; exact dN ⟨rfl, by omega⟩
 have hw := rE r.frest
 have hle := ut r.frest
 refine aT _ (bh hx rfl) (aT (lv r.frest : Int) ?_ ?_)
 ·rw [← hw]
  refine aN (fun h => ab (by rw [if_pos h])) (fun h => ab (by rw [if_neg h]))
 ·refine am (by omega) (am (by omega) ?_)
  have e1 : sub r.frest 0 (lv r.frest : Int) = r.frest.take (lv r.frest) := by
   show (r.frest.take (lv r.frest : Int).toNat).drop (0 : Int).toNat = _
   simp
  rw [e1, jC, Int.toNat_natCast]
  refine aT (r.fbad || !eN (r.frest.take (lv r.frest))) ?_ (ab rfl)
  cases r.fbad with
  | true => exact av rfl (ab rfl)
  | false => exact aC (by simp) (aT _ (oT _ (by rw [List.length_take]; omega)) (ab (by simp)))
def fj (k : ea) : Bool :=
 if k.fKind = 0 then decide (k.fNum = 0 ∧ k.fStr = ([] : Bytes))
 else if k.fKind = 1 then decide (0 ≤ k.fNum ∧ k.fNum ≤ j7 ∧ k.fStr = ([] : Bytes))
 else if k.fKind = 2 then decide (k.fNum = 0) && (decide (k.fStr.length ≤ 4096) && validD k.fStr)
 else false
theorem valid_eq (k : ea) : fV k = some (fj k) := by
 unfold fV fj
 by_cases h0 : k.fKind = 0
 ·rw [if_pos h0, if_pos h0]; simp [h0]
 rw [if_neg h0, if_neg h0]
 by_cases h1 : k.fKind = 1
 ·rw [if_pos h1, if_pos h1]
  by_cases h2 : 0 ≤ k.fNum
  ·rw [if_pos h2]
   by_cases h3 : k.fNum ≤ 9007199254740992
   ·rw [if_pos h3]; simp [h2, j7, h3]
   ·rw [if_neg h3]; simp [j7, h3]
  ·rw [if_neg h2]; simp [h2]
 rw [if_neg h1, if_neg h1]
 by_cases h2 : k.fKind = 2
 ·rw [if_pos h2, if_pos h2]
  by_cases h3 : k.fNum = 0
  ·rw [if_pos h3, Bw]; simp [h3]
  ·rw [if_neg h3]; simp [h3]
 ·rw [if_neg h2, if_neg h2]
def oX : ea := ea.mk 0 0 []
def idx (l : Bytes) (c : UInt8) : Nat := (indexByte l c).toNat
def lx (r : aB) : ea × aB :=
 if r.fbad = true then (oX, r) else if hasPrefix r.frest [91] = false then (oX, r)
 else if hasPrefix (r.frest.drop 1) [34] = true then
  (if (mj (r.frest.drop 1)).2.2 = 0 ∧ lE (mj (r.frest.drop 1)).1 = (r.frest.drop 1).take (mj (r.frest.drop 1)).2.1.toNat then
   (ea.mk 2 0 (mj (r.frest.drop 1)).1, ip (aB.mk ((r.frest.drop 1).drop (mj (r.frest.drop 1)).2.1.toNat) false) [93])
   else (oX, aB.mk (r.frest.drop 1) true))
 else (ea.mk 1 (pQ ((r.frest.drop 1).take (idx (r.frest.drop 1) 93))).1 [],
   ip (aB.mk ((r.frest.drop 1).drop (idx (r.frest.drop 1) 93)) (!(decide ((pQ ((r.frest.drop 1).take (idx (r.frest.drop 1) 93))).2 = 0) && !decide ((pQ ((r.frest.drop 1).take (idx (r.frest.drop 1) 93))).1 < 0)))) [93])
theorem rJ (l : Bytes) (n : Int) : sub l 0 n = l.take n.toNat := by
 show (l.take n.toNat).drop (0 : Int).toNat = _
 simp
theorem index_le : ∀ (l : Bytes) (c : UInt8), indexByte l c ≤ l.length
 | [], _ => by simp [indexByte]
 | b :: r, c => by
  have := index_le r c
  unfold indexByte
  simp only [List.length_cons]
  split
  ·omega
  ·split <;> omega
theorem yR (r : aB) (hs : r.frest.length ≤ 900000000) : Ev2 (fun n _ => cP n r) (· = lx r) := by
 simp only [cP]
 cases hb : r.fbad with
 | true =>
  refine aT (true, r.frest, r.fbad) (av rfl (ab (by rw [hb]))) (av rfl (ab ?_))
  unfold lx
  rw [if_pos hb]; rfl
 | false =>
  cases hp : hasPrefix r.frest [91] with
  | false =>
   refine aT (true, r.frest, r.fbad) (aC (by simp) (aT _ (bh (has_eq _ _) rfl) (ab ?_))) (av rfl (ab ?_))
   ·unfold ka; simp only [hp, tp hp, Bool.not_false]
   ·unfold lx
    rw [if_neg (by simp [hb]), if_pos hp]; rfl
  | true =>
   obtain ⟨t, ht⟩ := (kK _ _).1 hp
   have hd : r.frest.drop 1 = t := by rw [ht]; rfl
   have htl : t.length ≤ 900000000 := by rw [ht] at hs; simp at hs; omega
   refine aT (false, t, false) (aC (by simp) (aT _ (bh (has_eq _ _) rfl) (ab ?_))) (aC (by simp) ?_)
   ·unfold ka; simp only [hp, Bool.not_true, hb]; rw [ht, ov]
   unfold lx
   rw [if_neg (by simp [hb]), if_neg (by simp [hp]), hd]
   have hx : strings_HasPrefix t [34] = some (hasPrefix t [34]) := rfl
   cases hq : hasPrefix t [34] with
   | true =>
    rw [hq] at hx
    have hle := Ae t
    have hu := A9 t (by omega)
    rw [if_pos rfl]
    generalize mj t = U at hle hu ⊢
    obtain ⟨x, n, e⟩ := U
    simp only at hle ⊢
    by_cases he : e = 0 ∧ lE x = t.take n.toNat
    ·rw [if_pos he]
     refine kB (aT _ (bh hx rfl) (av rfl (aT _ hu (aT false ?_ (aC (by simp) (am (by dsimp only; omega) (ab ?_)))))))
     ·refine av he.1 (aT _ (rP x (by omega)) (am (by dsimp only; omega) (ab ?_)))
      rw [rJ, decide_eq_true he.2]; rfl
     ·refine aT _ (bh (qI _ _) rfl) (ab ?_)
      rw [jC]
    ·rw [if_neg he]
     refine kB (aT _ (bh hx rfl) (av rfl (aT _ hu (aT true ?_ (av rfl (ab ?_))))))
     ·by_cases h0 : e = 0
      ·refine av h0 (aT _ (rP x (by omega)) (am (by dsimp only; omega) (ab ?_)))
       rw [rJ, decide_eq_false (fun q => he ⟨h0, q⟩)]; rfl
      ·exact aC h0 (ab rfl)
     ·rfl
   | false =>
    rw [hq] at hx
    rw [if_neg (by simp)]
    have hi : strings_IndexByte t 93 = some (indexByte t 93) := rfl
    have hge := indexByte_ge t 93
    have hle := index_le t 93
    have hm : (if indexByte t 93 < 0 then (0 : Int) else indexByte t 93) = (idx t 93 : Int) := by
     unfold idx
     split <;> omega
    have hil : (idx t 93 : Int) ≤ t.length := by rw [← hm]; split <;> omega
    refine kB (aT _ (bh hx rfl) (aC (by simp) (aT _ (bh hi rfl) ?_)))
    rw [hm]
    refine am (by dsimp only; omega) ?_
    rw [rJ, Int.toNat_natCast]
    refine aT _ (um _ (by rw [List.length_take]; omega)) ?_
    generalize pQ (t.take (idx t 93)) = N
    obtain ⟨v, e⟩ := N
    simp only
    refine aT (!(decide (e = 0) && !decide (v < 0))) ?_ (am (by omega) (ab ?_))
    ·refine aN (fun h => ab (by simp [h])) (fun h => ab (by simp [h]))
    ·refine aT _ (bh (qI _ _) rfl) (ab ?_)
     rw [jC, Int.toNat_natCast]
def stepT (r : aB) : aj × aB := (aj.mk (ee r).1 (lx (ee r).2).1, (lx (ee r).2).2)
theorem zV (r : aB) (hs : r.frest.length ≤ 900000000) : Ev2 (fun n _ => cW n r) (· = stepT r) := by
 simp only [cW]
 refine aT _ (tM r (by omega)) (aT _ (yR (ee r).2 ?_) (ab rfl))
 show (r.frest.drop _).length ≤ _
 rw [List.length_drop]; omega
def nY : Bytes := [109, 111, 100, 117, 108, 101, 46]
def ig : Nat → List aj → aB → List aj × aB
 | 0, ms, r => (ms, r)
 | n + 1, ms, r => if r.fbad = false ∧ hasPrefix r.frest nY = true then
   ig n (ms ++ [(stepT (aB.mk (r.frest.drop 7) false)).1]) (ip (stepT (aB.mk (r.frest.drop 7) false)).2 [46])
  else (ms, r)
theorem mH (s p : Bytes) : (trimPrefix s p).length ≤ s.length := trimPrefix_le s p
theorem yK (r : aB) : (lx r).2.frest.length ≤ r.frest.length := by
 unfold lx
 split
 ·exact Nat.le_refl _
 split
 ·exact Nat.le_refl _
 split
 ·split
  ·unfold ip
   have := mH ((r.frest.drop 1).drop (mj (r.frest.drop 1)).2.1.toNat) [93]
   simp only [List.length_drop] at this ⊢; omega
  ·simp
 ·unfold ip
  have := mH ((r.frest.drop 1).drop (idx (r.frest.drop 1) 93)) [93]
  simp only [List.length_drop] at this ⊢; omega
theorem sN (r : aB) : (stepT r).2.frest.length ≤ r.frest.length := by
 unfold stepT
 have := yK (ee r).2
 have h2 : (ee r).2.frest.length ≤ r.frest.length := by
  show (r.frest.drop _).length ≤ _
  rw [List.length_drop]; omega
 simp only; omega
theorem sX (r : aB) (p : Bytes) : (ip r p).frest.length ≤ r.frest.length := mH _ _
theorem Aa {s p : Bytes} (h : hasPrefix s p = true) : p.length ≤ s.length := by
 obtain ⟨t, rfl⟩ := (kK _ _).1 h; simp
theorem yl : ∀ (k : Nat) (ms : List aj) (r : aB), r.frest.length < k → r.frest.length + ms.length ≤ 900000000 → Ev2 (fun n m => cU n m ms r.frest r.fbad) (· = ((ig k ms r).1, (ig k ms r).2.frest, (ig k ms r).2.fbad)) := by
 intro k
 induction k with
 | zero => intro ms r h; omega
 | succ k ih =>
  intro ms r hk hl
  refine ax ?_
  simp only [cU]
  unfold ig
  by_cases hc : r.fbad = false ∧ hasPrefix r.frest nY = true
  ·rw [if_pos hc]
   have hpl := Aa hc.2
   obtain ⟨t, ht⟩ := (kK _ _).1 hc.2
   have hd : r.frest.drop 7 = t := by rw [ht]; rfl
   have htl : t.length + 7 = r.frest.length := by rw [ht]; simp [nY] <;> omega
   rw [hd]
   refine aT (true, t, false) (av (by simp [hc.1]) (aT _ (bh (has_eq _ _) rfl) (ab ?_))) (av rfl ?_)
   ·unfold ka
    show (hasPrefix r.frest nY, trimPrefix r.frest nY, r.fbad) = _
    rw [hc.2, hc.1, ht, ov]
   refine aT _ (zV (aB.mk t false) (by simp only; omega)) (am (by simp; omega) (aT _ (bh (qI _ _) rfl) ?_))
   have h1 := sN (aB.mk t false)
   have h2 := sX (stepT (aB.mk t false)).2 [46]
   simp only at h1
   exact ih _ _ (by omega) (by simp; omega)
  ·rw [if_neg hc]
   refine aT (false, r.frest, r.fbad) ?_ (aC (by simp) (ab rfl))
   cases hb : r.fbad with
   | true => exact aC (by simp) (ab rfl)
   | false =>
    have hp : hasPrefix r.frest nY = false := by
     cases h : hasPrefix r.frest nY with
     | false => rfl
     | true => exact absurd ⟨hb, h⟩ hc
    refine av rfl (aT _ (bh (has_eq _ _) rfl) (ab ?_))
    unfold ka
    show (hasPrefix r.frest nY, trimPrefix r.frest nY, _) = _
    rw [hp, tp hp]
def lu (s : Bytes) : Bool := ([[109, 111, 100, 117, 108, 101], [100, 97, 116, 97], [118, 97, 114], [108, 111, 99, 97, 108], [101, 97, 99, 104], [99, 111, 117, 110, 116], [114, 101, 109, 111, 116, 101], [111, 117, 116, 112, 117, 116], [112, 97, 116, 104], [115, 101, 108, 102], [99, 104, 97, 110, 103, 101]] : List Bytes).contains s
def jK (s : Bytes) : Bool := !lu s && eN s
theorem wH (s : Bytes) (hs : s.length ≤ 1000000000) : Ev2 (fun n _ => d4 n s) (· = jK s) := by
 simp only [d4]
 refine aT (lu s) ?_ ?_
 ·unfold lu
  simp only [List.contains_cons, List.contains_nil, Bool.or_false]
  repeat' refine aN (fun h => ab (by simp [h])) (fun h => ?_)
  refine ab (eqB ?_)
  simp [*]
 ·unfold jK
  cases lu s with
  | true => exact av rfl (ab rfl)
  | false => exact aC (by simp) (aT _ (oT s hs) (ab (by simp)))
def fW : Bytes := [100, 97, 116, 97, 46]
def tn : aK := aK.mk [] false [] [] oX
def iF (r : aB) : Bool × Bytes × Bytes × ea × aB :=
 let h := ka r fW
 let t := ee h.2
 let n := ee (ip t.2 [46])
 let k := lx n.2
 (h.1, t.1, n.1, k.1, k.2)
def my (s : Bytes) : aK × Int :=
 let p := ig (s.length + 1) [] (aB.mk s false)
 let t := iF p.2
 if t.2.2.2.2.fbad = true ∨ t.2.2.2.2.frest ≠ [] ∨ jK t.2.1 = false then (tn, 2)
 else if 16 < p.1.length then (tn, 4)
 else (aK.mk p.1 t.1 t.2.1 t.2.2.1 t.2.2.2.1, 0)
theorem rb : ∀ (k : Nat) (ms : List aj) (r : aB), (ig k ms r).2.frest.length ≤ r.frest.length
 | 0, _, _ => Nat.le_refl _
 | k + 1, ms, r => by
  unfold ig
  split
  ·have h1 := sN (aB.mk (r.frest.drop 7) false)
   have h2 := sX (stepT (aB.mk (r.frest.drop 7) false)).2 [46]
   have h3 := rb k (ms ++ [(stepT (aB.mk (r.frest.drop 7) false)).1]) (ip (stepT (aB.mk (r.frest.drop 7) false)).2 [46])
   simp only [List.length_drop] at h1
   omega
  ·exact Nat.le_refl _
theorem zH (s : Bytes) (hs : s.length ≤ 800000000) : Ev2 (fun n _ => fh n s) (· = my s) := by
 simp only [fh]
 have l := yl (s.length + 1) [] (aB.mk s false) (by simp) (by simp; omega)
 have hl := rb (s.length + 1) [] (aB.mk s false)
 refine aT _ (a7 l) ?_
 unfold my
 generalize ig (s.length + 1) [] (aB.mk s false) = p at hl ⊢
 obtain ⟨ms, r⟩ := p
 simp only at hl ⊢
 have e : aB.mk r.frest r.fbad = r := rfl
 rw [e]
 have l1 : (ka r fW).2.frest.length ≤ s.length := Nat.le_trans (mH _ _) hl
 refine aT _ (bh (has_eq r _) rfl) (aT _ (tM _ (Nat.le_trans l1 (by omega))) (aT _ (bh (qI _ _) rfl) ?_))
 have l2 : (ip (ee (ka r fW).2).2 [46]).frest.length ≤ s.length := by
  refine Nat.le_trans (mH _ _) ?_
  show ((ka r fW).2.frest.drop _).length ≤ _
  rw [List.length_drop]; omega
 refine aT _ (tM _ (Nat.le_trans l2 (by omega))) ?_
 have l3 : (ee (ip (ee (ka r fW).2).2 [46])).2.frest.length ≤ s.length := by
  show (List.drop _ _).length ≤ _
  rw [List.length_drop]; omega
 refine aT _ (yR _ (Nat.le_trans l3 (by omega))) ?_
 show Ev2 _ (· = (if (iF r).2.2.2.2.fbad = true ∨ (iF r).2.2.2.2.frest ≠ [] ∨ jK (iF r).2.1 = false then (tn, 2) else if 16 < ms.length then (tn, 4) else (aK.mk ms (iF r).1 (iF r).2.1 (iF r).2.2.1 (iF r).2.2.2.1, 0)))
 have l4 : (ee (ka r fW).2).1.length ≤ 1000000000 := by
  show (List.take _ _).length ≤ _
  rw [List.length_take]; omega
 have hk := wH _ l4
 show Ev2 (fun n m => ((if (iF r).2.2.2.2.fbad = true then some true else if (iF r).2.2.2.2.frest = ([] : Bytes) then (d4 n (iF r).2.1).bind fun r49 => some (!r49) else some true : Option Bool)).bind fun t51 => _) _
 have hk : Ev2 (fun n _ => d4 n (iF r).2.1) (· = jK (iF r).2.1) := hk
 refine aT (decide ((iF r).2.2.2.2.fbad = true ∨ (iF r).2.2.2.2.frest ≠ [] ∨ jK (iF r).2.1 = false)) ?_ ?_
 ·refine aN (fun h => ab (by simp [h])) (fun h => aN (fun h1 => aT _ hk (ab ?_)) (fun h1 => ab (by simp [h1])))
  cases jK (iF r).2.1 <;> simp [h, h1]
 ·refine aN (fun h => ab ?_) (fun h => ?_)
  ·rw [if_pos (of_decide_eq_true h)]; rfl
  ·rw [if_neg (fun q => h (decide_eq_true q))]
   refine aN (fun h => ab ?_) (fun h => ab ?_)
   ·rw [if_pos (by omega)]; rfl
   ·rw [if_neg (by omega)]; rfl
end Go.Ab.R06
namespace Go.Ab.R06
open Go.Ab Go.Ab.RB Go.Lib
def ky : List aj → Int
 | [] => 0
 | x :: r => if eN x.fName = false then 7 else if fj x.fKey = false then 1 else ky r
def nQ (a : aK) : Int :=
 if 16 < a.fModule.length then 4 else if ky a.fModule ≠ 0 then ky a.fModule
 else if jK a.fType = false ∨ eN a.fName = false then 7 else if fj a.fKey = false then 1 else 0
def Sm (a : aK) : Prop := a.fModule.length ≤ 100000 ∧ a.fType.length ≤ 100000 ∧ a.fName.length ≤ 100000 ∧ ∀ x ∈ a.fModule, x.fName.length ≤ 100000
theorem yH (a : aK) (ha : Sm a) : ∀ (k i : Nat), i + k = a.fModule.length → Ev2 (fun n m => cI n a m (i : Int)) (· = if ky (a.fModule.drop i) = 0 then .inl () else .inr (ky (a.fModule.drop i))) := by
 intro k
 induction k with
 | zero =>
  intro i hi
  refine ax ?_
  simp only [cI]
  refine aC (by omega) (ab ?_)
  rw [List.drop_of_length_le (by omega)]; rfl
 | succ k ih =>
  intro i hi
  refine ax ?_
  simp only [cI]
  have hil : i < a.fModule.length := by omega
  refine av (by omega) (am (by omega) ?_)
  rw [bS _ _ hil, List.drop_eq_getElem_cons hil]
  have hx := ha.2.2.2 _ (List.getElem_mem hil)
  have := ih (i + 1) (by omega)
  have hlen := ha.1
  generalize a.fModule[i] = x at hx ⊢
  unfold ky
  refine aT _ (oT x.fName (by omega)) ?_
  cases h1 : eN x.fName with
  | false => exact av rfl (ab (by simp))
  | true =>
   refine aC (by simp) (aT _ (bh (valid_eq _) rfl) ?_)
   cases h2 : fj x.fKey with
   | false => exact av rfl (ab (by simp))
   | true =>
    refine aC (by simp) (am (br (by omega) (by omega)) ?_)
    rw [Int.natCast_add, Int.natCast_one] at this
    simpa using this
theorem zt (a : aK) (ha : Sm a) : Ev2 (fun n _ => fc n a) (· = nQ a) := by
 simp only [fc]
 unfold nQ
 refine aN (fun h => ab (by rw [if_pos (by omega)])) (fun h => ?_)
 rw [if_neg (show ¬ 16 < a.fModule.length by omega)]
 have l := yH a ha a.fModule.length 0 (by omega)
 rw [List.drop_zero] at l
 by_cases he : ky a.fModule = 0
 ·rw [if_pos he] at l
  rw [if_neg (by simp [he])]
  refine gJ () (a7 l) ?_
  refine aT (decide (jK a.fType = false ∨ eN a.fName = false)) ?_ ?_
  ·refine aT _ (wH _ (by have := ha.2.1; omega)) ?_
   cases jK a.fType with
   | false => exact av rfl (ab (by simp))
   | true =>
    refine aC (by simp) (aT _ (oT _ (by have := ha.2.2.1; omega)) (ab ?_))
    cases eN a.fName <;> simp
  ·refine aN (fun h => ab (by rw [if_pos (of_decide_eq_true h)])) (fun h => ?_)
   rw [if_neg (fun q => h (decide_eq_true q))]
   refine aT _ (bh (valid_eq _) rfl) ?_
   cases fj a.fKey with
   | false => exact av rfl (ab (by simp))
   | true => exact aC (by simp) (ab (by simp))
 ·rw [if_neg he] at l
  rw [if_pos he]
  exact ju _ (a7 l) rfl
theorem qf : ∀ ms : List aj, ky ms = 0 ↔ ∀ x ∈ ms, eN x.fName = true ∧ fj x.fKey = true
 | [] => by simp [ky]
 | x :: r => by
  have ih := qf r
  unfold ky
  cases h1 : eN x.fName with
  | false => simp [h1]
  | true =>
   cases h2 : fj x.fKey with
   | false => simp [h1, h2]
   | true => simp [h1, h2, ih]
theorem mU (a : aK) : nQ a = 0 ↔ a.fModule.length ≤ 16 ∧ (∀ x ∈ a.fModule, eN x.fName = true ∧ fj x.fKey = true) ∧ jK a.fType = true ∧ eN a.fName = true ∧ fj a.fKey = true := by
 rw [← qf]
 unfold nQ
 by_cases h : 16 < a.fModule.length
 ·rw [if_pos h]; simp; omega
 rw [if_neg h]
 by_cases h2 : ky a.fModule = 0
 ·rw [if_neg (by simp [h2])]
  cases jK a.fType <;> cases eN a.fName <;> cases fj a.fKey <;> simp [h2] <;> omega
 ·rw [if_pos h2]
  constructor
  ·intro q; exact absurd q h2
  ·intro q; exact q.2.1
theorem fM {s : Bytes} (h : eN s = true) : s.length ≤ 64 := ((rK s).1 h).2.1
def eR (k : ea) : Bytes := if fj k = false ∨ k.fKind = 0 then [] else if k.fKind = 1 then [91] ++ itoa k.fNum ++ [93] else [91] ++ lE k.fStr ++ [93]
def fm (x : aj) : Bytes := nY ++ x.fName ++ eR x.fKey ++ [46]
def mY (a : aK) : Bytes := a.fModule.flatMap fm ++ ((if a.fData = true then fW else []) ++ (a.fType ++ [46] ++ a.fName ++ eR a.fKey))
def od (a : aK) : Bytes := if nQ a = 0 then mY a else []
theorem ss {k : ea} (h : fj k = true) (h1 : k.fKind = 1) : 0 ≤ k.fNum ∧ k.fNum ≤ j7 ∧ k.fStr = [] := by
 unfold fj at h
 rw [if_neg (by omega), if_pos h1] at h
 exact of_decide_eq_true h
theorem qa {k : ea} (h : fj k = true) : k.fKind = 0 ∨ k.fKind = 1 ∨ k.fKind = 2 := by
 unfold fj at h
 split at h
 ·left; assumption
 split at h
 ·right; left; assumption
 split at h
 ·right; right; assumption
 ·cases h
theorem sv {k : ea} (h : fj k = true) (h1 : k.fKind = 2) : k.fNum = 0 ∧ k.fStr.length ≤ 4096 ∧ validD k.fStr = true := by
 unfold fj at h
 rw [if_neg (by omega), if_neg (by omega), if_pos h1] at h
 simpa using h
theorem ta (s : Bytes) : (lE s).length ≤ 6 * s.length + 2 := by
 have := (uV s).2
 unfold lE
 simp only [List.length_cons, List.length_append, List.length_nil]; omega
theorem mZ (k : ea) : (eR k).length ≤ 24600 := by
 unfold eR
 split
 ·simp
 ·rename_i h
  have hk : fj k = true := by
   cases hh : fj k with
   | true => rfl
   | false => exact absurd (.inl hh) h
  split
  ·rename_i h1
   have hn := ss hk h1
   have := uS hn.1 hn.2.1
   simp only [List.length_append, List.length_cons, List.length_nil]; omega
  ·rename_i h1
   have h2 : k.fKind = 2 := by
    rcases qa hk with q | q | q
    ·exact absurd (.inr q) h
    ·exact absurd q h1
    ·exact q
   have hs := sv hk h2
   have := ta k.fStr
   simp only [List.length_append, List.length_cons, List.length_nil]; omega
theorem wQ (k : ea) : Ev2 (fun n _ => da n k) (· = eR k) := by
 simp only [da]
 unfold eR
 refine aT (decide (fj k = false ∨ k.fKind = 0)) ?_ ?_
 ·refine aT _ (bh (valid_eq _) rfl) ?_
  cases fj k with
  | false => exact av rfl (ab (by simp))
  | true => exact aC (by simp) (ab (by simp))
 ·refine aN (fun h => ab (by rw [if_pos (of_decide_eq_true h)])) (fun h => ?_)
  have h := fun q => h (decide_eq_true q)
  rw [if_neg h]
  have hk : fj k = true := by
   cases hh : fj k with
   | true => rfl
   | false => exact absurd (.inl hh) h
  refine aN (fun h1 => ?_) (fun h1 => ?_)
  ·rw [if_pos h1]
   have hn := ss hk h1
   have hl := uS hn.1 hn.2.1
   have hf : im k.fNum = some (itoa k.fNum) := by
    unfold im strconv_Itoa
    rw [dN (br (by omega) (by have := hn.2.1; unfold j7 at this; omega))]; rfl
   refine aT _ (bh hf rfl) (am (by simp only [List.length_cons, List.length_nil]; omega) (am (by simp only [List.length_append, List.length_cons, List.length_nil]; omega) (ab rfl)))
  ·rw [if_neg h1]
   have h2 : k.fKind = 2 := by
    rcases qa hk with q | q | q
    ·exact absurd (.inr q) h
    ·exact absurd q h1
    ·exact q
   have hs := sv hk h2
   have hl := ta k.fStr
   refine aT _ (rP _ (by omega)) (am (by simp only [List.length_cons, List.length_nil]; omega) (am (by simp only [List.length_append, List.length_cons, List.length_nil]; omega) (ab rfl)))
theorem oH {x : aj} (h : eN x.fName = true) : (fm x).length ≤ 25000 := by
 have h1 := fM h
 have h2 := mZ x.fKey
 unfold fm nY
 simp only [List.length_append, List.length_cons, List.length_nil]; omega
theorem sS : ∀ (ms : List aj), (∀ x ∈ ms, eN x.fName = true) → (ms.flatMap fm).length ≤ 25000 * ms.length
 | [], _ => by simp
 | x :: r, h => by
  have := sS r fun y hy => h y (List.mem_cons_of_mem _ hy)
  have h1 := oH (h x List.mem_cons_self)
  simp only [List.flatMap_cons, List.length_append, List.length_cons]; omega
theorem xl (a : aK) (hm : a.fModule.length ≤ 16) (ha : ∀ x ∈ a.fModule, eN x.fName = true) : ∀ (k i : Nat) (f : Bytes), i + k = a.fModule.length → f.length ≤ 25000 * i → Ev2 (fun n m => cx n a m (i : Int) f) (· = f ++ (a.fModule.drop i).flatMap fm) := by
 intro k
 induction k with
 | zero =>
  intro i f hi hf
  refine ax ?_
  simp only [cx]
  refine aC (by omega) (ab ?_)
  rw [List.drop_of_length_le (by omega)]; simp
 | succ k ih =>
  intro i f hi hf
  refine ax ?_
  simp only [cx]
  have hil : i < a.fModule.length := by omega
  refine av (by omega) (am (by omega) ?_)
  rw [bS _ _ hil, List.drop_eq_getElem_cons hil]
  have hx := ha _ (List.getElem_mem hil)
  generalize a.fModule[i] = x at hx ⊢
  have h1 := fM hx
  have h2 := mZ x.fKey
  have h3 := oH hx
  refine am (by simp only [List.length_cons, List.length_nil]; omega) (aT _ (wQ x.fKey) ?_)
  refine am (by simp only [List.length_append, List.length_cons, List.length_nil]; omega) (am (by simp only [List.length_append, List.length_cons, List.length_nil]; omega) ?_)
  have e : ((([109, 111, 100, 117, 108, 101, 46] : Bytes) ++ x.fName) ++ eR x.fKey) ++ ([46] : Bytes) = fm x := rfl
  rw [e]
  refine aT _ (bh (vE f (fm x) (by omega)) rfl) (am (br (by omega) (by omega)) ?_)
  have := ih (i + 1) (f ++ fm x) (by omega) (by rw [List.length_append]; omega)
  rw [Int.natCast_add, Int.natCast_one] at this
  simpa using this
theorem xD (a : aK) (ha : Sm a) : Ev2 (fun n _ => eF n a) (· = od a) := by
 simp only [eF]
 unfold od
 refine aT _ (zt a ha) (aN (fun h => ?_) (fun h => ab (by rw [if_neg h])))
 rw [if_pos h]
 obtain ⟨c1, c2, c3, c4, c5⟩ := (mU a).1 h
 have l := xl a c1 (fun x hx => (c2 x hx).1) a.fModule.length 0 [] (by omega) (by simp)
 have hl := sS a.fModule (fun x hx => (c2 x hx).1)
 rw [List.drop_zero] at l
 refine aT _ (a7 l) ?_
 unfold mY
 generalize a.fModule.flatMap fm = st at hl ⊢
 have h1 : a.fType.length ≤ 64 := by
  unfold jK at c3
  rw [Bool.and_eq_true] at c3
  exact fM c3.2
 have h2 := fM c4
 have h3 := mZ a.fKey
 refine aT (st ++ (if a.fData = true then fW else [])) ?_ ?_
 ·refine aN (fun h => ?_) (fun h => ab (by rw [if_neg h]; simp))
  rw [if_pos h]
  exact aT _ (bh (vE _ [100, 97, 116, 97, 46] (by simp only [List.nil_append, List.length_cons, List.length_nil]; omega)) rfl) (ab (by simp [fW]))
 ·have hd : (if a.fData = true then fW else ([] : Bytes)).length ≤ 5 := by split <;> simp [fW]
  refine am (by simp only [List.length_cons, List.length_nil]; omega) (am (by simp only [List.length_append, List.length_cons, List.length_nil]; omega) (aT _ (wQ a.fKey) (am (by simp only [List.length_append, List.length_cons, List.length_nil]; omega) ?_)))
  refine aT _ (bh (vE _ _ (by simp only [List.length_append, List.length_cons, List.length_nil]; omega)) rfl) (aT _ (bh (BJ _ (by simp only [List.length_append, List.length_cons, List.length_nil]; omega)) rfl) (ab ?_))
  simp
theorem n0 {r : aB} (h : (ee r).2.fbad = false) : r.fbad = false ∧ eN (ee r).1 = true ∧ r.frest = (ee r).1 ++ (ee r).2.frest := by
 unfold ee at *
 simp only [Bool.or_eq_false_iff, Bool.not_eq_false'] at h
 exact ⟨h.1, h.2, (List.take_append_drop _ _).symm⟩
theorem lQ {r : aB} {p : Bytes} (h : (ip r p).fbad = false) : r.fbad = false ∧ r.frest = p ++ (ip r p).frest := by
 unfold ip at *
 simp only [Bool.or_eq_false_iff, Bool.not_eq_false'] at h
 obtain ⟨t, ht⟩ := (kK _ _).1 h.2
 refine ⟨h.1, ?_⟩
 simp only
 rw [ht, ov]
theorem sA {r : aB} (h : (lx r).2.fbad = false) : r.fbad = false ∧ fj (lx r).1 = true ∧ r.frest = eR (lx r).1 ++ (lx r).2.frest := by
 have hno : fj oX = true ∧ eR oX = [] := ⟨rfl, rfl⟩
 unfold lx at *
 by_cases hb : r.fbad = true
 ·rw [if_pos hb] at h; rw [hb] at h; cases h
 rw [if_neg hb] at h ⊢
 have hb : r.fbad = false := by simpa using hb
 by_cases hp : hasPrefix r.frest [91] = false
 ·rw [if_pos hp] at h ⊢
  exact ⟨hb, hno.1, by rw [hno.2]; rfl⟩
 rw [if_neg hp] at h ⊢
 obtain ⟨l, hl⟩ := (kK _ _).1 (by simpa using hp)
 have hd : r.frest.drop 1 = l := by rw [hl]; rfl
 rw [hd] at h ⊢
 by_cases hq : hasPrefix l [34] = true
 ·rw [if_pos hq] at h ⊢
  have hok := @Ah l
  generalize mj l = U at h hok ⊢
  obtain ⟨x, n, e⟩ := U
  simp only at h ⊢
  by_cases he : e = 0 ∧ lE x = l.take n.toNat
  ·rw [if_pos he] at h ⊢
   obtain ⟨rfl, he⟩ := he
   have hx := hok rfl
   have hs := lQ h
   have hko : fj (ea.mk 2 0 x) = true := by
    unfold fj
    simp [hx.1, hx.2.1]
   refine ⟨hb, hko, ?_⟩
   have ht : eR (ea.mk 2 0 x) = [91] ++ lE x ++ [93] := by
    unfold eR
    rw [if_neg (by rw [hko]; simp), if_neg (by simp)]
   rw [ht, hl, he]
   have h2 := hs.2
   simp only at h2
   rw [List.append_assoc, List.append_assoc, ← h2, List.take_append_drop]
  ·rw [if_neg he] at h; cases h
 ·rw [if_neg hq] at h ⊢
  have hs := lQ h
  simp only at hs
  generalize hN : pQ (l.take (idx l 93)) = N at h hs ⊢
  obtain ⟨v, e⟩ := N
  simp only at hs h ⊢
  have h1 := hs.1
  have he : e = 0 ∧ ¬ v < 0 := by simpa using h1
  obtain ⟨rfl, hv⟩ := he
  have hi := xG _ _ hN (by omega)
  have hko : fj (ea.mk 1 v []) = true := by
   unfold fj
   simp; exact ⟨by omega, hi.2⟩
  refine ⟨hb, hko, ?_⟩
  have ht : eR (ea.mk 1 v []) = [91] ++ itoa v ++ [93] := by
   unfold eR
   rw [if_neg (by rw [hko]; simp), if_pos rfl]
  rw [ht, hl, hi.1, List.append_assoc, List.append_assoc, ← hs.2, List.take_append_drop]
theorem oz : ∀ (k : Nat) (ms : List aj) (r : aB), (ig k ms r).2.fbad = false → r.fbad = false ∧ ∃ new, (ig k ms r).1 = ms ++ new ∧ r.frest = new.flatMap fm ++ (ig k ms r).2.frest ∧ ∀ x ∈ new, eN x.fName = true ∧ fj x.fKey = true
 | 0, ms, r, h => ⟨h, [], by simp [ig], by simp [ig], by simp⟩
 | k + 1, ms, r, h => by
  unfold ig at h ⊢
  by_cases hc : r.fbad = false ∧ hasPrefix r.frest nY = true
  ·rw [if_pos hc] at h ⊢
   obtain ⟨t, ht⟩ := (kK _ _).1 hc.2
   have hd : r.frest.drop 7 = t := by rw [ht]; rfl
   rw [hd] at h ⊢
   obtain ⟨b1, new, e1, e2, e3⟩ := oz k _ _ h
   have s1 := lQ b1
   have s2 : (lx (ee (aB.mk t false)).2).2.fbad = false := s1.1
   have s3 := sA s2
   have s4 := n0 s3.1
   have hs1 : (lx (ee (aB.mk t false)).2).2.frest = [46] ++ (ip (stepT (aB.mk t false)).2 [46]).frest := s1.2
   refine ⟨hc.1, (stepT (aB.mk t false)).1 :: new, by rw [e1]; simp, ?_, ?_⟩
   ·rw [ht, List.flatMap_cons]
    have h4 := s4.2.2
    simp only at h4
    show nY ++ t = (nY ++ (ee (aB.mk t false)).1 ++ eR (lx (ee (aB.mk t false)).2).1 ++ [46] ++ new.flatMap fm) ++ _
    simp only [List.append_assoc]
    rw [← e2, ← hs1, ← s3.2.2, ← h4]
   ·intro x hx
    rcases List.mem_cons.1 hx with rfl | hx
    ·exact ⟨s4.2.1, s3.2.1⟩
    ·exact e3 x hx
  ·rw [if_neg hc] at h ⊢
   exact ⟨h, [], by simp, by simp, by simp⟩
theorem tX {s : Bytes} {a : aK} (h : my s = (a, 0)) : nQ a = 0 ∧ mY a = s ∧ Sm a := by
 unfold my at h
 simp only at h
 have hL := oz (s.length + 1) [] (aB.mk s false)
 generalize ig (s.length + 1) [] (aB.mk s false) = p at h hL
 obtain ⟨ms, r⟩ := p
 simp only at h hL
 split at h
 ·cases h
 ·rename_i h0
  split at h
  ·cases h
  ·rename_i h1
   cases h
   simp only [not_or] at h0
   obtain ⟨hb, hr, hk⟩ := h0
   have hb : (iF r).2.2.2.2.fbad = false := by simpa using hb
   have hr : (iF r).2.2.2.2.frest = [] := by simpa using hr
   have hk : jK (iF r).2.1 = true := by simpa using hk
   have hb : (lx (ee (ip (ee (ka r fW).2).2 [46])).2).2.fbad = false := hb
   have hr : (lx (ee (ip (ee (ka r fW).2).2 [46])).2).2.frest = [] := hr
   have hk : jK (ee (ka r fW).2).1 = true := hk
   have s1 := sA hb
   have s2 := n0 s1.1
   have s3 := lQ s2.1
   have s4 := n0 s3.1
   have hrb : r.fbad = false := s4.1
   obtain ⟨_, new, e1, e2, e3⟩ := hL hrb
   simp only [List.nil_append] at e1
   subst e1
   have hdat : r.frest = (if (ka r fW).1 = true then fW else []) ++ (ka r fW).2.frest := by
    unfold ka
    simp only
    cases hp : hasPrefix r.frest fW with
    | true =>
     obtain ⟨t, ht⟩ := (kK _ _).1 hp
     rw [ht, ov]; rfl
    | false => rw [tp hp]; rfl
   have hlen : ∀ x ∈ ms, x.fName.length ≤ 100000 := fun x hx => by have := fM (e3 x hx).1; omega
   have hty : (ee (ka r fW).2).1.length ≤ 64 := fM s4.2.1
   have hnm := fM s2.2.1
   refine ⟨(mU _).2 ⟨by show ms.length ≤ 16; omega, e3, hk, s2.2.1, s1.2.1⟩, ?_, ⟨by show ms.length ≤ _; omega, ?_, ?_, hlen⟩⟩
   ·show ms.flatMap fm ++ ((if (ka r fW).1 = true then fW else []) ++ ((ee (ka r fW).2).1 ++ [46] ++ (ee (ip (ee (ka r fW).2).2 [46])).1 ++ eR (lx (ee (ip (ee (ka r fW).2).2 [46])).2).1)) = s
    have x1 := s1.2.2
    rw [hr, List.append_nil] at x1
    rw [← x1, List.append_assoc, ← s2.2.2, List.append_assoc, ← s3.2, ← s4.2.2, ← hdat, ← e2]
   ·show (ee (ka r fW).2).1.length ≤ 100000
    omega
   ·show (ee (ip (ee (ka r fW).2).2 [46])).1.length ≤ 100000
    omega
end Go.Ab.R06
namespace Go.Ab.R06
open Go.Ab Go.Ab.RB Go.Lib
theorem xw (s : Bytes) : jK s = true ↔ lu s = false ∧ eN s = true := by
 unfold jK; simp
end Go.Ab.R06
end
section
set_option linter.unusedVariables false
set_option linter.unusedSimpArgs false
set_option linter.unnecessarySimpa false
namespace Go.Ab.R06
open Go.Ab Go.Ab.RB Go.Lib
def kH (x : aj) : aj := aj.mk x.fName oX
def oM (a : aK) : aK := aK.mk (a.fModule.map kH) a.fData a.fType a.fName oX
theorem Sm.bare {a : aK} (h : Sm a) : Sm (oM a) := by
 refine ⟨by show (a.fModule.map kH).length ≤ _; rw [List.length_map]; exact h.1, h.2.1, h.2.2.1, fun x hx => ?_⟩
 obtain ⟨y, hy, rfl⟩ := List.mem_map.1 hx
 exact h.2.2.2 y hy
theorem set_mid {α : Type} (p : List α) (x y : α) (q : List α) : (p ++ x :: q).set p.length y = p ++ y :: q := by
 induction p with
 | nil => rfl
 | cons c r ih => simp [ih]
theorem Ak {α : Type} [Inhabited α] (p : List α) (x : α) (q : List α) : lat (p ++ x :: q) (p.length : Int) = x := by
 rw [wI, List.getD_eq_getElem?_getD]; simp
theorem w4 (a : aK) (hb : a.fModule.length ≤ 1000000000) : ∀ (k i : Nat), i + k = a.fModule.length → Ev2 (fun _ m => cw a m (i : Int) ((a.fModule.take i).map kH ++ a.fModule.drop i)) (· = a.fModule.map kH) := by
 intro k
 induction k with
 | zero =>
  intro i hi
  refine ax ?_
  simp only [cw]
  refine aC (by omega) (ab ?_)
  rw [List.drop_of_length_le (by omega), List.take_of_length_le (by omega)]; simp
 | succ k ih =>
  intro i hi
  refine ax ?_
  simp only [cw]
  have h1 : i < a.fModule.length := by omega
  have hl : ((a.fModule.take i).map kH ++ a.fModule.drop i).length = a.fModule.length := by
   rw [List.length_append, List.length_map, List.length_take, List.length_drop]; omega
  refine av (by omega) (am (by omega) (am (br (by omega) (by omega)) ?_))
  have hd : (a.fModule.take i).map kH ++ a.fModule.drop i = (a.fModule.take i).map kH ++ a.fModule[i] :: a.fModule.drop (i + 1) := by rw [List.drop_eq_getElem_cons h1]
  have hpl : ((a.fModule.take i).map kH).length = i := by rw [List.length_map, List.length_take]; omega
  have hg : lat ((a.fModule.take i).map kH ++ a.fModule.drop i) (i : Int) = a.fModule[i] := by
   rw [hd]
   have := Ak ((a.fModule.take i).map kH) a.fModule[i] (a.fModule.drop (i + 1))
   rw [hpl] at this
   exact this
  rw [hg, Int.toNat_natCast]
  have hs : ((a.fModule.take i).map kH ++ a.fModule.drop i).set i (aj.mk a.fModule[i].fName (ea.mk 0 0 ([] : Bytes))) = (a.fModule.take (i + 1)).map kH ++ a.fModule.drop (i + 1) := by
   rw [hd]
   have := set_mid ((a.fModule.take i).map kH) a.fModule[i] (aj.mk a.fModule[i].fName (ea.mk 0 0 ([] : Bytes))) (a.fModule.drop (i + 1))
   rw [hpl] at this
   rw [this, show a.fModule.take (i + 1) = a.fModule.take i ++ [a.fModule[i]] by rw [List.take_add_one, List.getElem?_eq_getElem h1]; rfl, List.map_append, List.append_assoc]
   rfl
  rw [hs]
  have := ih (i + 1) (by omega)
  rw [Int.natCast_add, Int.natCast_one] at this
  exact this
theorem xj (a : aK) (ha : Sm a) : Ev2 (fun n _ => eC n a) (· = oM a) := by
 simp only [eC]
 have hl := ha.1
 refine aN (fun h => ?_) (fun h => am (by omega) ?_)
 ·have : a.fModule = [] := by simpa using h
  refine aT () ?_ (ab (by unfold oM; rw [this]; rfl))
  refine o7 ?_
  simp only [dx]
  exact aC (by simp) (ab (by trivial))
 ·have l := w4 a (by omega) a.fModule.length 0 (by omega)
  rw [List.take_zero, List.drop_zero] at l
  exact aT _ (a7 l) (ab rfl)
def jy (s : Bytes) : Bytes × Int := if (my s).2 = 0 then (od (oM (my s).1), 0) else ([], (my s).2)
theorem sQ (s : Bytes) (hs : s.length ≤ 800000000) : Ev2 (fun n _ => d7 n s) (· = jy s) := by
 simp only [d7]
 unfold jy
 refine aT _ (zH s hs) ?_
 have hp := @tX s
 generalize my s = p at hp ⊢
 obtain ⟨a, e⟩ := p
 simp only
 refine aN (fun h => ?_) (fun h => ab (by rw [if_neg h]))
 subst h
 rw [if_pos rfl]
 have ha := (hp rfl).2.2
 exact aT _ (xj a ha) (aT _ (xD _ ha.bare) (ab rfl))
end Go.Ab.R06
end
section
set_option linter.unusedVariables false
set_option linter.unusedSimpArgs false
set_option linter.unnecessarySimpa false
namespace Go.Ab.R06
open Go.Ab Go.Ab.RB Go.Lib
theorem rD : cg ≤ 140737488355328 := by decide
theorem ti {v y : ag} (h : y ∈ v.fItems) : SizeOf.sizeOf y < SizeOf.sizeOf v := by
 cases v
 simp only [ag.fItems] at h
 have := List.sizeOf_lt_of_mem h
 simp only [ag.mk.sizeOf_spec]
 omega
theorem yc {α : Type} [Inhabited α] (l : List α) (i : Nat) (h : i < l.length) : l.set i l[i] = l := by
 apply List.ext_getElem (by simp)
 intro j h1 h2
 rw [List.getElem_set]
 split
 ·rename_i e; subst e; rfl
 ·rfl
theorem sM : ∀ (N : Nat) (v : ag), SizeOf.sizeOf v < N → ag.Bd v → Ev2 (fun n _ => bH n v) (· = v) := by
 have hW := rD
 intro N
 induction N with
 | zero => intro v h; omega
 | succ N ih =>
  intro v hv hb
  have h1 := hb.bKeys; have h2 := hb.bItems
  refine o7 ?_
  simp only [bH]
  refine am (by omega) (aN (fun h => ?_) (fun h => am (by omega) ?_))
  ·have he : v.fItems = [] := by simpa using h
   refine aT () ?_ (ab (by cases v; simp only [ag.fItems] at he; subst he; rfl))
   refine a7 (f := fun n m => dp (bH n) m) (ax ?_)
   simp only [dp]
   exact aC (by simp) (ab (by trivial))
  ·have loop : ∀ (k i : Nat), i + k = v.fItems.length → Ev2 (fun n m => cu (bH n) v m (i : Int) v.fItems) (· = v.fItems) := by
    intro k
    induction k with
    | zero =>
     intro i hi
     refine ax ?_
     simp only [cu]
     exact aC (by omega) (ab rfl)
    | succ k ihk =>
     intro i hi
     have hil : i < v.fItems.length := by omega
     refine ax ?_
     simp only [cu]
     refine av (by omega) (am (by omega) ?_)
     rw [bS _ _ hil]
     have hmem := List.getElem_mem hil
     refine bu _ (ih _ (by have := ti hmem; omega) (hb.eItems _ hmem)) (am (by omega) (am (br (by omega) (by omega)) ?_))
     rw [Int.toNat_natCast, yc _ _ hil]
     have := ihk (i + 1) (by omega)
     rw [Int.natCast_add, Int.natCast_one] at this
     exact this
   exact bu _ (a7 (f := fun n m => cu (bH n) v m 0 v.fItems) (loop _ 0 (Nat.zero_add _))) (ab (ag.eta v))
theorem xu (c : aa) (hb : aa.Bd c) : Ev2 (fun n _ => eW n c) (· = c) := by
 have hW := rD
 simp only [eW]
 have h1 := hb.bReplace; have h2 := hb.bDeps; have h3 := hb.bOldDeps
 exact bu _ (sM _ _ (Nat.lt_succ_self _) hb.bBefore) (bu _ (sM _ _ (Nat.lt_succ_self _) hb.bAfter) (am (by omega) (am (by omega) (am (by omega) (ab rfl)))))
theorem rj : eR oX = [] := by unfold eR; rw [if_pos (.inr rfl)]
theorem wD : ∀ (ms : List aj), (∀ x ∈ ms, (fm x).length ≤ 80) → (ms.flatMap fm).length ≤ 80 * ms.length
 | [], _ => by simp
 | x :: ms, h => by
  have h1 := h x (List.mem_cons_self ..)
  have h2 := wD ms fun y hy => h y (List.mem_cons_of_mem _ hy)
  rw [List.flatMap_cons, List.length_append, List.length_cons]; omega
theorem yE {a : aK} (h : nQ (oM a) = 0) : (mY (oM a)).length ≤ 2000 := by
 obtain ⟨c1, c2, c3, c4, _⟩ := (mU _).1 h
 have hl := wD (oM a).fModule fun x hx => by
  have hi := fM (c2 x hx).1
  obtain ⟨y, _, rfl⟩ := List.mem_map.1 hx
  have e : eR (kH y).fKey = [] := rj
  unfold fm
  rw [e]
  simp only [List.length_append, List.length_cons, List.length_nil, show nY.length = 7 from rfl]
  omega
 have h1 := fM ((xw _).1 c3).2
 have h2 := fM c4
 have hd : (if (oM a).fData = true then fW else ([] : Bytes)).length ≤ 5 := by split <;> simp [fW]
 have e : eR (oM a).fKey = [] := rj
 unfold mY
 rw [e]
 simp only [List.length_append, List.length_cons, List.length_nil]; omega
theorem uY (s : Bytes) : (jy s).1.length ≤ 2000 := by
 unfold jy
 split
 ·show (od _).length ≤ _
  unfold od
  split
  ·rename_i h; exact yE h
  ·simp
 ·simp
theorem B1 (l : List Bytes) (s : Bytes) (hb : l.length ≤ cg) : ∀ (k i : Nat), i + k = l.length → Ev2 (fun _ m => aX l s m (i : Int)) (fun r => (s ∈ l.drop i ∧ ∃ j : Nat, r = .inr (j : Int)) ∨ (s ∉ l.drop i ∧ r = .inl ())) := by
 have hW := kP
 intro k
 induction k with
 | zero =>
  intro i hi
  refine ax ?_
  simp only [aX]
  exact aC (by omega) (ab (.inr ⟨by rw [List.drop_of_length_le (by omega)]; simp, rfl⟩))
 | succ k ih =>
  intro i hi
  have h1 : i < l.length := by omega
  refine ax ?_
  simp only [aX]
  refine av (by omega) (am (by omega) ?_)
  rw [bS _ _ h1, List.drop_eq_getElem_cons h1]
  refine aN (fun h => ab (.inl ⟨by rw [h]; exact List.mem_cons_self .., i, rfl⟩)) (fun h => am (br (by omega) (by omega)) ?_)
  have := ih (i + 1) (by omega)
  rw [Int.natCast_add, Int.natCast_one] at this
  have hm : s ∈ l[i] :: l.drop (i + 1) ↔ s ∈ l.drop (i + 1) := by
   rw [List.mem_cons]; exact ⟨fun q => q.resolve_left h, .inr⟩
  refine dM this fun r hr => ?_
  rw [hm]; exact hr
theorem wm (l : List Bytes) (s : Bytes) (hb : l.length ≤ cg) : Ev2 (fun n _ => aY n l s) (· = decide (s ∈ l)) := by
 simp only [aY]
 refine bQ (fun r => (0 ≤ r) ↔ s ∈ l) ?_ (fun r hr => ab (by simp only [hr]))
 simp only [ci]
 have l1 := B1 l s hb l.length 0 (by omega)
 rw [List.drop_zero] at l1
 refine kB (dM (a7 l1) fun r hr => ?_)
 rcases hr with ⟨h1, j, rfl⟩ | ⟨h1, rfl⟩
 ·exact ⟨fun _ => h1, fun _ => by omega⟩
 ·exact ab ⟨fun h => by omega, fun h => absurd h h1⟩
theorem BH (l : List Bytes) (s : Bytes) (hb : l.length ≤ 65536) (hl : ∀ p ∈ l, p.length ≤ 65536) (hs : s.length ≤ 32768) : ∀ (k i : Nat), i + k = l.length → Ev2 (fun _ m => eu l s m (i : Int)) (· = if Glob.anyL (l.drop i) s = true then .inr true else .inl ()) := by
 intro k
 induction k with
 | zero =>
  intro i hi
  refine ax ?_
  simp only [eu]
  exact aC (by omega) (ab (by rw [List.drop_of_length_le (by omega)]; rfl))
 | succ k ih =>
  intro i hi
  have h1 : i < l.length := by omega
  refine ax ?_
  simp only [eu]
  refine av (by omega) (am (by omega) ?_)
  rw [bS _ _ h1, List.drop_eq_getElem_cons h1]
  refine am ⟨hl _ (List.getElem_mem h1), hs⟩ ?_
  have e : Glob.anyL (l[i] :: l.drop (i + 1)) s = (Glob.matchL l[i] s || Glob.anyL (l.drop (i + 1)) s) := rfl
  rw [e]
  cases hq : Glob.matchL l[i] s
  ·refine aC (by simp) (am (br (by omega) (by omega)) ?_)
   have := ih (i + 1) (by omega)
   rw [Int.natCast_add, Int.natCast_one] at this
   rw [Bool.false_or]; exact this
  ·exact av rfl (ab (by rw [Bool.true_or, if_pos rfl]))
theorem yi (l : List Bytes) (s : Bytes) (hb : l.length ≤ 65536) (hl : ∀ p ∈ l, p.length ≤ 65536) (hs : s.length ≤ 32768) : Ev2 (fun n _ => iM n l s) (· = Glob.anyL l s) := by
 simp only [iM]
 have l1 := BH l s hb hl hs l.length 0 (by omega)
 rw [List.drop_zero] at l1
 cases hq : Glob.anyL l s
 ·rw [if_neg (by simp [hq])] at l1
  exact gJ () (a7 l1) (ab rfl)
 ·rw [if_pos hq] at l1
  exact ju true (a7 l1) rfl
def mc (t : List Bytes) (addr : Bytes) : Bool := decide (t = []) || Glob.anyL t addr || (decide ((jy addr).2 = 0) && Glob.anyL t (jy addr).1)
theorem uL (t : List Bytes) (addr : Bytes) (hb : t.length ≤ 65536) (hl : ∀ p ∈ t, p.length ≤ 65536) (ha : addr.length ≤ 300) : Ev2 (fun n _ => dj n t addr) (· = mc t addr) := by
 have hs := uY addr
 simp only [dj]
 unfold mc
 refine bu (decide (t = []) || Glob.anyL t addr) ?_ ?_
 ·refine aN (fun h => ab ?_) (fun h => bu _ (yi t addr hb hl (by omega)) (ab ?_))
  ·rw [decide_eq_true (List.length_eq_zero_iff.1 (by omega))]; rfl
  ·rw [decide_eq_false (fun e => h (by rw [e]; rfl))]; rfl
 ·cases (decide (t = []) || Glob.anyL t addr)
  ·refine aC (by decide) (bu _ (sQ addr (by omega)) (bu (decide ((jy addr).2 = 0) && Glob.anyL t (jy addr).1) ?_ (ab rfl)))
   refine aN (fun h => ?_) (fun h => ab (by rw [decide_eq_false h]; rfl))
   rw [decide_eq_true h]
   exact bu _ (yi t _ hb hl (by omega)) (ab rfl)
  ·exact av rfl (ab rfl)
def kg (c : aa) : Bytes := (jy c.fAddr).1
def zU (x : aa) : Bool := decide (x.fAction = 4) || decide (x.fAction = 3)
theorem B2 (x : aa) : gb x = some (zU x) := by
 unfold gb zU
 by_cases h : x.fAction = 4 <;> simp [h]
def ndP (x y : aa) : Bool := decide (kg y ∈ x.fDeps) || (zU x && !decide (y.fAction = 0) && decide (kg x ∈ y.fOldDeps))
def cat (l : List aa) (k : Nat) : aa := l.getD k default
theorem jZ (l : List aa) (k : Nat) (h : k < l.length) : l[k] = cat l k := by
 unfold cat; rw [List.getD_eq_getElem?_getD, List.getElem?_eq_getElem h]; rfl
def on (ch : List Bool) (k : Nat) : Bool := ch.getD k false
theorem xU (ch : List Bool) (k : Nat) (h : k < ch.length) : ch[k] = on ch k := by
 unfold on; rw [List.getD_eq_getElem?_getD, List.getElem?_eq_getElem h]; rfl
theorem zp (ch : List Bool) (k q : Nat) (h : k < ch.length) : on (ch.set k true) q = (decide (k = q) || on ch q) := by
 unfold on
 rw [List.getD_eq_getElem?_getD, List.getD_eq_getElem?_getD, List.getElem?_set]
 by_cases e : k = q
 ·subst e; simp [h]
 ·simp [e]
def eG (st : List Bool × List Int) (k : Nat) : List Bool × List Int := if on st.1 k = true then st else (st.1.set k true, st.2 ++ [(k : Int)])
theorem rB {ch : List Bool} {t : List Int} {x : Nat} (h : on ch x = false) : eG (ch, t) x = (ch.set x true, t ++ [(x : Int)]) := by unfold eG; rw [if_neg (by simp [h])]
theorem pW {ch : List Bool} {t : List Int} {x : Nat} (h : on ch x = true) : eG (ch, t) x = (ch, t) := by unfold eG; rw [if_pos h]
theorem s6 (ch : List Bool) (t : List Int) (x : Nat) : (eG (ch, t) x).1.length = ch.length ∧ (eG (ch, t) x).2.length ≤ t.length + 1 := by
 cases h : on ch x
 ·rw [rB h]; simp
 ·rw [pW h]; simp
theorem sL (l : List aa) (rs : List Bytes) (ch : List Bool) (td : List Int) (i : Nat) (hi : i < ch.length) (ht : td.length ≤ 1000000) : dG (cr.mk l rs ch td) (i : Int) = some (cr.mk l rs (eG (ch, td) i).1 (eG (ch, td) i).2) := by
 have hc : (0 : Int) ≤ (i : Int) ∧ (i : Int) < (ch.length : Int) := by omega
 unfold dG
 simp only [ck, if_pos hc, bS _ _ hi, xU _ _ hi]
 cases h : on ch i
 ·rw [rB h, if_pos (show (!false) = true from rfl), if_pos (by simp only [List.length_cons, List.length_nil]; omega)]; rfl
 ·rw [pW h, if_neg (by decide)]
theorem Cp (l : List aa) (rs : List Bytes) (hrs : rs = l.map kg) (hB : ∀ c ∈ l, aa.Bd c) (i t : Nat) (hi : i < l.length) (ht : t < l.length) :
  Ev2 (fun n _ => ck ((0 : Int) ≤ (t : Int) ∧ (t : Int) < (rs.length : Int)) <| (aY n ((lat l (i : Int)).fDeps) (lat rs (t : Int))).bind fun r37 => if r37 = true then some true else (gb (lat l (i : Int))).bind fun r40 => if r40 = true then if (lat l (t : Int)).fAction = 0 then some false else ck ((0 : Int) ≤ (i : Int) ∧ (i : Int) < (rs.length : Int)) <| (aY n ((lat l (t : Int)).fOldDeps) (lat rs (i : Int))).bind fun r45 => some r45 else some false) (· = ndP (cat l i) (cat l t)) := by
 have hl : rs.length = l.length := by rw [hrs, List.length_map]
 have e1 : ∀ k : Nat, k < l.length → lat rs (k : Int) = kg (cat l k) := by
  intro k hk
  rw [bS _ _ (by omega), ← jZ l k hk]; subst hrs; rw [List.getElem_map]
 rw [bS l i hi, bS l t ht, jZ l i hi, jZ l t ht, e1 i hi, e1 t ht]
 have bi := hB _ (jZ l i hi ▸ List.getElem_mem hi)
 have bt := hB _ (jZ l t ht ▸ List.getElem_mem ht)
 have d1 := bi.bDeps
 have d2 := bt.bOldDeps
 unfold ndP
 refine am (by omega) (bu _ (wm _ _ (by omega)) ?_)
 refine aN (fun h => ab (by rw [h]; rfl)) (fun h => ?_)
 rw [Bool.eq_false_iff.2 h, Bool.false_or]
 refine bu _ (bh (B2 _) rfl) ?_
 cases zU (cat l i)
 ·exact aC (by decide) (ab rfl)
 ·refine av rfl (aN (fun h => ab (by rw [decide_eq_true h]; rfl)) (fun h => am (by omega) (bu _ (wm _ _ (by omega)) (ab ?_))))
  rw [decide_eq_false h]; rfl
theorem BF (l : List aa) (rs : List Bytes) (hrs : rs = l.map kg) (hB : ∀ c ∈ l, aa.Bd c) (hn : l.length ≤ 1000) (i : Nat) (hi : i < l.length) (ch0 : List Bool) (td0 : List Int) : ∀ (k t : Nat) (ch : List Bool) (td : List Int), t + k = l.length → ch.length = l.length → td.length ≤ 100000 + t →
  Ev2 (fun n m => bs n (cr.mk l rs ch0 td0) (i : Int) m (t : Int) l td rs ch) (· = (l, (((List.range' t k).filter fun q => ndP (cat l i) (cat l q)).foldl eG (ch, td)).2, rs, (((List.range' t k).filter fun q => ndP (cat l i) (cat l q)).foldl eG (ch, td)).1)) := by
 intro k
 induction k with
 | zero =>
  intro t ch td ht hc hd
  refine ax ?_
  simp only [bs]
  exact aC (by omega) (ab rfl)
 | succ k ih =>
  intro t ch td ht hc hd
  have h1 : t < l.length := by omega
  refine ax ?_
  simp only [bs]
  refine av (by omega) ?_
  rw [List.range'_succ, List.filter_cons]
  refine bu (l, (if ndP (cat l i) (cat l t) = true then eG (ch, td) t else (ch, td)).2, rs, (if ndP (cat l i) (cat l t) = true then eG (ch, td) t else (ch, td)).1) ?_ ?_
  ·refine am (by omega) (bu _ (Cp l rs hrs hB i t hi h1) ?_)
   cases ndP (cat l i) (cat l t)
   ·exact aC (by decide) (ab rfl)
   ·refine av rfl (bu _ (bh (sL l rs ch td t (by omega) (by omega)) rfl) (ab rfl))
  ·refine am (br (by omega) (by omega)) ?_
   have hp := s6 ch td t
   cases ndP (cat l i) (cat l t)
   ·have := ih (t + 1) ch td (by omega) hc (by omega)
    rw [Int.natCast_add, Int.natCast_one] at this
    exact this
   ·have := ih (t + 1) (eG (ch, td) t).1 (eG (ch, td) t).2 (by omega) (by omega) (by omega)
    rw [Int.natCast_add, Int.natCast_one] at this
    exact this
theorem B4 (l : List aa) (rs : List Bytes) (hrs : rs = l.map kg) (hB : ∀ c ∈ l, aa.Bd c) (hn : l.length ≤ 1000) (i : Nat) (hi : i < l.length) (ch : List Bool) (td : List Int) (hc : ch.length = l.length) (hd : td.length ≤ 100000) :
  Ev2 (fun n _ => cD n (cr.mk l rs ch td) (i : Int)) (· = cr.mk l rs (((List.range' 0 l.length).filter fun q => ndP (cat l i) (cat l q)).foldl eG (ch, td)).1 (((List.range' 0 l.length).filter fun q => ndP (cat l i) (cat l q)).foldl eG (ch, td)).2) := by
 simp only [cD]
 exact am (by omega) (bu _ (a7 (BF l rs hrs hB hn i hi ch td l.length 0 ch td (by omega) hc (by omega))) (ab rfl))
end Go.Ab.R06
end
section
set_option linter.unusedVariables false
set_option linter.unusedSimpArgs false
set_option linter.unnecessarySimpa false
namespace Go.Ab.R06
open Go.Ab Go.Ab.RB Go.Lib
theorem wn : ∀ (S : List Bool) (k : Nat), k < S.length → on S k = false → (S.set k true).count false + 1 = S.count false
 | [], k, h, _ => by simp at h
 | b :: S, 0, _, h => by
  have h : b = false := h
  subst h; simp
 | b :: S, k + 1, h, h2 => by
  have := wn S k (by simpa using h) h2
  simp only [List.set_cons_succ, List.count_cons]
  omega
theorem lF : ∀ (L : List Nat) (ch : List Bool) (t : List Int), (∀ q ∈ L, q < ch.length) →
  (L.foldl eG (ch, t)).1.length = ch.length ∧ (∀ q, on (L.foldl eG (ch, t)).1 q = true ↔ on ch q = true ∨ q ∈ L) ∧ (∀ y ∈ t, y ∈ (L.foldl eG (ch, t)).2) ∧
  (∀ y ∈ (L.foldl eG (ch, t)).2, y ∈ t ∨ ∃ q ∈ L, y = (q : Int)) ∧ (∀ q, on (L.foldl eG (ch, t)).1 q = true → on ch q = true ∨ (q : Int) ∈ (L.foldl eG (ch, t)).2) ∧
  (L.foldl eG (ch, t)).2.length + (L.foldl eG (ch, t)).1.count false ≤ t.length + ch.count false
 | [], ch, t, _ => ⟨rfl, fun q => by simp, fun y h => h, fun y h => .inl h, fun y h => .inl h, Nat.le_refl _⟩
 | x :: L, ch, t, hU => by
  rw [List.foldl_cons]
  have hx := hU x (List.mem_cons_self ..)
  cases hc : on ch x
  ·rw [rB hc]
   obtain ⟨a0, a1, a2, a3, a4, a5⟩ := lF L (ch.set x true) (t ++ [(x : Int)]) (fun q h => by rw [List.length_set]; exact hU q (List.mem_cons_of_mem _ h))
   refine ⟨by rw [a0, List.length_set], fun q => ?_, fun y h => a2 y (List.mem_append_left _ h), fun y h => ?_, fun q h => ?_, ?_⟩
   ·rw [a1 q, zp _ _ _ hx, List.mem_cons, Bool.or_eq_true, decide_eq_true_eq]
    constructor
    ·rintro ((h | h) | h)
     ·exact .inr (.inl h.symm)
     ·exact .inl h
     ·exact .inr (.inr h)
    ·rintro (h | h | h)
     ·exact .inl (.inr h)
     ·exact .inl (.inl h.symm)
     ·exact .inr h
   ·rcases a3 y h with h | ⟨q, h, e⟩
    ·rcases List.mem_append.1 h with h | h
     ·exact .inl h
     ·exact .inr ⟨x, List.mem_cons_self .., List.mem_singleton.1 h⟩
    ·exact .inr ⟨q, List.mem_cons_of_mem _ h, e⟩
   ·rcases a4 q h with h | h
    ·rw [zp _ _ _ hx, Bool.or_eq_true, decide_eq_true_eq] at h
     rcases h with h | h
     ·subst h; exact .inr (a2 _ (List.mem_append_right _ (List.mem_singleton.2 rfl)))
     ·exact .inl h
    ·exact .inr h
   ·have := wn ch x hx hc
    rw [List.length_append, List.length_singleton] at a5
    omega
  ·rw [pW hc]
   obtain ⟨a0, a1, a2, a3, a4, a5⟩ := lF L ch t (fun q h => hU q (List.mem_cons_of_mem _ h))
   refine ⟨a0, fun q => ?_, a2, fun y h => ?_, a4, a5⟩
   ·rw [a1 q, List.mem_cons]
    constructor
    ·rintro (h | h)
     ·exact .inl h
     ·exact .inr (.inr h)
    ·rintro (h | h | h)
     ·exact .inl h
     ·subst h; exact .inl hc
     ·exact .inr h
   ·rcases a3 y h with h | ⟨q, h, e⟩
    ·exact .inl h
    ·exact .inr ⟨q, List.mem_cons_of_mem _ h, e⟩
inductive Rj (N : Nat) (S : Nat → Prop) (nd : Nat → Nat → Prop) : Nat → Prop where
 | base {k : Nat} (hk : k < N) (h : S k) : Rj N S nd k
 | step {i k : Nat} (h : Rj N S nd i) (hk : k < N) (hn : nd i k) : Rj N S nd k
theorem Rj.mono {N : Nat} {S T : Nat → Prop} {nd : Nat → Nat → Prop} (hs : ∀ k, k < N → S k → T k) {k : Nat} (h : Rj N S nd k) : Rj N T nd k := by
 induction h with
 | base hk h => exact .base hk (hs _ hk h)
 | step _ hk hn ih => exact .step ih hk hn
structure DfJ (N : Nat) (S : Nat → Prop) (nd : Nat → Nat → Prop) (ch : List Bool) (td : List Int) : Prop where
 a : ∀ k, on ch k = true → Rj N S nd k
 b : ∀ k, k < N → S k → on ch k = true
 c : ∀ x ∈ td, ∃ q : Nat, x = (q : Int) ∧ q < N ∧ on ch q = true
 d : ∀ k, on ch k = true → (k : Int) ∈ td ∨ ∀ q, q < N → nd k q → on ch q = true
theorem DfJ.fin {N : Nat} {S : Nat → Prop} {nd : Nat → Nat → Prop} {ch : List Bool} (h : DfJ N S nd ch []) (k : Nat) : on ch k = true ↔ Rj N S nd k := by
 refine ⟨h.a k, fun hr => ?_⟩
 induction hr with
 | base hk h0 => exact h.b _ hk h0
 | step _ hk hn ih =>
  rcases h.d _ ih with h1 | h1
  ·cases h1
  ·exact h1 _ hk hn
def yn (l : List aa) (sel : Bytes → Bool) (k : Nat) : Prop := Rj l.length (fun k => sel (cat l k).fAddr = true) (fun i k => ndP (cat l i) (cat l k) = true) k
theorem Ac (l : List aa) (rs : List Bytes) (hrs : rs = l.map kg) (hB : ∀ c ∈ l, aa.Bd c) (hn : l.length ≤ 1000) (sel : Bytes → Bool) : ∀ (k : Nat) (ch : List Bool) (td : List Int), ch.length = l.length → td.length + ch.count false ≤ k → k ≤ 10000 → DfJ l.length (fun k => sel (cat l k).fAddr = true) (fun i k => ndP (cat l i) (cat l k) = true) ch td →
  Ev2 (fun n m => cK n m l td rs ch) (fun r => r.2.2.2.length = l.length ∧ ∀ k, on r.2.2.2 k = true ↔ yn l sel k) := by
 intro k
 induction k with
 | zero =>
  intro ch td hl hk _ hI
  have ht : td = [] := List.length_eq_zero_iff.1 (by omega)
  subst ht
  refine ax ?_
  simp only [cK]
  exact aC (by decide) (ab ⟨hl, hI.fin⟩)
 | succ k ih =>
  intro ch td hl hk hK hI
  refine ax ?_
  simp only [cK]
  refine aN (fun h => ?_) (fun h => ?_)
  ·have hpos : 0 < td.length := by omega
   refine am (br (by omega) (by omega)) (am (by omega) (am (br (by omega) (by omega)) (am (by omega) ?_)))
   have hx : lat td ((td.length : Int) - 1) = td[td.length - 1] := by
    have := bS td (td.length - 1) (by omega)
    rw [← this]; congr 1; omega
   have hmem : td[td.length - 1] ∈ td := List.getElem_mem (by omega)
   obtain ⟨i, hxi, hiN, hon⟩ := hI.c _ hmem
   rw [hx, hxi]
   have htk : ((td.length : Int) - 1).toNat = td.length - 1 := by omega
   rw [htk]
   refine bu _ (B4 l rs hrs hB hn i hiN ch (td.take (td.length - 1)) hl (by rw [List.length_take]; omega)) ?_
   obtain ⟨a0, a1, a2, a3, a4, a5⟩ := lF ((List.range' 0 l.length).filter fun q => ndP (cat l i) (cat l q)) ch (td.take (td.length - 1)) (fun q hq => by
    have := (List.mem_range'_1.1 (List.mem_filter.1 hq).1).2; omega)
   have hsp : ∀ y, y ∈ td ↔ y ∈ td.take (td.length - 1) ∨ y = (i : Int) := by
    intro y
    have e : td.take (td.length - 1) ++ [td[td.length - 1]] = td := by
     have := List.take_append_getElem (l := td) (i := td.length - 1) (by omega)
     rw [this, List.take_of_length_le (by omega)]
    constructor
    ·intro h; rw [← e] at h
     rcases List.mem_append.1 h with h | h
     ·exact .inl h
     ·exact .inr ((List.mem_singleton.1 h).trans hxi)
    ·rintro (h | h)
     ·exact List.mem_of_mem_take h
     ·rw [h, ← hxi]; exact hmem
   have hmf : ∀ q, q ∈ ((List.range' 0 l.length).filter fun q => ndP (cat l i) (cat l q)) ↔ q < l.length ∧ ndP (cat l i) (cat l q) = true := by
    intro q; rw [List.mem_filter, List.mem_range'_1]; exact ⟨fun h => ⟨by omega, h.2⟩, fun h => ⟨by omega, h.2⟩⟩
   refine ih (((List.range' 0 l.length).filter fun q => ndP (cat l i) (cat l q)).foldl eG (ch, td.take (td.length - 1))).1 (((List.range' 0 l.length).filter fun q => ndP (cat l i) (cat l q)).foldl eG (ch, td.take (td.length - 1))).2 (a0.trans hl) ?_ (by omega) ⟨fun q hq => ?_, fun q hq h => (a1 q).2 (.inl (hI.b q hq h)), fun x hx => ?_, fun q hq => ?_⟩
   ·rw [List.length_take] at a5; omega
   ·rcases (a1 q).1 hq with h1 | h1
    ·exact hI.a q h1
    ·exact .step (hI.a _ hon) ((hmf q).1 h1).1 ((hmf q).1 h1).2
   ·rcases a3 x hx with h1 | ⟨q, h1, e⟩
    ·obtain ⟨q, e, h2, h3⟩ := hI.c x ((hsp x).2 (.inl h1))
     exact ⟨q, e, h2, (a1 q).2 (.inl h3)⟩
    ·exact ⟨q, e, ((hmf q).1 h1).1, (a1 q).2 (.inr h1)⟩
   ·rcases a4 q hq with h1 | h1
    ·rcases hI.d q h1 with h2 | h2
     ·rcases (hsp _).1 h2 with h3 | h3
      ·exact .inl (a2 _ h3)
      ·obtain rfl : q = i := by omega
       exact .inr fun z hz hn => (a1 z).2 (.inr ((hmf z).2 ⟨hz, hn⟩))
     ·exact .inr fun z hz hn => (a1 z).2 (.inl (h2 z hz hn))
    ·exact .inl h1
  ·have ht : td = [] := List.length_eq_zero_iff.1 (by omega)
   subst ht
   exact ab ⟨hl, hI.fin⟩
theorem AH (l : List aa) (hn : l.length ≤ 1000) (hA : ∀ c ∈ l, c.fAddr.length ≤ 300) : ∀ (k i : Nat) (p q : List Bytes), i + k = l.length → p.length = i → q.length = k → Ev2 (fun n m => cL n l m (i : Int) (p ++ q)) (· = p ++ (l.drop i).map kg) := by
 intro k
 induction k with
 | zero =>
  intro i p q hi hp hq
  refine ax ?_
  simp only [cL]
  exact aC (by omega) (ab (by rw [List.drop_of_length_le (by omega), List.length_eq_zero_iff.1 hq]; rfl))
 | succ k ih =>
  intro i p q hi hp hq
  have h1 : i < l.length := by omega
  refine ax ?_
  simp only [cL]
  refine av (by omega) (am (by omega) ?_)
  rw [bS _ _ h1, List.drop_eq_getElem_cons h1]
  have ha := hA _ (List.getElem_mem h1)
  refine bu _ (sQ _ (by omega)) (am (by rw [List.length_append]; omega) (am (br (by omega) (by omega)) ?_))
  cases q with
  | nil => simp at hq
  | cons x q =>
   have e : ∀ y : Bytes, (p ++ x :: q).set ((i : Int).toNat) y = (p ++ [y]) ++ q := by
    intro y
    rw [Int.toNat_natCast, ← hp, List.set_append_right _ _ (Nat.le_refl _), Nat.sub_self]; simp
   rw [e]
   have := ih (i + 1) (p ++ [(jy l[i].fAddr).1]) q (by omega) (by simp [hp]) (by simpa using hq)
   rw [Int.natCast_add, Int.natCast_one] at this
   refine dM this fun r hr => ?_
   rw [hr]; simp only [List.map_cons, List.append_assoc, List.singleton_append]; rfl
theorem BC (t : List Bytes) (l : List aa) (rs : List Bytes) (ht : t.length ≤ 65536) (hts : ∀ p ∈ t, p.length ≤ 65536) (hn : l.length ≤ 1000) (hA : ∀ c ∈ l, c.fAddr.length ≤ 300) : ∀ (k i : Nat) (ch : List Bool) (td : List Int), i + k = l.length → ch.length = l.length → td.length ≤ i →
  Ev2 (fun n m => cF n t l m (i : Int) l td rs ch) (· = (l, (((List.range' i k).filter fun q => mc t (cat l q).fAddr).foldl eG (ch, td)).2, rs, (((List.range' i k).filter fun q => mc t (cat l q).fAddr).foldl eG (ch, td)).1)) := by
 intro k
 induction k with
 | zero =>
  intro i ch td hi hc hd
  refine ax ?_
  simp only [cF]
  exact aC (by omega) (ab rfl)
 | succ k ih =>
  intro i ch td hi hc hd
  have h1 : i < l.length := by omega
  have ha := hA _ (List.getElem_mem h1)
  refine ax ?_
  simp only [cF]
  refine av (by omega) ?_
  rw [bS _ _ h1, List.range'_succ, List.filter_cons]
  refine bu (l, (if mc t (cat l i).fAddr = true then eG (ch, td) i else (ch, td)).2, rs, (if mc t (cat l i).fAddr = true then eG (ch, td) i else (ch, td)).1) ?_ ?_
  ·refine am (by omega) (bu _ (uL t _ ht hts ha) ?_)
   rw [jZ l i h1]
   cases mc t (cat l i).fAddr
   ·exact aC (by decide) (ab rfl)
   ·exact av rfl (bu _ (bh (sL l rs ch td i (by omega) (by omega)) rfl) (ab rfl))
  ·refine am (br (by omega) (by omega)) ?_
   have hp := s6 ch td i
   cases mc t (cat l i).fAddr
   ·have := ih (i + 1) ch td (by omega) hc (by omega)
    rw [Int.natCast_add, Int.natCast_one] at this
    exact this
   ·have := ih (i + 1) (eG (ch, td) i).1 (eG (ch, td) i).2 (by omega) (by omega) (by omega)
    rw [Int.natCast_add, Int.natCast_one] at this
    exact this
def ku (l : List aa) (ch : List Bool) : List aa := ((List.range' 0 l.length).filter fun k => on ch k).map (cat l)
theorem Cb (l : List aa) (ch : List Bool) (hn : l.length ≤ 1000) (hB : ∀ c ∈ l, aa.Bd c) (hc : ch.length = l.length) : ∀ (k i : Nat) (out : List aa), i + k = l.length → out.length ≤ i → Ev2 (fun n m => cH n l ch m out (i : Int)) (· = out ++ ((List.range' i k).filter fun k => on ch k).map (cat l)) := by
 intro k
 induction k with
 | zero =>
  intro i out hi ho
  refine ax ?_
  simp only [cH]
  exact aC (by omega) (ab (by simp))
 | succ k ih =>
  intro i out hi ho
  have h1 : i < l.length := by omega
  refine ax ?_
  simp only [cH]
  refine av (by omega) ?_
  rw [bS _ _ h1, bS ch i (by omega), xU, List.range'_succ, List.filter_cons]
  refine bu (out ++ if on ch i = true then [cat l i] else []) ?_ ?_
  ·refine am (by omega) (am (by omega) ?_)
   cases on ch i
   ·exact aC (by decide) (ab (by simp))
   ·refine av rfl (bu _ (xu _ (hB _ (List.getElem_mem h1))) (am (by simp only [List.length_cons, List.length_nil]; omega) (ab ?_)))
    rw [jZ l i h1]; rfl
  ·refine am (br (by omega) (by omega)) ?_
   have := ih (i + 1) (out ++ if on ch i = true then [cat l i] else []) (by omega) (by
    rw [List.length_append]
    split <;> simp <;> omega)
   rw [Int.natCast_add, Int.natCast_one] at this
   refine dM this fun r hr => ?_
   rw [hr]
   cases on ch i <;> simp
theorem pr (t : List Bytes) (l : List aa) (ht : t.length ≤ 65536) (hts : ∀ p ∈ t, p.length ≤ 65536) (hn : l.length ≤ 1000) (hB : ∀ c ∈ l, aa.Bd c) (hA : ∀ c ∈ l, c.fAddr.length ≤ 300) :
  Ev2 (fun n _ => cq n t l) (fun r => ∃ ch : List Bool, ch.length = l.length ∧ (∀ k, on ch k = true ↔ yn l (mc t) k) ∧ r = ku l ch) := by
 simp only [cq]
 refine am (by omega) (am (by omega) ?_)
 refine bu (l.map kg) ?_ ?_
 ·have := AH l hn hA l.length 0 [] (List.replicate (l.length : Int).toNat []) (by omega) rfl (by simp)
  simpa using a7 this
 ·have hlr : (List.replicate (l.length : Int).toNat false).length = l.length := by simp
  refine bu _ (a7 (BC t l (l.map kg) ht hts hn hA l.length 0 (List.replicate (l.length : Int).toNat false) [] (by omega) hlr (Nat.le_refl _))) ?_
  obtain ⟨a0, a1, a2, a3, a4, a5⟩ := lF ((List.range' 0 l.length).filter fun q => mc t (cat l q).fAddr) (List.replicate (l.length : Int).toNat false) [] (fun q hq => by
   have := (List.mem_range'_1.1 (List.mem_filter.1 hq).1).2; omega)
  have hmf : ∀ q, q ∈ ((List.range' 0 l.length).filter fun q => mc t (cat l q).fAddr) ↔ q < l.length ∧ mc t (cat l q).fAddr = true := by
   intro q; rw [List.mem_filter, List.mem_range'_1]; exact ⟨fun h => ⟨by omega, h.2⟩, fun h => ⟨by omega, h.2⟩⟩
  have hoff : ∀ q, ¬ on (List.replicate (l.length : Int).toNat false) q = true := by
   intro q h
   unfold on at h
   rw [List.getD_eq_getElem?_getD, List.getElem?_replicate] at h
   split at h <;> simp at h
  have hcnt : (List.replicate (l.length : Int).toNat false).count false ≤ l.length := by
   have := List.count_le_length (a := false) (l := List.replicate (l.length : Int).toNat false); omega
  refine bQ _ (a7 (Ac l (l.map kg) rfl hB hn (mc t) 2000 (((List.range' 0 l.length).filter fun q => mc t (cat l q).fAddr).foldl eG (List.replicate (l.length : Int).toNat false, [])).1 (((List.range' 0 l.length).filter fun q => mc t (cat l q).fAddr).foldl eG (List.replicate (l.length : Int).toNat false, [])).2 (a0.trans hlr) (by simp only [List.length_nil] at a5; omega) (by omega) ⟨fun q hq => ?_, fun q hq h => (a1 q).2 (.inr ((hmf q).2 ⟨hq, h⟩)), fun x hx => ?_, fun q hq => ?_⟩)) (fun r hr => ?_)
  ·rcases (a1 q).1 hq with h | h
   ·exact absurd h (hoff q)
   ·exact .base ((hmf q).1 h).1 ((hmf q).1 h).2
  ·rcases a3 x hx with h | ⟨q, h, e⟩
   ·cases h
   ·exact ⟨q, e, ((hmf q).1 h).1, (a1 q).2 (.inr h)⟩
  ·rcases a4 q hq with h | h
   ·exact absurd h (hoff q)
   ·exact .inl h
  ·refine bu _ (a7 (Cb l r.2.2.2 hn hB hr.1 l.length 0 [] (by omega) (Nat.le_refl _))) (ab ⟨r.2.2.2, hr.1, hr.2, rfl⟩)
theorem yk (l : List aa) (ch : List Bool) (h : ∀ k, k < l.length → on ch k = true) : ku l ch = l := by
 unfold ku
 rw [List.filter_eq_self.2 fun k hk => h k (by have := (List.mem_range'_1.1 hk).2; omega)]
 refine List.ext_getElem (by simp) fun i h1 h2 => ?_
 rw [List.getElem_map, List.getElem_range', show 0 + 1 * i = i by omega]
 exact (jZ l i h2).symm
theorem yh (addr : Bytes) : mc [] addr = true := by unfold mc; rw [decide_eq_true rfl]; rfl
theorem ri (l : List aa) (hn : l.length ≤ 1000) (hB : ∀ c ∈ l, aa.Bd c) (hA : ∀ c ∈ l, c.fAddr.length ≤ 300) : Ev2 (fun n _ => cq n [] l) (· = l) := by
 refine dM (pr [] l (by simp) (fun p hp => by cases hp) hn hB hA) fun r hr => ?_
 obtain ⟨ch, h1, h2, rfl⟩ := hr
 exact yk l ch fun k hk => (h2 k).2 (.base hk (yh _))
theorem xH (l : List aa) (c d : List Bool) (h : ∀ k, on c k = true → on d k = true) : (ku l c).Sublist (ku l d) := by
 unfold ku
 refine List.Sublist.map _ ?_
 have e : ((List.range' 0 l.length).filter fun k => on c k) = ((List.range' 0 l.length).filter fun k => on d k).filter fun k => on c k := by
  rw [List.filter_filter]
  refine List.filter_congr fun k _ => ?_
  cases hc : on c k
  ·simp
  ·simp [h k hc]
 rw [e]
 exact List.filter_sublist
theorem xT {l : List aa} {c : List Bool} {x : aa} (h : x ∈ ku l c) : x ∈ l := by
 unfold ku at h
 obtain ⟨k, hk, rfl⟩ := List.mem_map.1 h
 have := (List.mem_range'_1.1 (List.mem_filter.1 hk).1).2
 rw [← jZ l k (by omega)]; exact List.getElem_mem _
theorem uc (l : List aa) (c : List Bool) : (ku l c).length ≤ l.length := by
 unfold ku
 rw [List.length_map]
 exact Nat.le_trans (List.length_filter_le ..) (by simp)
end Go.Ab.R06
end
section
set_option linter.unusedVariables false
set_option linter.unusedSimpArgs false
set_option linter.unnecessarySimpa false
namespace Go.Ab.R06
open Go.Proofs Go.Ab Go.Ab.RB
attribute [local irreducible] awp d9 aU aF bO AV.sub M dU
def ei (r_ref07_left : ag → Int → Int → Option Int) (v_0 : ag) (levels_2 : Int) : Nat → Int → Int → Option Int
 | 0, _, _ => none
 | m + 1, n15, i16 =>
 (
   if i16 < (v_0.fItems.length : Int) then
    some (decide (0 ≤ n15))
   else
    some false
  : Option Bool).bind fun t18 =>
 if t18 = true then
  ck ((0 : Int) ≤ i16 ∧ i16 < (v_0.fItems.length : Int)) <|
  ck (inR (levels_2 - 1)) <|
  (r_ref07_left (lat v_0.fItems i16) n15 (levels_2 - 1)).bind fun r22 =>
  ck (inR (i16 + 1)) <|
  ei r_ref07_left v_0 levels_2 m r22 (i16 + 1)
 else
  some n15
def fU : Nat → ag → Int → Int → Option Int
 | 0, _, _, _ => none
 | n + 1, v_0, nodes_1, levels_2 =>
 (
   if nodes_1 < 1 then
    some true
   else
    some (decide (levels_2 < 1))
  : Option Bool).bind fun t2 =>
 if t2 = true then
  some (-1)
 else
  ck (inR (nodes_1 - 1)) <|
  (ei (fU n) v_0 levels_2 n (nodes_1 - 1) 0).bind fun n27 =>
  some n27
set_option maxHeartbeats 4000000 in
theorem rW (n : Nat) : ∀ (v_0 : ag) (nodes_1 : Int) (levels_2 : Int) (r : Int), fU n v_0 nodes_1 levels_2 = some r → aF Tryz.prog 43 [.agg (ag.cs v_0), eI nodes_1, eI levels_2] (· = .p (eI r)) := by
 induction n with
 | zero => intro v_0 nodes_1 levels_2 r h0; cases h0
 | succ n ih =>
 have ih_ref07_left_ok := ih
 intro v_0 nodes_1 levels_2 r h0
 rw [fU] at h0
 refine bG good Tryz.func43 rfl rfl rfl fun w0 => mP (fun v : Int => .p (eI v)) ?_
 refine nx 7 rfl (bd h0 fun o31 h1 h0 => ?_)
 refine kN o31 (fun v32 => ⟨[(1, .p (eI nodes_1)), (2, .p (eI levels_2)), (3, .ptr 3 0), (14, .p (eB v32))], [(3, (ag.cs v_0).map .p)]⟩) ?_ ?_
 ·refine nx 1 rfl (fB [14] h0 rfl (fun c3 h0 => ?_) fun c3 h0 => ?_)
  ·exact nx 6 rfl (mQ (oi h0) rfl (sr))
  refine nx 5 rfl (oA h0 rfl rfl fun hk4 h0 => ?_)
  refine nx 8 rfl (bd h0 fun o33 h1 h0 => ?_)
  refine kE 0 o33 (fun v34 => ⟨[(7, .p (eI v34))], []⟩) ?_ ?_
  ·exact nx 7 rfl (mQ (oi h0) rfl (sr))
  refine lG (fun (q35 : Int × Int) => ⟨[(2, .p (eI levels_2)), (3, .ptr 3 0), (7, .p (eI q35.1)), (8, .p (eI q35.2))], [(3, (ag.cs v_0).map .p)]⟩) (fun m (q35 : Int × Int) => ei (fU n) v_0 levels_2 m q35.1 q35.2) (fun _ => rfl) (nodes_1 - 1, 0) h1 (gE rfl rfl) ?_
  rintro m ⟨n15, i16⟩ h1
  replace h1 : ei (fU n) v_0 levels_2 (m + 1) n15 i16 = some o33 := h1
  rw [ei] at h1
  refine nx 2 rfl (bd h1 fun o36 h2 h1 => ?_)
  refine kN o36 (fun v37 => ⟨[(2, .p (eI levels_2)), (3, .ptr 3 0), (7, .p (eI n15)), (8, .p (eI i16)), (25, .p (eB v37))], [(3, (ag.cs v_0).map .p)]⟩) ?_ ?_
  ·refine nx 1 rfl (fB [25] h1 rfl (fun c19 h1 => ?_) fun c19 h1 => ?_)
   ·refine nx 8 rfl (oE h1 ag.cells_eq rfl rfl (fun _ => rfl) fun hk20 h1 => ?_)
    refine nx 3 rfl (oA h1 rfl rfl fun hk21 h1 => ?_)
    refine bd h1 fun r22 e23 h1 => oK (ih_ref07_left_ok (lat v_0.fItems i16) n15 (levels_2 - 1) _ e23) rfl ⟨sr, sr, sr, trivial⟩ Tryz.call43 rfl (nx 4 rfl ?_)
    exact oA h1 rfl rfl fun hk24 h1 => nx 2 rfl (eX (r22, i16 + 1) h1 (gE rfl rfl))
   exact nx 2 rfl (eXi _ (oi h1).symm (gE rfl rfl))
  refine nx 4 rfl (oLl (f := aQ) rfl rfl ?_)
  refine nx 2 rfl (fD [21, 22] h2 rfl (fun c17 h2 => ?_) fun c17 h2 => ?_)
  ·exact nx 4 rfl (eX _ (oi h2).symm (gE rfl rfl))
  exact nx 4 rfl (eX _ (oi h2).symm (gE rfl rfl))
 refine nx 4 rfl (fD [10, 11] h1 rfl (fun c1 h1 => ?_) fun c1 h1 => ?_)
 ·exact nx 4 rfl (eX _ (oi h1).symm (gE rfl rfl))
 exact nx 4 rfl (eX _ (oi h1).symm (gE rfl rfl))
def ek (r_ref07_keys : ag → Option Int) (v_0 : ag) : Nat → Int → Int → Option Int
 | 0, _, _ => none
 | m + 1, n9, i10 =>
 if i10 < (v_0.fItems.length : Int) then
  ck ((0 : Int) ≤ i10 ∧ i10 < (v_0.fItems.length : Int)) <|
  (r_ref07_keys (lat v_0.fItems i10)).bind fun r13 =>
  ck (inR (n9 + r13)) <|
  ck (inR (i10 + 1)) <|
  ek r_ref07_keys v_0 m (n9 + r13) (i10 + 1)
 else
  some n9
def fS : Nat → ag → Option Int
 | 0, _ => none
 | n + 1, v_0 =>
 (ek (fS n) v_0 n (v_0.fKeys.length : Int) 0).bind fun n19 =>
 some n19
set_option maxHeartbeats 4000000 in
theorem sd (n : Nat) : ∀ (v_0 : ag) (r : Int), fS n v_0 = some r → aF Tryz.prog 44 [.agg (ag.cs v_0)] (· = .p (eI r)) := by
 induction n with
 | zero => intro v_0 r h0; cases h0
 | succ n ih =>
 have ih_ref07_keys_ok := ih
 intro v_0 r h0
 rw [fS] at h0
 refine bG good Tryz.func44 rfl rfl rfl fun w0 => mP (fun v : Int => .p (eI v)) ?_
 refine nx 9 rfl (oLl (f := eS) rfl rfl ?_)
 refine nx 8 rfl (bd h0 fun o21 h1 h0 => ?_)
 refine kE 0 o21 (fun v22 => ⟨[(3, .p (eI v22))], []⟩) ?_ ?_
 ·exact nx 7 rfl (mQ (oi h0) rfl (sr))
 refine lG (fun (q23 : Int × Int) => ⟨[(1, .ptr 1 0), (3, .p (eI q23.1)), (4, .p (eI q23.2))], [(1, (ag.cs v_0).map .p)]⟩) (fun m (q23 : Int × Int) => ek (fS n) v_0 m q23.1 q23.2) (fun _ => rfl) ((v_0.fKeys.length : Int), 0) h1 (gE rfl rfl) ?_
 rintro m ⟨n9, i10⟩ h1
 replace h1 : ek (fS n) v_0 (m + 1) n9 i10 = some o21 := h1
 rw [ek] at h1
 refine nx 6 rfl (oLl (f := aQ) rfl rfl ?_)
 refine nx 2 rfl (fD [12] h1 rfl (fun c11 h1 => ?_) fun c11 h1 => ?_)
 ·refine nx 9 rfl (oE h1 ag.cells_eq rfl rfl (fun _ => rfl) fun hk12 h1 => ?_)
  refine nx 1 rfl (bd h1 fun r13 e14 h1 => ?_)
  refine oK (ih_ref07_keys_ok (lat v_0.fItems i10) _ e14) rfl ⟨sr, trivial⟩ Tryz.call44 rfl (oA h1 rfl rfl fun hk15 h1 => ?_)
  refine nx 4 rfl (oA h1 rfl rfl fun hk16 h1 => ?_)
  exact nx 2 rfl (eX (n9 + r13, i10 + 1) h1 (gE rfl rfl))
 exact nx 2 rfl (eXi _ (oi h1).symm (gE rfl rfl))
def iH (n : Nat) (v_0 : ag) (nodes_1 : Int) : Option Bool :=
 (
   (fU n v_0 nodes_1 40).bind fun r1 =>
   if 0 ≤ r1 then
    (fS n v_0).bind fun r4 =>
    ck (inR (2 * nodes_1)) <|
    some (decide (r4 ≤ 2 * nodes_1))
   else
    some false
  : Option Bool).bind fun t7 =>
 some t7
set_option maxHeartbeats 4000000 in
theorem nc (n : Nat) (v_0 : ag) (nodes_1 : Int) (r : Bool) (h0 : iH n v_0 nodes_1 = some r) : aF Tryz.prog 26 [.agg (ag.cs v_0), eI nodes_1] (· = .p (eB r)) := by
 unfold iH at h0
 refine bG good Tryz.func26 rfl rfl rfl fun w0 => mP (fun v : Bool => .p (eB v)) ?_
 refine nx 6 rfl (bd h0 fun o9 h1 h0 => ?_)
 refine kN o9 (fun v10 => ⟨[(4, .p (eB v10))], []⟩) ?_ ?_
 ·exact nx 2 rfl (mQ (oi h0) rfl (sr))
 refine nx 3 rfl (bd h1 fun r1 e2 h1 => ?_)
 refine oK (rW _ v_0 nodes_1 40 _ e2) rfl ⟨sr, sr, sr, trivial⟩ Tryz.call43 rfl (nx 2 rfl ?_)
 refine fD [8, 9] h1 rfl (fun c3 h1 => ?_) fun c3 h1 => ?_
 ·refine nx 1 rfl (bd h1 fun r4 e5 h1 => ?_)
  refine oK (sd _ v_0 _ e5) rfl ⟨sr, trivial⟩ Tryz.call44 rfl (nx 1 rfl ?_)
  exact oA h1 rfl rfl fun hk6 h1 => nx 4 rfl (eX _ (oi h1).symm (gE rfl rfl))
 exact nx 8 rfl (eX _ (oi h1).symm (gE rfl rfl))
def dZ (a_0 : ag) (b_1 : ag) : Nat → Int → Option (Unit ⊕ Bool)
 | 0, _ => none
 | m + 1, i13 =>
 if i13 < (a_0.fKeys.length : Int) then
  ck ((0 : Int) ≤ i13 ∧ i13 < (a_0.fKeys.length : Int)) <|
  ck ((0 : Int) ≤ i13 ∧ i13 < (b_1.fKeys.length : Int)) <|
  if lat a_0.fKeys i13 = lat b_1.fKeys i13 then
   ck (inR (i13 + 1)) <|
   dZ a_0 b_1 m (i13 + 1)
  else
   some (.inr false)
 else
  some (.inl ())
def d6 (r_ref07_Equal : ag → ag → Option Bool) (a_0 : ag) (b_1 : ag) : Nat → Int → Option (Unit ⊕ Bool)
 | 0, _ => none
 | m + 1, i28 =>
 if i28 < (a_0.fItems.length : Int) then
  ck ((0 : Int) ≤ i28 ∧ i28 < (a_0.fItems.length : Int)) <|
  ck ((0 : Int) ≤ i28 ∧ i28 < (b_1.fItems.length : Int)) <|
  (r_ref07_Equal (lat a_0.fItems i28) (lat b_1.fItems i28)).bind fun r32 =>
  if (!r32) = true then
   some (.inr false)
  else
   ck (inR (i28 + 1)) <|
   d6 r_ref07_Equal a_0 b_1 m (i28 + 1)
 else
  some (.inl ())
def eq : Nat → ag → ag → Option Bool
 | 0, _, _ => none
 | n + 1, a_0, b_1 =>
 (
   if a_0.fKind = b_1.fKind then
    if a_0.fNum = b_1.fNum then
     if a_0.fStr = b_1.fStr then
      if (a_0.fItems.length : Int) = (b_1.fItems.length : Int) then
       some (!decide ((a_0.fKeys.length : Int) = (b_1.fKeys.length : Int)))
      else
       some true
     else
      some true
    else
     some true
   else
    some true
  : Option Bool).bind fun t5 =>
 if t5 = true then
  some false
 else
  jn (dZ a_0 b_1 n 0) fun q38 =>
  jn (d6 (eq n) a_0 b_1 n 0) fun q39 =>
  some true
set_option maxHeartbeats 4000000 in
theorem mL (n : Nat) : ∀ (a_0 : ag) (b_1 : ag) (r : Bool), eq n a_0 b_1 = some r → aF Tryz.prog 45 [.agg (ag.cs a_0), .agg (ag.cs b_1)] (· = .p (eB r)) := by
 induction n with
 | zero => intro a_0 b_1 r h0; cases h0
 | succ n ih =>
 have ih_ref07_Equal_ok := ih
 intro a_0 b_1 r h0
 rw [eq] at h0
 refine bG good Tryz.func45 rfl rfl rfl fun w0 => mP (fun v : Bool => .p (eB v)) ?_
 refine nx 8 rfl (bd h0 fun o40 h1 h0 => ?_)
 refine kN o40 (fun v41 => ⟨[(2, .ptr 2 0), (3, .ptr 3 0), (43, .p (eB v41))], [(2, (ag.cs a_0).map .p), (3, (ag.cs b_1).map .p)]⟩) ?_ ?_
 ·refine nx 1 rfl (fB [43] h0 rfl (fun c6 h0 => ?_) fun c6 h0 => ?_)
  ·exact nx 6 rfl (mQ (oi h0) rfl (sr))
  refine nx 8 rfl ?_
  obtain ⟨o42, h1, hL0, hR0⟩ := eH h0
  refine kEx 0 (fun v43 : Unit => o42 = .inl v43) (fun v43 => ⟨[(2, .ptr 2 0), (3, .ptr 3 0)], [(2, (ag.cs a_0).map .p), (3, (ag.cs b_1).map .p)]⟩) (fun v43 hv => ?_) ?_
  ·have h0 := hL0 _ hv
   refine nx 7 rfl ?_
   obtain ⟨o44, h1, hL0, hR0⟩ := eH h0
   refine kEx 2 (fun v45 : Unit => o44 = .inl v45) (fun v45 => ⟨[], []⟩) (fun v45 hv => ?_) ?_
   ·have h0 := hL0 _ hv
    exact nx 6 rfl (mQ (oi h0) rfl (sr))
   refine lG (fun (q46 : Int) => ⟨[(2, .ptr 2 0), (3, .ptr 3 0), (6, .p (eI q46))], [(2, (ag.cs a_0).map .p), (3, (ag.cs b_1).map .p)]⟩) (fun m (q46 : Int) => d6 (eq n) a_0 b_1 m q46) (fun _ => rfl) 0 h1 (gE rfl rfl) ?_
   rintro m i28 h1
   replace h1 : d6 (eq n) a_0 b_1 (m + 1) i28 = some o44 := h1
   rw [d6] at h1
   refine nx 6 rfl (oLl (f := aQ) rfl rfl ?_)
   refine nx 2 rfl (fD [66] h1 rfl (fun c29 h1 => ?_) fun c29 h1 => ?_)
   ·refine nx 5 rfl (cc' h1 fun hk30 h1 => ?_)
    refine cc' h1 fun hk31 h1 => bd h1 fun r32 e33 h1 => mD [(2, .ptr 2 0), (3, .ptr 3 0), (6, .p (eI i28))] rfl ⟨rfl, rfl, rfl, trivial⟩ rfl (dR 3 rfl ?_)
    refine dq (.rptr (ag.cs (lat a_0.fItems i28))) [70,71] rfl (fun _ e _ q => ae rfl (ce (f := aQ) (l := a_0.fItems) ag.cs rfl rfl rfl rfl rfl rfl (e _ _ rfl) rfl (e _ _ rfl) hk30 ag.cells_eq (fun _ => rfl) q)) rfl (dR 4 rfl ?_)
    refine dq (.rptr (ag.cs (lat b_1.fItems i28))) [75,76] rfl (fun _ e _ q => ae rfl (ce (f := aQ) (l := b_1.fItems) ag.cs rfl rfl rfl rfl rfl rfl (e _ _ rfl) rfl (e _ _ rfl) hk31 ag.cells_eq (fun _ => rfl) q)) rfl (dR 1 rfl ?_)
    refine dq (.p (eB r32)) [73,78] rfl (fun _ e _ q => ae rfl (bj (ih_ref07_Equal_ok (lat a_0.fItems i28) (lat b_1.fItems i28) _ e33) rfl rfl rfl (ay (e _ _ rfl) (ay (e _ _ rfl) bm)) ⟨sr, sr, trivial⟩ Tryz.call45 rfl q)) rfl (dR 1 rfl ?_)
    refine dE rfl (nx 1 rfl ?_)
    refine fB [80] h1 rfl (fun c34 h1 => ?_) fun c34 h1 => ?_
    ·exact nx 6 rfl (mQ (hR0 _ (oi h1).symm) rfl (sr))
    refine nx 4 rfl (oA h1 rfl rfl fun hk35 h1 => ?_)
    exact nx 2 rfl (eX (i28 + 1) h1 (gE rfl rfl))
   exact nx 2 rfl (eXi _ (oi h1).symm (gE rfl rfl))
  refine lG (fun (q47 : Int) => ⟨[(2, .ptr 2 0), (3, .ptr 3 0), (5, .p (eI q47))], [(2, (ag.cs a_0).map .p), (3, (ag.cs b_1).map .p)]⟩) (fun m (q47 : Int) => dZ a_0 b_1 m q47) (fun _ => rfl) 0 h1 (gE rfl rfl) ?_
  rintro m i13 h1
  replace h1 : dZ a_0 b_1 (m + 1) i13 = some o42 := h1
  rw [dZ] at h1
  refine nx 6 rfl (oLl (f := eS) rfl rfl ?_)
  refine nx 2 rfl (fD [48] h1 rfl (fun c14 h1 => ?_) fun c14 h1 => ?_)
  ·refine nx 5 rfl (cc' h1 fun hk15 h1 => ?_)
   refine cc' h1 fun hk16 h1 => mD [(2, .ptr 2 0), (3, .ptr 3 0), (5, .p (eI i13))] rfl ⟨rfl, rfl, rfl, trivial⟩ rfl (dR 3 rfl ?_)
   refine dq (.rptr [eS (lat a_0.fKeys i13)]) [52,53] rfl (fun _ e _ q => ae rfl (ce (f := eS) (l := a_0.fKeys) (fun x => [eS x]) rfl rfl rfl rfl rfl rfl (e _ _ rfl) rfl (e _ _ rfl) hk15 (fun _ => rfl) (fun _ => rfl) q)) rfl (dR 4 rfl ?_)
   refine dq (.rptr [eS (lat b_1.fKeys i13)]) [57,58] rfl (fun _ e _ q => ae rfl (ce (f := eS) (l := b_1.fKeys) (fun x => [eS x]) rfl rfl rfl rfl rfl rfl (e _ _ rfl) rfl (e _ _ rfl) hk16 (fun _ => rfl) (fun _ => rfl) q)) rfl (dR 1 rfl ?_)
   refine dq (.p (eB (!decide (lat a_0.fKeys i13 = lat b_1.fKeys i13)))) [55,60] rfl (fun _ e _ q => ae rfl (cE rfl rfl rfl (e _ _ rfl) (e _ _ rfl) rfl q)) rfl (dE rfl ?_)
   refine nx 1 rfl (fN [61] h1 rfl (fun c17 h1 => ?_) fun c17 h1 => ?_)
   ·refine nx 4 rfl (oA h1 rfl rfl fun hk18 h1 => ?_)
    exact nx 2 rfl (eX (i13 + 1) h1 (gE rfl rfl))
   exact nx 6 rfl (mQ (hR0 _ (oi h1).symm) rfl (sr))
  exact nx 2 rfl (eXi _ (oi h1).symm (gE rfl rfl))
 refine nx 7 rfl (fN [11, 12] h1 rfl (fun c1 h1 => ?_) fun c1 h1 => ?_)
 ·refine nx 7 rfl (fN [17, 18, 19] h1 rfl (fun c2 h1 => ?_) fun c2 h1 => ?_)
  ·refine nx 4 rfl (oS rfl rfl ?_)
   refine nx 2 rfl (fN [24, 25, 26] h1 rfl (fun c3 h1 => ?_) fun c3 h1 => ?_)
   ·refine nx 2 rfl (oLl (f := aQ) rfl rfl ?_)
    refine nx 2 rfl (oLl (f := aQ) rfl rfl ?_)
    refine nx 3 rfl (fN [33, 34, 35] h1 rfl (fun c4 h1 => ?_) fun c4 h1 => ?_)
    ·refine nx 2 rfl (oLl (f := eS) rfl rfl ?_)
     refine nx 2 rfl (oLl (f := eS) rfl rfl ?_)
     exact nx 3 rfl (eX _ (oi h1).symm (gE rfl rfl))
    exact nx 9 rfl (eX _ (oi h1).symm (gE rfl rfl))
   exact nx 18 rfl (eX _ (oi h1).symm (gE rfl rfl))
  exact nx 25 rfl (eX _ (oi h1).symm (gE rfl rfl))
 exact nx 32 rfl (eX _ (oi h1).symm (gE rfl rfl))
def ef (a_0 : List Bytes) (b_1 : List Bytes) : Nat → Int → Option (Unit ⊕ Bool)
 | 0, _ => none
 | m + 1, i8 =>
 if i8 < (a_0.length : Int) then
  ck ((0 : Int) ≤ i8 ∧ i8 < (a_0.length : Int)) <|
  ck ((0 : Int) ≤ i8 ∧ i8 < (b_1.length : Int)) <|
  if lat a_0 i8 = lat b_1 i8 then
   ck (inR (i8 + 1)) <|
   ef a_0 b_1 m (i8 + 1)
  else
   some (.inr false)
 else
  some (.inl ())
def ix (n : Nat) (a_0 : List Bytes) (b_1 : List Bytes) : Option Bool :=
 if (a_0.length : Int) = (b_1.length : Int) then
  jn (ef a_0 b_1 n 0) fun q15 =>
  some true
 else
  some false
set_option maxHeartbeats 4000000 in
theorem lc (n : Nat) (a_0 : List Bytes) (b_1 : List Bytes) (r : Bool) (h0 : ix n a_0 b_1 = some r) : aF Tryz.prog 46 [eL eS a_0, eL eS b_1] (· = .p (eB r)) := by
 unfold ix at h0
 refine bG good Tryz.func46 rfl rfl rfl fun w0 => mP (fun v : Bool => .p (eB v)) ?_
 refine nx 8 rfl (oLl (f := eS) rfl rfl ?_)
 refine nx 1 rfl (oLl (f := eS) rfl rfl ?_)
 refine nx 2 rfl (fN [10] h0 rfl (fun c1 h0 => ?_) fun c1 h0 => ?_)
 ·refine nx 8 rfl ?_
  obtain ⟨o16, h1, hL0, hR0⟩ := eH h0
  refine kEx 0 (fun v17 : Unit => o16 = .inl v17) (fun v17 => ⟨[], []⟩) (fun v17 hv => ?_) ?_
  ·have h0 := hL0 _ hv
   exact nx 6 rfl (mQ (oi h0) rfl (sr))
  refine lG (fun (q18 : Int) => ⟨[(0, .p (eL eS a_0)), (1, .p (eL eS b_1)), (5, .p (eI q18))], []⟩) (fun m (q18 : Int) => ef a_0 b_1 m q18) (fun _ => rfl) 0 h1 (gE rfl rfl) ?_
  rintro m i8 h1
  replace h1 : ef a_0 b_1 (m + 1) i8 = some o16 := h1
  rw [ef] at h1
  refine nx 5 rfl (oLl (f := eS) rfl rfl ?_)
  refine nx 2 rfl (fD [14] h1 rfl (fun c9 h1 => ?_) fun c9 h1 => ?_)
  ·refine nx 5 rfl (cc' h1 fun hk10 h1 => ?_)
   refine cc' h1 fun hk11 h1 => mD [(0, .p (eL eS a_0)), (1, .p (eL eS b_1)), (5, .p (eI i8))] rfl ⟨rfl, rfl, rfl, trivial⟩ rfl (dR 2 rfl ?_)
   refine dq (.rptr [eS (lat a_0 i8)]) [17,18] rfl (fun _ e _ q => ae rfl (ce (f := eS) (l := a_0) (fun x => [eS x]) rfl rfl rfl rfl rfl rfl (e _ _ rfl) rfl (e _ _ rfl) hk10 (fun _ => rfl) (fun _ => rfl) q)) rfl (dR 3 rfl ?_)
   refine dq (.rptr [eS (lat b_1 i8)]) [21,22] rfl (fun _ e _ q => ae rfl (ce (f := eS) (l := b_1) (fun x => [eS x]) rfl rfl rfl rfl rfl rfl (e _ _ rfl) rfl (e _ _ rfl) hk11 (fun _ => rfl) (fun _ => rfl) q)) rfl (dR 1 rfl ?_)
   refine dq (.p (eB (!decide (lat a_0 i8 = lat b_1 i8)))) [20,24] rfl (fun _ e _ q => ae rfl (cE rfl rfl rfl (e _ _ rfl) (e _ _ rfl) rfl q)) rfl (dE rfl ?_)
   refine nx 1 rfl (fN [25] h1 rfl (fun c12 h1 => ?_) fun c12 h1 => ?_)
   ·refine nx 4 rfl (oA h1 rfl rfl fun hk13 h1 => ?_)
    exact nx 2 rfl (eX (i8 + 1) h1 (gE rfl rfl))
   exact nx 6 rfl (mQ (hR0 _ (oi h1).symm) rfl (sr))
  exact nx 2 rfl (eXi _ (oi h1).symm (gE rfl rfl))
 exact nx 6 rfl (mQ (oi h0) rfl (sr))
def jF (n : Nat) (a_0 : aa) (b_1 : aa) : Option Bool :=
 (
   if a_0.fAddr = b_1.fAddr then
    if a_0.fDeposed = b_1.fDeposed then
     if a_0.fType = b_1.fType then
      if a_0.fAction = b_1.fAction then
       if a_0.fReason = b_1.fReason then
        (eq n a_0.fBefore b_1.fBefore).bind fun r6 =>
        if r6 = true then
         (eq n a_0.fAfter b_1.fAfter).bind fun r9 =>
         if r9 = true then
          if a_0.fID = b_1.fID then
           (ix n a_0.fReplace b_1.fReplace).bind fun r13 =>
           if r13 = true then
            if (a_0.fCreateFirst == b_1.fCreateFirst) = true then
             if (a_0.fProtect == b_1.fProtect) = true then
              if (a_0.fImport == b_1.fImport) = true then
               (ix n a_0.fDeps b_1.fDeps).bind fun r19 =>
               if r19 = true then
                (ix n a_0.fOldDeps b_1.fOldDeps).bind fun r22 =>
                some r22
               else
                some false
              else
               some false
             else
              some false
            else
             some false
           else
            some false
          else
           some false
         else
          some false
        else
         some false
       else
        some false
      else
       some false
     else
      some false
    else
     some false
   else
    some false
  : Option Bool).bind fun t24 =>
 some t24
set_option maxHeartbeats 4000000 in
theorem mJ (n : Nat) (a_0 : aa) (b_1 : aa) (r : Bool) (h0 : jF n a_0 b_1 = some r) : aF Tryz.prog 27 [.agg (aa.cs a_0), .agg (aa.cs b_1)] (· = .p (eB r)) := by
 unfold jF at h0
 refine bG good Tryz.func27 rfl rfl rfl fun w0 => mP (fun v : Bool => .p (eB v)) ?_
 refine nx 7 rfl (bd h0 fun o26 h1 h0 => ?_)
 refine kN o26 (fun v27 => ⟨[(4, .p (eB v27))], []⟩) ?_ ?_
 ·exact nx 2 rfl (mQ (oi h0) rfl (sr))
 refine nx 5 rfl (oS rfl rfl ?_)
 refine nx 1 rfl (fD [9, 10] h1 rfl (fun c1 h1 => ?_) fun c1 h1 => ?_)
 ·refine nx 4 rfl (oS rfl rfl ?_)
  refine nx 2 rfl (fD [15, 16, 17] h1 rfl (fun c2 h1 => ?_) fun c2 h1 => ?_)
  ·refine nx 4 rfl (oS rfl rfl ?_)
   refine nx 2 rfl (fD [22, 23, 24] h1 rfl (fun c3 h1 => ?_) fun c3 h1 => ?_)
   ·refine nx 7 rfl (fD [29, 30, 31] h1 rfl (fun c4 h1 => ?_) fun c4 h1 => ?_)
    ·refine nx 7 rfl (fD [36, 37, 38] h1 rfl (fun c5 h1 => ?_) fun c5 h1 => ?_)
     ·refine nx 4 rfl (bd h1 fun r6 e7 h1 => ?_)
      refine oK (mL _ a_0.fBefore b_1.fBefore _ e7) rfl ⟨sr, sr, trivial⟩ Tryz.call45 rfl (nx 2 rfl ?_)
      refine fB [43, 44, 45] h1 rfl (fun c8 h1 => ?_) fun c8 h1 => ?_
      ·refine nx 4 rfl (bd h1 fun r9 e10 h1 => ?_)
       refine oK (mL _ a_0.fAfter b_1.fAfter _ e10) rfl ⟨sr, sr, trivial⟩ Tryz.call45 rfl (nx 2 rfl ?_)
       refine fB [50, 51, 52] h1 rfl (fun c11 h1 => ?_) fun c11 h1 => ?_
       ·refine nx 4 rfl (oS rfl rfl ?_)
        refine nx 2 rfl (fD [57, 58, 59] h1 rfl (fun c12 h1 => ?_) fun c12 h1 => ?_)
        ·refine nx 4 rfl (bd h1 fun r13 e14 h1 => ?_)
         refine oK (lc _ a_0.fReplace b_1.fReplace _ e14) rfl ⟨sr, sr, trivial⟩ Tryz.call46 rfl (nx 2 rfl ?_)
         refine fB [64, 65, 66] h1 rfl (fun c15 h1 => ?_) fun c15 h1 => ?_
         ·refine nx 7 rfl (fB [71, 72, 73] h1 rfl (fun c16 h1 => ?_) fun c16 h1 => ?_)
          ·refine nx 7 rfl (fB [78, 79, 80] h1 rfl (fun c17 h1 => ?_) fun c17 h1 => ?_)
           ·refine nx 7 rfl (fB [85, 86, 87] h1 rfl (fun c18 h1 => ?_) fun c18 h1 => ?_)
            ·refine nx 4 rfl (bd h1 fun r19 e20 h1 => ?_)
             refine oK (lc _ a_0.fDeps b_1.fDeps _ e20) rfl ⟨sr, sr, trivial⟩ Tryz.call46 rfl (nx 2 rfl ?_)
             refine fB [92, 93, 94] h1 rfl (fun c21 h1 => ?_) fun c21 h1 => ?_
             ·refine nx 4 rfl (bd h1 fun r22 e23 h1 => ?_)
              refine oK (lc _ a_0.fOldDeps b_1.fOldDeps _ e23) rfl ⟨sr, sr, trivial⟩ Tryz.call46 rfl (nx 3 rfl ?_)
              exact eX _ (oi h1).symm (gE rfl rfl)
             exact nx 8 rfl (eX _ (oi h1).symm (gE rfl rfl))
            exact nx 15 rfl (eX _ (oi h1).symm (gE rfl rfl))
           exact nx 22 rfl (eX _ (oi h1).symm (gE rfl rfl))
          exact nx 29 rfl (eX _ (oi h1).symm (gE rfl rfl))
         exact nx 36 rfl (eX _ (oi h1).symm (gE rfl rfl))
        exact nx 43 rfl (eX _ (oi h1).symm (gE rfl rfl))
       exact nx 50 rfl (eX _ (oi h1).symm (gE rfl rfl))
      exact nx 57 rfl (eX _ (oi h1).symm (gE rfl rfl))
     exact nx 64 rfl (eX _ (oi h1).symm (gE rfl rfl))
    exact nx 71 rfl (eX _ (oi h1).symm (gE rfl rfl))
   exact nx 78 rfl (eX _ (oi h1).symm (gE rfl rfl))
  exact nx 85 rfl (eX _ (oi h1).symm (gE rfl rfl))
 exact nx 92 rfl (eX _ (oi h1).symm (gE rfl rfl))
def gK (n : Nat) (c_0 : aa) : Option Bool :=
 (
   (jv n [] [c_0]).bind fun r1 =>
   if (!r1) = true then
    some true
   else
    (ff n c_0.fReplace 10).bind fun r4 =>
    if (!r4) = true then
     some true
    else
     (iH n c_0.fBefore 20).bind fun r7 =>
     if (!r7) = true then
      some true
     else
      (iH n c_0.fAfter 20).bind fun r10 =>
      some (!r10)
  : Option Bool).bind fun t12 =>
 if t12 = true then
  (dQ n).bind fun r14 =>
  some r14
 else
  (cq n [] [c_0]).bind fun r16 =>
  (
    if (r16.length : Int) = 1 then
     ck ((0 : Int) ≤ 0 ∧ 0 < (r16.length : Int)) <|
     (jF n (lat r16 0) c_0).bind fun r20 =>
     if r20 = true then
      (dQ n).bind fun r23 =>
      some r23
     else
      some false
    else
     some false
   : Option Bool).bind fun t25 =>
  some t25
set_option maxHeartbeats 4000000 in
theorem mW (n : Nat) (c_0 : aa) (r : Bool) (h0 : gK n c_0 = some r) : aF Tryz.prog 9 [.agg (aa.cs c_0)] (· = .p (eB r)) := by
 unfold gK at h0
 refine bG good Tryz.func9 rfl rfl rfl fun w0 => mP (fun v : Bool => .p (eB v)) ?_
 refine nx 7 rfl (bd h0 fun o28 h1 h0 => ?_)
 refine kN o28 (fun v29 => ⟨[(1, .ptr 1 0), (25, .p (eB v29))], [(1, (aa.cs c_0).map .p)]⟩) ?_ ?_
 ·refine nx 1 rfl (fB [25] h0 rfl (fun c13 h0 => ?_) fun c13 h0 => ?_)
  ·refine nx 3 rfl (bd h0 fun r14 e15 h0 => ?_)
   refine oK (f0 _  _ e15) rfl trivial Tryz.call13 rfl (nx 3 rfl ?_)
   exact mQ (oi h0) rfl (sr)
  refine nx 5 rfl (mO rfl (bN ac [c_0] rfl rfl rfl rfl rfl rfl rfl rfl rfl rfl rfl rfl rfl (by first | rfl | (simp only [List.map_cons, List.map_nil, aa.agg_eq]; done) | (simp only [List.map_cons, List.map_nil, aa.agg_eq]; rfl)) ?_))
  refine bd h0 fun r16 e17 h0 => oK (dP _ [] [c_0] _ e17) rfl ⟨eO _, sr, trivial⟩ Tryz.call23 rfl (nx 3 rfl ?_)
  refine bd h0 fun o30 h1 h0 => kN o30 (fun v31 => ⟨[(2, .p (eB v31))], []⟩) ?_ ?_
  ·exact nx 2 rfl (mQ (oi h0) rfl (sr))
  refine fD (p := (r16.length : Int) = 1) [] h1 rfl (fun c18 h1 => ?_) fun c18 h1 => ?_
  ·refine cc' h1 fun hk19 h1 => bd h1 fun r20 e21 h1 => fB (p := r20) [] h1 rfl (fun c22 h1 => ?_) fun c22 h1 => ?_
   ·refine bd h1 fun r23 e24 h1 => mD [(1, .ptr 1 0), (3, .p (eL ac r16))] rfl ⟨rfl, rfl, trivial⟩ rfl (dR 1 rfl ?_)
    refine dq (.p (eI (r16.length : Int))) [30] rfl (fun _ e _ q => ae rfl (jw (f := ac) (l := r16) rfl rfl rfl rfl rfl (e _ _ rfl) rfl q)) rfl (dL (dt c18) rfl ?_)
    refine dR 2 rfl (dq (.rptr (aa.cs (lat r16 0))) [33,34] rfl (fun _ e _ q => aZ (ce (f := ac) (l := r16) aa.cs rfl rfl rfl rfl rfl rfl (e _ _ rfl) rfl rfl hk19 aa.cells_eq (fun _ => rfl) q) rfl rfl (e _ _ rfl) (rfl)) rfl ?_)
    refine dR 2 rfl (dq (.p (eB r20)) [33,36,37] rfl (fun _ e _ q => aZ (bj (mJ _ (lat r16 0) c_0 _ e21) rfl rfl rfl (ay (e _ _ rfl) (ay (e _ _ rfl) bm)) ⟨sr, sr, trivial⟩ Tryz.call27 rfl q) rfl rfl (e _ _ rfl) (rfl)) rfl ?_)
    refine dL (c22) rfl (dR 1 rfl ?_)
    refine dq (.p (eB r23)) [40] rfl (fun _ e _ q => aZ (bj (f0 _  _ e24) rfl rfl rfl bm trivial Tryz.call13 rfl q) rfl rfl (e _ _ rfl) (rfl)) rfl (dR 2 rfl ?_)
    refine dE rfl (nx 1 rfl ?_)
    exact eX _ (oi h1).symm (gE rfl rfl)
   refine mD [(1, .ptr 1 0), (3, .p (eL ac r16))] rfl ⟨rfl, rfl, trivial⟩ rfl (dR 1 rfl ?_)
   refine dq (.p (eI (r16.length : Int))) [30] rfl (fun _ e _ q => ae rfl (jw (f := ac) (l := r16) rfl rfl rfl rfl rfl (e _ _ rfl) rfl q)) rfl (dL (dt c18) rfl ?_)
   refine dR 2 rfl (dq (.rptr (aa.cs (lat r16 0))) [33,34] rfl (fun _ e _ q => aZ (ce (f := ac) (l := r16) aa.cs rfl rfl rfl rfl rfl rfl (e _ _ rfl) rfl rfl hk19 aa.cells_eq (fun _ => rfl) q) rfl rfl (e _ _ rfl) (rfl)) rfl ?_)
   refine dR 2 rfl (dq (.p (eB r20)) [33,36,37] rfl (fun _ e _ q => aZ (bj (mJ _ (lat r16 0) c_0 _ e21) rfl rfl rfl (ay (e _ _ rfl) (ay (e _ _ rfl) bm)) ⟨sr, sr, trivial⟩ Tryz.call27 rfl q) rfl rfl (e _ _ rfl) (rfl)) rfl ?_)
   refine dL (c22) rfl (dR 4 rfl ?_)
   refine dE rfl (nx 1 rfl ?_)
   exact eX _ (oi h1).symm (gE rfl rfl)
  refine mD [(1, .ptr 1 0), (3, .p (eL ac r16))] rfl ⟨rfl, rfl, trivial⟩ rfl (dR 1 rfl ?_)
  refine dq (.p (eI (r16.length : Int))) [30] rfl (fun _ e _ q => ae rfl (jw (f := ac) (l := r16) rfl rfl rfl rfl rfl (e _ _ rfl) rfl q)) rfl (dL (df c18) rfl ?_)
  refine dR 11 rfl (dE rfl ?_)
  exact nx 1 rfl (eX _ (oi h1).symm (gE rfl rfl))
 refine nx 2 rfl (mO rfl (bN ac [c_0] rfl rfl rfl rfl rfl rfl rfl rfl rfl rfl rfl rfl rfl (by first | rfl | (simp only [List.map_cons, List.map_nil, aa.agg_eq]; done) | (simp only [List.map_cons, List.map_nil, aa.agg_eq]; rfl)) ?_))
 refine bd h1 fun r1 e2 h1 => oK (lR _ [] [c_0] _ e2) rfl ⟨eO _, sr, trivial⟩ Tryz.call14 rfl (nx 2 rfl ?_)
 refine fB [7, 8] h1 rfl (fun c3 h1 => ?_) fun c3 h1 => ?_
 ·exact nx 18 rfl (eX _ (oi h1).symm (gE rfl rfl))
 refine nx 2 rfl (bd h1 fun r4 e5 h1 => ?_)
 refine oK (ge _ c_0.fReplace 10 _ e5) rfl ⟨sr, sr, trivial⟩ Tryz.call10 rfl (nx 3 rfl ?_)
 refine fB [12, 13, 14] h1 rfl (fun c6 h1 => ?_) fun c6 h1 => ?_
 ·exact nx 12 rfl (eX _ (oi h1).symm (gE rfl rfl))
 refine nx 2 rfl (bd h1 fun r7 e8 h1 => ?_)
 refine oK (nc _ c_0.fBefore 20 _ e8) rfl ⟨sr, sr, trivial⟩ Tryz.call26 rfl (nx 3 rfl ?_)
 refine fB [18, 19, 20] h1 rfl (fun c9 h1 => ?_) fun c9 h1 => ?_
 ·exact nx 6 rfl (eX _ (oi h1).symm (gE rfl rfl))
 refine nx 2 rfl (bd h1 fun r10 e11 h1 => ?_)
 refine oK (nc _ c_0.fAfter 20 _ e11) rfl ⟨sr, sr, trivial⟩ Tryz.call26 rfl (nx 3 rfl ?_)
 exact eX _ (oi h1).symm (gE rfl rfl)
end Go.Ab.R06
end
section
set_option linter.unusedVariables false
set_option linter.unusedSimpArgs false
set_option linter.unnecessarySimpa false
namespace Go.Ab.R06
open Go.Proofs Go.Ab Go.Ab.RB
theorem _root_.Go.Ab.aa.Bd.lens {c : aa} (h : aa.Bd c) : c.fAddr.length ≤ cg ∧ c.fDeps.length ≤ cg ∧ c.fOldDeps.length ≤ cg ∧ c.fReplace.length ≤ cg := by
 have h1 := h.bDeps; have h2 := h.bOldDeps; have h3 := h.bReplace
 exact ⟨h.bAddr, by omega, by omega, by omega⟩
theorem yP (v : ag) (hb : ag.Bd v) : ∀ (k i : Nat), i + k = v.fKeys.length → Ev2 (fun _ m => dZ v v m (i : Int)) (· = .inl ()) := by
 have hW := rD
 have h1 := hb.bKeys
 intro k
 induction k with
 | zero =>
  intro i hi
  refine ax ?_
  simp only [dZ]
  exact aC (by omega) (ab rfl)
 | succ k ih =>
  intro i hi
  refine ax ?_
  simp only [dZ]
  refine av (by omega) (am (by omega) (am (by omega) (av (by trivial) (am (br (by omega) (by omega)) ?_))))
  have := ih (i + 1) (by omega)
  rw [Int.natCast_add, Int.natCast_one] at this
  exact this
theorem ua : ∀ (N : Nat) (v : ag), SizeOf.sizeOf v < N → ag.Bd v → Ev2 (fun n _ => eq n v v) (· = true) := by
 have hW := rD
 intro N
 induction N with
 | zero => intro v h; omega
 | succ N ih =>
  intro v hv hb
  have h1 := hb.bKeys; have h2 := hb.bItems
  refine o7 ?_
  simp only [eq]
  refine bu false (av (by trivial) (av (by trivial) (av (by trivial) (av (by trivial) (ab (by simp)))))) (aC (by simp) ?_)
  refine gJ () (a7 (f := fun _ m => dZ v v m 0) (yP v hb _ 0 (Nat.zero_add _))) ?_
  have loop : ∀ (k i : Nat), i + k = v.fItems.length → Ev2 (fun n m => d6 (eq n) v v m (i : Int)) (· = .inl ()) := by
   intro k
   induction k with
   | zero =>
    intro i hi
    refine ax ?_
    simp only [d6]
    exact aC (by omega) (ab rfl)
   | succ k ihk =>
    intro i hi
    have hil : i < v.fItems.length := by omega
    refine ax ?_
    simp only [d6]
    refine av (by omega) (am (by omega) (am (by omega) ?_))
    rw [bS _ _ hil]
    have hmem := List.getElem_mem hil
    refine bu true (ih _ (by have := ti hmem; omega) (hb.eItems _ hmem)) (aC (by simp) (am (br (by omega) (by omega)) ?_))
    have := ihk (i + 1) (by omega)
    rw [Int.natCast_add, Int.natCast_one] at this
    exact this
  exact gJ () (a7 (f := fun n m => d6 (eq n) v v m 0) (loop _ 0 (Nat.zero_add _))) (ab rfl)
theorem AG (a : List Bytes) (hb : a.length ≤ cg) : ∀ (k i : Nat), i + k = a.length → Ev2 (fun _ m => ef a a m (i : Int)) (· = .inl ()) := by
 have hW := rD
 intro k
 induction k with
 | zero =>
  intro i hi
  refine ax ?_
  simp only [ef]
  exact aC (by omega) (ab rfl)
 | succ k ih =>
  intro i hi
  refine ax ?_
  simp only [ef]
  refine av (by omega) (am (by omega) (am (by omega) (av (by trivial) (am (br (by omega) (by omega)) ?_))))
  have := ih (i + 1) (by omega)
  rw [Int.natCast_add, Int.natCast_one] at this
  exact this
theorem rN (a : List Bytes) (hb : a.length ≤ cg) : Ev2 (fun n _ => ix n a a) (· = true) := by
 simp only [ix]
 exact av (by trivial) (gJ () (a7 (f := fun _ m => ef a a m 0) (AG a hb _ 0 (Nat.zero_add _))) (ab rfl))
theorem xO (c : aa) (hb : aa.Bd c) : Ev2 (fun n _ => jF n c c) (· = true) := by
 simp only [jF]
 obtain ⟨h1, h2, h3, h4⟩ := hb.lens
 refine bu true ?_ (ab rfl)
 refine av (by trivial) (av (by trivial) (av (by trivial) (av (by trivial) (av (by trivial) ?_))))
 refine bu true (ua _ _ (Nat.lt_succ_self _) hb.bBefore) (av rfl (bu true (ua _ _ (Nat.lt_succ_self _) hb.bAfter) (av rfl (av (by trivial) (bu true (rN _ h4) (av rfl ?_))))))
 exact av (by simp) (av (by simp) (av (by simp) (bu true (rN _ h2) (av rfl (bu true (rN _ h3) (ab rfl))))))
theorem zK : ∀ (N : Nat) (v : ag), SizeOf.sizeOf v < N → ag.Bd v → ∀ (nodes levels : Int), -1 ≤ nodes → nodes ≤ 300 → -1000 ≤ levels → levels ≤ 1000 → Ev2 (fun n _ => fU n v nodes levels) (fun r => -1 ≤ r ∧ r ≤ 300 ∧ (0 ≤ r → r ≤ nodes ∧ Ev2 (fun n _ => fS n v) (fun q => 0 ≤ q ∧ q ≤ (nodes - r) * 140737488351232))) := by
 have hW : cg = 140737488351232 := rfl
 intro N
 induction N with
 | zero => intro v h; omega
 | succ N ih =>
  intro v hv hb nodes levels n1 n2 l1 l2
  have h1 := hb.bKeys; have h2 := hb.bItems
  refine o7 ?_
  simp only [fU]
  refine bQ (fun r => r = false → 1 ≤ nodes ∧ 1 ≤ levels) (aN (fun _ => ab (fun h => by cases h)) (fun h => ab (fun h3 => by rw [decide_eq_false_iff_not] at h3; omega))) (fun x hx => ?_)
  cases x
  ·obtain ⟨g1, g2⟩ := hx rfl
   refine aC (by decide) (am (br (by omega) (by omega)) ?_)
   have loop : ∀ (k i : Nat) (n15 : Int), i + k = v.fItems.length → -1 ≤ n15 → n15 ≤ 300 → Ev2 (fun n m => ei (fU n) v levels m n15 (i : Int)) (fun r => -1 ≤ r ∧ r ≤ 300 ∧ (0 ≤ r → r ≤ n15 ∧ ∀ a : Int, 0 ≤ a → a ≤ (1000 - n15) * 140737488351232 → Ev2 (fun n m => ek (fS n) v m a (i : Int)) (fun q => a ≤ q ∧ q ≤ a + (n15 - r) * 140737488351232))) := by
    intro k
    induction k with
    | zero =>
     intro i n15 hi k1 k2
     refine ax ?_
     simp only [ei]
     refine bu false (aC (by omega) (ab rfl)) (aC (by decide) (ab ⟨k1, k2, fun h => ⟨by omega, fun a a1 a2 => ?_⟩⟩))
     refine ax ?_
     simp only [ek]
     exact aC (by omega) (ab ⟨by omega, by omega⟩)
    | succ k ihk =>
     intro i n15 hi k1 k2
     have hil : i < v.fItems.length := by omega
     have hmem := List.getElem_mem hil
     refine ax ?_
     simp only [ei]
     refine bu (decide (0 ≤ n15)) (av (by omega) (ab rfl)) ?_
     by_cases hn : 0 ≤ n15
     ·rw [decide_eq_true hn]
      refine av rfl (am (by omega) (am (br (by omega) (by omega)) ?_))
      rw [bS _ _ hil]
      refine bQ _ (ih v.fItems[i] (by have := ti hmem; omega) (hb.eItems _ hmem) n15 (levels - 1) k1 k2 (by omega) (by omega)) (fun r22 hr => am (br (by omega) (by omega)) ?_)
      have := ihk (i + 1) r22 (by omega) hr.1 hr.2.1
      rw [Int.natCast_add, Int.natCast_one] at this
      refine dM this fun r hr2 => ⟨hr2.1, hr2.2.1, fun h0 => ?_⟩
      have h3 := hr2.2.2 h0
      have h4 := hr.2.2 (by omega)
      refine ⟨by omega, fun a a1 a2 => ?_⟩
      refine ax ?_
      simp only [ek]
      refine av (by omega) (am (by omega) ?_)
      rw [bS _ _ hil]
      refine bQ _ h4.2 (fun q hq => am (br (by omega) (by omega)) (am (br (by omega) (by omega)) ?_))
      exact dM (h3.2 (a + q) (by omega) (by omega)) fun z hz => ⟨by omega, by omega⟩
     ·rw [decide_eq_false hn]
      exact aC (by decide) (ab ⟨k1, k2, fun h => absurd h hn⟩)
   refine bQ _ (a7 (f := fun n m => ei (fU n) v levels m (nodes - 1) 0) (loop _ 0 (nodes - 1) (Nat.zero_add _) (by omega) (by omega))) (fun r hr => ab ⟨hr.1, hr.2.1, fun h0 => ?_⟩)
   have h3 := hr.2.2 h0
   refine ⟨by omega, o7 ?_⟩
   simp only [fS]
   refine bQ _ (a7 (f := fun n m => ek (fS n) v m (v.fKeys.length : Int) 0) (h3.2 (v.fKeys.length : Int) (by omega) (by omega))) (fun q hq => ab ⟨by omega, by omega⟩)
  ·exact av rfl (ab ⟨by omega, by omega, fun h => by omega⟩)
theorem uB (v : ag) (hb : ag.Bd v) : Ev2 (fun n _ => iH n v 20) (fun _ => True) := by
 simp only [iH]
 refine bQ (fun _ => True) ?_ (fun _ _ => ab trivial)
 refine bQ _ (zK _ v (Nat.lt_succ_self _) hb 20 40 (by omega) (by omega) (by omega) (by omega)) (fun r hr => ?_)
 exact aN (fun h => bQ _ (hr.2.2 h).2 (fun q hq => am (br (by omega) (by omega)) (ab trivial))) (fun _ => ab trivial)
theorem xp (c : aa) (hb : aa.Bd c) : Ev2 (fun n _ => gK n c) (· = true) := by
 obtain ⟨b1, b2, b3, b4⟩ := hb.lens
 have hB : ∀ x ∈ [c], aa.Bd x := fun x hx => by rw [List.mem_singleton.1 hx]; exact hb
 simp only [gK]
 refine bQ (fun r => r = false → c.fAddr.length ≤ 300) ?_ (fun r hr => ?_)
 ·refine bu _ (u7 [] [c] (by simp) hB) ?_
  cases hq : tv [] [c]
  ·exact av rfl (ab (fun h => by cases h))
  ·have hc : c.fAddr.length ≤ 300 := by
    unfold tv at hq
    rw [Bool.and_eq_true, List.all_eq_true] at hq
    have := hq.2 c (List.mem_singleton.2 rfl)
    unfold p8 at this
    rw [Bool.and_eq_true, Bool.and_eq_true, decide_eq_true_eq] at this
    exact this.1.1
   refine aC (by decide) (bu _ (lw c.fReplace 10 b4) (aN (fun _ => ab (fun h => by cases h)) (fun _ => ?_)))
   refine bQ _ (uB c.fBefore hb.bBefore) (fun x _ => aN (fun _ => ab (fun h => by cases h)) (fun _ => ?_))
   exact bQ _ (uB c.fAfter hb.bAfter) (fun y _ => ab (fun _ => hc))
 ·cases r
  ·have hc := hr rfl
   refine aC (by decide) (bu _ (ri [c] (by simp) hB (fun x hx => by rw [List.mem_singleton.1 hx]; exact hc)) (bu true ?_ (ab rfl)))
   refine av rfl (am ⟨by decide, by simp⟩ (bu true (xO c hb) (av rfl ?_)))
   exact bu _ li (ab rfl)
  ·exact av rfl (bu _ li (ab rfl))
theorem xc (qs : List PV) (h : WTa tt [47] qs) : aF Tryz.prog 9 qs (· = .p (.val (.bool true))) := by
 match qs, h with
 | [a], ⟨⟨n, h1, h2⟩, _⟩ =>
  obtain ⟨c, e1, bc⟩ := aa.dec n _ h1
  obtain rfl : a = .agg (aa.cs c) := by rw [h2, e1]; rfl
  obtain ⟨n, r, hr, rfl⟩ := vz (xp c bc)
  exact mW n c true hr
end Go.Ab.R06
end
section
set_option linter.unusedSimpArgs false
set_option linter.unnecessarySimpa false
namespace Go.Proofs.YtgdcfenbmcflkaaGreatDoor.targetWhole
open Go.ChangeShapes Go.WideShapes Go.ChangeAt Go.RowKit
set_option linter.unusedVariables false
theorem own : ownKnob Tryz.prog.godebug = none := by kernel_rfl
theorem laid : laidOutB Tryz.prog = true := by kernel_rfl
theorem mapped : mapsRowed Tryz.prog = true := by kernel_rfl
theorem full : ((List.range Tryz.prog.types.size).all fun t => match Tryz.prog.underlying t with | some (.slice e) => decide (0 < Tryz.prog.cellsOf e) | _ => true) = true := by kernel_rfl
theorem rowed : (([47] : List Nat).all fun t => decide (t < Tryz.prog.types.size)) = true := by kernel_rfl
theorem plain : ([47, 9, 40, 41, 45, 42, 3, 43, 22, 4] : List Nat).all (Go.Ab.jm Go.Ab.tt [47, 9, 40, 41, 45, 42, 3, 43, 22, 4]) = true := by kernel_rfl
theorem globs : Go.Ab.qJ Tryz.prog Rows.targetWholeRow.laid = true := by kernel_rfl
noncomputable def laidW0 (os : Os) : World :=
  { World.doorLaid Tryz.prog 72 os with heap := (World.doorLaid Tryz.prog 72 os).heap.modify 1 fun
      | .cells _ t frozen => .cells (Go.Ab.uq.map Go.Ab.GC.val).toArray t frozen
      | o => o }
noncomputable def laidW (os : Os) : World := laidW0 os
theorem laid_met (os : Os) : laidMetH Tryz.prog Rows.targetWholeRow.laid ((laidW os).forCall (fun _ _ => 0) ⟨#[], #[.agg #[.string ByteArray.empty, .string ByteArray.empty, .string ByteArray.empty, .int .i64 0, .int .i64 0, .int .i64 0, .int .i64 0, .string ByteArray.empty, .slice none 0 0, .slice none 0 0, .int .i64 0, .int .i64 0, .string ByteArray.empty, .slice none 0 0, .slice none 0 0, .string ByteArray.empty, .slice none 0 0, .bool false, .bool false, .bool false, .slice none 0 0, .slice none 0 0]], []⟩).memory :=
  laidMetH_of_parts3 (fuel := 8) (laidMet_of_run' 8 (by kernel_rfl) (by kernel_rfl)) (by kernel_rfl) (by kernel_rfl)
theorem reads (os : Os) {H : Type} (enc : TypeId × Value → H) : (DataW.whole enc Tryz.prog ((laidW os).forCall (fun _ _ => 0) ⟨#[], #[.agg #[.string ByteArray.empty, .string ByteArray.empty, .string ByteArray.empty, .int .i64 0, .int .i64 0, .int .i64 0, .int .i64 0, .string ByteArray.empty, .slice none 0 0, .slice none 0 0, .int .i64 0, .int .i64 0, .string ByteArray.empty, .slice none 0 0, .slice none 0 0, .string ByteArray.empty, .slice none 0 0, .bool false, .bool false, .bool false, .slice none 0 0, .slice none 0 0]], []⟩).memory Tryz.f9.params.toList Rows.targetWholeSpec.vars false #[.agg #[.string ByteArray.empty, .string ByteArray.empty, .string ByteArray.empty, .int .i64 0, .int .i64 0, .int .i64 0, .int .i64 0, .string ByteArray.empty, .slice none 0 0, .slice none 0 0, .int .i64 0, .int .i64 0, .string ByteArray.empty, .slice none 0 0, .slice none 0 0, .string ByteArray.empty, .slice none 0 0, .bool false, .bool false, .bool false, .slice none 0 0, .slice none 0 0]].toList 8).isSome = true := by kernel_rfl
set_option maxRecDepth 100000 in
theorem lifted (os : Os) (started : os.Started) (H : Type) (enc : TypeId × Value → H) (F : Stop.Interp) :
    ReturnsInHanded {} Tryz.checked os 9 .any ((OpenSpec.ofChange Rows.targetWholeSpec).preRow enc Tryz.prog Tryz.f9 Rows.targetWholeRow.domain false Rows.targetWholeRow.laid) (((OpenSpec.ofChange Rows.targetWholeSpec).at F).post enc Tryz.prog Tryz.f9 false true false false) := by
  obtain ⟨x, hx⟩ := Option.isSome_iff_exists.1 (reads os enc)
  refine returnsInHanded_of_row (C := Tryz.checked) (s := OpenSpec.ofChange Rows.targetWholeSpec) own started (by kernel_rfl) Tryz.func9
    (witness_row_atRef (enc := enc) (C := Tryz.checked) false (laidW os) #[.agg #[.string ByteArray.empty, .string ByteArray.empty, .string ByteArray.empty, .int .i64 0, .int .i64 0, .int .i64 0, .int .i64 0, .string ByteArray.empty, .slice none 0 0, .slice none 0 0, .int .i64 0, .int .i64 0, .string ByteArray.empty, .slice none 0 0, .slice none 0 0, .string ByteArray.empty, .slice none 0 0, .bool false, .bool false, .bool false, .slice none 0 0, .slice none 0 0]] rfl (by kernel_rfl) (by kernel_rfl) (by kernel_rfl)
      (OpenSpec.preRow_of_cond 8 hx rfl (fun k hk => by cases hk) (by kernel_rfl) (laid_met os))) ?_
  intro W base args ds gs before hval0 hW _ _ hsz0 hL hsh _
  rw [MakeChecks.laidMetH_plain _ _ _ (by kernel_rfl)] at hL
  have hgl := Go.Ab.tl globs hL hsh
  have hval : ∀ (j : Nat) t v, Tryz.f9.params[j]? = some t → args[j]? = some v → Value.okWide Tryz.prog W .any base t v := hval0
  have hW' := hW
  obtain ⟨p, q, hA0, hV, rfl, hfz, hnd⟩ := hW
  have hA : DataW.TrodAll enc Tryz.prog W 0 (fun _ => true) true Tryz.f9.params.toList args.toList ds p := hA0
  have hsz : (DataW.weightsEach Tryz.prog (Tryz.f9.params.toList ++ Rows.targetWholeSpec.plain.varTypes Tryz.prog) (ds ++ gs)).all (· ≤ reachBytes) = true := hsz0
  rw [Tryz.params9] at hA hval hsz
  obtain ⟨rfl, rfl⟩ := trodVars_none hV
  clear hA0 hval0 hV hsz0
  rw [List.append_nil] at hsz
  have hA2 : DataW.TrodAll enc Tryz.prog W 0 (fun _ => true) true [47] args.toList ds p := hA
  have hlt : ∀ x ∈ p, x.block < W.heap.size := fun x hx => hW'.lt x (List.mem_append_left _ hx)
  obtain ⟨qs, g1, g2, g3⟩ := Go.Ab.nf Go.Ab.good plain (by decide) (fun j t v hj hv => hval j t v (by simpa using hj) (by simpa using hv)) hA2 (fun w hw => of_decide_eq_true (List.all_eq_true.1 hsz w hw))
  have hds : ∃ d0, ds = [d0] := by
    obtain ⟨v0, vs0, d0, ds0, p0, q0, _, e0, _, _, r0⟩ := trodAll_cons hA2
    obtain ⟨_, z, _⟩ := trodAll_nil r0
    exact ⟨d0, by rw [e0, z]⟩
  obtain ⟨d0, rfl⟩ := hds
  refine (Go.Ab.grown_of (Go.Ab.R06.xc qs g3) W hgl (by simpa using g1.symm) (fun i c v hc hv => g2 i c v hc (by simpa using hv))).mono fun e W' ⟨he, hg⟩ => ?_
  subst he
  exact ⟨_, rfl, Go.Ab.pB (pa := p) (pv := []) hW' (fun _ _ _ => (trodAll_cons_mk (shut_bool Tryz.underlying4 _) trodAll_mk0)) (fun sp hsp => Go.Ab.pF laid mapped full hg rowed hlt hA2 sp (fun x hx => hsp x (List.mem_append_left _ hx))) (fun _ _ => rfl) rfl
    hg (ok_one (by kernel_rfl) rfl (okWide_bool_mk Tryz.underlying4 _))⟩
theorem said : Rows.TargetWholeSaid :=
  OpenClaim.holds_of_cond 9 Tryz.f9 rfl rfl rfl rfl rfl rfl rfl ⟨rfl, rfl, rfl, rfl, rfl⟩ rfl rfl rfl rfl rfl (by kernel_rfl) Tryz.func9 (by kernel_rfl)
    (of_decide_eq_true (by kernel_rfl)) (by unfold Func.isWrapper; first | (rw [if_pos (by decide +kernel)]; kernel_rfl) | (rw [if_neg (by decide +kernel)]; exact ⟨rfl, rfl⟩))
    (fun os started H enc _ F => by rw [OpenClaim.pre_eq_preRow]; exact lifted os started H enc F)
theorem plainly (f : FuncId) (fn : Func) (hf : Tryz.pinned.checked.prog.funcNamed "provision/provisionlaw42.TargetWhole" = some f) (hfn : Tryz.pinned.checked.prog.funcs[f]? = some fn) :
    true = Tryz.pinned.checked.prog.looks [] ∧ ∀ (j : Nat) t, fn.params[j]? = some t → Tryz.pinned.checked.prog.wantsStandIn t = false := by
  obtain rfl : f = 9 := Option.some.inj ((show Tryz.prog.funcNamed "provision/provisionlaw42.TargetWhole" = some 9 by kernel_rfl).symm.trans hf) |>.symm
  obtain rfl : fn = Tryz.f9 := (Option.some.inj (Tryz.func9.symm.trans hfn)).symm
  refine ⟨by kernel_rfl, fun j t ht => ?_⟩
  rw [Tryz.params9] at ht
  have hm : t ∈ ([47] : List Nat) := by have := Array.mem_of_getElem? ht; first | (simp at this ⊢; omega) | simpa using this
  have hall : (([47] : List Nat).all fun u => !Tryz.prog.wantsStandIn u) = true := by kernel_rfl
  exact (show Tryz.prog.wantsStandIn t = false by simpa using List.all_eq_true.1 hall t hm)
theorem proved : Rows.TargetWholeCardSaid :=
  Claim7.holds_tied_plain_at .later [] _ _ _ _ said (fun _ h => by cases h) (by kernel_rfl) (fun _ h => by cases h) targetWhole_row_tie rfl ⟨rfl, rfl⟩ (by kernel_rfl) rfl plainly (by kernel_rfl)
#print axioms proved
end Go.Proofs.YtgdcfenbmcflkaaGreatDoor.targetWhole
end
