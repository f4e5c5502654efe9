/- Texts of the proof, one behind the other. No statement is proved here. -/
import Derived.Laws.IdiomStrings
import Derived.WalkKit
import Derived.Lib.Builder
import Derived.Lib.UnsafeStr
import Derived.Laws.Externs
import Derived.Shelf.RegionOpenPlain
import Derived.Below
import Derived.Lib.LaidTab
import Derived.Shelf.Lays
import Derived.Shelf.Small.Utf8
import Derived.Shelf.Small.Strs
import Derived.Shelf.Small.Wraps
import Derived.Shelf.Strings.Prefix
import Derived.Shelf.LaysM
import Derived.Shelf.Strconv.Itoa3
import Derived.Shelf.LaysC
import Derived.Shelf.Strconv.ParseIntPublic10
import Derived.Shelf.Unicode.DecodeAny
import Derived.Shelf.Strings.IndexAnyAll
import Derived.Shelf.Strings.Runes
import Derived.Shelf.Unicode.ValidAny
import Derived.Shelf.Strings.IndexAny
import Derived.Test.YtgdcfenbmcflkaaGreatDoorProg
import Derived.Lib.AppendIntMem
import Derived.Deep.LoopGhost
import Derived.Laws.Runes
import Derived.Scope
import Derived.Deep.QuietTactic
import Derived.BigQuiet
import Derived.Laws.RangeString
import Derived.Lib.IndexAny
import Derived.Lib.TrimU
import Derived.MapKept
import Derived.Lib.AppendZeros
import Derived.Test.YtgdcfenbmcflkaaGreatDoorZ42Aa
import Derived.Test.YtgdcfenbmcflkaaGreatDoorZ42Ab
section
set_option linter.unusedVariables false
set_option linter.unusedSimpArgs false
set_option linter.unnecessarySimpa false
namespace Go.Ab
class UW (p : Prop) (q : outParam Prop) : Prop where
 go : q → p
class UO (p : Prop) (b : outParam Bool) (q : outParam Prop) : Prop where
 go : b = false → q → p
section
variable {K P : AS → Prop} {Q : Exit → AS → Prop} {s : AS} {id id' : Nat}
instance : UW (mB K Q .ret s) (Q .ret s) := ⟨aL⟩
instance : UW (mB K Q (.exit id) s) (Q (.exit id) s) := ⟨aG⟩
instance : UW (iW id Q .ret s) (Q .ret s) := ⟨aH⟩
instance : UW (iW id Q .normal s) (Q .normal s) := ⟨ak⟩
instance : UW (iW id Q (.exit id) s) (Q .normal s) := ⟨aw⟩
instance : UO (iW id Q (.exit id') s) (Nat.beq id' id) (Q (.exit id') s) := ⟨ar⟩
instance : UW (noGoto Q .ret s) (Q .ret s) := ⟨noGoto_ret⟩
instance : UW (noGoto Q (.exit id) s) (Q (.exit id) s) := ⟨noGoto_exit⟩
instance : UW (noGoto Q .normal s) (Q .normal s) := ⟨noGoto_normal⟩
instance : UW (exQ id P Q (.exit id) s) (P s) := ⟨bU⟩
instance : UO (exQ id P Q (.exit id') s) (Nat.beq id' id) (Q (.exit id') s) := ⟨a8⟩
instance : UW (exQ id P Q .ret s) (Q .ret s) := ⟨bR⟩
instance : UW (exQ id P Q .normal s) (Q .normal s) := ⟨aS⟩
end
theorem oi {α : Type} {a b : α} (h : some a = some b) : a = b := Option.some.inj h
theorem dt {p : Prop} [Decidable p] (h : p) : decide p = true := decide_eq_true h
theorem df {p : Prop} [Decidable p] (h : ¬p) : decide p = false := decide_eq_false h
theorem sr {x : AV} : x.sub x := AV.sub_refl x
theorem er {s : List (Nat × AV)} {j : Nat} {x : AV} (h : look s j = some x) : ∃ y, look s j = some y ∧ y.sub x := ⟨x, h, sr⟩
end Go.Ab
namespace Go.Ab
def Le {α : Type} (o o' : Option α) : Prop := ∀ r, o = some r → o' = some r
section
variable {α β : Type}
theorem ai (o : Option α) : Le o o := fun _ h => h
theorem dz (o : Option α) : Le none o := fun _ h => by cases h
theorem cz {p : Prop} [Decidable p] {o o' : Option α} (h : Le o o') : Le (ck p o) (ck p o') := fun r hr => by
 unfold ck at hr ⊢
 split at hr
 ·rename_i hp; rw [if_pos hp]; exact h r hr
 ·cases hr
theorem bD {p : Prop} [Decidable p] {a b a' b' : Option α} (h : Le a a') (k : Le b b') : Le (if p then a else b) (if p then a' else b') := by
 by_cases hp : p
 ·simpa only [if_pos hp] using h
 ·simpa only [if_neg hp] using k
theorem bf {g g' : Option β} {k k' : β → Option α} (h : Le g g') (hk : ∀ x, Le (k x) (k' x)) : Le (g.bind k) (g'.bind k') := fun r hr => by
 cases g with
 | none => cases hr
 | some x => rw [h x rfl]; exact hk x r hr
theorem cA {g g' : Option (β ⊕ α)} {k k' : β → Option α} (h : Le g g') (hk : ∀ x, Le (k x) (k' x)) : Le (jn g k) (jn g' k') := fun r hr => by
 cases g with
 | none => cases hr
 | some x => rw [h x rfl]; cases x with
  | inl x => exact hk x r hr
  | inr y => exact hr
theorem z8 {f : Nat → Option α} (N : Nat) {r : α} (h : f N = some r) (hm : ∀ n, N ≤ n → Le (f N) (f n)) {P : α → Prop} (hp : P r) : Ev2 (fun n _ => f n) P := ⟨r, hp, N, fun n _ hn _ => hm n hn r h⟩
end
end Go.Ab
namespace Go.Ab
open Go.RowKit
end Go.Ab
namespace Go.Ab
/- The steps that occur most, their closed facts by themselves. -/
section
variable {C : Cx} {ops : Array Oper} {K : AS → Prop} {sl : List (Nat × AV)} {ob : List (Nat × List AV)} {r : List Oper} {o : Oper} {d : Nat}
end
end Go.Ab
namespace Go.Ab
section
variable {C : Cx} {ops : Array Oper} {K : AS → Prop} {sl base : List (Nat × AV)} {ob : List (Nat × List AV)} {r : List Oper} {o : Oper} {d k : Nat} {rev : Rev}
def mvX : Op → Option Operand
 | .move x => some x
 | .assign x => some x
 | _ => none
def mvF (n : Nat) (o : Oper) (sl : List (Nat × AV)) : Option (Nat × AV) :=
 match mvX o.op with
 | some x => (match o.dst with
  | some d => bif Nat.blt d n then (match evo sl x with | some y => some (d, y) | none => none) else none
  | none => none)
 | none => none
def gdF (ops : Array Oper) (o : Oper) (sl : List (Nat × AV)) : Option (Bool × AV) :=
 match o.guard with
 | some (j, w) => (match (ops.toList[j]?).bind (·.dst) with
  | some t => (match look sl t with | some x => some (w, x) | none => none)
  | none => none)
 | none => none
theorem pP {w : Bool} {x : AV} (h : gdF ops o sl = some (w, x)) : ∃ j t, o.guard = some (j, w) ∧ (ops.toList[j]?).bind (·.dst) = some t ∧ look sl t = some x := by
 unfold gdF at h
 cases hg : o.guard with
 | none => rw [hg] at h; cases h
 | some p =>
  obtain ⟨j, w'⟩ := p
  rw [hg] at h
  simp only at h
  cases ht : (ops.toList[j]?).bind (·.dst) with
  | none => rw [ht] at h; cases h
  | some t =>
   rw [ht] at h
   simp only at h
   cases hl : look sl t with
   | none => rw [hl] at h; cases h
   | some z => rw [hl] at h; cases h; exact ⟨j, t, rfl, ht, hl⟩
theorem gy {w b : Bool} (hb : b = w) (h : gdF ops o sl = some (w, .p (.val (.bool b)))) (h1 : aU C o (d9 C ops r K) ⟨sl, ob⟩) : d9 C ops (o :: r) K ⟨sl, ob⟩ := by
 obtain ⟨j, t, hg, hj, hv⟩ := pP h
 exact kq hg hj hv hb h1
def dsF (n : Nat) (o : Oper) : Option Nat := match o.dst with
 | some d => bif Nat.blt d n then some d else none
 | none => none
theorem iS {n : Nat} (h : dsF n o = some d) : o.dst = some d ∧ Nat.blt d n = true := by
 unfold dsF at h
 cases hd : o.dst with
 | none => rw [hd] at h; cases h
 | some e =>
  rw [hd] at h
  cases hn : Nat.blt e n with
  | false => simp only [hn, cond_false] at h; cases h
  | true => simp only [hn, cond_true] at h; cases h; exact ⟨rfl, hn⟩
def knK : Rev → Nat → Option Nat
 | [], _ => none
 | (k, i, _) :: r, j => bif Nat.beq i j then some k else knK r j
def knX (base : List (Nat × AV)) (o : Oper) (rev : Rev) (i : Nat) : Option AV :=
 match look base i with
 | some x => some x
 | none => (match knK rev i with
  | some k => bif (o.after.toList.any fun e => Nat.beq e.on k && Region.binds .any e) then (match qw rev k with
    | some (j, x) => bif Nat.beq j i then some x else none
    | none => none) else none
  | none => none)
def yI (base : List (Nat × AV)) (o : Oper) (rev : Rev) : List Nat → Option (List (Nat × AV))
 | [] => some []
 | i :: r => match knX base o rev i with
  | some x => (match yI base o rev r with | some l => some ((i, x) :: l) | none => none)
  | none => none
theorem zE {i : Nat} {x : AV} (h : knX base o rev i = some x) : look base i = some x ∨ ∃ k, (o.after.toList.any fun e => Nat.beq e.on k && Region.binds .any e) = true ∧ qw rev k = some (i, x) := by
 unfold knX at h
 cases hb : look base i with
 | some y => rw [hb] at h; exact .inl h
 | none =>
  rw [hb] at h
  simp only at h
  cases hk : knK rev i with
  | none => rw [hk] at h; cases h
  | some k =>
   rw [hk] at h
   simp only at h
   cases ha : (o.after.toList.any fun e => Nat.beq e.on k && Region.binds .any e) with
   | false => rw [ha] at h; cases h
   | true =>
    rw [ha] at h
    simp only [cond_true] at h
    cases hl : qw rev k with
    | none => rw [hl] at h; cases h
    | some p =>
     obtain ⟨j, y⟩ := p
     rw [hl] at h
     simp only at h
     cases hj : Nat.beq j i with
     | false => rw [hj] at h; cases h
     | true => rw [hj] at h; cases h; exact .inr ⟨k, ha, by rw [hl, Nat.eq_of_beq_eq_true hj]⟩
theorem wo : ∀ {l : List Nat} {kn : List (Nat × AV)}, yI base o rev l = some kn → xF base o rev kn
 | [], kn, h => by cases h; trivial
 | i :: l, kn, h => by
  unfold yI at h
  cases hx : knX base o rev i with
  | none => rw [hx] at h; cases h
  | some x =>
   rw [hx] at h
   simp only at h
   cases hr : yI base o rev l with
   | none => rw [hr] at h; cases h
   | some m => rw [hr] at h; cases h; exact ⟨zE hx, wo hr⟩
def nwF (base : List (Nat × AV)) (rev : Rev) (o : Oper) : Option Nat := match o.dst with
 | some d => bif (rev.all fun p => !(Nat.beq p.2.1 d)) then (match look base d with | none => some d | some _ => none) else none
 | none => none
theorem nS (h : nwF base rev o = some d) : o.dst = some d ∧ (rev.all fun p => !(Nat.beq p.2.1 d)) = true ∧ look base d = none := by
 unfold nwF at h
 cases hd : o.dst with
 | none => rw [hd] at h; cases h
 | some e =>
  rw [hd] at h
  simp only at h
  cases ha : (rev.all fun p => !(Nat.beq p.2.1 e)) with
  | false => rw [ha] at h; cases h
  | true =>
   rw [ha] at h
   simp only [cond_true] at h
   cases hl : look base e with
   | some _ => rw [hl] at h; cases h
   | none => rw [hl] at h; cases h; exact ⟨rfl, ha, hl⟩
theorem dq {rest : List Oper} {kn : List (Nat × AV)} (x : AV) (l : List Nat) (hk : yI base o rev l = some kn) (hs : p9 C ops ob o kn d x) (hn : nwF base rev o = some d) (h : DQ C ops base ob K rest (k + 1) ((k, d, x) :: rev)) : DQ C ops base ob K (o :: rest) k rev :=
 wB x kn (wo hk) hs (nS hn).1 (nS hn).2.1 (nS hn).2.2 h
theorem pU {kn : List (Nat × AV)} (hs : ∀ i x, look kn i = some x → look sl i = some x) {x : Operand} {y : AV} (h : evo kn x = some y) : evo sl x = some y := by
 cases x with
 | tmp t => exact hs _ _ h
 | const v => exact h
 | func f => exact h
 | global g => exact h
end
end Go.Ab
namespace Go.Ab
inductive Fr where
 | sq (y : Code)
 | bk (id : Nat)
 | ng
 | jo (P : AS → Prop)
 | je (id : Nat) (P : AS → Prop)
inductive Ct where
 | cd (c : Code)
 | op (ops : Array Oper) (r : List Oper)
 | ex (e : Exit)
structure Cf where
 c : Ct
 k : List Fr
 s : AS
def dn (C : Cx) (Q : Exit → AS → Prop) : List Fr → Exit → AS → Prop
 | [] => fun e s => ∃ t, dU C s t ∧ Q e t
 | .sq y :: k => mB (awp C y (dn C Q k)) (dn C Q k)
 | .bk id :: k => iW id (dn C Q k)
 | .ng :: k => noGoto (dn C Q k)
 | .jo P :: k => mB (fun s => ∃ t, dU C s t ∧ P t) (dn C Q k)
 | .je id P :: k => exQ id (fun s => ∃ t, dU C s t ∧ P t) (dn C Q k)
def M (C : Cx) (Q : Exit → AS → Prop) : Cf → Prop
 | ⟨.cd c, k, s⟩ => awp C c (dn C Q k) s
 | ⟨.op ops r, k, s⟩ => d9 C ops r (dn C Q k .normal) s
 | ⟨.ex e, k, s⟩ => dn C Q k e s
def pop : List Fr → Exit → AS → Option Cf
 | [], e, s => some ⟨.ex e, [], s⟩
 | .sq y :: k, .normal, s => some ⟨.cd y, k, s⟩
 | .sq _ :: k, .exit i, s => pop k (.exit i) s
 | .sq _ :: k, .ret, s => pop k .ret s
 | .bk _ :: k, .normal, s => pop k .normal s
 | .bk id :: k, .exit i, s => (match Nat.beq i id with | true => pop k .normal s | false => pop k (.exit i) s)
 | .bk _ :: k, .ret, s => pop k .ret s
 | .ng :: k, .normal, s => pop k .normal s
 | .ng :: k, .exit i, s => pop k (.exit i) s
 | .ng :: k, .ret, s => pop k .ret s
 | .jo P :: k, .normal, s => some ⟨.ex .normal, .jo P :: k, s⟩
 | .jo _ :: k, .exit i, s => pop k (.exit i) s
 | .jo _ :: k, .ret, s => pop k .ret s
 | .je _ _ :: k, .normal, s => pop k .normal s
 | .je id P :: k, .exit i, s => (match Nat.beq i id with | true => some ⟨.ex (.exit i), .je id P :: k, s⟩ | false => pop k (.exit i) s)
 | .je _ _ :: k, .ret, s => pop k .ret s
 | _, _, _ => none
section
variable {C : Cx} {Q : Exit → AS → Prop} {ops : Array Oper} {K : AS → Prop} {sl : List (Nat × AV)} {ob : List (Nat × List AV)} {r : List Oper} {o : Oper} {d : Nat} {s s' : AS} {k : List Fr}
theorem fY : ∀ {k : List Fr} {e : Exit} {c : Cf}, pop k e s = some c → M C Q c → dn C Q k e s
 | [], e, c, h, hM => by simp only [pop, Option.some.injEq] at h; subst h; exact hM
 | .sq y :: k, e, c, h, hM => by
  cases e <;> simp only [pop, Option.some.injEq, reduceCtorEq] at h
  ·subst h; exact hM
  ·exact fY (k := k) h hM
  ·exact fY (k := k) h hM
 | .bk id :: k, e, c, h, hM => by
  cases e <;> simp only [pop, reduceCtorEq] at h
  ·exact fY (k := k) h hM
  ·rename_i i
   split at h
   ·rename_i hb
    rw [Nat.eq_of_beq_eq_true hb]
    exact aw (fY (k := k) h hM)
   ·rename_i hb; exact ar hb (fY (k := k) h hM)
  ·exact fY (k := k) h hM
 | .ng :: k, e, c, h, hM => by
  cases e <;> simp only [pop, reduceCtorEq] at h
  ·exact fY (k := k) h hM
  ·exact fY (k := k) h hM
  ·exact fY (k := k) h hM
 | .jo P :: k, e, c, h, hM => by
  cases e <;> simp only [pop, Option.some.injEq, reduceCtorEq] at h
  ·subst h; exact hM
  ·exact fY (k := k) h hM
  ·exact fY (k := k) h hM
 | .je id P :: k, e, c, h, hM => by
  cases e <;> simp only [pop, reduceCtorEq] at h
  ·exact aS (fY (k := k) h hM)
  ·rename_i i
   split at h
   ·rename_i hb
    cases h; exact hM
   ·rename_i hb; exact a8 hb (fY (k := k) h hM)
  ·exact bR (fY (k := k) h hM)
def uK (C : Cx) (o : Oper) : AS → AV → Option AS
 | ⟨sl, ob⟩, y => match o.dst with
  | some d => (match Nat.blt d C.n with | true => some ⟨(d, y) :: sl, ob⟩ | false => none)
  | none => none
theorem lM {y : AV} (h : uK C o ⟨sl, ob⟩ y = some s') : ∃ d, o.dst = some d ∧ Nat.blt d C.n = true ∧ s' = ⟨(d, y) :: sl, ob⟩ := by
 simp only [uK] at h
 split at h
 ·rename_i d hd
  split at h
  ·rename_i hn; cases h; exact ⟨d, hd, hn, rfl⟩
  ·cases h
 ·cases h
def ikE (a b : IntKind) : Bool := Nat.beq a.ctorIdx b.ctorIdx
theorem zx {a b : IntKind} (h : ikE a b = true) : a = b := by cases a <;> cases b <;> first | rfl | cases h
def pkP (sl : List (Nat × AV)) (x y : Operand) : Option AV → Option AV
 | some (.p (.val (.bool true))) => evo sl x
 | some (.p (.val (.bool false))) => evo sl y
 | _ => none
def bnP (C : Cx) (op : BinOp) (t : TypeId) : Option AV → Option AV → Option AV
 | some (.p (.val (.int k a))), some (.p (.val (.int k' b))) => (match ikE k' k with
  | true => (match zQ op a b with
   | some c => some (.p (.val (.bool c)))
   | none => (match zN k op a b with
    | some c => some (.p (.val (.int k c)))
    | none => (match ikE k .i64 with
     | true => none
     | false => (match arI op a b with
      | some c => some (.p (.val (.int k (k.wrap c))))
      | none => none))))
  | false => none)
 | some (.p (.val (.bool a))), some (.p (.val (.bool b))) => (match look C.tt t with
  | some i => (match i.k with
   | .bool => (match Bn op a b with | some c => some (.p (.val (.bool c))) | none => none)
   | _ => none)
  | none => none)
 | _, _ => none
def faP (C : Cx) (t f : Nat) (X : Option AV) : Option AV := match look C.tt t with
 | some i => (match i.k with
  | .struct fs => (match fs[f]? with
   | some (off, ft) => (match look C.tt ft with
    | some j => (match Nat.beq j.size 0 with
     | false => (match X with
      | some (.ptr id k) => some (.ptr id (k + off))
      | some (.rptr cs) => some (.rptr (cs.drop off))
      | _ => none)
     | true => none)
    | none => none)
   | none => none)
  | _ => none)
 | none => none
def ldP (C : Cx) (ob : List (Nat × List AV)) (t : Nat) (X : Option AV) : Option AV := match look C.tt t with
 | some i => (match X with
  | some (.ptr id k) => (match look ob id with
   | some cs => (match i.k.isAgg with
    | false => cs[k]?
    | true => (match Nat.ble (k + i.size) cs.length with
     | true => (match l7 ((cs.drop k).take i.size) with
      | .p y => some (.p y)
      | .agg l => some (.agg l)
      | _ => none)
     | false => none))
   | none => none)
  | some (.rptr cs) => (match i.k.isAgg with
   | false => (match cs.head? with | some y => some (.p y) | none => none)
   | true => (match Nat.ble i.size cs.length with
    | true => some (.p (.agg (cs.take i.size)))
    | false => none))
  | _ => none)
 | none => none
def nrm {α : Type} : List α → Option (List α)
 | [] => some []
 | x :: r => (match nrm r with | some l => some (x :: l) | none => none)
theorem pE {α : Type} : ∀ {l l' : List α}, nrm l = some l' → l' = l
 | [], l', h => by cases h; rfl
 | x :: r, l', h => by
  unfold nrm at h
  split at h
  ·rename_i m hm; cases h; rw [pE hm]
  ·cases h
def stP (C : Cx) (o : Oper) (sl : List (Nat × AV)) (ob : List (Nat × List AV)) (t : Nat) (x v : Operand) : Option AS := match o.dst with
 | none => (match look C.tt t with
  | some i => (match evo sl x with
   | some (.ptr id k) => (match evo sl v with
    | some y => (match y.cellsA with
     | some xs => (match Nat.beq xs.length i.size with
      | true => (match look ob id with
       | some cs => (match Nat.ble (k + xs.length) cs.length with
        | true => (match nrm (pV cs k xs) with
         | some ds => some ⟨sl, (id, ds) :: ob⟩
         | none => none)
        | false => none)
       | none => none)
      | false => none)
     | none => none)
    | none => none)
   | _ => none)
  | none => none)
 | some _ => none
def frc : AV → Option AV
 | .undef => some .undef
 | .p x => some (.p x)
 | .agg cs => some (.agg cs)
 | .vec a b c e => some (.vec a b c e)
 | .arr a b c e => some (.arr a b c e)
 | .ptr a b => some (.ptr a b)
 | .bptr a b c => some (.bptr a b c)
 | .rptr cs => some (.rptr cs)
 | .tuple vs => some (.tuple vs)
 | .func f cs => some (.func f cs)
 | .mp a b => some (.mp a b)
 | .mpr a b c d e => some (.mpr a b c d e)
 | .stk a b c => some (.stk a b c)
theorem rS {x y : AV} (h : frc x = some y) : y = x := by cases x <;> (cases h; rfl)
def dmS (D : Nat → Bool) : List (Nat × AV) → Option (List (Nat × AV))
 | [] => some []
 | (i, x) :: r => (match frc (x.dem D) with
  | some y => (match dmS D r with | some l => some ((i, y) :: l) | none => none)
  | none => none)
theorem tg {D : Nat → Bool} : ∀ {l l' : List (Nat × AV)}, dmS D l = some l' → l' = l.map fun p => (p.1, p.2.dem D)
 | [], l', h => by cases h; rfl
 | (i, x) :: r, l', h => by
  unfold dmS at h
  split at h
  ·rename_i y hy
   split at h
   ·rename_i m hm; cases h; rw [rS hy, tg hm]; rfl
   ·cases h
  ·cases h
def dmC (D : Nat → Bool) : List AV → Option (List AV)
 | [] => some []
 | x :: r => (match frc (x.dem D) with
  | some y => (match dmC D r with | some l => some (y :: l) | none => none)
  | none => none)
theorem vw {D : Nat → Bool} : ∀ {l l' : List AV}, dmC D l = some l' → l' = j4 D l
 | [], l', h => by cases h; rfl
 | x :: r, l', h => by
  unfold dmC at h
  split at h
  ·rename_i y hy
   split at h
   ·rename_i m hm; cases h; rw [rS hy, vw hm]; rfl
   ·cases h
  ·cases h
def dmO (D : Nat → Bool) : List (Nat × List AV) → Option (List (Nat × List AV))
 | [] => some []
 | (i, cs) :: r => (match D i with
  | true => dmO D r
  | false => (match dmC D cs with
   | some ds => (match dmO D r with | some l => some ((i, ds) :: l) | none => none)
   | none => none))
theorem nP {D : Nat → Bool} : ∀ {l l' : List (Nat × List AV)}, dmO D l = some l' → l' = (l.filter fun p => !D p.1).map fun p => (p.1, j4 D p.2)
 | [], l', h => by cases h; rfl
 | (i, cs) :: r, l', h => by
  unfold dmO at h
  split at h
  ·rename_i hD; rw [nP h]; simp [List.filter_cons, hD]
  ·rename_i hD
   split at h
   ·rename_i ds hds
    split at h
    ·rename_i m hm; cases h; rw [vw hds, nP hm]; simp [List.filter_cons, hD]
    ·cases h
   ·cases h
def nwP (C : Cx) (o : Oper) (sl0 : List (Nat × AV)) (ob0 : List (Nat × List AV)) (cs : List AV) : Option AS := match o.dst with
 | some d => (match Nat.blt d C.n with
  | true => (match dmS (fun i => Nat.beq i d) sl0 with
   | some sl => (match dmC (fun i => Nat.beq i d) cs with
    | some ds => (match dmO (fun i => Nat.beq i d) ob0 with
     | some ob => some ⟨(d, .ptr d 0) :: sl, (d, ds) :: ob⟩
     | none => none)
    | none => none)
   | none => none)
  | false => none)
 | none => none
theorem zC {cs : List AV} (h : nwP C o sl ob cs = some s') : ∃ d, o.dst = some d ∧ Nat.blt d C.n = true ∧ s' = ⟨(d, .ptr d 0) :: (cv (fun i => Nat.beq i d) ⟨sl, ob⟩).sl, (d, j4 (fun i => Nat.beq i d) cs) :: (cv (fun i => Nat.beq i d) ⟨sl, ob⟩).ob⟩ := by
 unfold nwP at h
 split at h
 ·rename_i d hd
  split at h
  ·rename_i hn
   split at h
   ·rename_i a ha
    split at h
    ·rename_i b hb
     split at h
     ·rename_i c hc
      cases h
      exact ⟨d, hd, hn, by rw [tg ha, vw hb, nP hc]; rfl⟩
     ·cases h
    ·cases h
   ·cases h
  ·cases h
 ·cases h
def ncP : Option AV → Option AV
 | some (.ptr id k) => some (.ptr id k)
 | _ => none
def xtP (k : Nat) : Option AV → Option AV
 | some (.tuple l) => l[k]?
 | _ => none
def ntP : Option AV → Option AV
 | some (.p (.val (.bool b))) => some (.p (.val (.bool (!b))))
 | _ => none
def flP (C : Cx) (t f : Nat) (X : Option AV) : Option AV := match look C.tt t with
 | some i => (match i.k with
  | .struct fs => (match fs[f]? with
   | some (off, ft) => (match look C.tt ft with
    | some j => (match X with
     | some (.p (.agg cs)) => (match j.k.isAgg with
      | false => (match cs[off]? with | some c => some (.p c) | none => none)
      | true => (match Nat.ble (off + j.size) cs.length with
       | true => (match nrm ((cs.drop off).take j.size) with
        | some ds => some (.p (.agg ds))
        | none => none)
       | false => none))
     | _ => none)
    | none => none)
   | none => none)
  | _ => none)
 | none => none
def cvP (C : Cx) (st dt : Nat) (X : Option AV) : Option AV := match look C.tt st with
 | some i => (match i.k with
  | .int k' => (match look C.tt dt with
   | some j => (match j.k with
    | .int k => (match X with
     | some (.p (.val (.int k2 a))) => (match ikE k2 k' with
      | true => (match ikE k .i64 with
       | true => none
       | false => some (.p (.val (.int k (k.wrap a)))))
      | false => none)
     | _ => none)
    | _ => none)
   | none => none)
  | _ => none)
 | none => none
def agP (cs : List AV) : Option AV := match nrm cs with
 | some ds => (match l7 ds with
  | .p y => some (.p y)
  | .agg l => some (.agg l)
  | _ => none)
 | none => none
def buP (C : Cx) (t : Nat) (X : Option (List (Nat × AV))) : Option AV := match look C.tt t with
 | some i => (match i.k with
  | .struct fs => (match nn C.tt fs with
   | some pl => (match X with
    | some ps => (match qj (fun (i : Nat) => pl[i]?) (ew i) ps with
     | some cs => agP cs
     | none => none)
    | none => none)
   | none => none)
  | .array _ e => (match look C.tt e with
   | some ie => (match X with
    | some ps => (match qj (fun (k : Nat) => some (k * ie.size, ie.size)) (ew i) ps with
     | some cs => agP cs
     | none => none)
    | none => none)
   | none => none)
  | _ => none)
 | none => none
def laP (C : Cx) (c : Call) (sl : List (Nat × AV)) : Option AV := match c with
 | ⟨.builtin .len, ⟨[x]⟩, ⟨[t]⟩⟩ => (match look C.tt t with
  | some i => (match i.k with
   | .slice _ => (match evo sl x with
    | some (.arr _ _ _ m) => some (.p (.val (.int .i64 (m : Int))))
    | _ => none)
   | _ => none)
  | none => none)
 | _ => none
def alP (C : Cx) (o : Oper) (sl : List (Nat × AV)) (ob : List (Nat × List AV)) (t : Nat) : Option AS := match look C.tt t with
 | some i => (match AV.cellsA (.agg (ew i)) with
  | some cs => (match nrm cs with | some ds => nwP C o sl ob ds | none => none)
  | none => none)
 | none => none
def bxP (C : Cx) (o : Oper) (sl : List (Nat × AV)) (ob : List (Nat × List AV)) (v : Operand) : Option AS := match evo sl v with
 | some x => (match x.cellsA with
  | some cs => (match nrm cs with | some ds => nwP C o sl ob ds | none => none)
  | none => none)
 | none => none
def opV (C : Cx) (o : Oper) (sl : List (Nat × AV)) (ob : List (Nat × List AV)) : Option AV := match o.op with
 | .move x => evo sl x
 | .assign x => evo sl x
 | .pick c x y => pkP sl x y (evo sl c)
 | .binOp op t x y _ => bnP C op t (evo sl x) (evo sl y)
 | .unOp .not _ x => ntP (evo sl x)
 | .fieldAddr t x f => faP C t f (evo sl x)
 | .load t x => ldP C ob t (evo sl x)
 | .nilCheck x => ncP (evo sl x)
 | .extract x k => xtP k (evo sl x)
 | .field t x f => flP C t f (evo sl x)
 | .convert st dt x => cvP C st dt (evo sl x)
 | .build t parts => buP C t (gY sl parts.toList)
 | .call c => laP C c sl
 | _ => none
def opF (C : Cx) (o : Oper) : AS → Option AS
 | ⟨sl, ob⟩ => match o.op with
 | .store t x v => stP C o sl ob t x v
 | .box _ v => bxP C o sl ob v
 | .alloc t => alP C o sl ob t
 | .move x => (match evo sl x with
  | some y => uK C o ⟨sl, ob⟩ y
  | none => uK C o ⟨sl, ob⟩ .undef)
 | .assign x => (match evo sl x with
  | some y => uK C o ⟨sl, ob⟩ y
  | none => uK C o ⟨sl, ob⟩ .undef)
 | _ => (match opV C o sl ob with
  | some y => uK C o ⟨sl, ob⟩ y
  | none => none)
theorem BP {c x y : Operand} {z : AV} (ho : o.op = .pick c x y) (h : pkP sl x y (evo sl c) = some z) (hd : o.dst = some d) (hn : Nat.blt d C.n = true) (hK : K ⟨(d, z) :: sl, ob⟩) : aU C o K ⟨sl, ob⟩ := by
 generalize hc : evo sl c = v at h
 unfold pkP at h
 split at h
 ·exact cn ho hd hn hc rfl h hK
 ·exact bY ho hd hn hc rfl h hK
 ·cases h
theorem BZ {op : BinOp} {t t' : TypeId} {x y : Operand} {z : AV} (ho : o.op = .binOp op t x y t') (h : bnP C op t (evo sl x) (evo sl y) = some z) (h1 : o.dst = some d) (h2 : Nat.blt d C.n = true) (hK : K ⟨(d, z) :: sl, ob⟩) : aU C o K ⟨sl, ob⟩ := by
 generalize hx : evo sl x = X at h
 generalize hy : evo sl y = Y at h
 unfold bnP at h
 split at h
 ·rename_i k a k' b
  split at h
  ·rename_i hk
   have := zx hk; subst this
   split at h
   ·rename_i c hc
    cases h; exact gC ho h1 h2 hx hy hc hK
   ·split at h
    ·rename_i c hc
     cases h; exact Ca ho h1 h2 hx hy hc hK
    ·split at h
     ·cases h
     ·split at h
      ·rename_i c hc
       cases h; exact zk ho h1 h2 hx hy hc hK
      ·cases h
  ·cases h
 ·split at h
  ·rename_i i hi
   split at h
   ·rename_i hk
    split at h
    ·rename_i c hc
     cases h; exact Au ho h1 h2 hi hk hx hy hc hK
    ·cases h
   ·cases h
  ·cases h
 ·cases h
theorem B6 {t f : Nat} {x : Operand} {z : AV} (ho : o.op = .fieldAddr t x f) (h : faP C t f (evo sl x) = some z) (h1 : o.dst = some d) (h2 : Nat.blt d C.n = true) (hK : K ⟨(d, z) :: sl, ob⟩) : aU C o K ⟨sl, ob⟩ := by
 generalize hx : evo sl x = X at h
 unfold faP at h
 split at h
 ·rename_i i hi
  split at h
  ·rename_i fs hk
   split at h
   ·rename_i off ft hf
    split at h
    ·rename_i j hj
     split at h
     ·rename_i hs
      split at h
      ·cases h; exact ah ho h1 h2 hi hk hf hj hs hx hK
      ·cases h; exact bX ho h1 h2 hi hk hf hj hs hx hK
      ·cases h
     ·cases h
    ·cases h
   ·cases h
  ·cases h
 ·cases h
theorem BR {t : Nat} {x : Operand} {z : AV} (ho : o.op = .load t x) (h : ldP C ob t (evo sl x) = some z) (h1 : o.dst = some d) (h2 : Nat.blt d C.n = true) (hK : K ⟨(d, z) :: sl, ob⟩) : aU C o K ⟨sl, ob⟩ := by
 generalize hx : evo sl x = X at h
 unfold ldP at h
 split at h
 ·rename_i i hi
  split at h
  ·rename_i id k
   split at h
   ·rename_i cs hob
    split at h
    ·rename_i ha
     exact bB ho h1 h2 hi ha hx hob h hK
    ·rename_i ha
     split at h
     ·rename_i hl
      split at h
      ·rename_i y hy
       cases h; exact gx ho h1 h2 hi ha hx hob hl (congrArg some hy) hK
      ·rename_i y hy
       cases h; exact gx ho h1 h2 hi ha hx hob hl (congrArg some hy) hK
      ·cases h
     ·cases h
   ·cases h
  ·rename_i cs
   split at h
   ·rename_i ha
    split at h
    ·rename_i y hy
     cases h; exact dF ho h1 h2 hi ha hx hy hK
    ·cases h
   ·rename_i ha
    split at h
    ·rename_i hl
     cases h; exact dC ho h1 h2 hi ha hx hl hK
    ·cases h
  ·cases h
 ·cases h
theorem BX {t : Nat} {x v : Operand} (ho : o.op = .store t x v) (h : stP C o sl ob t x v = some s') (hK : K s') : aU C o K ⟨sl, ob⟩ := by
 unfold stP at h
 split at h
 ·rename_i hd
  split at h
  ·rename_i i hi
   split at h
   ·rename_i id k hx
    split at h
    ·rename_i y hv
     split at h
     ·rename_i xs hc
      split at h
      ·rename_i hsz
       split at h
       ·rename_i cs hob
        split at h
        ·rename_i hl
         split at h
         ·rename_i ds hds
          cases h
          rw [pE hds] at hK
          exact gX ho hd hi hx hv hc (Nat.eq_of_beq_eq_true hsz) hob (Nat.le_of_ble_eq_true hl) hK
         ·cases h
        ·cases h
       ·cases h
      ·cases h
     ·cases h
    ·cases h
   ·cases h
  ·cases h
 ·cases h
theorem Cc {t : Nat} {v : Operand} (ho : o.op = .box t v) (h : bxP C o sl ob v = some s') (hK : K s') : aU C o K ⟨sl, ob⟩ := by
 unfold bxP at h
 split at h
 ·rename_i x hx
  split at h
  ·rename_i cs hc
   split at h
   ·rename_i ds hds
    obtain ⟨d, h1, h2, rfl⟩ := zC h
    rw [pE hds] at hK
    exact yo ho h1 h2 hx hc hK
   ·cases h
  ·cases h
 ·cases h
theorem B8 {t : Nat} (ho : o.op = .alloc t) (h : alP C o sl ob t = some s') (hK : K s') : aU C o K ⟨sl, ob⟩ := by
 unfold alP at h
 split at h
 ·rename_i i hi
  split at h
  ·rename_i cs hc
   split at h
   ·rename_i ds hds
    obtain ⟨d, h1, h2, rfl⟩ := zC h
    rw [pE hds] at hK
    have e : cs = ew i := by
     simp only [AV.cellsA] at hc
     cases hb : AV.onesB (ew i) <;> rw [hb] at hc <;> cases hc
     rfl
    subst e
    exact ln ho h1 h2 hi hc hK
   ·cases h
  ·cases h
 ·cases h
theorem BS {x : Operand} {z : AV} (ho : o.op = .nilCheck x) (h : ncP (evo sl x) = some z) (h1 : o.dst = some d) (h2 : Nat.blt d C.n = true) (hK : K ⟨(d, z) :: sl, ob⟩) : aU C o K ⟨sl, ob⟩ := by
 generalize hx : evo sl x = X at h
 unfold ncP at h
 split at h
 ·cases h; exact g7 ho h1 h2 hx hK
 ·cases h
theorem BV {x : Operand} {n : Nat} {z : AV} (ho : o.op = .extract x n) (h : xtP n (evo sl x) = some z) (h1 : o.dst = some d) (h2 : Nat.blt d C.n = true) (hK : K ⟨(d, z) :: sl, ob⟩) : aU C o K ⟨sl, ob⟩ := by
 generalize hx : evo sl x = X at h
 unfold xtP at h
 split at h
 ·exact cB ho h1 h2 hx h hK
 ·cases h
theorem BD {t : TypeId} {x : Operand} {z : AV} (ho : o.op = .unOp .not t x) (h : ntP (evo sl x) = some z) (h1 : o.dst = some d) (h2 : Nat.blt d C.n = true) (hK : K ⟨(d, z) :: sl, ob⟩) : aU C o K ⟨sl, ob⟩ := by
 generalize hx : evo sl x = X at h
 unfold ntP at h
 split at h
 ·cases h; exact gD ho h1 h2 hx hK
 ·cases h
theorem Bp {t f : Nat} {x : Operand} {z : AV} (ho : o.op = .field t x f) (h : flP C t f (evo sl x) = some z) (h1 : o.dst = some d) (h2 : Nat.blt d C.n = true) (hK : K ⟨(d, z) :: sl, ob⟩) : aU C o K ⟨sl, ob⟩ := by
 generalize hx : evo sl x = X at h
 unfold flP at h
 split at h
 ·rename_i i hi
  split at h
  ·rename_i fs hk
   split at h
   ·rename_i off ft hf
    split at h
    ·rename_i j hj
     split at h
     ·rename_i cs
      split at h
      ·rename_i ha
       split at h
       ·rename_i c hc
        cases h; exact wZ ho h1 h2 hi hk hf hj ha hx hc hK
       ·cases h
      ·rename_i ha
       split at h
       ·rename_i hl
        split at h
        ·rename_i ds hds
         rw [pE hds] at h
         cases h; exact w6 ho h1 h2 hi hk hf hj ha hx hl hK
        ·cases h
       ·cases h
     ·cases h
    ·cases h
   ·cases h
  ·cases h
 ·cases h
theorem Bt {st dt : Nat} {x : Operand} {z : AV} (ho : o.op = .convert st dt x) (h : cvP C st dt (evo sl x) = some z) (h1 : o.dst = some d) (h2 : Nat.blt d C.n = true) (hK : K ⟨(d, z) :: sl, ob⟩) : aU C o K ⟨sl, ob⟩ := by
 generalize hx : evo sl x = X at h
 unfold cvP at h
 split at h
 ·rename_i i hi
  split at h
  ·rename_i k' hk'
   split at h
   ·rename_i j hj
    split at h
    ·rename_i k hk
     split at h
     ·rename_i k2 a
      split at h
      ·rename_i hb
       have := zx hb; subst this
       split at h
       ·cases h
       ·cases h; exact yS ho h1 h2 hi hk' hj hk hx hK
      ·cases h
     ·cases h
    ·cases h
   ·cases h
  ·cases h
 ·cases h
theorem xZ {cs : List AV} {z : AV} (h : agP cs = some z) : some (l7 cs) = some z := by
 unfold agP at h
 split at h
 ·rename_i ds hds
  have e := pE hds
  subst e
  split at h
  ·rename_i y hy; cases h; exact congrArg some hy
  ·rename_i y hy; cases h; exact congrArg some hy
  ·cases h
 ·cases h
theorem Bh {t : Nat} {parts : Array (Nat × Operand)} {z : AV} (ho : o.op = .build t parts) (h : buP C t (gY sl parts.toList) = some z) (h1 : o.dst = some d) (h2 : Nat.blt d C.n = true) (hK : K ⟨(d, z) :: sl, ob⟩) : aU C o K ⟨sl, ob⟩ := by
 generalize hps : gY sl parts.toList = X at h
 unfold buP at h
 split at h
 ·rename_i i hi
  split at h
  ·rename_i fs hk
   split at h
   ·rename_i pl hpl
    split at h
    ·rename_i ps
     split at h
     ·rename_i cs hcs
      exact rt ho h1 h2 hi hk hpl hps hcs (xZ h) hK
     ·cases h
    ·cases h
   ·cases h
  ·rename_i m e hk
   split at h
   ·rename_i ie hie
    split at h
    ·rename_i ps
     split at h
     ·rename_i cs hcs
      exact ub ho h1 h2 hi hk hie hps hcs (xZ h) hK
     ·cases h
    ·cases h
   ·cases h
  ·cases h
 ·cases h
theorem Bu {c : Call} {z : AV} (ho : o.op = .call c) (h : laP C c sl = some z) (h1 : o.dst = some d) (h2 : Nat.blt d C.n = true) (hK : K ⟨(d, z) :: sl, ob⟩) : aU C o K ⟨sl, ob⟩ := by
 unfold laP at h
 split at h
 ·split at h
  ·rename_i i hi
   split at h
   ·rename_i e hk
    split at h
    ·rename_i hx
     cases h; exact fp ho h1 h2 hi hk hx hK
    ·cases h
   ·cases h
  ·cases h
 ·cases h
theorem wi {y : AV} (h : opV C o sl ob = some y) (h1 : o.dst = some d) (h2 : Nat.blt d C.n = true) (hK : K ⟨(d, y) :: sl, ob⟩) : aU C o K ⟨sl, ob⟩ := by
 unfold opV at h
 split at h
 ·rename_i ho; exact aR ho h1 h2 h hK
 ·rename_i ho; exact bp ho h1 h2 h hK
 ·rename_i ho; exact BP ho h h1 h2 hK
 ·rename_i ho; exact BZ ho h h1 h2 hK
 ·rename_i ho; exact BD ho h h1 h2 hK
 ·rename_i ho; exact B6 ho h h1 h2 hK
 ·rename_i ho; exact BR ho h h1 h2 hK
 ·rename_i ho; exact BS ho h h1 h2 hK
 ·rename_i ho; exact BV ho h h1 h2 hK
 ·rename_i ho; exact Bp ho h h1 h2 hK
 ·rename_i ho; exact Bt ho h h1 h2 hK
 ·rename_i ho; exact Bh ho h h1 h2 hK
 ·rename_i ho; exact Bu ho h h1 h2 hK
 ·cases h
theorem vk (h : opF C o ⟨sl, ob⟩ = some s') (hK : K s') : aU C o K ⟨sl, ob⟩ := by
 unfold opF at h
 dsimp only at h
 split at h
 ·rename_i ho; exact BX ho h hK
 ·rename_i ho; exact Cc ho h hK
 ·rename_i ho; exact B8 ho h hK
 ·rename_i ho
  split at h
  ·rename_i y hy; obtain ⟨d, h1, h2, rfl⟩ := lM h; exact aR ho h1 h2 hy hK
  ·obtain ⟨d, h1, h2, rfl⟩ := lM h; exact uF ho h1 h2 hK
 ·rename_i ho
  split at h
  ·rename_i y hy; obtain ⟨d, h1, h2, rfl⟩ := lM h; exact bp ho h1 h2 hy hK
  ·obtain ⟨d, h1, h2, rfl⟩ := lM h; exact sa ho h1 h2 hK
 ·split at h
  ·rename_i y hy; obtain ⟨d, h1, h2, rfl⟩ := lM h; exact wi hy h1 h2 hK
  ·cases h
def isU : Value → Bool
 | .tuple a => Nat.beq a.size 0
 | _ => false
theorem y5 {v : Value} (h : isU v = true) : v = Go.undef := by
 unfold isU at h
 split at h
 ·rename_i a
  have := Nat.eq_of_beq_eq_true h
  have := Array.eq_empty_of_size_eq_zero this
  subst this; rfl
 ·cases h
def wS (C : Cx) (o : Oper) (s : AS) : Option AS := uK C o s (.p (.val Go.undef))
def guF (C : Cx) (o : Oper) (s : AS) : Option (Bool × AV) → Option AS
 | some (true, .p (.val (.bool true))) => opF C o s
 | some (true, .p (.val (.bool false))) => wS C o s
 | some (false, .p (.val (.bool true))) => wS C o s
 | some (false, .p (.val (.bool false))) => opF C o s
 | some (_, .p (.val v)) => (match isU v with | true => wS C o s | false => none)
 | _ => none
def oF (C : Cx) (ops : Array Oper) (o : Oper) : AS → Option AS
 | ⟨sl, ob⟩ => match o.guard with
  | none => opF C o ⟨sl, ob⟩
  | some _ => guF C o ⟨sl, ob⟩ (gdF ops o sl)
theorem CF (h : oF C ops o ⟨sl, ob⟩ = some s') (hK : d9 C ops r K s') : d9 C ops (o :: r) K ⟨sl, ob⟩ := by
 unfold oF at h
 dsimp only at h
 split at h
 ·rename_i hg; exact aV hg (vk h hK)
 ·rename_i p hg
  have pass : ∀ {w : Bool} {b : Bool}, gdF ops o sl = some (w, .p (.val (.bool b))) → b = (!w) → wS C o ⟨sl, ob⟩ = some s' → d9 C ops (o :: r) K ⟨sl, ob⟩ := by
   intro w b hgd hb hp
   obtain ⟨d, h1, h2, rfl⟩ := lM hp
   obtain ⟨j, t, hg, hj, hv⟩ := pP hgd
   exact kR hg hj hv hb h1 h2 hK
  generalize hgd : gdF ops o sl = G at h
  unfold guF at h
  split at h
  ·exact gy rfl hgd (vk h hK)
  ·exact pass hgd rfl h
  ·exact pass hgd rfl h
  ·exact gy rfl hgd (vk h hK)
  ·rename_i v hno1 hno2 hno3 hno4
   split at h
   ·rename_i hu
    have := y5 hu; subst this
    obtain ⟨d, h1, h2, rfl⟩ := lM h
    obtain ⟨j, t, hg, hj, hv⟩ := pP hgd
    exact ma hg hj hv h1 h2 hK
   ·cases h
  ·cases h
def cdE (s : AS) (x : Operand) : Option AV := match s with | ⟨sl, _⟩ => evo sl x
def cdF (C : Cx) (k : List Fr) (s : AS) : Code → Option Cf
 | .seq x y => some ⟨.cd x, .sq y :: k, s⟩
 | .block id x => some ⟨.cd x, .bk id :: k, s⟩
 | .scope x => some ⟨.cd x, .ng :: k, s⟩
 | .skip => pop k .normal s
 | .label _ => pop k .normal s
 | .exit id => pop k (.exit id) s
 | .ret => pop k .ret s
 | .region _ ops draw => (match draw with | false => some ⟨.op ops ops.toList, k, s⟩ | true => none)
 | .cond c x y => (match cdE s c with
  | some (.p (.val (.bool true))) => some ⟨.cd x, k, s⟩
  | some (.p (.val (.bool false))) => some ⟨.cd y, k, s⟩
  | _ => none)
 | _ => none
def stp (C : Cx) : Cf → Option Cf
 | ⟨.ex e, k, s⟩ => pop k e s
 | ⟨.op _ [], k, s⟩ => pop k .normal s
 | ⟨.op ops (o :: r), k, s⟩ => (match oF C ops o s with | some s' => some ⟨.op ops r, k, s'⟩ | none => none)
 | ⟨.cd c, k, s⟩ => cdF C k s c
theorem Bc {c : Code} {c' : Cf} (h : cdF C k s c = some c') (hM : M C Q c') : awp C c (dn C Q k) s := by
 unfold cdF at h
 split at h
 ·cases h; exact bE hM
 ·cases h; exact dI hM
 ·cases h; exact dD hM
 ·exact cZ (fY h hM)
 ·exact dB (fY h hM)
 ·exact d8 (fY h hM)
 ·exact cY (fY h hM)
 ·split at h
  ·cases h; exact b5 hM
  ·cases h
 ·have hs : ∀ c, cdE s c = evo s.sl c := fun c => by cases s; rfl
  split at h
  ·rename_i hc; cases h; exact yJ (vR ((hs _).symm.trans hc)) rfl hM
  ·rename_i hc; cases h; exact xI (vR ((hs _).symm.trans hc)) rfl hM
  ·cases h
 ·cases h
theorem Cd {c c' : Cf} (h : stp C c = some c') (hM : M C Q c') : M C Q c := by
 unfold stp at h
 split at h
 ·exact fY h hM
 ·exact bA (fY h hM)
 ·split at h
  ·rename_i s0 hs; cases h; exact CF hs hM
  ·cases h
 ·exact Bc h hM
def run (C : Cx) : Nat → Cf → Option Cf
 | 0, c => some c
 | n + 1, c => (match stp C c with | some c' => run C n c' | none => none)
theorem nx : ∀ (n : Nat) {c c' : Cf}, run C n c = some c' → M C Q c' → M C Q c
 | 0, c, c', h, hM => by cases h; exact hM
 | n + 1, c, c', h, hM => by
  unfold run at h
  split at h
  ·rename_i c1 h1; exact Cd h1 (nx n h hM)
  ·cases h
theorem mn : ∀ {k : List Fr} {e : Exit} {s t : AS}, dU C s t → dn C Q k e t → dn C Q k e s
 | [], e, s, t, hg, ⟨u, h1, h2⟩ => ⟨u, bC hg h1, h2⟩
 | .sq y :: k, e, s, t, hg, h => by
  cases e with
  | normal => exact px hg h
  | _ => exact mn (k := k) hg h
 | .bk id :: k, e, s, t, hg, h => by
  cases e with
  | exit i =>
   simp only [dn, iW] at h ⊢
   split
   ·rename_i e; rw [if_pos e] at h; exact mn (k := k) hg h
   ·rename_i e; rw [if_neg e] at h; exact mn (k := k) hg h
  | _ => exact mn (k := k) hg h
 | .ng :: k, e, s, t, hg, h => by
  cases e with
  | goto l => exact h
  | _ => exact mn (k := k) hg h
 | .jo P :: k, e, s, t, hg, h => by
  cases e with
  | normal => obtain ⟨u, h1, h2⟩ := h; exact ⟨u, bC hg h1, h2⟩
  | _ => exact mn (k := k) hg h
 | .je id P :: k, e, s, t, hg, h => by
  cases e with
  | exit i =>
   simp only [dn, exQ] at h ⊢
   split
   ·rename_i e; rw [if_pos e] at h; obtain ⟨u, h1, h2⟩ := h; exact ⟨u, bC hg h1, h2⟩
   ·rename_i e; rw [if_neg e] at h; exact mn (k := k) hg h
  | _ => exact mn (k := k) hg h
theorem mG {c : Ct} {t : AS} (hg : dU C s t) (h : M C Q ⟨c, k, t⟩) : M C Q ⟨c, k, s⟩ := by
 cases c with
 | cd c => exact px hg h
 | op ops r => exact we hg h
 | ex e => exact mn hg h
theorem kX {c : Code} {σ : Type} (A : σ → Prop) (mk : σ → AS) (h2 : ∀ v, A v → M C Q ⟨.ex .normal, k, mk v⟩) (h1 : M C Q ⟨.cd c, .jo (fun t => ∃ v, A v ∧ t = mk v) :: k, s⟩) : M C Q ⟨.cd c, k, s⟩ :=
 zq _ (fun s' ⟨_, hg, v, hv, e⟩ => mn hg (e ▸ h2 v hv)) h1
theorem kEx (id : Nat) {c : Code} {σ : Type} (A : σ → Prop) (mk : σ → AS) (h2 : ∀ v, A v → M C Q ⟨.ex (.exit id), k, mk v⟩) (h1 : M C Q ⟨.cd c, .je id (fun t => ∃ v, A v ∧ t = mk v) :: k, s⟩) : M C Q ⟨.cd c, k, s⟩ :=
 yO id _ (fun s' ⟨_, hg, v, hv, e⟩ => mn hg (e ▸ h2 v hv)) h1
theorem eX {σ : Type} {A : σ → Prop} {mk : σ → AS} (v : σ) (hv : A v) (hg : dU C s (mk v)) : M C Q ⟨.ex .normal, .jo (fun t => ∃ v, A v ∧ t = mk v) :: k, s⟩ := ⟨mk v, hg, v, hv, rfl⟩
theorem eXi {σ : Type} {A : σ → Prop} {mk : σ → AS} {id : Nat} (v : σ) (hv : A v) (hg : dU C s (mk v)) : M C Q ⟨.ex (.exit id), .je id (fun t => ∃ v, A v ∧ t = mk v) :: k, s⟩ := by
 show dn C Q (.je id (fun t => ∃ v, A v ∧ t = mk v) :: k) (.exit id) s
 simp only [dn, exQ, if_true]; exact ⟨mk v, hg, v, hv, rfl⟩
theorem lG {c : Code} {σ O : Type} (mk : σ → AS) (lp : Nat → σ → Option O) (hz : ∀ q, lp 0 q = none) {o : O} {n : Nat} (q0 : σ) (h0 : lp n q0 = some o) (hle : dU C s (mk q0))
  (round : ∀ m q, lp (m + 1) q = some o → M C Q ⟨.cd c, .jo (fun t => ∃ q', lp m q' = some o ∧ t = mk q') :: k, mk q⟩) : M C Q ⟨.cd (.loop c), k, s⟩ := by
 refine xy mk lp hz q0 h0 hle fun m q hq => mt (fun e s' h => ?_) (round m q hq)
 cases e with
 | normal => obtain ⟨u, hg, q', h1, rfl⟩ := h; exact ⟨q', h1, hg⟩
 | _ => exact h
def lks (sl : List (Nat × AV)) : List Nat → Option (List AV)
 | [] => some []
 | t :: r => (match look sl t with
  | some x => (match lks sl r with | some l => some (x :: l) | none => none)
  | none => none)
def stB (b : Bool) (sl : List (Nat × AV)) : List Nat → List (Nat × AV)
 | [] => sl
 | t :: r => (t, .p (.val (.bool b))) :: stB b sl r
theorem zw {b : Bool} : ∀ {T : List Nat}, lks sl T = some (T.map fun _ => .p (.val (.bool b))) → ∀ j x, look (stB b sl T) j = some x → look sl j = some x
 | [], _, j, x, h => h
 | t :: r, hT, j, x, h => by
  unfold lks at hT
  split at hT
  ·rename_i y hy
   split at hT
   ·rename_i l hl
    simp only [List.map_cons, Option.some.injEq, List.cons.injEq] at hT
    simp only [stB, bn] at h
    split at h
    ·rename_i e; subst e; cases h; rw [hy, hT.1]
    ·exact zw (hl.trans (congrArg some hT.2)) j x h
   ·cases hT
  ·cases hT
theorem pc {b : Bool} {T : List Nat} (hT : lks sl T = some (T.map fun _ => .p (.val (.bool b)))) : dU C ⟨sl, ob⟩ ⟨stB b sl T, ob⟩ :=
 b7 ⟨fun j x hx => by
  have := zw hT j x hx
  simp only [AS.get, this, Option.getD_some]; exact AV.sub_refl x, fun id cs h => ⟨cs, h, Nat.le_refl _, fun i c d hc hd => by rw [hc] at hd; cases hd; exact AV.sub_refl _⟩⟩
theorem fD {c : Ct} {p : Prop} [Decidable p] {α : Type} {a b : Option α} {v : α} (T : List Nat) (h : (if p then a else b) = some v) (hT : lks sl T = some (T.map fun _ => .p (.val (.bool (decide p)))))
  (h1 : p → a = some v → M C Q ⟨c, k, ⟨stB true sl T, ob⟩⟩) (h2 : ¬p → b = some v → M C Q ⟨c, k, ⟨stB false sl T, ob⟩⟩) : M C Q ⟨c, k, ⟨sl, ob⟩⟩ := by
 by_cases hp : p
 ·rw [decide_eq_true hp] at hT; exact mG (pc hT) (h1 hp (x9 hp h))
 ·rw [decide_eq_false hp] at hT; exact mG (pc hT) (h2 hp (if_f hp h))
theorem fN {c : Ct} {p : Prop} [Decidable p] {α : Type} {a b : Option α} {v : α} (T : List Nat) (h : (if p then a else b) = some v) (hT : lks sl T = some (T.map fun _ => .p (.val (.bool (!decide p)))))
  (h1 : p → a = some v → M C Q ⟨c, k, ⟨stB false sl T, ob⟩⟩) (h2 : ¬p → b = some v → M C Q ⟨c, k, ⟨stB true sl T, ob⟩⟩) : M C Q ⟨c, k, ⟨sl, ob⟩⟩ := by
 by_cases hp : p
 ·rw [decide_eq_true hp] at hT; exact mG (pc hT) (h1 hp (x9 hp h))
 ·rw [decide_eq_false hp] at hT; exact mG (pc hT) (h2 hp (if_f hp h))
theorem fB {c : Ct} {p : Bool} {α : Type} {a b : Option α} {v : α} (T : List Nat) (h : (if p = true then a else b) = some v) (hT : lks sl T = some (T.map fun _ => .p (.val (.bool p))))
  (h1 : p = true → a = some v → M C Q ⟨c, k, ⟨stB true sl T, ob⟩⟩) (h2 : p = false → b = some v → M C Q ⟨c, k, ⟨stB false sl T, ob⟩⟩) : M C Q ⟨c, k, ⟨sl, ob⟩⟩ := by
 cases p
 ·exact mG (pc hT) (h2 rfl (yw rfl h))
 ·exact mG (pc hT) (h1 rfl (x9 rfl h))
def gF (ops : Array Oper) (o : Oper) (sl : List (Nat × AV)) : Bool := match o.guard with
 | none => true
 | some _ => (match gdF ops o sl with
  | some (true, .p (.val (.bool true))) => true
  | some (false, .p (.val (.bool false))) => true
  | _ => false)
theorem mO (hg : gF ops o sl = true) (h : aU C o (fun s' => M C Q ⟨.op ops r, k, s'⟩) ⟨sl, ob⟩) : M C Q ⟨.op ops (o :: r), k, ⟨sl, ob⟩⟩ := by
 unfold gF at hg
 split at hg
 ·rename_i hn; exact aV hn h
 ·generalize hgd : gdF ops o sl = G at hg
  split at hg
  ·exact gy rfl hgd h
  ·exact gy rfl hgd h
  ·cases hg
theorem bd {α β : Type} {g : Prop} {p : Option α} {f : α → Option β} {v : β} (h : p.bind f = some v) (H : ∀ x, p = some x → f x = some v → g) : g := by
 obtain ⟨x, h1, h2⟩ := Bm h
 exact H x h1 h2
theorem cc' {α : Type} {g : Prop} {p : Prop} [Decidable p] {a : Option α} {v : α} (h : ck p a = some v) (H : p → a = some v → g) : g := by
 obtain ⟨h1, h2⟩ := jU h
 exact H h1 h2
def biF (C : Cx) (ops : Array Oper) (o : Oper) (sl : List (Nat × AV)) : Option (Nat × BinOp × AV × AV) := match gF ops o sl with
 | true => (match dsF C.n o with
  | some d => (match o.op with
   | .binOp op _ x y _ => (match evo sl x with
    | some X => (match evo sl y with
     | some Y => some (d, op, X, Y)
     | none => none)
    | none => none)
   | _ => none)
  | none => none)
 | false => none
theorem vV {op : BinOp} {X Y : AV} (h : biF C ops o sl = some (d, op, X, Y)) : gF ops o sl = true ∧ o.dst = some d ∧ Nat.blt d C.n = true ∧ ∃ t x y t', o.op = .binOp op t x y t' ∧ evo sl x = some X ∧ evo sl y = some Y := by
 unfold biF at h
 split at h
 ·rename_i hg
  split at h
  ·rename_i e hd
   split at h
   ·rename_i op' t x y t' ho
    split at h
    ·rename_i X' hx
     split at h
     ·rename_i Y' hy
      cases h
      exact ⟨hg, (iS hd).1, (iS hd).2, t, x, y, t', ho, hx, hy⟩
     ·cases h
    ·cases h
   ·cases h
  ·cases h
 ·cases h
theorem oA {α : Type} {a : Option α} {v : α} {op : BinOp} {x y c : Int} (h : ck (inR c) a = some v) (hb : biF C ops o sl = some (d, op, .p (.val (.int .i64 x)), .p (.val (.int .i64 y)))) (hc : arI op x y = some c)
  (H : inR c → a = some v → M C Q ⟨.op ops r, k, ⟨(d, .p (eI c)) :: sl, ob⟩⟩) : M C Q ⟨.op ops (o :: r), k, ⟨sl, ob⟩⟩ := by
 obtain ⟨hg, hd, hn, t, X, Y, t', ho, hx, hy⟩ := vV hb
 obtain ⟨h1, h2⟩ := jU h
 exact mO hg (eV ho hd hn hx hy hc h1 (H h1 h2))
theorem oS {op : BinOp} {x y : Bytes} {c : Bool} (hb : biF C ops o sl = some (d, op, .p (.val (.string (str x))), .p (.val (.string (str y))))) (hc : AJ op x y = some c)
  (H : M C Q ⟨.op ops r, k, ⟨(d, .p (eB c)) :: sl, ob⟩⟩) : M C Q ⟨.op ops (o :: r), k, ⟨sl, ob⟩⟩ := by
 obtain ⟨hg, hd, hn, t, X, Y, t', ho, hx, hy⟩ := vV hb
 exact mO hg (cE ho hd hn hx hy hc H)
theorem oC {α : Type} {a : Option α} {v : α} {x y : Bytes} (h : ck (x.length + y.length ≤ 9223372036854775807) a = some v) (hb : biF C ops o sl = some (d, .add, .p (.val (.string (str x))), .p (.val (.string (str y)))))
  (H : x.length + y.length ≤ 9223372036854775807 → a = some v → M C Q ⟨.op ops r, k, ⟨(d, .p (eS (x ++ y))) :: sl, ob⟩⟩) : M C Q ⟨.op ops (o :: r), k, ⟨sl, ob⟩⟩ := by
 obtain ⟨hg, hd, hn, t, X, Y, t', ho, hx, hy⟩ := vV hb
 obtain ⟨h1, h2⟩ := jU h
 exact mO hg (b9 ho hd hn hx hy h1 (H h1 h2))
def lnF (C : Cx) (ops : Array Oper) (o : Oper) (sl : List (Nat × AV)) : Option (Nat × Bool × AV) := match gF ops o sl with
 | true => (match dsF C.n o with
  | some d => (match o.op with
   | .call ⟨.builtin .len, ⟨[x]⟩, ⟨[t]⟩⟩ => (match look C.tt t with
    | some i => (match evo sl x with
     | some X => (match i.k with
      | .string => some (d, true, X)
      | .slice _ => some (d, false, X)
      | _ => none)
     | none => none)
    | none => none)
   | _ => none)
  | none => none)
 | false => none
theorem oLs {x : Bytes} (hb : lnF C ops o sl = some (d, true, .p (.val (.string (str x))))) (H : M C Q ⟨.op ops r, k, ⟨(d, .p (eI (x.length : Int))) :: sl, ob⟩⟩) : M C Q ⟨.op ops (o :: r), k, ⟨sl, ob⟩⟩ := by
 unfold lnF at hb
 split at hb
 ·rename_i hg
  split at hb
  ·rename_i e hd
   split at hb
   ·rename_i z t ho
    split at hb
    ·rename_i i hi
     split at hb
     ·rename_i X hx
      split at hb
      ·rename_i hk; cases hb; exact mO hg (fw ho (iS hd).1 (iS hd).2 hi hk hx H)
      ·cases hb
      ·cases hb
     ·cases hb
    ·cases hb
   ·cases hb
  ·cases hb
 ·cases hb
theorem oLl {α : Type} {f : α → PV} {l : List α} {X : AV} (hb : lnF C ops o sl = some (d, false, X)) (hX : X.elems? = some (l.map f)) (H : M C Q ⟨.op ops r, k, ⟨(d, .p (eI (l.length : Int))) :: sl, ob⟩⟩) : M C Q ⟨.op ops (o :: r), k, ⟨sl, ob⟩⟩ := by
 unfold lnF at hb
 split at hb
 ·rename_i hg
  split at hb
  ·rename_i e hd
   split at hb
   ·rename_i z t ho
    split at hb
    ·rename_i i hi
     split at hb
     ·rename_i X' hx
      split at hb
      ·cases hb
      ·rename_i hk; cases hb; exact mO hg (jw ho (iS hd).1 (iS hd).2 hi hk hx hX H)
      ·cases hb
     ·cases hb
    ·cases hb
   ·cases hb
  ·cases hb
 ·cases hb
def ixF (C : Cx) (ops : Array Oper) (o : Oper) (sl : List (Nat × AV)) : Option (Nat × AV × AV) := match gF ops o sl with
 | true => (match dsF C.n o with
  | some d => (match o.op with
   | .index t x y => (match look C.tt t with
    | some i => (match i.k with
     | .string => (match evo sl x with
      | some X => (match evo sl y with | some Y => some (d, X, Y) | none => none)
      | none => none)
     | _ => none)
    | none => none)
   | _ => none)
  | none => none)
 | false => none
theorem oI {α : Type} {a : Option α} {v : α} {x : Bytes} {i : IntKind} {j : Int} (h : ck ((0 : Int) ≤ j ∧ j < (x.length : Int)) a = some v) (hb : ixF C ops o sl = some (d, .p (.val (.string (str x))), .p (.val (.int i j))))
  (H : (0 : Int) ≤ j ∧ j < (x.length : Int) → a = some v → M C Q ⟨.op ops r, k, ⟨(d, .p (eK .u8 (byt x j))) :: sl, ob⟩⟩) : M C Q ⟨.op ops (o :: r), k, ⟨sl, ob⟩⟩ := by
 obtain ⟨h1, h2⟩ := jU h
 unfold ixF at hb
 split at hb
 ·rename_i hg
  split at hb
  ·rename_i e hd
   split at hb
   ·rename_i t X Y ho
    split at hb
    ·rename_i i hi
     split at hb
     ·rename_i hk
      split at hb
      ·rename_i hx
       split at hb
       ·rename_i hy; cases hb; exact mO hg (xm ho (iS hd).1 (iS hd).2 hi hk hx hy h1 (H h1 h2))
       ·cases hb
      ·cases hb
     ·cases hb
    ·cases hb
   ·cases hb
  ·cases hb
 ·cases hb
def slF (C : Cx) (ops : Array Oper) (o : Oper) (sl : List (Nat × AV)) : Option (Nat × AV × Option Operand × Option Operand) := match gF ops o sl with
 | true => (match dsF C.n o with
  | some d => (match o.op with
   | .slice t x lo hi none => (match look C.tt t with
    | some i => (match i.k with
     | .string => (match evo sl x with
      | some X => some (d, X, lo, hi)
      | none => none)
     | _ => none)
    | none => none)
   | _ => none)
  | none => none)
 | false => none
theorem oP {α : Type} {a : Option α} {v : α} {x : Bytes} {i j : Int} {lo hi : Option Operand} (h : ck ((0 : Int) ≤ i ∧ i ≤ j ∧ j ≤ (x.length : Int)) a = some v) (hb : slF C ops o sl = some (d, .p (.val (.string (str x))), lo, hi)) (hlo : loI sl lo = some i) (hhi : hiI sl (x.length : Int) hi = some j)
  (H : (0 : Int) ≤ i ∧ i ≤ j ∧ j ≤ (x.length : Int) → a = some v → M C Q ⟨.op ops r, k, ⟨(d, .p (eS (sub x i j))) :: sl, ob⟩⟩) : M C Q ⟨.op ops (o :: r), k, ⟨sl, ob⟩⟩ := by
 obtain ⟨h1, h2⟩ := jU h
 unfold slF at hb
 split at hb
 ·rename_i hg
  split at hb
  ·rename_i e hd
   split at hb
   ·rename_i t X lo' hi' ho
    split at hb
    ·rename_i i hi
     split at hb
     ·rename_i hk
      split at hb
      ·rename_i hx
       cases hb; exact mO hg (su ho (iS hd).1 (iS hd).2 hi hk hx hlo hhi h1 (H h1 h2))
      ·cases hb
     ·cases hb
    ·cases hb
   ·cases hb
  ·cases hb
 ·cases hb
def atF (C : Cx) (ops : Array Oper) (o : Oper) (sl : List (Nat × AV)) : Option (Nat × Nat × AV × AV) := match gF ops o sl with
 | true => (match dsF C.n o with
  | some d => (match o.op with
   | .indexAddr t x y => (match look C.tt t with
    | some i => (match i.k with
     | .slice e => (match look C.tt e with
      | some ie => (match evo sl x with
       | some X => (match evo sl y with | some Y => some (d, ie.size, X, Y) | none => none)
       | none => none)
      | none => none)
     | _ => none)
    | none => none)
   | _ => none)
  | none => none)
 | false => none
theorem oE {α β : Type} [Inhabited α] {a : Option β} {v : β} {f : α → PV} {l : List α} {cs : α → List PV} {X : AV} {sz : Nat} {i : IntKind} {j : Int} (h : ck ((0 : Int) ≤ j ∧ j < (l.length : Int)) a = some v) (hcs : ∀ x, (f x).cells = cs x) (hb : atF C ops o sl = some (d, sz, X, .p (.val (.int i j)))) (hX : X.elems? = some (l.map f)) (hsz : ∀ x, (cs x).length = sz)
  (H : (0 : Int) ≤ j ∧ j < (l.length : Int) → a = some v → M C Q ⟨.op ops r, k, ⟨(d, .rptr (cs (lat l j))) :: sl, ob⟩⟩) : M C Q ⟨.op ops (o :: r), k, ⟨sl, ob⟩⟩ := by
 obtain ⟨h1, h2⟩ := jU h
 unfold atF at hb
 split at hb
 ·rename_i hg
  split at hb
  ·rename_i e hd
   split at hb
   ·rename_i t X Y ho
    split at hb
    ·rename_i i hi
     split at hb
     ·rename_i hk
      split at hb
      ·rename_i ie hie
       split at hb
       ·rename_i hx
        split at hb
        ·rename_i hy; cases hb; exact mO hg (ce cs ho (iS hd).1 (iS hd).2 hi hk hie hx hX hy h1 hcs hsz (H h1 h2))
        ·cases hb
       ·cases hb
      ·cases hb
     ·cases hb
    ·cases hb
   ·cases hb
  ·cases hb
 ·cases hb
def clF (C : Cx) (ops : Array Oper) (o : Oper) (sl : List (Nat × AV)) : Option (Nat × FuncId × List AV) := match gF ops o sl with
 | true => (match dsF C.n o with
  | some d => (match o.op with
   | .call ⟨.value (.func f), args, _⟩ => (match ko sl args.toList with
    | some l => some (d, f, l)
    | none => none)
   | _ => none)
  | none => none)
 | false => none
theorem oK {f : FuncId} {l : List AV} {q : List PV} {x x' : AV} (hc : aF C.P f q (· = x)) (hb : clF C ops o sl = some (d, f, l)) (hq : u3 l q) (henter : ∀ vs w, (callFunc f vs).run C.P w = .ok (.enter f vs) w) (hr : x.settle = some x')
  (H : M C Q ⟨.op ops r, k, ⟨(d, x') :: sl, ob⟩⟩) : M C Q ⟨.op ops (o :: r), k, ⟨sl, ob⟩⟩ := by
 unfold clF at hb
 split at hb
 ·rename_i hg
  split at hb
  ·rename_i e hd
   split at hb
   ·rename_i f' args ts ho
    split at hb
    ·rename_i l' hl; cases hb; exact mO hg (bj hc ho (iS hd).1 (iS hd).2 hl hq henter hr H)
    ·cases hb
   ·cases hb
  ·cases hb
 ·cases hb
def tO : Operand → List Nat → List Nat
 | .tmp t, l => t :: l
 | _, l => l
def tOs : List Operand → List Nat
 | [] => []
 | x :: r => tO x (tOs r)
def tms (o : Oper) : List Nat := match o.op with
 | .move x => tO x []
 | .assign x => tO x []
 | .pick c x y => tO c (tO x (tO y []))
 | .binOp _ _ x y _ => tO x (tO y [])
 | .unOp _ _ x => tO x []
 | .fieldAddr _ x _ => tO x []
 | .load _ x => tO x []
 | .nilCheck x => tO x []
 | .extract x _ => tO x []
 | .field _ x _ => tO x []
 | .convert _ _ x => tO x []
 | .build _ parts => tOs (parts.toList.map (·.2))
 | .call c => tOs c.args.toList
 | _ => []
def gdT (ops : Array Oper) (o : Oper) (l : List Nat) : List Nat := match o.guard with
 | some (j, _) => (match (ops.toList[j]?).bind (·.dst) with
  | some t => t :: l
  | none => l)
 | none => l
def knL (base : List (Nat × AV)) (o : Oper) (rev : Rev) : List Nat → List (Nat × AV)
 | [] => []
 | i :: r => (match knX base o rev i with
  | some x => (i, x) :: knL base o rev r
  | none => knL base o rev r)
theorem vC {base : List (Nat × AV)} {rev : Rev} : ∀ {l : List Nat}, xF base o rev (knL base o rev l)
 | [] => trivial
 | i :: r => by
  unfold knL
  split
  ·rename_i x hx; exact ⟨zE hx, vC⟩
  ·exact vC
theorem kl {kn : List (Nat × AV)} (hs : ∀ i x, look kn i = some x → look sl i = some x) (x : Operand) : evo kn x = none ∨ evo kn x = evo sl x := by
 cases h : evo kn x with
 | none => exact .inl rfl
 | some y => exact .inr (pU hs h).symm
theorem sH {kn : List (Nat × AV)} (hs : ∀ i x, look kn i = some x → look sl i = some x) : ∀ {l : List (Nat × Operand)} {ps : List (Nat × AV)}, gY kn l = some ps → gY sl l = some ps
 | [], ps, h => h
 | (i, x) :: r, ps, h => by
  unfold gY at h ⊢
  split at h
  ·rename_i y l hy hl; cases h; rw [pU hs hy, sH hs hl]
  ·cases h
theorem x8 {kn : List (Nat × AV)} {y : AV} (hs : ∀ i x, look kn i = some x → look sl i = some x) (h : opV C o kn ob = some y) : opV C o sl ob = some y := by
 unfold opV at h ⊢
 split at h
 ·exact pU hs h
 ·exact pU hs h
 ·rename_i c x y _
  rcases kl hs c with e | e
  ·rw [e] at h; cases h
  ·rw [← e]
   generalize evo kn c = z at h
   unfold pkP at h ⊢
   split at h
   ·exact pU hs h
   ·exact pU hs h
   ·cases h
 ·rename_i op t x y _ _
  rcases kl hs x with e | e
  ·rw [e] at h; cases h
  ·rw [← e]
   rcases kl hs y with e | e
   ·rw [e] at h
    unfold bnP at h
    split at h
    ·rename_i h2; cases h2
    ·rename_i h2; cases h2
    ·cases h
   ·rw [← e]; exact h
 ·rename_i x _; rcases kl hs x with e | e
  ·rw [e] at h; cases h
  ·rw [← e]; exact h
 ·rename_i t x f _; rcases kl hs x with e | e
  ·rw [e] at h; unfold faP at h; (repeat' split at h) <;> first | contradiction | cases h
  ·rw [← e]; exact h
 ·rename_i t x _; rcases kl hs x with e | e
  ·rw [e] at h; unfold ldP at h; split at h <;> cases h
  ·rw [← e]; exact h
 ·rename_i x _; rcases kl hs x with e | e
  ·rw [e] at h; cases h
  ·rw [← e]; exact h
 ·rename_i x n _; rcases kl hs x with e | e
  ·rw [e] at h; cases h
  ·rw [← e]; exact h
 ·rename_i t x f _; rcases kl hs x with e | e
  ·rw [e] at h; unfold flP at h; (repeat' split at h) <;> first | contradiction | cases h
  ·rw [← e]; exact h
 ·rename_i s t x _; rcases kl hs x with e | e
  ·rw [e] at h; unfold cvP at h; (repeat' split at h) <;> first | contradiction | cases h
  ·rw [← e]; exact h
 ·rename_i t parts _
  cases e : gY kn parts.toList with
  | none => rw [e] at h; unfold buP at h; (repeat' split at h) <;> first | contradiction | cases h
  | some ps => rw [e] at h; rw [sH hs e]; exact h
 ·rename_i c _
  unfold laP at h ⊢
  split at h
  ·rename_i x t _
   rcases kl hs x with e | e
   ·rw [e] at h; (repeat' split at h) <;> first | contradiction | cases h
   ·rw [← e]; exact h
  ·cases h
 ·cases h
def oV (C : Cx) (ops : Array Oper) (o : Oper) (sl : List (Nat × AV)) (ob : List (Nat × List AV)) : Option AV := match o.guard with
 | none => opV C o sl ob
 | some _ => (match gdF ops o sl with
  | some (true, .p (.val (.bool true))) => opV C o sl ob
  | some (true, .p (.val (.bool false))) => some (.p (.val Go.undef))
  | some (false, .p (.val (.bool true))) => some (.p (.val Go.undef))
  | some (false, .p (.val (.bool false))) => opV C o sl ob
  | some (_, .p (.val v)) => (match isU v with | true => some (.p (.val Go.undef)) | false => none)
  | _ => none)
def drF (C : Cx) (ops : Array Oper) (base : List (Nat × AV)) (ob : List (Nat × List AV)) (o : Oper) (rev : Rev) : Option (Nat × AV) := match nwF base rev o with
 | some d => (match Nat.blt d C.n with
  | true => (match oV C ops o (knL base o rev (gdT ops o (tms o))) ob with
   | some y => some (d, y)
   | none => none)
  | false => none)
 | none => none
theorem AF {kn : List (Nat × AV)} {y : AV} (h : oV C ops o kn ob = some y) (hd : o.dst = some d) (hn : Nat.blt d C.n = true) : p9 C ops ob o kn d y := by
 intro sl hs K hK
 unfold oV at h
 split at h
 ·rename_i hg; exact ae hg (wi (x8 hs h) hd hn hK)
 ·generalize hgd : gdF ops o kn = G at h
  have yes : ∀ {w : Bool}, gdF ops o kn = some (w, .p (.val (.bool w))) → opV C o kn ob = some y → One C ops o K ⟨sl, ob⟩ := fun hgd h => by
   obtain ⟨j, t, hg, hj, hv⟩ := pP hgd
   exact aZ (wi (x8 hs h) hd hn hK) hg hj (hs _ _ hv) rfl
  have no : ∀ {w b : Bool}, gdF ops o kn = some (w, .p (.val (.bool b))) → b = (!w) → y = .p (.val Go.undef) → One C ops o K ⟨sl, ob⟩ := fun hgd hb h => by
   subst h
   obtain ⟨j, t, hg, hj, hv⟩ := pP hgd
   exact Bj hg hj (hs _ _ hv) hb hd hn hK
  split at h
  ·exact yes hgd h
  ·cases h; exact no hgd rfl rfl
  ·cases h; exact no hgd rfl rfl
  ·exact yes hgd h
  ·split at h
   ·rename_i hu
    have := y5 hu; subst this
    cases h
    obtain ⟨j, t, hg, hj, hv⟩ := pP hgd
    exact yT hg hj (hs _ _ hv) hd hn hK
   ·cases h
  ·cases h
def drw (C : Cx) (ops : Array Oper) (base : List (Nat × AV)) (ob : List (Nat × List AV)) : Nat → List Oper → Nat → Rev → Option (List Oper × Nat × Rev)
 | 0, l, i, rev => some (l, i, rev)
 | n + 1, o :: l, i, rev => (match drF C ops base ob o rev with
  | some (d, y) => drw C ops base ob n l (i + 1) ((i, d, y) :: rev)
  | none => none)
 | _ + 1, [], _, _ => none
theorem dR {base : List (Nat × AV)} : ∀ (n : Nat) {l l' : List Oper} {i i' : Nat} {rev rev' : Rev}, drw C ops base ob n l i rev = some (l', i', rev') → DQ C ops base ob K l' i' rev' → DQ C ops base ob K l i rev
 | 0, l, l', i, i', rev, rev', h, hK => by cases h; exact hK
 | n + 1, [], l', i, i', rev, rev', h, hK => by cases h
 | n + 1, o :: l, l', i, i', rev, rev', h, hK => by
  unfold drw at h
  split at h
  ·rename_i d y hd
   unfold drF at hd
   split at hd
   ·rename_i e he
    split at hd
    ·rename_i hn
     split at hd
     ·rename_i z hz
      cases hd
      exact wB y _ vC (AF hz (nS he).1 hn) (nS he).1 (nS he).2.1 (nS he).2.2 (dR n h hK)
     ·cases hd
    ·cases hd
   ·cases hd
  ·cases h
theorem mD (base : List (Nat × AV)) {id : Nat} (hm : C.P.follows .mixedOrders = true) (hb : gB sl base) (hord : (ops.toList.zipIdx.all fun p => p.1.after.toList.all fun e => Nat.blt e.on p.2) = true)
  (h : DQ C ops base ob (fun s' => M C Q ⟨.ex .normal, k, s'⟩) ops.toList 0 []) : M C Q ⟨.cd (.region id ops true), k, ⟨sl, ob⟩⟩ := xB base hm hb hord h
def AB : Rev → List (Nat × AV) → Option (List (Nat × AV))
 | [], b => some b
 | (_, p) :: r, b => (match AB r b with | some l => some (p :: l) | none => none)
theorem wN : ∀ {rev : Rev} {b l : List (Nat × AV)}, AB rev b = some l → l = mr rev ++ b
 | [], b, l, h => by cases h; rfl
 | (i, p) :: r, b, l, h => by
  unfold AB at h
  split at h
  ·rename_i m hm; cases h; rw [wN hm]; rfl
  ·cases h
theorem dE {base l : List (Nat × AV)} {i : Nat} {rev : Rev} (h : AB rev base = some l) (hM : M C Q ⟨.ex .normal, k, ⟨l, ob⟩⟩) : DQ C ops base ob (fun s' => M C Q ⟨.ex .normal, k, s'⟩) [] i rev :=
 B7 (by rw [← wN h]; exact hM)
theorem dL {base : List (Nat × AV)} {l : List Oper} {i : Nat} {rev : Rev} {q b : Bool} (hb : q = b) (h : drF C ops base ob o rev = some (d, .p (.val (.bool q)))) (hK : DQ C ops base ob K l (i + 1) ((i, d, .p (.val (.bool b))) :: rev)) : DQ C ops base ob K (o :: l) i rev := by
 subst hb
 refine dR 1 (l' := l) (i' := i + 1) (rev' := (i, d, .p (.val (.bool q))) :: rev) ?_ hK
 simp only [drw, h]
theorem mS (S : jd) {id : Nat} (hm : C.P.follows .mixedOrders = true) (hlen : S.imp.length = S.m) (hob : S.obj 0 = ob) (hb : gB sl (S.bas 0))
  (hbas : ∀ j, j < S.m → gB (trL (S.D j) (S.bas j)) (S.bas (j + 1))) (hnd : nodupB S.imp = true) (hin : S.imp.all (fun i => Nat.blt i ops.size) = true) (hch : chainB ops S.imp = true)
  (hord : (ops.toList.zipIdx.all fun p => p.1.after.toList.all fun e => !(Region.binds .any e) || Nat.blt e.on p.2) = true) (h : DS C ops S (fun rev => M C Q ⟨.ex .normal, k, ⟨gg rev S.m ++ S.bas S.m, S.obj S.m⟩⟩) ops.toList 0 []) : M C Q ⟨.cd (.region id ops true), k, ⟨sl, ob⟩⟩ :=
 xE S hm hlen hob hb hbas hnd hin hch hord h
def lkO (ob : List (Nat × List AV)) : List Nat → Option (List (List AV))
 | [] => some []
 | t :: r => (match look ob t with
  | some x => (match lkO ob r with | some l => some (x :: l) | none => none)
  | none => none)
theorem wh {sl : List (Nat × AV)} : ∀ {q : List (Nat × AV)}, lks sl (q.map (·.1)) = some (q.map (·.2)) → ∀ j x, look q j = some x → look sl j = some x
 | [], _, j, x, h => by cases h
 | (i, y) :: r, hT, j, x, h => by
  simp only [List.map_cons] at hT
  unfold lks at hT
  split at hT
  ·rename_i z hz
   split at hT
   ·rename_i l hl
    simp only [Option.some.injEq, List.cons.injEq] at hT
    rw [bn] at h
    split at h
    ·rename_i e; subst e; cases h; rw [hz, hT.1]
    ·exact wh (hl.trans (congrArg some hT.2)) j x h
   ·cases hT
  ·cases hT
theorem yL {ob : List (Nat × List AV)} : ∀ {q : List (Nat × List AV)}, lkO ob (q.map (·.1)) = some (q.map (·.2)) → ∀ j x, look q j = some x → look ob j = some x
 | [], _, j, x, h => by cases h
 | (i, y) :: r, hT, j, x, h => by
  simp only [List.map_cons] at hT
  unfold lkO at hT
  split at hT
  ·rename_i z hz
   split at hT
   ·rename_i l hl
    simp only [Option.some.injEq, List.cons.injEq] at hT
    rw [bn] at h
    split at h
    ·rename_i e; subst e; cases h; rw [hz, hT.1]
    ·exact yL (hl.trans (congrArg some hT.2)) j x h
   ·cases hT
  ·cases hT
def lkE (a b : List (Nat × List AV)) : List (Nat × List AV) → Prop
 | [] => True
 | (i, _) :: r => look b i = look a i ∧ lkE a b r
theorem xP {a b : List (Nat × List AV)} : ∀ {l : List (Nat × List AV)}, lkE a b l → ∀ i x, look l i = some x → look b i = look a i
 | [], _, i, x, h => by cases h
 | (j, y) :: r, ⟨h1, h2⟩, i, x, h => by
  rw [bn] at h
  by_cases e : j = i
  ·subst e; exact h1
  ·rw [if_neg e] at h; exact xP h2 i x h
theorem BE {C : Cx} {ops : Array Oper} {S1 S2 : jd} {k : Nat} {r1 r2 : iz} {imp : List Nat} (h1 : lks (gg r2 S2.m ++ S2.bas S2.m) ((gg r1 S1.m ++ S1.bas S1.m).map (·.1)) = some ((gg r1 S1.m ++ S1.bas S1.m).map (·.2)))
  (h2 : lkE (S1.obj S1.m) (S2.obj S2.m) (S1.obj S1.m)) (h3 : pH imp r1 r2) :
  DS C ops S2 (fun rev2 => (⟨gg rev2 S2.m ++ S2.bas S2.m, S2.obj S2.m⟩ : AS).le ⟨gg r1 S1.m ++ S1.bas S1.m, S1.obj S1.m⟩ ∧ pH imp r1 rev2) [] k r2 := by
 refine ⟨⟨fun j x h => ?_, fun id cs h => ⟨cs, (xP h2 id cs h).trans h, Nat.le_refl _, fun i c d a b => by rw [a] at b; cases b; exact AV.sub_refl _⟩⟩, h3⟩
 have := wh h1 j x h
 unfold AS.get
 rw [this]
 exact AV.sub_refl _
theorem mSS {C : Cx} {Q : Exit → AS → Prop} {k : List Fr} {ops : Array Oper} {sl : List (Nat × AV)} {ob : List (Nat × List AV)} (S1 S2 : jd) {id k1 k2 : Nat} {r : List Nat} (hm : C.P.follows .mixedOrders = true)
  (hi1 : S1.imp = k1 :: k2 :: r) (hi2 : S2.imp = k2 :: k1 :: r) (hlen1 : S1.imp.length = S1.m) (hlen2 : S2.imp.length = S2.m) (hob1 : S1.obj 0 = ob) (hob2 : S2.obj 0 = ob) (hb : gB sl (S1.bas 0)) (hb2 : S2.bas 0 = S1.bas 0)
  (hbas1 : ∀ j, j < S1.m → gB (trL (S1.D j) (S1.bas j)) (S1.bas (j + 1))) (hbas2 : ∀ j, j < S2.m → gB (trL (S2.D j) (S2.bas j)) (S2.bas (j + 1)))
  (hnd : nodupB (k1 :: k2 :: r) = true) (hin : (k1 :: k2 :: r).all (fun i => Nat.blt i ops.size) = true) (hch1 : chainB ops (k1 :: r) = true) (hch2 : chainB ops (k2 :: r) = true)
  (hord : (ops.toList.zipIdx.all fun p => p.1.after.toList.all fun e => !(Region.binds .any e) || Nat.blt e.on p.2) = true)
  (h : DS C ops S1 (fun rev1 => M C Q ⟨.ex .normal, k, ⟨gg rev1 S1.m ++ S1.bas S1.m, S1.obj S1.m⟩⟩ ∧ DS C ops S2 (fun rev2 => (⟨gg rev2 S2.m ++ S2.bas S2.m, S2.obj S2.m⟩ : AS).le ⟨gg rev1 S1.m ++ S1.bas S1.m, S1.obj S1.m⟩ ∧ pH (k1 :: k2 :: r) rev1 rev2) ops.toList 0 []) ops.toList 0 []) :
  M C Q ⟨.cd (.region id ops true), k, ⟨sl, ob⟩⟩ :=
 wa S1 S2 hm hi1 hi2 hlen1 hlen2 hob1 hob2 hb hb2 hbas1 hbas2 hnd hin hch1 hch2 hord h
theorem gE {s t : AS} (h1 : lks s.sl (t.sl.map (·.1)) = some (t.sl.map (·.2))) (h2 : lkO s.ob (t.ob.map (·.1)) = some (t.ob.map (·.2))) : dU C s t :=
 b7 ⟨fun j x hx => by
  have := wh h1 j x hx
  simp only [AS.get, this, Option.getD_some]; exact AV.sub_refl x, fun id cs h => ⟨cs, yL h2 id cs h, Nat.le_refl _, fun i c d hc hd => by rw [hc] at hd; cases hd; exact AV.sub_refl _⟩⟩
theorem mP {β : Type} {v0 : β} {tt : List (Nat × TI)} {fn : Func} {c : Code} (mk : β → AV) (h : M C (fun e s => ∃ v, v = v0 ∧ yU tt fn (fun x => x.sub (mk v)) e s) ⟨.cd c, [], s⟩) : awp C c (yU tt fn (fun x => x.sub (mk v0))) s :=
 mt (fun e s h => by obtain ⟨t, h1, v, rfl, h2⟩ := h; exact ⟨t, h1, h2⟩) h |> vJ
theorem mQ {β : Type} {v v0 : β} {tt : List (Nat × TI)} {fn : Func} {mk : β → AV} {l : List AV} (e : v = v0) (h : me tt fn.results.toList s = some l) (hR : (lV l).sub (mk v)) : M C (fun e s => ∃ v, v = v0 ∧ yU tt fn (fun x => x.sub (mk v)) e s) ⟨.ex .ret, [], s⟩ :=
 ⟨s, bv s, v, e, lN h hR⟩
theorem mPo {β : Type} {v0 : β} {tt : List (Nat × TI)} {fn : Func} {ts ids : List Nat} {c : Code} (mk : β → AV) (mo : β → List (Nat × List AV)) (h : M C (fun e s => ∃ v, v = v0 ∧ vi C tt fn ts ids (mk v) (mo v) e s) ⟨.cd c, [], s⟩) : awp C c (vi C tt fn ts ids (mk v0) (mo v0)) s :=
 mt (fun e s h => by obtain ⟨t, h1, v, rfl, h2⟩ := h; exact ⟨t, h1, h2⟩) h |> vJ
theorem mQo {β : Type} {v v0 : β} {tt : List (Nat × TI)} {fn : Func} {ts ids : List Nat} {mk : β → AV} {mo : β → List (Nat × List AV)} {r1 : AV} {obs obs' : List (Nat × List AV)} {t : AS} {l : List AV} (e : v = v0) (hg : dU C s t) (h1 : me tt fn.results.toList t = some l) (h2 : (lV l).mapA (j8 ts) = some r1)
  (h3 : hZ t.ob ids = some obs) (h4 : iA (j8 ts) obs = some obs') (h5 : r1.sub (mk v)) (h6 : leO obs' (mo v)) : M C (fun e s => ∃ v, v = v0 ∧ vi C tt fn ts ids (mk v) (mo v) e s) ⟨.ex .ret, [], s⟩ :=
 ⟨s, bv s, v, e, nj hg h1 h2 h3 h4 h5 h6⟩
theorem za {β : Type} {v v0 : β} {tt : List (Nat × TI)} {fn : Func} {ts ids : List Nat} {mk : β → AV} {mo : β → List (Nat × List AV)} {r1 : AV} {obs obs' : List (Nat × List AV)} {t : AS} {l : List AV} (e : v = v0) (hg : dU C s t) (h1 : me tt fn.results.toList t = some l) (h2 : (lV l).mapA (j8 ts) = some r1)
  (h3 : hZ t.ob ids = some obs) (h4 : iA (j8 ts) obs = some obs') (h5 : r1.sub (mk v)) (h6 : leO obs' (mo v)) : M C (fun e s => ∃ v, v = v0 ∧ vi C tt fn ts ids (mk v) (mo v) e s) ⟨.ex .normal, [], s⟩ :=
 ⟨s, bv s, v, e, Am hg h1 h2 h3 h4 h5 h6⟩
theorem kN {c : Code} {σ : Type} (w : σ) (mk : σ → AS) (h2 : M C Q ⟨.ex .normal, k, mk w⟩) (h1 : M C Q ⟨.cd c, .jo (fun t => ∃ v, w = v ∧ t = mk v) :: k, s⟩) : M C Q ⟨.cd c, k, s⟩ :=
 kX (fun v => w = v) mk (fun _ e => e ▸ h2) h1
theorem kE (id : Nat) {c : Code} {σ : Type} (w : σ) (mk : σ → AS) (h2 : M C Q ⟨.ex (.exit id), k, mk w⟩) (h1 : M C Q ⟨.cd c, .je id (fun t => ∃ v, w = v ∧ t = mk v) :: k, s⟩) : M C Q ⟨.cd c, k, s⟩ :=
 kEx id (fun v => w = v) mk (fun _ e => e ▸ h2) h1
end
end Go.Ab
namespace Go.Ab
/- What holds no identity is not touched by the marks of a box or a new object. -/
mutual
theorem Aq {D : Nat → Bool} : ∀ {x y : AV}, AV.mapA (fun _ => none) x = some y → y = x → x.dem D = x
 | .undef, _, _, _ => rfl
 | .p _, _, _, _ => rfl
 | .vec .., y, h, e => by simp only [AV.mapA, Option.some.injEq] at h; subst h; cases e
 | .arr .., _, h, _ => by simp only [AV.mapA] at h; cases h
 | .ptr .., _, h, _ => by simp only [AV.mapA] at h; cases h
 | .bptr .., _, h, _ => by simp only [AV.mapA] at h; cases h
 | .mp .., _, h, _ => by simp only [AV.mapA] at h; cases h
 | .mpr .., _, h, _ => by simp only [AV.mapA] at h; cases h
 | .stk .., _, h, _ => by simp only [AV.mapA] at h; cases h
 | .rptr _, _, _, _ => rfl
 | .agg cs, y, h, e => by
  subst e
  simp only [AV.mapA] at h
  cases hl : AV.mapA.go (fun _ => none) cs with
  | none => rw [hl] at h; cases h
  | some l => rw [hl] at h; cases h; simp only [AV.dem]; exact congrArg _ (ls hl rfl)
 | .tuple cs, y, h, e => by
  subst e
  simp only [AV.mapA] at h
  cases hl : AV.mapA.go (fun _ => none) cs with
  | none => rw [hl] at h; cases h
  | some l => rw [hl] at h; cases h; simp only [AV.dem]; exact congrArg _ (ls hl rfl)
 | .func f cs, y, h, e => by
  subst e
  simp only [AV.mapA] at h
  cases hl : AV.mapA.go (fun _ => none) cs with
  | none => rw [hl] at h; cases h
  | some l => rw [hl] at h; cases h; simp only [AV.dem]; exact congrArg _ (ls hl rfl)
theorem ls {D : Nat → Bool} : ∀ {l l' : List AV}, AV.mapA.go (fun _ => none) l = some l' → l' = l → j4 D l = l
 | [], _, _, _ => rfl
 | x :: r, l', h, e => by
  subst e
  simp only [AV.mapA.go] at h
  split at h
  ·rename_i y z hy hz
   cases h
   simp only [j4, Aq hy rfl, ls hz rfl]
  ·cases h
end
theorem CC {C : List AV} (K : AV.mapA.go (fun _ => none) C = some C) (D : Nat → Bool) : j4 D C = C := ls K rfl
end Go.Ab
end
section
set_option linter.unusedSimpArgs false
set_option linter.unnecessarySimpa false
set_option linter.unusedVariables false
namespace Go.Ab
open Go.Proofs Go.RowKit Go
structure aD where
 fbuf : Bytes
def ct (b : aD) : Option aD := some b
def dl (b : aD) : Option (Bytes × aD) := ck (b.fbuf.length ≤ 9223372036854775807) <| some (b.fbuf, b)
theorem A1 : ∃ j, Tryz.prog.info? 110 = some j ∧ j.size = 2 := by
 have h : (Tryz.prog.info? 110).map (·.size) = some 2 := by kernel_rfl
 obtain ⟨j, hj, hs⟩ := Option.map_eq_some_iff.1 h
 exact ⟨j, hj, hs⟩
set_option maxHeartbeats 1000000 in
set_option maxRecDepth 100000 in
theorem ru (b : Nat) (w : World) (h0 : w.cell? ⟨b, 0, none⟩ = some (.pointer (some ⟨b, 0, none⟩))) :
  Calls Tryz.prog 100 #[.pointer (some ⟨b, 0, none⟩)] w fun e w' => e = .returned (.tuple #[]) ∧ w' = w := by
 obtain ⟨j, hj, _⟩ := A1
 go_enter Tryz.func100, Tryz.ntmps100
 go_wp2
 rw [Lib.run_neq_ptr_same w _ Tryz.underlying107 hj]
 go_wp2
 go_end0
 exact ⟨rfl, rfl⟩
set_option maxHeartbeats 1000000 in
set_option maxRecDepth 100000 in
theorem qy (b : Nat) (w : World) (h0 : w.cell? ⟨b, 0, none⟩ = some (.pointer none)) (hsh : w.shape? b = some (110, 2)) (hfz : w.frozen? ⟨b, 0, none⟩ = false) :
  Calls Tryz.prog 100 #[.pointer (some ⟨b, 0, none⟩)] w fun e w' => e = .returned (.tuple #[]) ∧ w' = w.setCell ⟨b, 0, none⟩ (.pointer (some ⟨b, 0, none⟩)) := by
 obtain ⟨j, hj, hjs⟩ := A1
 go_enter Tryz.func100, Tryz.ntmps100
 go_wp2
 rw [Lib.run_to_unsafe w ⟨b, 0, none⟩ Tryz.underlying107 Tryz.underlying160 hj (by rw [hjs]; decide) hsh (Nat.zero_lt_succ 1)]
 simp only [Result.andThen]
 rw [Oper.upon_value]
 go_wp2
 rw [run_callFunc_extern Tryz.func127 (by kernel_rfl) (by kernel_rfl) (by kernel_rfl) (e := Extern.AbiNoEscape.same) (by kernel_rfl)]
 rw [Lib.run_noEscape]
 simp only [Result.andThen]
 rw [Oper.upon_value]
 go_wp2
 rw [Lib.run_from_unsafe w ⟨b, 0, none⟩ Tryz.underlying160 Tryz.underlying107 hj hsh (by kernel_rfl)]
 simp only [Result.andThen]
 rw [Oper.upon_value]
 go_wp2
 go_end0
 exact ⟨rfl, rfl⟩
structure wW (b : Nat) (w w' : World) : Prop where
 os : w'.os = w.os
 out : w'.output = w.output
 tape : w'.tape = w.tape
 size : w'.heap.size = w.heap.size
 other : ∀ k, k ≠ b → w'.heap[k]? = w.heap[k]?
def back (i : Nat) : Option Nat := if i = 900000 then some 2000000 else if i = 1000000 then some 1000000 else none
def ghB (g : Gh) : Gh := ⟨g.st, fun i => if i = 2000000 then g.ow 900000 else if M1 ≤ i ∧ i < 2 * M1 then g.ow i else none⟩
theorem tB {g : Gh} {i b : Nat} (h : (ghB g).ow i = some b) : (i = 2000000 ∧ g.ow 900000 = some b) ∨ (M1 ≤ i ∧ i < 2 * M1 ∧ g.ow i = some b) := by
 simp only [ghB] at h
 split at h
 ·exact .inl ⟨‹_›, h⟩
 ·split at h
  ·rename_i h1; exact .inr ⟨h1.1, h1.2, h⟩
  ·cases h
theorem ue {g : Gh} : ∀ i j b, back i = some j → g.ow i = some b → (ghB g).ow j = some b := by
 intro i j b h hb
 unfold back at h
 split at h
 ·cases h; subst_vars; simp only [ghB, if_true]; exact hb
 ·split at h
  ·cases h; subst_vars
   simp only [ghB]
   rw [if_neg (by decide), if_pos (by decide)]; exact hb
  ·cases h
theorem wJ {w w' : World} {g : Gh} {b : Nat} (hok : Ok0 w g.st) (hown : ∀ i b, g.ow i = some b → b < w.heap.size ∧ i < 2 * M1)
  (hinj : ∀ i j b, g.ow i = some b → g.ow j = some b → i = j) (hnst : ∀ i b, M1 ≤ i → g.ow i = some b → ∀ o, ¬ g.st b o)
  (hb : g.ow 1000000 = some b) (h : wW b w w')
  (hsh : ∀ (c : Array Value) (e : TypeId), w.heap[b]? = some (.cells c e (0, 0)) → ∃ c' : Array Value, w'.heap[b]? = some (.cells c' e (0, 0)) ∧ c'.size = c.size) : p7 w g w' (ghB g) := by
 have hbs : ∀ o, ¬ g.st b o := hnst _ b (Nat.le_refl _) hb
 have hev : Ev w g.st w' g.st := fun k o hk => ⟨hk, by
  have : k ≠ b := fun e => hbs o (e ▸ hk)
  simp only [World.cell?, h.other k this]⟩
 refine ⟨h.os, h.out, h.tape, by rw [h.size]; exact Nat.le_refl _, fun k hk hno => h.other k (fun e => hno 1000000 (e ▸ hb)), fun i k hi => ?_, fun i j k hi hj => ?_, fun k o hk => by rw [h.size]; exact hok.lt k o hk, fun k hk _ o => Iff.rfl, fun i h1 h2 => ?_, fun i k c e h1 h2 h3 => ?_, fun i k hi hk o => hnst i k hi hk o, hev⟩
 ·rcases tB hi with ⟨_, h1⟩ | ⟨_, _, h1⟩
  ·exact ⟨by rw [h.size]; exact (hown _ _ h1).1, .inr ⟨_, h1⟩⟩
  ·exact ⟨by rw [h.size]; exact (hown _ _ h1).1, .inr ⟨_, h1⟩⟩
 ·rcases tB hi with ⟨e1, h1⟩ | ⟨a1, a2, h1⟩ <;> rcases tB hj with ⟨e2, h2⟩ | ⟨b1, b2, h2⟩
  ·omega
  ·have := hinj _ _ _ h1 h2; unfold M1 at *; omega
  ·have := hinj _ _ _ h1 h2; unfold M1 at *; omega
  ·exact hinj _ _ _ h1 h2
 ·simp only [ghB]
  rw [if_neg (by unfold M1 at *; omega), if_pos ⟨h1, h2⟩]
 ·by_cases e1 : k = b
  ·subst e1; exact hsh c e h3
  ·exact ⟨c, (h.other k e1).trans h3, rfl⟩
theorem Ci {w w' : World} {g : Gh} {b : Nat} (hbs : ∀ o, ¬ g.st b o) (h : wW b w w') (hc : ∃ c e, w.heap[b]? = some (.cells c e (0, 0)))
  (hsh : ∀ (c : Array Value) (e : TypeId), w.heap[b]? = some (.cells c e (0, 0)) → ∃ c' : Array Value, w'.heap[b]? = some (.cells c' e (0, 0)) ∧ c'.size = c.size) : EvO (fun _ => false) w g w' g := by
 refine ⟨fun k o hk => ⟨hk, ?_⟩, fun _ _ _ h => h, fun id k c e _ _ hk => ?_, fun _ _ _ _ _ h => h, fun id k es k' _ _ hk => (h.other k (fun e => by subst e; obtain ⟨c, t, hc⟩ := hc; rw [hc] at hk; cases hk)).trans hk, fun _ _ => rfl, fun id k o _ _ ho => h.other k (fun e => hbs o (e ▸ ho))⟩
 ·have : k ≠ b := fun e => hbs o (e ▸ hk)
  simp only [World.cell?, h.other k this]
 ·by_cases e1 : k = b
  ·subst e1; exact hsh c e hk
  ·exact ⟨c, (h.other k e1).trans hk, rfl⟩
theorem yV {w : World} {g : Gh} {es : List PV} {vs : Array Value} {T ty : Nat} (hsz : vs.size = 1)
  (hargs : ∀ (i : Nat) c v, [AV.ptr 1000000 0][i]? = some c → vs[i]? = some v → ARep w g c v)
  (hobs : ∀ id cs, look [(1000000, [AV.bptr T 2 1000000, AV.vec 900000 1 ty es])] id = some cs → jY w g id cs) :
  ∃ b p q, g.ow 1000000 = some b ∧ vs = #[.pointer (some ⟨b, 0, none⟩)] ∧ w.heap[b]? = some (.cells #[p, q] T (0, 0)) ∧ (∀ o, ¬ g.st b o) ∧
   (p = .pointer none ∨ p = .pointer (some ⟨b, 0, none⟩)) ∧ ARep w g (.vec 900000 1 ty es) q := by
 obtain ⟨b, c, e, h1, h2, h3, h4, h5⟩ := hobs 1000000 _ rfl
 obtain ⟨p, hp, hpr⟩ := h5 0 _ rfl
 obtain ⟨q, hq, hqr⟩ := h5 1 _ rfl
 have hv0 : vs[0]? = some vs[0] := Array.getElem?_eq_getElem (by omega)
 have ha := hargs 0 _ _ rfl hv0
 have hvs : vs = #[vs[0]] := by
  apply Array.ext
  ·simp [hsz]
  ·intro i h1 h2
   have : i = 0 := by omega
   subst this; rfl
 have hc : ∀ c1 : Array Value, c1 = c → c1.size = 2 → c = #[p, q] := by
  rintro c1 rfl h
  apply Array.ext
  ·simp [h]
  ·intro i k1 k2
   match i, k2 with
   | 0, _ => rw [Array.getElem?_eq_getElem k1] at hp; simpa using hp
   | 1, _ => rw [Array.getElem?_eq_getElem k1] at hq; simpa using hq
 have hav : vs[0] = .pointer (some ⟨b, 0, none⟩) := by
  generalize vs[0] = v at ha
  cases ha with
  | ptr how => rw [h1] at how; cases how; rfl
 refine ⟨b, p, q, h1, by rw [hvs, hav], ?_, h4, ?_, hqr⟩
 ·cases hpr with
  | bptrn how hb hcs => rw [h1] at how; cases how; rw [h2] at hb; cases hb; rw [h2, hc _ rfl hcs]
  | bptr how hb hcs => rw [h1] at how; cases how; rw [h2] at hb; cases hb; rw [h2, hc _ rfl hcs]
 ·cases hpr with
  | bptrn how hb hcs => exact .inl rfl
  | bptr how hb hcs => rw [h1] at how; cases how; exact .inr rfl
theorem ob_B {w' : World} {g : Gh} {es : List PV} {T ty b : Nat} {p q : Value} (hb : g.ow 1000000 = some b) (h4 : ∀ o, ¬ g.st b o) (h : w'.heap[b]? = some (.cells #[p, q] T (0, 0)))
  (hp : p = .pointer none ∨ p = .pointer (some ⟨b, 0, none⟩)) (hq : ARep w' g (.vec 900000 1 ty es) q) : jY w' (ghB g) 1000000 [.bptr T 2 1000000, .vec 2000000 1 ty es] := by
 have how : (ghB g).ow 1000000 = some b := ue 1000000 1000000 b rfl hb
 refine ⟨b, #[p, q], T, how, h, by simp, h4, fun i x hx => ?_⟩
 match i, hx with
 | 0, hx =>
  simp only [List.getElem?_cons_zero, Option.some.injEq] at hx; subst hx
  refine ⟨p, rfl, ?_⟩
  rcases hp with rfl | rfl
  ·exact .bptrn how h rfl
  ·exact .bptr how h rfl
 | 1, hx =>
  simp only [List.getElem?_cons_succ, List.getElem?_cons_zero, Option.some.injEq] at hx; subst hx
  exact ⟨q, rfl, iV (m := back) (g := g) (g' := ghB g) rfl ue hq rfl⟩
 | n + 2, hx => simp at hx
theorem eM (b_0 : aD) (r : aD) (h0 : ct b_0 = some r) : bO Tryz.prog 100 [.ptr 1000000 0] [(1000000, [.bptr 110 2 1000000, .vec 900000 1 (5 + 1) (b_0.fbuf.map eU)])]
  (fun x y => x = .tuple [] ∧ y = [(1000000, [.bptr 110 2 1000000, .vec 2000000 1 (5 + 1) (r.fbuf.map eU)])]) := by
 cases h0
 intro w g vs hok hown hinj hnst hsz hargs hobs
 obtain ⟨b, p, q, hb, rfl, hheap, hbs, hp, hq⟩ := yV hsz hargs hobs
 have hc0 : w.cell? ⟨b, 0, none⟩ = some p := by simp [World.cell?, hheap]
 rcases hp with rfl | rfl
 ·refine (qy b w hc0 (by simp [World.shape?, hheap]) (by simp [World.frozen?, hheap])).mono ?_
  rintro e w' ⟨rfl, rfl⟩
  have hO : wW b w (w.setCell ⟨b, 0, none⟩ (.pointer (some ⟨b, 0, none⟩))) := ⟨rfl, rfl, rfl, by simp [World.setCell], fun k hk => Below.heap_setCell _ _ _ _ hk⟩
  have hheap' : (w.setCell ⟨b, 0, none⟩ (.pointer (some ⟨b, 0, none⟩))).heap[b]? = some (.cells #[.pointer (some ⟨b, 0, none⟩), q] 110 (0, 0)) := by
   simp [World.setCell, Array.getElem?_modify, hheap]
  have hsh : ∀ (c : Array Value) (e : TypeId), w.heap[b]? = some (.cells c e (0, 0)) → ∃ c' : Array Value, (w.setCell ⟨b, 0, none⟩ (.pointer (some ⟨b, 0, none⟩))).heap[b]? = some (.cells c' e (0, 0)) ∧ c'.size = c.size := fun c e h => by
   rw [hheap] at h; cases h; exact ⟨_, hheap', rfl⟩
  refine ⟨_, _, _, ghB g, rfl, ⟨rfl, rfl⟩, .tuple rfl (by simp), fun x hx => ?_, wJ hok hown hinj hnst hb hO hsh⟩
  simp only [List.mem_singleton] at hx; subst hx
  exact ob_B hb hbs hheap' (.inr rfl) (hq.mono (Ci hbs hO ⟨_, _, hheap⟩ hsh))
 ·refine (ru b w hc0).mono ?_
  rintro e w' ⟨rfl, rfl⟩
  have hO : wW b w' w' := ⟨rfl, rfl, rfl, rfl, fun k hk => rfl⟩
  refine ⟨_, _, _, ghB g, rfl, ⟨rfl, rfl⟩, .tuple rfl (by simp), fun x hx => ?_, wJ hok hown hinj hnst hb hO (fun c e h => ⟨c, h, rfl⟩)⟩
  simp only [List.mem_singleton] at hx; subst hx
  exact ob_B hb hbs hheap (.inr rfl) hq
theorem tu : Tryz.prog.follows .mixedOrders = true := by kernel_rfl
theorem nW (w : World) : Below w.heap.size w w.drew := Below.drew (Below.refl _ w)
set_option maxHeartbeats 2000000 in
set_option maxRecDepth 100000 in
theorem vh (b : Nat) (p : Value) (w : World) (hbk : w.heap[b]? = some (.cells #[p, .slice none 0 0] 110 (0, 0))) :
  Calls Tryz.prog 80 #[.pointer (some ⟨b, 0, none⟩)] w fun e w' => e = .returned (.string ⟨#[]⟩) ∧ Below w.heap.size w w' := by
 have mixed := tu
 have hUS : ∀ (W : World) (q : Option Addr), (Builtin.unsafeString_ #[136, 3] 9 #[.pointer q, .int .i64 0]).run Tryz.prog W = .ok (.string .empty) W := fun W q => Lib.run_unsafeString_none W _ _ _ q
 have c1 : w.drew.cell? ⟨b, 1, none⟩ = some (.slice none 0 0) := by
  have : w.drew.heap[b]? = some (.cells #[p, .slice none 0 0] 110 (0, 0)) := hbk
  rw [Lib.cell_of_heap this]; rfl
 have hSD : (Builtin.unsafeSliceData_ #[108] 136 #[.slice none 0 0]).run Tryz.prog w.drew = .ok (.pointer none) w.drew := rfl
 go_enter Tryz.func80, Tryz.ntmps80
 go_wp2
 go_region_o
 all_goals (go_wp2; go_ret; exact ⟨rfl, nW w⟩)
set_option maxHeartbeats 2000000 in
set_option maxRecDepth 100000 in
theorem t1 (b g cap : Nat) (p : Value) (w : World) (hc0 : cap ≠ 0) (hbk : w.heap[b]? = some (.cells #[p, .slice (some ⟨g, 0, none⟩) 0 cap] 110 (0, 0))) :
  Calls Tryz.prog 80 #[.pointer (some ⟨b, 0, none⟩)] w fun e w' => e = .returned (.string ⟨#[]⟩) ∧ Below w.heap.size w w' := by
 have mixed := tu
 have hUS : ∀ (W : World) (q : Option Addr), (Builtin.unsafeString_ #[136, 3] 9 #[.pointer q, .int .i64 0]).run Tryz.prog W = .ok (.string .empty) W := fun W q => Lib.run_unsafeString_none W _ _ _ q
 have c1 : w.drew.cell? ⟨b, 1, none⟩ = some (.slice (some ⟨g, 0, none⟩) 0 cap) := by
  have : w.drew.heap[b]? = some (.cells #[p, .slice (some ⟨g, 0, none⟩) 0 cap] 110 (0, 0)) := hbk
  rw [Lib.cell_of_heap this]; rfl
 have hSD : (Builtin.unsafeSliceData_ #[108] 136 #[.slice (some ⟨g, 0, none⟩) 0 cap]).run Tryz.prog w.drew = .ok (.pointer (some ⟨g, 0, none⟩)) w.drew := Lib.run_unsafeSliceData_row _ _ _ _ _ _ hc0
 clear hc0
 go_enter Tryz.func80, Tryz.ntmps80
 go_wp2
 go_region_o
 all_goals (go_wp2; go_ret; exact ⟨rfl, nW w⟩)
set_option maxHeartbeats 2000000 in
set_option maxRecDepth 100000 in
theorem si (b g : Nat) (p : Value) (cur : Array Value) (w : World) (hbk : w.heap[b]? = some (.cells #[p, .slice (some ⟨g, 0, none⟩) 0 0] 110 (0, 0))) (hg : w.heap[g]? = some (.cells cur 5 (0, 0))) :
  Calls Tryz.prog 80 #[.pointer (some ⟨b, 0, none⟩)] w fun e w' => e = .returned (.string ⟨#[]⟩) ∧ Below w.heap.size w w' := by
 have mixed := tu
 have hUS : ∀ (W : World) (q : Option Addr), (Builtin.unsafeString_ #[136, 3] 9 #[.pointer q, .int .i64 0]).run Tryz.prog W = .ok (.string .empty) W := fun W q => Lib.run_unsafeString_none W _ _ _ q
 have hlt : b < w.heap.size := by
  rcases Nat.lt_or_ge b w.heap.size with h' | h'
  ·exact h'
  ·simp [Array.getElem?_eq_none h'] at hbk
 have c1 : w.drew.cell? ⟨b, 1, none⟩ = some (.slice (some ⟨g, 0, none⟩) 0 0) := by
  have : w.drew.heap[b]? = some (.cells #[p, .slice (some ⟨g, 0, none⟩) 0 0] 110 (0, 0)) := hbk
  rw [Lib.cell_of_heap this]; rfl
 have hSD : (Builtin.unsafeSliceData_ #[108] 136 #[.slice (some ⟨g, 0, none⟩) 0 0]).run Tryz.prog w.drew = .ok (.pointer (some ⟨w.drew.heap.size, 0, none⟩)) (w.drew.alloc (.view ⟨g, 0, none⟩ 5)) :=
  Lib.run_unsafeSliceData_zero w.drew _ _ 5 Tryz.underlying136 ⟨g, 0, none⟩ 0 (5, cur.size) (by have hg' : w.drew.heap[g]? = some (.cells cur 5 (0, 0)) := hg; simp [World.shape?, hg'])
 have c2 : (w.drew.alloc (.view ⟨g, 0, none⟩ 5)).cell? ⟨b, 1, none⟩ = some (.slice (some ⟨g, 0, none⟩) 0 0) := by
  have : (w.drew.alloc (.view ⟨g, 0, none⟩ 5)).heap[b]? = _ := (Lib.alloc_old w.drew _ b hlt).trans hbk
  rw [Lib.cell_of_heap this]; rfl
 have c3 : (w.alloc (.view ⟨g, 0, none⟩ 5)).drew.cell? ⟨b, 1, none⟩ = some (.slice (some ⟨g, 0, none⟩) 0 0) := c2
 have c0 : w.cell? ⟨b, 1, none⟩ = some (.slice (some ⟨g, 0, none⟩) 0 0) := c1
 go_enter Tryz.func80, Tryz.ntmps80
 go_wp2
 go_region_o
 all_goals (go_wp2; go_ret; exact ⟨rfl, (nW w).alloc (Nat.le_refl _) _⟩)
set_option maxHeartbeats 2000000 in
set_option maxRecDepth 100000 in
theorem vU (b g cap : Nat) (p : Value) (cur : Array Value) (l : List UInt8) (w : World) (h0 : l ≠ []) (hbk : w.heap[b]? = some (.cells #[p, .slice (some ⟨g, 0, none⟩) l.length cap] 110 (0, 0))) (hg : w.heap[g]? = some (.cells cur 5 (0, 0)))
  (hnc : l.length ≤ cap) (hcs : cur.size = cap) (hcm : l.length ≤ 9223372036854775807) (hcell : ∀ (j : Nat) x, l[j]? = some x → w.cell? ⟨g, j, none⟩ = some (.int .u8 x.toNat)) :
  Calls Tryz.prog 80 #[.pointer (some ⟨b, 0, none⟩)] w fun e w' => e = .returned (.string ⟨l.toArray⟩) ∧ w' = (w.drew.freeze ⟨g, 0, none⟩ l.length) := by
 have mixed := tu
 have hl0 : l.length ≠ 0 := by simpa using h0
 have c1 : w.drew.cell? ⟨b, 1, none⟩ = some (.slice (some ⟨g, 0, none⟩) l.length cap) := by
  have : w.drew.heap[b]? = some (.cells #[p, .slice (some ⟨g, 0, none⟩) l.length cap] 110 (0, 0)) := hbk
  rw [Lib.cell_of_heap this]; rfl
 have hSD : (Builtin.unsafeSliceData_ #[108] 136 #[.slice (some ⟨g, 0, none⟩) l.length cap]).run Tryz.prog w.drew = .ok (.pointer (some ⟨g, 0, none⟩)) w.drew := Lib.run_unsafeSliceData_row _ _ _ _ _ _ (by omega)
 have hUS : (Builtin.unsafeString_ #[136, 3] 9 #[.pointer (some ⟨g, 0, none⟩), .int .i64 l.length]).run Tryz.prog w.drew = .ok (.string ⟨l.toArray⟩) (w.drew.freeze ⟨g, 0, none⟩ l.length) := by
  refine Lib.run_unsafeString_row w.drew 136 3 9 5 Tryz.underlying136 (by kernel_rfl) g cur.size (by have hg' : w.drew.heap[g]? = some (.cells cur 5 (0, 0)) := hg; simp [World.shape?, hg']) l h0 (by omega) hcm ?_
  intro j x hx
  have := hcell j x hx
  rw [add_lit, Nat.zero_add, World.cell?_drew]; exact this
 clear hcell hcs hcm hnc h0 hl0
 go_enter Tryz.func80, Tryz.ntmps80
 go_wp2
 go_region_o
 all_goals (go_wp2; go_ret; exact ⟨rfl, rfl⟩)
theorem tF (w : World) (g n k : Nat) (h : k ≠ g) : (w.freeze ⟨g, 0, none⟩ n).heap[k]? = w.heap[k]? := by
 unfold World.freeze
 split
 ·rfl
 ·simp only [Array.getElem?_modify]
  rw [if_neg (fun e => h e.symm)]
theorem tZ (w : World) (g n : Nat) (a : Addr) : (w.freeze ⟨g, 0, none⟩ n).cell? a = w.cell? a := by
 unfold World.freeze
 split
 ·rfl
 ·simp only [World.cell?, Array.getElem?_modify]
  by_cases h : g = a.block
  ·simp only [h, if_true]
   cases w.heap[a.block]? with
   | none => rfl
   | some o => cases o <;> rfl
  ·simp only [h, if_false]
theorem uN (w : World) (g n : Nat) : (w.freeze ⟨g, 0, none⟩ n).heap.size = w.heap.size := by
 unfold World.freeze; split <;> simp
theorem uu (w : World) (g n : Nat) : (w.freeze ⟨g, 0, none⟩ n).os = w.os ∧ (w.freeze ⟨g, 0, none⟩ n).output = w.output ∧ (w.freeze ⟨g, 0, none⟩ n).tape = w.tape := by
 unfold World.freeze; split <;> exact ⟨rfl, rfl, rfl⟩
def ghS (g : Gh) : Gh := ⟨g.st, fun i => if M1 ≤ i ∧ i < 2 * M1 then g.ow i else none⟩
theorem tK {g : Gh} {i b : Nat} (h : (ghS g).ow i = some b) : M1 ≤ i ∧ i < 2 * M1 ∧ g.ow i = some b := by
 simp only [ghS] at h
 split at h
 ·rename_i h1; exact ⟨h1.1, h1.2, h⟩
 ·cases h
theorem wy {w w' : World} {g : Gh} {q : Nat} (hok : Ok0 w g.st) (hown : ∀ i b, g.ow i = some b → b < w.heap.size ∧ i < 2 * M1)
  (hinj : ∀ i j b, g.ow i = some b → g.ow j = some b → i = j) (hnst : ∀ i b, M1 ≤ i → g.ow i = some b → ∀ o, ¬ g.st b o)
  (hq : g.ow 900000 = some q ∨ w.heap.size ≤ q) (os : w'.os = w.os) (out : w'.output = w.output) (tape : w'.tape = w.tape) (size : w.heap.size ≤ w'.heap.size)
  (other : ∀ k, k < w.heap.size → k ≠ q → w'.heap[k]? = w.heap[k]?) (cell : ∀ b o, b < w.heap.size → w'.cell? ⟨b, o, none⟩ = w.cell? ⟨b, o, none⟩) : p7 w g w' (ghS g) := by
 have hev : Ev w g.st w' g.st := fun k o hk => ⟨hk, cell k o (hok.lt k o hk)⟩
 refine ⟨os, out, tape, size, fun k hk hno => other k hk (fun e => ?_), fun i k hi => ?_, fun i j k hi hj => ?_, fun k o hk => Nat.lt_of_lt_of_le (hok.lt k o hk) size, fun k hk _ o => Iff.rfl, fun i h1 h2 => ?_, fun i k c e h1 h2 h3 => ?_, fun i k hi hk o => hnst i k hi hk o, hev⟩
 ·rcases hq with hq | hq
  ·exact hno _ (e ▸ hq)
  ·omega
 ·obtain ⟨_, _, h1⟩ := tK hi
  exact ⟨Nat.lt_of_lt_of_le (hown _ _ h1).1 size, .inr ⟨_, h1⟩⟩
 ·exact hinj _ _ _ (tK hi).2.2 (tK hj).2.2
 ·simp only [ghS]; rw [if_pos ⟨h1, h2⟩]
 ·refine ⟨c, (other k (hown _ _ h2).1 (fun e => ?_)).trans h3, rfl⟩
  rcases hq with hq | hq
  ·have := hinj _ _ _ h2 (e ▸ hq); unfold M1 at *; omega
  ·have := (hown _ _ h2).1; omega
theorem ob_S {w' : World} {g : Gh} {es : List PV} {T b : Nat} {p q : Value} (hb : g.ow 1000000 = some b) (h4 : ∀ o, ¬ g.st b o) (h : w'.heap[b]? = some (.cells #[p, q] T (0, 0)))
  (hp : p = .pointer none ∨ p = .pointer (some ⟨b, 0, none⟩)) (hq : PRep w' g.st (.slice es) q) : jY w' (ghS g) 1000000 [.bptr T 2 1000000, .p (.slice es)] := by
 have how : (ghS g).ow 1000000 = some b := by simp only [ghS]; rw [if_pos (by decide)]; exact hb
 refine ⟨b, #[p, q], T, how, h, by simp, h4, fun i x hx => ?_⟩
 match i, hx with
 | 0, hx =>
  simp only [List.getElem?_cons_zero, Option.some.injEq] at hx; subst hx
  refine ⟨p, rfl, ?_⟩
  rcases hp with rfl | rfl
  ·exact .bptrn how h rfl
  ·exact .bptr how h rfl
 | 1, hx =>
  simp only [List.getElem?_cons_succ, List.getElem?_cons_zero, Option.some.injEq] at hx; subst hx
  exact ⟨q, rfl, .p hq⟩
 | n + 2, hx => simp at hx
theorem fA (b_0 : aD) (r : Bytes × aD) (h0 : dl b_0 = some r) : bO Tryz.prog 80 [.ptr 1000000 0] [(1000000, [.bptr 110 2 1000000, .vec 900000 1 (5 + 1) (b_0.fbuf.map eU)])]
  (fun x y => x = .p (eS r.1) ∧ y = [(1000000, [.bptr 110 2 1000000, .p (eL eU r.2.fbuf)])]) := by
 obtain ⟨hmax, h0⟩ := jU h0
 cases h0
 intro w g vs hok hown hinj hnst hsz hargs hobs
 obtain ⟨b, p, q, hb, rfl, hheap, hbs, hp, hq⟩ := yV hsz hargs hobs
 have hbl : b < w.heap.size := (hown _ _ hb).1
 obtain ⟨l, hl⟩ : ∃ l, l = b_0.fbuf := ⟨_, rfl⟩
 rw [← hl] at hq ⊢
 -- a builder that holds nothing
 have none_ : ∀ q0, l = [] → q = q0 → (Calls Tryz.prog 80 #[.pointer (some ⟨b, 0, none⟩)] w fun e w' => e = .returned (.string ⟨#[]⟩) ∧ Below w.heap.size w w') → PRep w g.st (.slice []) q0 →
   Calls Tryz.prog 80 #[.pointer (some ⟨b, 0, none⟩)] w fun e w' => ∃ v r obs' g', e = .returned v ∧ (r = .p (eS l) ∧ obs' = [(1000000, [.bptr 110 2 1000000, .p (eL eU l)])]) ∧ ARep w' g' r v ∧ (∀ p ∈ obs', jY w' g' p.1 p.2) ∧ p7 w g w' g' := by
  rintro q0 rfl rfl hc hr
  refine hc.mono ?_
  rintro e w' ⟨rfl, hB⟩
  have hcell : ∀ b o, b < w.heap.size → w'.cell? ⟨b, o, none⟩ = w.cell? ⟨b, o, none⟩ := fun b o h => hB.cell (p := ⟨b, o, none⟩) h
  refine ⟨_, _, _, ghS g, rfl, ⟨rfl, rfl⟩, .p (.val _), fun x hx => ?_, wy (q := w.heap.size) hok hown hinj hnst (.inr (Nat.le_refl _)) hB.os hB.output hB.tape hB.size (fun k hk _ => hB.block k hk) hcell⟩
  simp only [List.mem_singleton] at hx; subst hx
  exact ob_S hb hbs ((hB.block b hbl).trans hheap) hp (hr.mono (w' := w') (st' := g.st) (fun k o hk => ⟨hk, hcell k o (hok.lt k o hk)⟩))
 generalize hes : l.map eU = es at hq
 cases hq with
 | vecn =>
  have e : l = [] := by simpa using hes
  exact none_ _ e rfl (vh b p w hheap) .nils
 | vec how hb2 hcs hsz2 hst hr hty =>
  rename_i g2 off2 cap c e2
  have he2 : e2 = 5 ∧ off2 = 0 := by
   rcases hty with h | h
   ·cases h
   ·exact ⟨(Nat.succ.inj h.1).symm, h.2⟩
  obtain ⟨rfl, rfl⟩ := he2
  rw [Nat.zero_add] at hcs
  simp only [Nat.zero_add] at hst
  have hgl : g2 < w.heap.size := (hown _ _ how).1
  subst hes
  simp only [List.length_map] at hheap
  by_cases hl0 : l = []
  ·subst hl0
   by_cases hc0 : cap = 0
   ·subst hc0
    exact none_ _ rfl rfl (si b g2 p c w hheap hb2) (by simpa using hr)
   ·exact none_ _ rfl rfl (t1 b g2 cap p w hc0 hheap) (by simpa using hr)
  ·have hcap : l.length ≤ cap := by
    obtain ⟨a', cap', he, hle⟩ := mq hr
    cases he
    simpa using hle
   have hcell : ∀ (j : Nat) x, l[j]? = some x → w.cell? ⟨g2, j, none⟩ = some (.int .u8 x.toNat) := by
    intro j x hx
    have hinv := Aw hsz2 hb2 hr
    obtain ⟨_, u, hu, hru⟩ := hinv j (eU x) 0 (eU x) (by simp [hx]) rfl
    cases hru
    simp only [World.cell?, hb2]
    simpa using hu
   refine (vU b g2 cap p c l w hl0 (by simpa using hheap) hb2 hcap (by simpa using hcs) ?_ hcell).mono ?_
   ·rw [hl]; exact hmax
   rintro e w' ⟨rfl, rfl⟩
   have hother : ∀ k, k ≠ g2 → (w.drew.freeze ⟨g2, 0, none⟩ l.length).heap[k]? = w.heap[k]? := fun k hk => tF w.drew g2 _ k hk
   have hcell2 : ∀ b o, (w.drew.freeze ⟨g2, 0, none⟩ l.length).cell? ⟨b, o, none⟩ = w.cell? ⟨b, o, none⟩ := fun b o => tZ w.drew g2 _ _
   obtain ⟨r1, r2, r3⟩ := uu w.drew g2 l.length
   refine ⟨_, _, _, ghS g, rfl, ⟨rfl, rfl⟩, .p (.val _), fun x hx => ?_, wy (q := g2) hok hown hinj hnst (.inl how) r1 r2 r3 (by rw [uN]; exact Nat.le_refl _) (fun k _ hk => hother k hk) (fun b o _ => hcell2 b o)⟩
   simp only [List.mem_singleton] at hx; subst hx
   have hne : b ≠ g2 := fun e => by subst e; have := hinj _ _ _ hb how; omega
   exact ob_S hb hbs ((hother b hne).trans (by simpa using hheap)) hp (by simpa using hr.mono (w' := w.drew.freeze ⟨g2, 0, none⟩ l.length) (st' := g.st) (fun k o hk => ⟨hk, hcell2 k o⟩))
end Go.Ab
end
section
set_option linter.unusedVariables false
set_option linter.unusedSimpArgs false
set_option linter.unnecessarySimpa false
namespace Go.Ab.RB
open Go.Proofs Go.Ab
attribute [local irreducible] awp d9 aU aF bO AV.sub M dU
def dd (p_0 : List UInt8) (r_1 : Int) : Option (List UInt8) :=
 if IntKind.wrap .u32 (r_1) ≤ 2047 then
  ck ((0 : Int) ≤ 6) <|
  ck ((0 : Int) ≤ iOr .u8 192 (IntKind.wrap .u8 (fX .i32 r_1 6)) ∧ iOr .u8 192 (IntKind.wrap .u8 (fX .i32 r_1 6)) < 256) <|
  ck ((0 : Int) ≤ iOr .u8 128 (gh .u8 (IntKind.wrap .u8 (r_1)) 63) ∧ iOr .u8 128 (gh .u8 (IntKind.wrap .u8 (r_1)) 63) < 256) <|
  ck ((p_0.length + [u8 (iOr .u8 192 (IntKind.wrap .u8 (fX .i32 r_1 6))), u8 (iOr .u8 128 (gh .u8 (IntKind.wrap .u8 (r_1)) 63))].length) * 1 ≤ 140737488355328) <|
  some (p_0 ++ [u8 (iOr .u8 192 (IntKind.wrap .u8 (fX .i32 r_1 6))), u8 (iOr .u8 128 (gh .u8 (IntKind.wrap .u8 (r_1)) 63))])
 else
  (
    if IntKind.wrap .u32 (r_1) < 55296 then
     some true
    else
     if 57343 < IntKind.wrap .u32 (r_1) then
      some (decide (IntKind.wrap .u32 (r_1) ≤ 65535))
     else
      some false
   : Option Bool).bind fun t8 =>
  if t8 = true then
   ck ((0 : Int) ≤ 12) <|
   ck ((0 : Int) ≤ 6) <|
   ck ((0 : Int) ≤ iOr .u8 224 (IntKind.wrap .u8 (fX .i32 r_1 12)) ∧ iOr .u8 224 (IntKind.wrap .u8 (fX .i32 r_1 12)) < 256) <|
   ck ((0 : Int) ≤ iOr .u8 128 (gh .u8 (IntKind.wrap .u8 (fX .i32 r_1 6)) 63) ∧ iOr .u8 128 (gh .u8 (IntKind.wrap .u8 (fX .i32 r_1 6)) 63) < 256) <|
   ck ((0 : Int) ≤ iOr .u8 128 (gh .u8 (IntKind.wrap .u8 (r_1)) 63) ∧ iOr .u8 128 (gh .u8 (IntKind.wrap .u8 (r_1)) 63) < 256) <|
   ck ((p_0.length + [u8 (iOr .u8 224 (IntKind.wrap .u8 (fX .i32 r_1 12))), u8 (iOr .u8 128 (gh .u8 (IntKind.wrap .u8 (fX .i32 r_1 6)) 63)), u8 (iOr .u8 128 (gh .u8 (IntKind.wrap .u8 (r_1)) 63))].length) * 1 ≤ 140737488355328) <|
   some (p_0 ++ [u8 (iOr .u8 224 (IntKind.wrap .u8 (fX .i32 r_1 12))), u8 (iOr .u8 128 (gh .u8 (IntKind.wrap .u8 (fX .i32 r_1 6)) 63)), u8 (iOr .u8 128 (gh .u8 (IntKind.wrap .u8 (r_1)) 63))])
  else
   (
     if 65535 < IntKind.wrap .u32 (r_1) then
      some (decide (IntKind.wrap .u32 (r_1) ≤ 1114111))
     else
      some false
    : Option Bool).bind fun t17 =>
   if t17 = true then
    ck ((0 : Int) ≤ 18) <|
    ck ((0 : Int) ≤ 12) <|
    ck ((0 : Int) ≤ 6) <|
    ck ((0 : Int) ≤ iOr .u8 240 (IntKind.wrap .u8 (fX .i32 r_1 18)) ∧ iOr .u8 240 (IntKind.wrap .u8 (fX .i32 r_1 18)) < 256) <|
    ck ((0 : Int) ≤ iOr .u8 128 (gh .u8 (IntKind.wrap .u8 (fX .i32 r_1 12)) 63) ∧ iOr .u8 128 (gh .u8 (IntKind.wrap .u8 (fX .i32 r_1 12)) 63) < 256) <|
    ck ((0 : Int) ≤ iOr .u8 128 (gh .u8 (IntKind.wrap .u8 (fX .i32 r_1 6)) 63) ∧ iOr .u8 128 (gh .u8 (IntKind.wrap .u8 (fX .i32 r_1 6)) 63) < 256) <|
    ck ((0 : Int) ≤ iOr .u8 128 (gh .u8 (IntKind.wrap .u8 (r_1)) 63) ∧ iOr .u8 128 (gh .u8 (IntKind.wrap .u8 (r_1)) 63) < 256) <|
    ck ((p_0.length + [u8 (iOr .u8 240 (IntKind.wrap .u8 (fX .i32 r_1 18))), u8 (iOr .u8 128 (gh .u8 (IntKind.wrap .u8 (fX .i32 r_1 12)) 63)), u8 (iOr .u8 128 (gh .u8 (IntKind.wrap .u8 (fX .i32 r_1 6)) 63)), u8 (iOr .u8 128 (gh .u8 (IntKind.wrap .u8 (r_1)) 63))].length) * 1 ≤ 140737488355328) <|
    some (p_0 ++ [u8 (iOr .u8 240 (IntKind.wrap .u8 (fX .i32 r_1 18))), u8 (iOr .u8 128 (gh .u8 (IntKind.wrap .u8 (fX .i32 r_1 12)) 63)), u8 (iOr .u8 128 (gh .u8 (IntKind.wrap .u8 (fX .i32 r_1 6)) 63)), u8 (iOr .u8 128 (gh .u8 (IntKind.wrap .u8 (r_1)) 63))])
   else
    ck ((p_0.length + [(239 : UInt8), (191 : UInt8), (189 : UInt8)].length) * 1 ≤ 140737488355328) <|
    some (p_0 ++ [(239 : UInt8), (191 : UInt8), (189 : UInt8)])
set_option maxHeartbeats 4000000 in
theorem iD (p_0 : List UInt8) (r_1 : Int) (r : (List UInt8)) (h0 : dd p_0 r_1 = some r) : bO Tryz.prog 151 [.vec 900000 1 (5 + 1) (p_0.map eU), .p (eK .i32 r_1)] [] (fun x y => x = .vec 2000000 1 (5 + 1) (r.map eU) ∧ y = []) := by
 unfold dd at h0
 refine ga good [800000] [] Tryz.func151 rfl rfl rfl rfl rfl fun w0 F => mPo (fun v : (List UInt8) => .vec 2000000 1 (5 + 1) (v.map eU)) (fun v => []) ?_
 refine nx 17 rfl (fD [11, 13] h0 rfl (fun c1 h0 => ?_) fun c1 h0 => ?_)
 ·refine nx 5 rfl (cc' h0 fun hk2 h0 => ?_)
  refine mO rfl (sT rfl rfl rfl rfl rfl rfl hk2 ?_)
  refine nx 6 rfl (cc' h0 fun hk4 h0 => ?_)
  refine cc' h0 fun hk3 h0 => mO rfl (bN eU [u8 (iOr .u8 192 (IntKind.wrap .u8 (fX .i32 r_1 6))), u8 (iOr .u8 128 (gh .u8 (IntKind.wrap .u8 (r_1)) 63))] rfl rfl rfl rfl rfl rfl rfl rfl rfl rfl rfl rfl rfl (congr (congrArg List.cons (m8 hk4)) (congr (congrArg List.cons (m8 hk3)) rfl)) ?_)
  refine cc' h0 fun hk5 h0 => mO rfl (fL eU p_0 [u8 (iOr .u8 192 (IntKind.wrap .u8 (fX .i32 r_1 6))), u8 (iOr .u8 128 (gh .u8 (IntKind.wrap .u8 (r_1)) 63))] rfl rfl rfl rfl rfl rfl rfl rfl rfl rfl rfl rfl rfl (fun _ => rfl) rfl rfl rfl rfl hk5 ?_)
  exact nx 3 rfl (mQo (oi h0) (bC (bz 24 800000 rfl rfl rfl rfl rfl) (bv _)) rfl rfl rfl rfl (sr) trivial)
 refine nx 2 rfl (bd h0 fun o30 h1 h0 => ?_)
 refine kN o30 (fun v31 => ⟨[(0, .vec 900000 1 (5 + 1) (p_0.map eU)), (1, .p (eK .i32 r_1)), (5, .p (eK .u32 (IntKind.wrap .u32 (r_1)))), (25, .p (eB v31))], []⟩) ?_ ?_
 ·refine nx 1 rfl (fB [25] h0 rfl (fun c9 h0 => ?_) fun c9 h0 => ?_)
  ·refine nx 5 rfl (cc' h0 fun hk10 h0 => ?_)
   refine mO rfl (sT rfl rfl rfl rfl rfl rfl hk10 ?_)
   refine nx 3 rfl (cc' h0 fun hk11 h0 => ?_)
   refine mO rfl (sT rfl rfl rfl rfl rfl rfl hk11 ?_)
   refine nx 7 rfl (cc' h0 fun hk14 h0 => ?_)
   refine cc' h0 fun hk13 h0 => cc' h0 fun hk12 h0 => mO rfl (bN eU [u8 (iOr .u8 224 (IntKind.wrap .u8 (fX .i32 r_1 12))), u8 (iOr .u8 128 (gh .u8 (IntKind.wrap .u8 (fX .i32 r_1 6)) 63)), u8 (iOr .u8 128 (gh .u8 (IntKind.wrap .u8 (r_1)) 63))] rfl rfl rfl rfl rfl rfl rfl rfl rfl rfl rfl rfl rfl (congr (congrArg List.cons (m8 hk14)) (congr (congrArg List.cons (m8 hk13)) (congr (congrArg List.cons (m8 hk12)) rfl))) ?_)
   refine cc' h0 fun hk15 h0 => mO rfl (fL eU p_0 [u8 (iOr .u8 224 (IntKind.wrap .u8 (fX .i32 r_1 12))), u8 (iOr .u8 128 (gh .u8 (IntKind.wrap .u8 (fX .i32 r_1 6)) 63)), u8 (iOr .u8 128 (gh .u8 (IntKind.wrap .u8 (r_1)) 63))] rfl rfl rfl rfl rfl rfl rfl rfl rfl rfl rfl rfl rfl (fun _ => rfl) rfl rfl rfl rfl hk15 ?_)
   exact nx 3 rfl (mQo (oi h0) (bC (bz 49 800000 rfl rfl rfl rfl rfl) (bv _)) rfl rfl rfl rfl (sr) trivial)
  refine nx 2 rfl (bd h0 fun o32 h1 h0 => ?_)
  refine kN o32 (fun v33 => ⟨[(0, .vec 900000 1 (5 + 1) (p_0.map eU)), (1, .p (eK .i32 r_1)), (50, .p (eB v33))], []⟩) ?_ ?_
  ·refine nx 1 rfl (fB [50] h0 rfl (fun c18 h0 => ?_) fun c18 h0 => ?_)
   ·refine nx 5 rfl (cc' h0 fun hk19 h0 => ?_)
    refine mO rfl (sT rfl rfl rfl rfl rfl rfl hk19 ?_)
    refine nx 3 rfl (cc' h0 fun hk20 h0 => ?_)
    refine mO rfl (sT rfl rfl rfl rfl rfl rfl hk20 ?_)
    refine nx 4 rfl (cc' h0 fun hk21 h0 => ?_)
    refine mO rfl (sT rfl rfl rfl rfl rfl rfl hk21 ?_)
    refine nx 7 rfl (cc' h0 fun hk25 h0 => ?_)
    refine cc' h0 fun hk24 h0 => cc' h0 fun hk23 h0 => cc' h0 fun hk22 h0 => mO rfl (bN eU [u8 (iOr .u8 240 (IntKind.wrap .u8 (fX .i32 r_1 18))), u8 (iOr .u8 128 (gh .u8 (IntKind.wrap .u8 (fX .i32 r_1 12)) 63)), u8 (iOr .u8 128 (gh .u8 (IntKind.wrap .u8 (fX .i32 r_1 6)) 63)), u8 (iOr .u8 128 (gh .u8 (IntKind.wrap .u8 (r_1)) 63))] rfl rfl rfl rfl rfl rfl rfl rfl rfl rfl rfl rfl rfl (congr (congrArg List.cons (m8 hk25)) (congr (congrArg List.cons (m8 hk24)) (congr (congrArg List.cons (m8 hk23)) (congr (congrArg List.cons (m8 hk22)) rfl)))) ?_)
    refine cc' h0 fun hk26 h0 => mO rfl (fL eU p_0 [u8 (iOr .u8 240 (IntKind.wrap .u8 (fX .i32 r_1 18))), u8 (iOr .u8 128 (gh .u8 (IntKind.wrap .u8 (fX .i32 r_1 12)) 63)), u8 (iOr .u8 128 (gh .u8 (IntKind.wrap .u8 (fX .i32 r_1 6)) 63)), u8 (iOr .u8 128 (gh .u8 (IntKind.wrap .u8 (r_1)) 63))] rfl rfl rfl rfl rfl rfl rfl rfl rfl rfl rfl rfl rfl (fun _ => rfl) rfl rfl rfl rfl hk26 ?_)
    exact nx 3 rfl (mQo (oi h0) (bC (bz 77 800000 rfl rfl rfl rfl rfl) (bv _)) rfl rfl rfl rfl (sr) trivial)
   refine nx 4 rfl (mO rfl (bN eU [(239 : UInt8), (191 : UInt8), (189 : UInt8)] rfl rfl rfl rfl rfl rfl rfl rfl rfl rfl rfl rfl rfl rfl ?_))
   refine cc' h0 fun hk27 h0 => mO rfl (fL eU p_0 [(239 : UInt8), (191 : UInt8), (189 : UInt8)] rfl rfl rfl rfl rfl rfl rfl rfl rfl rfl rfl rfl rfl (fun _ => rfl) rfl rfl rfl rfl hk27 ?_)
   exact nx 3 rfl (mQo (oi h0) (bC (bz 10 800000 rfl rfl rfl rfl rfl) (bv _)) rfl rfl rfl rfl (sr) trivial)
  refine nx 4 rfl (fD [52, 53] h1 rfl (fun c16 h1 => ?_) fun c16 h1 => ?_)
  ·exact nx 5 rfl (eX _ (oi h1).symm (gE rfl rfl))
  exact nx 5 rfl (eX _ (oi h1).symm (gE rfl rfl))
 refine nx 6 rfl (fD [25, 27] h1 rfl (fun c6 h1 => ?_) fun c6 h1 => ?_)
 ·exact nx 2 rfl (eX _ (oi h1).symm (gE rfl rfl))
 refine nx 5 rfl (fD [29, 30] h1 rfl (fun c7 h1 => ?_) fun c7 h1 => ?_)
 ·exact nx 5 rfl (eX _ (oi h1).symm (gE rfl rfl))
 exact nx 5 rfl (eX _ (oi h1).symm (gE rfl rfl))
def dX (p_0 : List UInt8) (r_1 : Int) : Option (List UInt8) :=
 if IntKind.wrap .u32 (r_1) ≤ 127 then
  ck ((0 : Int) ≤ IntKind.wrap .u8 (r_1) ∧ IntKind.wrap .u8 (r_1) < 256) <|
  ck ((p_0.length + [u8 (IntKind.wrap .u8 (r_1))].length) * 1 ≤ 140737488355328) <|
  some (p_0 ++ [u8 (IntKind.wrap .u8 (r_1))])
 else
  (dd p_0 r_1).bind fun r4 =>
  some r4
set_option maxHeartbeats 4000000 in
theorem kp (p_0 : List UInt8) (r_1 : Int) (r : (List UInt8)) (h0 : dX p_0 r_1 = some r) : bO Tryz.prog 139 [.vec 900000 1 (5 + 1) (p_0.map eU), .p (eK .i32 r_1)] [] (fun x y => x = .vec 2000000 1 (5 + 1) (r.map eU) ∧ y = []) := by
 unfold dX at h0
 refine ga good [800000] [] Tryz.func139 rfl rfl rfl rfl rfl fun w0 F => mPo (fun v : (List UInt8) => .vec 2000000 1 (5 + 1) (v.map eU)) (fun v => []) ?_
 refine nx 11 rfl (fD [7] h0 rfl (fun c1 h0 => ?_) fun c1 h0 => ?_)
 ·refine nx 6 rfl (cc' h0 fun hk2 h0 => ?_)
  refine mO rfl (bN eU [u8 (IntKind.wrap .u8 (r_1))] rfl rfl rfl rfl rfl rfl rfl rfl rfl rfl rfl rfl rfl (congr (congrArg List.cons (m8 hk2)) rfl) ?_)
  refine cc' h0 fun hk3 h0 => mO rfl (fL eU p_0 [u8 (IntKind.wrap .u8 (r_1))] rfl rfl rfl rfl rfl rfl rfl rfl rfl rfl rfl rfl rfl (fun _ => rfl) rfl rfl rfl rfl hk3 ?_)
  exact nx 3 rfl (mQo (oi h0) (bC (bz 12 800000 rfl rfl rfl rfl rfl) (bv _)) rfl rfl rfl rfl (sr) trivial)
 refine nx 6 rfl (bd h0 fun r4 e5 h0 => ?_)
 refine mO rfl (bo [] [900000] 101000 101001 (iD p_0 r_1 _ e5) rfl rfl rfl rfl rfl ⟨sr, sr, trivial⟩ rfl rfl trivial rfl rfl rfl rfl rfl rfl rfl rfl Tryz.call151 rfl rfl ?_)
 exact nx 3 rfl (mQo (oi h0) (bC (bz 101000 800000 rfl rfl rfl rfl rfl) (bv _)) rfl rfl rfl rfl (sr) trivial)
def ba (b_0 : aD) (s_1 : Bytes) : Option (Int × Bool × aD) :=
 (ct (aD.mk b_0.fbuf)).bind fun r1 =>
 ck ((r1.fbuf.length + s_1.length) * 1 ≤ 140737488355328) <|
 some ((s_1.length : Int), false, (aD.mk (r1.fbuf ++ s_1)))
set_option maxHeartbeats 4000000 in
theorem bM (b_0 : aD) (s_1 : Bytes) (r : Int × Bool × aD) (h0 : ba b_0 s_1 = some r) : bO Tryz.prog 78 [.ptr 1000000 0, .p (eS s_1)] [(1000000, [.bptr 110 2 1000000, .vec 900000 1 (5 + 1) (b_0.fbuf.map eU)])] (fun x y => x = .tuple [.p (eI r.1), .p (eE r.2.1)] ∧ y = [(1000000, [.bptr 110 2 1000000, .vec 2000000 1 (5 + 1) (r.2.2.fbuf.map eU)])]) := by
 unfold ba at h0
 refine ga good [800000] [1000000] Tryz.func78 rfl rfl rfl rfl rfl fun w0 F => mPo (fun v : Int × Bool × aD => .tuple [.p (eI v.1), .p (eE v.2.1)]) (fun v => [(1000000, [.bptr 110 2 1000000, .vec 2000000 1 (5 + 1) (v.2.2.fbuf.map eU)])]) ?_
 refine nx 8 rfl (bd h0 fun r1 e2 h0 => ?_)
 refine mO rfl (bo [1000000] [900000] 101000 101001 (eM (aD.mk b_0.fbuf) _ e2) rfl rfl rfl rfl rfl ⟨sr, trivial⟩ rfl rfl ⟨⟨_, rfl, ⟨sr, sr, trivial⟩⟩, trivial⟩ rfl rfl rfl rfl rfl rfl rfl rfl Tryz.call100 rfl rfl ?_)
 refine nx 9 rfl (cc' h0 fun hk3 h0 => ?_)
 refine mO rfl (ya r1.fbuf s_1 rfl rfl rfl rfl rfl rfl rfl rfl rfl rfl rfl rfl rfl rfl rfl hk3 ?_)
 refine nx 7 rfl (oLs rfl ?_)
 exact nx 4 rfl (mQo (oi h0) (bC (bz 14 800000 rfl rfl rfl rfl rfl) (bv _)) rfl rfl rfl rfl (bV ⟨sr, sr, trivial⟩) ⟨⟨_, rfl, ⟨sr, sr, trivial⟩⟩, trivial⟩)
def bI (b_0 : aD) (c_1 : Int) : Option (Bool × aD) :=
 (ct (aD.mk b_0.fbuf)).bind fun r1 =>
 ck ((0 : Int) ≤ c_1 ∧ c_1 < 256) <|
 ck ((r1.fbuf.length + [u8 c_1].length) * 1 ≤ 140737488355328) <|
 some (false, (aD.mk (r1.fbuf ++ [u8 c_1])))
set_option maxHeartbeats 4000000 in
theorem cR (b_0 : aD) (c_1 : Int) (r : Bool × aD) (h0 : bI b_0 c_1 = some r) : bO Tryz.prog 120 [.ptr 1000000 0, .p (eK .u8 c_1)] [(1000000, [.bptr 110 2 1000000, .vec 900000 1 (5 + 1) (b_0.fbuf.map eU)])] (fun x y => x = .p (eE r.1) ∧ y = [(1000000, [.bptr 110 2 1000000, .vec 2000000 1 (5 + 1) (r.2.fbuf.map eU)])]) := by
 unfold bI at h0
 refine ga good [800000] [1000000] Tryz.func120 rfl rfl rfl rfl rfl fun w0 F => mPo (fun v : Bool × aD => .p (eE v.1)) (fun v => [(1000000, [.bptr 110 2 1000000, .vec 2000000 1 (5 + 1) (v.2.fbuf.map eU)])]) ?_
 refine nx 7 rfl (bd h0 fun r1 e2 h0 => ?_)
 refine mO rfl (bo [1000000] [900000] 101000 101001 (eM (aD.mk b_0.fbuf) _ e2) rfl rfl rfl rfl rfl ⟨sr, trivial⟩ rfl rfl ⟨⟨_, rfl, ⟨sr, sr, trivial⟩⟩, trivial⟩ rfl rfl rfl rfl rfl rfl rfl rfl Tryz.call100 rfl rfl ?_)
 refine nx 9 rfl (cc' h0 fun hk3 h0 => ?_)
 refine mO rfl (bN eU [u8 c_1] rfl rfl rfl rfl rfl rfl rfl rfl rfl rfl rfl rfl rfl (congr (congrArg List.cons (m8 hk3)) rfl) ?_)
 refine cc' h0 fun hk4 h0 => mO rfl (fL eU r1.fbuf [u8 c_1] rfl rfl rfl rfl rfl rfl rfl rfl rfl rfl rfl rfl rfl (fun _ => rfl) rfl rfl rfl rfl hk4 ?_)
 exact nx 9 rfl (mQo (oi h0) (bC (bz 14 800000 rfl rfl rfl rfl rfl) (bv _)) rfl rfl rfl rfl (sr) ⟨⟨_, rfl, ⟨sr, sr, trivial⟩⟩, trivial⟩)
def du (b_0 : aD) (r_1 : Int) : Option (Int × Bool × aD) :=
 (ct (aD.mk b_0.fbuf)).bind fun r1 =>
 (dX r1.fbuf r_1).bind fun r3 =>
 ck (inR ((r3.length : Int) - (r1.fbuf.length : Int))) <|
 some ((r3.length : Int) - (r1.fbuf.length : Int), false, (aD.mk r3))
set_option maxHeartbeats 4000000 in
theorem jX (b_0 : aD) (r_1 : Int) (r : Int × Bool × aD) (h0 : du b_0 r_1 = some r) : bO Tryz.prog 118 [.ptr 1000000 0, .p (eK .i32 r_1)] [(1000000, [.bptr 110 2 1000000, .vec 900000 1 (5 + 1) (b_0.fbuf.map eU)])] (fun x y => x = .tuple [.p (eI r.1), .p (eE r.2.1)] ∧ y = [(1000000, [.bptr 110 2 1000000, .vec 2000000 1 (5 + 1) (r.2.2.fbuf.map eU)])]) := by
 unfold du at h0
 refine ga good [800000] [1000000] Tryz.func118 rfl rfl rfl rfl rfl fun w0 F => mPo (fun v : Int × Bool × aD => .tuple [.p (eI v.1), .p (eE v.2.1)]) (fun v => [(1000000, [.bptr 110 2 1000000, .vec 2000000 1 (5 + 1) (v.2.2.fbuf.map eU)])]) ?_
 refine nx 8 rfl (bd h0 fun r1 e2 h0 => ?_)
 refine mO rfl (bo [1000000] [900000] 101000 101001 (eM (aD.mk b_0.fbuf) _ e2) rfl rfl rfl rfl rfl ⟨sr, trivial⟩ rfl rfl ⟨⟨_, rfl, ⟨sr, sr, trivial⟩⟩, trivial⟩ rfl rfl rfl rfl rfl rfl rfl rfl Tryz.call100 rfl rfl ?_)
 refine nx 7 rfl (oLl (f := eU) rfl rfl ?_)
 refine nx 10 rfl (bd h0 fun r3 e4 h0 => ?_)
 refine mO rfl (bo [] [101000] 102000 102001 (kp r1.fbuf r_1 _ e4) rfl rfl rfl rfl rfl ⟨sr, sr, trivial⟩ rfl rfl trivial rfl rfl rfl rfl rfl rfl rfl rfl Tryz.call139 rfl rfl ?_)
 refine nx 10 rfl (oLl (f := eU) rfl rfl ?_)
 refine nx 1 rfl (oA h0 rfl rfl fun hk5 h0 => ?_)
 refine nx 3 rfl (mG (gE (t := ⟨[(4, .p (eI ((r3.length : Int) - (r1.fbuf.length : Int)))), (5, .p (eE false))], [(1000000, [.bptr 110 2 1000000, .vec 102000 1 (5 + 1) (r3.map eU)])]⟩) rfl rfl) ?_)
 exact nx 1 rfl (mQo (oi h0) (bC (bz 102000 800000 rfl rfl rfl rfl rfl) (bv _)) rfl rfl rfl rfl (bV ⟨sr, sr, trivial⟩) ⟨⟨_, rfl, ⟨sr, sr, trivial⟩⟩, trivial⟩)
def ib (b_0 : aD) : Option (Int × aD) :=
 some ((b_0.fbuf.length : Int), (aD.mk b_0.fbuf))
set_option maxHeartbeats 4000000 in
theorem lC (b_0 : aD) (r : Int × aD) (h0 : ib b_0 = some r) : bO Tryz.prog 119 [.ptr 1000000 0] [(1000000, [.bptr 110 2 1000000, .vec 900000 1 (5 + 1) (b_0.fbuf.map eU)])] (fun x y => x = .p (eI r.1) ∧ y = [(1000000, [.bptr 110 2 1000000, .vec 2000000 1 (5 + 1) (r.2.fbuf.map eU)])]) := by
 unfold ib at h0
 refine ga good [800000] [1000000] Tryz.func119 rfl rfl rfl rfl rfl fun w0 F => mPo (fun v : Int × aD => .p (eI v.1)) (fun v => [(1000000, [.bptr 110 2 1000000, .vec 2000000 1 (5 + 1) (v.2.fbuf.map eU)])]) ?_
 refine nx 10 rfl (oLl (f := eU) rfl rfl ?_)
 exact nx 3 rfl (mQo (oi h0) (bC (bz 900000 800000 rfl rfl rfl rfl rfl) (bv _)) rfl rfl rfl rfl (sr) ⟨⟨_, rfl, ⟨sr, sr, trivial⟩⟩, trivial⟩)
end Go.Ab.RB
end
section
set_option linter.unusedVariables false
set_option linter.unusedSimpArgs false
set_option linter.unnecessarySimpa false
namespace Go.Ab
open Go.RowKit
theorem aF.of_calls {P : Program} {f : FuncId} {l : List Value} {r : AV}
  (h : ∀ (w : World) (st : Nat → Nat → Prop), Ok0 w st → Calls P f l.toArray w fun e w' => ∃ v, e = .returned v ∧ Below w.heap.size w w' ∧ ∀ g', ARep w' g' r v) : aF P f (l.map PV.val) (· = r) := by
 intro w st vs hok hsz hargs
 have e : vs = l.toArray := by
  apply Array.ext
  ·simpa using hsz
  ·intro i h1 h2
   have hi : i < l.length := by simpa using h2
   have := hargs i (.val l[i]) vs[i] (by simp [hi]) (Array.getElem?_eq_getElem h1)
   generalize hv : vs[i] = v at this
   cases this
   simp
 subst e
 refine (h w st hok).mono ?_
 rintro e w' ⟨v, rfl, hB, hr⟩
 refine ⟨v, r, ⟨st, fun _ => none⟩, rfl, rfl, hr _, ⟨hB.os, hB.output, hB.tape, hB.size, fun b hb => hB.block b hb, ?_, ?_, fun b o hb => Nat.lt_of_lt_of_le (hok.lt b o hb) hB.size, fun b _ o => Iff.rfl⟩⟩
 ·intro i b hi; cases hi
 ·intro i j b hi; cases hi
theorem ml {w : World} {st : Nat → Nat → Prop} (h : kz w st) {g j : Nat} {l : List GC} {k : IntKind} {n : Int} (hl : look oO g = some l) (hj : l[j]? = some (.int k n)) : w.cell? ⟨g, j, none⟩ = some (.int k n) := by
 obtain ⟨_, v, h2, h3⟩ := (h g (l.map GC.pv) (by rw [lK, hl]; rfl)).1 j (.val (.int k n)) (by rw [List.getElem?_map, hj]; rfl)
 cases h3
 exact h2
theorem uz {w : World} {st : Nat → Nat → Prop} (h : kz w st) {g j : Nat} {l : List GC} (hl : look oO g = some l) (hj : l[j]? = some .ifc) : ∃ t v, w.cell? ⟨g, j, none⟩ = some (.iface t v) := by
 obtain ⟨_, v, h2, h3⟩ := (h g (l.map GC.pv) (by rw [lK, hl]; rfl)).1 j .ifc (by rw [List.getElem?_map, hj]; rfl)
 cases h3 with
 | ifc t v => exact ⟨t, v, h2⟩
theorem ym {P : Program} {w : World} {st : Nat → Nat → Prop} (h : kz w st) {g : Nat} {l : List GC} {nm : String} {k : IntKind} {zs : List Int} (hl : look oO g = some l) (hn : P.globalNamed nm = some g) (hz : l = zs.map (GC.int k)) (hne : zs ≠ []) : Lib.TabIs P w nm k zs := by
 obtain ⟨h0, h1, h2⟩ := h g (l.map GC.pv) (by rw [lK, hl]; rfl)
 have hc : ∀ (j : Nat) z, zs[j]? = some z → w.cell? ⟨g, j, none⟩ = some (.int k z) := fun j z hj => ml h hl (by rw [hz, List.getElem?_map, hj]; rfl)
 unfold Lib.TabIs World.var?
 rw [hn]
 simp only [Option.bind_some]
 have hlen : (l.map GC.pv).length = zs.length := by rw [hz]; simp
 rw [hlen] at h2
 obtain ⟨z0, hz0⟩ : ∃ z0, zs[0]? = some z0 := by
  cases zs with
  | nil => exact absurd rfl hne
  | cons z r => exact ⟨z, rfl⟩
 have hc0 := hc 0 z0 hz0
 simp only [World.cell?] at hc hc0 h2
 cases hh : w.heap[g]? with
 | none => rw [hh] at hc0; cases hc0
 | some o =>
  rw [hh] at hc hc0 h2
  cases o with
  | cells c e fz =>
   simp only [Option.isSome_none, Bool.false_eq_true, if_false] at hc hc0 h2
   refine congrArg some ?_
   apply Array.ext_getElem?
   intro j
   by_cases hj : j < zs.length
   ·rw [hc j zs[j] (List.getElem?_eq_getElem hj)]
    simp [hj]
   ·have h3 : c.size ≤ zs.length := by
     rcases Nat.lt_or_ge zs.length c.size with h' | h'
     ·rw [Array.getElem?_eq_getElem h'] at h2; cases h2
     ·exact h'
    rw [Array.getElem?_eq_none (by omega), Array.getElem?_eq_none (by simp; omega)]
  | _ => simp at hc0
theorem gw (s : Bytes) : (str s).data.toList = s := by simp [str]
theorem kj (w : World) : Below w.heap.size w w := Below.refl _ w
end Go.Ab
end
section
set_option linter.unusedVariables false
namespace Go.Proofs
open Go.Shelf
def Tryz.lays119_ren : Go.Shelf.Ren := ⟨fun | 119 => 134 | n => n, fun | 21 => 21 | 4 => 4 | n => n, fun | n => n⟩
theorem Tryz.lays119 : Go.Proofs.Lays.n119 Tryz.prog Tryz.lays119_ren := {
 mixed := by kernel_rfl
 f119 := Tryz.func134.trans (congrArg some (by kernel_rfl))
 t4 := Tryz.underlying4
 a4 := Tryz.isAgg4
 z4 := Tryz.sizeOf4
 v4 := Tryz.zeroValue4
 t21 := Tryz.underlying21
 a21 := Tryz.isAgg21
 z21 := Tryz.sizeOf21
 v21 := Tryz.zeroValue21 }
theorem Tryz.utf8_ValidRune (r : Int) (w : World) :
  Calls Tryz.prog 134 #[.int .i32 r] w fun e w' => e = .returned (.bool (Lib.validRune r)) ∧ w' = w := Any.utf8_ValidRune Tryz.lays119 r w
def Tryz.lays137_ren : Go.Shelf.Ren := ⟨fun | 137 => 97 | 217 => 122 | 266 => 141 | n => n, fun | 9 => 9 | 5 => 5 | 3 => 3 | n => n, fun | n => n⟩
theorem Tryz.lays137 : Go.Proofs.Lays.n137 Tryz.prog Tryz.lays137_ren := {
 mixed := by kernel_rfl
 f137 := Tryz.func97.trans (congrArg some (by kernel_rfl))
 f217 := Tryz.func122.trans (congrArg some (by kernel_rfl))
 f266 := Tryz.func141.trans (congrArg some (by kernel_rfl))
 t3 := Tryz.underlying3
 a3 := Tryz.isAgg3
 z3 := Tryz.sizeOf3
 v3 := Tryz.zeroValue3
 t5 := Tryz.underlying5
 a5 := Tryz.isAgg5
 z5 := Tryz.sizeOf5
 v5 := Tryz.zeroValue5
 t9 := Tryz.underlying9
 a9 := Tryz.isAgg9
 z9 := Tryz.sizeOf9
 v9 := Tryz.zeroValue9 }
open Go.RowKit in
theorem Tryz.strings_IndexByte (s : ByteArray) (c : Int) (w : World) :
  Calls Tryz.prog 97 #[.string s, .int .u8 c] w fun e w' => e = .returned (.int .i64 (Lib.indexByte s.data.toList c.toNat.toUInt8)) ∧ w' = w := Any.strings_IndexByte Tryz.lays137 s c w
def Tryz.lays103_ren : Go.Shelf.Ren := ⟨fun | 103 => 92 | 210 => 111 | 206 => 91 | n => n, fun | 9 => 9 | 4 => 4 | 24 => 126 | 3 => 3 | n => n, fun | n => n⟩
theorem Tryz.lays103 : Go.Proofs.Lays.n103 Tryz.prog Tryz.lays103_ren := {
 mixed := by kernel_rfl
 f103 := Tryz.func92.trans (congrArg some (by kernel_rfl))
 f206 := Tryz.func91.trans (congrArg some (by kernel_rfl))
 f210 := Tryz.func111.trans (congrArg some (by kernel_rfl))
 t3 := Tryz.underlying3
 a3 := Tryz.isAgg3
 z3 := Tryz.sizeOf3
 v3 := Tryz.zeroValue3
 t4 := Tryz.underlying4
 a4 := Tryz.isAgg4
 z4 := Tryz.sizeOf4
 v4 := Tryz.zeroValue4
 t9 := Tryz.underlying9
 a9 := Tryz.isAgg9
 z9 := Tryz.sizeOf9
 v9 := Tryz.zeroValue9
 t24 := Tryz.underlying126
 a24 := Tryz.isAgg126
 z24 := Tryz.sizeOf126
 v24 := Tryz.zeroValue126 }
open Go.RowKit in
theorem Tryz.strings_CutPrefix (s p : ByteArray) (w : World) :
  Calls Tryz.prog 92 #[.string s, .string p] w fun e w' => e = .returned (.tuple #[.string ⟨(Lib.trimPrefix s.data.toList p.data.toList).toArray⟩, .bool (Lib.hasPrefix s.data.toList p.data.toList)]) ∧ w' = w := Any.strings_CutPrefix Tryz.lays103 s p w
def Tryz.lays99_ren : Go.Shelf.Ren := ⟨fun | 99 => 68 | 206 => 91 | n => n, fun | 9 => 9 | 4 => 4 | 3 => 3 | n => n, fun | n => n⟩
theorem Tryz.lays99 : Go.Proofs.Lays.n99 Tryz.prog Tryz.lays99_ren := {
 mixed := by kernel_rfl
 f99 := Tryz.func68.trans (congrArg some (by kernel_rfl))
 f206 := Tryz.func91.trans (congrArg some (by kernel_rfl))
 t3 := Tryz.underlying3
 a3 := Tryz.isAgg3
 z3 := Tryz.sizeOf3
 v3 := Tryz.zeroValue3
 t4 := Tryz.underlying4
 a4 := Tryz.isAgg4
 z4 := Tryz.sizeOf4
 v4 := Tryz.zeroValue4
 t9 := Tryz.underlying9
 a9 := Tryz.isAgg9
 z9 := Tryz.sizeOf9
 v9 := Tryz.zeroValue9 }
open Go.RowKit Go.Lib in
theorem Tryz.strings_HasPrefix (s p : ByteArray) (w : World) :
  Calls Tryz.prog 68 #[.string s, .string p] w fun e w' => e = .returned (.bool (Lib.hasPrefix s.data.toList p.data.toList)) ∧ w' = w := Any.strings_HasPrefix Tryz.lays99 s p w
def Tryz.laysM171_ren : Go.Shelf.Ren := ⟨fun | 171 => 128 | 243 => 145 | 246 => 140 | 283 => 152 | 284 => 153 | 285 => 154 | 286 => 155 | 129 => 165 | 317 => 164 | 318 => 166 | 319 => 167 | 320 => 168 | 337 => 175 | 338 => 176 | n => n, fun | 3 => 3 | 9 => 9 | 2 => 2 | 4 => 4 | 171 => 176 | 0 => 0 | 53 => 177 | 37 => 108 | 5 => 5 | 173 => 180 | 212 => 191 | 51 => 175 | 20 => 20 | 213 => 192 | 46 => 165 | 232 => 205 | 233 => 206 | n => n, fun | 17 => 3 | 18 => 6 | 19 => 7 | n => n⟩
theorem Tryz.laysM171 : Go.Proofs.LaysM.n171 Tryz.prog Tryz.laysM171_ren := {
 mixed := by kernel_rfl
 f129 := Tryz.func165.trans (congrArg some (by kernel_rfl))
 f171 := Tryz.func128.trans (congrArg some (by kernel_rfl))
 f243 := Tryz.func145.trans (congrArg some (by kernel_rfl))
 f246 := Tryz.func140.trans (congrArg some (by kernel_rfl))
 f283 := Tryz.func152.trans (congrArg some (by kernel_rfl))
 f284 := Tryz.func153.trans (congrArg some (by kernel_rfl))
 f285 := Tryz.func154.trans (congrArg some (by kernel_rfl))
 f286 := Tryz.func155.trans (congrArg some (by kernel_rfl))
 f317 := Tryz.func164.trans (congrArg some (by kernel_rfl))
 f318 := Tryz.func166.trans (congrArg some (by kernel_rfl))
 f319 := Tryz.func167.trans (congrArg some (by kernel_rfl))
 f320 := Tryz.func168.trans (congrArg some (by kernel_rfl))
 f337 := Tryz.func175.trans (congrArg some (by kernel_rfl))
 f338 := Tryz.func176.trans (congrArg some (by kernel_rfl))
 t0 := Tryz.underlying0
 a0 := Tryz.isAgg0
 z0 := Tryz.sizeOf0
 v0 := Tryz.zeroValue0
 t2 := Tryz.underlying2
 a2 := Tryz.isAgg2
 z2 := Tryz.sizeOf2
 v2 := Tryz.zeroValue2
 t3 := Tryz.underlying3
 a3 := Tryz.isAgg3
 z3 := Tryz.sizeOf3
 v3 := Tryz.zeroValue3
 t4 := Tryz.underlying4
 a4 := Tryz.isAgg4
 z4 := Tryz.sizeOf4
 v4 := Tryz.zeroValue4
 t5 := Tryz.underlying5
 a5 := Tryz.isAgg5
 z5 := Tryz.sizeOf5
 v5 := Tryz.zeroValue5
 t9 := Tryz.underlying9
 a9 := Tryz.isAgg9
 z9 := Tryz.sizeOf9
 v9 := Tryz.zeroValue9
 t20 := Tryz.underlying20
 a20 := Tryz.isAgg20
 z20 := Tryz.sizeOf20
 v20 := Tryz.zeroValue20
 t37 := Tryz.underlying108
 a37 := Tryz.isAgg108
 z37 := Tryz.sizeOf108
 v37 := Tryz.zeroValue108
 t46 := Tryz.underlying165
 a46 := Tryz.isAgg165
 z46 := Tryz.sizeOf165
 v46 := Tryz.zeroValue165
 t51 := Tryz.underlying175
 a51 := Tryz.isAgg175
 z51 := Tryz.sizeOf175
 v51 := Tryz.zeroValue175
 t53 := Tryz.underlying177
 a53 := Tryz.isAgg177
 z53 := Tryz.sizeOf177
 v53 := Tryz.zeroValue177
 t171 := Tryz.underlying176
 a171 := Tryz.isAgg176
 z171 := Tryz.sizeOf176
 v171 := Tryz.zeroValue176
 t173 := Tryz.underlying180
 a173 := Tryz.isAgg180
 z173 := Tryz.sizeOf180
 v173 := Tryz.zeroValue180
 t212 := Tryz.underlying191
 a212 := Tryz.isAgg191
 z212 := Tryz.sizeOf191
 v212 := Tryz.zeroValue191
 t213 := Tryz.underlying192
 a213 := Tryz.isAgg192
 z213 := Tryz.sizeOf192
 t232 := Tryz.underlying205
 a232 := Tryz.isAgg205
 z232 := Tryz.sizeOf205
 v232 := Tryz.zeroValue205
 t233 := Tryz.underlying206
 a233 := Tryz.isAgg206
 z233 := Tryz.sizeOf206
 v233 := Tryz.zeroValue206
 g17 := by kernel_rfl
 g18 := by kernel_rfl
 g19 := by kernel_rfl
 i0 := by kernel_rfl
 i2 := by kernel_rfl
 i3 := by kernel_rfl
 i4 := by kernel_rfl
 i5 := by kernel_rfl
 i9 := by kernel_rfl
 i20 := by kernel_rfl
 i37 := by kernel_rfl
 i46 := by kernel_rfl
 i51 := by kernel_rfl
 i53 := by kernel_rfl
 i171 := by kernel_rfl
 i173 := by kernel_rfl
 i212 := by kernel_rfl
 i232 := by kernel_rfl
 i233 := by kernel_rfl
 m17 := by kernel_rfl
 m18 := by kernel_rfl
 m19 := by kernel_rfl }
open Go.RowKit Go.Sort Go.Lib in
theorem Tryz.strconv_Itoa (n : Int) (h0 : -9223372036854775808 ≤ n) (h1 : n ≤ 9223372036854775807) (w : World) (htab : Lib.TabIs Tryz.prog w "internal/strconv.uint64pow10" .u64 Lib.pow10Tab) :
  Calls Tryz.prog 128 #[.int .i64 n] w fun e w' => e = .returned (.string ⟨(Lib.itoa n).toArray⟩) ∧ ∃ k os, w' = grow (w.drewN k) os := Any.strconv_Itoa Tryz.laysM171 n h0 h1 w htab
def Tryz.laysC174_ren : Go.Shelf.Ren := ⟨fun | 174 => 124 | 247 => 142 | 245 => 143 | 287 => 156 | 279 => 157 | 280 => 158 | 281 => 159 | 282 => 160 | 321 => 169 | 322 => 170 | 316 => 171 | 171 => 128 | 205 => 172 | 243 => 145 | 246 => 140 | 283 => 152 | 284 => 153 | 285 => 154 | 286 => 155 | 129 => 165 | 317 => 164 | 318 => 166 | 319 => 167 | 320 => 168 | 337 => 175 | 338 => 176 | n => n, fun | 9 => 9 | 3 => 3 | 2 => 2 | 75 => 112 | 85 => 158 | 4 => 4 | 167 => 182 | 5 => 5 | 53 => 177 | 175 => 183 | 46 => 165 | 168 => 185 | 37 => 108 | 0 => 0 | 210 => 196 | 21 => 21 | 127 => 136 | 145 => 203 | 143 => 201 | 171 => 176 | 173 => 180 | 212 => 191 | 51 => 175 | 20 => 20 | 213 => 192 | 232 => 205 | 233 => 206 | 80 => 104 | n => n, fun | 15 => 4 | 16 => 5 | 17 => 3 | 18 => 6 | 19 => 7 | n => n⟩
theorem Tryz.laysC174 : Go.Proofs.LaysC.n174 Tryz.prog Tryz.laysC174_ren := {
 mixed := by kernel_rfl
 f129 := Tryz.func165.trans (congrArg some (by kernel_rfl))
 f171 := Tryz.func128.trans (congrArg some (by kernel_rfl))
 f174 := Tryz.func124.trans (congrArg some (by kernel_rfl))
 f205 := Tryz.func172.trans (congrArg some (by kernel_rfl))
 f243 := Tryz.func145.trans (congrArg some (by kernel_rfl))
 f245 := Tryz.func143.trans (congrArg some (by kernel_rfl))
 f246 := Tryz.func140.trans (congrArg some (by kernel_rfl))
 f247 := Tryz.func142.trans (congrArg some (by kernel_rfl))
 f279 := Tryz.func157.trans (congrArg some (by kernel_rfl))
 f280 := Tryz.func158.trans (congrArg some (by kernel_rfl))
 f281 := Tryz.func159.trans (congrArg some (by kernel_rfl))
 f282 := Tryz.func160.trans (congrArg some (by kernel_rfl))
 f283 := Tryz.func152.trans (congrArg some (by kernel_rfl))
 f284 := Tryz.func153.trans (congrArg some (by kernel_rfl))
 f285 := Tryz.func154.trans (congrArg some (by kernel_rfl))
 f286 := Tryz.func155.trans (congrArg some (by kernel_rfl))
 f287 := Tryz.func156.trans (congrArg some (by kernel_rfl))
 f316 := Tryz.func171.trans (congrArg some (by kernel_rfl))
 f317 := Tryz.func164.trans (congrArg some (by kernel_rfl))
 f318 := Tryz.func166.trans (congrArg some (by kernel_rfl))
 f319 := Tryz.func167.trans (congrArg some (by kernel_rfl))
 f320 := Tryz.func168.trans (congrArg some (by kernel_rfl))
 f321 := Tryz.func169.trans (congrArg some (by kernel_rfl))
 f322 := Tryz.func170.trans (congrArg some (by kernel_rfl))
 f337 := Tryz.func175.trans (congrArg some (by kernel_rfl))
 f338 := Tryz.func176.trans (congrArg some (by kernel_rfl))
 t0 := Tryz.underlying0
 a0 := Tryz.isAgg0
 z0 := Tryz.sizeOf0
 v0 := Tryz.zeroValue0
 t2 := Tryz.underlying2
 a2 := Tryz.isAgg2
 z2 := Tryz.sizeOf2
 v2 := Tryz.zeroValue2
 t3 := Tryz.underlying3
 a3 := Tryz.isAgg3
 z3 := Tryz.sizeOf3
 v3 := Tryz.zeroValue3
 t4 := Tryz.underlying4
 a4 := Tryz.isAgg4
 z4 := Tryz.sizeOf4
 v4 := Tryz.zeroValue4
 t5 := Tryz.underlying5
 a5 := Tryz.isAgg5
 z5 := Tryz.sizeOf5
 v5 := Tryz.zeroValue5
 t9 := Tryz.underlying9
 a9 := Tryz.isAgg9
 z9 := Tryz.sizeOf9
 v9 := Tryz.zeroValue9
 t20 := Tryz.underlying20
 a20 := Tryz.isAgg20
 z20 := Tryz.sizeOf20
 v20 := Tryz.zeroValue20
 t21 := Tryz.underlying21
 a21 := Tryz.isAgg21
 z21 := Tryz.sizeOf21
 v21 := Tryz.zeroValue21
 t37 := Tryz.underlying108
 a37 := Tryz.isAgg108
 z37 := Tryz.sizeOf108
 v37 := Tryz.zeroValue108
 t46 := Tryz.underlying165
 a46 := Tryz.isAgg165
 z46 := Tryz.sizeOf165
 v46 := Tryz.zeroValue165
 t51 := Tryz.underlying175
 a51 := Tryz.isAgg175
 z51 := Tryz.sizeOf175
 v51 := Tryz.zeroValue175
 t53 := Tryz.underlying177
 a53 := Tryz.isAgg177
 z53 := Tryz.sizeOf177
 v53 := Tryz.zeroValue177
 t75 := Tryz.underlying112
 a75 := Tryz.isAgg112
 z75 := Tryz.sizeOf112
 v75 := Tryz.zeroValue112
 t85 := Tryz.underlying158
 a85 := Tryz.isAgg158
 z85 := Tryz.sizeOf158
 v85 := Tryz.zeroValue158
 t127 := Tryz.underlying136
 a127 := Tryz.isAgg136
 z127 := Tryz.sizeOf136
 v127 := Tryz.zeroValue136
 t143 := Tryz.underlying201
 a143 := Tryz.isAgg201
 z143 := Tryz.sizeOf201
 v143 := Tryz.zeroValue201
 t145 := Tryz.underlying203
 a145 := Tryz.isAgg203
 z145 := Tryz.sizeOf203
 v145 := Tryz.zeroValue203
 t167 := Tryz.underlying182
 a167 := Tryz.isAgg182
 z167 := Tryz.sizeOf182
 v167 := Tryz.zeroValue182
 t168 := Tryz.underlying185
 a168 := Tryz.isAgg185
 z168 := Tryz.sizeOf185
 v168 := Tryz.zeroValue185
 t171 := Tryz.underlying176
 a171 := Tryz.isAgg176
 z171 := Tryz.sizeOf176
 v171 := Tryz.zeroValue176
 t173 := Tryz.underlying180
 a173 := Tryz.isAgg180
 z173 := Tryz.sizeOf180
 v173 := Tryz.zeroValue180
 t175 := Tryz.underlying183
 a175 := Tryz.isAgg183
 z175 := Tryz.sizeOf183
 v175 := Tryz.zeroValue183
 t210 := Tryz.underlying196
 a210 := Tryz.isAgg196
 z210 := Tryz.sizeOf196
 v210 := Tryz.zeroValue196
 t212 := Tryz.underlying191
 a212 := Tryz.isAgg191
 z212 := Tryz.sizeOf191
 v212 := Tryz.zeroValue191
 t213 := Tryz.underlying192
 a213 := Tryz.isAgg192
 z213 := Tryz.sizeOf192
 t232 := Tryz.underlying205
 a232 := Tryz.isAgg205
 z232 := Tryz.sizeOf205
 v232 := Tryz.zeroValue205
 t233 := Tryz.underlying206
 a233 := Tryz.isAgg206
 z233 := Tryz.sizeOf206
 v233 := Tryz.zeroValue206
 g15 := by kernel_rfl
 g16 := by kernel_rfl
 g17 := by kernel_rfl
 g18 := by kernel_rfl
 g19 := by kernel_rfl
 t80 := Tryz.underlying104
 a80 := Tryz.isAgg104
 z80 := Tryz.sizeOf104
 v80 := Tryz.zeroValue104
 i0 := by kernel_rfl
 i2 := by kernel_rfl
 i3 := by kernel_rfl
 i4 := by kernel_rfl
 i5 := by kernel_rfl
 i9 := by kernel_rfl
 i20 := by kernel_rfl
 i21 := by kernel_rfl
 i37 := by kernel_rfl
 i46 := by kernel_rfl
 i51 := by kernel_rfl
 i53 := by kernel_rfl
 i75 := by kernel_rfl
 i80 := by kernel_rfl
 i85 := by kernel_rfl
 i127 := by kernel_rfl
 i143 := by kernel_rfl
 i145 := by kernel_rfl
 i167 := by kernel_rfl
 i168 := by kernel_rfl
 i171 := by kernel_rfl
 i173 := by kernel_rfl
 i175 := by kernel_rfl
 i210 := by kernel_rfl
 i212 := by kernel_rfl
 i232 := by kernel_rfl
 i233 := by kernel_rfl
 m15 := by kernel_rfl
 m16 := by kernel_rfl
 m17 := by kernel_rfl
 m18 := by kernel_rfl
 m19 := by kernel_rfl
 c0 := by kernel_rfl
 c2 := by kernel_rfl
 c3 := by kernel_rfl
 c4 := by kernel_rfl
 c5 := by kernel_rfl
 c9 := by kernel_rfl
 c20 := by kernel_rfl
 c21 := by kernel_rfl
 c37 := by kernel_rfl
 c46 := by kernel_rfl
 c51 := by kernel_rfl
 c53 := by kernel_rfl
 c75 := by kernel_rfl
 c80 := by kernel_rfl
 c85 := by kernel_rfl
 c127 := by kernel_rfl
 c143 := by kernel_rfl
 c145 := by kernel_rfl
 c167 := by kernel_rfl
 c168 := by kernel_rfl
 c171 := by kernel_rfl
 c173 := by kernel_rfl
 c175 := by kernel_rfl
 c210 := by kernel_rfl
 c212 := by kernel_rfl
 c213 := by kernel_rfl
 c232 := by kernel_rfl
 c233 := by kernel_rfl }
open Go.RowKit in
theorem Tryz.strconv_ParseInt_10_at64_ok (s : ByteArray) (hmax : s.size ≤ 9223372036854775806) (v : Int) (h : Lib.parseIntB 64 s.data.toList = .ok v) (w : World) :
  Calls Tryz.prog 124 #[.string s, .int .i64 10, .int .i64 64] w fun e w' => e = .returned (.tuple #[.int .i64 v, .nilIface]) ∧ (w' = w ∨ ∃ t, w' = Lib.bytesWorld w 5 t) := Any.strconv_ParseInt_10_at64_ok Tryz.laysC174 s hmax v h w
open Go.RowKit in
theorem Tryz.strconv_ParseInt_10_at64_range (s : ByteArray) (hlim : s.size ≤ 281474976710656) (h : Lib.parseIntB 64 s.data.toList = .range) (ev : Value) (w : World) (hv : w.cell? ⟨5, 0, none⟩ = some ev) (hev : ev = .nilIface ∨ ∃ te pe, ev = .iface te pe) :
  Calls Tryz.prog 124 #[.string s, .int .i64 10, .int .i64 64] w fun e w' => ∃ N, e = .returned (.tuple #[.int .i64 (Lib.intSat 64 s.data.toList), .iface 185 (.pointer (some ⟨N, 0, none⟩))]) ∧ w.heap.size ≤ N ∧ w'.heap[N]? = some (.cells #[.string ⟨#[80, 97, 114, 115, 101, 73, 110, 116]⟩, .string s, ev] 196 (0, 0)) ∧ Below w.heap.size w w' := Any.strconv_ParseInt_10_at64_range Tryz.laysC174 s hlim h ev w hv hev
open Go.RowKit in
theorem Tryz.strconv_ParseInt_10_at64_syntax (s : ByteArray) (hlim : s.size ≤ 281474976710656) (h : Lib.parseIntB 64 s.data.toList = Lib.parseIntB 64 []) (ev : Value) (w : World) (hv : w.cell? ⟨4, 0, none⟩ = some ev) (hev : ev = .nilIface ∨ ∃ te pe, ev = .iface te pe) :
  Calls Tryz.prog 124 #[.string s, .int .i64 10, .int .i64 64] w fun e w' => ∃ N, e = .returned (.tuple #[.int .i64 (0), .iface 185 (.pointer (some ⟨N, 0, none⟩))]) ∧ w.heap.size ≤ N ∧ w'.heap[N]? = some (.cells #[.string ⟨#[80, 97, 114, 115, 101, 73, 110, 116]⟩, .string s, ev] 196 (0, 0)) ∧ Below w.heap.size w w' := Any.strconv_ParseInt_10_at64_syntax Tryz.laysC174 s hlim h ev w hv hev
def Tryz.lays197_ren : Go.Shelf.Ren := ⟨fun | 197 => 116 | 260 => 137 | n => n, fun | 9 => 9 | 21 => 21 | 3 => 3 | 4 => 4 | 5 => 5 | 105 => 150 | 119 => 171 | 0 => 0 | 46 => 165 | 139 => 174 | 138 => 173 | n => n, fun | 3 => 1 | 4 => 2 | n => n⟩
theorem Tryz.lays197 : Go.Proofs.Lays.n197 Tryz.prog Tryz.lays197_ren := {
 mixed := by kernel_rfl
 f197 := Tryz.func116.trans (congrArg some (by kernel_rfl))
 f260 := Tryz.func137.trans (congrArg some (by kernel_rfl))
 t0 := Tryz.underlying0
 a0 := Tryz.isAgg0
 z0 := Tryz.sizeOf0
 v0 := Tryz.zeroValue0
 t3 := Tryz.underlying3
 a3 := Tryz.isAgg3
 z3 := Tryz.sizeOf3
 v3 := Tryz.zeroValue3
 t4 := Tryz.underlying4
 a4 := Tryz.isAgg4
 z4 := Tryz.sizeOf4
 v4 := Tryz.zeroValue4
 t5 := Tryz.underlying5
 a5 := Tryz.isAgg5
 z5 := Tryz.sizeOf5
 v5 := Tryz.zeroValue5
 t9 := Tryz.underlying9
 a9 := Tryz.isAgg9
 z9 := Tryz.sizeOf9
 v9 := Tryz.zeroValue9
 t21 := Tryz.underlying21
 a21 := Tryz.isAgg21
 z21 := Tryz.sizeOf21
 v21 := Tryz.zeroValue21
 t46 := Tryz.underlying165
 a46 := Tryz.isAgg165
 z46 := Tryz.sizeOf165
 v46 := Tryz.zeroValue165
 t105 := Tryz.underlying150
 a105 := Tryz.isAgg150
 z105 := Tryz.sizeOf150
 v105 := Tryz.zeroValue150
 t119 := Tryz.underlying171
 a119 := Tryz.isAgg171
 z119 := Tryz.sizeOf171
 t138 := Tryz.underlying173
 a138 := Tryz.isAgg173
 z138 := Tryz.sizeOf173
 v138 := Tryz.zeroValue173
 t139 := Tryz.underlying174
 a139 := Tryz.isAgg174
 z139 := Tryz.sizeOf174
 v139 := Tryz.zeroValue174
 g3 := by kernel_rfl
 g4 := by kernel_rfl }
open Go.RowKit Go.Lib in
theorem Tryz.utf8_DecodeRuneInString (s : ByteArray) (w : World) (hT : Lib.Utf8Tabs 1 2 w) :
  Calls Tryz.prog 116 #[.string s] w fun e w' => e = .returned (.tuple #[.int .i32 (Lib.decodeGo s).1, .int .i64 (Lib.decodeGo s).2]) ∧ Below w.heap.size w w' := Any.utf8_DecodeRuneInString Tryz.lays197 s w hT
def Tryz.lays153_ren : Go.Shelf.Ren := ⟨fun | 153 => 93 | 152 => 112 | 226 => 113 | 227 => 114 | 228 => 115 | 137 => 97 | 119 => 134 | 224 => 135 | 225 => 136 | 217 => 122 | 266 => 141 | n => n, fun | 9 => 9 | 3 => 3 | 4 => 4 | 5 => 5 | 21 => 21 | 117 => 147 | 116 => 146 | 0 => 0 | 46 => 165 | 124 => 166 | n => n, fun | n => n⟩
theorem Tryz.lays153 : Go.Proofs.Lays.n153 Tryz.prog Tryz.lays153_ren := {
 mixed := by kernel_rfl
 f119 := Tryz.func134.trans (congrArg some (by kernel_rfl))
 f137 := Tryz.func97.trans (congrArg some (by kernel_rfl))
 f152 := Tryz.func112.trans (congrArg some (by kernel_rfl))
 f153 := Tryz.func93.trans (congrArg some (by kernel_rfl))
 f217 := Tryz.func122.trans (congrArg some (by kernel_rfl))
 f224 := Tryz.func135.trans (congrArg some (by kernel_rfl))
 f225 := Tryz.func136.trans (congrArg some (by kernel_rfl))
 f226 := Tryz.func113.trans (congrArg some (by kernel_rfl))
 f227 := Tryz.func114.trans (congrArg some (by kernel_rfl))
 f228 := Tryz.func115.trans (congrArg some (by kernel_rfl))
 f266 := Tryz.func141.trans (congrArg some (by kernel_rfl))
 t0 := Tryz.underlying0
 a0 := Tryz.isAgg0
 z0 := Tryz.sizeOf0
 v0 := Tryz.zeroValue0
 t3 := Tryz.underlying3
 a3 := Tryz.isAgg3
 z3 := Tryz.sizeOf3
 v3 := Tryz.zeroValue3
 t4 := Tryz.underlying4
 a4 := Tryz.isAgg4
 z4 := Tryz.sizeOf4
 v4 := Tryz.zeroValue4
 t5 := Tryz.underlying5
 a5 := Tryz.isAgg5
 z5 := Tryz.sizeOf5
 v5 := Tryz.zeroValue5
 t9 := Tryz.underlying9
 a9 := Tryz.isAgg9
 z9 := Tryz.sizeOf9
 v9 := Tryz.zeroValue9
 t21 := Tryz.underlying21
 a21 := Tryz.isAgg21
 z21 := Tryz.sizeOf21
 v21 := Tryz.zeroValue21
 t46 := Tryz.underlying165
 a46 := Tryz.isAgg165
 z46 := Tryz.sizeOf165
 v46 := Tryz.zeroValue165
 t116 := Tryz.underlying146
 a116 := Tryz.isAgg146
 z116 := Tryz.sizeOf146
 t117 := Tryz.underlying147
 a117 := Tryz.isAgg147
 z117 := Tryz.sizeOf147
 v117 := Tryz.zeroValue147
 t124 := Tryz.underlying166
 a124 := Tryz.isAgg166
 z124 := Tryz.sizeOf166
 v124 := Tryz.zeroValue166 }
open Go.RowKit Go.Lib in
theorem Tryz.strings_IndexAny_long (hv116 : ∀ w, (zeroValue 146).run Tryz.prog w = .ok (.agg (Array.replicate 256 (.bool false))) w) (s chars : ByteArray) (w : World) (h2 : 2 ≤ chars.size) (h8 : 8 < s.size) (hs : s.size < 4294967281) (hcs : chars.size < 4294967281) (hascii : ∀ (j : Nat) b, chars.data.toList[j]? = some b → b.toNat < 128) :
  Calls Tryz.prog 93 #[.string s, .string chars] w fun e w' => e = .returned (.int .i64 (Lib.indexAny s.data.toList chars.data.toList)) ∧ w' = ((w.alloc (.cells (Lib.setCells chars.data.toList) 146)).alloc (.cells (Lib.setCells chars.data.toList) 146)) := Any.strings_IndexAny_long Tryz.lays153 hv116 (by kernel_rfl) s chars w h2 h8 hs hcs hascii
def Tryz.lays152_ren : Go.Shelf.Ren := ⟨fun | 152 => 112 | 137 => 97 | 119 => 134 | 224 => 135 | 225 => 136 | 217 => 122 | 266 => 141 | n => n, fun | 9 => 9 | 21 => 21 | 3 => 3 | 4 => 4 | 5 => 5 | 0 => 0 | 46 => 165 | n => n, fun | n => n⟩
theorem Tryz.lays152 : Go.Proofs.Lays.n152 Tryz.prog Tryz.lays152_ren := {
 mixed := by kernel_rfl
 f119 := Tryz.func134.trans (congrArg some (by kernel_rfl))
 f137 := Tryz.func97.trans (congrArg some (by kernel_rfl))
 f152 := Tryz.func112.trans (congrArg some (by kernel_rfl))
 f217 := Tryz.func122.trans (congrArg some (by kernel_rfl))
 f224 := Tryz.func135.trans (congrArg some (by kernel_rfl))
 f225 := Tryz.func136.trans (congrArg some (by kernel_rfl))
 f266 := Tryz.func141.trans (congrArg some (by kernel_rfl))
 t0 := Tryz.underlying0
 a0 := Tryz.isAgg0
 z0 := Tryz.sizeOf0
 v0 := Tryz.zeroValue0
 t3 := Tryz.underlying3
 a3 := Tryz.isAgg3
 z3 := Tryz.sizeOf3
 v3 := Tryz.zeroValue3
 t4 := Tryz.underlying4
 a4 := Tryz.isAgg4
 z4 := Tryz.sizeOf4
 v4 := Tryz.zeroValue4
 t5 := Tryz.underlying5
 a5 := Tryz.isAgg5
 z5 := Tryz.sizeOf5
 v5 := Tryz.zeroValue5
 t9 := Tryz.underlying9
 a9 := Tryz.isAgg9
 z9 := Tryz.sizeOf9
 v9 := Tryz.zeroValue9
 t21 := Tryz.underlying21
 a21 := Tryz.isAgg21
 z21 := Tryz.sizeOf21
 v21 := Tryz.zeroValue21
 t46 := Tryz.underlying165
 a46 := Tryz.isAgg165
 z46 := Tryz.sizeOf165
 v46 := Tryz.zeroValue165 }
open Go.RowKit Go.Lib in
theorem Tryz.strings_IndexRune_ascii (s : ByteArray) (r : Int) (w : World) (h0 : 0 ≤ r) (h1 : r < 128) :
  Calls Tryz.prog 112 #[.string s, .int .i32 r] w fun e w' => e = .returned (.int .i64 (Lib.indexByte s.data.toList r.toNat.toUInt8)) ∧ w' = w := Any.strings_IndexRune_ascii Tryz.lays152 s r w h0 h1
def Tryz.lays196_ren : Go.Shelf.Ren := ⟨fun | 196 => 144 | 259 => 161 | n => n, fun | 9 => 9 | 4 => 4 | 3 => 3 | 5 => 5 | 12 => 12 | 119 => 171 | 0 => 0 | 46 => 165 | 139 => 174 | 138 => 173 | 53 => 177 | n => n, fun | 3 => 1 | 4 => 2 | n => n⟩
theorem Tryz.lays196 : Go.Proofs.Lays.n196 Tryz.prog Tryz.lays196_ren := {
 mixed := by kernel_rfl
 f196 := Tryz.func144.trans (congrArg some (by kernel_rfl))
 f259 := Tryz.func161.trans (congrArg some (by kernel_rfl))
 t0 := Tryz.underlying0
 a0 := Tryz.isAgg0
 z0 := Tryz.sizeOf0
 v0 := Tryz.zeroValue0
 t3 := Tryz.underlying3
 a3 := Tryz.isAgg3
 z3 := Tryz.sizeOf3
 v3 := Tryz.zeroValue3
 t4 := Tryz.underlying4
 a4 := Tryz.isAgg4
 z4 := Tryz.sizeOf4
 v4 := Tryz.zeroValue4
 t5 := Tryz.underlying5
 a5 := Tryz.isAgg5
 z5 := Tryz.sizeOf5
 v5 := Tryz.zeroValue5
 t9 := Tryz.underlying9
 a9 := Tryz.isAgg9
 z9 := Tryz.sizeOf9
 v9 := Tryz.zeroValue9
 t12 := Tryz.underlying12
 a12 := Tryz.isAgg12
 z12 := Tryz.sizeOf12
 v12 := Tryz.zeroValue12
 t46 := Tryz.underlying165
 a46 := Tryz.isAgg165
 z46 := Tryz.sizeOf165
 v46 := Tryz.zeroValue165
 t53 := Tryz.underlying177
 a53 := Tryz.isAgg177
 z53 := Tryz.sizeOf177
 v53 := Tryz.zeroValue177
 t119 := Tryz.underlying171
 a119 := Tryz.isAgg171
 z119 := Tryz.sizeOf171
 t138 := Tryz.underlying173
 a138 := Tryz.isAgg173
 z138 := Tryz.sizeOf173
 v138 := Tryz.zeroValue173
 t139 := Tryz.underlying174
 a139 := Tryz.isAgg174
 z139 := Tryz.sizeOf174
 v139 := Tryz.zeroValue174
 g3 := by kernel_rfl
 g4 := by kernel_rfl }
open Go.RowKit Go.Lib in
theorem Tryz.utf8_ValidString (s : ByteArray) (w : World) (hs : s.size ≤ 9223372036854775807) (hT : Lib.Utf8Tabs 1 2 w) : Calls Tryz.prog 144 #[.string s] w fun e w' => e = .returned (.bool (Lib.validD s.data.toList)) ∧ Below w.heap.size w w' := Any.utf8_ValidString Tryz.lays196 s w hs hT
def Tryz.lays226_ren : Go.Shelf.Ren := ⟨fun | 226 => 113 | n => n, fun | 3 => 3 | 4 => 4 | n => n, fun | n => n⟩
theorem Tryz.lays226 : Go.Proofs.Lays.n226 Tryz.prog Tryz.lays226_ren := {
 mixed := by kernel_rfl
 f226 := Tryz.func113.trans (congrArg some (by kernel_rfl))
 t3 := Tryz.underlying3
 a3 := Tryz.isAgg3
 z3 := Tryz.sizeOf3
 v3 := Tryz.zeroValue3
 t4 := Tryz.underlying4
 a4 := Tryz.isAgg4
 z4 := Tryz.sizeOf4
 v4 := Tryz.zeroValue4 }
open Go.RowKit Go.Lib in
theorem Tryz.strings_shouldUseASCIISet (n : Int) (w : World) :
  Calls Tryz.prog 113 #[.int .i64 n] w fun e w' => e = .returned (.bool (decide (8 < n))) ∧ w' = w := Any.strings_shouldUseASCIISet Tryz.lays226 n w
end Go.Proofs
end
section
set_option linter.unusedSimpArgs false
set_option linter.unnecessarySimpa false
set_option linter.unusedVariables false
namespace Go.Ab
open Go.Proofs Go.RowKit
def strings_IndexByte (s : Bytes) (c : Int) : Option Int := some (Lib.indexByte s c.toNat.toUInt8)
theorem jO (s_0 : Bytes) (c_1 : Int) (r : Int) (h0 : strings_IndexByte s_0 c_1 = some r) : aF Tryz.prog 97 [eS s_0, eK .u8 c_1] (· = .p (eI r)) := by
 cases h0
 refine aF.of_calls (l := [.string (str s_0), .int .u8 c_1]) fun w st hok => (Tryz.strings_IndexByte _ _ w).mono ?_
 rintro e w' ⟨rfl, rfl⟩
 rw [gw]
 exact ⟨_, rfl, kj _, fun _ => .p (.val _)⟩
def dm (r : Int) : Option Bool := some (Lib.validRune r)
theorem ia (r_0 : Int) (r : Bool) (h0 : dm r_0 = some r) : aF Tryz.prog 134 [eK .i32 r_0] (· = .p (eB r)) := by
 cases h0
 refine aF.of_calls (l := [.int .i32 r_0]) fun w st hok => (Tryz.utf8_ValidRune _ w).mono ?_
 rintro e w' ⟨rfl, rfl⟩
 exact ⟨_, rfl, kj _, fun _ => .p (.val _)⟩
theorem rx {w : World} {g : Gh} {a b : Value} : ARep w g (.tuple [.p (.val a), .p (.val b)]) (.tuple #[a, b]) := by
 refine .tuple rfl fun i c v h1 h2 => ?_
 match i, h1, h2 with
 | 0, h1, h2 => simp at h1 h2; subst h1 h2; exact .p (.val _)
 | 1, h1, h2 => simp at h1 h2; subst h1 h2; exact .p (.val _)
 | n + 2, h1, _ => simp at h1
def strings_CutPrefix (s p : Bytes) : Option (Bytes × Bool) := some (Lib.trimPrefix s p, Lib.hasPrefix s p)
theorem jD (s_0 p_1 : Bytes) (r : Bytes × Bool) (h0 : strings_CutPrefix s_0 p_1 = some r) : aF Tryz.prog 92 [eS s_0, eS p_1] (· = .tuple [.p (eS r.1), .p (eB r.2)]) := by
 cases h0
 refine aF.of_calls (l := [.string (str s_0), .string (str p_1)]) fun w st hok => (Tryz.strings_CutPrefix _ _ w).mono ?_
 rintro e w' ⟨rfl, rfl⟩
 rw [gw, gw]
 exact ⟨_, rfl, kj _, fun _ => rx⟩
def strings_HasPrefix (s p : Bytes) : Option Bool := some (Lib.hasPrefix s p)
theorem mC (s_0 p_1 : Bytes) (r : Bool) (h0 : strings_HasPrefix s_0 p_1 = some r) : aF Tryz.prog 68 [eS s_0, eS p_1] (· = .p (eB r)) := by
 cases h0
 refine aF.of_calls (l := [.string (str s_0), .string (str p_1)]) fun w st hok => (Tryz.strings_HasPrefix _ _ w).mono ?_
 rintro e w' ⟨rfl, rfl⟩
 rw [gw, gw]
 exact ⟨_, rfl, kj _, fun _ => .p (.val _)⟩
def strconv_Itoa (n : Int) : Option Bytes := ck (inR n) <| some (Lib.itoa n)
theorem qB (i_0 : Int) (r : Bytes) (h0 : strconv_Itoa i_0 = some r) : aF Tryz.prog 128 [eI i_0] (· = .p (eS r)) := by
 obtain ⟨hr, h0⟩ := jU h0
 cases h0
 refine aF.of_calls (l := [.int .i64 i_0]) fun w st hok => (Tryz.strconv_Itoa _ hr.1 hr.2 w (ym hok.gl (g := 3) rfl (by kernel_rfl) (by kernel_rfl) (by decide))).mono ?_
 rintro e w' ⟨rfl, k, os, rfl⟩
 exact ⟨_, rfl, Lib.below_grow _ w (Nat.le_refl _) k os, fun _ => .p (.val _)⟩
theorem xa : (List.range 256).all (fun c => match uq[c]? with | some (.int .u8 n) => n == (Lib.firstT c : Int) | _ => false) = true := by kernel_rfl
theorem Aj : (List.range 16).all (fun c => (match yt[2 * c]? with | some (.int .u8 n) => n == (Lib.accLo c : Int) | _ => false) && (match yt[2 * c + 1]? with | some (.int .u8 n) => n == (Lib.accHi c : Int) | _ => false)) = true := by kernel_rfl
theorem xR {o : Option GC} {m : Int} (h : (match o with | some (.int .u8 n) => n == m | _ => false) = true) : o = some (.int .u8 m) := by
 split at h
 ·rw [eq_of_beq h]
 ·cases h
theorem uw {w : World} {st : Nat → Nat → Prop} (h : kz w st) : Lib.Utf8Tabs 1 2 w := by
 refine ⟨fun c hc => ml h rfl (xR (List.all_eq_true.1 xa c (by simpa using hc))), fun i hi => ?_⟩
 have := List.all_eq_true.1 Aj i (by simpa using hi)
 simp only [Bool.and_eq_true] at this
 exact ⟨ml h rfl (xR this.1), ml h rfl (xR this.2)⟩
def dc (s : Bytes) : Option (Int × Int) := some ((Lib.decodeGo (str s)).1, (Lib.decodeGo (str s)).2)
theorem iC (s_0 : Bytes) (r : Int × Int) (h0 : dc s_0 = some r) : aF Tryz.prog 116 [eS s_0] (· = .tuple [.p (eK .i32 r.1), .p (eI r.2)]) := by
 cases h0
 refine aF.of_calls (l := [.string (str s_0)]) fun w st hok => (Tryz.utf8_DecodeRuneInString _ w (uw hok.gl)).mono ?_
 rintro e w' ⟨rfl, hB⟩
 exact ⟨_, rfl, hB, fun _ => rx⟩
def eh (s : Bytes) : Option Bool := ck (s.length ≤ 9223372036854775807) <| some (Lib.validD s)
theorem j5 (s_0 : Bytes) (r : Bool) (h0 : eh s_0 = some r) : aF Tryz.prog 144 [eS s_0] (· = .p (eB r)) := by
 obtain ⟨hl, h0⟩ := jU h0
 cases h0
 refine aF.of_calls (l := [.string (str s_0)]) fun w st hok => (Tryz.utf8_ValidString _ w (by rw [gZ]; exact hl) (uw hok.gl)).mono ?_
 rintro e w' ⟨rfl, hB⟩
 rw [gw]
 exact ⟨_, rfl, hB, fun _ => .p (.val _)⟩
theorem uR (w : World) (e : TypeId) (t : ByteArray) : Below w.heap.size w (Lib.bytesWorld w e t) :=
 ⟨rfl, rfl, rfl, by rw [Lib.bytesWorld_size]; omega, fun k hk => Lib.bytesWorld_at_old w e t k hk⟩
def g6 (s : Bytes) (b z : Int) : Option (Int × Bool) := ck (b = 10 ∧ z = 64 ∧ s.length ≤ 281474976710656) <| some (match Lib.parseIntB 64 s with | .ok v => (v, false) | .range => (Lib.intSat 64 s, true) | _ => (0, true))
theorem wK {w : World} {g : Gh} {a : Int} {t : TypeId} {v : Value} : ARep w g (.tuple [.p (eI a), .p (eE true)]) (.tuple #[.int .i64 a, .iface t v]) := by
 refine .tuple rfl fun i c v h1 h2 => ?_
 match i, h1, h2 with
 | 0, h1, h2 => simp at h1 h2; subst h1 h2; exact .p (.val _)
 | 1, h1, h2 => simp at h1 h2; subst h1 h2; exact .p (.ifc _ _)
 | n + 2, h1, _ => simp at h1
theorem nF (s_0 : Bytes) (base_1 bitSize_2 : Int) (r : Int × Bool) (h0 : g6 s_0 base_1 bitSize_2 = some r) : aF Tryz.prog 124 [eS s_0, eI base_1, eI bitSize_2] (· = .tuple [.p (eI r.1), .p (eE r.2)]) := by
 obtain ⟨⟨rfl, rfl, hl⟩, h1⟩ := jU h0
 have hsz : (str s_0).size ≤ 281474976710656 := by rw [gZ]; exact hl
 refine aF.of_calls (l := [.string (str s_0), .int .i64 10, .int .i64 64]) fun w st hok => ?_
 cases hp : Lib.parseIntB 64 s_0 with
 | ok v =>
  rw [hp] at h1; cases h1
  refine (Tryz.strconv_ParseInt_10_at64_ok (str s_0) (by omega) v (by rw [gw]; exact hp) w).mono ?_
  rintro e w' ⟨rfl, h⟩
  refine ⟨_, rfl, ?_, fun _ => rx⟩
  rcases h with rfl | ⟨t, rfl⟩
  ·exact kj _
  ·exact uR _ _ _
 | range =>
  rw [hp] at h1; cases h1
  obtain ⟨t, v, hv⟩ := uz hok.gl (g := 5) (j := 0) rfl rfl
  refine (Tryz.strconv_ParseInt_10_at64_range (str s_0) hsz (by rw [gw]; exact hp) _ w hv (.inr ⟨_, _, rfl⟩)).mono ?_
  rintro e w' ⟨N, rfl, _, _, hB⟩
  rw [gw]
  exact ⟨_, rfl, hB, fun _ => wK⟩
 | _ =>
  rw [hp] at h1; cases h1
  obtain ⟨t, v, hv⟩ := uz hok.gl (g := 4) (j := 0) rfl rfl
  refine (Tryz.strconv_ParseInt_10_at64_syntax (str s_0) hsz (by rw [gw]; exact hp) _ w hv (.inr ⟨_, _, rfl⟩)).mono ?_
  rintro e w' ⟨N, rfl, _, _, hB⟩
  exact ⟨_, rfl, hB, fun _ => wK⟩
end Go.Ab
set_option linter.unusedVariables false
namespace Go.Ab
open Go.Proofs Go.RowKit Go
set_option maxHeartbeats 1000000 in
set_option maxRecDepth 100000 in
theorem tz16 (w : World) (hT : w.cell? ⟨7, 15, none⟩ = some (.int .u8 4)) :
  Calls Tryz.prog 176 #[.int .u64 16] w fun e w' => e = .returned (.int .i64 4) ∧ w' = w := by
 have hq : IntKind.u64.wrap (Go.bits BinOp.and IntKind.u64 16 (IntKind.u64.wrap (-16)) * 285870213051353865) / 288230376151711744 = 15 := by kernel_rfl
 go_enter Tryz.func176, Tryz.ntmps176
 go_wp2
 go_ret
 exact ⟨rfl, rfl⟩
set_option maxHeartbeats 1000000 in
set_option maxRecDepth 100000 in
theorem pow2 (w : World) : Calls Tryz.prog 167 #[.int .i64 16] w fun e w' => e = .returned (.bool true) ∧ w' = w := by
 have hq : bits BinOp.and IntKind.i64 16 15 = 0 := by kernel_rfl
 go_enter Tryz.func167, Tryz.ntmps167
 go_wp2
 go_ret
 exact ⟨rfl, rfl⟩
set_option maxHeartbeats 400000 in
set_option maxRecDepth 100000 in
theorem tz (w : World) (hT : w.cell? ⟨7, 15, none⟩ = some (.int .u8 4)) :
  Calls Tryz.prog 168 #[.int .u64 16] w fun e w' => e = .returned (.int .i64 4) ∧ w' = w := by
 have HC := tz16 w hT
 clear hT
 go_enter Tryz.func168, Tryz.ntmps168
 go_wp2_with (go_at_call 176; refine HC.mono ?_; rintro e w' ⟨rfl, rfl⟩)
 go_ret
 exact ⟨rfl, rfl⟩
end Go.Ab
set_option linter.unusedVariables false
namespace Go.Ab
open Go.Proofs Go.RowKit Go
abbrev digs : ByteArray := { data := #[48, 49, 50, 51, 52, 53, 54, 55, 56, 57, 97, 98, 99, 100, 101, 102, 103, 104, 105, 106, 107, 108, 109, 110, 111, 112, 113, 114, 115, 116, 117, 118, 119, 120, 121, 122] }
def dig (n : Nat) (h : n < 36) : UInt8 := digs[n]'(by show n < 36; exact h)
theorem u9 (n : Nat) (h : n < 36) : (({ data := #[48, 49, 50, 51, 52, 53, 54, 55, 56, 57, 97, 98, 99, 100, 101, 102, 103, 104, 105, 106, 107, 108, 109, 110, 111, 112, 113, 114, 115, 116, 117, 118, 119, 120, 121, 122] } : ByteArray)[n]'(by show n < 36; exact h)) = dig n h := rfl
set_option maxHeartbeats 400000 in
set_option maxRecDepth 100000 in
theorem fb (u : Int) (h0 : 0 ≤ u) (h1 : u < 16) (w : World) (hT : w.cell? ⟨7, 15, none⟩ = some (.int .u8 4)) :
  Calls Tryz.prog 155 #[.slice none 0 0, .int .u64 u, .int .i64 16, .bool false, .bool false] w fun e w' => e = .returned (.tuple #[.slice none 0 0, .string ⟨[dig u.toNat (by omega)].toArray⟩]) ∧ Below w.heap.size w w' := by
 have hlt : (7 : Nat) < w.heap.size := by
  rcases Nat.lt_or_ge 7 w.heap.size with h | h
  ·exact h
  ·simp [World.cell?, Array.getElem?_eq_none h] at hT
 have HZ : Hid (∀ o, Calls Tryz.prog 168 #[.int .u64 16] (w.alloc o) fun e w' => e = .returned (.int .i64 4) ∧ w' = w.alloc o) := fun o => tz (w.alloc o) ((World.cell?_alloc_lt w _ _ hlt).trans hT)
 clear hT
 go_enter Tryz.func155, Tryz.ntmps155
 go_wp2_with (first | (go_at_call 167; refine (pow2 _).mono ?_; rintro e w' ⟨rfl, rfl⟩) | (go_at_call 168; refine (HZ.out _).mono ?_; rintro e w' ⟨rfl, rfl⟩))
 go_loopg [1, 13] 1 (fun g uv iv wx => g = 1 ∧ uv = .int .u64 u ∧ iv = .int .i64 65 ∧ wx = w.alloc (.cells Tryz.zeroCells192 192))
 case atStart => exact ⟨rfl, rfl, rfl, rfl⟩
 case round =>
  obtain ⟨rfl, rfl, rfl, rfl⟩ := hrel
  have hlt16 : decide ((16 : Int) ≤ u) = false := decide_eq_false (by omega)
  go_wp2
  rw [u9 u.toNat (by omega)]
  generalize hd : dig u.toNat (by omega) = dg
  have hcv := run_convert_bytes_back (P := Tryz.prog) (w.alloc (.cells (Tryz.zeroCells192.setIfInBounds 64 (.int .u8 dg.toNat)) 192)) 108 9 5 ⟨w.heap.size, 64, none⟩ 1 [dg] Tryz.underlying108 Tryz.underlying5 Tryz.underlying9 (fun j hj => by
   have : j = 0 := by simpa using hj
   subst this
   rw [add_lit, Nat.add_zero, World.cell?_alloc_new]
   rfl)
  rw [show [dg].length = 1 from rfl] at hcv
  rw [hcv]
  simp only [Result.andThen]
  rw [Oper.upon_value]
  go_wp2
  go_ret2
  subst hd
  exact ⟨rfl, (Below.refl _ w).alloc (Nat.le_refl _) _⟩
theorem Cv : (List.range 256).all (fun n => Go.bits BinOp.and IntKind.u64 (n : Int) 15 == ((n % 16 : Nat) : Int)) = true := by kernel_rfl
set_option maxHeartbeats 1000000 in
set_option maxRecDepth 100000 in
theorem fb2 (u : Nat) (h0 : 16 ≤ u) (h1 : u < 256) (w : World) (hT : w.cell? ⟨7, 15, none⟩ = some (.int .u8 4)) :
  Calls Tryz.prog 155 #[.slice none 0 0, .int .u64 u, .int .i64 16, .bool false, .bool false] w fun e w' => e = .returned (.tuple #[.slice none 0 0, .string ⟨[dig (u / 16) (by omega), dig (u % 16) (by omega)].toArray⟩]) ∧ Below w.heap.size w w' := by
 have hlt : (7 : Nat) < w.heap.size := by
  rcases Nat.lt_or_ge 7 w.heap.size with h | h
  ·exact h
  ·simp [World.cell?, Array.getElem?_eq_none h] at hT
 have HZ : Hid (∀ o, Calls Tryz.prog 168 #[.int .u64 16] (w.alloc o) fun e w' => e = .returned (.int .i64 4) ∧ w' = w.alloc o) := fun o => tz (w.alloc o) ((World.cell?_alloc_lt w _ _ hlt).trans hT)
 clear hT
 have hand : Go.bits BinOp.and IntKind.u64 (u : Int) 15 = ((u % 16 : Nat) : Int) := eq_of_beq (List.all_eq_true.1 Cv u (List.mem_range.2 h1))
 go_enter Tryz.func155, Tryz.ntmps155
 go_wp2_with (first | (go_at_call 167; refine (pow2 _).mono ?_; rintro e w' ⟨rfl, rfl⟩) | (go_at_call 168; refine (HZ.out _).mono ?_; rintro e w' ⟨rfl, rfl⟩))
 go_loopg [1, 13] 1 (fun g uv iv wx => (g = 1 ∧ uv = .int .u64 u ∧ iv = .int .i64 65 ∧ wx = w.alloc (.cells Tryz.zeroCells192 192)) ∨ (g = 0 ∧ uv = .int .u64 ((u / 16 : Nat) : Int) ∧ iv = .int .i64 64 ∧ wx = w.alloc (.cells (Tryz.zeroCells192.setIfInBounds 64 (.int .u8 (dig (u % 16) (by omega)).toNat)) 192)))
 case atStart => exact .inl ⟨rfl, rfl, rfl, rfl⟩
 case round =>
  rcases hrel with ⟨rfl, rfl, rfl, rfl⟩ | ⟨rfl, rfl, rfl, rfl⟩
  ·have hlt16 : decide ((16 : Int) ≤ (u : Int)) = true := decide_eq_true (by omega)
   go_wp2
   rw [u9 (u % 16) (by omega)]
   go_roundg 0
   case measure => omega
   case rel => exact .inr ⟨rfl, by rw [Int.natCast_ediv]; rfl, rfl, rfl⟩
  ·have hlt16 : decide ((16 : Int) ≤ ((u / 16 : Nat) : Int)) = false := decide_eq_false (by omega)
   go_wp2
   rw [u9 (u / 16) (by omega)]
   generalize hd : dig (u / 16) (by omega) = d1
   generalize he : dig (u % 16) (by omega) = d0
   have hcv := run_convert_bytes_back (P := Tryz.prog) (w.alloc (.cells ((Tryz.zeroCells192.setIfInBounds 64 (.int .u8 d0.toNat)).setIfInBounds 63 (.int .u8 d1.toNat)) 192)) 108 9 5 ⟨w.heap.size, 63, none⟩ 2 [d1, d0] Tryz.underlying108 Tryz.underlying5 Tryz.underlying9 (fun j hj => by
    have : j = 0 ∨ j = 1 := by simp at hj; omega
    rcases this with rfl | rfl
    ·rw [add_lit, Nat.add_zero, World.cell?_alloc_new]
     rfl
    ·rw [add_lit, World.cell?_alloc_new]
     rfl)
   rw [show [d1, d0].length = 2 from rfl] at hcv
   rw [hcv]
   simp only [Result.andThen]
   rw [Oper.upon_value]
   go_wp2
   go_ret2
   subst hd he
   exact ⟨rfl, (Below.refl _ w).alloc (Nat.le_refl _) _⟩
end Go.Ab
set_option linter.unusedVariables false
namespace Go.Ab
open Go.Proofs Go.RowKit Go
def hexDigit (n : Nat) : UInt8 := if n < 10 then UInt8.ofNat (48 + n) else UInt8.ofNat (87 + n)
theorem Ax : ∀ n : Fin 16, dig n.1 (Nat.lt_of_lt_of_le n.2 (by decide)) = hexDigit n.1 := by decide
theorem rR (n : Nat) (h : n < 16) (h' : n < 36) : dig n h' = hexDigit n := Ax ⟨n, h⟩
def gL (u : Nat) : Bytes := if u < 16 then [hexDigit u] else [hexDigit (u / 16), hexDigit (u % 16)]
theorem Co (u : Nat) (h1 : u < 256) (w : World) (hT : w.cell? ⟨7, 15, none⟩ = some (.int .u8 4)) :
  Calls Tryz.prog 155 #[.slice none 0 0, .int .u64 u, .int .i64 16, .bool false, .bool false] w fun e w' => e = .returned (.tuple #[.slice none 0 0, .string ⟨(gL u).toArray⟩]) ∧ Below w.heap.size w w' := by
 by_cases h : u < 16
 ·have := fb u (by omega) (by omega) w hT
  rwa [rR _ (by omega) _, Int.toNat_natCast, show [hexDigit u] = gL u from (if_pos h).symm] at this
 ·have := fb2 u (by omega) h1 w hT
  rwa [rR (u / 16) (by omega) _, rR (u % 16) (by omega) _, show [hexDigit (u / 16), hexDigit (u % 16)] = gL u from (if_neg h).symm] at this
set_option maxHeartbeats 400000 in
set_option maxRecDepth 100000 in
theorem fint (u : Nat) (h1 : u < 256) (w : World) (hT : w.cell? ⟨7, 15, none⟩ = some (.int .u8 4)) :
  Calls Tryz.prog 140 #[.int .i64 u, .int .i64 16] w fun e w' => e = .returned (.string ⟨(gL u).toArray⟩) ∧ Below w.heap.size w w' := by
 have HC : Hid _ := Co u h1 w hT
 clear hT
 have hneg : decide ((u : Int) < 0) = false := decide_eq_false (by omega)
 generalize gL u = tx at HC ⊢
 go_enter Tryz.func140, Tryz.ntmps140
 go_wp2_with (go_at_call 155; refine Calls.mono HC.out ?_; rintro e w' ⟨rfl, hB⟩)
 go_ret
 exact ⟨rfl, hB⟩
set_option maxHeartbeats 400000 in
set_option maxRecDepth 100000 in
theorem Cw (u : Nat) (h1 : u < 256) (w : World) (hT : w.cell? ⟨7, 15, none⟩ = some (.int .u8 4)) :
  Calls Tryz.prog 121 #[.int .i64 u, .int .i64 16] w fun e w' => e = .returned (.string ⟨(gL u).toArray⟩) ∧ Below w.heap.size w w' := by
 have HC : Hid _ := fint u h1 w hT
 clear hT
 generalize gL u = tx at HC ⊢
 go_enter Tryz.func121, Tryz.ntmps121
 go_wp2_with (go_at_call 140; refine Calls.mono HC.out ?_; rintro e w' ⟨rfl, hB⟩)
 go_ret
 exact ⟨rfl, hB⟩
def gO (i b : Int) : Option Bytes := ck (b = 16 ∧ 0 ≤ i ∧ i < 256) <| some (gL i.toNat)
theorem mz (i_0 base_1 : Int) (r : Bytes) (h0 : gO i_0 base_1 = some r) : aF Tryz.prog 121 [eI i_0, eI base_1] (· = .p (eS r)) := by
 obtain ⟨⟨rfl, h1, h2⟩, h3⟩ := jU h0
 cases h3
 obtain ⟨u, rfl⟩ : ∃ u : Nat, i_0 = u := ⟨i_0.toNat, by omega⟩
 refine aF.of_calls (l := [.int .i64 u, .int .i64 16]) fun w st hok => (Cw u (by omega) w (ml hok.gl rfl (by kernel_rfl))).mono ?_
 rintro e w' ⟨rfl, hB⟩
 exact ⟨_, rfl, hB, fun _ => .p (.val _)⟩
end Go.Ab
set_option linter.unusedVariables false
namespace Go.Ab
open Go.Proofs Go.RowKit Go
theorem decN (n b0 b1 b2 b3 : Nat) (hn : 1 ≤ n) (h0 : b0 < 256) : 1 ≤ (Lib.decodeN n b0 b1 b2 b3).2 ∧ (Lib.decodeN n b0 b1 b2 b3).2 ≤ n ∧ (Lib.decodeN n b0 b1 b2 b3).2 ≤ 4 ∧
  ((Lib.decodeN n b0 b1 b2 b3).1 < 128 → (Lib.decodeN n b0 b1 b2 b3).2 = 1 ∧ (Lib.decodeN n b0 b1 b2 b3).1 = b0) ∧
  (128 ≤ (Lib.decodeN n b0 b1 b2 b3).1 → 128 ≤ b0 ∧ (2 ≤ (Lib.decodeN n b0 b1 b2 b3).2 → 128 ≤ b1) ∧ (3 ≤ (Lib.decodeN n b0 b1 b2 b3).2 → 128 ≤ b2) ∧ (4 ≤ (Lib.decodeN n b0 b1 b2 b3).2 → 128 ≤ b3)) ∧
  ((Lib.decodeN n b0 b1 b2 b3).1 < 55296 ∨ (57343 < (Lib.decodeN n b0 b1 b2 b3).1 ∧ (Lib.decodeN n b0 b1 b2 b3).1 ≤ 1114111)) := by
 unfold Lib.decodeN
 repeat' split
 all_goals (refine ⟨by dsimp only; omega, by dsimp only; omega, by dsimp only; omega, fun h => ⟨by dsimp only at h ⊢; first | done | omega, by dsimp only at h ⊢; first | done | omega⟩, fun h => ⟨by dsimp only at h; omega, fun k => by dsimp only at k; omega, fun k => by dsimp only at k; omega, fun k => by dsimp only at k; omega⟩, by dsimp only; omega⟩)
end Go.Ab
namespace Go.Ab
open Go.Proofs Go.RowKit Go
abbrev hG : ByteArray := { data := #[46, 91] }
theorem Ad {P : Program} (w : World) (b : Nat) (s : ByteArray) (pos : Nat) (ty : TypeId) (h : pos < s.size) (hb : w.heap[b]? = some (.stringIter s pos)) :
  (Instr.next (.pointer (some ⟨b, 0, none⟩)) true ty).run P w = .ok (.tuple #[.bool true, .int .i64 pos, .int .i32 (Utf8.decode s pos).1]) { w with heap := w.heap.setIfInBounds b (.stringIter s (pos + (Utf8.decode s pos).2)) } := by
 simp only [Instr.next, getObj, setObj, Sem.run_bind, Sem.run, hb, Result.andThen, h, if_true]
 simp [goInt, Sem.run, hb]
theorem zI {P : Program} (w : World) (b : Nat) (s : ByteArray) (pos : Nat) (ty : TypeId) (h : ¬ pos < s.size) (hb : w.heap[b]? = some (.stringIter s pos)) :
  (Instr.next (.pointer (some ⟨b, 0, none⟩)) true ty).run P w = .ok (.tuple #[.bool false]) w := by
 simp [Instr.next, getObj, Sem.run, hb, h]
theorem uf (s : ByteArray) (k : Nat) (h : k < s.size) : s.data.toList[k]? = some (s.get! k) := by
 have : s.get! k = s[k]'h := by
  simp [ByteArray.get!, getElem!_pos, h]
  rfl
 rw [this]; exact Lib.data_getElem? s k h
theorem yQ (s : ByteArray) (i : Nat) (h : i < s.size) : ∃ c k : Nat, Utf8.decode s i = (c, k) ∧ 1 ≤ k ∧ i + k ≤ s.size ∧ (c < 128 → k = 1 ∧ ∃ x : UInt8, s.data.toList[i]? = some x ∧ c = x.toNat) ∧
  (128 ≤ c → ∀ j b, i ≤ j → j < i + k → s.data.toList[j]? = some b → 128 ≤ b.toNat) ∧ (c < 55296 ∨ (57343 < c ∧ c ≤ 1114111)) := by
 refine ⟨(Utf8.decode s i).1, (Utf8.decode s i).2, rfl, ?_⟩
 rw [Lib.decode_at]
 obtain ⟨h1, h2, h3, h4, h5, h6⟩ := decN (s.size - i) (s.get! i).toNat (s.get! (i + 1)).toNat (s.get! (i + 2)).toNat (s.get! (i + 3)).toNat (by omega) (UInt8.toNat_lt _)
 refine ⟨h1, by omega, fun q => ⟨(h4 q).1, s.get! i, uf s i h, (h4 q).2⟩, fun q j b a1 a2 hb => ?_, h6⟩
 obtain ⟨q0, q1, q2, q3⟩ := h5 q
 have hj : j < s.size := by omega
 rw [uf s j hj] at hb
 cases hb
 obtain rfl | rfl | rfl | rfl : j = i ∨ j = i + 1 ∨ j = i + 2 ∨ j = i + 3 := by omega
 ·exact q0
 ·exact q1 (by omega)
 ·exact q2 (by omega)
 ·exact q3 (by omega)
theorem xf (c : Nat) (h : 128 ≤ c) (hv : Lib.validRune c = true) : (Utf8.encode (c : Int) = ⟨#[UInt8.ofNat (0xC0 + c / 64), UInt8.ofNat (0x80 + c % 64)]⟩) ∨ ((Utf8.encode (c : Int)).size = 3 ∨ (Utf8.encode (c : Int)).size = 4) := by
 have hv2 : Utf8.valid (c : Int) = true := by
  simp only [Lib.validRune, decide_eq_true_eq] at hv
  simp only [Utf8.valid, Bool.or_eq_true, Bool.and_eq_true, decide_eq_true_eq]
  omega
 simp only [Utf8.encode, hv2, if_true, Int.toNat_natCast]
 rw [if_neg (by omega)]
 by_cases h1 : c < 2048
 ·rw [if_pos h1]; exact .inl rfl
 ·rw [if_neg h1]
  by_cases h2 : c < 65536
  ·rw [if_pos h2]; exact .inr (.inl rfl)
  ·rw [if_neg h2]; exact .inr (.inr rfl)
theorem Ch (c : Nat) : (UInt8.ofNat (0x80 + c % 64)).toNat ≠ 91 := by
 rw [UInt8.toNat_ofNat']
 omega
theorem below_drewN' {B : Nat} {a w : World} (h : Below B a w) (n : Nat) : Below B a (w.drewN n) := h.trans ⟨rfl, rfl, rfl, Nat.le_refl _, fun _ _ => rfl⟩
theorem A4 (c : Int) (w : World) : Calls Tryz.prog 97 #[.string ByteArray.empty, .int .u8 c] w fun e w' => e = .returned (.int .i64 (-1)) ∧ w' = w := Tryz.strings_IndexByte ByteArray.empty c w
set_option maxHeartbeats 1000000 in
set_option maxRecDepth 1000000 in
theorem A7 (s rs : ByteArray) (c : Nat) (h : 128 ≤ c) (hv : Lib.validRune c = true) (hne : c ≠ 65533) (henc : Utf8.encode (c : Int) = rs) (hs : s.size = 2) (hr : rs.size = 2)
  (h1 : (s[1]'(by omega)) ≠ (rs[1]'(by omega))) (w : World) :
  Calls Tryz.prog 112 #[.string s, .int .i32 c] w fun e w' => e = .returned (.int .i64 (-1)) ∧ Below w.heap.size w w' := by
 have hlt : decide ((c : Int) < 128) = false := decide_eq_false (by omega)
 have hne' : ((c : Int) == 65533) = false := beq_eq_false_iff_ne.2 (by omega)
 have h0 : decide ((0 : Int) ≤ (c : Int)) = true := decide_eq_true (by omega)
 obtain ⟨x, hx⟩ : ∃ x, s[1]'(by omega) = x := ⟨_, rfl⟩
 obtain ⟨y, hy⟩ : ∃ y, rs[1]'(by omega) = y := ⟨_, rfl⟩
 rw [hx, hy] at h1
 have hsz : (s.size : Int) = 2 := by omega
 have hrz : (rs.size : Int) = 2 := by omega
 have hb : ((x.toNat : Int) != (y.toNat : Int)) = true := by
  rw [bne_iff_ne]
  intro e
  exact h1 (UInt8.toNat_inj.1 (by omega))
 go_enter Tryz.func112, Tryz.ntmps112
 go_wp2_with (go_at_call 134; refine (Tryz.utf8_ValidRune _ _).mono ?_; rintro e w' ⟨rfl, hw⟩; rw [hw, hv])
 refine wp_scope_straight ?_
 go_wp2
 go_loopg [9] 0 (fun g v wx => g = 0 ∧ v = .int .i64 1 ∧ wx = w)
 case atStart => exact ⟨rfl, by go_num, rfl⟩
 case round =>
  obtain ⟨rfl, rfl, rfl⟩ := hrel
  go_wp2
  refine wp_scope_straight ?_
  go_wp2
  go_big_quiet (fail)
  go_wp2
  go_big_quiet ((go_at_call 97; exact (A4 _ _).mono (fun _ _ h => ⟨h.1, _, h.2⟩)))
  go_wp2
  simp only [Exit.noGoto, Exit.inBlock, Exit.then]
  go_ret
  exact ⟨rfl, below_drewN' (Below.refl _ _) _⟩
set_option maxHeartbeats 1000000 in
set_option maxRecDepth 1000000 in
theorem AD (s rs : ByteArray) (c : Nat) (h : 128 ≤ c) (hv : Lib.validRune c = true) (hne : c ≠ 65533) (henc : Utf8.encode (c : Int) = rs) (hs : s.size = 2) (hr : 3 ≤ rs.size) (hr4 : rs.size ≤ 4) (w : World) :
  Calls Tryz.prog 112 #[.string s, .int .i32 c] w fun e w' => e = .returned (.int .i64 (-1)) ∧ Below w.heap.size w w' := by
 have hlt : decide ((c : Int) < 128) = false := decide_eq_false (by omega)
 have hne' : ((c : Int) == 65533) = false := beq_eq_false_iff_ne.2 (by omega)
 have h0 : decide ((0 : Int) ≤ (c : Int)) = true := decide_eq_true (by omega)
 obtain ⟨i, hi⟩ : ∃ i : Nat, rs.size = i + 1 := ⟨rs.size - 1, by omega⟩
 have hsz : (s.size : Int) = 2 := by omega
 have hrz : (rs.size : Int) = (i : Int) + 1 := by omega
 have hlast : IntKind.i64.wrap ((i : Int) + 1 - 1) = (i : Int) := by rw [wrap_small _ (by omega) (by omega)]; omega
 have hend : decide ((i : Int) < 2) = false := decide_eq_false (by omega)
 go_enter Tryz.func112, Tryz.ntmps112
 go_wp2_with (go_at_call 134; refine (Tryz.utf8_ValidRune _ _).mono ?_; rintro e w' ⟨rfl, hw⟩; rw [hw, hv])
 refine wp_scope_straight ?_
 go_wp2
 go_loopg [9] 0 (fun g v wx => g = 0 ∧ v = .int .i64 i ∧ wx = w)
 case atStart => exact ⟨rfl, by first | rfl | (congr 1; omega), rfl⟩
 case round =>
  obtain ⟨rfl, rfl, rfl⟩ := hrel
  go_wp2
  simp only [Exit.noGoto, Exit.inBlock, Exit.then]
  go_ret
  exact ⟨rfl, Below.refl _ _⟩
set_option maxHeartbeats 1000000 in
set_option maxRecDepth 1000000 in
theorem Bz (w : World) :
  Calls Tryz.prog 112 #[.string hG, .int .i32 65533] w fun e w' => e = .returned (.int .i64 (-1)) ∧ Below w.heap.size w w' := by
 generalize hs : hG = s
 have hz : s.size = 2 := by rw [← hs]; rfl
 have ha : ∀ i (hi : i < s.size), (s[i]'hi).toNat < 128 := by
  subst hs
  intro i hi
  have : i = 0 ∨ i = 1 := by have : i < 2 := hi; omega
  rcases this with rfl | rfl
  ·show (46 : UInt8).toNat < 128; decide
  ·show (91 : UInt8).toNat < 128; decide
 go_enter Tryz.func112, Tryz.ntmps112
 go_wp2
 go_loopg [5, 6] 2 (fun g _ _ wx => ∃ i : Nat, i + g = 2 ∧ wx = w.iter s i)
 case atStart => exact ⟨0, rfl, rfl⟩
 case round =>
  obtain ⟨i, hig, rfl⟩ := hrel
  cases gk with
  | zero =>
   obtain rfl : i = 2 := by omega
   have hnx := run_next_end (P := Tryz.prog) w s 2
   rw [hz] at hnx
   go_wp2
   go_ret
   exact ⟨rfl, (Below.refl _ w).alloc (Nat.le_refl _) _⟩
  | succ g =>
   have hi : i < s.size := by omega
   have hx128 := ha i hi
   have hnx := fun ty => run_next_ascii (P := Tryz.prog) w s i ty hi hx128
   obtain ⟨x, hx⟩ : ∃ x : UInt8, s[i]'hi = x := ⟨_, rfl⟩
   rw [hx] at hnx hx128
   have hne : ((x.toNat : Int) == 65533) = false := beq_eq_false_iff_ne.2 (by omega)
   go_wp2
   go_roundg g
   case measure => omega
   case rel => exact ⟨i + 1, by omega, rfl⟩
end Go.Ab
set_option linter.unusedVariables false
namespace Go.Ab
open Go.Proofs Go.RowKit Go
theorem AN (c : Nat) (hv : c < 55296 ∨ (57343 < c ∧ c ≤ 1114111)) (h : 128 ≤ c) (w : World) :
  Calls Tryz.prog 112 #[.string hG, .int .i32 c] w fun e w' => e = .returned (.int .i64 (-1)) ∧ Below w.heap.size w w' := by
 have hv1 : Lib.validRune (c : Int) = true := by
  simp only [Lib.validRune, decide_eq_true_eq]
  omega
 by_cases hne : c = 65533
 ·subst hne; exact Bz w
 ·rcases xf c h hv1 with e | e
  ·refine A7 hG _ c h hv1 hne e rfl rfl ?_ w
   have h91 := Ch c
   intro q
   apply h91
   have q' : (91 : UInt8) = UInt8.ofNat (0x80 + c % 64) := q
   rw [← q']
   rfl
  ·exact AD hG _ c h hv1 hne rfl rfl (by omega) (by omega) w
theorem vj {s cs : List UInt8} {i k : Nat} (hcs : ∀ b, cs.contains b = true → b.toNat < 128) (h : Lib.NoAny s cs i) (hk : ∀ j b, i ≤ j → j < i + k → s[j]? = some b → 128 ≤ b.toNat) : Lib.NoAny s cs (i + k) := fun j b hj hb => by
 by_cases q : j < i
 ·exact h j b q hb
 ·cases hc : cs.contains b with
  | false => rfl
  | true => have := hk j b (by omega) hj hb; have := hcs b hc; omega
theorem xq {B : Nat} {a w : World} (h : Below B a w) {b : Nat} (hb : B ≤ b) (o : Obj) : Below B a { w with heap := w.heap.setIfInBounds b o } :=
 h.trans ⟨rfl, rfl, rfl, by simp, fun k hk => by
  show (w.heap.setIfInBounds b o)[k]? = _
  rw [Array.getElem?_setIfInBounds_ne (by omega)]⟩
set_option maxHeartbeats 8000000 in
set_option maxRecDepth 1000000 in
theorem rU (s : ByteArray) (w : World) (h8 : s.size ≤ 8) :
  Calls Tryz.prog 93 #[.string s, .string hG] w fun e w' => e = .returned (.int .i64 (Lib.indexAny s.data.toList [46, 91])) ∧ Below w.heap.size w w' := by
 have hn1 : ((hG.size : Int) == 1) = false := rfl
 have h8z : decide ((8 : Int) < (s.size : Int)) = false := decide_eq_false (by omega)
 have hcs : ∀ b, ([46, 91] : List UInt8).contains b = true → b.toNat < 128 := by
  intro b hb
  simp at hb
  rcases hb with rfl | rfl <;> decide
 have hemp : ({ data := #[46, 91] } : ByteArray).toList.isEmpty = false := by rw [Lib.toList_data]; rfl
 go_enter Tryz.func93, Tryz.ntmps93
 go_wp2_with (go_at_call 113; refine (Tryz.strings_shouldUseASCIISet _ _).mono ?_; rintro e w' ⟨rfl, hw⟩; rw [hw, h8z])
 go_loopg [9, 10] s.size (fun g _ _ wx => ∃ i : Nat, i + g = s.size ∧ wx.heap[w.heap.size]? = some (.stringIter s i) ∧ Hid (Below w.heap.size w wx) ∧ Hid (Lib.NoAny s.data.toList [46, 91] i))
 case atStart => exact ⟨0, by omega, by simp [World.iter_heap], (Below.refl _ w).alloc (Nat.le_refl _) _, Lib.NoAny.zero _ _⟩
 case round =>
  obtain ⟨i, hig, hit, HB, HN⟩ := hrel
  cases gk with
  | zero =>
   obtain rfl : i = s.size := by omega
   have hnx := fun ty => zI (P := Tryz.prog) wr w.heap.size s s.size ty (by omega) hit
   go_wp2
   go_ret
   exact ⟨by rw [Lib.indexAny_none (by rw [← Lib.size_eq]; exact HN.out)]; rfl, HB.out⟩
  | succ g =>
   have hi : i < s.size := by omega
   obtain ⟨c, k, hd, hk1, hk2, hlow, hhigh, hval⟩ := yQ s i hi
   have hnx := fun ty => Ad (P := Tryz.prog) wr w.heap.size s i ty hi hit
   rw [hd] at hnx
   have hlt : w.heap.size < wr.heap.size := by
    rcases Nat.lt_or_ge w.heap.size wr.heap.size with h | h
    ·exact h
    ·rw [Array.getElem?_eq_none h] at hit; cases hit
   obtain ⟨W1, hW1⟩ : ∃ W1, ({ wr with heap := wr.heap.setIfInBounds w.heap.size (.stringIter s (i + k)) } : World) = W1 := ⟨_, rfl⟩
   have HI : Hid (W1.heap[w.heap.size]? = some (.stringIter s (i + k))) := by
    rw [← hW1]
    show (wr.heap.setIfInBounds w.heap.size (.stringIter s (i + k)))[w.heap.size]? = _
    rw [Array.getElem?_setIfInBounds_self_of_lt hlt]
   have HL : Hid (w.heap.size < W1.heap.size) := by
    rw [← hW1]; show w.heap.size < (wr.heap.setIfInBounds _ _).size; simp; exact hlt
   have HB1 : Hid (Below w.heap.size w W1) := by rw [← hW1]; exact xq HB.out (Nat.le_refl _) _
   have Hk : Hid (∃ g', i + k + g' = s.size ∧ g' ≤ g) := ⟨s.size - (i + k), by omega, by omega⟩
   simp only [hW1] at hnx
   clear hW1 hit HB hd
   by_cases h128 : c < 128
   ·obtain ⟨rfl, x, hx, rfl⟩ := hlow h128
    have Hx : Hid (s.data.toList[i]? = some x) := hx
    have HR : Hid _ := Tryz.strings_IndexRune_ascii hG (x.toNat : Int) W1 (by omega) (by omega)
    have hback : ((x.toNat : Int)).toNat.toUInt8 = x := by simp
    rw [hback] at HR
    have hcon := Lib.contains_iff_indexByte [46, 91] x
    rw [show hG.data.toList = [46, 91] from rfl] at HR
    clear hx hlow hhigh hval hback
    cases hin : ([46, 91] : List UInt8).contains x
    ·rw [hin] at hcon
     generalize Lib.indexByte [46, 91] x = v at HR hcon
     have hlt : decide ((0 : Int) ≤ v) = false := hcon.symm
     clear hcon
     go_wp2_with (go_at_call 112; refine Calls.mono HR.out ?_; rintro e w' ⟨rfl, hw'⟩; rw [hw'])
     go_roundg g
     case measure => omega
     case rel => exact ⟨i + 1, by omega, HI.out, HB1, HN.out.succ Hx.out hin⟩
    ·rw [hin] at hcon
     generalize Lib.indexByte [46, 91] x = v at HR hcon
     have hge : decide ((0 : Int) ≤ v) = true := hcon.symm
     clear hcon
     go_wp2_with (go_at_call 112; refine Calls.mono HR.out ?_; rintro e w' ⟨rfl, hw'⟩; rw [hw'])
     go_ret
     exact ⟨by rw [Lib.indexAny_hit HN.out Hx.out hin]; rfl, HB1.out⟩
   ·have HR : Hid _ := AN c hval (by omega) W1
    have HN2 : Hid _ := vj hcs HN.out (hhigh (by omega))
    clear hlow hhigh hval
    go_wp2_with (go_at_call 112; refine Calls.mono HR.out ?_; rintro e w' ⟨rfl, hB'⟩)
    have h1 : w'.heap[w.heap.size]? = some (.stringIter s (i + k)) := (hB'.block _ HL.out).trans HI.out
    obtain ⟨g', hg', hg''⟩ := Hk.out
    go_roundg g'
    case measure => omega
    case rel => exact ⟨i + k, hg', h1, HB1.out.trans (hB'.mono HB1.out.size), HN2⟩
theorem xM : Tryz.zeroCells146 = Array.replicate 256 (.bool false) := by kernel_rfl
theorem yZ (w : World) : (zeroValue 146).run Tryz.prog w = .ok (.agg (Array.replicate 256 (.bool false))) w := by
 rw [← xM]; exact Tryz.zeroValue146 w
theorem vH (j : Nat) (b : UInt8) (h : hG.data.toList[j]? = some b) : b.toNat < 128 := by
 match j, h with
 | 0, h => cases h; decide
 | 1, h => cases h; decide
 | n + 2, h => cases h
def strings_IndexAny (s cs : Bytes) : Option Int := ck (cs = [46, 91] ∧ s.length < 4294967281) <| some (Lib.indexAny s cs)
theorem nr (s_0 chars_1 : Bytes) (r : Int) (h0 : strings_IndexAny s_0 chars_1 = some r) : aF Tryz.prog 93 [eS s_0, eS chars_1] (· = .p (eI r)) := by
 obtain ⟨⟨rfl, hl⟩, h1⟩ := jU h0
 cases h1
 refine aF.of_calls (l := [.string (str s_0), .string hG]) fun w st hok => ?_
 have hz : (str s_0).size = s_0.length := gZ _
 by_cases h8 : (str s_0).size ≤ 8
 ·refine (rU (str s_0) w h8).mono ?_
  rintro e w' ⟨rfl, hB⟩
  rw [gw]
  exact ⟨_, rfl, hB, fun _ => .p (.val _)⟩
 ·refine (Tryz.strings_IndexAny_long yZ (str s_0) hG w (by decide) (by omega) (by omega) (by decide) vH).mono ?_
  rintro e w' ⟨rfl, rfl⟩
  rw [gw]
  exact ⟨_, rfl, ((Below.refl _ w).alloc (Nat.le_refl _) _).alloc (by show w.heap.size ≤ (w.heap.push _).size; simp) _, fun _ => .p (.val _)⟩
end Go.Ab
set_option linter.unusedVariables false
namespace Go.Ab
open Go.Proofs Go.Ab
attribute [local irreducible] awp d9 aU aF bO yq AV.sub
set_option maxHeartbeats 4000000 in
theorem fR (l : List aj) (h : l.isEmpty = true) : aF Tryz.prog 81 [eL aI l] (· = .p (eL aI [])) := by
 obtain rfl : l = [] := by simpa using h
 refine bG good Tryz.func81 rfl rfl rfl fun w0 => ?_
 refine bE ?_
 refine b5 ?_
 refine aV rfl ?_
 refine bp rfl rfl rfl rfl ?_
 refine bA ?_
 (repeat (first | refine aG ?_ | refine aL ?_ | refine bU ?_ | refine a8 rfl ?_ | refine bR ?_ | refine aS ?_ | refine aH ?_ | refine ak ?_ | refine aw ?_ | refine ar rfl ?_ | refine noGoto_ret ?_ | refine noGoto_exit ?_ | refine noGoto_normal ?_))
 refine bE ?_
 refine bE ?_
 refine b5 ?_
 refine aV rfl ?_
 refine aR rfl rfl rfl rfl ?_
 refine aV rfl ?_
 refine lg rfl rfl rfl rfl rfl rfl rfl rfl (fun b hb => ?_)
 refine bA ?_
 (repeat (first | refine aG ?_ | refine aL ?_ | refine bU ?_ | refine a8 rfl ?_ | refine bR ?_ | refine aS ?_ | refine aH ?_ | refine ak ?_ | refine aw ?_ | refine ar rfl ?_ | refine noGoto_ret ?_ | refine noGoto_exit ?_ | refine noGoto_normal ?_))
 refine gT rfl (fun hc => ?_) (fun hc => ?_)
 ·skip
  refine bE ?_
  refine b5 ?_
  refine aV rfl ?_
  refine bp rfl rfl rfl rfl ?_
  refine bA ?_
  (repeat (first | refine aG ?_ | refine aL ?_ | refine bU ?_ | refine a8 rfl ?_ | refine bR ?_ | refine aS ?_ | refine aH ?_ | refine ak ?_ | refine aw ?_ | refine ar rfl ?_ | refine noGoto_ret ?_ | refine noGoto_exit ?_ | refine noGoto_normal ?_))
  refine cY ?_
  (repeat (first | refine aG ?_ | refine aL ?_ | refine bU ?_ | refine a8 rfl ?_ | refine bR ?_ | refine aS ?_ | refine aH ?_ | refine ak ?_ | refine aw ?_ | refine ar rfl ?_ | refine noGoto_ret ?_ | refine noGoto_exit ?_ | refine noGoto_normal ?_))
  refine lN rfl ?_
  exact eO _
 ·skip
  refine cZ ?_
  (repeat (first | refine aG ?_ | refine aL ?_ | refine bU ?_ | refine a8 rfl ?_ | refine bR ?_ | refine aS ?_ | refine aH ?_ | refine ak ?_ | refine aw ?_ | refine ar rfl ?_ | refine noGoto_ret ?_ | refine noGoto_exit ?_ | refine noGoto_normal ?_))
  refine bE ?_
  refine b5 ?_
  refine aV rfl ?_
  refine ou rfl rfl rfl rfl rfl rfl rfl 5 4 ?_
  refine aV rfl ?_
  refine aR rfl rfl rfl rfl ?_
  refine aV rfl ?_
  refine fL aI [] [] rfl rfl rfl rfl rfl rfl rfl rfl rfl rfl rfl rfl rfl (fun x => congrArg List.length (aj.cells_eq x)) rfl rfl rfl rfl (by decide) ?_
  refine aV rfl ?_
  refine bp rfl rfl rfl rfl ?_
  refine bA ?_
  (repeat (first | refine aG ?_ | refine aL ?_ | refine bU ?_ | refine a8 rfl ?_ | refine bR ?_ | refine aS ?_ | refine aH ?_ | refine ak ?_ | refine aw ?_ | refine ar rfl ?_ | refine noGoto_ret ?_ | refine noGoto_exit ?_ | refine noGoto_normal ?_))
  refine cY ?_
  (repeat (first | refine aG ?_ | refine aL ?_ | refine bU ?_ | refine a8 rfl ?_ | refine bR ?_ | refine aS ?_ | refine aH ?_ | refine ak ?_ | refine aw ?_ | refine ar rfl ?_ | refine noGoto_ret ?_ | refine noGoto_exit ?_ | refine noGoto_normal ?_))
  refine lN rfl ?_
  exact AV.sub_vec _ _ _ _
set_option maxHeartbeats 4000000 in
theorem fP (l : List aj) (h : l.isEmpty = false) (hlen : l.length * 48 ≤ 140737488355328) : bO Tryz.prog 81 [.p (eL aI l)] [] (fun x y => x = .arr 2000000 4 0 l.length ∧ y = [(2000000, ic aI l)]) := by
 refine ga good [800000] [800000] Tryz.func81 rfl rfl rfl rfl rfl fun w0 F => ?_
 refine bE ?_
 refine b5 ?_
 refine aV rfl ?_
 refine bp rfl rfl rfl rfl ?_
 refine bA ?_
 (repeat (first | refine aG ?_ | refine aL ?_ | refine bU ?_ | refine a8 rfl ?_ | refine bR ?_ | refine aS ?_ | refine aH ?_ | refine ak ?_ | refine aw ?_ | refine ar rfl ?_ | refine noGoto_ret ?_ | refine noGoto_exit ?_ | refine noGoto_normal ?_))
 refine bE ?_
 refine bE ?_
 refine b5 ?_
 refine aV rfl ?_
 refine aR rfl rfl rfl rfl ?_
 refine aV rfl ?_
 refine lg rfl rfl rfl rfl rfl rfl rfl rfl (fun b hb => ?_)
 refine bA ?_
 (repeat (first | refine aG ?_ | refine aL ?_ | refine bU ?_ | refine a8 rfl ?_ | refine bR ?_ | refine aS ?_ | refine aH ?_ | refine ak ?_ | refine aw ?_ | refine ar rfl ?_ | refine noGoto_ret ?_ | refine noGoto_exit ?_ | refine noGoto_normal ?_))
 refine gT rfl (fun hc => ?_) (fun hc => ?_)
 ·have he : l = [] := by simpa using hb hc
  subst he
  cases h
 ·skip
  refine cZ ?_
  (repeat (first | refine aG ?_ | refine aL ?_ | refine bU ?_ | refine a8 rfl ?_ | refine bR ?_ | refine aS ?_ | refine aH ?_ | refine ak ?_ | refine aw ?_ | refine ar rfl ?_ | refine noGoto_ret ?_ | refine noGoto_exit ?_ | refine noGoto_normal ?_))
  refine bE ?_
  refine b5 ?_
  refine aV rfl ?_
  refine sw rfl rfl rfl rfl rfl rfl 4 ?_
  refine aV rfl ?_
  refine aR rfl rfl rfl rfl ?_
  refine aV rfl ?_
  refine wF aI [] l rfl rfl rfl rfl rfl rfl rfl rfl rfl rfl rfl rfl rfl rfl rfl (fun x => congrArg List.length (aj.cells_eq x)) rfl rfl rfl (by simpa using hlen) ?_
  refine aV rfl ?_
  refine bp rfl rfl rfl rfl ?_
  refine bA ?_
  (repeat (first | refine aG ?_ | refine aL ?_ | refine bU ?_ | refine a8 rfl ?_ | refine bR ?_ | refine aS ?_ | refine aH ?_ | refine ak ?_ | refine aw ?_ | refine ar rfl ?_ | refine noGoto_ret ?_ | refine noGoto_exit ?_ | refine noGoto_normal ?_))
  refine cY ?_
  (repeat (first | refine aG ?_ | refine aL ?_ | refine bU ?_ | refine a8 rfl ?_ | refine bR ?_ | refine aS ?_ | refine aH ?_ | refine ak ?_ | refine aw ?_ | refine ar rfl ?_ | refine noGoto_ret ?_ | refine noGoto_exit ?_ | refine noGoto_normal ?_))
  exact nj (bz 7 800000 rfl rfl rfl rfl (aJ rfl (aM _) rfl)) rfl rfl rfl (aJ rfl (aM _) rfl) (AV.sub_of_eq (congrArg (AV.arr 2000000 4 0) (by simp))) ⟨⟨_, rfl, ap _⟩, trivial⟩
end Go.Ab
end
section
set_option linter.unusedSimpArgs false
set_option linter.unnecessarySimpa false
set_option linter.unusedVariables false
namespace Go.Ab
open Go.Proofs Go.RowKit
end Go.Ab
end
section
set_option linter.unusedVariables false
set_option linter.unusedSimpArgs false
set_option linter.unnecessarySimpa false
namespace Go.Ab
open Go.MapKept
section
variable {α : Type}
def bZ : List (Bytes × α) → Bytes → Option α
 | [], _ => none
 | (j, v) :: r, k => if j = k then some v else bZ r k
def gU : List (Bytes × α) → Bytes → α → List (Bytes × α)
 | [], k, v => [(k, v)]
 | (j, u) :: r, k, v => if j = k then (k, v) :: r else (j, u) :: gU r k v
theorem rQ : ∀ {l : List (Bytes × α)} {i : Nat} {k : Bytes} {v : α}, (l.map Prod.fst).Nodup → l[i]? = some (k, v) → bZ l k = some v
 | [], i, k, v, _, h => by simp at h
 | (j, u) :: r, 0, k, v, _, h => by
  simp only [List.getElem?_cons_zero, Option.some.injEq, Prod.mk.injEq] at h
  obtain ⟨rfl, rfl⟩ := h
  simp [bZ]
 | (j, u) :: r, i + 1, k, v, hd, h => by
  simp only [List.map_cons, List.nodup_cons] at hd
  simp only [List.getElem?_cons_succ] at h
  have hne : j ≠ k := fun e => hd.1 (by rw [e]; exact List.mem_map.2 ⟨_, List.mem_of_getElem? h, rfl⟩)
  simp only [bZ, if_neg hne]
  exact rQ hd.2 h
theorem nT : ∀ {l : List (Bytes × α)} {k : Bytes}, (∀ p ∈ l, p.1 ≠ k) → bZ l k = none
 | [], _, _ => rfl
 | (j, u) :: r, k, h => by
  simp only [bZ, if_neg (h (j, u) (by simp))]
  exact nT fun p hp => h p (List.mem_cons_of_mem _ hp)
theorem jI : ∀ {l : List (Bytes × α)} {k : Bytes} {v : α}, (∀ p ∈ l, p.1 ≠ k) → gU l k v = l ++ [(k, v)]
 | [], _, _, _ => rfl
 | (j, u) :: r, k, v, h => by
  simp only [gU, if_neg (h (j, u) (by simp)), List.cons_append]
  rw [jI fun p hp => h p (List.mem_cons_of_mem _ hp)]
theorem kI : ∀ {l : List (Bytes × α)} {i : Nat} {k : Bytes} {u v : α}, (l.map Prod.fst).Nodup → l[i]? = some (k, u) → gU l k v = l.set i (k, v)
 | [], i, k, u, v, _, h => by simp at h
 | (j, x) :: r, 0, k, u, v, _, h => by
  simp only [List.getElem?_cons_zero, Option.some.injEq, Prod.mk.injEq] at h
  obtain ⟨rfl, rfl⟩ := h
  simp [gU]
 | (j, x) :: r, i + 1, k, u, v, hd, h => by
  simp only [List.map_cons, List.nodup_cons] at hd
  simp only [List.getElem?_cons_succ] at h
  have hne : j ≠ k := fun e => hd.1 (by rw [e]; exact List.mem_map.2 ⟨_, List.mem_of_getElem? h, rfl⟩)
  simp only [gU, if_neg hne, List.set_cons_succ]
  rw [kI hd.2 h]
theorem rz {l : List (Bytes × α)} {k : Bytes} {v : α} (hd : (l.map Prod.fst).Nodup) : ((gU l k v).map Prod.fst).Nodup := by
 by_cases h : ∀ p ∈ l, p.1 ≠ k
 ·rw [jI h, List.map_append, List.nodup_append]
  refine ⟨hd, by simp, fun a ha b hb e => ?_⟩
  simp only [List.map_cons, List.map_nil, List.mem_singleton] at hb
  subst hb
  obtain ⟨p, hp, hq⟩ := List.mem_map.1 ha
  exact h p hp (hq.trans e)
 ·obtain ⟨p, hp, hk⟩ : ∃ p ∈ l, p.1 = k := by
   refine Classical.byContradiction fun q => h fun p hp e => q ⟨p, hp, e⟩
  obtain ⟨i, hi⟩ := List.mem_iff_getElem?.1 hp
  obtain ⟨j, u⟩ := p
  have hk : j = k := hk
  subst hk
  rw [kI hd hi]
  have : (l.set i (j, v)).map Prod.fst = l.map Prod.fst := by
   rw [List.map_set]
   apply List.ext_getElem?
   intro q
   rw [List.getElem?_set]
   by_cases e : i = q
   ·subst e
    have : i < l.length := (List.getElem?_eq_some_iff.1 hi).1
    rw [if_pos rfl]
    simp only [List.length_map, this, if_true, List.getElem?_map, hi]
    rfl
   ·rw [if_neg e]
  rw [this]; exact hd
theorem np {β : Type} (f : α → β) : ∀ (l : List (Bytes × α)) (k : Bytes), bZ (l.map fun p => (p.1, f p.2)) k = (bZ l k).map f
 | [], _ => rfl
 | (j, v) :: r, k => by
  simp only [List.map_cons, bZ]
  split
  ·rfl
  ·exact np f r k
theorem qR {β : Type} (f : α → β) : ∀ (l : List (Bytes × α)) (k : Bytes) (v : α), gU (l.map fun p => (p.1, f p.2)) k (f v) = (gU l k v).map fun p => (p.1, f p.2)
 | [], _, _ => rfl
 | (j, u) :: r, k, v => by
  simp only [List.map_cons, gU]
  split
  ·rfl
  ·rw [qR f r k v]; rfl
end
theorem wR {a b : Bytes} (h : (Value.string ⟨a.toArray⟩) = .string ⟨b.toArray⟩) : a = b := by
 simpa using h
theorem lj {u : TypeDesc} {k e : Nat} (h : kindOf u = .map k e) : u = .map k e := by
 cases u <;> simp [kindOf] at h
 obtain ⟨rfl, rfl⟩ := h; rfl
theorem rF {es : Array MapEntry} {kvs : List (Bytes × PV)} (hn : es.size = kvs.length) (hd : (kvs.map Prod.fst).Nodup) (hk : ∀ (i : Nat) e kv, es[i]? = some e → kvs[i]? = some kv → e.key = .string ⟨kv.1.toArray⟩) (k : Bytes) :
  (∀ x ∈ es.toList, IsKey .string x.key) ∧
  ((Instr.findNow .string (.string ⟨k.toArray⟩) es.toList 0 = some none ∧ (∀ x ∈ es.toList, x.key ≠ .string ⟨k.toArray⟩) ∧ ∀ p ∈ kvs, p.1 ≠ k) ∨
  ∃ j e v, Instr.findNow .string (.string ⟨k.toArray⟩) es.toList 0 = some (some (j, e.val)) ∧ es[j]? = some e ∧ e.key = .string ⟨k.toArray⟩ ∧ kvs[j]? = some (k, v)) := by
 have hks : ∀ x ∈ es.toList, IsKey .string x.key := by
  intro x hx
  obtain ⟨i, hi⟩ := List.mem_iff_getElem?.1 hx
  rw [Array.getElem?_toList] at hi
  have hil := (Array.getElem?_eq_some_iff.1 hi).1
  have := hk i x kvs[i] hi (List.getElem?_eq_getElem (by omega))
  rw [this]; trivial
 refine ⟨hks, ?_⟩
 rcases findNow_spec (k := .string ⟨k.toArray⟩) (d := .string) trivial es.toList 0 hks with ⟨h1, h2⟩ | ⟨j, e, h1, h2, h3⟩
 ·refine .inl ⟨h1, h2, fun p hp e => ?_⟩
  obtain ⟨i, hi⟩ := List.mem_iff_getElem?.1 hp
  have hil := (List.getElem?_eq_some_iff.1 hi).1
  have hes : es[i]? = some es[i] := Array.getElem?_eq_getElem (by omega)
  have := hk i es[i] p hes hi
  exact h2 es[i] (Array.getElem_mem_toList (by omega)) (by rw [this, e])
 ·rw [Array.getElem?_toList] at h2
  have hil := (Array.getElem?_eq_some_iff.1 h2).1
  have hkv : kvs[j]? = some kvs[j] := List.getElem?_eq_getElem (by omega)
  have := hk j e kvs[j] h2 hkv
  have he : kvs[j].1 = k := wR (this.symm.trans h3)
  refine .inr ⟨j, e, kvs[j].2, by rw [h1]; simp, h2, h3, ?_⟩
  rw [hkv, ← he]
def upA (tok : Nat) (kvs : List (Bytes × PV)) (x : AV) : AV := match x with
 | .mp t l => bif Nat.beq t tok then .mp t kvs else .mp t l
 | x => x.dem (Nat.beq · tok)
def upS (tok : Nat) (kvs : List (Bytes × PV)) : List (Nat × AV) → Option (List (Nat × AV))
 | [] => some []
 | (i, x) :: r => (match frc (upA tok kvs x) with
  | some y => (match upS tok kvs r with | some l => some ((i, y) :: l) | none => none)
  | none => none)
theorem yF {tok : Nat} {kvs : List (Bytes × PV)} : ∀ {l l' : List (Nat × AV)}, upS tok kvs l = some l' → l' = l.map fun p => (p.1, upA tok kvs p.2)
 | [], l', h => by cases h; rfl
 | (i, x) :: r, l', h => by
  unfold upS at h
  split at h
  ·rename_i y hy
   split at h
   ·rename_i m hm; cases h; rw [rS hy, yF hm]; rfl
   ·cases h
  ·cases h
section
variable {C : Cx} {o : Oper} {K : AS → Prop} {sl : List (Nat × AV)} {ob : List (Nat × List AV)} {d : Nat}
theorem yp {d : Nat} (hd : d < M1) : ∀ i, Nat.beq i d = true → i < M1 := fun i hi => by have := Nat.eq_of_beq_eq_true hi; omega
theorem qp {y : AV} {sl' : List (Nat × AV)} {ob' : List (Nat × List AV)} (hd : o.dst = some d) (hn : Nat.blt d C.n = true)
  (hrun : ∀ g a w, St C.n C.w0 C.F g ⟨sl, ob⟩ a w → (execOp a.eval o).run C.P w = .ok (.value (.map (some w.heap.size))) (w.alloc (.map #[] 0)))
  (hy : ∀ (w : World) (g : Gh) (b : Nat), g.ow d = some b → w.heap[b]? = some (.map #[] 0) → ARep w g y (.map (some b)))
  (h1 : dmS (Nat.beq · d) sl = some sl') (h2 : dmO (Nat.beq · d) ob = some ob') (hK : K ⟨(d, y) :: sl', ob'⟩) : aU C o K ⟨sl, ob⟩ := by
 intro g a w hs
 have hdl : d < M1 := by have h1 := Nat.le_of_ble_eq_true C.nl; have h2 : d < C.n := Nat.blt_eq ▸ hn; omega
 unfold Oper.wp
 rw [hrun g a w hs]
 have hev : Ev w g.st (w.alloc (.map #[] 0)) g.st := fun b o h => ⟨h, World.cell?_alloc_lt w _ _ (hs.lt b o h)⟩
 obtain ⟨g', hg'⟩ : ∃ g' : Gh, g' = ⟨g.st, fun i => if i = d then some w.heap.size else g.ow i⟩ := ⟨_, rfl⟩
 have hsz : (w.alloc (.map #[] 0)).heap.size = w.heap.size + 1 := by simp
 have hs' : St C.n C.w0 C.F g' (cv (Nat.beq · d) ⟨sl, ob⟩) a (w.alloc (.map #[] 0)) := by
  subst hg'
  refine hs.evolve (Nat.beq · d) (yp hdl) hev (fun id b hD h => ?_) (fun i j b hi hj => ?_) (fun i b hi => ?_) (fun b o h => ?_) (fun b hb => ?_) rfl rfl rfl (by omega) (fun b _ o => Iff.rfl) (fun i hi => ?_)
  ·have hne : id ≠ d := fun e => by subst e; simp at hD
   exact ⟨by simp only [if_neg hne]; exact h, di (hs.own id b h).1, fun o h => h⟩
  ·dsimp only at hi hj
   by_cases e1 : i = d <;> by_cases e2 : j = d
   ·omega
   ·rw [if_pos e1] at hi; rw [if_neg e2] at hj; cases hi; have := (hs.own j _ hj).1; omega
   ·rw [if_neg e1] at hi; rw [if_pos e2] at hj; cases hj; have := (hs.own i _ hi).1; omega
   ·rw [if_neg e1] at hi; rw [if_neg e2] at hj; exact hs.inj i j b hi hj
  ·dsimp only at hi
   by_cases e1 : i = d
   ·rw [if_pos e1] at hi; cases hi
    exact ⟨by omega, fun hF => by have := hs.fl _ hF; have := hs.size; omega⟩
   ·rw [if_neg e1] at hi; have := hs.own i b hi; exact ⟨by omega, this.2⟩
  ·have := hs.lt b o h; omega
  ·exact di (by have := hs.fl b hb; have := hs.size; omega)
  ·dsimp only
   rw [if_neg (by omega)]
 refine ⟨g', ⟨(d, y) :: sl', ob'⟩, ?_, hK⟩
 have hp := hs'.put (d := o.dst) (fun t ht => by rw [hd] at ht; cases ht; exact Nat.blt_eq ▸ hn) (x := y) (v := .map (some w.heap.size))
  (hy _ _ _ (by rw [hg']; simp) cN)
 rw [hd] at hp ⊢
 rw [tg h1, nP h2]
 exact hp
theorem tW {t : TypeId} {x : Operand} {n : Int} {i : TI} {kt et : Nat} {sl' : List (Nat × AV)} {ob' : List (Nat × List AV)} (ho : o.op = .makeMap t (some x)) (hd : o.dst = some d) (hn : Nat.blt d C.n = true)
  (hi : look C.tt t = some i) (hik : i.k = .map kt et) (hx : evo sl x = some (.p (.val (.int .i64 n)))) (h1 : dmS (Nat.beq · d) sl = some sl') (h2 : dmO (Nat.beq · d) ob = some ob') (hK : K ⟨(d, .mp d []) :: sl', ob'⟩) : aU C o K ⟨sl, ob⟩ := by
 obtain ⟨u, hu1, hu2⟩ := a6 C.good hi
 obtain rfl := lj (hu2.trans hik)
 refine qp hd hn (fun g a w hs => ?_) (fun w g b h1 h2 => .mp h1 h2 rfl (by simp) (by simp) (by simp)) h1 h2 hK
 have hv := bL hs hx
 simp [execOp, ho, hv, Instr.makeMap, run_underlying hu1, asInt, asIntOf, newObj, Sem.run, Result.andThen]
theorem s8 {t kt et : TypeId} {x y : Operand} {i j : TI} {tok : Nat} {kvs : List (Bytes × PV)} {k : Bytes} {z : Value} {r : PV} (ho : o.op = .lookup t x y false) (hd : o.dst = some d) (hn : Nat.blt d C.n = true)
  (hi : look C.tt t = some i) (hik : i.k = .map kt et) (hj : look C.tt kt = some j) (hjk : j.k = .string) (hz : (C.P.info? et).map (·.zero) = some (some z))
  (hx : evo sl x = some (.mp tok kvs)) (hy : evo sl y = some (.p (.val (.string ⟨k.toArray⟩)))) (hr : ∀ (w : World) (st : Nat → Nat → Prop) (v : Value), PRep w st ((bZ kvs k).getD (.val z)) v → PRep w st r v) (hK : K ⟨(d, .p r) :: sl, ob⟩) : aU C o K ⟨sl, ob⟩ := by
 obtain ⟨u, h1, h2⟩ := a6 C.good hi
 obtain rfl := lj (h2.trans hik)
 obtain ⟨u2, h3, h4⟩ := a6 C.good hj
 obtain rfl := eA (h4.trans hjk)
 refine ok_one hd hn (fun g a w hs => ?_) hK
 have hm := bq hs hx
 have hkv := bL hs hy
 generalize hv : a.eval x = v at hm
 cases hm with
 | mp how hb hN hD hkeys hvals =>
  rename_i b ck es
  obtain ⟨hks, hc⟩ := rF hN hD hkeys k
  have hz2 : (zeroValue et).run C.P w = .ok z w := by
   obtain ⟨inf, hinf, hzz⟩ := Option.map_eq_some_iff.1 hz
   simp [zeroValue, typeInfo, hinf, hzz]
  rcases hc with ⟨f1, f2, f3⟩ | ⟨jj, e, v', f1, f2, f3, f4⟩
  ·refine ⟨z, ?_, ?_⟩
   ·simp [execOp, ho, hv, hkv, Instr.lookup, run_underlying h1, Go.MapKept.run_getObj_map hb, run_checkKey (d := .string) h3 (k := .string ⟨k.toArray⟩) trivial, run_findKey h3 f1, hz2, Result.andThen]
   ·exact .p (hr w _ _ (by rw [nT f3]; exact .val _))
  ·refine ⟨e.val, ?_, ?_⟩
   ·simp [execOp, ho, hv, hkv, Instr.lookup, run_underlying h1, Go.MapKept.run_getObj_map hb, run_checkKey (d := .string) h3 (k := .string ⟨k.toArray⟩) trivial, run_findKey h3 f1, Result.andThen]
   ·exact .p (hr w _ _ (by rw [rQ hD f4]; exact hvals jj e _ f2 f4))
theorem xY {t kt et : TypeId} {x y : Operand} {i j : TI} {tok : Nat} {kvs : List (Bytes × PV)} {k : Bytes} {z : Value} {r : PV} (ho : o.op = .lookup t x y false) (hd : o.dst = some d) (hn : Nat.blt d C.n = true)
  (hi : look C.tt t = some i) (hik : i.k = .map kt et) (hj : look C.tt kt = some j) (hjk : j.k = .string) (hz : (C.P.info? et).map (·.zero) = some (some z))
  (hx : evo sl x = some (.mp tok kvs)) (hy : evo sl y = some (.p (.val (.string ⟨k.toArray⟩)))) (hr : (bZ kvs k).getD (.val z) = r) (hK : K ⟨(d, .p r) :: sl, ob⟩) : aU C o K ⟨sl, ob⟩ :=
 s8 ho hd hn hi hik hj hjk hz hx hy (fun _ _ _ h => hr ▸ h) hK
theorem AU {t kt et : TypeId} {x y v : Operand} {i j : TI} {tok : Nat} {kvs kvs' : List (Bytes × PV)} {k : Bytes} {r : PV} {sl' : List (Nat × AV)} {ob' : List (Nat × List AV)} (ho : o.op = .mapUpdate t x y v) (hd : o.dst = none)
  (hi : look C.tt t = some i) (hik : i.k = .map kt et) (hj : look C.tt kt = some j) (hjk : j.k = .string)
  (hx : evo sl x = some (.mp tok kvs)) (hy : evo sl y = some (.p (.val (.string ⟨k.toArray⟩)))) (hv : evo sl v = some (.p r)) (htok : Nat.blt tok M1 = true)
  (hk : gU kvs k r = kvs') (h1 : upS tok kvs' sl = some sl') (h2 : dmO (Nat.beq · tok) ob = some ob') (hK : K ⟨sl', ob'⟩) : aU C o K ⟨sl, ob⟩ := by
 obtain ⟨u, hu1, hu2⟩ := a6 C.good hi
 obtain rfl := lj (hu2.trans hik)
 obtain ⟨u2, hu3, hu4⟩ := a6 C.good hj
 obtain rfl := eA (hu4.trans hjk)
 have htl : tok < M1 := Nat.blt_eq ▸ htok
 intro g a w hs
 have hm := bq hs hx
 have hkv := bL hs hy
 have hrep := bq hs hv
 generalize hvx : a.eval x = vx at hm
 generalize hvv : a.eval v = vv at hrep
 cases hrep with
 | p hrep =>
 cases hm with
 | mp how hb hN hD hkeys hvals =>
  rename_i b ck es
  obtain ⟨hks, hc⟩ := rF hN hD hkeys k
  have hbl : b < w.heap.size := (hs.own tok b how).1
  -- the entries behind the change
  obtain ⟨es', ck', hrun, hN', hkeys', hvals'⟩ : ∃ (es' : Array MapEntry) (ck' : Nat), (execOp a.eval o).run C.P w = .ok .skip { w with heap := w.heap.setIfInBounds b (.map es' ck') } ∧ es'.size = kvs'.length ∧
    (∀ (i : Nat) e kv, es'[i]? = some e → kvs'[i]? = some kv → e.key = .string ⟨kv.1.toArray⟩) ∧ (∀ (i : Nat) e kv, es'[i]? = some e → kvs'[i]? = some kv → PRep w g.st kv.2 e.val) := by
   rcases hc with ⟨f1, f2, f3⟩ | ⟨jj, e, v', f1, f2, f3, f4⟩
   ·refine ⟨es.push { key := .string ⟨k.toArray⟩, val := vv, born := ck }, ck + 1, ?_, ?_, ?_, ?_⟩
    ·simp [execOp, ho, hvx, hkv, hvv, Instr.mapUpdate, run_underlying hu1, Go.MapKept.run_getObj_map hb, run_checkKey (d := .string) hu3 (k := .string ⟨k.toArray⟩) trivial, run_findKey hu3 f1, run_setObj_map _ hb, Result.andThen]
    ·rw [← hk, jI f3]; simp [hN]
    ·intro i e kv h3 h4
     rw [← hk, jI f3] at h4
     rw [Array.getElem?_push] at h3
     split at h3
     ·rename_i hi2
      cases h3
      rw [hi2, List.getElem?_append_right (by omega), hN] at h4
      simp at h4
      rw [← h4]
     ·have hil : i < es.size := (Array.getElem?_eq_some_iff.1 h3).1
      rw [List.getElem?_append_left (by omega)] at h4
      exact hkeys i e kv h3 h4
    ·intro i e kv h3 h4
     rw [← hk, jI f3] at h4
     rw [Array.getElem?_push] at h3
     split at h3
     ·rename_i hi2
      cases h3
      rw [hi2, List.getElem?_append_right (by omega), hN] at h4
      simp at h4
      rw [← h4]
      exact hrep
     ·have hil : i < es.size := (Array.getElem?_eq_some_iff.1 h3).1
      rw [List.getElem?_append_left (by omega)] at h4
      exact hvals i e kv h3 h4
   ·have hjl : jj < es.size := (Array.getElem?_eq_some_iff.1 f2).1
    refine ⟨es.modify jj fun e => { e with key := .string ⟨k.toArray⟩, val := vv }, ck, ?_, ?_, ?_, ?_⟩
    ·have hkey := run_keyThatStays (P := C.P) (w := w) (d := .string) (k := .string ⟨k.toArray⟩) trivial
     simp [execOp, ho, hvx, hkv, hvv, Instr.mapUpdate, run_underlying hu1, Go.MapKept.run_getObj_map hb, run_checkKey (d := .string) hu3 (k := .string ⟨k.toArray⟩) trivial, run_findKey hu3 f1, f2, f3, hkey, run_setObj_map _ hb, Result.andThen]
    ·rw [← hk, kI hD f4]; simp [hN]
    ·intro i e2 kv h3 h4
     rw [← hk, kI hD f4] at h4
     rw [Array.getElem?_modify] at h3
     rw [List.getElem?_set] at h4
     split at h3
     ·rename_i hji
      subst hji
      rw [f2] at h3
      cases h3
      rw [if_pos rfl, if_pos (by omega)] at h4
      cases h4
      rfl
     ·rename_i hji
      rw [if_neg hji] at h4
      exact hkeys i e2 kv h3 h4
    ·intro i e2 kv h3 h4
     rw [← hk, kI hD f4] at h4
     rw [Array.getElem?_modify] at h3
     rw [List.getElem?_set] at h4
     split at h3
     ·rename_i hji
      subst hji
      rw [f2] at h3
      cases h3
      rw [if_pos rfl, if_pos (by omega)] at h4
      cases h4
      exact hrep
     ·rename_i hji
      rw [if_neg hji] at h4
      exact hvals i e2 kv h3 h4
  unfold Oper.wp
  rw [hrun]
  simp only [Oper.upon, hd, Act.put]
  obtain ⟨w', hw'⟩ : ∃ w' : World, w' = { w with heap := w.heap.setIfInBounds b (.map es' ck') } := ⟨_, rfl⟩
  rw [← hw']
  have hat : w'.heap[b]? = some (.map es' ck') := by rw [hw']; exact (heap_set hb).1
  have hother : ∀ b2, b2 ≠ b → w'.heap[b2]? = w.heap[b2]? := fun b2 h => by rw [hw']; exact (heap_set hb).2 b2 h
  have hsz : w'.heap.size = w.heap.size := by rw [hw']; simp
  have hev : Ev w g.st w' g.st := by
   intro b2 o2 h
   refine ⟨h, ?_⟩
   by_cases e : b2 = b
   ·subst e; simp [World.cell?, hat, hb]
   ·simp only [World.cell?, hother b2 e]
  have hneq : ∀ id b2, Nat.beq id tok = false → g.ow id = some b2 → b2 ≠ b := fun id b2 hq h e => by
   subst e
   have := hs.inj id tok b2 h how
   subst this
   simp at hq
  have hs' := hs.evolve (g' := g) (w' := w') (Nat.beq · tok) (yp htl) hev (fun id b2 hq h => ⟨h, hother b2 (hneq id b2 hq h), fun o h => h⟩) hs.inj (fun i b2 h => by have := hs.own i b2 h; rw [hsz]; exact this)
   (fun b2 o2 h => by have := hs.lt b2 o2 h; omega) (fun b2 h => hother b2 (fun e => (hs.own tok b how).2 (e ▸ h))) (by rw [hw']) (by rw [hw']) (by rw [hw']) (by omega) (fun b2 _ o2 => Iff.rfl) (fun i _ => rfl)
  refine ⟨g, ⟨sl', ob'⟩, ?_, hK⟩
  rw [yF h1, nP h2]
  refine { hs' with sl := fun q => ?_ }
  have hq := hs'.sl q
  have hq0 := hs.sl q
  simp only [AS.get, cv, gf] at hq hq0 ⊢
  cases hl : look sl q with
  | none => simp only [Option.map_none, Option.getD_none]; exact .undef _
  | some z =>
   rw [hl] at hq hq0
   simp only [Option.map_some, Option.getD_some] at hq hq0 ⊢
   unfold upA
   split
   ·rename_i tk l
    cases hbt : Nat.beq tk tok
    ·simp only [AV.dem, hbt, cond_false] at hq ⊢; exact hq
    ·simp only [cond_true]
     have := Nat.eq_of_beq_eq_true hbt
     subst this
     generalize a.tmps.getD q Go.undef = vq at hq0
     cases hq0 with
     | mp how2 _ _ _ _ _ =>
      rw [how] at how2; cases how2
      exact .mp how hat hN' (by rw [← hk]; exact rz hD) hkeys' (fun i e kv h3 h4 => (hvals' i e kv h3 h4).mono hev)
   ·exact hq
end
end Go.Ab
end
section
set_option linter.unusedVariables false
set_option linter.unusedSimpArgs false
set_option linter.unnecessarySimpa false
namespace Go.Ab
open Go.MapKept
/- As 'dem', for identities of any size; what is known of maps of rows is given up. -/
mutual
def AV.dm2 (D : Nat → Bool) : AV → AV
 | .undef => .undef
 | .p x => .p x
 | .agg cs => .agg (tV D cs)
 | .vec tok sz ty es => bif D tok then .p (.slice es) else .vec tok sz ty es
 | .arr id sz off n => bif D id then .undef else .arr id sz off n
 | .ptr id off => bif D id then .undef else .ptr id off
 | .bptr T sz id => bif D id then .undef else .bptr T sz id
 | .rptr cs => .rptr cs
 | .tuple cs => .tuple (tV D cs)
 | .func f cs => .func f (tV D cs)
 | .mp tok kvs => bif D tok then .undef else .mp tok kvs
 | .mpr .. => .undef
 | .stk tok sz es => bif D tok then .undef else .stk tok sz es
def tV (D : Nat → Bool) : List AV → List AV
 | [] => []
 | x :: r => x.dm2 D :: tV D r
end
theorem kD (D : Nat → Bool) : ∀ l, tV D l = l.map (AV.dm2 D)
 | [] => rfl
 | x :: r => by simp [tV, kD D r]
theorem ARep.dm2 {D : Nat → Bool} {w w' : World} {g g' : Gh} (ev : Ev w g.st w' g'.st) (ow : ∀ id b, D id = false → g.ow id = some b → g'.ow id = some b)
  (shape : ∀ id b c e, D id = false → g.ow id = some b → w.heap[b]? = some (.cells c e (0, 0)) → ∃ c' : Array Value, w'.heap[b]? = some (.cells c' e (0, 0)) ∧ c'.size = c.size)
  (tip : ∀ id b o, D id = false → g.ow id = some b → g'.st b o → g.st b o)
  (mp : ∀ id b es k, D id = false → g.ow id = some b → w.heap[b]? = some (.map es k) → w'.heap[b]? = some (.map es k))
  (stab : ∀ id b o, D id = false → g.ow id = some b → g.st b o → w'.heap[b]? = w.heap[b]?) {x : AV} {v : Value} (h : ARep w g x v) : ARep w' g' (x.dm2 D) v := by
 induction h with
 | undef v => simp only [AV.dm2]; exact .undef _
 | p h => simp only [AV.dm2]; exact .p (h.mono ev)
 | agg hl h ih =>
  simp only [AV.dm2, kD]
  refine .agg (by simpa using hl) fun i c v h1 h2 => ?_
  simp only [List.getElem?_map, Option.map_eq_some_iff] at h1
  obtain ⟨c0, h1, rfl⟩ := h1
  exact ih i c0 v h1 h2
 | vecn tok sz ty =>
  simp only [AV.dm2]
  cases D tok
  ·exact .vecn _ _ _
  ·exact .p .nils
 | vece tok sz a =>
  simp only [AV.dm2]
  cases D tok
  ·exact .vece _ _ _
  ·exact .p (.nile a)
 | vec how hb hcs hsz hst hr hty =>
  simp only [AV.dm2]
  cases hD : D _
  ·obtain ⟨c', hb', hs'⟩ := shape _ _ _ _ hD how hb
   exact .vec (ow _ _ hD how) hb' (hs'.trans hcs) hsz (fun o => ⟨fun h => (hst o).1 (tip _ _ o hD how h), fun h => (ev _ _ ((hst o).2 h)).1⟩) (hr.mono ev) hty
  ·exact .p (hr.mono ev)
 | arr how hb hcs hn =>
  simp only [AV.dm2]
  cases hD : D _
  ·obtain ⟨c', hb', hs'⟩ := shape _ _ _ _ hD how hb
   exact .arr (ow _ _ hD how) hb' (hs'.trans hcs) hn
  ·exact .undef _
 | ptr how =>
  simp only [AV.dm2]
  cases hD : D _
  ·exact .ptr (ow _ _ hD how)
  ·exact .undef _
 | bptrn how hb hcs =>
  simp only [AV.dm2]
  cases hD : D _
  ·obtain ⟨c', hb', hs'⟩ := shape _ _ _ _ hD how hb
   exact .bptrn (ow _ _ hD how) hb' (hs'.trans hcs)
  ·exact .undef _
 | bptr how hb hcs =>
  simp only [AV.dm2]
  cases hD : D _
  ·obtain ⟨c', hb', hs'⟩ := shape _ _ _ _ hD how hb
   exact .bptr (ow _ _ hD how) hb' (hs'.trans hcs)
  ·exact .undef _
 | rptr cf hc hr =>
  simp only [AV.dm2]
  exact .rptr cf (fun j c h => ⟨(ev _ _ (hc j c h).1).1, (ev _ _ (hc j c h).1).2.trans (hc j c h).2⟩) (fun j c h => (hr j c h).mono ev)
 | tuple hl h ih =>
  simp only [AV.dm2, kD]
  refine .tuple (by simpa using hl) fun i c v h1 h2 => ?_
  simp only [List.getElem?_map, Option.map_eq_some_iff] at h1
  obtain ⟨c0, h1, rfl⟩ := h1
  exact ih i c0 v h1 h2
 | func hl h ih =>
  simp only [AV.dm2, kD]
  refine .func (by simpa using hl) fun i c v h1 h2 => ?_
  simp only [List.getElem?_map, Option.map_eq_some_iff] at h1
  obtain ⟨c0, h1, rfl⟩ := h1
  exact ih i c0 v h1 h2
 | mp how hb hn hd hk hv =>
  simp only [AV.dm2]
  cases hD : D _
  ·exact .mp (ow _ _ hD how) (mp _ _ _ _ hD how hb) hn hd hk (fun i e kv h1 h2 => (hv i e kv h1 h2).mono ev)
  ·exact .undef _
 | mpr => simp only [AV.dm2]; exact .undef _
 | stkn tok sz =>
  simp only [AV.dm2]
  cases D tok
  ·exact .stkn _ _
  ·exact .undef _
 | stke tok sz a =>
  simp only [AV.dm2]
  cases D tok
  ·exact .stke _ _ _
  ·exact .undef _
 | stk how hb hcs hlen hsz hone hst hr =>
  simp only [AV.dm2]
  cases hD : D _
  ·exact .stk (ow _ _ hD how) ((stab _ _ _ hD how ((hst _).2 rfl)).trans hb) hcs hlen hsz hone (fun o => ⟨fun h => (hst o).1 (tip _ _ o hD how h), fun h => (ev _ _ ((hst o).2 h)).1⟩) (fun i x j p h1 h2 => by obtain ⟨v, h3, h4⟩ := hr i x j p h1 h2; exact ⟨v, h3, h4.mono ev⟩)
  ·exact .undef _
def l5 (e t : Nat) (i : Nat) : Bool := Nat.beq i e || Nat.beq i t || Nat.ble MZ i
def tkA (tok e : Nat) (y x : AV) : AV := match x with
 | .mpr t _ _ _ _ => bif Nat.beq t tok then y else .undef
 | x => x.dm2 (l5 e tok)
def tkS (tok e : Nat) (y : AV) : List (Nat × AV) → Option (List (Nat × AV))
 | [] => some []
 | (i, x) :: r => (match frc (tkA tok e y x) with
  | some z => (match tkS tok e y r with | some l => some ((i, z) :: l) | none => none)
  | none => none)
theorem vK {tok e : Nat} {y : AV} : ∀ {l l' : List (Nat × AV)}, tkS tok e y l = some l' → l' = l.map fun p => (p.1, tkA tok e y p.2)
 | [], l', h => by cases h; rfl
 | (i, x) :: r, l', h => by
  unfold tkS at h
  split at h
  ·rename_i z hz
   split at h
   ·rename_i m hm; cases h; rw [rS hz, vK hm]; rfl
   ·cases h
  ·cases h
def tkC (e t : Nat) : List AV → Option (List AV)
 | [] => some []
 | x :: r => (match frc (x.dm2 (l5 e t)) with
  | some y => (match tkC e t r with | some l => some (y :: l) | none => none)
  | none => none)
theorem yx {e t : Nat} : ∀ {l l' : List AV}, tkC e t l = some l' → l' = tV (l5 e t) l
 | [], l', h => by cases h; rfl
 | x :: r, l', h => by
  unfold tkC at h
  split at h
  ·rename_i y hy
   split at h
   ·rename_i m hm; cases h; rw [rS hy, yx hm]; rfl
   ·cases h
  ·cases h
def tkO (e t : Nat) : List (Nat × List AV) → Option (List (Nat × List AV))
 | [] => some []
 | (i, cs) :: r => (match l5 e t i with
  | true => tkO e t r
  | false => (match tkC e t cs with
   | some ds => (match tkO e t r with | some l => some ((i, ds) :: l) | none => none)
   | none => none))
theorem oL {e t : Nat} : ∀ {l l' : List (Nat × List AV)}, tkO e t l = some l' → ∀ id cs, look l' id = some cs → l5 e t id = false ∧ ∃ ds, look l id = some ds ∧ cs = tV (l5 e t) ds
 | [], l', h, id, cs, hc => by cases h; cases hc
 | (i, xs) :: r, l', h, id, cs, hc => by
  unfold tkO at h
  split at h
  ·rename_i hb
   obtain ⟨h1, ds, h2, h3⟩ := oL h id cs hc
   refine ⟨h1, ds, ?_, h3⟩
   rw [bn, if_neg (fun e' => by subst e'; rw [hb] at h1; cases h1)]
   exact h2
  ·rename_i hb
   split at h
   ·rename_i ds hds
    split at h
    ·rename_i m hm
     cases h
     rw [bn] at hc ⊢
     by_cases e1 : i = id
     ·subst e1
      rw [if_pos rfl] at hc ⊢
      cases hc
      exact ⟨hb, xs, rfl, yx hds⟩
     ·rw [if_neg e1] at hc ⊢
      exact oL hm id cs hc
    ·cases h
   ·cases h
theorem qb {α : Type} {es : Array MapEntry} {kvs : List (Bytes × α)} (hn : es.size = kvs.length) (hk : ∀ (i : Nat) e kv, es[i]? = some e → kvs[i]? = some kv → e.key = .string ⟨kv.1.toArray⟩) (k : Bytes) :
  (∀ x ∈ es.toList, IsKey .string x.key) ∧
  ((Instr.findNow .string (.string ⟨k.toArray⟩) es.toList 0 = some none ∧ (∀ x ∈ es.toList, x.key ≠ .string ⟨k.toArray⟩) ∧ ∀ p ∈ kvs, p.1 ≠ k) ∨
  ∃ j e v, Instr.findNow .string (.string ⟨k.toArray⟩) es.toList 0 = some (some (j, e.val)) ∧ es[j]? = some e ∧ e.key = .string ⟨k.toArray⟩ ∧ kvs[j]? = some (k, v)) := by
 have hks : ∀ x ∈ es.toList, IsKey .string x.key := by
  intro x hx
  obtain ⟨i, hi⟩ := List.mem_iff_getElem?.1 hx
  rw [Array.getElem?_toList] at hi
  have hil := (Array.getElem?_eq_some_iff.1 hi).1
  have := hk i x kvs[i] hi (List.getElem?_eq_getElem (by omega))
  rw [this]; trivial
 refine ⟨hks, ?_⟩
 rcases findNow_spec (k := .string ⟨k.toArray⟩) (d := .string) trivial es.toList 0 hks with ⟨h1, h2⟩ | ⟨j, e, h1, h2, h3⟩
 ·refine .inl ⟨h1, h2, fun p hp e => ?_⟩
  obtain ⟨i, hi⟩ := List.mem_iff_getElem?.1 hp
  have hil := (List.getElem?_eq_some_iff.1 hi).1
  have hes : es[i]? = some es[i] := Array.getElem?_eq_getElem (by omega)
  have := hk i es[i] p hes hi
  exact h2 es[i] (Array.getElem_mem_toList (by omega)) (by rw [this, e])
 ·rw [Array.getElem?_toList] at h2
  have hil := (Array.getElem?_eq_some_iff.1 h2).1
  have hkv : kvs[j]? = some kvs[j] := List.getElem?_eq_getElem (by omega)
  have := hk j e kvs[j] h2 hkv
  have he : kvs[j].1 = k := wR (this.symm.trans h3)
  refine .inr ⟨j, e, kvs[j].2, by rw [h1]; simp, h2, h3, ?_⟩
  rw [hkv, ← he]
theorem yd {d t i : Nat} (h : d < MZ) : t + MZ * (i + 1) ≠ d := by rw [Nat.mul_add, Nat.mul_one]; omega
theorem vD {w : World} {g : Gh} {tok sz ty : Nat} {tk : Option Bytes} {i : Nat} {kv : Bytes × List PV} {v : Value} (h : ARep w g (lq tok sz ty tk i kv) v) : PRep w g.st (.slice kv.2) v := by
 unfold lq at h
 split at h
 ·cases h with
  | p h => exact h
 ·have := AV.sub_vec _ _ _ _ _ _ _ h
  cases this with
  | p h => exact h
section
variable {C : Cx} {o : Oper} {K : AS → Prop} {sl : List (Nat × AV)} {ob : List (Nat × List AV)} {d : Nat}
theorem rf {t : TypeId} (sz ty : Nat) {x : Operand} {n : Int} {i : TI} {kt et : Nat} {sl' : List (Nat × AV)} {ob' : List (Nat × List AV)} (ho : o.op = .makeMap t (some x)) (hd : o.dst = some d) (hn : Nat.blt d C.n = true)
  (hi : look C.tt t = some i) (hik : i.k = .map kt et) (hx : evo sl x = some (.p (.val (.int .i64 n)))) (h1 : dmS (Nat.beq · d) sl = some sl') (h2 : dmO (Nat.beq · d) ob = some ob') (hK : K ⟨(d, .mpr d sz ty none []) :: sl', ob'⟩) : aU C o K ⟨sl, ob⟩ := by
 obtain ⟨u, hu1, hu2⟩ := a6 C.good hi
 obtain rfl := lj (hu2.trans hik)
 refine qp hd hn (fun g a w hs => ?_) (fun w g b h1 h2 => .mpr h1 h2 rfl (by simp) (by simp) (by simp)) h1 h2 hK
 have hv := bL hs hx
 simp [execOp, ho, hv, Instr.makeMap, run_underlying hu1, asInt, asIntOf, newObj, Sem.run, Result.andThen]
theorem x4 {t kt et : TypeId} {x y : Operand} {i j : TI} {tok sz ty : Nat} {kvs : List (Bytes × List PV)} {k : Bytes} {r : List PV} {sl' : List (Nat × AV)} {ob' : List (Nat × List AV)} (ho : o.op = .lookup t x y false) (hd : o.dst = some d) (hn : Nat.blt d C.n = true)
  (hi : look C.tt t = some i) (hik : i.k = .map kt et) (hj : look C.tt kt = some j) (hjk : j.k = .string) (hz : (C.P.info? et).map (·.zero) = some (some (.slice none 0 0)))
  (hx : evo sl x = some (.mpr tok sz ty none kvs)) (hy : evo sl y = some (.p (.val (.string ⟨k.toArray⟩)))) (hr : (bZ kvs k).getD [] = r) (htok : Nat.blt tok M1 = true) (hdt : Nat.beq d tok = false)
  (h1 : tkS tok d (.mpr tok sz ty (some k) kvs) sl = some sl') (h2 : tkO d tok ob = some ob') (hK : K ⟨(d, .vec d sz ty r) :: sl', ob'⟩) : aU C o K ⟨sl, ob⟩ := by
 obtain ⟨u, hu1, hu2⟩ := a6 C.good hi
 obtain rfl := lj (hu2.trans hik)
 obtain ⟨u2, hu3, hu4⟩ := a6 C.good hj
 obtain rfl := eA (hu4.trans hjk)
 have htl : tok < M1 := Nat.blt_eq ▸ htok
 have hdl : d < M1 := by have h1 := Nat.le_of_ble_eq_true C.nl; have h2 : d < C.n := Nat.blt_eq ▸ hn; omega
 have hM : M1 ≤ MZ := by decide
 have hne : d ≠ tok := fun e => by subst e; simp at hdt
 intro g a w hs
 have hm := bq hs hx
 have hkv := bL hs hy
 generalize hvx : a.eval x = vx at hm
 cases hm with
 | mpr how hb hN hD hkeys hvals =>
  rename_i b ck es
  obtain ⟨hks, hc⟩ := qb hN hkeys k
  have hz2 : (zeroValue et).run C.P w = .ok (.slice none 0 0) w := by
   obtain ⟨inf, hinf, hzz⟩ := Option.map_eq_some_iff.1 hz
   simp [zeroValue, typeInfo, hinf, hzz]
  -- the place of the row, and its value
  obtain ⟨jj, v, hrun, hjj, hrow⟩ : ∃ (jj : Nat) (v : Value), (execOp a.eval o).run C.P w = .ok (.value v) w ∧ (∀ i kv, kvs[i]? = some kv → kv.1 ≠ k → i ≠ jj) ∧ (ARep w g (.vec (tok + MZ * (jj + 1)) sz ty r) v) := by
   rcases hc with ⟨f1, f2, f3⟩ | ⟨jj, e, v', f1, f2, f3, f4⟩
   ·refine ⟨kvs.length, .slice none 0 0, ?_, fun i kv hi _ e => ?_, ?_⟩
    ·simp [execOp, ho, hvx, hkv, Instr.lookup, run_underlying hu1, Go.MapKept.run_getObj_map hb, run_checkKey (d := .string) hu3 (k := .string ⟨k.toArray⟩) trivial, run_findKey hu3 f1, hz2, Result.andThen]
    ·have := (List.getElem?_eq_some_iff.1 hi).1; omega
    ·rw [← hr, nT f3]; exact .vecn _ _ _
   ·refine ⟨jj, e.val, ?_, fun i kv hi hne e => ?_, ?_⟩
    ·simp [execOp, ho, hvx, hkv, Instr.lookup, run_underlying hu1, Go.MapKept.run_getObj_map hb, run_checkKey (d := .string) hu3 (k := .string ⟨k.toArray⟩) trivial, run_findKey hu3 f1, Result.andThen]
    ·subst e; rw [f4] at hi; cases hi; exact hne rfl
    ·rw [← hr, rQ hD f4]
     have := hvals jj e _ f2 f4
     unfold lq at this
     rw [if_neg (by simp)] at this
     exact this
  unfold Oper.wp
  rw [hrun]
  obtain ⟨rid, hrid⟩ : ∃ rid, rid = tok + MZ * (jj + 1) := ⟨_, rfl⟩
  have hridZ : MZ ≤ rid := by rw [hrid, Nat.mul_add, Nat.mul_one]; omega
  obtain ⟨g', hg'⟩ : ∃ g' : Gh, g' = ⟨g.st, fun i => if i = d then g.ow rid else if i = rid then none else g.ow i⟩ := ⟨_, rfl⟩
  have gst : g'.st = g.st := by rw [hg']
  have god : g'.ow d = g.ow rid := by rw [hg']; simp
  have goo : ∀ i, i ≠ d → i ≠ rid → g'.ow i = g.ow i := fun i h1 h2 => by rw [hg']; simp only [if_neg h1, if_neg h2]
  have gor : rid ≠ d → g'.ow rid = none := fun h => by rw [hg']; simp only [if_neg h, if_true]
  have hrd : rid ≠ d := by omega
  have hbig : ∀ id, l5 d tok id = false → id ≠ d ∧ id ≠ tok ∧ id < MZ := fun id h => by
   unfold l5 at h
   simp only [Bool.or_eq_false_iff] at h
   refine ⟨fun e => by subst e; simp at h, fun e => by subst e; simp at h, Nat.lt_of_not_le fun hle => ?_⟩
   rw [Nat.ble_eq_true_of_le hle] at h; exact absurd h.2 (by decide)
  have hdm : ∀ {z : AV} {u : Value}, ARep w g z u → ARep w g' (z.dm2 (l5 d tok)) u := fun h => ARep.dm2 (by rw [gst]; exact Ev.refl _ _)
   (fun id b hq h => by obtain ⟨q1, _, q2⟩ := hbig id hq; rw [goo id q1 (by omega)]; exact h) (fun id b c e _ _ h => ⟨c, h, rfl⟩) (fun id b o _ _ h => by rwa [gst] at h) (fun id b es k _ _ h => h) (fun _ _ _ _ _ _ => rfl) h
  have vecmove : ∀ {q q' : Nat} {es : List PV} {u : Value}, g'.ow q' = g.ow q → ARep w g (.vec q sz ty es) u → ARep w g' (.vec q' sz ty es) u := by
   intro q q' es u hq h
   cases h with
   | vecn => exact .vecn _ _ _
   | vece => exact .vece _ _ _
   | vec h1 h2 h3 h4 h5 h6 h7 => exact .vec (hq.trans h1) h2 h3 h4 (by rw [gst]; exact h5) (by rw [gst]; exact h6) h7
  have htk : ∀ {z : AV} {u : Value}, ARep w g z u → ARep w g' (tkA tok d (.mpr tok sz ty (some k) kvs) z) u ∨ ∃ t s y q l, z = .mpr t s y q l := by
   intro z u h
   unfold tkA
   split
   ·exact .inr ⟨_, _, _, _, _, rfl⟩
   ·exact .inl (hdm h)
  have hs0 : St C.n C.w0 C.F g' ⟨sl', ob'⟩ a w := by
   refine ⟨hs.nd, hs.sz, fun q => ?_, fun id cs hcs => ?_, fun i j b h1 h2 => ?_, fun i b h => ?_, by rw [gst]; exact hs.lt, hs.fl, hs.fr, hs.os, hs.out, hs.tape, hs.size, by rw [gst]; exact hs.stf, fun i h1 h2 => ?_, hs.shf, by rw [gst]; exact hs.nst, by rw [gst]; exact hs.ev0⟩
   ·rw [vK h1]
    have hq := hs.sl q
    simp only [AS.get, gf] at hq ⊢
    cases hl : look sl q with
    | none => simp only [Option.map_none, Option.getD_none]; exact .undef _
    | some z =>
     rw [hl] at hq
     simp only [Option.map_some, Option.getD_some] at hq ⊢
     rcases htk hq with h | ⟨t, s, y, q', l, rfl⟩
     ·exact h
     ·simp only [tkA]
      cases hbt : Nat.beq t tok
      ·simp only [cond_false]; exact .undef _
      ·simp only [cond_true]
       have := Nat.eq_of_beq_eq_true hbt
       subst this
       generalize a.tmps.getD q Go.undef = vq at hq
       cases hq with
       | mpr how2 hb2 hN2 hD2 hk2 hv2 =>
        rw [how] at how2; cases how2
        refine .mpr (b := b) (k := ck) (es := es) (by rw [goo t (fun e => hne e.symm) (by omega)]; exact how) hb hN hD hkeys fun i e kv h3 h4 => ?_
        have hrep := hvals i e kv h3 h4
        unfold lq
        by_cases hkk : some k = some kv.1
        ·rw [if_pos hkk]
         have := vD hrep
         exact .p (by rw [gst]; exact this)
        ·rw [if_neg hkk]
         unfold lq at hrep
         rw [if_neg (by simp)] at hrep
         have hij : i ≠ jj := hjj i kv h4 (fun e => hkk (by rw [e]))
         refine vecmove (goo _ (yd (by omega)) ?_) hrep
         rw [hrid]
         intro e2
         have : MZ * (i + 1) = MZ * (jj + 1) := by omega
         have := Nat.eq_of_mul_eq_mul_left (by decide : 0 < MZ) this
         omega
   ·obtain ⟨hq, ds, hds, rfl⟩ := oL h2 id cs hcs
    obtain ⟨q1, _, q2⟩ := hbig id hq
    obtain ⟨b2, c2, e2, m1, m2, m3, m4, m5⟩ := hs.ob id ds hds
    refine ⟨b2, c2, e2, by rw [goo id q1 (by omega)]; exact m1, m2, by rw [kD, List.length_map]; exact m3, by rw [gst]; exact m4, fun i x hx => ?_⟩
    rw [kD, List.getElem?_map] at hx
    obtain ⟨z, hz, rfl⟩ := Option.map_eq_some_iff.1 hx
    obtain ⟨u, hu, hr⟩ := m5 i z hz
    exact ⟨u, hu, hdm hr⟩
   ·have key : ∀ i, g'.ow i = some b → ∃ i', g.ow i' = some b ∧ ((i = d ∧ i' = rid) ∨ (i ≠ d ∧ i ≠ rid ∧ i' = i)) := by
     intro i hi
     by_cases e1 : i = d
     ·subst e1; rw [god] at hi; exact ⟨rid, hi, .inl ⟨rfl, rfl⟩⟩
     ·by_cases e2 : i = rid
      ·subst e2; rw [gor hrd] at hi; cases hi
      ·rw [goo i e1 e2] at hi; exact ⟨i, hi, .inr ⟨e1, e2, rfl⟩⟩
    obtain ⟨i', hi', q1⟩ := key i h1
    obtain ⟨j', hj', q2⟩ := key j h2
    have := hs.inj i' j' b hi' hj'
    rcases q1 with ⟨q1, q3⟩ | ⟨q1, q3, q5⟩ <;> rcases q2 with ⟨q2, q4⟩ | ⟨q2, q4, q6⟩ <;> omega
   ·by_cases e1 : i = d
    ·subst e1; rw [god] at h; exact hs.own rid b h
    ·by_cases e2 : i = rid
     ·subst e2; rw [gor hrd] at h; cases h
     ·rw [goo i e1 e2] at h; exact hs.own i b h
   ·rw [goo i (by omega) (by omega)]; exact hs.owf i h1 h2
  refine ⟨g', ⟨(d, .vec d sz ty r) :: sl', ob'⟩, ?_, hK⟩
  have hp := hs0.put (d := o.dst) (fun t ht => by rw [hd] at ht; cases ht; exact Nat.blt_eq ▸ hn) (x := .vec d sz ty r) (v := v) (vecmove (by rw [god, hrid]) hrow)
  rw [hd] at hp ⊢
  exact hp
theorem Ao {t kt et : TypeId} {x y v : Operand} {i j : TI} {tok sz ty e : Nat} {kvs kvs' : List (Bytes × List PV)} {k : Bytes} {r : List PV} {sl' : List (Nat × AV)} {ob' : List (Nat × List AV)} (ho : o.op = .mapUpdate t x y v) (hd : o.dst = none)
  (hi : look C.tt t = some i) (hik : i.k = .map kt et) (hj : look C.tt kt = some j) (hjk : j.k = .string)
  (hx : evo sl x = some (.mpr tok sz ty (some k) kvs)) (hy : evo sl y = some (.p (.val (.string ⟨k.toArray⟩)))) (hv : evo sl v = some (.vec e sz ty r)) (htok : Nat.blt tok M1 = true) (hel : Nat.blt e M1 = true) (het : Nat.beq e tok = false)
  (hk : gU kvs k r = kvs') (h1 : tkS tok e (.mpr tok sz ty none kvs') sl = some sl') (h2 : tkO e tok ob = some ob') (hK : K ⟨sl', ob'⟩) : aU C o K ⟨sl, ob⟩ := by
 obtain ⟨u, hu1, hu2⟩ := a6 C.good hi
 obtain rfl := lj (hu2.trans hik)
 obtain ⟨u2, hu3, hu4⟩ := a6 C.good hj
 obtain rfl := eA (hu4.trans hjk)
 have htl : tok < M1 := Nat.blt_eq ▸ htok
 have hdl : e < M1 := Nat.blt_eq ▸ hel
 have hM : M1 ≤ MZ := by decide
 have hne : e ≠ tok := fun h => by subst h; simp at het
 intro g a w hs
 have hm := bq hs hx
 have hkv := bL hs hy
 have hrep := bq hs hv
 generalize hvx : a.eval x = vx at hm
 generalize hvv : a.eval v = vv at hrep
 cases hm with
 | mpr how hb hN hD hkeys hvals =>
  rename_i b ck es
  obtain ⟨hks, hc⟩ := qb hN hkeys k
  have hbl : b < w.heap.size := (hs.own tok b how).1
  obtain ⟨jj, es', ck', hrun, hN', hkeys', hrows⟩ : ∃ (jj : Nat) (es' : Array MapEntry) (ck' : Nat), (execOp a.eval o).run C.P w = .ok .skip { w with heap := w.heap.setIfInBounds b (.map es' ck') } ∧ es'.size = kvs'.length ∧
    (∀ (i : Nat) e kv, es'[i]? = some e → kvs'[i]? = some kv → e.key = .string ⟨kv.1.toArray⟩) ∧
    (∀ (i : Nat) e kv, es'[i]? = some e → kvs'[i]? = some kv → (i = jj ∧ kv.2 = r ∧ e.val = vv) ∨ (i ≠ jj ∧ kv.1 ≠ k ∧ es[i]? = some e ∧ kvs[i]? = some kv)) := by
   rcases hc with ⟨f1, f2, f3⟩ | ⟨jj, e0, v', f1, f2, f3, f4⟩
   ·refine ⟨kvs.length, es.push { key := .string ⟨k.toArray⟩, val := vv, born := ck }, ck + 1, ?_, ?_, ?_, ?_⟩
    ·simp [execOp, ho, hvx, hkv, hvv, Instr.mapUpdate, run_underlying hu1, Go.MapKept.run_getObj_map hb, run_checkKey (d := .string) hu3 (k := .string ⟨k.toArray⟩) trivial, run_findKey hu3 f1, run_setObj_map _ hb, Result.andThen]
    ·rw [← hk, jI f3]; simp [hN]
    ·intro i e kv h3 h4
     rw [← hk, jI f3] at h4
     rw [Array.getElem?_push] at h3
     split at h3
     ·rename_i hi2
      cases h3
      rw [hi2, List.getElem?_append_right (by omega), hN] at h4
      simp at h4
      rw [← h4]
     ·have hil : i < es.size := (Array.getElem?_eq_some_iff.1 h3).1
      rw [List.getElem?_append_left (by omega)] at h4
      exact hkeys i e kv h3 h4
    ·intro i e kv h3 h4
     rw [← hk, jI f3] at h4
     rw [Array.getElem?_push] at h3
     split at h3
     ·rename_i hi2
      cases h3
      rw [hi2, List.getElem?_append_right (by omega), hN] at h4
      simp at h4
      exact .inl ⟨by omega, by rw [← h4], rfl⟩
     ·have hil : i < es.size := (Array.getElem?_eq_some_iff.1 h3).1
      rw [List.getElem?_append_left (by omega)] at h4
      exact .inr ⟨by omega, f3 kv (List.mem_of_getElem? h4), h3, h4⟩
   ·have hjl : jj < es.size := (Array.getElem?_eq_some_iff.1 f2).1
    refine ⟨jj, es.modify jj fun e => { e with key := .string ⟨k.toArray⟩, val := vv }, ck, ?_, ?_, ?_, ?_⟩
    ·have hkey := run_keyThatStays (P := C.P) (w := w) (d := .string) (k := .string ⟨k.toArray⟩) trivial
     simp [execOp, ho, hvx, hkv, hvv, Instr.mapUpdate, run_underlying hu1, Go.MapKept.run_getObj_map hb, run_checkKey (d := .string) hu3 (k := .string ⟨k.toArray⟩) trivial, run_findKey hu3 f1, f2, f3, hkey, run_setObj_map _ hb, Result.andThen]
    ·rw [← hk, kI hD f4]; simp [hN]
    ·intro i e2 kv h3 h4
     rw [← hk, kI hD f4] at h4
     rw [Array.getElem?_modify] at h3
     rw [List.getElem?_set] at h4
     split at h3
     ·rename_i hji
      subst hji
      rw [f2] at h3
      cases h3
      rw [if_pos rfl, if_pos (by omega)] at h4
      cases h4
      rfl
     ·rename_i hji
      rw [if_neg hji] at h4
      exact hkeys i e2 kv h3 h4
    ·intro i e2 kv h3 h4
     rw [← hk, kI hD f4] at h4
     rw [Array.getElem?_modify] at h3
     rw [List.getElem?_set] at h4
     split at h3
     ·rename_i hji
      subst hji
      rw [f2] at h3
      cases h3
      rw [if_pos rfl, if_pos (by omega)] at h4
      cases h4
      exact .inl ⟨rfl, rfl, rfl⟩
     ·rename_i hji
      rw [if_neg hji] at h4
      refine .inr ⟨fun h => hji h.symm, fun h => ?_, h3, h4⟩
      -- one key, one place
      have e1 : (kvs.map Prod.fst)[i]? = some k := by rw [List.getElem?_map, h4]; exact congrArg some h
      have e2 : (kvs.map Prod.fst)[jj]? = some k := by rw [List.getElem?_map, f4]; rfl
      have hil : i < (kvs.map Prod.fst).length := (List.getElem?_eq_some_iff.1 e1).1
      exact hji ((List.getElem?_inj hil hD).1 (e1.trans e2.symm)).symm
  unfold Oper.wp
  rw [hrun]
  simp only [Oper.upon, hd, Act.put]
  obtain ⟨w', hw'⟩ : ∃ w' : World, w' = { w with heap := w.heap.setIfInBounds b (.map es' ck') } := ⟨_, rfl⟩
  rw [← hw']
  have hat : w'.heap[b]? = some (.map es' ck') := by rw [hw']; exact (heap_set hb).1
  have hother : ∀ b2, b2 ≠ b → w'.heap[b2]? = w.heap[b2]? := fun b2 h => by rw [hw']; exact (heap_set hb).2 b2 h
  have hsz : w'.heap.size = w.heap.size := by rw [hw']; simp
  obtain ⟨rid, hrid⟩ : ∃ rid, rid = tok + MZ * (jj + 1) := ⟨_, rfl⟩
  have hridZ : MZ ≤ rid := by rw [hrid, Nat.mul_add, Nat.mul_one]; omega
  obtain ⟨g', hg'⟩ : ∃ g' : Gh, g' = ⟨g.st, fun i => if i = rid then g.ow e else if i = e then none else g.ow i⟩ := ⟨_, rfl⟩
  have gst : g'.st = g.st := by rw [hg']
  have gor : g'.ow rid = g.ow e := by rw [hg']; simp
  have goo : ∀ i, i ≠ e → i ≠ rid → g'.ow i = g.ow i := fun i h1 h2 => by rw [hg']; simp only [if_neg h1, if_neg h2]
  have hre : rid ≠ e := by omega
  have goe : g'.ow e = none := by rw [hg']; simp only [if_neg (fun h : e = rid => hre h.symm), if_true]
  have hev : Ev w g.st w' g'.st := by
   rw [gst]
   intro b2 o2 h
   refine ⟨h, ?_⟩
   by_cases e1 : b2 = b
   ·subst e1; simp [World.cell?, hat, hb]
   ·simp only [World.cell?, hother b2 e1]
  have hcell : ∀ {b2 : Nat} {c : Array Value} {t : TypeId} {f : Nat × Nat}, w.heap[b2]? = some (.cells c t f) → w'.heap[b2]? = some (.cells c t f) := fun {b2 c t f} h => by
   rw [hother b2 (fun e1 => by subst e1; rw [hb] at h; cases h)]; exact h
  have hbig : ∀ id, l5 e tok id = false → id ≠ e ∧ id ≠ tok ∧ id < MZ := fun id h => by
   unfold l5 at h
   simp only [Bool.or_eq_false_iff] at h
   refine ⟨fun e1 => by subst e1; simp at h, fun e1 => by subst e1; simp at h, Nat.lt_of_not_le fun hle => ?_⟩
   rw [Nat.ble_eq_true_of_le hle] at h; exact absurd h.2 (by decide)
  have hdm : ∀ {z : AV} {u : Value}, ARep w g z u → ARep w' g' (z.dm2 (l5 e tok)) u := fun h => ARep.dm2 hev
   (fun id b hq h => by obtain ⟨q1, _, q2⟩ := hbig id hq; rw [goo id q1 (by omega)]; exact h) (fun id b c e _ _ h => ⟨c, hcell h, rfl⟩) (fun id b o _ _ h => by rwa [gst] at h)
   (fun id b2 es2 k2 hq h0 h => by
    obtain ⟨_, q3, _⟩ := hbig id hq
    rw [hother b2 (fun e1 => by subst e1; exact q3 (hs.inj id tok b2 h0 how))]; exact h)
   (fun id b2 o hq h0 _ => by obtain ⟨_, q3, _⟩ := hbig id hq; exact hother b2 (fun e1 => by subst e1; exact q3 (hs.inj id tok b2 h0 how))) h
  have vecmove : ∀ {q q' : Nat} {es : List PV} {u : Value}, g'.ow q' = g.ow q → ARep w g (.vec q sz ty es) u → ARep w' g' (.vec q' sz ty es) u := by
   intro q q' es u hq h
   cases h with
   | vecn => exact .vecn _ _ _
   | vece => exact .vece _ _ _
   | vec h1 h2 h3 h4 h5 h6 h7 => exact .vec (hq.trans h1) (hcell h2) h3 h4 (by rw [gst]; exact h5) (h6.mono hev) h7
  have hnew : ARep w' g' (.mpr tok sz ty none kvs') (.map (some b)) := by
   refine .mpr (b := b) (k := ck') (es := es') (by rw [goo tok (fun h => hne h.symm) (by omega)]; exact how) hat hN' (by rw [← hk]; exact rz hD) hkeys' fun i e2 kv h3 h4 => ?_
   unfold lq
   rw [if_neg (by simp)]
   rcases hrows i e2 kv h3 h4 with ⟨rfl, h5, h6⟩ | ⟨h5, h6, h7, h8⟩
   ·rw [h5, h6, ← hrid]
    exact vecmove gor hrep
   ·have hr := hvals i e2 kv h7 h8
    unfold lq at hr
    rw [if_neg (fun q => h6 (Option.some.inj q).symm)] at hr
    refine vecmove (goo _ (yd (by omega)) ?_) hr
    rw [hrid]
    intro e2
    have : MZ * (i + 1) = MZ * (jj + 1) := by omega
    have := Nat.eq_of_mul_eq_mul_left (by decide : 0 < MZ) this
    omega
  refine ⟨g', ⟨sl', ob'⟩, ?_, hK⟩
  refine ⟨hs.nd, hs.sz, fun q => ?_, fun id cs hcs => ?_, fun i j b h1 h2 => ?_, fun i b2 h => ?_, fun b2 o2 h => by rw [gst] at h; rw [hsz]; exact hs.lt b2 o2 h, hs.fl, fun b2 h => ?_, by rw [hw']; exact hs.os, by rw [hw']; exact hs.out, by rw [hw']; exact hs.tape, by rw [hsz]; exact hs.size, by rw [gst]; exact hs.stf, fun i h1 h2 => ?_, hs.shf.next (fun i b2 c t _ _ h => ⟨c, hcell h, rfl⟩), by rw [gst]; exact hs.nst, hs.ev0.trans hev⟩
  ·rw [vK h1]
   have hq := hs.sl q
   simp only [AS.get, gf] at hq ⊢
   cases hl : look sl q with
   | none => simp only [Option.map_none, Option.getD_none]; exact .undef _
   | some z =>
    rw [hl] at hq
    simp only [Option.map_some, Option.getD_some] at hq ⊢
    unfold tkA
    split
    ·rename_i t s y q' l
     cases hbt : Nat.beq t tok
     ·simp only [cond_false]; exact .undef _
     ·simp only [cond_true]
      have := Nat.eq_of_beq_eq_true hbt
      subst this
      generalize a.tmps.getD q Go.undef = vq at hq
      cases hq with
      | mpr how2 hb2 hN2 hD2 hk2 hv2 => rw [how] at how2; cases how2; exact hnew
    ·exact hdm hq
  ·obtain ⟨hq, ds, hds, rfl⟩ := oL h2 id cs hcs
   obtain ⟨q1, _, q2⟩ := hbig id hq
   obtain ⟨b2, c2, e2, m1, m2, m3, m4, m5⟩ := hs.ob id ds hds
   refine ⟨b2, c2, e2, by rw [goo id q1 (by omega)]; exact m1, hcell m2, by rw [kD, List.length_map]; exact m3, by rw [gst]; exact m4, fun i x hx => ?_⟩
   rw [kD, List.getElem?_map] at hx
   obtain ⟨z, hz, rfl⟩ := Option.map_eq_some_iff.1 hx
   obtain ⟨u, hu, hr⟩ := m5 i z hz
   exact ⟨u, hu, hdm hr⟩
  ·have key : ∀ i, g'.ow i = some b → ∃ i', g.ow i' = some b ∧ ((i = rid ∧ i' = e) ∨ (i ≠ e ∧ i ≠ rid ∧ i' = i)) := by
    intro i hi
    by_cases e1 : i = rid
    ·subst e1; rw [gor] at hi; exact ⟨e, hi, .inl ⟨rfl, rfl⟩⟩
    ·by_cases e2 : i = e
     ·subst e2; rw [goe] at hi; cases hi
     ·rw [goo i e2 e1] at hi; exact ⟨i, hi, .inr ⟨e2, e1, rfl⟩⟩
   obtain ⟨i', hi', q1⟩ := key i h1
   obtain ⟨j', hj', q2⟩ := key j h2
   have := hs.inj i' j' b hi' hj'
   rcases q1 with ⟨q1, q3⟩ | ⟨q1, q3, q5⟩ <;> rcases q2 with ⟨q2, q4⟩ | ⟨q2, q4, q6⟩ <;> omega
  ·rw [hsz]
   by_cases e1 : i = rid
   ·subst e1; rw [gor] at h; exact hs.own e b2 h
   ·by_cases e2 : i = e
    ·subst e2; rw [goe] at h; cases h
    ·rw [goo i e2 e1] at h; exact hs.own i b2 h
  ·have hne2 : b2 ≠ b := fun e1 => (hs.own tok b how).2 (e1 ▸ h)
   rw [hother b2 hne2]; exact hs.fr b2 h
  ·rw [goo i (by omega) (by omega)]; exact hs.owf i h1 h2
end
end Go.Ab
end
section
set_option linter.unusedVariables false
set_option linter.unusedSimpArgs false
set_option linter.unnecessarySimpa false
namespace Go.Ab
section
variable {C : Cx} {o : Oper} {K : AS → Prop} {sl : List (Nat × AV)} {ob : List (Nat × List AV)} {d : Nat}
theorem tD {es ys : List PV} {t tx e e' : TypeId} {i ie j : TI} {y : Operand} {Y : AV} {k : Nat} (D : Nat → Bool) (hDl : ∀ i, D i = true → i < M1) (hDk : D k = true)
  (hi : look C.tt t = some i) (hik : i.k = .slice e) (hie : look C.tt e = some ie) (hj : look C.tt tx = some j) (hjk : j.k = .slice e')
  (hy : evo sl y = some Y) (hY : Y.elems? = some ys) (hsz : ∀ y ∈ es ++ ys, y.cells = [y] ∧ y.one = true) (h1s : ie.size = 1) (hzl : ie.zero.length = ie.size)
  (hlen : (es.length + ys.length) * ie.bytes ≤ 140737488355328) (hlen' : es.length + ys.length ≤ 9223372036854775807)
  {g : Gh} {a : Act} {w : World} (hs : St C.n C.w0 C.F g ⟨sl, ob⟩ a w) (base : Option Addr) (cap : Nat) (olds : List Value)
  (hold : (Builtin.firstCells ie.size es.length (.slice base es.length cap)).run C.P w.drew = .ok olds.toArray w.drew) (hol : olds.length = es.length)
  (hoc : ∀ (i : Nat) x, es[i]? = some x → ∃ u, olds[i]? = some u ∧ PRep w g.st x u)
  (hg : cap < es.length + ys.length) (ty : TypeId) (hn : Nat.blt d C.n = true) :
  ∃ v w' g', (Builtin.append_ #[t, tx] ty #[.slice base es.length cap, a.eval y]).run C.P w = .ok v w' ∧
   St C.n C.w0 C.F g' ⟨(d, .stk k 1 (es ++ ys)) :: (cv D ⟨sl, ob⟩).sl, (cv D ⟨sl, ob⟩).ob⟩ (a.put (some d) v) w' := by
 obtain ⟨u, h1, h2⟩ := a6 C.good hi
 have h3 := bb (h2.trans hik)
 subst h3
 obtain ⟨u', h1', h2'⟩ := a6 C.good hj
 have h3' := bb (h2'.trans hjk)
 subst h3'
 obtain ⟨info, hf1, hf2, hf3, z, hf4, hf5⟩ := eT C.good hie
 have hyv := eJ hY (bq hs hy)
 have hszy : ∀ y ∈ ys, y.cells = [y] := fun y hy => (hsz y (List.mem_append_right _ hy)).1
 obtain ⟨news, hsrc, hnews⟩ := mV (P := C.P) (sz := ie.size) h1' hyv (fun y hy => by rw [hszy y hy, h1s]; rfl) (by omega)
 have hfit := growslice_fits (bytes := ie.bytes) hg hlen
 have hrun := run_append_grow_src w t tx ty e info z h1 hf1 hf4 base es.length cap olds (by rw [hf2]; exact hold) (a.eval y) ys.length news (by rw [hf2]; exact hsrc) hg (by omega) (by rw [hf3]; exact hfit)
 obtain ⟨q, hq⟩ : ∃ q, q = grownCap w (es.length + ys.length) cap e := ⟨_, rfl⟩
 rw [← hq] at hrun
 have hqn : es.length + ys.length ≤ q := by
  rw [hq]; unfold grownCap; simp only [Question.cut]; omega
 have hzs : z.cells.size = 1 := by rw [← h1s, ← hzl, ← hf5, Array.length_toList]
 have hnl : news.length = ys.length := by rw [hsrc.newsLen, h1s, Nat.mul_one]
 obtain ⟨c, hc⟩ : ∃ c, c = (olds ++ news).toArray ++ Builtin.zeroCells z.cells (q - (es.length + ys.length)) := ⟨_, rfl⟩
 rw [← hc] at hrun
 have hcs : c.size = q := by
  rw [hc]
  simp only [Array.size_append, List.size_toArray, List.length_append, hol, hnl, size_zeroCells, hzs]
  omega
 have hf := hs.drew.fresh D hDl k hDk (fun o => o = q * 1) c e
 have hev := iX (w := w.drew) (T := fun o => o = q * 1) (ob := .cells c e) hs.drew.lt
 have hlenA : (es ++ ys).length = es.length + ys.length := List.length_append
 have hrep : ARep (w.drew.alloc (.cells c e)) ⟨fun b o => g.st b o ∨ (b = w.drew.heap.size ∧ o = q * 1), fun i => if i = k then some w.drew.heap.size else if D i then none else g.ow i⟩ (.stk k 1 (es ++ ys)) (.slice (some ⟨w.drew.heap.size, 0, none⟩) (es ++ ys).length q) := by
  refine .stk (by simp) cN (by omega) (by omega) (fun x hx => by rw [(hsz x hx).1]; rfl) (fun x hx c hc => by rw [(hsz x hx).1] at hc; obtain rfl := List.mem_singleton.1 hc; exact (hsz c hx).2) (fun o => ?_) (fun i x j p hx hp => ?_)
  ·constructor
   ·rintro (h | ⟨_, h⟩)
    ·exact absurd (hs.lt _ _ h) (Nat.lt_irrefl _)
    ·exact h
   ·intro h; exact .inr ⟨rfl, h⟩
  ·rw [(hsz x (List.mem_of_getElem? hx)).1] at hp
   have hj : j = 0 := by
    have := (List.getElem?_eq_some_iff.1 hp).1
    simpa using this
   subst hj
   simp only [List.getElem?_cons_zero, Option.some.injEq] at hp
   subst hp
   have hil : i < (es ++ ys).length := (List.getElem?_eq_some_iff.1 hx).1
   have hget : c[i]? = if i < es.length then olds[i]? else news[i - es.length]? := by
    rw [hc, Array.getElem?_append]
    simp only [List.size_toArray, List.length_append, hol, hnl]
    rw [if_pos (by omega), List.getElem?_toArray, List.getElem?_append, hol]
   rw [Nat.mul_one, Nat.add_zero]
   rw [List.getElem?_append] at hx
   split at hx
   ·rename_i hlt
    obtain ⟨u, hu, hr⟩ := hoc i x hx
    exact ⟨u, by rw [hget, if_pos hlt]; exact hu, (PRep.mono (w := w) (w' := w.drew) (st := g.st) (st' := g.st) (fun b o h => ⟨h, rfl⟩) hr).mono hev⟩
   ·rename_i hge
    obtain ⟨k1, u, hu, hr⟩ := hnews (i - es.length) x 0 x hx (by rw [hszy x (List.mem_of_getElem? hx)]; rfl)
    rw [h1s, Nat.mul_one, Nat.add_zero] at hu
    exact ⟨u, by rw [hget, if_neg hge]; exact hu, (PRep.mono (w := w) (w' := w.drew) (st := g.st) (st' := g.st) (fun b o h => ⟨h, rfl⟩) hr).mono hev⟩
 rw [hlenA] at hrep
 have hp := hf.put (d := some d) (fun t ht => by cases ht; exact Nat.blt_eq ▸ hn) hrep
 exact ⟨_, _, _, hrun, hp⟩
theorem uM {t tx e e' : TypeId} {x y : Operand} {k : Nat} {es : List PV} {Y : AV} {ys : List PV} {i ie j : TI} (ho : o.op = .call { callee := .builtin .append, args := #[x, y], argTypes := #[t, tx] }) (hd : o.dst = some d) (hn : Nat.blt d C.n = true)
  (hi : look C.tt t = some i) (hik : i.k = .slice e) (hie : look C.tt e = some ie) (hj : look C.tt tx = some j) (hjk : j.k = .slice e') (hx : evo sl x = some (.stk k 1 es)) (hk : Nat.blt k M1 = true)
  (hy : evo sl y = some Y) (hY : Y.elems? = some ys) (hsz : ∀ y ∈ es ++ ys, y.cells = [y] ∧ y.one = true) (hys : 0 < ys.length) (h1s : ie.size = 1) (hzl : Nat.beq ie.zero.length ie.size = true)
  (hlen : (es.length + ys.length) * ie.bytes ≤ 140737488355328) (hlen' : es.length + ys.length ≤ 9223372036854775807)
  (hK : K ⟨(d, .stk k 1 (es ++ ys)) :: (cv (fun i => Nat.beq i k) ⟨sl, ob⟩).sl, (cv (fun i => Nat.beq i k) ⟨sl, ob⟩).ob⟩) : aU C o K ⟨sl, ob⟩ := by
 have hzl' := Nat.eq_of_beq_eq_true hzl
 have hk' : k < M1 := Nat.blt_eq ▸ hk
 have hDl : ∀ i, (Nat.beq i k) = true → i < M1 := by
  intro i hi
  have := Nat.eq_of_beq_eq_true hi; omega
 intro g a w hs
 have hxr := bq hs hx
 generalize hxv : a.eval x = xv at hxr
 have hrun0 : ∀ v w', (Builtin.append_ #[t, tx] o.type #[xv, a.eval y]).run C.P w = .ok v w' → (execOp a.eval o).run C.P w = .ok (.value v) w' := by
  intro v w' h
  rw [dy ho]
  simp [builtin, hxv, h]
 cases hxr with
 | stkn =>
  obtain ⟨v, w', g', hr', hst'⟩ := tD (es := []) (k := k) (fun i => Nat.beq i k) hDl (by simp) hi hik hie hj hjk hy hY hsz h1s hzl' hlen hlen' hs none 0 [] (run_firstCells_none w.drew ie.size 0 0 0) rfl (fun i x hx => by simp at hx) (by simpa using hys) o.type hn
  unfold Oper.wp
  rw [hrun0 _ _ hr']
  simp only [Oper.upon, hd]
  exact ⟨g', _, hst', hK⟩
 | stke =>
  rename_i a0
  obtain ⟨v, w', g', hr', hst'⟩ := tD (es := []) (k := k) (fun i => Nat.beq i k) hDl (by simp) hi hik hie hj hjk hy hY hsz h1s hzl' hlen hlen' hs (some a0) 0 [] (run_firstCells_some w.drew ie.size 0 a0 0 0 [] (by simp) (by simp)) rfl (fun i x hx => by simp at hx) (by simpa using hys) o.type hn
  unfold Oper.wp
  rw [hrun0 _ _ hr']
  simp only [Oper.upon, hd]
  exact ⟨g', _, hst', hK⟩
 | stk how hb hcs hlenc hszc hone hst hr =>
  rename_i b cap c e0
  rw [Nat.mul_one] at hcs
  have hcell : ∀ (i : Nat) x, es[i]? = some x → ∃ u, c[i]? = some u ∧ PRep w g.st x u := by
   intro i x hx
   obtain ⟨v, h1, h2⟩ := hr i x 0 x hx (by rw [(hsz x (List.mem_append_left _ (List.mem_of_getElem? hx))).1]; rfl)
   exact ⟨v, by rw [Nat.mul_one, Nat.add_zero] at h1; exact h1, h2⟩
  by_cases hroom : es.length + ys.length ≤ cap
  ·obtain ⟨u, h1, h2⟩ := a6 C.good hi
   have h3 := bb (h2.trans hik)
   subst h3
   obtain ⟨u', h1', h2'⟩ := a6 C.good hj
   have h3' := bb (h2'.trans hjk)
   subst h3'
   obtain ⟨info, hf1, hf2, hf3, z, hf4, hf5⟩ := eT C.good hie
   have hyv := eJ hY (bq hs hy)
   have hszy : ∀ y ∈ ys, y.cells = [y] := fun y hy => (hsz y (List.mem_append_right _ hy)).1
   obtain ⟨news, hsrc, hnews⟩ := mV (P := C.P) (sz := ie.size) h1' hyv (fun y hy => by rw [hszy y hy, h1s]; rfl) (by omega)
   have hnl : news.length = ys.length := by rw [hsrc.newsLen, h1s, Nat.mul_one]
   have hstc := run_storeCells_at C.P b (es.length * ie.size) e0 news 0 c w hb (by rw [h1s]; simp; omega) hsrc.one
   simp only [Nat.add_zero] at hstc
   rw [h1s, Nat.mul_one] at hstc
   obtain ⟨c', hc'⟩ : ∃ c', c' = (c.toList.take es.length ++ news ++ c.toList.drop (es.length + news.length)).toArray := ⟨_, rfl⟩
   rw [← hc'] at hstc
   have hrr := jg t tx o.type e info h1 hf1 b es.length cap (a.eval y) ys.length news (by rw [hf2]; exact hsrc) hroom (by rw [hf2, h1s, Nat.mul_one]; exact hstc)
   have hcell' : ∀ j, c'[j]? = if es.length ≤ j ∧ j < es.length + news.length then news[j - es.length]? else c[j]? := by
    intro j
    rw [hc']
    have := iB c.toList news es.length (by simp; omega) j
    simpa using this
   have hcs' : c'.size = cap := by rw [← hcs, hc']; simp; omega
   have hin := hs.inplace (fun i => Nat.beq i k) hDl (k := k) (d := k) how (by simp) (by simp) hb (c' := c') (hcs'.trans hcs.symm) (fun o h => by
    have := (hst o).1 h
    rw [Array.getElem?_eq_none (by omega), Array.getElem?_eq_none (by omega)]) (fun o => o = cap * 1) (fun o h => (hst o).1 h)
   have hEv : Ev w g.st (w.setRow b c') (fun b' o => (b' = b ∧ o = cap * 1) ∨ (b' ≠ b ∧ g.st b' o)) := by
    intro b' o h
    by_cases e1 : b' = b
    ·subst e1
     have ho := (hst o).1 h
     refine ⟨.inl ⟨rfl, ho⟩, ?_⟩
     simp only [World.cell?, setRow_heap w b' c c' e0 (0, 0) hb, hb]
     rw [Array.getElem?_eq_none (by omega), Array.getElem?_eq_none (by omega)]
    ·exact ⟨.inr ⟨e1, h⟩, by simp only [World.cell?, setRow_other w b b' c' e1]⟩
   have hlenA : (es ++ ys).length = es.length + ys.length := List.length_append
   have hrep : ARep (w.setRow b c') ⟨fun b' o => (b' = b ∧ o = cap * 1) ∨ (b' ≠ b ∧ g.st b' o), fun i => if i = k then some b else if (Nat.beq i k) then none else g.ow i⟩ (.stk k 1 (es ++ ys)) (.slice (some ⟨b, 0, none⟩) (es ++ ys).length cap) := by
    refine .stk (by simp) (setRow_heap w b c c' e0 (0, 0) hb) (by omega) (by omega) (fun x hx => by rw [(hsz x hx).1]; rfl) (fun x hx c hc => by rw [(hsz x hx).1] at hc; obtain rfl := List.mem_singleton.1 hc; exact (hsz c hx).2) (fun o => ?_) (fun i x j p hx hp => ?_)
    ·constructor
     ·rintro (⟨_, h⟩ | ⟨h, _⟩)
      ·exact h
      ·exact absurd rfl h
     ·intro h; exact .inl ⟨rfl, h⟩
    ·rw [(hsz x (List.mem_of_getElem? hx)).1] at hp
     have hj : j = 0 := by
      have := (List.getElem?_eq_some_iff.1 hp).1
      simpa using this
     subst hj
     simp only [List.getElem?_cons_zero, Option.some.injEq] at hp
     subst hp
     rw [Nat.mul_one, Nat.add_zero]
     rw [List.getElem?_append] at hx
     split at hx
     ·rename_i hlt
      obtain ⟨u, hu, hr⟩ := hcell i x hx
      exact ⟨u, by rw [hcell', if_neg (by omega)]; exact hu, hr.mono hEv⟩
     ·rename_i hge
      have hi2 : i - es.length < ys.length := (List.getElem?_eq_some_iff.1 hx).1
      obtain ⟨_, u, hu, hr⟩ := hnews (i - es.length) x 0 x hx (by rw [hszy x (List.mem_of_getElem? hx)]; rfl)
      rw [h1s, Nat.mul_one, Nat.add_zero] at hu
      exact ⟨u, by rw [hcell', if_pos (by omega)]; exact hu, hr.mono hEv⟩
   rw [hlenA] at hrep
   have hp := hin.put (d := some d) (fun t ht => by cases ht; exact Nat.blt_eq ▸ hn) hrep
   unfold Oper.wp
   rw [hrun0 _ _ hrr]
   simp only [Oper.upon, hd]
   exact ⟨_, _, hp, hK⟩
  ·have hlenT : (c.toList.take es.length).length = es.length := by
    rw [List.length_take, show c.toList.length = cap from Array.length_toList.trans hcs]; omega
   have hold : (Builtin.firstCells ie.size es.length (.slice (some ⟨b, 0, none⟩) es.length cap)).run C.P w.drew = .ok (c.toList.take es.length).toArray w.drew := by
    refine run_firstCells_some w.drew ie.size es.length ⟨b, 0, none⟩ es.length cap _ (by rw [hlenT, h1s, Nat.mul_one]) (fun j v hv => ?_)
    rw [List.getElem?_take] at hv
    split at hv
    ·rw [add_lit, Nat.zero_add, World.cell?_drew]
     simp only [World.cell?, hb]
     simpa using hv
    ·cases hv
   obtain ⟨v, w', g', hr', hst'⟩ := tD (es := es) (k := k) (fun i => Nat.beq i k) hDl (by simp) hi hik hie hj hjk hy hY hsz h1s hzl' hlen hlen' hs (some ⟨b, 0, none⟩) cap (c.toList.take es.length)
    hold hlenT (fun i x hx => by
     obtain ⟨u, hu, hr⟩ := hcell i x hx
     exact ⟨u, by rw [List.getElem?_take, if_pos (List.getElem?_eq_some_iff.1 hx).1]; simpa using hu, hr⟩) (by omega) o.type hn
   unfold Oper.wp
   rw [hrun0 _ _ hr']
   simp only [Oper.upon, hd]
   exact ⟨g', _, hst', hK⟩
theorem yj {t e : TypeId} {x : Operand} {i : TI} {k sz : Nat} {es : List PV} (ho : o.op = .call { callee := .builtin .len, args := #[x], argTypes := #[t] }) (hd : o.dst = some d) (hn : Nat.blt d C.n = true)
  (hi : look C.tt t = some i) (hik : i.k = .slice e) (hx : evo sl x = some (.stk k sz es))
  (hK : K ⟨(d, .p (.val (.int .i64 (es.length : Int)))) :: sl, ob⟩) : aU C o K ⟨sl, ob⟩ := by
 obtain ⟨u, h1, h2⟩ := a6 C.good hi
 have h3 := bb (h2.trans hik)
 subst h3
 refine ok_one hd hn (fun g a w hs => ?_) hK
 have h5 := bq hs hx
 generalize hv : a.eval x = v at h5
 cases h5 with
 | stkn => exact ⟨.int .i64 0, by rw [dy ho]; simp [builtin, hv, Builtin.len_, run_underlying h1, goInt], .p (.val _)⟩
 | stke => exact ⟨.int .i64 0, by rw [dy ho]; simp [builtin, hv, Builtin.len_, run_underlying h1, goInt], .p (.val _)⟩
 | stk how hb hcs hlenc hszc hone hst hr => exact ⟨.int .i64 (es.length : Int), by rw [dy ho]; simp [builtin, hv, Builtin.len_, run_underlying h1, goInt], .p (.val _)⟩
theorem rp {t e : TypeId} {x y : Operand} {i ie : TI} {k : IntKind} {n : Int} {id : Nat} {es : List PV} (ho : o.op = .indexAddr t x y) (hd : o.dst = some d) (hn : Nat.blt d C.n = true)
  (hi : look C.tt t = some i) (hik : i.k = .slice e) (hie : look C.tt e = some ie) (hx : evo sl x = some (.stk id 1 es))
  (hy : evo sl y = some (.p (.val (.int k n)))) (hsz : ie.size = 1) (hb : 0 ≤ n ∧ n < (es.length : Int))
  (hK : K ⟨(d, .ptr id n.toNat) :: sl, ob⟩) : aU C o K ⟨sl, ob⟩ := by
 obtain ⟨u, h1, h2⟩ := a6 C.good hi
 have h3 := bb (h2.trans hik)
 subst h3
 refine ok_one hd hn (fun g a w hs => ?_) hK
 have h5 := bq hs hx
 generalize hv : a.eval x = v at h5
 cases h5 with
 | stkn => simp at hb; omega
 | stke => simp at hb; omega
 | stk how hb' hcs hlenc hszc hone hst hr =>
  rename_i b cap c e'
  exact ⟨.pointer (some ⟨b, n.toNat, none⟩), by simp [execOp, ho, hv, bL hs hy, Instr.indexAt, asIntOf, run_underlying h1, hb.1, hb.2, run_sizeOf C.good hie, hsz, add_lit], .ptr how⟩
theorem xA {t : TypeId} {x : Operand} {i : TI} {id n q : Nat} {es : List PV} {y : PV} (ho : o.op = .load t x) (hd : o.dst = some d) (hn : Nat.blt d C.n = true)
  (hi : look C.tt t = some i) (hia : i.k.isAgg = false) (hx : evo sl x = some (.ptr id n)) (hq : look sl q = some (.stk id 1 es)) (hy : es[n]? = some y) (hyc : y.cells = [y])
  (hK : K ⟨(d, .p y) :: sl, ob⟩) : aU C o K ⟨sl, ob⟩ := by
 refine ok_one hd hn (fun g a w hs => ?_) hK
 have h5 := bq hs hx
 generalize hv : a.eval x = v at h5
 cases h5 with
 | ptr how =>
  rename_i b
  have h6 := hs.sl q
  simp only [AS.get, hq, Option.getD_some] at h6
  generalize a.tmps.getD q Go.undef = vq at h6
  cases h6 with
  | stkn => simp at hy
  | stke => simp at hy
  | stk how2 hb hcs hlen hsz hone hst hr =>
   rw [how] at how2; cases how2
   obtain ⟨u, hu, hr2⟩ := hr n y 0 y hy (by rw [hyc]; rfl)
   rw [Nat.mul_one, Nat.add_zero] at hu
   have hc := (jt hs hb n).trans hu
   exact ⟨u, by simp [execOp, ho, hv, Instr.loadAt, Instr.sureAddr, jH C.good hi hia hc], .p hr2⟩
theorem vW {t e : TypeId} {x : Operand} {hi : Option Operand} {id : Nat} {es : List PV} {h : Int} {i ie : TI} (ho : o.op = .slice t x none hi none) (hd : o.dst = some d) (hn : Nat.blt d C.n = true)
  (hi' : look C.tt t = some i) (hik : i.k = .slice e) (hie : look C.tt e = some ie) (hx : evo sl x = some (.stk id 1 es)) (hhi : hiI sl (es.length : Int) hi = some h)
  (hb : 0 ≤ h ∧ h ≤ es.length) (hsz1 : ie.size = 1) (hK : K ⟨(d, .stk id 1 (es.take h.toNat)) :: sl, ob⟩) : aU C o K ⟨sl, ob⟩ := by
 obtain ⟨u, h1, h2⟩ := a6 C.good hi'
 have h3 := bb (h2.trans hik)
 subst h3
 refine ok_one hd hn (fun g a w hs => ?_) hK
 have hv := bq hs hx
 generalize hq : a.eval x = v at hv
 cases hv with
 | stkn =>
  simp only [List.length_nil] at hb hhi
  have e2 : h = 0 := by omega
  subst e2
  have e := iE (P := C.P) hs true 0 0 none hi (l := 0) rfl hhi (by omega) (Nat.le_refl _)
  refine ⟨.slice none 0 0, ?_, by simpa using ARep.stkn _ _⟩
  simp at e
  simp [execOp, ho, hq, Instr.sliceAt, Instr.slice, run_underlying h1, e, run_sizeOf C.good hie]
 | stke =>
  rename_i a0
  simp only [List.length_nil] at hb hhi
  have e2 : h = 0 := by omega
  subst e2
  have e := iE (P := C.P) hs true 0 0 none hi (l := 0) rfl hhi (by omega) (Nat.le_refl _)
  refine ⟨.slice (some a0) 0 0, ?_, by simpa using ARep.stke _ _ a0⟩
  simp at e
  simp [execOp, ho, hq, Instr.sliceAt, Instr.slice, run_underlying h1, e, run_sizeOf C.good hie]
 | stk how hb2 hcs hlen hszc hone hst hr =>
  rename_i b cap c e0
  have e := iE (P := C.P) hs true es.length cap none hi (l := 0) rfl hhi ⟨by omega, hb.1, by omega⟩ hlen
  have hlt : (es.take h.toNat).length = h.toNat := by rw [List.length_take]; omega
  refine ⟨.slice (some ⟨b, 0, none⟩) (es.take h.toNat).length cap, ?_, .stk how hb2 hcs (by omega) (fun x hx => hszc x (List.mem_of_mem_take hx)) (fun x hx => hone x (List.mem_of_mem_take hx)) hst (fun i x j p hx hp => ?_)⟩
  ·simp at e
   simp [execOp, ho, hq, Instr.sliceAt, Instr.slice, run_underlying h1, e, run_sizeOf C.good hie, add_lit, hlt]
   try omega
  ·rw [List.getElem?_take] at hx
   split at hx
   ·exact hr i x j p hx hp
   ·cases hx
end
theorem AX (D : Nat → Bool) : ∀ (l : List PV), dmC D (l.map .p) = some (l.map .p)
 | [] => rfl
 | x :: r => by
  have h := AX D r
  simp only [List.map_cons, dmC, AV.dem, h]
  first | rfl | (simp [frc])
theorem lW {D : Nat → Bool} {i : Nat} {l : List PV} {r r' : List (Nat × List AV)} (h : D i = false) (hr : dmO D r = some r') : dmO D ((i, l.map .p) :: r) = some ((i, l.map .p) :: r') := by
 simp only [dmO, h, AX, hr]
theorem lH {D : Nat → Bool} {i : Nat} {cs ds : List AV} {r r' : List (Nat × List AV)} (h : D i = false) (hc : dmC D cs = some ds) (hr : dmO D r = some r') : dmO D ((i, cs) :: r) = some ((i, ds) :: r') := by
 simp only [dmO, h, hc, hr]
theorem AV.sub_nilstk (tok sz : Nat) : (AV.p (.val (.slice none 0 0))).sub (.stk tok sz []) := by
 intro w g v h
 cases h with
 | p h => cases h; exact .stkn _ _
section
variable {C : Cx} {o : Oper} {K : AS → Prop} {sl : List (Nat × AV)} {ob : List (Nat × List AV)} {d : Nat}
theorem sj {α : Type} (f : α → PV) (L : List (Bytes × α)) (z : α) {t kt et : TypeId} {x y : Operand} {i j : TI} {tok : Nat} {k : Bytes} {zv : Value} (ho : o.op = .lookup t x y false) (hd : o.dst = some d) (hn : Nat.blt d C.n = true)
  (hi : look C.tt t = some i) (hik : i.k = .map kt et) (hj : look C.tt kt = some j) (hjk : j.k = .string) (hz : (C.P.info? et).map (·.zero) = some (some zv)) (hfz : f z = .val zv)
  (hx : evo sl x = some (.mp tok (L.map fun p => (p.1, f p.2)))) (hy : evo sl y = some (.p (eS k))) (hK : K ⟨(d, .p (f ((bZ L k).getD z))) :: sl, ob⟩) : aU C o K ⟨sl, ob⟩ := by
 refine xY ho hd hn hi hik hj hjk hz hx hy ?_ hK
 rw [np]
 cases bZ L k with
 | none => exact hfz.symm
 | some v => rfl
theorem tU {α : Type} (f : α → PV) (L : List (Bytes × α)) (u : α) {t kt et : TypeId} {x y v : Operand} {i j : TI} {tok : Nat} {k : Bytes} {sl' : List (Nat × AV)} {ob' : List (Nat × List AV)} (ho : o.op = .mapUpdate t x y v) (hd : o.dst = none)
  (hi : look C.tt t = some i) (hik : i.k = .map kt et) (hj : look C.tt kt = some j) (hjk : j.k = .string)
  (hx : evo sl x = some (.mp tok (L.map fun p => (p.1, f p.2)))) (hy : evo sl y = some (.p (eS k))) (hv : evo sl v = some (.p (f u))) (htok : Nat.blt tok M1 = true)
  (h1 : upS tok ((gU L k u).map fun p => (p.1, f p.2)) sl = some sl') (h2 : dmO (Nat.beq · tok) ob = some ob') (hK : K ⟨sl', ob'⟩) : aU C o K ⟨sl, ob⟩ :=
 AU ho hd hi hik hj hjk hx hy hv htok (qR f L k u) h1 h2 hK
theorem w3 {α : Type} (f : α → PV) (L : List (Bytes × List α)) {t kt et : TypeId} {x y : Operand} {i j : TI} {tok sz ty : Nat} {k : Bytes} {sl' : List (Nat × AV)} {ob' : List (Nat × List AV)} (ho : o.op = .lookup t x y false) (hd : o.dst = some d) (hn : Nat.blt d C.n = true)
  (hi : look C.tt t = some i) (hik : i.k = .map kt et) (hj : look C.tt kt = some j) (hjk : j.k = .string) (hz : (C.P.info? et).map (·.zero) = some (some (.slice none 0 0)))
  (hx : evo sl x = some (.mpr tok sz ty none (L.map fun p => (p.1, p.2.map f)))) (hy : evo sl y = some (.p (eS k))) (htok : Nat.blt tok M1 = true) (hdt : Nat.beq d tok = false)
  (h1 : tkS tok d (.mpr tok sz ty (some k) (L.map fun p => (p.1, p.2.map f))) sl = some sl') (h2 : tkO d tok ob = some ob') (hK : K ⟨(d, .vec d sz ty (((bZ L k).getD []).map f)) :: sl', ob'⟩) : aU C o K ⟨sl, ob⟩ := by
 refine x4 ho hd hn hi hik hj hjk hz hx hy ?_ htok hdt h1 h2 hK
 rw [np (fun l : List α => l.map f)]
 cases bZ L k with
 | none => rfl
 | some v => rfl
theorem yN {α : Type} (f : α → PV) (L : List (Bytes × List α)) (u : List α) {t kt et : TypeId} {x y v : Operand} {i j : TI} {tok sz ty e : Nat} {k : Bytes} {sl' : List (Nat × AV)} {ob' : List (Nat × List AV)} (ho : o.op = .mapUpdate t x y v) (hd : o.dst = none)
  (hi : look C.tt t = some i) (hik : i.k = .map kt et) (hj : look C.tt kt = some j) (hjk : j.k = .string)
  (hx : evo sl x = some (.mpr tok sz ty (some k) (L.map fun p => (p.1, p.2.map f)))) (hy : evo sl y = some (.p (eS k))) (hv : evo sl v = some (.vec e sz ty (u.map f))) (htok : Nat.blt tok M1 = true) (hel : Nat.blt e M1 = true) (het : Nat.beq e tok = false)
  (h1 : tkS tok e (.mpr tok sz ty none ((gU L k u).map fun p => (p.1, p.2.map f))) sl = some sl') (h2 : tkO e tok ob = some ob') (hK : K ⟨sl', ob'⟩) : aU C o K ⟨sl, ob⟩ :=
 Ao ho hd hi hik hj hjk hx hy hv htok hel het (qR (fun l : List α => l.map f) L k u) h1 h2 hK
theorem ra {α : Type} (f : α → PV) (hf : ∀ x, (f x).cells = [f x] ∧ (f x).one = true) (l0 l : List α) {t tx e e' : TypeId} {x y : Operand} {k : Nat} {Y : AV} {i ie j : TI} {sl' : List (Nat × AV)} {ob' : List (Nat × List AV)} (ho : o.op = .call { callee := .builtin .append, args := #[x, y], argTypes := #[t, tx] }) (hd : o.dst = some d) (hn : Nat.blt d C.n = true)
  (hi : look C.tt t = some i) (hik : i.k = .slice e) (hie : look C.tt e = some ie) (hj : look C.tt tx = some j) (hjk : j.k = .slice e') (hx : evo sl x = some (.stk k 1 (l0.map f))) (hk : Nat.blt k M1 = true)
  (hy : evo sl y = some Y) (hY : Y.elems? = some (l.map f)) (hys : 0 < l.length) (h1s : ie.size = 1) (hzl : Nat.beq ie.zero.length ie.size = true) (hby : Nat.blt 0 ie.bytes = true)
  (hlen : (l0.length + l.length) * ie.bytes ≤ 140737488355328) (h1 : dmS (fun i => Nat.beq i k) sl = some sl') (h2 : dmO (fun i => Nat.beq i k) ob = some ob')
  (hK : K ⟨(d, .stk k 1 ((l0 ++ l).map f)) :: sl', ob'⟩) : aU C o K ⟨sl, ob⟩ := by
 have hby' : 1 ≤ ie.bytes := Nat.succ_le_of_lt (by simpa using hby)
 have h3 : (l0.length + l.length) * 1 ≤ (l0.length + l.length) * ie.bytes := Nat.mul_le_mul_left _ hby'
 refine uM ho hd hn hi hik hie hj hjk hx hk hy hY (fun y hy => ?_) (by simpa using hys) h1s hzl (by rw [List.length_map, List.length_map]; exact hlen) (by rw [List.length_map, List.length_map]; omega) ?_
 ·rw [← List.map_append] at hy
  obtain ⟨x, _, rfl⟩ := List.mem_map.1 hy
  exact hf x
 ·rw [← List.map_append]
  simp only [cv]
  rw [← tg h1, ← nP h2]
  exact hK
theorem lA {α : Type} (f : α → PV) (l : List α) {t e : TypeId} {x : Operand} {i : TI} {k sz : Nat} (ho : o.op = .call { callee := .builtin .len, args := #[x], argTypes := #[t] }) (hd : o.dst = some d) (hn : Nat.blt d C.n = true)
  (hi : look C.tt t = some i) (hik : i.k = .slice e) (hx : evo sl x = some (.stk k sz (l.map f))) (hK : K ⟨(d, .p (eI (l.length : Int))) :: sl, ob⟩) : aU C o K ⟨sl, ob⟩ :=
 yj ho hd hn hi hik hx (by rw [List.length_map]; exact hK)
theorem mx {α : Type} (f : α → PV) (l : List α) {t e : TypeId} {x y : Operand} {i ie : TI} {k : IntKind} {n : Int} {id : Nat} (ho : o.op = .indexAddr t x y) (hd : o.dst = some d) (hn : Nat.blt d C.n = true)
  (hi : look C.tt t = some i) (hik : i.k = .slice e) (hie : look C.tt e = some ie) (hx : evo sl x = some (.stk id 1 (l.map f)))
  (hy : evo sl y = some (.p (.val (.int k n)))) (hsz : ie.size = 1) (hb : 0 ≤ n ∧ n < (l.length : Int)) (hK : K ⟨(d, .ptr id n.toNat) :: sl, ob⟩) : aU C o K ⟨sl, ob⟩ :=
 rp ho hd hn hi hik hie hx hy hsz (by rw [List.length_map]; exact hb) hK
theorem wX {α : Type} [Inhabited α] (f : α → PV) (hf : ∀ x, (f x).cells = [f x] ∧ (f x).one = true) (l : List α) (q : Nat) {t : TypeId} {x : Operand} {i : TI} {id : Nat} {n : Int} (ho : o.op = .load t x) (hd : o.dst = some d) (hn : Nat.blt d C.n = true)
  (hi : look C.tt t = some i) (hia : i.k.isAgg = false) (hx : evo sl x = some (.ptr id n.toNat)) (hq : look sl q = some (.stk id 1 (l.map f))) (hb : 0 ≤ n ∧ n < (l.length : Int))
  (hK : K ⟨(d, .p (f (lat l n))) :: sl, ob⟩) : aU C o K ⟨sl, ob⟩ := by
 refine xA ho hd hn hi hia hx hq ?_ (hf _).1 hK
 obtain ⟨m, rfl⟩ : ∃ m : Nat, n = m := ⟨n.toNat, by omega⟩
 have hm : m < l.length := by omega
 rw [Int.toNat_natCast, List.getElem?_map, List.getElem?_eq_getElem hm, bS l m hm]
 rfl
theorem rM {α : Type} (f : α → PV) (l : List α) {t e : TypeId} {x : Operand} {hi : Option Operand} {id : Nat} {h : Int} {i ie : TI} (ho : o.op = .slice t x none hi none) (hd : o.dst = some d) (hn : Nat.blt d C.n = true)
  (hi' : look C.tt t = some i) (hik : i.k = .slice e) (hie : look C.tt e = some ie) (hx : evo sl x = some (.stk id 1 (l.map f))) (hhi : hiI sl (l.length : Int) hi = some h)
  (hb : 0 ≤ h ∧ h ≤ (l.length : Int)) (hsz1 : ie.size = 1) (hK : K ⟨(d, .stk id 1 ((l.take h.toNat).map f)) :: sl, ob⟩) : aU C o K ⟨sl, ob⟩ :=
 vW ho hd hn hi' hik hie hx (by rw [List.length_map]; exact hhi) (by rw [List.length_map]; exact hb) hsz1 (by rw [← List.map_take]; exact hK)
end
end Go.Ab
end
section
set_option linter.unusedVariables false
set_option linter.unusedSimpArgs false
set_option linter.unnecessarySimpa false
namespace Go.Ab
section
variable {C : Cx} {o : Oper} {K : AS → Prop} {sl : List (Nat × AV)} {ob : List (Nat × List AV)} {d : Nat}
theorem w5 {t e : TypeId} {i ie : TI} (ho : o.op = .buildSlice t 0 #[]) (hd : o.dst = some d) (hn : Nat.blt d C.n = true)
  (hi : look C.tt t = some i) (hik : i.k = .slice e) (hie : look C.tt e = some ie) (tok sz : Nat)
  (hK : K ⟨(d, .stk tok sz []) :: sl, ob⟩) : aU C o K ⟨sl, ob⟩ := by
 obtain ⟨u, h1, h2⟩ := a6 C.good hi
 have h3 := bb (h2.trans hik)
 subst h3
 obtain ⟨j, hj, hj1, hj2, z, hz1, hz2⟩ := eT C.good hie
 intro g a w hs
 have hrun : (execOp a.eval o).run C.P w = .ok (.value (.slice (some ⟨w.heap.size, 0, none⟩) 0 0)) (w.alloc (.cells #[] e)) := by
  simp [execOp, ho, Instr.buildSlice, run_underlying h1, sizeOf, typeInfo, hj, Instr.fill, newRow]
  congr 2
  apply Array.ext <;> simp
 unfold Oper.wp
 rw [hrun]
 have hst := (hs.settled (fun _ => False) #[] e).put (d := some d) (fun t ht => by cases ht; exact Nat.blt_eq ▸ hn) (.stke tok sz ⟨w.heap.size, 0, none⟩)
 simp only [Oper.upon, hd]
 exact ⟨_, _, hst, hK⟩
theorem xe {t tx e e' : TypeId} {x y : Operand} {k : Nat} {es : List PV} {Y : AV} {i ie j : TI} (ho : o.op = .call { callee := .builtin .append, args := #[x, y], argTypes := #[t, tx] }) (hd : o.dst = some d) (hn : Nat.blt d C.n = true)
  (hi : look C.tt t = some i) (hik : i.k = .slice e) (hie : look C.tt e = some ie) (hj : look C.tt tx = some j) (hjk : j.k = .slice e') (hx : evo sl x = some (.stk k 1 es))
  (hy : evo sl y = some Y) (hY : Y.elems? = some []) (h1s : ie.size = 1)
  (hK : K ⟨(d, .stk k 1 es) :: sl, ob⟩) : aU C o K ⟨sl, ob⟩ := by
 refine ok_one hd hn (fun g a w hs => ?_) hK
 obtain ⟨u, h1, h2⟩ := a6 C.good hi
 have h3 := bb (h2.trans hik)
 subst h3
 obtain ⟨u', h1', h2'⟩ := a6 C.good hj
 have h3' := bb (h2'.trans hjk)
 subst h3'
 obtain ⟨info, hf1, hf2, hf3, z, hf4, hf5⟩ := eT C.good hie
 have hyv := eJ hY (bq hs hy)
 obtain ⟨news, hsrc, hnews⟩ := mV (P := C.P) (sz := ie.size) h1' hyv (fun y hy => by cases hy) (by omega)
 have hnl : news = [] := by have := hsrc.newsLen; simpa using this
 subst hnl
 have hxr := bq hs hx
 generalize hxv : a.eval x = xv at hxr
 have hrun0 : ∀ v w', (Builtin.append_ #[t, tx] o.type #[xv, a.eval y]).run C.P w = .ok v w' → (execOp a.eval o).run C.P w = .ok (.value v) w' := by
  intro v w' h
  rw [dy ho]
  simp [builtin, hxv, h]
 cases hxr with
 | stkn => exact ⟨_, hrun0 _ _ (run_append_nothing w t tx o.type e info h1 hf1 none 0 0 (Nat.le_refl _) (a.eval y) (by rw [hf2]; exact hsrc)), .stkn _ _⟩
 | stke => exact ⟨_, hrun0 _ _ (run_append_nothing w t tx o.type e info h1 hf1 _ 0 0 (Nat.le_refl _) (a.eval y) (by rw [hf2]; exact hsrc)), .stke _ _ _⟩
 | stk how hb hcs hlenc hszc hone hst hr =>
  exact ⟨_, hrun0 _ _ (run_append_nothing w t tx o.type e info h1 hf1 _ _ _ hlenc (a.eval y) (by rw [hf2]; exact hsrc)), .stk how hb hcs hlenc hszc hone hst hr⟩
theorem wv {D : Nat → Bool} {ob ob' : List (Nat × List AV)} (h : dmO D ob = some ob') : (cv D ⟨sl, ob⟩).ob = ob' := (nP h).symm
theorem oo {α : Type} (f : α → PV) (b0 : α) {t e : Nat} {x y : Operand} {i ie : TI} {k k' : IntKind} {n : Int} {z : Value} {ob' : List (Nat × List AV)} (ho : o.op = .makeSlice t x y) (hd : o.dst = some d) (hn : Nat.blt d C.n = true)
  (hi : look C.tt t = some i) (hik : i.k = .slice e) (hie : look C.tt e = some ie) (hs1 : ie.size = 1) (hz : ie.zero = [z]) (hf : f b0 = .val z) (hx : evo sl x = some (.p (.val (.int k n)))) (hy : evo sl y = some (.p (.val (.int k' n))))
  (hb : 0 ≤ n ∧ n ≤ 9223372036854775807 ∧ (ie.bytes : Int) * n ≤ 281474976710656) (h2 : dmO (fun i => Nat.beq i d) ob = some ob')
  (hK : K ⟨(d, .arr d 1 0 (List.replicate n.toNat b0).length) :: sl.map fun p => (p.1, p.2.dem fun i => Nat.beq i d), (d, ((List.replicate n.toNat b0).map f).map .p) :: ob'⟩) : aU C o K ⟨sl, ob⟩ := by
 refine wk ho hd hn hi hik hie hs1 hz hx hy hb ?_
 rw [wv h2]
 rw [List.map_replicate, hf, List.length_replicate] at hK
 exact hK
theorem wM {t : TypeId} {v : Operand} {x : AV} {cs ds : List AV} {ob' : List (Nat × List AV)} (ho : o.op = .box t v) (hd : o.dst = some d) (hn : Nat.blt d C.n = true) (hx : evo sl v = some x) (hc : x.cellsA = some cs)
  (hds : j4 (fun i => Nat.beq i d) cs = ds) (h2 : dmO (fun i => Nat.beq i d) ob = some ob')
  (hK : K ⟨(d, .ptr d 0) :: sl.map fun p => (p.1, p.2.dem fun i => Nat.beq i d), (d, ds) :: ob'⟩) : aU C o K ⟨sl, ob⟩ := by
 refine yo ho hd hn hx hc ?_
 subst hds
 rw [wv h2]
 exact hK
theorem vm {α : Type} [Inhabited α] (f : α → PV) (hf : ∀ x, (f x).cells = [f x] ∧ (f x).one = true) (l : List α) (q j : Nat) {cs : List AV} {t : TypeId} {x : Operand} {i : TI} {id : Nat} {n : Int} (ho : o.op = .load t x) (hd : o.dst = some d) (hn : Nat.blt d C.n = true)
  (hi : look C.tt t = some i) (hia : i.k.isAgg = false) (hx : evo sl x = some (.ptr id n.toNat)) (hq : look ob q = some cs) (hj : cs[j]? = some (.stk id 1 (l.map f))) (hb : 0 ≤ n ∧ n < (l.length : Int))
  (hK : K ⟨(d, .p (f (lat l n))) :: sl, ob⟩) : aU C o K ⟨sl, ob⟩ := by
 obtain ⟨m, rfl⟩ : ∃ m : Nat, n = m := ⟨n.toNat, by omega⟩
 have hm : m < l.length := by omega
 refine ok_one hd hn (fun g a w hs => ?_) hK
 have h5 := bq hs hx
 generalize hv : a.eval x = v at h5
 cases h5 with
 | ptr how =>
  rename_i b
  obtain ⟨_, c0, _, _, _, _, _, hcs⟩ := hs.ob q cs hq
  obtain ⟨u0, _, h6⟩ := hcs j _ hj
  have hy : (l.map f)[m]? = some (f (lat l (m : Int))) := by rw [List.getElem?_map, List.getElem?_eq_getElem hm, bS l m hm]; rfl
  generalize l.map f = es at h6 hy
  cases h6 with
  | stkn => simp at hy
  | stke => simp at hy
  | stk how2 hb hcs hlen hsz hone hst hr =>
   rw [how] at how2; cases how2
   obtain ⟨u, hu, hr2⟩ := hr m _ 0 _ hy (by rw [(hf _).1]; rfl)
   rw [Nat.mul_one, Nat.add_zero] at hu
   have hc := (jt hs hb m).trans hu
   exact ⟨u, by simp [execOp, ho, hv, Instr.loadAt, Instr.sureAddr, jH C.good hi hia hc], .p hr2⟩
theorem vt (tok sz ty i : Nat) (kv : Bytes × List PV) : lq tok sz ty none i kv = .vec (tok + MZ * (i + 1)) sz ty kv.2 := by simp [lq]
theorem xi (tok sz ty : Nat) {α : Type} (f : α → PV) (L : List (Bytes × List α)) : (AV.mpr tok sz ty none (L.map fun p => (p.1, p.2.map f))).sub (.mp tok (L.map fun p => (p.1, eL f p.2))) := by
 intro w g v h
 cases h with
 | mpr how hb hn hd hk hv =>
  refine .mp how hb (by simpa using hn) ?_ (fun i e kv h1 h2 => ?_) (fun i e kv h1 h2 => ?_)
  ·rw [List.map_map] at hd ⊢; exact hd
  ·rw [List.getElem?_map, Option.map_eq_some_iff] at h2
   obtain ⟨p, hp, rfl⟩ := h2
   exact hk i e (p.1, p.2.map f) h1 (by rw [List.getElem?_map, hp]; rfl)
  ·rw [List.getElem?_map, Option.map_eq_some_iff] at h2
   obtain ⟨p, hp, rfl⟩ := h2
   have := hv i e (p.1, p.2.map f) h1 (by rw [List.getElem?_map, hp]; rfl)
   rw [vt] at this
   have h3 := AV.sub_vec _ _ _ _ w g _ this
   cases h3 with
   | p h => exact h
theorem xk {α : Type} (f : α → PV) (L : List (Bytes × List α)) {t kt et : TypeId} {x y : Operand} {i j : TI} {tok : Nat} {k : Bytes} (ho : o.op = .lookup t x y false) (hd : o.dst = some d) (hn : Nat.blt d C.n = true)
  (hi : look C.tt t = some i) (hik : i.k = .map kt et) (hj : look C.tt kt = some j) (hjk : j.k = .string) (hz : (C.P.info? et).map (·.zero) = some (some (.slice none 0 0)))
  (hx : evo sl x = some (.mp tok (L.map fun p => (p.1, eL f p.2)))) (hy : evo sl y = some (.p (eS k))) (hK : K ⟨(d, .p (eL f ((bZ L k).getD []))) :: sl, ob⟩) : aU C o K ⟨sl, ob⟩ := by
 refine s8 ho hd hn hi hik hj hjk hz hx hy (fun w st v h => ?_) hK
 rw [np (fun l : List α => eL f l) L k] at h
 cases hk : bZ L k with
 | none => rw [hk] at h; cases h; exact .nils
 | some l => rw [hk] at h; exact h
theorem tG (tok e : Nat) (y : AV) : ∀ (l : List (Nat × AV)), tkS tok e y l = some (l.map fun p => (p.1, tkA tok e y p.2))
 | [] => rfl
 | (i, x) :: r => by
  have h : ∀ z : AV, frc z = some z := fun z => by cases z <;> rfl
  simp only [tkS, h, tG tok e y r, List.map_cons]
theorem vl {α : Type} (f : α → PV) (L : List (Bytes × List α)) {t kt et : TypeId} {x y : Operand} {i j : TI} {tok sz ty : Nat} {k : Bytes} {ob' : List (Nat × List AV)} (ho : o.op = .lookup t x y false) (hd : o.dst = some d) (hn : Nat.blt d C.n = true)
  (hi : look C.tt t = some i) (hik : i.k = .map kt et) (hj : look C.tt kt = some j) (hjk : j.k = .string) (hz : (C.P.info? et).map (·.zero) = some (some (.slice none 0 0)))
  (hx : evo sl x = some (.mpr tok sz ty none (L.map fun p => (p.1, p.2.map f)))) (hy : evo sl y = some (.p (eS k))) (htok : Nat.blt tok M1 = true) (hdt : Nat.beq d tok = false)
  (h2 : tkO d tok ob = some ob') (hK : K ⟨(d, .vec d sz ty (((bZ L k).getD []).map f)) :: trL (.fn (tkA tok d (.mpr tok sz ty (some k) (L.map fun p => (p.1, p.2.map f))))) sl, ob'⟩) : aU C o K ⟨sl, ob⟩ :=
 w3 f L ho hd hn hi hik hj hjk hz hx hy htok hdt (tG _ _ _ _) h2 hK
theorem xK {α : Type} (f : α → PV) (L : List (Bytes × List α)) (u : List α) {t kt et : TypeId} {x y v : Operand} {i j : TI} {tok sz ty e : Nat} {k : Bytes} {ob' : List (Nat × List AV)} (ho : o.op = .mapUpdate t x y v) (hd : o.dst = none)
  (hi : look C.tt t = some i) (hik : i.k = .map kt et) (hj : look C.tt kt = some j) (hjk : j.k = .string)
  (hx : evo sl x = some (.mpr tok sz ty (some k) (L.map fun p => (p.1, p.2.map f)))) (hy : evo sl y = some (.p (eS k))) (hv : evo sl v = some (.vec e sz ty (u.map f))) (htok : Nat.blt tok M1 = true) (hel : Nat.blt e M1 = true) (het : Nat.beq e tok = false)
  (h2 : tkO e tok ob = some ob') (hK : K ⟨trL (.fn (tkA tok e (.mpr tok sz ty none ((gU L k u).map fun p => (p.1, p.2.map f))))) sl, ob'⟩) : aU C o K ⟨sl, ob⟩ :=
 yN f L u ho hd hi hik hj hjk hx hy hv htok hel het (tG _ _ _ _) h2 hK
end
end Go.Ab
end
section
set_option linter.unusedSimpArgs false
set_option linter.unnecessarySimpa false
set_option linter.unusedVariables false
namespace Go.Ab
open Go.Proofs Go.Ab
attribute [local irreducible] awp d9 aU aF bO yq AV.sub
set_option maxHeartbeats 4000000 in
theorem cO (l : List Bytes) (hlen : l.length * 16 ≤ 140737488355328) : aF Tryz.prog 65 [eL eS l] (· = .p (eL eS l)) := by
 refine bG good Tryz.func65 rfl rfl rfl fun w0 => ?_
 refine bE ?_
 refine b5 ?_
 refine aV rfl ?_
 refine bp rfl rfl rfl rfl ?_
 refine bA ?_
 (repeat (first | refine aG ?_ | refine aL ?_ | refine bU ?_ | refine a8 rfl ?_ | refine bR ?_ | refine aS ?_ | refine aH ?_ | refine ak ?_ | refine aw ?_ | refine ar rfl ?_ | refine noGoto_ret ?_ | refine noGoto_exit ?_ | refine noGoto_normal ?_))
 refine bE ?_
 refine bE ?_
 refine b5 ?_
 refine aV rfl ?_
 refine aR rfl rfl rfl rfl ?_
 refine aV rfl ?_
 refine lg rfl rfl rfl rfl rfl rfl rfl rfl (fun b hb => ?_)
 refine bA ?_
 (repeat (first | refine aG ?_ | refine aL ?_ | refine bU ?_ | refine a8 rfl ?_ | refine bR ?_ | refine aS ?_ | refine aH ?_ | refine ak ?_ | refine aw ?_ | refine ar rfl ?_ | refine noGoto_ret ?_ | refine noGoto_exit ?_ | refine noGoto_normal ?_))
 refine gT rfl (fun hc => ?_) (fun hc => ?_)
 ·have he : l = [] := by simpa using hb hc
  subst he
  refine bE ?_
  refine b5 ?_
  refine aV rfl ?_
  refine bp rfl rfl rfl rfl ?_
  refine bA ?_
  (repeat (first | refine aG ?_ | refine aL ?_ | refine bU ?_ | refine a8 rfl ?_ | refine bR ?_ | refine aS ?_ | refine aH ?_ | refine ak ?_ | refine aw ?_ | refine ar rfl ?_ | refine noGoto_ret ?_ | refine noGoto_exit ?_ | refine noGoto_normal ?_))
  refine cY ?_
  (repeat (first | refine aG ?_ | refine aL ?_ | refine bU ?_ | refine a8 rfl ?_ | refine bR ?_ | refine aS ?_ | refine aH ?_ | refine ak ?_ | refine aw ?_ | refine ar rfl ?_ | refine noGoto_ret ?_ | refine noGoto_exit ?_ | refine noGoto_normal ?_))
  refine lN rfl ?_
  exact eO _
 ·skip
  refine cZ ?_
  (repeat (first | refine aG ?_ | refine aL ?_ | refine bU ?_ | refine a8 rfl ?_ | refine bR ?_ | refine aS ?_ | refine aH ?_ | refine ak ?_ | refine aw ?_ | refine ar rfl ?_ | refine noGoto_ret ?_ | refine noGoto_exit ?_ | refine noGoto_normal ?_))
  refine bE ?_
  refine b5 ?_
  refine aV rfl ?_
  refine ou rfl rfl rfl rfl rfl rfl rfl 5 1 ?_
  refine aV rfl ?_
  refine aR rfl rfl rfl rfl ?_
  refine aV rfl ?_
  refine fL eS [] l rfl rfl rfl rfl rfl rfl rfl rfl rfl rfl rfl rfl rfl (fun _ => rfl) rfl rfl rfl rfl (by simpa using hlen) ?_
  refine aV rfl ?_
  refine bp rfl rfl rfl rfl ?_
  refine bA ?_
  (repeat (first | refine aG ?_ | refine aL ?_ | refine bU ?_ | refine a8 rfl ?_ | refine bR ?_ | refine aS ?_ | refine aH ?_ | refine ak ?_ | refine aw ?_ | refine ar rfl ?_ | refine noGoto_ret ?_ | refine noGoto_exit ?_ | refine noGoto_normal ?_))
  refine cY ?_
  (repeat (first | refine aG ?_ | refine aL ?_ | refine bU ?_ | refine a8 rfl ?_ | refine bR ?_ | refine aS ?_ | refine aH ?_ | refine ak ?_ | refine aw ?_ | refine ar rfl ?_ | refine noGoto_ret ?_ | refine noGoto_exit ?_ | refine noGoto_normal ?_))
  refine lN rfl ?_
  exact AV.sub_vec _ _ _ _
set_option maxHeartbeats 4000000 in
theorem jq (l : List Bytes) (hlen : l.length * 16 ≤ 140737488355328) : bO Tryz.prog 65 [.p (eL eS l)] [] (fun x y => x = .stk 2000000 1 (l.map eS) ∧ y = []) := by
 refine ga good [800000] [] Tryz.func65 rfl rfl rfl rfl rfl fun w0 F => ?_
 refine bE ?_
 refine b5 ?_
 refine aV rfl ?_
 refine bp rfl rfl rfl rfl ?_
 refine bA ?_
 (repeat (first | refine aG ?_ | refine aL ?_ | refine bU ?_ | refine a8 rfl ?_ | refine bR ?_ | refine aS ?_ | refine aH ?_ | refine ak ?_ | refine aw ?_ | refine ar rfl ?_ | refine noGoto_ret ?_ | refine noGoto_exit ?_ | refine noGoto_normal ?_))
 refine bE ?_
 refine bE ?_
 refine b5 ?_
 refine aV rfl ?_
 refine aR rfl rfl rfl rfl ?_
 refine aV rfl ?_
 refine lg rfl rfl rfl rfl rfl rfl rfl rfl (fun b hb => ?_)
 refine bA ?_
 (repeat (first | refine aG ?_ | refine aL ?_ | refine bU ?_ | refine a8 rfl ?_ | refine bR ?_ | refine aS ?_ | refine aH ?_ | refine ak ?_ | refine aw ?_ | refine ar rfl ?_ | refine noGoto_ret ?_ | refine noGoto_exit ?_ | refine noGoto_normal ?_))
 refine gT rfl (fun hc => ?_) (fun hc => ?_)
 ·have he : l = [] := by simpa using hb hc
  subst he
  refine bE ?_
  refine b5 ?_
  refine aV rfl ?_
  refine bp rfl rfl rfl rfl ?_
  refine bA ?_
  (repeat (first | refine aG ?_ | refine aL ?_ | refine bU ?_ | refine a8 rfl ?_ | refine bR ?_ | refine aS ?_ | refine aH ?_ | refine ak ?_ | refine aw ?_ | refine ar rfl ?_ | refine noGoto_ret ?_ | refine noGoto_exit ?_ | refine noGoto_normal ?_))
  refine cY ?_
  (repeat (first | refine aG ?_ | refine aL ?_ | refine bU ?_ | refine a8 rfl ?_ | refine bR ?_ | refine aS ?_ | refine aH ?_ | refine ak ?_ | refine aw ?_ | refine ar rfl ?_ | refine noGoto_ret ?_ | refine noGoto_exit ?_ | refine noGoto_normal ?_))
  exact nj (bv _) rfl rfl rfl rfl (AV.sub_nilstk _ _) trivial
 ·skip
  refine cZ ?_
  (repeat (first | refine aG ?_ | refine aL ?_ | refine bU ?_ | refine a8 rfl ?_ | refine bR ?_ | refine aS ?_ | refine aH ?_ | refine ak ?_ | refine aw ?_ | refine ar rfl ?_ | refine noGoto_ret ?_ | refine noGoto_exit ?_ | refine noGoto_normal ?_))
  refine bE ?_
  refine b5 ?_
  refine aV rfl ?_
  refine w5 rfl rfl rfl rfl rfl rfl 5 1 ?_
  refine aV rfl ?_
  refine aR rfl rfl rfl rfl ?_
  refine aV rfl ?_
  by_cases hl : l = []
  ·subst hl
   refine xe rfl rfl rfl rfl rfl rfl rfl rfl rfl rfl rfl rfl ?_
   refine aV rfl ?_
   refine bp rfl rfl rfl rfl ?_
   refine bA ?_
   (repeat (first | refine aG ?_ | refine aL ?_ | refine bU ?_ | refine a8 rfl ?_ | refine bR ?_ | refine aS ?_ | refine aH ?_ | refine ak ?_ | refine aw ?_ | refine ar rfl ?_ | refine noGoto_ret ?_ | refine noGoto_exit ?_ | refine noGoto_normal ?_))
   refine cY ?_
   (repeat (first | refine aG ?_ | refine aL ?_ | refine bU ?_ | refine a8 rfl ?_ | refine bR ?_ | refine aS ?_ | refine aH ?_ | refine ak ?_ | refine aw ?_ | refine ar rfl ?_ | refine noGoto_ret ?_ | refine noGoto_exit ?_ | refine noGoto_normal ?_))
   exact nj (bz 5 800000 rfl rfl rfl rfl rfl) rfl rfl rfl rfl (AV.sub_refl _) trivial
  ·refine ra eS (fun _ => ⟨rfl, rfl⟩) [] l rfl rfl rfl rfl rfl rfl rfl rfl rfl rfl rfl rfl (List.length_pos_iff.2 hl) rfl rfl rfl (by simpa using hlen) rfl rfl ?_
   refine aV rfl ?_
   refine bp rfl rfl rfl rfl ?_
   refine bA ?_
   (repeat (first | refine aG ?_ | refine aL ?_ | refine bU ?_ | refine a8 rfl ?_ | refine bR ?_ | refine aS ?_ | refine aH ?_ | refine ak ?_ | refine aw ?_ | refine ar rfl ?_ | refine noGoto_ret ?_ | refine noGoto_exit ?_ | refine noGoto_normal ?_))
   refine cY ?_
   (repeat (first | refine aG ?_ | refine aL ?_ | refine bU ?_ | refine a8 rfl ?_ | refine bR ?_ | refine aS ?_ | refine aH ?_ | refine ak ?_ | refine aw ?_ | refine ar rfl ?_ | refine noGoto_ret ?_ | refine noGoto_exit ?_ | refine noGoto_normal ?_))
   exact nj (bz 5 800000 rfl rfl rfl rfl rfl) rfl rfl rfl rfl (AV.sub_refl _) trivial
set_option maxHeartbeats 4000000 in
theorem ii (l : List ag) (h : l.isEmpty = true) : aF Tryz.prog 90 [eL aQ l] (· = .p (eL aQ [])) := by
 obtain rfl : l = [] := by simpa using h
 refine bG good Tryz.func90 rfl rfl rfl fun w0 => ?_
 refine bE ?_
 refine b5 ?_
 refine aV rfl ?_
 refine bp rfl rfl rfl rfl ?_
 refine bA ?_
 (repeat (first | refine aG ?_ | refine aL ?_ | refine bU ?_ | refine a8 rfl ?_ | refine bR ?_ | refine aS ?_ | refine aH ?_ | refine ak ?_ | refine aw ?_ | refine ar rfl ?_ | refine noGoto_ret ?_ | refine noGoto_exit ?_ | refine noGoto_normal ?_))
 refine bE ?_
 refine bE ?_
 refine b5 ?_
 refine aV rfl ?_
 refine aR rfl rfl rfl rfl ?_
 refine aV rfl ?_
 refine lg rfl rfl rfl rfl rfl rfl rfl rfl (fun b hb => ?_)
 refine bA ?_
 (repeat (first | refine aG ?_ | refine aL ?_ | refine bU ?_ | refine a8 rfl ?_ | refine bR ?_ | refine aS ?_ | refine aH ?_ | refine ak ?_ | refine aw ?_ | refine ar rfl ?_ | refine noGoto_ret ?_ | refine noGoto_exit ?_ | refine noGoto_normal ?_))
 refine gT rfl (fun hc => ?_) (fun hc => ?_)
 ·skip
  refine bE ?_
  refine b5 ?_
  refine aV rfl ?_
  refine bp rfl rfl rfl rfl ?_
  refine bA ?_
  (repeat (first | refine aG ?_ | refine aL ?_ | refine bU ?_ | refine a8 rfl ?_ | refine bR ?_ | refine aS ?_ | refine aH ?_ | refine ak ?_ | refine aw ?_ | refine ar rfl ?_ | refine noGoto_ret ?_ | refine noGoto_exit ?_ | refine noGoto_normal ?_))
  refine cY ?_
  (repeat (first | refine aG ?_ | refine aL ?_ | refine bU ?_ | refine a8 rfl ?_ | refine bR ?_ | refine aS ?_ | refine aH ?_ | refine ak ?_ | refine aw ?_ | refine ar rfl ?_ | refine noGoto_ret ?_ | refine noGoto_exit ?_ | refine noGoto_normal ?_))
  refine lN rfl ?_
  exact eO _
 ·skip
  refine cZ ?_
  (repeat (first | refine aG ?_ | refine aL ?_ | refine bU ?_ | refine a8 rfl ?_ | refine bR ?_ | refine aS ?_ | refine aH ?_ | refine ak ?_ | refine aw ?_ | refine ar rfl ?_ | refine noGoto_ret ?_ | refine noGoto_exit ?_ | refine noGoto_normal ?_))
  refine bE ?_
  refine b5 ?_
  refine aV rfl ?_
  refine ou rfl rfl rfl rfl rfl rfl rfl 5 5 ?_
  refine aV rfl ?_
  refine aR rfl rfl rfl rfl ?_
  refine aV rfl ?_
  refine fL aQ [] [] rfl rfl rfl rfl rfl rfl rfl rfl rfl rfl rfl rfl rfl (fun x => congrArg List.length (ag.cells_eq x)) rfl rfl rfl rfl (by decide) ?_
  refine aV rfl ?_
  refine bp rfl rfl rfl rfl ?_
  refine bA ?_
  (repeat (first | refine aG ?_ | refine aL ?_ | refine bU ?_ | refine a8 rfl ?_ | refine bR ?_ | refine aS ?_ | refine aH ?_ | refine ak ?_ | refine aw ?_ | refine ar rfl ?_ | refine noGoto_ret ?_ | refine noGoto_exit ?_ | refine noGoto_normal ?_))
  refine cY ?_
  (repeat (first | refine aG ?_ | refine aL ?_ | refine bU ?_ | refine a8 rfl ?_ | refine bR ?_ | refine aS ?_ | refine aH ?_ | refine ak ?_ | refine aw ?_ | refine ar rfl ?_ | refine noGoto_ret ?_ | refine noGoto_exit ?_ | refine noGoto_normal ?_))
  refine lN rfl ?_
  exact AV.sub_vec _ _ _ _
set_option maxHeartbeats 4000000 in
theorem ij (l : List ag) (h : l.isEmpty = false) (hlen : l.length * 80 ≤ 140737488355328) : bO Tryz.prog 90 [.p (eL aQ l)] [] (fun x y => x = .arr 2000000 5 0 l.length ∧ y = [(2000000, ic aQ l)]) := by
 refine ga good [800000] [800000] Tryz.func90 rfl rfl rfl rfl rfl fun w0 F => ?_
 refine bE ?_
 refine b5 ?_
 refine aV rfl ?_
 refine bp rfl rfl rfl rfl ?_
 refine bA ?_
 (repeat (first | refine aG ?_ | refine aL ?_ | refine bU ?_ | refine a8 rfl ?_ | refine bR ?_ | refine aS ?_ | refine aH ?_ | refine ak ?_ | refine aw ?_ | refine ar rfl ?_ | refine noGoto_ret ?_ | refine noGoto_exit ?_ | refine noGoto_normal ?_))
 refine bE ?_
 refine bE ?_
 refine b5 ?_
 refine aV rfl ?_
 refine aR rfl rfl rfl rfl ?_
 refine aV rfl ?_
 refine lg rfl rfl rfl rfl rfl rfl rfl rfl (fun b hb => ?_)
 refine bA ?_
 (repeat (first | refine aG ?_ | refine aL ?_ | refine bU ?_ | refine a8 rfl ?_ | refine bR ?_ | refine aS ?_ | refine aH ?_ | refine ak ?_ | refine aw ?_ | refine ar rfl ?_ | refine noGoto_ret ?_ | refine noGoto_exit ?_ | refine noGoto_normal ?_))
 refine gT rfl (fun hc => ?_) (fun hc => ?_)
 ·have he : l = [] := by simpa using hb hc
  subst he
  cases h
 ·skip
  refine cZ ?_
  (repeat (first | refine aG ?_ | refine aL ?_ | refine bU ?_ | refine a8 rfl ?_ | refine bR ?_ | refine aS ?_ | refine aH ?_ | refine ak ?_ | refine aw ?_ | refine ar rfl ?_ | refine noGoto_ret ?_ | refine noGoto_exit ?_ | refine noGoto_normal ?_))
  refine bE ?_
  refine b5 ?_
  refine aV rfl ?_
  refine sw rfl rfl rfl rfl rfl rfl 5 ?_
  refine aV rfl ?_
  refine aR rfl rfl rfl rfl ?_
  refine aV rfl ?_
  refine wF aQ [] l rfl rfl rfl rfl rfl rfl rfl rfl rfl rfl rfl rfl rfl rfl rfl (fun x => congrArg List.length (ag.cells_eq x)) rfl rfl rfl (by simpa using hlen) ?_
  refine aV rfl ?_
  refine bp rfl rfl rfl rfl ?_
  refine bA ?_
  (repeat (first | refine aG ?_ | refine aL ?_ | refine bU ?_ | refine a8 rfl ?_ | refine bR ?_ | refine aS ?_ | refine aH ?_ | refine ak ?_ | refine aw ?_ | refine ar rfl ?_ | refine noGoto_ret ?_ | refine noGoto_exit ?_ | refine noGoto_normal ?_))
  refine cY ?_
  (repeat (first | refine aG ?_ | refine aL ?_ | refine bU ?_ | refine a8 rfl ?_ | refine bR ?_ | refine aS ?_ | refine aH ?_ | refine ak ?_ | refine aw ?_ | refine ar rfl ?_ | refine noGoto_ret ?_ | refine noGoto_exit ?_ | refine noGoto_normal ?_))
  exact nj (bz 7 800000 rfl rfl rfl rfl (aJ rfl (aM _) rfl)) rfl rfl rfl (aJ rfl (aM _) rfl) (AV.sub_of_eq (congrArg (AV.arr 2000000 5 0) (by simp))) ⟨⟨_, rfl, ap _⟩, trivial⟩
end Go.Ab
end
