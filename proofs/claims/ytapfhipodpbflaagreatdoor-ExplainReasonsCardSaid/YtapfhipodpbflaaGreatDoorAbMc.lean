/- Short words for what printed walks say often. No program in sight. More fuel, the same answer. No program in sight. Short words for printed walks, further: what an operation gives is computed, and one fact says it. It holds for every program. Walks as a machine: what needs no thought is computed, many steps at once. It holds for every program. -/
import Derived.Test.YtapfhipodpbflaaGreatDoorAbZ
import Derived.Test.YtapfhipodpbflaaGreatDoorAbEv
import Derived.Laws.IdiomStrings
import Derived.Test.YtapfhipodpbflaaGreatDoorAbP
set_option linter.unusedVariables false
set_option linter.unusedSimpArgs false
set_option linter.unnecessarySimpa false
namespace Go.Ab
/-- What is asked of a way out, taken apart step by step. -/
class UW (p : Prop) (q : outParam Prop) : Prop where
  go : q → p
class UO (p : Prop) (b : outParam Bool) (q : outParam Prop) : Prop where
  go : b = false → q → p
theorem uw {p q : Prop} [h : UW p q] (x : q) : p := h.go x
theorem uo {p q : Prop} {b : Bool} [h : UO p b q] (hb : b = false) (x : q) : p := h.go hb x
section
variable {K P : AS → Prop} {Q : Exit → AS → Prop} {s : AS} {id id' : Nat}
instance : UW (thenQ K Q .ret s) (Q .ret s) := ⟨thenQ_ret⟩
instance : UW (thenQ K Q (.exit id) s) (Q (.exit id) s) := ⟨thenQ_exit⟩
instance : UW (blockQ id Q .ret s) (Q .ret s) := ⟨blockQ_ret⟩
instance : UW (blockQ id Q .normal s) (Q .normal s) := ⟨blockQ_normal⟩
instance : UW (blockQ id Q (.exit id) s) (Q .normal s) := ⟨blockQ_exit⟩
instance : UO (blockQ id Q (.exit id') s) (Nat.beq id' id) (Q (.exit id') s) := ⟨blockQ_other⟩
instance : UW (noGoto Q .ret s) (Q .ret s) := ⟨noGoto_ret⟩
instance : UW (noGoto Q (.exit id) s) (Q (.exit id) s) := ⟨noGoto_exit⟩
instance : UW (noGoto Q .normal s) (Q .normal s) := ⟨noGoto_normal⟩
instance : UW (exQ id P Q (.exit id) s) (P s) := ⟨exQ_hit⟩
instance : UO (exQ id P Q (.exit id') s) (Nat.beq id' id) (Q (.exit id') s) := ⟨exQ_other⟩
instance : UW (exQ id P Q .ret s) (Q .ret s) := ⟨exQ_ret⟩
instance : UW (exQ id P Q .normal s) (Q .normal s) := ⟨exQ_normal⟩
end
abbrev ro := @rwpL_op
abbrev rn := @rwpL_nil
theorem oi {α : Type} {a b : α} (h : some a = some b) : a = b := Option.some.inj h
theorem dt {p : Prop} [Decidable p] (h : p) : decide p = true := decide_eq_true h
theorem df {p : Prop} [Decidable p] (h : ¬p) : decide p = false := decide_eq_false h
theorem sr {x : AV} : x.sub x := AV.sub_refl x
theorem er {s : List (Nat × AV)} {j : Nat} {x : AV} (h : look s j = some x) : ∃ y, look s j = some y ∧ y.sub x := ⟨x, h, sr⟩
end Go.Ab

namespace Go.Ab
/-- Whatever the first answers, the second answers. -/
def Le {α : Type} (o o' : Option α) : Prop := ∀ r, o = some r → o' = some r
section
variable {α β : Type}
theorem le_refl (o : Option α) : Le o o := fun _ h => h
theorem le_none (o : Option α) : Le none o := fun _ h => by cases h
theorem le_ck {p : Prop} [Decidable p] {o o' : Option α} (h : Le o o') : Le (ck p o) (ck p o') := fun r hr => by
  unfold ck at hr ⊢
  split at hr
  · rename_i hp; rw [if_pos hp]; exact h r hr
  · cases hr
theorem le_ite {p : Prop} [Decidable p] {a b a' b' : Option α} (h : Le a a') (k : Le b b') : Le (if p then a else b) (if p then a' else b') := by
  by_cases hp : p
  · simpa only [if_pos hp] using h
  · simpa only [if_neg hp] using k
theorem le_bind {g g' : Option β} {k k' : β → Option α} (h : Le g g') (hk : ∀ x, Le (k x) (k' x)) : Le (g.bind k) (g'.bind k') := fun r hr => by
  cases g with
  | none => cases hr
  | some x => rw [h x rfl]; exact hk x r hr
theorem le_jn {g g' : Option (β ⊕ α)} {k k' : β → Option α} (h : Le g g') (hk : ∀ x, Le (k x) (k' x)) : Le (jn g k) (jn g' k') := fun r hr => by
  cases g with
  | none => cases hr
  | some x => rw [h x rfl]; cases x with
    | inl x => exact hk x r hr
    | inr y => exact hr
/-- What is answered once is answered from there on. -/
theorem ev_once {f : Nat → Option α} (N : Nat) {r : α} (h : f N = some r) (hm : ∀ n, N ≤ n → Le (f N) (f n)) {P : α → Prop} (hp : P r) : Ev2 (fun n _ => f n) P := ⟨r, hp, N, fun n _ hn _ => hm n hn r h⟩
end
end Go.Ab

namespace Go.Ab
open Go.RowKit
/-- string(b): a row of bytes as a text. -/
theorem op_convBS {C : Cx} {o : Oper} {K : AS → Prop} {sl : List (Nat × AV)} {ob : List (Nat × List AV)} {d : Nat} (l : List UInt8) {st dt e : TypeId} {x : Operand} {y : AV} {i ie j : TI} (ho : o.op = .convert st dt x) (hd : o.dst = some d) (hn : Nat.blt d C.n = true)
    (hi : look C.tt st = some i) (hik : i.k = .slice e) (hie : look C.tt e = some ie) (hiek : ie.k = .int .u8) (hj : look C.tt dt = some j) (hjk : j.k = .string) (hx : evo sl x = some y) (hy : y.elems? = some (l.map eU))
    (hK : K ⟨(d, .p (eS l)) :: sl, ob⟩) : OpOk C o K ⟨sl, ob⟩ := by
  obtain ⟨u, h1, h2⟩ := und_of C.good hi
  have h3 := kind_slice (h2.trans hik)
  obtain ⟨u1, g1, g2⟩ := und_of C.good hie
  have g3 := kind_int (g2.trans hiek)
  obtain ⟨u2, k1, k2⟩ := und_of C.good hj
  have k3 := kind_string (k2.trans hjk)
  subst h3 g3 k3
  refine ok_one hd hn (fun g a w hs => ⟨.string (str l), ?_, .p (.val _)⟩) hK
  have hv := elems_view hy (evo_rep hs hx)
  generalize hq : a.eval x = v at hv
  generalize hes : l.map eU = es at hv
  have hnil : es = [] → l = [] := fun q => by subst q; exact List.map_eq_nil_iff.1 hes
  cases hv with
  | nils =>
    rw [hnil rfl]
    simp only [execOp, ho, hq]
    rw [Sem.run_bind, run_convert_bytes_string w st dt e none 0 0 h1 g1 k1]
    rfl
  | nile a' =>
    rw [hnil rfl]
    simp only [execOp, ho, hq]
    rw [Sem.run_bind]
    have := run_convert_bytes_back (P := C.P) w st dt e a' 0 [] h1 g1 k1 (fun j hj => absurd hj (Nat.not_lt_zero j))
    rw [show ([] : List UInt8).length = 0 from rfl] at this
    rw [this]
    rfl
  | slice sz cf hcap hsz hone hc hr =>
    rename_i b off cap
    subst hes
    simp only [execOp, ho, hq]
    rw [List.length_map, Sem.run_bind]
    have := run_convert_bytes_back (P := C.P) w st dt e ⟨b, off, none⟩ cap l h1 g1 k1 (fun j hj => by
      have hj2 : (l.map eU)[j]? = some (eU l[j]) := by simp [hj]
      have hz : sz = 1 := (hsz (eU l[j]) (List.mem_of_getElem? hj2)).symm
      have c1 := hc j (eU l[j]) 0 (eU l[j]) hj2 rfl
      have c2 := hr j (eU l[j]) 0 (eU l[j]) hj2 rfl
      rw [hz, Nat.mul_one, Nat.add_zero] at c1
      rw [add_lit, c1.2]
      generalize cf j 0 = v at c2
      cases c2
      rfl)
    rw [this]
    rfl
end Go.Ab

namespace Go.Ab
/- The steps that occur most, their closed facts by themselves. -/
section
variable {C : Cx} {ops : Array Oper} {K : AS → Prop} {sl : List (Nat × AV)} {ob : List (Nat × List AV)} {r : List Oper} {o : Oper} {d : Nat}
theorem mv {x : Operand} {y : AV} (hK : rwpL C ops r K ⟨(d, y) :: sl, ob⟩) (hg : o.guard = none := by rfl) (ho : o.op = .move x := by rfl) (hd : o.dst = some d := by rfl) (hn : Nat.blt d C.n = true := by rfl) (hx : evo sl x = some y := by rfl) :
    rwpL C ops (o :: r) K ⟨sl, ob⟩ := rwpL_op hg (ok_move ho hd hn hx hK)
theorem ag {x : Operand} {y : AV} (hK : rwpL C ops r K ⟨(d, y) :: sl, ob⟩) (hg : o.guard = none := by rfl) (ho : o.op = .assign x := by rfl) (hd : o.dst = some d := by rfl) (hn : Nat.blt d C.n = true := by rfl) (hx : evo sl x = some y := by rfl) :
    rwpL C ops (o :: r) K ⟨sl, ob⟩ := rwpL_op hg (ok_assign ho hd hn hx hK)
end
end Go.Ab

namespace Go.Ab
section
variable {C : Cx} {ops : Array Oper} {K : AS → Prop} {sl base : List (Nat × AV)} {ob : List (Nat × List AV)} {r : List Oper} {o : Oper} {d k : Nat} {rev : Rev}
/-- A move's or an assignment's operand. -/
def mvX : Op → Option Operand
  | .move x => some x
  | .assign x => some x
  | _ => none
theorem mvX_ok {x : Operand} {y : AV} (ho : mvX o.op = some x) (hd : o.dst = some d) (hn : Nat.blt d C.n = true) (hx : evo sl x = some y) {K : AS → Prop} (hK : K ⟨(d, y) :: sl, ob⟩) : OpOk C o K ⟨sl, ob⟩ := by
  unfold mvX at ho
  split at ho
  · rename_i z h; cases ho; exact ok_move h hd hn hx hK
  · rename_i z h; cases ho; exact ok_assign h hd hn hx hK
  · cases ho
/-- The slot and the value of a move or an assignment. -/
def mvF (n : Nat) (o : Oper) (sl : List (Nat × AV)) : Option (Nat × AV) :=
  match mvX o.op with
  | some x => (match o.dst with
    | some d => bif Nat.blt d n then (match evo sl x with | some y => some (d, y) | none => none) else none
    | none => none)
  | none => none
theorem mvF_ok {y : AV} (h : mvF C.n o sl = some (d, y)) {K : AS → Prop} (hK : K ⟨(d, y) :: sl, ob⟩) : OpOk C o K ⟨sl, ob⟩ := by
  unfold mvF at h
  cases hx : mvX o.op with
  | none => rw [hx] at h; cases h
  | some x =>
    rw [hx] at h
    cases hd : o.dst with
    | none => rw [hd] at h; cases h
    | some e =>
      rw [hd] at h
      cases hn : Nat.blt e C.n with
      | false => simp only [hn, cond_false] at h; cases h
      | true =>
        simp only [hn, cond_true] at h
        cases hy : evo sl x with
        | none => rw [hy] at h; cases h
        | some z => rw [hy] at h; cases h; exact mvX_ok hx hd hn hy hK
/-- A move or an assignment. -/
theorem mw {y : AV} (hg : o.guard = none) (h : mvF C.n o sl = some (d, y)) (hK : rwpL C ops r K ⟨(d, y) :: sl, ob⟩) : rwpL C ops (o :: r) K ⟨sl, ob⟩ := rwpL_op hg (mvF_ok h hK)
/-- What guards an operation: the slot's value. -/
def gdF (ops : Array Oper) (o : Oper) (sl : List (Nat × AV)) : Option (Bool × AV) :=
  match o.guard with
  | some (j, w) => (match (ops.toList[j]?).bind (·.dst) with
    | some t => (match look sl t with | some x => some (w, x) | none => none)
    | none => none)
  | none => none
theorem gdF_ok {w : Bool} {x : AV} (h : gdF ops o sl = some (w, x)) : ∃ j t, o.guard = some (j, w) ∧ (ops.toList[j]?).bind (·.dst) = some t ∧ look sl t = some x := by
  unfold gdF at h
  cases hg : o.guard with
  | none => rw [hg] at h; cases h
  | some p =>
    obtain ⟨j, w'⟩ := p
    rw [hg] at h
    simp only at h
    cases ht : (ops.toList[j]?).bind (·.dst) with
    | none => rw [ht] at h; cases h
    | some t =>
      rw [ht] at h
      simp only at h
      cases hl : look sl t with
      | none => rw [hl] at h; cases h
      | some z => rw [hl] at h; cases h; exact ⟨j, t, rfl, ht, hl⟩
/-- A guarded operation that runs: b is what the guard says. -/
theorem gy {w b : Bool} (hb : b = w) (h : gdF ops o sl = some (w, .p (.val (.bool b)))) (h1 : OpOk C o (rwpL C ops r K) ⟨sl, ob⟩) : rwpL C ops (o :: r) K ⟨sl, ob⟩ := by
  obtain ⟨j, t, hg, hj, hv⟩ := gdF_ok h
  exact rwpL_guard_yes hg hj hv hb h1
theorem gm {w b : Bool} {y : AV} (hb : b = w) (h : gdF ops o sl = some (w, .p (.val (.bool b)))) (hm : mvF C.n o sl = some (d, y)) (hK : rwpL C ops r K ⟨(d, y) :: sl, ob⟩) : rwpL C ops (o :: r) K ⟨sl, ob⟩ := gy hb h (mvF_ok hm hK)
def dsF (n : Nat) (o : Oper) : Option Nat := match o.dst with
  | some d => bif Nat.blt d n then some d else none
  | none => none
theorem dsF_ok {n : Nat} (h : dsF n o = some d) : o.dst = some d ∧ Nat.blt d n = true := by
  unfold dsF at h
  cases hd : o.dst with
  | none => rw [hd] at h; cases h
  | some e =>
    rw [hd] at h
    cases hn : Nat.blt e n with
    | false => simp only [hn, cond_false] at h; cases h
    | true => simp only [hn, cond_true] at h; cases h; exact ⟨rfl, hn⟩
/-- A guarded operation that does not run. -/
theorem gnT {b : Bool} (hb : b = false) (h : gdF ops o sl = some (true, .p (.val (.bool b)))) (hd : dsF C.n o = some d) (h1 : rwpL C ops r K ⟨(d, .p (.val Go.undef)) :: sl, ob⟩) : rwpL C ops (o :: r) K ⟨sl, ob⟩ := by
  obtain ⟨j, t, hg, hj, hv⟩ := gdF_ok h
  exact rwpL_guard_no hg hj hv hb (dsF_ok hd).1 (dsF_ok hd).2 h1
theorem gnF {b : Bool} (hb : b = true) (h : gdF ops o sl = some (false, .p (.val (.bool b)))) (hd : dsF C.n o = some d) (h1 : rwpL C ops r K ⟨(d, .p (.val Go.undef)) :: sl, ob⟩) : rwpL C ops (o :: r) K ⟨sl, ob⟩ := by
  obtain ⟨j, t, hg, hj, hv⟩ := gdF_ok h
  exact rwpL_guard_no hg hj hv hb (dsF_ok hd).1 (dsF_ok hd).2 h1
theorem gnU {w : Bool} (h : gdF ops o sl = some (w, .p (.val (.tuple #[])))) (hd : dsF C.n o = some d) (h1 : rwpL C ops r K ⟨(d, .p (.val Go.undef)) :: sl, ob⟩) : rwpL C ops (o :: r) K ⟨sl, ob⟩ := by
  obtain ⟨j, t, hg, hj, hv⟩ := gdF_ok h
  exact rwpL_guard_none hg hj hv (dsF_ok hd).1 (dsF_ok hd).2 h1

/-! ### Regions that draw -/
def knK : Rev → Nat → Option Nat
  | [], _ => none
  | (k, i, _) :: r, j => bif Nat.beq i j then some k else knK r j
def knX (base : List (Nat × AV)) (o : Oper) (rev : Rev) (i : Nat) : Option AV :=
  match look base i with
  | some x => some x
  | none => (match knK rev i with
    | some k => bif (o.after.toList.any fun e => Nat.beq e.on k && Region.binds .any e) then (match lookR rev k with
        | some (j, x) => bif Nat.beq j i then some x else none
        | none => none) else none
    | none => none)
def knOf (base : List (Nat × AV)) (o : Oper) (rev : Rev) : List Nat → Option (List (Nat × AV))
  | [] => some []
  | i :: r => match knX base o rev i with
    | some x => (match knOf base o rev r with | some l => some ((i, x) :: l) | none => none)
    | none => none
theorem knX_ok {i : Nat} {x : AV} (h : knX base o rev i = some x) : look base i = some x ∨ ∃ k, (o.after.toList.any fun e => Nat.beq e.on k && Region.binds .any e) = true ∧ lookR rev k = some (i, x) := by
  unfold knX at h
  cases hb : look base i with
  | some y => rw [hb] at h; exact .inl h
  | none =>
    rw [hb] at h
    simp only at h
    cases hk : knK rev i with
    | none => rw [hk] at h; cases h
    | some k =>
      rw [hk] at h
      simp only at h
      cases ha : (o.after.toList.any fun e => Nat.beq e.on k && Region.binds .any e) with
      | false => rw [ha] at h; cases h
      | true =>
        rw [ha] at h
        simp only [cond_true] at h
        cases hl : lookR rev k with
        | none => rw [hl] at h; cases h
        | some p =>
          obtain ⟨j, y⟩ := p
          rw [hl] at h
          simp only at h
          cases hj : Nat.beq j i with
          | false => rw [hj] at h; cases h
          | true => rw [hj] at h; cases h; exact .inr ⟨k, ha, by rw [hl, Nat.eq_of_beq_eq_true hj]⟩
theorem knOf_ok : ∀ {l : List Nat} {kn : List (Nat × AV)}, knOf base o rev l = some kn → KnOk base o rev kn
  | [], kn, h => by cases h; trivial
  | i :: l, kn, h => by
    unfold knOf at h
    cases hx : knX base o rev i with
    | none => rw [hx] at h; cases h
    | some x =>
      rw [hx] at h
      simp only at h
      cases hr : knOf base o rev l with
      | none => rw [hr] at h; cases h
      | some m => rw [hr] at h; cases h; exact ⟨knX_ok hx, knOf_ok hr⟩
/-- The slot is new. -/
def nwF (base : List (Nat × AV)) (rev : Rev) (o : Oper) : Option Nat := match o.dst with
  | some d => bif (rev.all fun p => !(Nat.beq p.2.1 d)) then (match look base d with | none => some d | some _ => none) else none
  | none => none
theorem nwF_ok (h : nwF base rev o = some d) : o.dst = some d ∧ (rev.all fun p => !(Nat.beq p.2.1 d)) = true ∧ look base d = none := by
  unfold nwF at h
  cases hd : o.dst with
  | none => rw [hd] at h; cases h
  | some e =>
    rw [hd] at h
    simp only at h
    cases ha : (rev.all fun p => !(Nat.beq p.2.1 e)) with
    | false => rw [ha] at h; cases h
    | true =>
      rw [ha] at h
      simp only [cond_true] at h
      cases hl : look base e with
      | some _ => rw [hl] at h; cases h
      | none => rw [hl] at h; cases h; exact ⟨rfl, ha, hl⟩
/-- A step of a region that draws: the slots that it must know are named. -/
theorem dq {rest : List Oper} {kn : List (Nat × AV)} (x : AV) (l : List Nat) (hk : knOf base o rev l = some kn) (hs : StepK C ops ob o kn d x) (hn : nwF base rev o = some d) (h : DQ C ops base ob K rest (k + 1) ((k, d, x) :: rev)) : DQ C ops base ob K (o :: rest) k rev :=
  dq_cons x kn (knOf_ok hk) hs (nwF_ok hn).1 (nwF_ok hn).2.1 (nwF_ok hn).2.2 h
theorem evo_kn {kn : List (Nat × AV)} (hs : ∀ i x, look kn i = some x → look sl i = some x) {x : Operand} {y : AV} (h : evo kn x = some y) : evo sl x = some y := by
  cases x with
  | tmp t => exact hs _ _ h
  | const v => exact h
  | func f => exact h
  | global g => exact h
/-- A move or an assignment in such a region. -/
theorem dqm {rest : List Oper} {kn : List (Nat × AV)} {x : Operand} {y : AV} (l : List Nat) (hk : knOf base o rev l = some kn) (hg : o.guard = none) (ho : mvX o.op = some x) (hx : evo kn x = some y) (hn : nwF base rev o = some d) (hb : Nat.blt d C.n = true) (h : DQ C ops base ob K rest (k + 1) ((k, d, y) :: rev)) : DQ C ops base ob K (o :: rest) k rev :=
  dq y l hk (fun _ e _ q => one_op hg (mvX_ok ho (nwF_ok hn).1 hb (evo_kn e hx) q)) hn h
/-- A guarded one that runs. -/
theorem dqy {rest : List Oper} {kn : List (Nat × AV)} {x : Operand} {y : AV} {w b : Bool} {j t : Nat} (l : List Nat) (hk : knOf base o rev l = some kn) (hg : o.guard = some (j, w)) (hj : (ops.toList[j]?).bind (·.dst) = some t) (hv : look kn t = some (.p (.val (.bool b)))) (hb : b = w) (ho : mvX o.op = some x) (hx : evo kn x = some y) (hn : nwF base rev o = some d) (hc : Nat.blt d C.n = true) (h : DQ C ops base ob K rest (k + 1) ((k, d, y) :: rev)) : DQ C ops base ob K (o :: rest) k rev :=
  dq y l hk (fun _ e _ q => one_yes (mvX_ok ho (nwF_ok hn).1 hc (evo_kn e hx) q) hg hj (e _ _ hv) hb) hn h
/-- A guarded one that does not run. -/
theorem dqn {rest : List Oper} {kn : List (Nat × AV)} {w b : Bool} {j t : Nat} (l : List Nat) (hk : knOf base o rev l = some kn) (hg : o.guard = some (j, w)) (hj : (ops.toList[j]?).bind (·.dst) = some t) (hv : look kn t = some (.p (.val (.bool b)))) (hb : b = !w) (hn : nwF base rev o = some d) (hc : Nat.blt d C.n = true) (h : DQ C ops base ob K rest (k + 1) ((k, d, .p (.val Go.undef)) :: rev)) : DQ C ops base ob K (o :: rest) k rev :=
  dq _ l hk (fun _ e _ q => one_no hg hj (e _ _ hv) hb (nwF_ok hn).1 hc q) hn h
end
/-! ### Short names -/
abbrev oc := @ok_cmp
abbrev pt := @ok_pick_true
abbrev pf := @ok_pick_false
abbrev fa := @ok_fieldAddrP
abbrev l1 := @ok_loadP1
abbrev cP := @ok_callP
abbrev xt := @ok_extract
abbrev st := @ok_store
abbrev ar := @ok_ar
abbrev ix := @op_indexS
abbrev cs := @ok_cmpS
abbrev lA := @ok_loadPA
abbrev ln := @ok_lenS
abbrev nt := @ok_not
abbrev cc := @ok_concat
abbrev bu := @ok_build
abbrev nc := @ok_nilCheckP
abbrev al := @ok_alloc
abbrev bt := @ok_bit
abbrev cV := @op_callV
abbrev ss := @op_sliceS
abbrev sq := @awp_seq
abbrev rg := @awp_reg
abbrev sk := @awp_skip
abbrev rt := @awp_ret
abbrev gh := @awp_ghost
abbrev gl := @ghost_le
abbrev rm := @reta_mk
abbrev iD := @wp_ifD
abbrev gD := @gd_D
abbrev lb := @Nat.le_of_ble_eq_true
abbrev jN := @awp_joinN
abbrev jE := @awp_joinE
abbrev su := @sub_tuple
end Go.Ab

namespace Go.Ab
/-- What is left to do, from the inside out. -/
inductive Fr where
  | sq (y : Code)
  | bk (id : Nat)
  | ng
  | jo (P : AS → Prop)
  | je (id : Nat) (P : AS → Prop)
inductive Ct where
  | cd (c : Code)
  | op (ops : Array Oper) (r : List Oper)
  | ex (e : Exit)
structure Cf where
  c : Ct
  k : List Fr
  s : AS
def dn (C : Cx) (Q : Exit → AS → Prop) : List Fr → Exit → AS → Prop
  | [] => fun e s => ∃ t, Ghost C s t ∧ Q e t
  | .sq y :: k => thenQ (awp C y (dn C Q k)) (dn C Q k)
  | .bk id :: k => blockQ id (dn C Q k)
  | .ng :: k => noGoto (dn C Q k)
  | .jo P :: k => thenQ (fun s => ∃ t, Ghost C s t ∧ P t) (dn C Q k)
  | .je id P :: k => exQ id (fun s => ∃ t, Ghost C s t ∧ P t) (dn C Q k)
def M (C : Cx) (Q : Exit → AS → Prop) : Cf → Prop
  | ⟨.cd c, k, s⟩ => awp C c (dn C Q k) s
  | ⟨.op ops r, k, s⟩ => rwpL C ops r (dn C Q k .normal) s
  | ⟨.ex e, k, s⟩ => dn C Q k e s
def pop : List Fr → Exit → AS → Option Cf
  | [], e, s => some ⟨.ex e, [], s⟩
  | .sq y :: k, .normal, s => some ⟨.cd y, k, s⟩
  | .sq _ :: k, .exit i, s => pop k (.exit i) s
  | .sq _ :: k, .ret, s => pop k .ret s
  | .bk _ :: k, .normal, s => pop k .normal s
  | .bk id :: k, .exit i, s => (match Nat.beq i id with | true => pop k .normal s | false => pop k (.exit i) s)
  | .bk _ :: k, .ret, s => pop k .ret s
  | .ng :: k, .normal, s => pop k .normal s
  | .ng :: k, .exit i, s => pop k (.exit i) s
  | .ng :: k, .ret, s => pop k .ret s
  | .jo P :: k, .normal, s => some ⟨.ex .normal, .jo P :: k, s⟩
  | .jo _ :: k, .exit i, s => pop k (.exit i) s
  | .jo _ :: k, .ret, s => pop k .ret s
  | .je _ _ :: k, .normal, s => pop k .normal s
  | .je id P :: k, .exit i, s => (match Nat.beq i id with | true => some ⟨.ex (.exit i), .je id P :: k, s⟩ | false => pop k (.exit i) s)
  | .je _ _ :: k, .ret, s => pop k .ret s
  | _, _, _ => none
section
variable {C : Cx} {Q : Exit → AS → Prop} {ops : Array Oper} {K : AS → Prop} {sl : List (Nat × AV)} {ob : List (Nat × List AV)} {r : List Oper} {o : Oper} {d : Nat} {s s' : AS} {k : List Fr}
theorem pop_ok : ∀ {k : List Fr} {e : Exit} {c : Cf}, pop k e s = some c → M C Q c → dn C Q k e s
  | [], e, c, h, hM => by simp only [pop, Option.some.injEq] at h; subst h; exact hM
  | .sq y :: k, e, c, h, hM => by
    cases e <;> simp only [pop, Option.some.injEq, reduceCtorEq] at h
    · subst h; exact hM
    · exact pop_ok (k := k) h hM
    · exact pop_ok (k := k) h hM
  | .bk id :: k, e, c, h, hM => by
    cases e <;> simp only [pop, reduceCtorEq] at h
    · exact pop_ok (k := k) h hM
    · rename_i i
      split at h
      · rename_i hb
        rw [Nat.eq_of_beq_eq_true hb]
        exact blockQ_exit (pop_ok (k := k) h hM)
      · rename_i hb; exact blockQ_other hb (pop_ok (k := k) h hM)
    · exact pop_ok (k := k) h hM
  | .ng :: k, e, c, h, hM => by
    cases e <;> simp only [pop, reduceCtorEq] at h
    · exact pop_ok (k := k) h hM
    · exact pop_ok (k := k) h hM
    · exact pop_ok (k := k) h hM
  | .jo P :: k, e, c, h, hM => by
    cases e <;> simp only [pop, Option.some.injEq, reduceCtorEq] at h
    · subst h; exact hM
    · exact pop_ok (k := k) h hM
    · exact pop_ok (k := k) h hM
  | .je id P :: k, e, c, h, hM => by
    cases e <;> simp only [pop, reduceCtorEq] at h
    · exact exQ_normal (pop_ok (k := k) h hM)
    · rename_i i
      split at h
      · rename_i hb
        cases h; exact hM
      · rename_i hb; exact exQ_other hb (pop_ok (k := k) h hM)
    · exact exQ_ret (pop_ok (k := k) h hM)

/-! ### Operations -/
def putF (C : Cx) (o : Oper) : AS → AV → Option AS
  | ⟨sl, ob⟩, y => match o.dst with
    | some d => (match Nat.blt d C.n with | true => some ⟨(d, y) :: sl, ob⟩ | false => none)
    | none => none
theorem putF_ok {y : AV} (h : putF C o ⟨sl, ob⟩ y = some s') : ∃ d, o.dst = some d ∧ Nat.blt d C.n = true ∧ s' = ⟨(d, y) :: sl, ob⟩ := by
  simp only [putF] at h
  split at h
  · rename_i d hd
    split at h
    · rename_i hn; cases h; exact ⟨d, hd, hn, rfl⟩
    · cases h
  · cases h
def ikE (a b : IntKind) : Bool := Nat.beq a.ctorIdx b.ctorIdx
theorem ikE_ok {a b : IntKind} (h : ikE a b = true) : a = b := by cases a <;> cases b <;> first | rfl | cases h
def pkP (sl : List (Nat × AV)) (x y : Operand) : Option AV → Option AV
  | some (.p (.val (.bool true))) => evo sl x
  | some (.p (.val (.bool false))) => evo sl y
  | _ => none
def bnP (C : Cx) (op : BinOp) (t : TypeId) : Option AV → Option AV → Option AV
  | some (.p (.val (.int k a))), some (.p (.val (.int k' b))) => (match ikE k' k with
    | true => (match cmpI op a b with
      | some c => some (.p (.val (.bool c)))
      | none => (match bitI k op a b with
        | some c => some (.p (.val (.int k c)))
        | none => (match ikE k .i64 with
          | true => none
          | false => (match arI op a b with
            | some c => some (.p (.val (.int k (k.wrap c))))
            | none => none))))
    | false => none)
  | some (.p (.val (.bool a))), some (.p (.val (.bool b))) => (match look C.tt t with
    | some i => (match i.k with
      | .bool => (match cmpB op a b with | some c => some (.p (.val (.bool c))) | none => none)
      | _ => none)
    | none => none)
  | _, _ => none
def faP (C : Cx) (t f : Nat) (X : Option AV) : Option AV := match look C.tt t with
  | some i => (match i.k with
    | .struct fs => (match fs[f]? with
      | some (off, ft) => (match look C.tt ft with
        | some j => (match Nat.beq j.size 0 with
          | false => (match X with
            | some (.ptr id k) => some (.ptr id (k + off))
            | some (.rptr cs) => some (.rptr (cs.drop off))
            | _ => none)
          | true => none)
        | none => none)
      | none => none)
    | _ => none)
  | none => none
def ldP (C : Cx) (ob : List (Nat × List AV)) (t : Nat) (X : Option AV) : Option AV := match look C.tt t with
  | some i => (match X with
    | some (.ptr id k) => (match look ob id with
      | some cs => (match i.k.isAgg with
        | false => cs[k]?
        | true => (match Nat.ble (k + i.size) cs.length with
          | true => (match mkAgg ((cs.drop k).take i.size) with
            | .p y => some (.p y)
            | .agg l => some (.agg l)
            | _ => none)
          | false => none))
      | none => none)
    | some (.rptr cs) => (match i.k.isAgg with
      | false => (match cs.head? with | some y => some (.p y) | none => none)
      | true => (match Nat.ble i.size cs.length with
        | true => some (.p (.agg (cs.take i.size)))
        | false => none))
    | _ => none)
  | none => none
/-- A list's cells, each brought up. -/
def nrm {α : Type} : List α → Option (List α)
  | [] => some []
  | x :: r => (match nrm r with | some l => some (x :: l) | none => none)
theorem nrm_ok {α : Type} : ∀ {l l' : List α}, nrm l = some l' → l' = l
  | [], l', h => by cases h; rfl
  | x :: r, l', h => by
    unfold nrm at h
    split at h
    · rename_i m hm; cases h; rw [nrm_ok hm]
    · cases h
def stP (C : Cx) (o : Oper) (sl : List (Nat × AV)) (ob : List (Nat × List AV)) (t : Nat) (x v : Operand) : Option AS := match o.dst with
  | none => (match look C.tt t with
    | some i => (match evo sl x with
      | some (.ptr id k) => (match evo sl v with
        | some y => (match y.cellsA with
          | some xs => (match Nat.beq xs.length i.size with
            | true => (match look ob id with
              | some cs => (match Nat.ble (k + xs.length) cs.length with
                | true => (match nrm (updL cs k xs) with
                  | some ds => some ⟨sl, (id, ds) :: ob⟩
                  | none => none)
                | false => none)
              | none => none)
            | false => none)
          | none => none)
        | none => none)
      | _ => none)
    | none => none)
  | some _ => none
/-- A value, brought up. -/
def frc : AV → Option AV
  | .undef => some .undef
  | .p x => some (.p x)
  | .agg cs => some (.agg cs)
  | .vec a b c e => some (.vec a b c e)
  | .arr a b c e => some (.arr a b c e)
  | .ptr a b => some (.ptr a b)
  | .bptr a b c => some (.bptr a b c)
  | .rptr cs => some (.rptr cs)
  | .tuple vs => some (.tuple vs)
  | .func f cs => some (.func f cs)
  | .mp a b => some (.mp a b)
  | .mpr a b c d e => some (.mpr a b c d e)
  | .stk a b c => some (.stk a b c)
  | .sem R => some (.sem R)
  | .it a b c => some (.it a b c)
  | .vecp a b c e => some (.vecp a b c e)
  | .elp a b => some (.elp a b)
theorem frc_ok {x y : AV} (h : frc x = some y) : y = x := by cases x <;> (cases h; rfl)
def dmS (D : Nat → Bool) : List (Nat × AV) → Option (List (Nat × AV))
  | [] => some []
  | (i, x) :: r => (match frc (x.dem D) with
    | some y => (match dmS D r with | some l => some ((i, y) :: l) | none => none)
    | none => none)
theorem dmS_ok {D : Nat → Bool} : ∀ {l l' : List (Nat × AV)}, dmS D l = some l' → l' = l.map fun p => (p.1, p.2.dem D)
  | [], l', h => by cases h; rfl
  | (i, x) :: r, l', h => by
    unfold dmS at h
    split at h
    · rename_i y hy
      split at h
      · rename_i m hm; cases h; rw [frc_ok hy, dmS_ok hm]; rfl
      · cases h
    · cases h
def dmC (D : Nat → Bool) : List AV → Option (List AV)
  | [] => some []
  | x :: r => (match frc (x.dem D) with
    | some y => (match dmC D r with | some l => some (y :: l) | none => none)
    | none => none)
theorem dmC_ok {D : Nat → Bool} : ∀ {l l' : List AV}, dmC D l = some l' → l' = demL D l
  | [], l', h => by cases h; rfl
  | x :: r, l', h => by
    unfold dmC at h
    split at h
    · rename_i y hy
      split at h
      · rename_i m hm; cases h; rw [frc_ok hy, dmC_ok hm]; rfl
      · cases h
    · cases h
def dmO (D : Nat → Bool) : List (Nat × List AV) → Option (List (Nat × List AV))
  | [] => some []
  | (i, cs) :: r => (match D i with
    | true => dmO D r
    | false => (match dmC D cs with
      | some ds => (match dmO D r with | some l => some ((i, ds) :: l) | none => none)
      | none => none))
theorem dmO_ok {D : Nat → Bool} : ∀ {l l' : List (Nat × List AV)}, dmO D l = some l' → l' = (l.filter fun p => !D p.1).map fun p => (p.1, demL D p.2)
  | [], l', h => by cases h; rfl
  | (i, cs) :: r, l', h => by
    unfold dmO at h
    split at h
    · rename_i hD; rw [dmO_ok h]; simp [List.filter_cons, hD]
    · rename_i hD
      split at h
      · rename_i ds hds
        split at h
        · rename_i m hm; cases h; rw [dmC_ok hds, dmO_ok hm]; simp [List.filter_cons, hD]
        · cases h
      · cases h
/-- A new object. -/
def nwP (C : Cx) (o : Oper) (sl0 : List (Nat × AV)) (ob0 : List (Nat × List AV)) (cs : List AV) : Option AS := match o.dst with
  | some d => (match Nat.blt d C.n with
    | true => (match dmS (fun i => Nat.beq i d) sl0 with
      | some sl => (match dmC (fun i => Nat.beq i d) cs with
        | some ds => (match dmO (fun i => Nat.beq i d) ob0 with
          | some ob => some ⟨(d, .ptr d 0) :: sl, (d, ds) :: ob⟩
          | none => none)
        | none => none)
      | none => none)
    | false => none)
  | none => none
theorem nwP_ok {cs : List AV} (h : nwP C o sl ob cs = some s') : ∃ d, o.dst = some d ∧ Nat.blt d C.n = true ∧ s' = ⟨(d, .ptr d 0) :: (demS (fun i => Nat.beq i d) ⟨sl, ob⟩).sl, (d, demL (fun i => Nat.beq i d) cs) :: (demS (fun i => Nat.beq i d) ⟨sl, ob⟩).ob⟩ := by
  unfold nwP at h
  split at h
  · rename_i d hd
    split at h
    · rename_i hn
      split at h
      · rename_i a ha
        split at h
        · rename_i b hb
          split at h
          · rename_i c hc
            cases h
            exact ⟨d, hd, hn, by rw [dmS_ok ha, dmC_ok hb, dmO_ok hc]; rfl⟩
          · cases h
        · cases h
      · cases h
    · cases h
  · cases h
def ncP : Option AV → Option AV
  | some (.ptr id k) => some (.ptr id k)
  | _ => none
def xtP (k : Nat) : Option AV → Option AV
  | some (.tuple l) => l[k]?
  | _ => none
def ntP : Option AV → Option AV
  | some (.p (.val (.bool b))) => some (.p (.val (.bool (!b))))
  | _ => none
def flP (C : Cx) (t f : Nat) (X : Option AV) : Option AV := match look C.tt t with
  | some i => (match i.k with
    | .struct fs => (match fs[f]? with
      | some (off, ft) => (match look C.tt ft with
        | some j => (match X with
          | some (.p (.agg cs)) => (match j.k.isAgg with
            | false => (match cs[off]? with | some c => some (.p c) | none => none)
            | true => (match Nat.ble (off + j.size) cs.length with
              | true => (match nrm ((cs.drop off).take j.size) with
                | some ds => some (.p (.agg ds))
                | none => none)
              | false => none))
          | _ => none)
        | none => none)
      | none => none)
    | _ => none)
  | none => none
def cvP (C : Cx) (st dt : Nat) (X : Option AV) : Option AV := match look C.tt st with
  | some i => (match i.k with
    | .int k' => (match look C.tt dt with
      | some j => (match j.k with
        | .int k => (match X with
          | some (.p (.val (.int k2 a))) => (match ikE k2 k' with
            | true => (match ikE k .i64 with
              | true => none
              | false => some (.p (.val (.int k (k.wrap a)))))
            | false => none)
          | _ => none)
        | _ => none)
      | none => none)
    | _ => none)
  | none => none
def agP (cs : List AV) : Option AV := match nrm cs with
  | some ds => (match mkAgg ds with
    | .p y => some (.p y)
    | .agg l => some (.agg l)
    | _ => none)
  | none => none
def buP (C : Cx) (t : Nat) (X : Option (List (Nat × AV))) : Option AV := match look C.tt t with
  | some i => (match i.k with
    | .struct fs => (match placesA C.tt fs with
      | some pl => (match X with
        | some ps => (match fillA (fun (i : Nat) => pl[i]?) (zerosA i) ps with
          | some cs => agP cs
          | none => none)
        | none => none)
      | none => none)
    | .array _ e => (match look C.tt e with
      | some ie => (match X with
        | some ps => (match fillA (fun (k : Nat) => some (k * ie.size, ie.size)) (zerosA i) ps with
          | some cs => agP cs
          | none => none)
        | none => none)
      | none => none)
    | _ => none)
  | none => none
def laP (C : Cx) (c : Call) (sl : List (Nat × AV)) : Option AV := match c with
  | ⟨.builtin .len, ⟨[x]⟩, ⟨[t]⟩⟩ => (match look C.tt t with
    | some i => (match i.k with
      | .slice _ => (match evo sl x with
        | some (.arr _ _ _ m) => some (.p (.val (.int .i64 (m : Int))))
        | _ => none)
      | _ => none)
    | none => none)
  | _ => none
def alP (C : Cx) (o : Oper) (sl : List (Nat × AV)) (ob : List (Nat × List AV)) (t : Nat) : Option AS := match look C.tt t with
  | some i => (match AV.cellsA (.agg (zerosA i)) with
    | some cs => (match nrm cs with | some ds => nwP C o sl ob ds | none => none)
    | none => none)
  | none => none
def bxP (C : Cx) (o : Oper) (sl : List (Nat × AV)) (ob : List (Nat × List AV)) (v : Operand) : Option AS := match evo sl v with
  | some x => (match x.cellsA with
    | some cs => (match nrm cs with | some ds => nwP C o sl ob ds | none => none)
    | none => none)
  | none => none
/-- The value of an operation that changes nothing else. -/
def opV (C : Cx) (o : Oper) (sl : List (Nat × AV)) (ob : List (Nat × List AV)) : Option AV := match o.op with
  | .move x => evo sl x
  | .assign x => evo sl x
  | .pick c x y => pkP sl x y (evo sl c)
  | .binOp op t x y _ => bnP C op t (evo sl x) (evo sl y)
  | .unOp .not _ x => ntP (evo sl x)
  | .fieldAddr t x f => faP C t f (evo sl x)
  | .load t x => ldP C ob t (evo sl x)
  | .nilCheck x => ncP (evo sl x)
  | .extract x k => xtP k (evo sl x)
  | .field t x f => flP C t f (evo sl x)
  | .convert st dt x => cvP C st dt (evo sl x)
  | .build t parts => buP C t (partsA sl parts.toList)
  | .call c => laP C c sl
  | _ => none
def opF (C : Cx) (o : Oper) : AS → Option AS
  | ⟨sl, ob⟩ => match o.op with
  | .store t x v => stP C o sl ob t x v
  | .box _ v => bxP C o sl ob v
  | .alloc t => alP C o sl ob t
  | .move x => (match evo sl x with
    | some y => putF C o ⟨sl, ob⟩ y
    | none => putF C o ⟨sl, ob⟩ .undef)
  | .assign x => (match evo sl x with
    | some y => putF C o ⟨sl, ob⟩ y
    | none => putF C o ⟨sl, ob⟩ .undef)
  | _ => (match opV C o sl ob with
    | some y => putF C o ⟨sl, ob⟩ y
    | none => none)

theorem pkP_ok {c x y : Operand} {z : AV} (ho : o.op = .pick c x y) (h : pkP sl x y (evo sl c) = some z) (hd : o.dst = some d) (hn : Nat.blt d C.n = true) (hK : K ⟨(d, z) :: sl, ob⟩) : OpOk C o K ⟨sl, ob⟩ := by
  generalize hc : evo sl c = v at h
  unfold pkP at h
  split at h
  · exact ok_pick_true ho hd hn hc rfl h hK
  · exact ok_pick_false ho hd hn hc rfl h hK
  · cases h
theorem bnP_ok {op : BinOp} {t t' : TypeId} {x y : Operand} {z : AV} (ho : o.op = .binOp op t x y t') (h : bnP C op t (evo sl x) (evo sl y) = some z) (h1 : o.dst = some d) (h2 : Nat.blt d C.n = true) (hK : K ⟨(d, z) :: sl, ob⟩) : OpOk C o K ⟨sl, ob⟩ := by
  generalize hx : evo sl x = X at h
  generalize hy : evo sl y = Y at h
  unfold bnP at h
  split at h
  · rename_i k a k' b
    split at h
    · rename_i hk
      have := ikE_ok hk; subst this
      split at h
      · rename_i c hc
        cases h; exact ok_cmp ho h1 h2 hx hy hc hK
      · split at h
        · rename_i c hc
          cases h; exact ok_bit ho h1 h2 hx hy hc hK
        · split at h
          · cases h
          · split at h
            · rename_i c hc
              cases h; exact ok_arw ho h1 h2 hx hy hc hK
            · cases h
    · cases h
  · split at h
    · rename_i i hi
      split at h
      · rename_i hk
        split at h
        · rename_i c hc
          cases h; exact ok_cmpB ho h1 h2 hi hk hx hy hc hK
        · cases h
      · cases h
    · cases h
  · cases h
theorem faP_ok {t f : Nat} {x : Operand} {z : AV} (ho : o.op = .fieldAddr t x f) (h : faP C t f (evo sl x) = some z) (h1 : o.dst = some d) (h2 : Nat.blt d C.n = true) (hK : K ⟨(d, z) :: sl, ob⟩) : OpOk C o K ⟨sl, ob⟩ := by
  generalize hx : evo sl x = X at h
  unfold faP at h
  split at h
  · rename_i i hi
    split at h
    · rename_i fs hk
      split at h
      · rename_i off ft hf
        split at h
        · rename_i j hj
          split at h
          · rename_i hs
            split at h
            · cases h; exact ok_fieldAddrP ho h1 h2 hi hk hf hj hs hx hK
            · cases h; exact ok_fieldAddrR ho h1 h2 hi hk hf hj hs hx hK
            · cases h
          · cases h
        · cases h
      · cases h
    · cases h
  · cases h
theorem ldP_ok {t : Nat} {x : Operand} {z : AV} (ho : o.op = .load t x) (h : ldP C ob t (evo sl x) = some z) (h1 : o.dst = some d) (h2 : Nat.blt d C.n = true) (hK : K ⟨(d, z) :: sl, ob⟩) : OpOk C o K ⟨sl, ob⟩ := by
  generalize hx : evo sl x = X at h
  unfold ldP at h
  split at h
  · rename_i i hi
    split at h
    · rename_i id k
      split at h
      · rename_i cs hob
        split at h
        · rename_i ha
          exact ok_loadP1 ho h1 h2 hi ha hx hob h hK
        · rename_i ha
          split at h
          · rename_i hl
            split at h
            · rename_i y hy
              cases h; exact ok_loadPA ho h1 h2 hi ha hx hob hl (congrArg some hy) hK
            · rename_i y hy
              cases h; exact ok_loadPA ho h1 h2 hi ha hx hob hl (congrArg some hy) hK
            · cases h
          · cases h
      · cases h
    · rename_i cs
      split at h
      · rename_i ha
        split at h
        · rename_i y hy
          cases h; exact ok_loadR1 ho h1 h2 hi ha hx hy hK
        · cases h
      · rename_i ha
        split at h
        · rename_i hl
          cases h; exact ok_loadRA ho h1 h2 hi ha hx hl hK
        · cases h
    · cases h
  · cases h
theorem stP_ok {t : Nat} {x v : Operand} (ho : o.op = .store t x v) (h : stP C o sl ob t x v = some s') (hK : K s') : OpOk C o K ⟨sl, ob⟩ := by
  unfold stP at h
  split at h
  · rename_i hd
    split at h
    · rename_i i hi
      split at h
      · rename_i id k hx
        split at h
        · rename_i y hv
          split at h
          · rename_i xs hc
            split at h
            · rename_i hsz
              split at h
              · rename_i cs hob
                split at h
                · rename_i hl
                  split at h
                  · rename_i ds hds
                    cases h
                    rw [nrm_ok hds] at hK
                    exact ok_store ho hd hi hx hv hc (Nat.eq_of_beq_eq_true hsz) hob (Nat.le_of_ble_eq_true hl) hK
                  · cases h
                · cases h
              · cases h
            · cases h
          · cases h
        · cases h
      · cases h
    · cases h
  · cases h
theorem bxP_ok {t : Nat} {v : Operand} (ho : o.op = .box t v) (h : bxP C o sl ob v = some s') (hK : K s') : OpOk C o K ⟨sl, ob⟩ := by
  unfold bxP at h
  split at h
  · rename_i x hx
    split at h
    · rename_i cs hc
      split at h
      · rename_i ds hds
        obtain ⟨d, h1, h2, rfl⟩ := nwP_ok h
        rw [nrm_ok hds] at hK
        exact ok_box ho h1 h2 hx hc hK
      · cases h
    · cases h
  · cases h
theorem alP_ok {t : Nat} (ho : o.op = .alloc t) (h : alP C o sl ob t = some s') (hK : K s') : OpOk C o K ⟨sl, ob⟩ := by
  unfold alP at h
  split at h
  · rename_i i hi
    split at h
    · rename_i cs hc
      split at h
      · rename_i ds hds
        obtain ⟨d, h1, h2, rfl⟩ := nwP_ok h
        rw [nrm_ok hds] at hK
        have e : cs = zerosA i := by
          simp only [AV.cellsA] at hc
          cases hb : AV.onesB (zerosA i) <;> rw [hb] at hc <;> cases hc
          rfl
        subst e
        exact ok_alloc ho h1 h2 hi hc hK
      · cases h
    · cases h
  · cases h
theorem ncP_ok {x : Operand} {z : AV} (ho : o.op = .nilCheck x) (h : ncP (evo sl x) = some z) (h1 : o.dst = some d) (h2 : Nat.blt d C.n = true) (hK : K ⟨(d, z) :: sl, ob⟩) : OpOk C o K ⟨sl, ob⟩ := by
  generalize hx : evo sl x = X at h
  unfold ncP at h
  split at h
  · cases h; exact ok_nilCheckP ho h1 h2 hx hK
  · cases h
theorem xtP_ok {x : Operand} {n : Nat} {z : AV} (ho : o.op = .extract x n) (h : xtP n (evo sl x) = some z) (h1 : o.dst = some d) (h2 : Nat.blt d C.n = true) (hK : K ⟨(d, z) :: sl, ob⟩) : OpOk C o K ⟨sl, ob⟩ := by
  generalize hx : evo sl x = X at h
  unfold xtP at h
  split at h
  · exact ok_extract ho h1 h2 hx h hK
  · cases h
theorem ntP_ok {t : TypeId} {x : Operand} {z : AV} (ho : o.op = .unOp .not t x) (h : ntP (evo sl x) = some z) (h1 : o.dst = some d) (h2 : Nat.blt d C.n = true) (hK : K ⟨(d, z) :: sl, ob⟩) : OpOk C o K ⟨sl, ob⟩ := by
  generalize hx : evo sl x = X at h
  unfold ntP at h
  split at h
  · cases h; exact ok_not ho h1 h2 hx hK
  · cases h
theorem flP_ok {t f : Nat} {x : Operand} {z : AV} (ho : o.op = .field t x f) (h : flP C t f (evo sl x) = some z) (h1 : o.dst = some d) (h2 : Nat.blt d C.n = true) (hK : K ⟨(d, z) :: sl, ob⟩) : OpOk C o K ⟨sl, ob⟩ := by
  generalize hx : evo sl x = X at h
  unfold flP at h
  split at h
  · rename_i i hi
    split at h
    · rename_i fs hk
      split at h
      · rename_i off ft hf
        split at h
        · rename_i j hj
          split at h
          · rename_i cs
            split at h
            · rename_i ha
              split at h
              · rename_i c hc
                cases h; exact ok_field1 ho h1 h2 hi hk hf hj ha hx hc hK
              · cases h
            · rename_i ha
              split at h
              · rename_i hl
                split at h
                · rename_i ds hds
                  rw [nrm_ok hds] at h
                  cases h; exact ok_fieldA ho h1 h2 hi hk hf hj ha hx hl hK
                · cases h
              · cases h
          · cases h
        · cases h
      · cases h
    · cases h
  · cases h
theorem cvP_ok {st dt : Nat} {x : Operand} {z : AV} (ho : o.op = .convert st dt x) (h : cvP C st dt (evo sl x) = some z) (h1 : o.dst = some d) (h2 : Nat.blt d C.n = true) (hK : K ⟨(d, z) :: sl, ob⟩) : OpOk C o K ⟨sl, ob⟩ := by
  generalize hx : evo sl x = X at h
  unfold cvP at h
  split at h
  · rename_i i hi
    split at h
    · rename_i k' hk'
      split at h
      · rename_i j hj
        split at h
        · rename_i k hk
          split at h
          · rename_i k2 a
            split at h
            · rename_i hb
              have := ikE_ok hb; subst this
              split at h
              · cases h
              · cases h; exact ok_convW ho h1 h2 hi hk' hj hk hx hK
            · cases h
          · cases h
        · cases h
      · cases h
    · cases h
  · cases h
theorem agP_ok {cs : List AV} {z : AV} (h : agP cs = some z) : some (mkAgg cs) = some z := by
  unfold agP at h
  split at h
  · rename_i ds hds
    have e := nrm_ok hds
    subst e
    split at h
    · rename_i y hy; cases h; exact congrArg some hy
    · rename_i y hy; cases h; exact congrArg some hy
    · cases h
  · cases h
theorem buP_ok {t : Nat} {parts : Array (Nat × Operand)} {z : AV} (ho : o.op = .build t parts) (h : buP C t (partsA sl parts.toList) = some z) (h1 : o.dst = some d) (h2 : Nat.blt d C.n = true) (hK : K ⟨(d, z) :: sl, ob⟩) : OpOk C o K ⟨sl, ob⟩ := by
  generalize hps : partsA sl parts.toList = X at h
  unfold buP at h
  split at h
  · rename_i i hi
    split at h
    · rename_i fs hk
      split at h
      · rename_i pl hpl
        split at h
        · rename_i ps
          split at h
          · rename_i cs hcs
            exact ok_build ho h1 h2 hi hk hpl hps hcs (agP_ok h) hK
          · cases h
        · cases h
      · cases h
    · rename_i m e hk
      split at h
      · rename_i ie hie
        split at h
        · rename_i ps
          split at h
          · rename_i cs hcs
            exact ok_buildArr ho h1 h2 hi hk hie hps hcs (agP_ok h) hK
          · cases h
        · cases h
      · cases h
    · cases h
  · cases h
theorem laP_ok {c : Call} {z : AV} (ho : o.op = .call c) (h : laP C c sl = some z) (h1 : o.dst = some d) (h2 : Nat.blt d C.n = true) (hK : K ⟨(d, z) :: sl, ob⟩) : OpOk C o K ⟨sl, ob⟩ := by
  unfold laP at h
  split at h
  · split at h
    · rename_i i hi
      split at h
      · rename_i e hk
        split at h
        · rename_i hx
          cases h; exact ok_lenA ho h1 h2 hi hk hx hK
        · cases h
      · cases h
    · cases h
  · cases h
theorem opV_ok {y : AV} (h : opV C o sl ob = some y) (h1 : o.dst = some d) (h2 : Nat.blt d C.n = true) (hK : K ⟨(d, y) :: sl, ob⟩) : OpOk C o K ⟨sl, ob⟩ := by
  unfold opV at h
  split at h
  · rename_i ho; exact ok_move ho h1 h2 h hK
  · rename_i ho; exact ok_assign ho h1 h2 h hK
  · rename_i ho; exact pkP_ok ho h h1 h2 hK
  · rename_i ho; exact bnP_ok ho h h1 h2 hK
  · rename_i ho; exact ntP_ok ho h h1 h2 hK
  · rename_i ho; exact faP_ok ho h h1 h2 hK
  · rename_i ho; exact ldP_ok ho h h1 h2 hK
  · rename_i ho; exact ncP_ok ho h h1 h2 hK
  · rename_i ho; exact xtP_ok ho h h1 h2 hK
  · rename_i ho; exact flP_ok ho h h1 h2 hK
  · rename_i ho; exact cvP_ok ho h h1 h2 hK
  · rename_i ho; exact buP_ok ho h h1 h2 hK
  · rename_i ho; exact laP_ok ho h h1 h2 hK
  · cases h
theorem opF_ok (h : opF C o ⟨sl, ob⟩ = some s') (hK : K s') : OpOk C o K ⟨sl, ob⟩ := by
  unfold opF at h
  dsimp only at h
  split at h
  · rename_i ho; exact stP_ok ho h hK
  · rename_i ho; exact bxP_ok ho h hK
  · rename_i ho; exact alP_ok ho h hK
  · rename_i ho
    split at h
    · rename_i y hy; obtain ⟨d, h1, h2, rfl⟩ := putF_ok h; exact ok_move ho h1 h2 hy hK
    · obtain ⟨d, h1, h2, rfl⟩ := putF_ok h; exact ok_move_any ho h1 h2 hK
  · rename_i ho
    split at h
    · rename_i y hy; obtain ⟨d, h1, h2, rfl⟩ := putF_ok h; exact ok_assign ho h1 h2 hy hK
    · obtain ⟨d, h1, h2, rfl⟩ := putF_ok h; exact ok_assign_any ho h1 h2 hK
  · split at h
    · rename_i y hy; obtain ⟨d, h1, h2, rfl⟩ := putF_ok h; exact opV_ok hy h1 h2 hK
    · cases h

/-! ### Steps -/
def isU : Value → Bool
  | .tuple a => Nat.beq a.size 0
  | _ => false
theorem isU_ok {v : Value} (h : isU v = true) : v = Go.undef := by
  unfold isU at h
  split at h
  · rename_i a
    have := Nat.eq_of_beq_eq_true h
    have := Array.eq_empty_of_size_eq_zero this
    subst this; rfl
  · cases h
def passF (C : Cx) (o : Oper) (s : AS) : Option AS := putF C o s (.p (.val Go.undef))
def guF (C : Cx) (o : Oper) (s : AS) : Option (Bool × AV) → Option AS
  | some (true, .p (.val (.bool true))) => opF C o s
  | some (true, .p (.val (.bool false))) => passF C o s
  | some (false, .p (.val (.bool true))) => passF C o s
  | some (false, .p (.val (.bool false))) => opF C o s
  | some (_, .p (.val v)) => (match isU v with | true => passF C o s | false => none)
  | _ => none
def oF (C : Cx) (ops : Array Oper) (o : Oper) : AS → Option AS
  | ⟨sl, ob⟩ => match o.guard with
    | none => opF C o ⟨sl, ob⟩
    | some _ => guF C o ⟨sl, ob⟩ (gdF ops o sl)
theorem oF_ok (h : oF C ops o ⟨sl, ob⟩ = some s') (hK : rwpL C ops r K s') : rwpL C ops (o :: r) K ⟨sl, ob⟩ := by
  unfold oF at h
  dsimp only at h
  split at h
  · rename_i hg; exact rwpL_op hg (opF_ok h hK)
  · rename_i p hg
    have pass : ∀ {w : Bool} {b : Bool}, gdF ops o sl = some (w, .p (.val (.bool b))) → b = (!w) → passF C o ⟨sl, ob⟩ = some s' → rwpL C ops (o :: r) K ⟨sl, ob⟩ := by
      intro w b hgd hb hp
      obtain ⟨d, h1, h2, rfl⟩ := putF_ok hp
      obtain ⟨j, t, hg, hj, hv⟩ := gdF_ok hgd
      exact rwpL_guard_no hg hj hv hb h1 h2 hK
    generalize hgd : gdF ops o sl = G at h
    unfold guF at h
    split at h
    · exact gy rfl hgd (opF_ok h hK)
    · exact pass hgd rfl h
    · exact pass hgd rfl h
    · exact gy rfl hgd (opF_ok h hK)
    · rename_i v hno1 hno2 hno3 hno4
      split at h
      · rename_i hu
        have := isU_ok hu; subst this
        obtain ⟨d, h1, h2, rfl⟩ := putF_ok h
        obtain ⟨j, t, hg, hj, hv⟩ := gdF_ok hgd
        exact rwpL_guard_none hg hj hv h1 h2 hK
      · cases h
    · cases h
def cdE (s : AS) (x : Operand) : Option AV := match s with | ⟨sl, _⟩ => evo sl x
def cdF (C : Cx) (k : List Fr) (s : AS) : Code → Option Cf
  | .seq x y => some ⟨.cd x, .sq y :: k, s⟩
  | .block id x => some ⟨.cd x, .bk id :: k, s⟩
  | .scope x => some ⟨.cd x, .ng :: k, s⟩
  | .skip => pop k .normal s
  | .label _ => pop k .normal s
  | .exit id => pop k (.exit id) s
  | .ret => pop k .ret s
  | .region _ ops draw => (match draw with | false => some ⟨.op ops ops.toList, k, s⟩ | true => none)
  | .cond c x y => (match cdE s c with
    | some (.p (.val (.bool true))) => some ⟨.cd x, k, s⟩
    | some (.p (.val (.bool false))) => some ⟨.cd y, k, s⟩
    | _ => none)
  | _ => none
def stp (C : Cx) : Cf → Option Cf
  | ⟨.ex e, k, s⟩ => pop k e s
  | ⟨.op _ [], k, s⟩ => pop k .normal s
  | ⟨.op ops (o :: r), k, s⟩ => (match oF C ops o s with | some s' => some ⟨.op ops r, k, s'⟩ | none => none)
  | ⟨.cd c, k, s⟩ => cdF C k s c
theorem cdF_ok {c : Code} {c' : Cf} (h : cdF C k s c = some c') (hM : M C Q c') : awp C c (dn C Q k) s := by
  unfold cdF at h
  split at h
  · cases h; exact awp_seq hM
  · cases h; exact awp_block hM
  · cases h; exact awp_scope hM
  · exact awp_skip (pop_ok h hM)
  · exact awp_label (pop_ok h hM)
  · exact awp_exit (pop_ok h hM)
  · exact awp_ret (pop_ok h hM)
  · split at h
    · cases h; exact awp_reg hM
    · cases h
  · have hs : ∀ c, cdE s c = evo s.sl c := fun c => by cases s; rfl
    split at h
    · rename_i hc; cases h; exact awp_true (evo_ev ((hs _).symm.trans hc)) rfl hM
    · rename_i hc; cases h; exact awp_false (evo_ev ((hs _).symm.trans hc)) rfl hM
    · cases h
  · cases h
theorem stp_ok {c c' : Cf} (h : stp C c = some c') (hM : M C Q c') : M C Q c := by
  unfold stp at h
  split at h
  · exact pop_ok h hM
  · exact rwpL_nil (pop_ok h hM)
  · split at h
    · rename_i s0 hs; cases h; exact oF_ok hs hM
    · cases h
  · exact cdF_ok h hM
def run (C : Cx) : Nat → Cf → Option Cf
  | 0, c => some c
  | n + 1, c => (match stp C c with | some c' => run C n c' | none => none)
/-- n steps. -/
theorem nx : ∀ (n : Nat) {c c' : Cf}, run C n c = some c' → M C Q c' → M C Q c
  | 0, c, c', h, hM => by cases h; exact hM
  | n + 1, c, c', h, hM => by
    unfold run at h
    split at h
    · rename_i c1 h1; exact stp_ok h1 (nx n h hM)
    · cases h

/-! ### Ghost steps, ways that part, ways that meet -/
theorem dn_gh : ∀ {k : List Fr} {e : Exit} {s t : AS}, Ghost C s t → dn C Q k e t → dn C Q k e s
  | [], e, s, t, hg, ⟨u, h1, h2⟩ => ⟨u, ghost_trans hg h1, h2⟩
  | .sq y :: k, e, s, t, hg, h => by
    cases e with
    | normal => exact awp_ghost hg h
    | _ => exact dn_gh (k := k) hg h
  | .bk id :: k, e, s, t, hg, h => by
    cases e with
    | exit i =>
      simp only [dn, blockQ] at h ⊢
      split
      · rename_i e; rw [if_pos e] at h; exact dn_gh (k := k) hg h
      · rename_i e; rw [if_neg e] at h; exact dn_gh (k := k) hg h
    | _ => exact dn_gh (k := k) hg h
  | .ng :: k, e, s, t, hg, h => by
    cases e with
    | goto l => exact h
    | _ => exact dn_gh (k := k) hg h
  | .jo P :: k, e, s, t, hg, h => by
    cases e with
    | normal => obtain ⟨u, h1, h2⟩ := h; exact ⟨u, ghost_trans hg h1, h2⟩
    | _ => exact dn_gh (k := k) hg h
  | .je id P :: k, e, s, t, hg, h => by
    cases e with
    | exit i =>
      simp only [dn, exQ] at h ⊢
      split
      · rename_i e; rw [if_pos e] at h; obtain ⟨u, h1, h2⟩ := h; exact ⟨u, ghost_trans hg h1, h2⟩
      · rename_i e; rw [if_neg e] at h; exact dn_gh (k := k) hg h
    | _ => exact dn_gh (k := k) hg h
/-- A step that nothing but the ghost takes. -/
theorem mG {c : Ct} {t : AS} (hg : Ghost C s t) (h : M C Q ⟨c, k, t⟩) : M C Q ⟨c, k, s⟩ := by
  cases c with
  | cd c => exact awp_ghost hg h
  | op ops r => exact rwpL_ghost hg h
  | ex e => exact dn_gh hg h
/-- Where ways meet. -/
theorem kX {c : Code} {σ : Type} (A : σ → Prop) (mk : σ → AS) (h2 : ∀ v, A v → M C Q ⟨.ex .normal, k, mk v⟩) (h1 : M C Q ⟨.cd c, .jo (fun t => ∃ v, A v ∧ t = mk v) :: k, s⟩) : M C Q ⟨.cd c, k, s⟩ :=
  awp_cutN _ (fun s' ⟨_, hg, v, hv, e⟩ => dn_gh hg (e ▸ h2 v hv)) h1
theorem kEx (id : Nat) {c : Code} {σ : Type} (A : σ → Prop) (mk : σ → AS) (h2 : ∀ v, A v → M C Q ⟨.ex (.exit id), k, mk v⟩) (h1 : M C Q ⟨.cd c, .je id (fun t => ∃ v, A v ∧ t = mk v) :: k, s⟩) : M C Q ⟨.cd c, k, s⟩ :=
  awp_cutE id _ (fun s' ⟨_, hg, v, hv, e⟩ => dn_gh hg (e ▸ h2 v hv)) h1
/-- The ends of such a way. -/
theorem eX {σ : Type} {A : σ → Prop} {mk : σ → AS} (v : σ) (hv : A v) (hg : Ghost C s (mk v)) : M C Q ⟨.ex .normal, .jo (fun t => ∃ v, A v ∧ t = mk v) :: k, s⟩ := ⟨mk v, hg, v, hv, rfl⟩
theorem eXi {σ : Type} {A : σ → Prop} {mk : σ → AS} {id : Nat} (v : σ) (hv : A v) (hg : Ghost C s (mk v)) : M C Q ⟨.ex (.exit id), .je id (fun t => ∃ v, A v ∧ t = mk v) :: k, s⟩ := by
  show dn C Q (.je id (fun t => ∃ v, A v ∧ t = mk v) :: k) (.exit id) s
  simp only [dn, exQ, if_true]; exact ⟨mk v, hg, v, hv, rfl⟩
/-- A loop. -/
theorem lG {c : Code} {σ O : Type} (mk : σ → AS) (lp : Nat → σ → Option O) (hz : ∀ q, lp 0 q = none) {o : O} {n : Nat} (q0 : σ) (h0 : lp n q0 = some o) (hle : Ghost C s (mk q0))
    (round : ∀ m q, lp (m + 1) q = some o → M C Q ⟨.cd c, .jo (fun t => ∃ q', lp m q' = some o ∧ t = mk q') :: k, mk q⟩) : M C Q ⟨.cd (.loop c), k, s⟩ := by
  refine awp_loopG mk lp hz q0 h0 hle fun m q hq => awp_mono (fun e s' h => ?_) (round m q hq)
  cases e with
  | normal => obtain ⟨u, hg, q', h1, rfl⟩ := h; exact ⟨q', h1, hg⟩
  | _ => exact h
/-- Ways part: the slots of T hold the test. -/
def lks (sl : List (Nat × AV)) : List Nat → Option (List AV)
  | [] => some []
  | t :: r => (match look sl t with
    | some x => (match lks sl r with | some l => some (x :: l) | none => none)
    | none => none)
def stB (b : Bool) (sl : List (Nat × AV)) : List Nat → List (Nat × AV)
  | [] => sl
  | t :: r => (t, .p (.val (.bool b))) :: stB b sl r
theorem stB_le {b : Bool} : ∀ {T : List Nat}, lks sl T = some (T.map fun _ => .p (.val (.bool b))) → ∀ j x, look (stB b sl T) j = some x → look sl j = some x
  | [], _, j, x, h => h
  | t :: r, hT, j, x, h => by
    unfold lks at hT
    split at hT
    · rename_i y hy
      split at hT
      · rename_i l hl
        simp only [List.map_cons, Option.some.injEq, List.cons.injEq] at hT
        simp only [stB, look_cons] at h
        split at h
        · rename_i e; subst e; cases h; rw [hy, hT.1]
        · exact stB_le (hl.trans (congrArg some hT.2)) j x h
      · cases hT
    · cases hT
theorem stB_gh {b : Bool} {T : List Nat} (hT : lks sl T = some (T.map fun _ => .p (.val (.bool b)))) : Ghost C ⟨sl, ob⟩ ⟨stB b sl T, ob⟩ :=
  ghost_le ⟨fun j x hx => by
    have := stB_le hT j x hx
    simp only [AS.get, this, Option.getD_some]; exact AV.sub_refl x, fun id cs h => ⟨cs, h, Nat.le_refl _, fun i c d hc hd => by rw [hc] at hd; cases hd; exact AV.sub_refl _⟩⟩
theorem fD {c : Ct} {p : Prop} [Decidable p] {α : Type} {a b : Option α} {v : α} (T : List Nat) (h : (if p then a else b) = some v) (hT : lks sl T = some (T.map fun _ => .p (.val (.bool (decide p)))))
    (h1 : p → a = some v → M C Q ⟨c, k, ⟨stB true sl T, ob⟩⟩) (h2 : ¬p → b = some v → M C Q ⟨c, k, ⟨stB false sl T, ob⟩⟩) : M C Q ⟨c, k, ⟨sl, ob⟩⟩ := by
  by_cases hp : p
  · rw [decide_eq_true hp] at hT; exact mG (stB_gh hT) (h1 hp (if_t hp h))
  · rw [decide_eq_false hp] at hT; exact mG (stB_gh hT) (h2 hp (if_f hp h))
theorem fN {c : Ct} {p : Prop} [Decidable p] {α : Type} {a b : Option α} {v : α} (T : List Nat) (h : (if p then a else b) = some v) (hT : lks sl T = some (T.map fun _ => .p (.val (.bool (!decide p)))))
    (h1 : p → a = some v → M C Q ⟨c, k, ⟨stB false sl T, ob⟩⟩) (h2 : ¬p → b = some v → M C Q ⟨c, k, ⟨stB true sl T, ob⟩⟩) : M C Q ⟨c, k, ⟨sl, ob⟩⟩ := by
  by_cases hp : p
  · rw [decide_eq_true hp] at hT; exact mG (stB_gh hT) (h1 hp (if_t hp h))
  · rw [decide_eq_false hp] at hT; exact mG (stB_gh hT) (h2 hp (if_f hp h))
theorem fB {c : Ct} {p : Bool} {α : Type} {a b : Option α} {v : α} (T : List Nat) (h : (if p = true then a else b) = some v) (hT : lks sl T = some (T.map fun _ => .p (.val (.bool p))))
    (h1 : p = true → a = some v → M C Q ⟨c, k, ⟨stB true sl T, ob⟩⟩) (h2 : p = false → b = some v → M C Q ⟨c, k, ⟨stB false sl T, ob⟩⟩) : M C Q ⟨c, k, ⟨sl, ob⟩⟩ := by
  cases p
  · exact mG (stB_gh hT) (h2 rfl (if_bf rfl h))
  · exact mG (stB_gh hT) (h1 rfl (if_t rfl h))
/-- What is known of a test. -/
theorem lT {c : Ct} {q b : Bool} (T : List Nat) (hb : q = b) (hT : lks sl T = some (T.map fun _ => .p (.val (.bool q)))) (h : M C Q ⟨c, k, ⟨stB b sl T, ob⟩⟩) : M C Q ⟨c, k, ⟨sl, ob⟩⟩ := by
  subst hb; exact mG (stB_gh hT) h

/-! ### Operations that ask something -/
/-- The guard, where there is one, says that the operation runs. -/
def gF (ops : Array Oper) (o : Oper) (sl : List (Nat × AV)) : Bool := match o.guard with
  | none => true
  | some _ => (match gdF ops o sl with
    | some (true, .p (.val (.bool true))) => true
    | some (false, .p (.val (.bool false))) => true
    | _ => false)
theorem mO (hg : gF ops o sl = true) (h : OpOk C o (fun s' => M C Q ⟨.op ops r, k, s'⟩) ⟨sl, ob⟩) : M C Q ⟨.op ops (o :: r), k, ⟨sl, ob⟩⟩ := by
  unfold gF at hg
  split at hg
  · rename_i hn; exact rwpL_op hn h
  · generalize hgd : gdF ops o sl = G at hg
    split at hg
    · exact gy rfl hgd h
    · exact gy rfl hgd h
    · cases hg
theorem bd {α β : Type} {g : Prop} {p : Option α} {f : α → Option β} {v : β} (h : p.bind f = some v) (H : ∀ x, p = some x → f x = some v → g) : g := by
  obtain ⟨x, h1, h2⟩ := bd_cut h
  exact H x h1 h2
theorem cc' {α : Type} {g : Prop} {p : Prop} [Decidable p] {a : Option α} {v : α} (h : ck p a = some v) (H : p → a = some v → g) : g := by
  obtain ⟨h1, h2⟩ := ck_cut h
  exact H h1 h2
/-- The operands of a binary operation. -/
def biF (C : Cx) (ops : Array Oper) (o : Oper) (sl : List (Nat × AV)) : Option (Nat × BinOp × AV × AV) := match gF ops o sl with
  | true => (match dsF C.n o with
    | some d => (match o.op with
      | .binOp op _ x y _ => (match evo sl x with
        | some X => (match evo sl y with
          | some Y => some (d, op, X, Y)
          | none => none)
        | none => none)
      | _ => none)
    | none => none)
  | false => none
theorem biF_ok {op : BinOp} {X Y : AV} (h : biF C ops o sl = some (d, op, X, Y)) : gF ops o sl = true ∧ o.dst = some d ∧ Nat.blt d C.n = true ∧ ∃ t x y t', o.op = .binOp op t x y t' ∧ evo sl x = some X ∧ evo sl y = some Y := by
  unfold biF at h
  split at h
  · rename_i hg
    split at h
    · rename_i e hd
      split at h
      · rename_i op' t x y t' ho
        split at h
        · rename_i X' hx
          split at h
          · rename_i Y' hy
            cases h
            exact ⟨hg, (dsF_ok hd).1, (dsF_ok hd).2, t, x, y, t', ho, hx, hy⟩
          · cases h
        · cases h
      · cases h
    · cases h
  · cases h
theorem oA {α : Type} {a : Option α} {v : α} {op : BinOp} {x y c : Int} (h : ck (inR c) a = some v) (hb : biF C ops o sl = some (d, op, .p (.val (.int .i64 x)), .p (.val (.int .i64 y)))) (hc : arI op x y = some c)
    (H : inR c → a = some v → M C Q ⟨.op ops r, k, ⟨(d, .p (eI c)) :: sl, ob⟩⟩) : M C Q ⟨.op ops (o :: r), k, ⟨sl, ob⟩⟩ := by
  obtain ⟨hg, hd, hn, t, X, Y, t', ho, hx, hy⟩ := biF_ok hb
  obtain ⟨h1, h2⟩ := ck_cut h
  exact mO hg (ok_ar ho hd hn hx hy hc h1 (H h1 h2))
theorem oS {op : BinOp} {x y : Bytes} {c : Bool} (hb : biF C ops o sl = some (d, op, .p (.val (.string (str x))), .p (.val (.string (str y))))) (hc : cmpS op x y = some c)
    (H : M C Q ⟨.op ops r, k, ⟨(d, .p (eB c)) :: sl, ob⟩⟩) : M C Q ⟨.op ops (o :: r), k, ⟨sl, ob⟩⟩ := by
  obtain ⟨hg, hd, hn, t, X, Y, t', ho, hx, hy⟩ := biF_ok hb
  exact mO hg (ok_cmpS ho hd hn hx hy hc H)
theorem oC {α : Type} {a : Option α} {v : α} {x y : Bytes} (h : ck (x.length + y.length ≤ 9223372036854775807) a = some v) (hb : biF C ops o sl = some (d, .add, .p (.val (.string (str x))), .p (.val (.string (str y)))))
    (H : x.length + y.length ≤ 9223372036854775807 → a = some v → M C Q ⟨.op ops r, k, ⟨(d, .p (eS (x ++ y))) :: sl, ob⟩⟩) : M C Q ⟨.op ops (o :: r), k, ⟨sl, ob⟩⟩ := by
  obtain ⟨hg, hd, hn, t, X, Y, t', ho, hx, hy⟩ := biF_ok hb
  obtain ⟨h1, h2⟩ := ck_cut h
  exact mO hg (ok_concat ho hd hn hx hy h1 (H h1 h2))
/-- The operands of len, of an index, of a part. -/
def lnF (C : Cx) (ops : Array Oper) (o : Oper) (sl : List (Nat × AV)) : Option (Nat × Bool × AV) := match gF ops o sl with
  | true => (match dsF C.n o with
    | some d => (match o.op with
      | .call ⟨.builtin .len, ⟨[x]⟩, ⟨[t]⟩⟩ => (match look C.tt t with
        | some i => (match evo sl x with
          | some X => (match i.k with
            | .string => some (d, true, X)
            | .slice _ => some (d, false, X)
            | _ => none)
          | none => none)
        | none => none)
      | _ => none)
    | none => none)
  | false => none
theorem oLs {x : Bytes} (hb : lnF C ops o sl = some (d, true, .p (.val (.string (str x))))) (H : M C Q ⟨.op ops r, k, ⟨(d, .p (eI (x.length : Int))) :: sl, ob⟩⟩) : M C Q ⟨.op ops (o :: r), k, ⟨sl, ob⟩⟩ := by
  unfold lnF at hb
  split at hb
  · rename_i hg
    split at hb
    · rename_i e hd
      split at hb
      · rename_i z t ho
        split at hb
        · rename_i i hi
          split at hb
          · rename_i X hx
            split at hb
            · rename_i hk; cases hb; exact mO hg (ok_lenS ho (dsF_ok hd).1 (dsF_ok hd).2 hi hk hx H)
            · cases hb
            · cases hb
          · cases hb
        · cases hb
      · cases hb
    · cases hb
  · cases hb
theorem oLl {α : Type} {f : α → PV} {l : List α} {X : AV} (hb : lnF C ops o sl = some (d, false, X)) (hX : X.elems? = some (l.map f)) (H : M C Q ⟨.op ops r, k, ⟨(d, .p (eI (l.length : Int))) :: sl, ob⟩⟩) : M C Q ⟨.op ops (o :: r), k, ⟨sl, ob⟩⟩ := by
  unfold lnF at hb
  split at hb
  · rename_i hg
    split at hb
    · rename_i e hd
      split at hb
      · rename_i z t ho
        split at hb
        · rename_i i hi
          split at hb
          · rename_i X' hx
            split at hb
            · cases hb
            · rename_i hk; cases hb; exact mO hg (op_lenL ho (dsF_ok hd).1 (dsF_ok hd).2 hi hk hx hX H)
            · cases hb
          · cases hb
        · cases hb
      · cases hb
    · cases hb
  · cases hb
def ixF (C : Cx) (ops : Array Oper) (o : Oper) (sl : List (Nat × AV)) : Option (Nat × AV × AV) := match gF ops o sl with
  | true => (match dsF C.n o with
    | some d => (match o.op with
      | .index t x y => (match look C.tt t with
        | some i => (match i.k with
          | .string => (match evo sl x with
            | some X => (match evo sl y with | some Y => some (d, X, Y) | none => none)
            | none => none)
          | _ => none)
        | none => none)
      | _ => none)
    | none => none)
  | false => none
theorem oI {α : Type} {a : Option α} {v : α} {x : Bytes} {i : IntKind} {j : Int} (h : ck ((0 : Int) ≤ j ∧ j < (x.length : Int)) a = some v) (hb : ixF C ops o sl = some (d, .p (.val (.string (str x))), .p (.val (.int i j))))
    (H : (0 : Int) ≤ j ∧ j < (x.length : Int) → a = some v → M C Q ⟨.op ops r, k, ⟨(d, .p (eK .u8 (byt x j))) :: sl, ob⟩⟩) : M C Q ⟨.op ops (o :: r), k, ⟨sl, ob⟩⟩ := by
  obtain ⟨h1, h2⟩ := ck_cut h
  unfold ixF at hb
  split at hb
  · rename_i hg
    split at hb
    · rename_i e hd
      split at hb
      · rename_i t X Y ho
        split at hb
        · rename_i i hi
          split at hb
          · rename_i hk
            split at hb
            · rename_i hx
              split at hb
              · rename_i hy; cases hb; exact mO hg (op_indexS ho (dsF_ok hd).1 (dsF_ok hd).2 hi hk hx hy h1 (H h1 h2))
              · cases hb
            · cases hb
          · cases hb
        · cases hb
      · cases hb
    · cases hb
  · cases hb
def slF (C : Cx) (ops : Array Oper) (o : Oper) (sl : List (Nat × AV)) : Option (Nat × AV × Option Operand × Option Operand) := match gF ops o sl with
  | true => (match dsF C.n o with
    | some d => (match o.op with
      | .slice t x lo hi none => (match look C.tt t with
        | some i => (match i.k with
          | .string => (match evo sl x with
            | some X => some (d, X, lo, hi)
            | none => none)
          | _ => none)
        | none => none)
      | _ => none)
    | none => none)
  | false => none
theorem oP {α : Type} {a : Option α} {v : α} {x : Bytes} {i j : Int} {lo hi : Option Operand} (h : ck ((0 : Int) ≤ i ∧ i ≤ j ∧ j ≤ (x.length : Int)) a = some v) (hb : slF C ops o sl = some (d, .p (.val (.string (str x))), lo, hi)) (hlo : loI sl lo = some i) (hhi : hiI sl (x.length : Int) hi = some j)
    (H : (0 : Int) ≤ i ∧ i ≤ j ∧ j ≤ (x.length : Int) → a = some v → M C Q ⟨.op ops r, k, ⟨(d, .p (eS (sub x i j))) :: sl, ob⟩⟩) : M C Q ⟨.op ops (o :: r), k, ⟨sl, ob⟩⟩ := by
  obtain ⟨h1, h2⟩ := ck_cut h
  unfold slF at hb
  split at hb
  · rename_i hg
    split at hb
    · rename_i e hd
      split at hb
      · rename_i t X lo' hi' ho
        split at hb
        · rename_i i hi
          split at hb
          · rename_i hk
            split at hb
            · rename_i hx
              cases hb; exact mO hg (op_sliceS ho (dsF_ok hd).1 (dsF_ok hd).2 hi hk hx hlo hhi h1 (H h1 h2))
            · cases hb
          · cases hb
        · cases hb
      · cases hb
    · cases hb
  · cases hb
def atF (C : Cx) (ops : Array Oper) (o : Oper) (sl : List (Nat × AV)) : Option (Nat × Nat × AV × AV) := match gF ops o sl with
  | true => (match dsF C.n o with
    | some d => (match o.op with
      | .indexAddr t x y => (match look C.tt t with
        | some i => (match i.k with
          | .slice e => (match look C.tt e with
            | some ie => (match evo sl x with
              | some X => (match evo sl y with | some Y => some (d, ie.size, X, Y) | none => none)
              | none => none)
            | none => none)
          | _ => none)
        | none => none)
      | _ => none)
    | none => none)
  | false => none
theorem oE {α β : Type} [Inhabited α] {a : Option β} {v : β} {f : α → PV} {l : List α} {cs : α → List PV} {X : AV} {sz : Nat} {i : IntKind} {j : Int} (h : ck ((0 : Int) ≤ j ∧ j < (l.length : Int)) a = some v) (hcs : ∀ x, (f x).cells = cs x) (hb : atF C ops o sl = some (d, sz, X, .p (.val (.int i j)))) (hX : X.elems? = some (l.map f)) (hsz : ∀ x, (cs x).length = sz)
    (H : (0 : Int) ≤ j ∧ j < (l.length : Int) → a = some v → M C Q ⟨.op ops r, k, ⟨(d, .rptr (cs (lat l j))) :: sl, ob⟩⟩) : M C Q ⟨.op ops (o :: r), k, ⟨sl, ob⟩⟩ := by
  obtain ⟨h1, h2⟩ := ck_cut h
  unfold atF at hb
  split at hb
  · rename_i hg
    split at hb
    · rename_i e hd
      split at hb
      · rename_i t X Y ho
        split at hb
        · rename_i i hi
          split at hb
          · rename_i hk
            split at hb
            · rename_i ie hie
              split at hb
              · rename_i hx
                split at hb
                · rename_i hy; cases hb; exact mO hg (op_at cs ho (dsF_ok hd).1 (dsF_ok hd).2 hi hk hie hx hX hy h1 hcs hsz (H h1 h2))
                · cases hb
              · cases hb
            · cases hb
          · cases hb
        · cases hb
      · cases hb
    · cases hb
  · cases hb
/-- A call. -/
def clF (C : Cx) (ops : Array Oper) (o : Oper) (sl : List (Nat × AV)) : Option (Nat × FuncId × List AV) := match gF ops o sl with
  | true => (match dsF C.n o with
    | some d => (match o.op with
      | .call ⟨.value (.func f), args, _⟩ => (match argsA sl args.toList with
        | some l => some (d, f, l)
        | none => none)
      | _ => none)
    | none => none)
  | false => none
theorem oK {f : FuncId} {l : List AV} {q : List PV} {x x' : AV} (hc : PCalls C.P f q (· = x)) (hb : clF C ops o sl = some (d, f, l)) (hq : subsP l q) (henter : ∀ vs w, (callFunc f vs).run C.P w = .ok (.enter f vs) w) (hr : x.settle = some x')
    (H : M C Q ⟨.op ops r, k, ⟨(d, x') :: sl, ob⟩⟩) : M C Q ⟨.op ops (o :: r), k, ⟨sl, ob⟩⟩ := by
  unfold clF at hb
  split at hb
  · rename_i hg
    split at hb
    · rename_i e hd
      split at hb
      · rename_i f' args ts ho
        split at hb
        · rename_i l' hl; cases hb; exact mO hg (ok_callP hc ho (dsF_ok hd).1 (dsF_ok hd).2 hl hq henter hr H)
        · cases hb
      · cases hb
    · cases hb
  · cases hb

/-! ### Regions that draw their order -/
def tO : Operand → List Nat → List Nat
  | .tmp t, l => t :: l
  | _, l => l
def tOs : List Operand → List Nat
  | [] => []
  | x :: r => tO x (tOs r)
/-- The slots that an operation reads. -/
def tms (o : Oper) : List Nat := match o.op with
  | .move x => tO x []
  | .assign x => tO x []
  | .pick c x y => tO c (tO x (tO y []))
  | .binOp _ _ x y _ => tO x (tO y [])
  | .unOp _ _ x => tO x []
  | .fieldAddr _ x _ => tO x []
  | .load _ x => tO x []
  | .nilCheck x => tO x []
  | .extract x _ => tO x []
  | .field _ x _ => tO x []
  | .convert _ _ x => tO x []
  | .build _ parts => tOs (parts.toList.map (·.2))
  | .call c => tOs c.args.toList
  | _ => []
def gdT (ops : Array Oper) (o : Oper) (l : List Nat) : List Nat := match o.guard with
  | some (j, _) => (match (ops.toList[j]?).bind (·.dst) with
    | some t => t :: l
    | none => l)
  | none => l
def knL (base : List (Nat × AV)) (o : Oper) (rev : Rev) : List Nat → List (Nat × AV)
  | [] => []
  | i :: r => (match knX base o rev i with
    | some x => (i, x) :: knL base o rev r
    | none => knL base o rev r)
theorem knL_ok {base : List (Nat × AV)} {rev : Rev} : ∀ {l : List Nat}, KnOk base o rev (knL base o rev l)
  | [] => trivial
  | i :: r => by
    unfold knL
    split
    · rename_i x hx; exact ⟨knX_ok hx, knL_ok⟩
    · exact knL_ok
theorem evo_or {kn : List (Nat × AV)} (hs : ∀ i x, look kn i = some x → look sl i = some x) (x : Operand) : evo kn x = none ∨ evo kn x = evo sl x := by
  cases h : evo kn x with
  | none => exact .inl rfl
  | some y => exact .inr (evo_kn hs h).symm
theorem partsA_kn {kn : List (Nat × AV)} (hs : ∀ i x, look kn i = some x → look sl i = some x) : ∀ {l : List (Nat × Operand)} {ps : List (Nat × AV)}, partsA kn l = some ps → partsA sl l = some ps
  | [], ps, h => h
  | (i, x) :: r, ps, h => by
    unfold partsA at h ⊢
    split at h
    · rename_i y l hy hl; cases h; rw [evo_kn hs hy, partsA_kn hs hl]
    · cases h
theorem opV_kn {kn : List (Nat × AV)} {y : AV} (hs : ∀ i x, look kn i = some x → look sl i = some x) (h : opV C o kn ob = some y) : opV C o sl ob = some y := by
  unfold opV at h ⊢
  split at h
  · exact evo_kn hs h
  · exact evo_kn hs h
  · rename_i c x y _
    rcases evo_or hs c with e | e
    · rw [e] at h; cases h
    · rw [← e]
      generalize evo kn c = z at h
      unfold pkP at h ⊢
      split at h
      · exact evo_kn hs h
      · exact evo_kn hs h
      · cases h
  · rename_i op t x y _ _
    rcases evo_or hs x with e | e
    · rw [e] at h; cases h
    · rw [← e]
      rcases evo_or hs y with e | e
      · rw [e] at h
        unfold bnP at h
        split at h
        · rename_i h2; cases h2
        · rename_i h2; cases h2
        · cases h
      · rw [← e]; exact h
  · rename_i x _; rcases evo_or hs x with e | e
    · rw [e] at h; cases h
    · rw [← e]; exact h
  · rename_i t x f _; rcases evo_or hs x with e | e
    · rw [e] at h; unfold faP at h; (repeat' split at h) <;> first | contradiction | cases h
    · rw [← e]; exact h
  · rename_i t x _; rcases evo_or hs x with e | e
    · rw [e] at h; unfold ldP at h; split at h <;> cases h
    · rw [← e]; exact h
  · rename_i x _; rcases evo_or hs x with e | e
    · rw [e] at h; cases h
    · rw [← e]; exact h
  · rename_i x n _; rcases evo_or hs x with e | e
    · rw [e] at h; cases h
    · rw [← e]; exact h
  · rename_i t x f _; rcases evo_or hs x with e | e
    · rw [e] at h; unfold flP at h; (repeat' split at h) <;> first | contradiction | cases h
    · rw [← e]; exact h
  · rename_i s t x _; rcases evo_or hs x with e | e
    · rw [e] at h; unfold cvP at h; (repeat' split at h) <;> first | contradiction | cases h
    · rw [← e]; exact h
  · rename_i t parts _
    cases e : partsA kn parts.toList with
    | none => rw [e] at h; unfold buP at h; (repeat' split at h) <;> first | contradiction | cases h
    | some ps => rw [e] at h; rw [partsA_kn hs e]; exact h
  · rename_i c _
    unfold laP at h ⊢
    split at h
    · rename_i x t _
      rcases evo_or hs x with e | e
      · rw [e] at h; (repeat' split at h) <;> first | contradiction | cases h
      · rw [← e]; exact h
    · cases h
  · cases h
/-- The value of an operation under its guard. -/
def oV (C : Cx) (ops : Array Oper) (o : Oper) (sl : List (Nat × AV)) (ob : List (Nat × List AV)) : Option AV := match o.guard with
  | none => opV C o sl ob
  | some _ => (match gdF ops o sl with
    | some (true, .p (.val (.bool true))) => opV C o sl ob
    | some (true, .p (.val (.bool false))) => some (.p (.val Go.undef))
    | some (false, .p (.val (.bool true))) => some (.p (.val Go.undef))
    | some (false, .p (.val (.bool false))) => opV C o sl ob
    | some (_, .p (.val v)) => (match isU v with | true => some (.p (.val Go.undef)) | false => none)
    | _ => none)
def drF (C : Cx) (ops : Array Oper) (base : List (Nat × AV)) (ob : List (Nat × List AV)) (o : Oper) (rev : Rev) : Option (Nat × AV) := match nwF base rev o with
  | some d => (match Nat.blt d C.n with
    | true => (match oV C ops o (knL base o rev (gdT ops o (tms o))) ob with
      | some y => some (d, y)
      | none => none)
    | false => none)
  | none => none
theorem oV_step {kn : List (Nat × AV)} {y : AV} (h : oV C ops o kn ob = some y) (hd : o.dst = some d) (hn : Nat.blt d C.n = true) : StepK C ops ob o kn d y := by
  intro sl hs K hK
  unfold oV at h
  split at h
  · rename_i hg; exact one_op hg (opV_ok (opV_kn hs h) hd hn hK)
  · generalize hgd : gdF ops o kn = G at h
    have yes : ∀ {w : Bool}, gdF ops o kn = some (w, .p (.val (.bool w))) → opV C o kn ob = some y → One C ops o K ⟨sl, ob⟩ := fun hgd h => by
      obtain ⟨j, t, hg, hj, hv⟩ := gdF_ok hgd
      exact one_yes (opV_ok (opV_kn hs h) hd hn hK) hg hj (hs _ _ hv) rfl
    have no : ∀ {w b : Bool}, gdF ops o kn = some (w, .p (.val (.bool b))) → b = (!w) → y = .p (.val Go.undef) → One C ops o K ⟨sl, ob⟩ := fun hgd hb h => by
      subst h
      obtain ⟨j, t, hg, hj, hv⟩ := gdF_ok hgd
      exact one_no hg hj (hs _ _ hv) hb hd hn hK
    split at h
    · exact yes hgd h
    · cases h; exact no hgd rfl rfl
    · cases h; exact no hgd rfl rfl
    · exact yes hgd h
    · split at h
      · rename_i hu
        have := isU_ok hu; subst this
        cases h
        obtain ⟨j, t, hg, hj, hv⟩ := gdF_ok hgd
        exact one_none hg hj (hs _ _ hv) hd hn hK
      · cases h
    · cases h
def drw (C : Cx) (ops : Array Oper) (base : List (Nat × AV)) (ob : List (Nat × List AV)) : Nat → List Oper → Nat → Rev → Option (List Oper × Nat × Rev)
  | 0, l, i, rev => some (l, i, rev)
  | n + 1, o :: l, i, rev => (match drF C ops base ob o rev with
    | some (d, y) => drw C ops base ob n l (i + 1) ((i, d, y) :: rev)
    | none => none)
  | _ + 1, [], _, _ => none
/-- n steps of such a region. -/
theorem dR {base : List (Nat × AV)} : ∀ (n : Nat) {l l' : List Oper} {i i' : Nat} {rev rev' : Rev}, drw C ops base ob n l i rev = some (l', i', rev') → DQ C ops base ob K l' i' rev' → DQ C ops base ob K l i rev
  | 0, l, l', i, i', rev, rev', h, hK => by cases h; exact hK
  | n + 1, [], l', i, i', rev, rev', h, hK => by cases h
  | n + 1, o :: l, l', i, i', rev, rev', h, hK => by
    unfold drw at h
    split at h
    · rename_i d y hd
      unfold drF at hd
      split at hd
      · rename_i e he
        split at hd
        · rename_i hn
          split at hd
          · rename_i z hz
            cases hd
            exact dq_cons y _ knL_ok (oV_step hz (nwF_ok he).1 hn) (nwF_ok he).1 (nwF_ok he).2.1 (nwF_ok he).2.2 (dR n h hK)
          · cases hd
        · cases hd
      · cases hd
    · cases h
theorem mD (base : List (Nat × AV)) {id : Nat} (hm : C.P.follows .mixedOrders = true) (hb : BaseIn sl base) (hord : (ops.toList.zipIdx.all fun p => p.1.after.toList.all fun e => !(Region.binds .any e) || Nat.blt e.on p.2) = true)
    (h : DQ C ops base ob (fun s' => M C Q ⟨.ex .normal, k, s'⟩) ops.toList 0 []) : M C Q ⟨.cd (.region id ops true), k, ⟨sl, ob⟩⟩ := awp_drawQ base hm hb hord h
/-- The end of such a region. -/
def revF : Rev → List (Nat × AV) → Option (List (Nat × AV))
  | [], b => some b
  | (_, p) :: r, b => (match revF r b with | some l => some (p :: l) | none => none)
theorem revF_ok : ∀ {rev : Rev} {b l : List (Nat × AV)}, revF rev b = some l → l = revSl rev ++ b
  | [], b, l, h => by cases h; rfl
  | (i, p) :: r, b, l, h => by
    unfold revF at h
    split at h
    · rename_i m hm; cases h; rw [revF_ok hm]; rfl
    · cases h
theorem dE {base l : List (Nat × AV)} {i : Nat} {rev : Rev} (h : revF rev base = some l) (hM : M C Q ⟨.ex .normal, k, ⟨l, ob⟩⟩) : DQ C ops base ob (fun s' => M C Q ⟨.ex .normal, k, s'⟩) [] i rev :=
  dq_nil (by rw [← revF_ok h]; exact hM)
/-- A step of such a region that gives a test that is known. -/
theorem dL {base : List (Nat × AV)} {l : List Oper} {i : Nat} {rev : Rev} {q b : Bool} (hb : q = b) (h : drF C ops base ob o rev = some (d, .p (.val (.bool q)))) (hK : DQ C ops base ob K l (i + 1) ((i, d, .p (.val (.bool b))) :: rev)) : DQ C ops base ob K (o :: l) i rev := by
  subst hb
  refine dR 1 (l' := l) (i' := i + 1) (rev' := (i, d, .p (.val (.bool q))) :: rev) ?_ hK
  simp only [drw, h]
theorem mS (S : Sched) {id : Nat} (hm : C.P.follows .mixedOrders = true) (hlen : S.imp.length = S.m) (hob : S.obj 0 = ob) (hb : BaseIn sl (S.bas 0))
    (hbas : ∀ j, j < S.m → BaseIn (trL (S.D j) (S.bas j)) (S.bas (j + 1))) (hnd : nodupB S.imp = true) (hin : S.imp.all (fun i => Nat.blt i ops.size) = true) (hch : chainB ops S.imp = true)
    (hord : (ops.toList.zipIdx.all fun p => p.1.after.toList.all fun e => !(Region.binds .any e) || Nat.blt e.on p.2) = true) (h : DS C ops S (fun rev => M C Q ⟨.ex .normal, k, ⟨slotsS rev S.m ++ S.bas S.m, S.obj S.m⟩⟩) ops.toList 0 []) : M C Q ⟨.cd (.region id ops true), k, ⟨sl, ob⟩⟩ :=
  awp_drawS S hm hlen hob hb hbas hnd hin hch hord h
/-! ### Less is said -/
def lkO (ob : List (Nat × List AV)) : List Nat → Option (List (List AV))
  | [] => some []
  | t :: r => (match look ob t with
    | some x => (match lkO ob r with | some l => some (x :: l) | none => none)
    | none => none)
theorem lks_le {sl : List (Nat × AV)} : ∀ {q : List (Nat × AV)}, lks sl (q.map (·.1)) = some (q.map (·.2)) → ∀ j x, look q j = some x → look sl j = some x
  | [], _, j, x, h => by cases h
  | (i, y) :: r, hT, j, x, h => by
    simp only [List.map_cons] at hT
    unfold lks at hT
    split at hT
    · rename_i z hz
      split at hT
      · rename_i l hl
        simp only [Option.some.injEq, List.cons.injEq] at hT
        rw [look_cons] at h
        split at h
        · rename_i e; subst e; cases h; rw [hz, hT.1]
        · exact lks_le (hl.trans (congrArg some hT.2)) j x h
      · cases hT
    · cases hT
theorem lkO_le {ob : List (Nat × List AV)} : ∀ {q : List (Nat × List AV)}, lkO ob (q.map (·.1)) = some (q.map (·.2)) → ∀ j x, look q j = some x → look ob j = some x
  | [], _, j, x, h => by cases h
  | (i, y) :: r, hT, j, x, h => by
    simp only [List.map_cons] at hT
    unfold lkO at hT
    split at hT
    · rename_i z hz
      split at hT
      · rename_i l hl
        simp only [Option.some.injEq, List.cons.injEq] at hT
        rw [look_cons] at h
        split at h
        · rename_i e; subst e; cases h; rw [hz, hT.1]
        · exact lkO_le (hl.trans (congrArg some hT.2)) j x h
      · cases hT
    · cases hT
def lkE (a b : List (Nat × List AV)) : List (Nat × List AV) → Prop
  | [] => True
  | (i, _) :: r => look b i = look a i ∧ lkE a b r
theorem lkE_le {a b : List (Nat × List AV)} : ∀ {l : List (Nat × List AV)}, lkE a b l → ∀ i x, look l i = some x → look b i = look a i
  | [], _, i, x, h => by cases h
  | (j, y) :: r, ⟨h1, h2⟩, i, x, h => by
    rw [look_cons] at h
    by_cases e : j = i
    · subst e; exact h1
    · rw [if_neg e] at h; exact lkE_le h2 i x h
/-- The end of the second of two schedules. -/
theorem ds_two {C : Cx} {ops : Array Oper} {S1 S2 : Sched} {k : Nat} {r1 r2 : RevS} {imp : List Nat} (h1 : lks (slotsS r2 S2.m ++ S2.bas S2.m) ((slotsS r1 S1.m ++ S1.bas S1.m).map (·.1)) = some ((slotsS r1 S1.m ++ S1.bas S1.m).map (·.2)))
    (h2 : lkE (S1.obj S1.m) (S2.obj S2.m) (S1.obj S1.m)) (h3 : agree2 imp r1 r2) :
    DS C ops S2 (fun rev2 => (⟨slotsS rev2 S2.m ++ S2.bas S2.m, S2.obj S2.m⟩ : AS).le ⟨slotsS r1 S1.m ++ S1.bas S1.m, S1.obj S1.m⟩ ∧ agree2 imp r1 rev2) [] k r2 := by
  refine ⟨⟨fun j x h => ?_, fun id cs h => ⟨cs, (lkE_le h2 id cs h).trans h, Nat.le_refl _, fun i c d a b => by rw [a] at b; cases b; exact AV.sub_refl _⟩⟩, h3⟩
  have := lks_le h1 j x h
  unfold AS.get
  rw [this]
  exact AV.sub_refl _
theorem mSS {C : Cx} {Q : Exit → AS → Prop} {k : List Fr} {ops : Array Oper} {sl : List (Nat × AV)} {ob : List (Nat × List AV)} (S1 S2 : Sched) {id k1 k2 : Nat} {r : List Nat} (hm : C.P.follows .mixedOrders = true)
    (hi1 : S1.imp = k1 :: k2 :: r) (hi2 : S2.imp = k2 :: k1 :: r) (hlen1 : S1.imp.length = S1.m) (hlen2 : S2.imp.length = S2.m) (hob1 : S1.obj 0 = ob) (hob2 : S2.obj 0 = ob) (hb : BaseIn sl (S1.bas 0)) (hb2 : S2.bas 0 = S1.bas 0)
    (hbas1 : ∀ j, j < S1.m → BaseIn (trL (S1.D j) (S1.bas j)) (S1.bas (j + 1))) (hbas2 : ∀ j, j < S2.m → BaseIn (trL (S2.D j) (S2.bas j)) (S2.bas (j + 1)))
    (hnd : nodupB (k1 :: k2 :: r) = true) (hin : (k1 :: k2 :: r).all (fun i => Nat.blt i ops.size) = true) (hch1 : chainB ops (k1 :: r) = true) (hch2 : chainB ops (k2 :: r) = true)
    (hord : (ops.toList.zipIdx.all fun p => p.1.after.toList.all fun e => !(Region.binds .any e) || Nat.blt e.on p.2) = true)
    (h : DS C ops S1 (fun rev1 => M C Q ⟨.ex .normal, k, ⟨slotsS rev1 S1.m ++ S1.bas S1.m, S1.obj S1.m⟩⟩ ∧ DS C ops S2 (fun rev2 => (⟨slotsS rev2 S2.m ++ S2.bas S2.m, S2.obj S2.m⟩ : AS).le ⟨slotsS rev1 S1.m ++ S1.bas S1.m, S1.obj S1.m⟩ ∧ agree2 (k1 :: k2 :: r) rev1 rev2) ops.toList 0 []) ops.toList 0 []) :
    M C Q ⟨.cd (.region id ops true), k, ⟨sl, ob⟩⟩ :=
  awp_drawSS S1 S2 hm hi1 hi2 hlen1 hlen2 hob1 hob2 hb hb2 hbas1 hbas2 hnd hin hch1 hch2 hord h
theorem gE {s t : AS} (h1 : lks s.sl (t.sl.map (·.1)) = some (t.sl.map (·.2))) (h2 : lkO s.ob (t.ob.map (·.1)) = some (t.ob.map (·.2))) : Ghost C s t :=
  ghost_le ⟨fun j x hx => by
    have := lks_le h1 j x hx
    simp only [AS.get, this, Option.getD_some]; exact AV.sub_refl x, fun id cs h => ⟨cs, lkO_le h2 id cs h, Nat.le_refl _, fun i c d hc hd => by rw [hc] at hd; cases hd; exact AV.sub_refl _⟩⟩
/-! ### A function's begin and end -/
theorem mP {β : Type} {v0 : β} {tt : List (Nat × TI)} {fn : Func} {c : Code} (mk : β → AV) (h : M C (fun e s => ∃ v, v = v0 ∧ retA tt fn (fun x => x.sub (mk v)) e s) ⟨.cd c, [], s⟩) : awp C c (retA tt fn (fun x => x.sub (mk v0))) s :=
  awp_mono (fun e s h => by obtain ⟨t, h1, v, rfl, h2⟩ := h; exact ⟨t, h1, h2⟩) h |> awp_gh
theorem mQ {β : Type} {v v0 : β} {tt : List (Nat × TI)} {fn : Func} {mk : β → AV} {l : List AV} (e : v = v0) (h : resA tt fn.results.toList s = some l) (hR : (resV l).sub (mk v)) : M C (fun e s => ∃ v, v = v0 ∧ retA tt fn (fun x => x.sub (mk v)) e s) ⟨.ex .ret, [], s⟩ :=
  ⟨s, ghost_refl s, v, e, reta_mk h hR⟩
theorem mQn {β : Type} {v v0 : β} {tt : List (Nat × TI)} {fn : Func} {mk : β → AV} {l : List AV} (e : v = v0) (h : resA tt fn.results.toList s = some l) (hR : (resV l).sub (mk v)) : M C (fun e s => ∃ v, v = v0 ∧ retA tt fn (fun x => x.sub (mk v)) e s) ⟨.ex .normal, [], s⟩ :=
  ⟨s, ghost_refl s, v, e, enda_mk h hR⟩
theorem mPo {β : Type} {v0 : β} {tt : List (Nat × TI)} {fn : Func} {ts ids : List Nat} {c : Code} (mk : β → AV) (mo : β → List (Nat × List AV)) (h : M C (fun e s => ∃ v, v = v0 ∧ retG C tt fn ts ids (mk v) (mo v) e s) ⟨.cd c, [], s⟩) : awp C c (retG C tt fn ts ids (mk v0) (mo v0)) s :=
  awp_mono (fun e s h => by obtain ⟨t, h1, v, rfl, h2⟩ := h; exact ⟨t, h1, h2⟩) h |> awp_gh
theorem mQo {β : Type} {v v0 : β} {tt : List (Nat × TI)} {fn : Func} {ts ids : List Nat} {mk : β → AV} {mo : β → List (Nat × List AV)} {r1 : AV} {obs obs' : List (Nat × List AV)} {t : AS} {l : List AV} (e : v = v0) (hg : Ghost C s t) (h1 : resA tt fn.results.toList t = some l) (h2 : (resV l).mapA (retM ts) = some r1)
    (h3 : pickO t.ob ids = some obs) (h4 : mapO (retM ts) obs = some obs') (h5 : r1.sub (mk v)) (h6 : leO obs' (mo v)) : M C (fun e s => ∃ v, v = v0 ∧ retG C tt fn ts ids (mk v) (mo v) e s) ⟨.ex .ret, [], s⟩ :=
  ⟨s, ghost_refl s, v, e, retg_mk hg h1 h2 h3 h4 h5 h6⟩
theorem mQon {β : Type} {v v0 : β} {tt : List (Nat × TI)} {fn : Func} {ts ids : List Nat} {mk : β → AV} {mo : β → List (Nat × List AV)} {r1 : AV} {obs obs' : List (Nat × List AV)} {t : AS} {l : List AV} (e : v = v0) (hg : Ghost C s t) (h1 : resA tt fn.results.toList t = some l) (h2 : (resV l).mapA (retM ts) = some r1)
    (h3 : pickO t.ob ids = some obs) (h4 : mapO (retM ts) obs = some obs') (h5 : r1.sub (mk v)) (h6 : leO obs' (mo v)) : M C (fun e s => ∃ v, v = v0 ∧ retG C tt fn ts ids (mk v) (mo v) e s) ⟨.ex .normal, [], s⟩ :=
  ⟨s, ghost_refl s, v, e, endg_mk hg h1 h2 h3 h4 h5 h6⟩
/-- Ways meet; o is what they bring. -/
theorem kN {c : Code} {σ : Type} (w : σ) (mk : σ → AS) (h2 : M C Q ⟨.ex .normal, k, mk w⟩) (h1 : M C Q ⟨.cd c, .jo (fun t => ∃ v, w = v ∧ t = mk v) :: k, s⟩) : M C Q ⟨.cd c, k, s⟩ :=
  kX (fun v => w = v) mk (fun _ e => e ▸ h2) h1
theorem kE (id : Nat) {c : Code} {σ : Type} (w : σ) (mk : σ → AS) (h2 : M C Q ⟨.ex (.exit id), k, mk w⟩) (h1 : M C Q ⟨.cd c, .je id (fun t => ∃ v, w = v ∧ t = mk v) :: k, s⟩) : M C Q ⟨.cd c, k, s⟩ :=
  kEx id (fun v => w = v) mk (fun _ e => e ▸ h2) h1
end
end Go.Ab

namespace Go.Ab
/- What holds no identity is not touched by the marks of a box or a new object. -/
mutual
theorem dem_cap {D : Nat → Bool} : ∀ {x y : AV}, AV.mapA (fun _ => none) x = some y → y = x → x.dem D = x
  | .undef, _, _, _ => rfl
  | .p _, _, _, _ => rfl
  | .vec .., y, h, e => by simp only [AV.mapA, Option.some.injEq] at h; subst h; cases e
  | .arr .., _, h, _ => by simp only [AV.mapA] at h; cases h
  | .ptr .., _, h, _ => by simp only [AV.mapA] at h; cases h
  | .bptr .., _, h, _ => by simp only [AV.mapA] at h; cases h
  | .mp .., _, h, _ => by simp only [AV.mapA] at h; cases h
  | .mpr .., _, h, _ => by simp only [AV.mapA] at h; cases h
  | .stk .., _, h, _ => by simp only [AV.mapA] at h; cases h
  | .sem _, _, h, _ => by simp only [AV.mapA] at h; cases h
  | .it .., _, h, _ => by simp only [AV.mapA] at h; cases h
  | .vecp .., _, h, _ => by simp only [AV.mapA] at h; cases h
  | .elp .., _, h, _ => by simp only [AV.mapA] at h; cases h
  | .rptr _, _, _, _ => rfl
  | .agg cs, y, h, e => by
    subst e
    simp only [AV.mapA] at h
    cases hl : AV.mapA.go (fun _ => none) cs with
    | none => rw [hl] at h; cases h
    | some l => rw [hl] at h; cases h; simp only [AV.dem]; exact congrArg _ (demL_capA hl rfl)
  | .tuple cs, y, h, e => by
    subst e
    simp only [AV.mapA] at h
    cases hl : AV.mapA.go (fun _ => none) cs with
    | none => rw [hl] at h; cases h
    | some l => rw [hl] at h; cases h; simp only [AV.dem]; exact congrArg _ (demL_capA hl rfl)
  | .func f cs, y, h, e => by
    subst e
    simp only [AV.mapA] at h
    cases hl : AV.mapA.go (fun _ => none) cs with
    | none => rw [hl] at h; cases h
    | some l => rw [hl] at h; cases h; simp only [AV.dem]; exact congrArg _ (demL_capA hl rfl)
theorem demL_capA {D : Nat → Bool} : ∀ {l l' : List AV}, AV.mapA.go (fun _ => none) l = some l' → l' = l → demL D l = l
  | [], _, _, _ => rfl
  | x :: r, l', h, e => by
    subst e
    simp only [AV.mapA.go] at h
    split at h
    · rename_i y z hy hz
      cases h
      simp only [demL, dem_cap hy rfl, demL_capA hz rfl]
    · cases h
end
theorem demL_cap {C : List AV} (K : AV.mapA.go (fun _ => none) C = some C) (D : Nat → Bool) : demL D C = C := demL_capA K rfl
theorem gFn {C : Cx} {sl : List (Nat × AV)} {ob : List (Nat × List AV)} {f : Fn} {cs : List AV} (j : Nat) (cs' : List AV) (h : look sl j = some (.func f cs)) (hc : cs = cs') : Ghost C ⟨sl, ob⟩ ⟨(j, .func f cs') :: sl, ob⟩ :=
  ghost_slot j h (hc ▸ AV.sub_refl _)
end Go.Ab
