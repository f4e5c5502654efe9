/- Short words for what printed walks say often. No program in sight. More fuel, the same answer. No program in sight. -/
import Derived.Test.YtijgdpmadidpaaaGreatDoorAbZ
import Derived.Test.YtijgdpmadidpaaaGreatDoorAbEv
import Derived.Laws.IdiomStrings
set_option linter.unusedVariables false
set_option linter.unusedSimpArgs false
set_option linter.unnecessarySimpa false
namespace Go.Ab
/-- What is asked of a way out, taken apart step by step. -/
class UW (p : Prop) (q : outParam Prop) : Prop where
  go : q → p
class UO (p : Prop) (b : outParam Bool) (q : outParam Prop) : Prop where
  go : b = false → q → p
theorem uw {p q : Prop} [h : UW p q] (x : q) : p := h.go x
theorem uo {p q : Prop} {b : Bool} [h : UO p b q] (hb : b = false) (x : q) : p := h.go hb x
section
variable {K P : AS → Prop} {Q : Exit → AS → Prop} {s : AS} {id id' : Nat}
instance : UW (thenQ K Q .ret s) (Q .ret s) := ⟨thenQ_ret⟩
instance : UW (thenQ K Q (.exit id) s) (Q (.exit id) s) := ⟨thenQ_exit⟩
instance : UW (blockQ id Q .ret s) (Q .ret s) := ⟨blockQ_ret⟩
instance : UW (blockQ id Q .normal s) (Q .normal s) := ⟨blockQ_normal⟩
instance : UW (blockQ id Q (.exit id) s) (Q .normal s) := ⟨blockQ_exit⟩
instance : UO (blockQ id Q (.exit id') s) (Nat.beq id' id) (Q (.exit id') s) := ⟨blockQ_other⟩
instance : UW (noGoto Q .ret s) (Q .ret s) := ⟨noGoto_ret⟩
instance : UW (noGoto Q (.exit id) s) (Q (.exit id) s) := ⟨noGoto_exit⟩
instance : UW (noGoto Q .normal s) (Q .normal s) := ⟨noGoto_normal⟩
instance : UW (exQ id P Q (.exit id) s) (P s) := ⟨exQ_hit⟩
instance : UO (exQ id P Q (.exit id') s) (Nat.beq id' id) (Q (.exit id') s) := ⟨exQ_other⟩
instance : UW (exQ id P Q .ret s) (Q .ret s) := ⟨exQ_ret⟩
instance : UW (exQ id P Q .normal s) (Q .normal s) := ⟨exQ_normal⟩
end
abbrev ro := @rwpL_op
abbrev rn := @rwpL_nil
theorem oi {α : Type} {a b : α} (h : some a = some b) : a = b := Option.some.inj h
theorem dt {p : Prop} [Decidable p] (h : p) : decide p = true := decide_eq_true h
theorem df {p : Prop} [Decidable p] (h : ¬p) : decide p = false := decide_eq_false h
theorem sr {x : AV} : x.sub x := AV.sub_refl x
theorem er {s : List (Nat × AV)} {j : Nat} {x : AV} (h : look s j = some x) : ∃ y, look s j = some y ∧ y.sub x := ⟨x, h, sr⟩
end Go.Ab

namespace Go.Ab
/-- Whatever the first answers, the second answers. -/
def Le {α : Type} (o o' : Option α) : Prop := ∀ r, o = some r → o' = some r
section
variable {α β : Type}
theorem le_refl (o : Option α) : Le o o := fun _ h => h
theorem le_none (o : Option α) : Le none o := fun _ h => by cases h
theorem le_ck {p : Prop} [Decidable p] {o o' : Option α} (h : Le o o') : Le (ck p o) (ck p o') := fun r hr => by
  unfold ck at hr ⊢
  split at hr
  · rename_i hp; rw [if_pos hp]; exact h r hr
  · cases hr
theorem le_ite {p : Prop} [Decidable p] {a b a' b' : Option α} (h : Le a a') (k : Le b b') : Le (if p then a else b) (if p then a' else b') := by
  by_cases hp : p
  · simpa only [if_pos hp] using h
  · simpa only [if_neg hp] using k
theorem le_bind {g g' : Option β} {k k' : β → Option α} (h : Le g g') (hk : ∀ x, Le (k x) (k' x)) : Le (g.bind k) (g'.bind k') := fun r hr => by
  cases g with
  | none => cases hr
  | some x => rw [h x rfl]; exact hk x r hr
theorem le_jn {g g' : Option (β ⊕ α)} {k k' : β → Option α} (h : Le g g') (hk : ∀ x, Le (k x) (k' x)) : Le (jn g k) (jn g' k') := fun r hr => by
  cases g with
  | none => cases hr
  | some x => rw [h x rfl]; cases x with
    | inl x => exact hk x r hr
    | inr y => exact hr
/-- What is answered once is answered from there on. -/
theorem ev_once {f : Nat → Option α} (N : Nat) {r : α} (h : f N = some r) (hm : ∀ n, N ≤ n → Le (f N) (f n)) {P : α → Prop} (hp : P r) : Ev2 (fun n _ => f n) P := ⟨r, hp, N, fun n _ hn _ => hm n hn r h⟩
end
end Go.Ab

namespace Go.Ab
open Go.RowKit
/-- string(b): a row of bytes as a text. -/
theorem op_convBS {C : Cx} {o : Oper} {K : AS → Prop} {sl : List (Nat × AV)} {ob : List (Nat × List AV)} {d : Nat} (l : List UInt8) {st dt e : TypeId} {x : Operand} {y : AV} {i ie j : TI} (ho : o.op = .convert st dt x) (hd : o.dst = some d) (hn : Nat.blt d C.n = true)
    (hi : look C.tt st = some i) (hik : i.k = .slice e) (hie : look C.tt e = some ie) (hiek : ie.k = .int .u8) (hj : look C.tt dt = some j) (hjk : j.k = .string) (hx : evo sl x = some y) (hy : y.elems? = some (l.map eU))
    (hK : K ⟨(d, .p (eS l)) :: sl, ob⟩) : OpOk C o K ⟨sl, ob⟩ := by
  obtain ⟨u, h1, h2⟩ := und_of C.good hi
  have h3 := kind_slice (h2.trans hik)
  obtain ⟨u1, g1, g2⟩ := und_of C.good hie
  have g3 := kind_int (g2.trans hiek)
  obtain ⟨u2, k1, k2⟩ := und_of C.good hj
  have k3 := kind_string (k2.trans hjk)
  subst h3 g3 k3
  refine ok_one hd hn (fun g a w hs => ⟨.string (str l), ?_, .p (.val _)⟩) hK
  have hv := elems_view hy (evo_rep hs hx)
  generalize hq : a.eval x = v at hv
  generalize hes : l.map eU = es at hv
  have hnil : es = [] → l = [] := fun q => by subst q; exact List.map_eq_nil_iff.1 hes
  cases hv with
  | nils =>
    rw [hnil rfl]
    simp only [execOp, ho, hq]
    rw [Sem.run_bind, run_convert_bytes_string w st dt e none 0 0 h1 g1 k1]
    rfl
  | nile a' =>
    rw [hnil rfl]
    simp only [execOp, ho, hq]
    rw [Sem.run_bind]
    have := run_convert_bytes_back (P := C.P) w st dt e a' 0 [] h1 g1 k1 (fun j hj => absurd hj (Nat.not_lt_zero j))
    rw [show ([] : List UInt8).length = 0 from rfl] at this
    rw [this]
    rfl
  | slice sz cf hcap hsz hone hc hr =>
    rename_i b off cap
    subst hes
    simp only [execOp, ho, hq]
    rw [List.length_map, Sem.run_bind]
    have := run_convert_bytes_back (P := C.P) w st dt e ⟨b, off, none⟩ cap l h1 g1 k1 (fun j hj => by
      have hj2 : (l.map eU)[j]? = some (eU l[j]) := by simp [hj]
      have hz : sz = 1 := (hsz (eU l[j]) (List.mem_of_getElem? hj2)).symm
      have c1 := hc j (eU l[j]) 0 (eU l[j]) hj2 rfl
      have c2 := hr j (eU l[j]) 0 (eU l[j]) hj2 rfl
      rw [hz, Nat.mul_one, Nat.add_zero] at c1
      rw [add_lit, c1.2]
      generalize cf j 0 = v at c2
      cases c2
      rfl)
    rw [this]
    rfl
end Go.Ab

namespace Go.Ab
/- The steps that occur most, their closed facts by themselves. -/
section
variable {C : Cx} {ops : Array Oper} {K : AS → Prop} {sl : List (Nat × AV)} {ob : List (Nat × List AV)} {r : List Oper} {o : Oper} {d : Nat}
theorem mv {x : Operand} {y : AV} (hK : rwpL C ops r K ⟨(d, y) :: sl, ob⟩) (hg : o.guard = none := by rfl) (ho : o.op = .move x := by rfl) (hd : o.dst = some d := by rfl) (hn : Nat.blt d C.n = true := by rfl) (hx : evo sl x = some y := by rfl) :
    rwpL C ops (o :: r) K ⟨sl, ob⟩ := rwpL_op hg (ok_move ho hd hn hx hK)
theorem ag {x : Operand} {y : AV} (hK : rwpL C ops r K ⟨(d, y) :: sl, ob⟩) (hg : o.guard = none := by rfl) (ho : o.op = .assign x := by rfl) (hd : o.dst = some d := by rfl) (hn : Nat.blt d C.n = true := by rfl) (hx : evo sl x = some y := by rfl) :
    rwpL C ops (o :: r) K ⟨sl, ob⟩ := rwpL_op hg (ok_assign ho hd hn hx hK)
end
end Go.Ab
