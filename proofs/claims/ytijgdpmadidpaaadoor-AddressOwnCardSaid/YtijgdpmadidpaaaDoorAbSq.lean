/- Short words for what printed walks say often. No program in sight. More fuel, the same answer. No program in sight. -/
import Derived.Test.YtijgdpmadidpaaaDoorAbZ
import Derived.Test.YtijgdpmadidpaaaDoorAbEv
set_option linter.unusedVariables false
set_option linter.unusedSimpArgs false
set_option linter.unnecessarySimpa false
namespace Go.Ab
/-- What is asked of a way out, taken apart step by step. -/
class UW (p : Prop) (q : outParam Prop) : Prop where
  go : q → p
class UO (p : Prop) (b : outParam Bool) (q : outParam Prop) : Prop where
  go : b = false → q → p
theorem uw {p q : Prop} [h : UW p q] (x : q) : p := h.go x
theorem uo {p q : Prop} {b : Bool} [h : UO p b q] (hb : b = false) (x : q) : p := h.go hb x
section
variable {K P : AS → Prop} {Q : Exit → AS → Prop} {s : AS} {id id' : Nat}
instance : UW (thenQ K Q .ret s) (Q .ret s) := ⟨thenQ_ret⟩
instance : UW (thenQ K Q (.exit id) s) (Q (.exit id) s) := ⟨thenQ_exit⟩
instance : UW (blockQ id Q .ret s) (Q .ret s) := ⟨blockQ_ret⟩
instance : UW (blockQ id Q .normal s) (Q .normal s) := ⟨blockQ_normal⟩
instance : UW (blockQ id Q (.exit id) s) (Q .normal s) := ⟨blockQ_exit⟩
instance : UO (blockQ id Q (.exit id') s) (Nat.beq id' id) (Q (.exit id') s) := ⟨blockQ_other⟩
instance : UW (noGoto Q .ret s) (Q .ret s) := ⟨noGoto_ret⟩
instance : UW (noGoto Q (.exit id) s) (Q (.exit id) s) := ⟨noGoto_exit⟩
instance : UW (noGoto Q .normal s) (Q .normal s) := ⟨noGoto_normal⟩
instance : UW (exQ id P Q (.exit id) s) (P s) := ⟨exQ_hit⟩
instance : UO (exQ id P Q (.exit id') s) (Nat.beq id' id) (Q (.exit id') s) := ⟨exQ_other⟩
instance : UW (exQ id P Q .ret s) (Q .ret s) := ⟨exQ_ret⟩
instance : UW (exQ id P Q .normal s) (Q .normal s) := ⟨exQ_normal⟩
end
abbrev ro := @rwpL_op
abbrev rn := @rwpL_nil
theorem oi {α : Type} {a b : α} (h : some a = some b) : a = b := Option.some.inj h
theorem dt {p : Prop} [Decidable p] (h : p) : decide p = true := decide_eq_true h
theorem df {p : Prop} [Decidable p] (h : ¬p) : decide p = false := decide_eq_false h
theorem sr {x : AV} : x.sub x := AV.sub_refl x
theorem er {s : List (Nat × AV)} {j : Nat} {x : AV} (h : look s j = some x) : ∃ y, look s j = some y ∧ y.sub x := ⟨x, h, sr⟩
end Go.Ab

namespace Go.Ab
/-- Whatever the first answers, the second answers. -/
def Le {α : Type} (o o' : Option α) : Prop := ∀ r, o = some r → o' = some r
section
variable {α β : Type}
theorem le_refl (o : Option α) : Le o o := fun _ h => h
theorem le_none (o : Option α) : Le none o := fun _ h => by cases h
theorem le_ck {p : Prop} [Decidable p] {o o' : Option α} (h : Le o o') : Le (ck p o) (ck p o') := fun r hr => by
  unfold ck at hr ⊢
  split at hr
  · rename_i hp; rw [if_pos hp]; exact h r hr
  · cases hr
theorem le_ite {p : Prop} [Decidable p] {a b a' b' : Option α} (h : Le a a') (k : Le b b') : Le (if p then a else b) (if p then a' else b') := by
  by_cases hp : p
  · simpa only [if_pos hp] using h
  · simpa only [if_neg hp] using k
theorem le_bind {g g' : Option β} {k k' : β → Option α} (h : Le g g') (hk : ∀ x, Le (k x) (k' x)) : Le (g.bind k) (g'.bind k') := fun r hr => by
  cases g with
  | none => cases hr
  | some x => rw [h x rfl]; exact hk x r hr
theorem le_jn {g g' : Option (β ⊕ α)} {k k' : β → Option α} (h : Le g g') (hk : ∀ x, Le (k x) (k' x)) : Le (jn g k) (jn g' k') := fun r hr => by
  cases g with
  | none => cases hr
  | some x => rw [h x rfl]; cases x with
    | inl x => exact hk x r hr
    | inr y => exact hr
/-- What is answered once is answered from there on. -/
theorem ev_once {f : Nat → Option α} (N : Nat) {r : α} (h : f N = some r) (hm : ∀ n, N ≤ n → Le (f N) (f n)) {P : α → Prop} (hp : P r) : Ev2 (fun n _ => f n) P := ⟨r, hp, N, fun n _ hn _ => hm n hn r h⟩
end
end Go.Ab
