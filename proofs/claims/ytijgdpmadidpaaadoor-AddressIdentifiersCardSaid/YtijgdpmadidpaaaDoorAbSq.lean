/- Short words for what printed walks say often. No program in sight. -/
import Derived.Test.YtijgdpmadidpaaaDoorAbZ
set_option linter.unusedVariables false
set_option linter.unusedSimpArgs false
set_option linter.unnecessarySimpa false
namespace Go.Ab
/-- What is asked of a way out, taken apart step by step. -/
class UW (p : Prop) (q : outParam Prop) : Prop where
  go : q → p
class UO (p : Prop) (b : outParam Bool) (q : outParam Prop) : Prop where
  go : b = false → q → p
theorem uw {p q : Prop} [h : UW p q] (x : q) : p := h.go x
theorem uo {p q : Prop} {b : Bool} [h : UO p b q] (hb : b = false) (x : q) : p := h.go hb x
section
variable {K P : AS → Prop} {Q : Exit → AS → Prop} {s : AS} {id id' : Nat}
instance : UW (thenQ K Q .ret s) (Q .ret s) := ⟨thenQ_ret⟩
instance : UW (thenQ K Q (.exit id) s) (Q (.exit id) s) := ⟨thenQ_exit⟩
instance : UW (blockQ id Q .ret s) (Q .ret s) := ⟨blockQ_ret⟩
instance : UW (blockQ id Q .normal s) (Q .normal s) := ⟨blockQ_normal⟩
instance : UW (blockQ id Q (.exit id) s) (Q .normal s) := ⟨blockQ_exit⟩
instance : UO (blockQ id Q (.exit id') s) (Nat.beq id' id) (Q (.exit id') s) := ⟨blockQ_other⟩
instance : UW (noGoto Q .ret s) (Q .ret s) := ⟨noGoto_ret⟩
instance : UW (noGoto Q (.exit id) s) (Q (.exit id) s) := ⟨noGoto_exit⟩
instance : UW (noGoto Q .normal s) (Q .normal s) := ⟨noGoto_normal⟩
instance : UW (exQ id P Q (.exit id) s) (P s) := ⟨exQ_hit⟩
instance : UO (exQ id P Q (.exit id') s) (Nat.beq id' id) (Q (.exit id') s) := ⟨exQ_other⟩
instance : UW (exQ id P Q .ret s) (Q .ret s) := ⟨exQ_ret⟩
instance : UW (exQ id P Q .normal s) (Q .normal s) := ⟨exQ_normal⟩
end
abbrev ro := @rwpL_op
abbrev rn := @rwpL_nil
theorem oi {α : Type} {a b : α} (h : some a = some b) : a = b := Option.some.inj h
theorem dt {p : Prop} [Decidable p] (h : p) : decide p = true := decide_eq_true h
theorem df {p : Prop} [Decidable p] (h : ¬p) : decide p = false := decide_eq_false h
theorem sr {x : AV} : x.sub x := AV.sub_refl x
theorem er {s : List (Nat × AV)} {j : Nat} {x : AV} (h : look s j = some x) : ∃ y, look s j = some y ∧ y.sub x := ⟨x, h, sr⟩
end Go.Ab
