/- More fuel, the same answer. No program in sight. -/
import Derived.Test.YtijgdpmadidpaaaDoorAbEv
set_option linter.unusedVariables false
set_option linter.unusedSimpArgs false
set_option linter.unnecessarySimpa false
namespace Go.Ab
/-- Whatever the first answers, the second answers. -/
def Le {α : Type} (o o' : Option α) : Prop := ∀ r, o = some r → o' = some r
section
variable {α β : Type}
theorem le_refl (o : Option α) : Le o o := fun _ h => h
theorem le_none (o : Option α) : Le none o := fun _ h => by cases h
theorem le_ck {p : Prop} [Decidable p] {o o' : Option α} (h : Le o o') : Le (ck p o) (ck p o') := fun r hr => by
  unfold ck at hr ⊢
  split at hr
  · rename_i hp; rw [if_pos hp]; exact h r hr
  · cases hr
theorem le_ite {p : Prop} [Decidable p] {a b a' b' : Option α} (h : Le a a') (k : Le b b') : Le (if p then a else b) (if p then a' else b') := by
  by_cases hp : p
  · simpa only [if_pos hp] using h
  · simpa only [if_neg hp] using k
theorem le_bind {g g' : Option β} {k k' : β → Option α} (h : Le g g') (hk : ∀ x, Le (k x) (k' x)) : Le (g.bind k) (g'.bind k') := fun r hr => by
  cases g with
  | none => cases hr
  | some x => rw [h x rfl]; exact hk x r hr
theorem le_jn {g g' : Option (β ⊕ α)} {k k' : β → Option α} (h : Le g g') (hk : ∀ x, Le (k x) (k' x)) : Le (jn g k) (jn g' k') := fun r hr => by
  cases g with
  | none => cases hr
  | some x => rw [h x rfl]; cases x with
    | inl x => exact hk x r hr
    | inr y => exact hr
/-- What is answered once is answered from there on. -/
theorem ev_once {f : Nat → Option α} (N : Nat) {r : α} (h : f N = some r) (hm : ∀ n, N ≤ n → Le (f N) (f n)) {P : α → Prop} (hp : P r) : Ev2 (fun n _ => f n) P := ⟨r, hp, N, fun n _ hn _ => hm n hn r h⟩
end
end Go.Ab
