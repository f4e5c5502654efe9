/- Plain lemmas on the printed functions: texts, lists, checks. No program in sight. -/
import Derived.Test.YtijgdpmadidpaaaGreatDoorAbP
set_option linter.unusedVariables false
set_option linter.unusedSimpArgs false
set_option linter.unnecessarySimpa false
namespace Go.Ab

theorem inR_of {c : Int} (h1 : -9223372036854775808 ≤ c) (h2 : c ≤ 9223372036854775807) : inR c := ⟨h1, h2⟩
theorem byt_nat (l : Bytes) (k : Nat) : byt l (k : Int) = ((l.getD k 0).toNat : Int) := rfl
theorem lat_nat {α : Type} [Inhabited α] (l : List α) (k : Nat) : lat l (k : Int) = l.getD k default := rfl
theorem sub_nat {α : Type} (l : List α) (i j : Nat) : sub l (i : Int) (j : Int) = (l.take j).drop i := rfl
theorem sub_from {α : Type} (l : List α) (i : Int) : sub l i (l.length : Int) = l.drop i.toNat := by
  show (l.take (l.length : Int).toNat).drop i.toNat = _
  rw [Int.toNat_natCast, List.take_length]
theorem jn_inl {α β : Type} (v : α) (k : α → Option β) : jn (some (.inl v)) k = k v := rfl
theorem jn_inr {α β : Type} (x : β) (k : α → Option β) : jn (some (.inr x)) k = some x := rfl
theorem bd_some {α β : Type} (v : α) (k : α → Option β) : (some v).bind k = k v := rfl

end Go.Ab
