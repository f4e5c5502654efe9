/- Contracts of library functions, further, out of the kit's shelf, over abstract values. -/
import Derived.Test.YtgdcfenbmcflkaaGreatDoorLb06
set_option linter.unusedSimpArgs false
set_option linter.unnecessarySimpa false
set_option linter.unusedVariables false
namespace Go.Ab
open Go.Proofs Go.RowKit

/-- As 'of_calls', for arguments that are no literals. -/
theorem PCalls.of_any {P : Program} {f : FuncId} {args : List PV} {r : AV}
    (h : ∀ (w : World) (st : Nat → Nat → Prop) (vs : Array Value), Ok0 w st → vs.size = args.length → (∀ (i : Nat) c v, args[i]? = some c → vs[i]? = some v → PRep w st c v) →
      Calls P f vs w fun e w' => ∃ v, e = .returned v ∧ Below w.heap.size w w' ∧ ∀ g', ARep w' g' r v) : PCalls P f args (· = r) := by
  intro w st vs hok hsz hargs
  refine (h w st vs hok hsz hargs).mono ?_
  rintro e w' ⟨v, rfl, hB, hr⟩
  refine ⟨v, r, ⟨st, fun _ => none⟩, rfl, rfl, hr _, ⟨hB.os, hB.output, hB.tape, hB.size, fun b hb => hB.block b hb, ?_, ?_, fun b o hb => Nat.lt_of_lt_of_le (hok.lt b o hb) hB.size, fun b _ o => Iff.rfl⟩⟩
  · intro i b hi; cases hi
  · intro i j b hi; cases hi
theorem arr2 {vs : Array Value} (h : vs.size = 2) : ∃ a b, vs = #[a, b] ∧ vs[0]? = some a ∧ vs[1]? = some b := by
  refine ⟨vs[0], vs[1], ?_, Array.getElem?_eq_getElem _, Array.getElem?_eq_getElem _⟩
  apply Array.ext
  · simpa using h
  · intro i h1 h2
    have : i = 0 ∨ i = 1 := by omega
    rcases this with rfl | rfl <;> rfl





end Go.Ab
