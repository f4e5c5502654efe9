/- Contracts of library functions, further, out of the kit's shelf, over abstract values. -/
import Derived.Test.YtapfhipodpbflaaGreatDoorLb06
set_option linter.unusedSimpArgs false
set_option linter.unnecessarySimpa false
set_option linter.unusedVariables false
namespace Go.Ab
open Go.Proofs Go.RowKit

/-- As 'of_calls', for arguments that are no literals. -/
theorem PCalls.of_any {P : Program} {f : FuncId} {args : List PV} {r : AV}
    (h : ∀ (w : World) (st : Nat → Nat → Prop) (vs : Array Value), Ok0 w st → vs.size = args.length → (∀ (i : Nat) c v, args[i]? = some c → vs[i]? = some v → PRep w st c v) →
      Calls P f vs w fun e w' => ∃ v, e = .returned v ∧ Below w.heap.size w w' ∧ ∀ g', ARep w' g' r v) : PCalls P f args (· = r) := by
  intro w st vs hok hsz hargs
  refine (h w st vs hok hsz hargs).mono ?_
  rintro e w' ⟨v, rfl, hB, hr⟩
  refine ⟨v, r, ⟨st, fun _ => none⟩, rfl, rfl, hr _, ⟨hB.os, hB.output, hB.tape, hB.size, fun b hb => hB.block b hb, ?_, ?_, fun b o hb => Nat.lt_of_lt_of_le (hok.lt b o hb) hB.size, fun b _ o => Iff.rfl⟩⟩
  · intro i b hi; cases hi
  · intro i j b hi; cases hi
theorem arr2 {vs : Array Value} (h : vs.size = 2) : ∃ a b, vs = #[a, b] ∧ vs[0]? = some a ∧ vs[1]? = some b := by
  refine ⟨vs[0], vs[1], ?_, Array.getElem?_eq_getElem _, Array.getElem?_eq_getElem _⟩
  apply Array.ext
  · simpa using h
  · intro i h1 h2
    have : i = 0 ∨ i = 1 := by omega
    rcases this with rfl | rfl <;> rfl



def strings_Join (xs : List Bytes) (sep : Bytes) : Option Bytes := ck (xs.length ≤ 140737488355328 ∧ (Lib.join xs sep).length ≤ 140737488355328) <| some (Lib.join xs sep)
theorem strings_Join_ok (elems_0 : List Bytes) (sep_1 : Bytes) (r : Bytes) (h0 : strings_Join elems_0 sep_1 = some r) : PCalls Tryz.prog 43 [eL eS elems_0, eS sep_1] (· = .p (eS r)) := by
  obtain ⟨⟨h1, h2⟩, h0⟩ := ck_cut h0
  cases h0
  refine PCalls.of_any fun w st vs hok hsz hv => ?_
  obtain ⟨a, b, rfl, ha, hb⟩ := arr2 hsz
  have hb1 := hv 1 (eS sep_1) b rfl hb
  have ha2 : PRep w st (.slice (elems_0.map eS)) a := hv 0 (eL eS elems_0) a rfl ha
  clear ha hb hv hsz
  cases hb1
  have hmap : ((elems_0.map str).map (·.data.toList)) = elems_0 := by
    rw [List.map_map]
    conv => rhs; rw [← List.map_id elems_0]
    exact List.map_congr_left fun x _ => str_list x
  have nil : ∀ (a : Option Addr) (c : Nat), elems_0 = [] → Calls Tryz.prog 43 #[.slice a 0 c, .string (str sep_1)] w fun e w' => ∃ v, e = .returned v ∧ Below w.heap.size w w' ∧ ∀ g', ARep w' g' (.p (eS (Lib.join elems_0 sep_1))) v := by
    rintro a c rfl
    refine (Tryz.strings_Join_none a c (str sep_1) w).mono ?_
    rintro e w' ⟨rfl, rfl⟩
    exact ⟨_, rfl, below_refl _, fun _ => .p (.val _)⟩
  generalize hes : elems_0.map eS = es at ha2
  cases ha2 with
  | nils => exact nil _ _ (List.map_eq_nil_iff.1 hes)
  | nile q => exact nil _ _ (List.map_eq_nil_iff.1 hes)
  | slice sz cf hcap hsz' hone hc hr =>
    rename_i bk off cap
    have hlen : es.length = elems_0.length := by rw [← hes, List.length_map]
    by_cases he : elems_0 = []
    · have : es.length = 0 := by rw [hlen, he]; rfl
      rw [this]; exact nil _ _ he
    obtain ⟨x0, hx0⟩ := List.exists_mem_of_ne_nil _ he
    have hs1 : sz = 1 := by
      have := hsz' (eS x0) (by rw [← hes]; exact List.mem_map_of_mem hx0)
      exact this.symm
    subst hs1
    have hcell : ∀ (j : Nat) x, (elems_0.map str)[j]? = some x → w.cell? ⟨bk, off + j, none⟩ = some (.string x) ∧ st bk (off + j) := by
      intro j x hx
      rw [List.getElem?_map] at hx
      obtain ⟨y, hy, rfl⟩ := Option.map_eq_some_iff.1 hx
      have hj : es[j]? = some (eS y) := by rw [← hes, List.getElem?_map, hy]; rfl
      have q1 := hc j (eS y) 0 (eS y) hj rfl
      have q2 := hr j (eS y) 0 (eS y) hj rfl
      rw [Nat.mul_one, Nat.add_zero] at q1
      generalize hcv : cf j 0 = z at q1 q2
      cases q2
      exact ⟨q1.2, q1.1⟩
    have hbk : bk < w.heap.size := by
      obtain ⟨i, hi, e⟩ := List.getElem_of_mem hx0
      exact hok.lt _ _ (hcell i (str x0) (by rw [List.getElem?_map, List.getElem?_eq_getElem hi, e]; rfl)).2
    have hJ := Tryz.strings_Join bk off cap (elems_0.map str) (str sep_1) w (fun j x hx => (hcell j x hx).1) hbk (by rw [List.length_map]; exact h1) (by rw [List.length_map, ← hlen]; exact hcap) (by rw [hmap, str_list]; exact h2)
    rw [List.length_map, ← hlen] at hJ
    refine hJ.mono ?_
    rintro e w' ⟨rfl, hbl⟩
    rw [hmap, str_list]
    exact ⟨_, rfl, hbl, fun _ => .p (.val _)⟩


end Go.Ab
