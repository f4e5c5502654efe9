/- Contracts of library functions, further, out of the kit's shelf, over abstract values. -/
import Derived.Test.YtmdefcidhgbikaaGreatDoorLb06
set_option linter.unusedSimpArgs false
set_option linter.unnecessarySimpa false
set_option linter.unusedVariables false
namespace Go.Ab
open Go.Proofs Go.RowKit
theorem PCalls.of_any {P : Program} {f : FuncId} {args : List PV} {r : AV}
    (h : ∀ (w : World) (st : Nat → Nat → Prop) (vs : Array Value), Ok0 w st → vs.size = args.length → (∀ (i : Nat) c v, args[i]? = some c → vs[i]? = some v → PRep w st c v) →
      Calls P f vs w fun e w' => ∃ v, e = .returned v ∧ Below w.heap.size w w' ∧ ∀ g', ARep w' g' r v) : PCalls P f args (· = r) := by
  intro w st vs hok hsz hargs
  refine (h w st vs hok hsz hargs).mono ?_
  rintro e w' ⟨v, rfl, hB, hr⟩
  refine ⟨v, r, ⟨st, fun _ => none⟩, rfl, rfl, hr _, ⟨hB.os, hB.output, hB.tape, hB.size, fun b hb => hB.block b hb, ?_, ?_, fun b o hb => Nat.lt_of_lt_of_le (hok.lt b o hb) hB.size, fun b _ o => Iff.rfl⟩⟩
  · intro i b hi; cases hi
  · intro i j b hi; cases hi
theorem arr2 {vs : Array Value} (h : vs.size = 2) : ∃ a b, vs = #[a, b] ∧ vs[0]? = some a ∧ vs[1]? = some b := by
  refine ⟨vs[0], vs[1], ?_, Array.getElem?_eq_getElem _, Array.getElem?_eq_getElem _⟩
  apply Array.ext
  · simpa using h
  · intro i h1 h2
    have : i = 0 ∨ i = 1 := by omega
    rcases this with rfl | rfl <;> rfl
def strings_HasSuffix (s p : Bytes) : Option Bool := ck (s.length ≤ 9223372036854775807) <| some (Lib.hasSuffix s p)
theorem strings_HasSuffix_ok (s_0 p_1 : Bytes) (r : Bool) (h0 : strings_HasSuffix s_0 p_1 = some r) : PCalls Tryz.prog 18 [eS s_0, eS p_1] (· = .p (eB r)) := by
  obtain ⟨hl, h0⟩ := ck_cut h0
  cases h0
  refine PCalls.of_calls (l := [.string (str s_0), .string (str p_1)]) fun w st hok => (Tryz.strings_HasSuffix _ _ w (by rw [str_size]; exact hl)).mono ?_
  rintro e w' ⟨rfl, rfl⟩
  rw [str_list, str_list]
  exact ⟨_, rfl, below_refl _, fun _ => .p (.val _)⟩
def strings_ReplaceAll (s o n : Bytes) : Option Bytes := ck (s.length < 4294967281 ∧ 1 ≤ o.length ∧ s.length + Lib.countB (str s) (str o) * n.length ≤ 140737488355328) <| some (Lib.replaceAll s o n)
theorem strings_ReplaceAll_ok (s_0 old_1 new_2 : Bytes) (r : Bytes) (h0 : strings_ReplaceAll s_0 old_1 new_2 = some r) : PCalls Tryz.prog 157 [eS s_0, eS old_1, eS new_2] (· = .p (eS r)) := by
  obtain ⟨⟨h1, h2, h3⟩, h0⟩ := ck_cut h0
  cases h0
  refine PCalls.of_calls (l := [.string (str s_0), .string (str old_1), .string (str new_2)]) fun w st hok => ?_
  obtain ⟨m, hm⟩ := glob_some hok.gl (g := 0) (k := .i64) rfl
  refine (Tryz.strings_ReplaceAll _ _ _ m w (by rw [str_size]; exact h1) hm (by rw [str_size]; exact h2) (by rw [str_size, str_size]; exact h3)).mono ?_
  rintro e w' ⟨rfl, hb⟩
  rw [str_list, str_list, str_list]
  exact ⟨_, rfl, hb, fun _ => .p (.val _)⟩
def strings_Join (xs : List Bytes) (sep : Bytes) : Option Bytes := ck (xs.length ≤ 140737488355328 ∧ (Lib.join xs sep).length ≤ 140737488355328) <| some (Lib.join xs sep)
theorem strings_Join_ok (elems_0 : List Bytes) (sep_1 : Bytes) (r : Bytes) (h0 : strings_Join elems_0 sep_1 = some r) : PCalls Tryz.prog 80 [eL eS elems_0, eS sep_1] (· = .p (eS r)) := by
  obtain ⟨⟨h1, h2⟩, h0⟩ := ck_cut h0
  cases h0
  refine PCalls.of_any fun w st vs hok hsz hv => ?_
  obtain ⟨a, b, rfl, ha, hb⟩ := arr2 hsz
  have hb1 := hv 1 (eS sep_1) b rfl hb
  have ha2 : PRep w st (.slice (elems_0.map eS)) a := hv 0 (eL eS elems_0) a rfl ha
  clear ha hb hv hsz
  cases hb1
  have hmap : ((elems_0.map str).map (·.data.toList)) = elems_0 := by
    rw [List.map_map]
    conv => rhs; rw [← List.map_id elems_0]
    exact List.map_congr_left fun x _ => str_list x
  have nil : ∀ (a : Option Addr) (c : Nat), elems_0 = [] → Calls Tryz.prog 80 #[.slice a 0 c, .string (str sep_1)] w fun e w' => ∃ v, e = .returned v ∧ Below w.heap.size w w' ∧ ∀ g', ARep w' g' (.p (eS (Lib.join elems_0 sep_1))) v := by
    rintro a c rfl
    refine (Tryz.strings_Join_none a c (str sep_1) w).mono ?_
    rintro e w' ⟨rfl, rfl⟩
    exact ⟨_, rfl, below_refl _, fun _ => .p (.val _)⟩
  generalize hes : elems_0.map eS = es at ha2
  cases ha2 with
  | nils => exact nil _ _ (List.map_eq_nil_iff.1 hes)
  | nile q => exact nil _ _ (List.map_eq_nil_iff.1 hes)
  | slice sz cf hcap hsz' hone hc hr =>
    rename_i bk off cap
    have hlen : es.length = elems_0.length := by rw [← hes, List.length_map]
    by_cases he : elems_0 = []
    · have : es.length = 0 := by rw [hlen, he]; rfl
      rw [this]; exact nil _ _ he
    obtain ⟨x0, hx0⟩ := List.exists_mem_of_ne_nil _ he
    have hs1 : sz = 1 := by
      have := hsz' (eS x0) (by rw [← hes]; exact List.mem_map_of_mem hx0)
      exact this.symm
    subst hs1
    have hcell : ∀ (j : Nat) x, (elems_0.map str)[j]? = some x → w.cell? ⟨bk, off + j, none⟩ = some (.string x) ∧ st bk (off + j) := by
      intro j x hx
      rw [List.getElem?_map] at hx
      obtain ⟨y, hy, rfl⟩ := Option.map_eq_some_iff.1 hx
      have hj : es[j]? = some (eS y) := by rw [← hes, List.getElem?_map, hy]; rfl
      have q1 := hc j (eS y) 0 (eS y) hj rfl
      have q2 := hr j (eS y) 0 (eS y) hj rfl
      rw [Nat.mul_one, Nat.add_zero] at q1
      generalize hcv : cf j 0 = z at q1 q2
      cases q2
      exact ⟨q1.2, q1.1⟩
    have hbk : bk < w.heap.size := by
      obtain ⟨i, hi, e⟩ := List.getElem_of_mem hx0
      exact hok.lt _ _ (hcell i (str x0) (by rw [List.getElem?_map, List.getElem?_eq_getElem hi, e]; rfl)).2
    have hJ := Tryz.strings_Join bk off cap (elems_0.map str) (str sep_1) w (fun j x hx => (hcell j x hx).1) hbk (by rw [List.length_map]; exact h1) (by rw [List.length_map, ← hlen]; exact hcap) (by rw [hmap, str_list]; exact h2)
    rw [List.length_map, ← hlen] at hJ
    refine hJ.mono ?_
    rintro e w' ⟨rfl, hbl⟩
    rw [hmap, str_list]
    exact ⟨_, rfl, hbl, fun _ => .p (.val _)⟩
def strings_TrimLeft (s p : Bytes) : Option Bytes := ck (p.length = 1 ∧ (p.getD 0 0).toNat < 128) <| some (Lib.trimLeftB s (p.getD 0 0))
theorem strings_TrimLeft_ok (s_0 cutset_1 : Bytes) (r : Bytes) (h0 : strings_TrimLeft s_0 cutset_1 = some r) : PCalls Tryz.prog 20 [eS s_0, eS cutset_1] (· = .p (eS r)) := by
  obtain ⟨⟨h1, h2⟩, h0⟩ := ck_cut h0
  cases h0
  obtain ⟨c, rfl⟩ := List.length_eq_one_iff.1 h1
  refine PCalls.of_calls (l := [.string (str s_0), .string (str [c])]) fun w st hok => (Tryz.strings_TrimLeft_one (str s_0) c h2 w).mono ?_
  rintro e w' ⟨rfl, rfl⟩
  rw [str_list]
  exact ⟨_, rfl, below_refl _, fun _ => .p (.val _)⟩
def strings_Contains (s p : Bytes) : Option Bool := ck (p.length = 1) <| some (decide (0 ≤ Lib.indexByte s (p.getD 0 0)))
theorem strings_Contains_ok (s_0 substr_1 : Bytes) (r : Bool) (h0 : strings_Contains s_0 substr_1 = some r) : PCalls Tryz.prog 21 [eS s_0, eS substr_1] (· = .p (eB r)) := by
  obtain ⟨h1, h0⟩ := ck_cut h0
  cases h0
  obtain ⟨c, rfl⟩ := List.length_eq_one_iff.1 h1
  refine PCalls.of_calls (l := [.string (str s_0), .string (str [c])]) fun w st hok => (Tryz.strings_Contains_one (str s_0) c w).mono ?_
  rintro e w' ⟨rfl, rfl⟩
  rw [str_list]
  exact ⟨_, rfl, below_refl _, fun _ => .p (.val _)⟩
theorem PCalls.of_row {P : Program} {f : FuncId} {l : List Value} {xs : List Bytes} {n : Nat} (hn : n = xs.length)
    (h : ∀ (w : World) (st : Nat → Nat → Prop), Ok0 w st → Calls P f l.toArray w fun e w' => e = .returned (.slice (some ⟨w.heap.size, 0, none⟩) n n) ∧ ∃ t, w' = w.alloc (.cells ((xs.map str).map Value.string).toArray t)) : PCalls P f (l.map PV.val) (· = .p (eL eS xs)) := by
  subst hn
  intro w st vs hok hsz hargs
  have e : vs = l.toArray := by
    apply Array.ext
    · simpa using hsz
    · intro i h1 h2
      have hi : i < l.length := by simpa using h2
      have := hargs i (.val l[i]) vs[i] (by simp [hi]) (Array.getElem?_eq_getElem h1)
      generalize hv : vs[i] = v at this
      cases this
      simp
  subst e
  refine (h w st hok).mono ?_
  rintro e w' ⟨rfl, t, rfl⟩
  refine ⟨_, .p (eL eS xs), ⟨fun b o => st b o ∨ (b = w.heap.size ∧ o < xs.length), fun _ => none⟩, rfl, rfl, .p ?_, ⟨rfl, rfl, rfl, by simp, fun b hb => Below.heap_alloc _ _ _ hb, ?_, ?_, ?_, ?_⟩⟩
  · have hl : (xs.map eS).length = xs.length := List.length_map ..
    show PRep _ _ (.slice (xs.map eS)) _
    rw [← hl]
    refine .slice 1 (fun i _ => .string (str (xs.getD i []))) (Nat.le_refl _) ?_ ?_ ?_ ?_
    · intro e he
      obtain ⟨x, _, rfl⟩ := List.mem_map.1 he
      rfl
    · intro e he c hc
      obtain ⟨x, _, rfl⟩ := List.mem_map.1 he
      obtain rfl := List.mem_singleton.1 hc
      rfl
    · intro i e j c h1 h2
      rw [List.getElem?_map] at h1
      obtain ⟨x, hx, rfl⟩ := Option.map_eq_some_iff.1 h1
      have hi := (List.getElem?_eq_some_iff.1 hx).1
      have hj : j = 0 := by
        have := (List.getElem?_eq_some_iff.1 h2).1
        simp [eS, PV.cells] at this
        exact this
      subst hj
      refine ⟨.inr ⟨rfl, by omega⟩, ?_⟩
      rw [World.cell?_alloc_new]
      simp [hx]
    · intro i e j c h1 h2
      rw [List.getElem?_map] at h1
      obtain ⟨x, hx, rfl⟩ := Option.map_eq_some_iff.1 h1
      have hj : j = 0 := by
        have := (List.getElem?_eq_some_iff.1 h2).1
        simp [eS, PV.cells] at this
        exact this
      subst hj
      simp only [eS, PV.cells, List.getElem?_cons_zero, Option.some.injEq] at h2
      subst h2
      rw [List.getD_eq_getElem?_getD, hx]
      exact .val _
  · intro i b hi; cases hi
  · intro i j b hi; cases hi
  · rintro b o (hb | ⟨rfl, _⟩)
    · exact Nat.lt_of_lt_of_le (hok.lt b o hb) (by simp)
    · simp
  · intro b hb o
    exact ⟨fun h => h.elim id fun ⟨h, _⟩ => by omega, .inl⟩
def strings_Split (s sep : Bytes) : Option (List Bytes) := ck (s.length < 4294967281 ∧ 1 ≤ sep.length) <| some (Lib.split s sep)
theorem strings_Split_ok (s_0 sep_1 : Bytes) (r : List Bytes) (h0 : strings_Split s_0 sep_1 = some r) : PCalls Tryz.prog 19 [eS s_0, eS sep_1] (· = .p (eL eS r)) := by
  obtain ⟨⟨h1, h2⟩, h0⟩ := ck_cut h0
  cases h0
  have hB : Lib.splitB (str sep_1) 0 (Lib.countB (str s_0) (str sep_1)) (str s_0) = (Lib.split s_0 sep_1).map str := by
    have h := Lib.splitB_data (str sep_1) 0 (Lib.countB (str s_0) (str sep_1)) (str s_0)
    rw [str_list, str_list] at h
    have h3 : Lib.countB (str s_0) (str sep_1) = Lib.count s_0 sep_1 := by unfold Lib.countB; rw [str_list, str_list]
    unfold Lib.split
    rw [← h3, ← h, List.map_map]
    conv => lhs; rw [← List.map_id (Lib.splitB _ _ _ _)]
    exact List.map_congr_left fun x _ => by simp [str]
  have hlen := Lib.splitB_all (str sep_1) (by rw [str_size]; exact h2) 0 _ (str s_0) rfl
  rw [hB, List.length_map] at hlen
  refine PCalls.of_row (l := [.string (str s_0), .string (str sep_1)]) hlen.symm fun w st hok => ?_
  obtain ⟨m, hm⟩ := glob_some hok.gl (g := 0) (k := .i64) rfl
  refine (Tryz.strings_Split _ _ m w (by rw [str_size]; exact h1) hm (by rw [str_size]; exact h2)).mono ?_
  rintro e w' ⟨rfl, rfl⟩
  rw [hB]
  exact ⟨rfl, _, rfl⟩
end Go.Ab
