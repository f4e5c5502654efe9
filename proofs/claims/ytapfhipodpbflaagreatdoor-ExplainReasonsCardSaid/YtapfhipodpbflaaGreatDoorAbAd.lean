/- From a contract of the kit's shelf to a contract over abstract values. It holds for every program. -/
import Derived.Test.YtapfhipodpbflaaGreatDoorAbZ
import Derived.Below
import Derived.Lib.LaidTab
set_option linter.unusedVariables false
set_option linter.unusedSimpArgs false
set_option linter.unnecessarySimpa false
namespace Go.Ab
open Go.RowKit

theorem PCalls.of_calls {P : Program} {f : FuncId} {l : List Value} {r : AV}
    (h : ∀ (w : World) (st : Nat → Nat → Prop), Ok0 w st → Calls P f l.toArray w fun e w' => ∃ v, e = .returned v ∧ Below w.heap.size w w' ∧ ∀ g', ARep w' g' r v) : PCalls P f (l.map PV.val) (· = r) := by
  intro w st vs hok hsz hargs
  have e : vs = l.toArray := by
    apply Array.ext
    · simpa using hsz
    · intro i h1 h2
      have hi : i < l.length := by simpa using h2
      have := hargs i (.val l[i]) vs[i] (by simp [hi]) (Array.getElem?_eq_getElem h1)
      generalize hv : vs[i] = v at this
      cases this
      simp
  subst e
  refine (h w st hok).mono ?_
  rintro e w' ⟨v, rfl, hB, hr⟩
  refine ⟨v, r, ⟨st, fun _ => none⟩, rfl, rfl, hr _, ⟨hB.os, hB.output, hB.tape, hB.size, fun b hb => hB.block b hb, ?_, ?_, fun b o hb => Nat.lt_of_lt_of_le (hok.lt b o hb) hB.size, fun b _ o => Iff.rfl⟩⟩
  · intro i b hi; cases hi
  · intro i j b hi; cases hi

/-- What is known of a package-level variable that holds numbers. -/
theorem glob_int {w : World} {st : Nat → Nat → Prop} (h : GlobOk w st) {g j : Nat} {l : List GC} {k : IntKind} {n : Int} (hl : look globRaw g = some l) (hj : l[j]? = some (.int k n)) : w.cell? ⟨g, j, none⟩ = some (.int k n) := by
  obtain ⟨_, v, h2, h3⟩ := (h g (l.map GC.pv) (by rw [globTab, hl]; rfl)).1 j (.val (.int k n)) (by rw [List.getElem?_map, hj]; rfl)
  cases h3
  exact h2
theorem glob_some {w : World} {st : Nat → Nat → Prop} (h : GlobOk w st) {g : Nat} {k : IntKind} (hl : look globRaw g = some [.some k]) : ∃ m, w.cell? ⟨g, 0, none⟩ = some (.int k m) := by
  obtain ⟨_, v, h2, h3⟩ := (h g [.aint k] (by rw [globTab, hl]; rfl)).1 0 (.aint k) rfl
  cases h3 with
  | aint _ m => exact ⟨m, h2⟩
theorem glob_ifc {w : World} {st : Nat → Nat → Prop} (h : GlobOk w st) {g j : Nat} {l : List GC} (hl : look globRaw g = some l) (hj : l[j]? = some .ifc) : ∃ t v, w.cell? ⟨g, j, none⟩ = some (.iface t v) := by
  obtain ⟨_, v, h2, h3⟩ := (h g (l.map GC.pv) (by rw [globTab, hl]; rfl)).1 j .ifc (by rw [List.getElem?_map, hj]; rfl)
  cases h3 with
  | ifc t v => exact ⟨t, v, h2⟩
theorem glob_tab {P : Program} {w : World} {st : Nat → Nat → Prop} (h : GlobOk w st) {g : Nat} {l : List GC} {nm : String} {k : IntKind} {zs : List Int} (hl : look globRaw g = some l) (hn : P.globalNamed nm = some g) (hz : l = zs.map (GC.int k)) (hne : zs ≠ []) : Lib.TabIs P w nm k zs := by
  obtain ⟨h0, h1, h2⟩ := h g (l.map GC.pv) (by rw [globTab, hl]; rfl)
  have hc : ∀ (j : Nat) z, zs[j]? = some z → w.cell? ⟨g, j, none⟩ = some (.int k z) := fun j z hj => glob_int h hl (by rw [hz, List.getElem?_map, hj]; rfl)
  unfold Lib.TabIs World.var?
  rw [hn]
  simp only [Option.bind_some]
  have hlen : (l.map GC.pv).length = zs.length := by rw [hz]; simp
  rw [hlen] at h2
  obtain ⟨z0, hz0⟩ : ∃ z0, zs[0]? = some z0 := by
    cases zs with
    | nil => exact absurd rfl hne
    | cons z r => exact ⟨z, rfl⟩
  have hc0 := hc 0 z0 hz0
  simp only [World.cell?] at hc hc0 h2
  cases hh : w.heap[g]? with
  | none => rw [hh] at hc0; cases hc0
  | some o =>
    rw [hh] at hc hc0 h2
    cases o with
    | cells c e fz =>
      simp only [Option.isSome_none, Bool.false_eq_true, if_false] at hc hc0 h2
      refine congrArg some ?_
      apply Array.ext_getElem?
      intro j
      by_cases hj : j < zs.length
      · rw [hc j zs[j] (List.getElem?_eq_getElem hj)]
        simp [hj]
      · have h3 : c.size ≤ zs.length := by
          rcases Nat.lt_or_ge zs.length c.size with h' | h'
          · rw [Array.getElem?_eq_getElem h'] at h2; cases h2
          · exact h'
        rw [Array.getElem?_eq_none (by omega), Array.getElem?_eq_none (by simp; omega)]
    | _ => simp at hc0

theorem str_list (s : Bytes) : (str s).data.toList = s := by simp [str]
theorem below_refl (w : World) : Below w.heap.size w w := Below.refl _ w
end Go.Ab
