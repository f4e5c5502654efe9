/- strings.IndexAny at the bytes '.' and '[': the contract over abstract values. -/
import Derived.Test.YtijgdpmadidpaaaGreatDoorLi06
import Derived.Test.YtijgdpmadidpaaaGreatDoorF06
set_option linter.unusedSimpArgs false
set_option linter.unnecessarySimpa false
set_option linter.unusedVariables false
namespace Go.Ab
open Go.Proofs Go.RowKit Go

theorem ir_dots (c : Nat) (hv : c < 55296 ∨ (57343 < c ∧ c ≤ 1114111)) (h : 128 ≤ c) (w : World) :
    Calls Tryz.prog 90 #[.string dots, .int .i32 c] w fun e w' => e = .returned (.int .i64 (-1)) ∧ Below w.heap.size w w' := by
  have hv1 : Lib.validRune (c : Int) = true := by
    simp only [Lib.validRune, decide_eq_true_eq]
    omega
  by_cases hne : c = 65533
  · subst hne; exact ir_err w
  · rcases enc_forms c h hv1 with e | e
    · refine ir_two dots _ c h hv1 hne e rfl rfl ?_ w
      have h91 := not91 c
      intro q
      apply h91
      have q' : (91 : UInt8) = UInt8.ofNat (0x80 + c % 64) := q
      rw [← q']
      rfl
    · exact ir_more dots _ c h hv1 hne rfl rfl (by omega) (by omega) w

theorem noAny_skip {s cs : List UInt8} {i k : Nat} (hcs : ∀ b, cs.contains b = true → b.toNat < 128) (h : Lib.NoAny s cs i) (hk : ∀ j b, i ≤ j → j < i + k → s[j]? = some b → 128 ≤ b.toNat) : Lib.NoAny s cs (i + k) := fun j b hj hb => by
  by_cases q : j < i
  · exact h j b q hb
  · cases hc : cs.contains b with
    | false => rfl
    | true => have := hk j b (by omega) hj hb; have := hcs b hc; omega

theorem below_set {B : Nat} {a w : World} (h : Below B a w) {b : Nat} (hb : B ≤ b) (o : Obj) : Below B a { w with heap := w.heap.setIfInBounds b o } :=
  h.trans ⟨rfl, rfl, rfl, by simp, fun k hk => by
    show (w.heap.setIfInBounds b o)[k]? = _
    rw [Array.getElem?_setIfInBounds_ne (by omega)]⟩

set_option maxHeartbeats 8000000 in
set_option maxRecDepth 1000000 in
theorem indexAny_short (s : ByteArray) (w : World) (h8 : s.size ≤ 8) :
    Calls Tryz.prog 70 #[.string s, .string dots] w fun e w' => e = .returned (.int .i64 (Lib.indexAny s.data.toList [46, 91])) ∧ Below w.heap.size w w' := by
  have hn1 : ((dots.size : Int) == 1) = false := rfl
  have h8z : decide ((8 : Int) < (s.size : Int)) = false := decide_eq_false (by omega)
  have hcs : ∀ b, ([46, 91] : List UInt8).contains b = true → b.toNat < 128 := by
    intro b hb
    simp at hb
    rcases hb with rfl | rfl <;> decide
  have hemp : ({ data := #[46, 91] } : ByteArray).toList.isEmpty = false := by rw [Lib.toList_data]; rfl
  go_enter Tryz.func70, Tryz.ntmps70
  go_wp2_with (go_at_call 91; refine (Tryz.strings_shouldUseASCIISet _ _).mono ?_; rintro e w' ⟨rfl, hw⟩; rw [hw, h8z])
  go_loopg [9, 10] s.size (fun g _ _ wx => ∃ i : Nat, i + g = s.size ∧ wx.heap[w.heap.size]? = some (.stringIter s i) ∧ Hid (Below w.heap.size w wx) ∧ Hid (Lib.NoAny s.data.toList [46, 91] i))
  case atStart => exact ⟨0, by omega, by simp [World.iter_heap], (Below.refl _ w).alloc (Nat.le_refl _) _, Lib.NoAny.zero _ _⟩
  case round =>
    obtain ⟨i, hig, hit, HB, HN⟩ := hrel
    cases gk with
    | zero =>
      obtain rfl : i = s.size := by omega
      have hnx := fun ty => next_out (P := Tryz.prog) wr w.heap.size s s.size ty (by omega) hit
      go_wp2
      go_ret
      exact ⟨by rw [Lib.indexAny_none (by rw [← Lib.size_eq]; exact HN.out)]; rfl, HB.out⟩
    | succ g =>
      have hi : i < s.size := by omega
      obtain ⟨c, k, hd, hk1, hk2, hlow, hhigh, hval⟩ := step_any s i hi
      have hnx := fun ty => next_at (P := Tryz.prog) wr w.heap.size s i ty hi hit
      rw [hd] at hnx
      have hlt : w.heap.size < wr.heap.size := by
        rcases Nat.lt_or_ge w.heap.size wr.heap.size with h | h
        · exact h
        · rw [Array.getElem?_eq_none h] at hit; cases hit
      obtain ⟨W1, hW1⟩ : ∃ W1, ({ wr with heap := wr.heap.setIfInBounds w.heap.size (.stringIter s (i + k)) } : World) = W1 := ⟨_, rfl⟩
      have HI : Hid (W1.heap[w.heap.size]? = some (.stringIter s (i + k))) := by
        rw [← hW1]
        show (wr.heap.setIfInBounds w.heap.size (.stringIter s (i + k)))[w.heap.size]? = _
        rw [Array.getElem?_setIfInBounds_self_of_lt hlt]
      have HL : Hid (w.heap.size < W1.heap.size) := by
        rw [← hW1]; show w.heap.size < (wr.heap.setIfInBounds _ _).size; simp; exact hlt
      have HB1 : Hid (Below w.heap.size w W1) := by rw [← hW1]; exact below_set HB.out (Nat.le_refl _) _
      have Hk : Hid (∃ g', i + k + g' = s.size ∧ g' ≤ g) := ⟨s.size - (i + k), by omega, by omega⟩
      simp only [hW1] at hnx
      clear hW1 hit HB hd
      by_cases h128 : c < 128
      · obtain ⟨rfl, x, hx, rfl⟩ := hlow h128
        have Hx : Hid (s.data.toList[i]? = some x) := hx
        have HR : Hid _ := Tryz.strings_IndexRune_ascii dots (x.toNat : Int) W1 (by omega) (by omega)
        have hback : ((x.toNat : Int)).toNat.toUInt8 = x := by simp
        rw [hback] at HR
        have hcon := Lib.contains_iff_indexByte [46, 91] x
        rw [show dots.data.toList = [46, 91] from rfl] at HR
        clear hx hlow hhigh hval hback
        cases hin : ([46, 91] : List UInt8).contains x
        · rw [hin] at hcon
          generalize Lib.indexByte [46, 91] x = v at HR hcon
          have hlt : decide ((0 : Int) ≤ v) = false := hcon.symm
          clear hcon
          go_wp2_with (go_at_call 90; refine Calls.mono HR.out ?_; rintro e w' ⟨rfl, hw'⟩; rw [hw'])
          go_roundg g
          case measure => omega
          case rel => exact ⟨i + 1, by omega, HI.out, HB1, HN.out.succ Hx.out hin⟩
        · rw [hin] at hcon
          generalize Lib.indexByte [46, 91] x = v at HR hcon
          have hge : decide ((0 : Int) ≤ v) = true := hcon.symm
          clear hcon
          go_wp2_with (go_at_call 90; refine Calls.mono HR.out ?_; rintro e w' ⟨rfl, hw'⟩; rw [hw'])
          go_ret
          exact ⟨by rw [Lib.indexAny_hit HN.out Hx.out hin]; rfl, HB1.out⟩
      · have HR : Hid _ := ir_dots c hval (by omega) W1
        have HN2 : Hid _ := noAny_skip hcs HN.out (hhigh (by omega))
        clear hlow hhigh hval
        go_wp2_with (go_at_call 90; refine Calls.mono HR.out ?_; rintro e w' ⟨rfl, hB'⟩)
        have h1 : w'.heap[w.heap.size]? = some (.stringIter s (i + k)) := (hB'.block _ HL.out).trans HI.out
        obtain ⟨g', hg', hg''⟩ := Hk.out
        go_roundg g'
        case measure => omega
        case rel => exact ⟨i + k, hg', h1, HB1.out.trans (hB'.mono HB1.out.size), HN2⟩

theorem cells_set : Tryz.zeroCells110 = Array.replicate 256 (.bool false) := by kernel_rfl
theorem zero_set (w : World) : (zeroValue 110).run Tryz.prog w = .ok (.agg (Array.replicate 256 (.bool false))) w := by
  rw [← cells_set]; exact Tryz.zeroValue110 w
theorem dots_ascii (j : Nat) (b : UInt8) (h : dots.data.toList[j]? = some b) : b.toNat < 128 := by
  match j, h with
  | 0, h => cases h; decide
  | 1, h => cases h; decide
  | n + 2, h => cases h

def strings_IndexAny (s cs : Bytes) : Option Int := ck (cs = [46, 91] ∧ s.length < 4294967281) <| some (Lib.indexAny s cs)
theorem strings_IndexAny_ok (s_0 chars_1 : Bytes) (r : Int) (h0 : strings_IndexAny s_0 chars_1 = some r) : PCalls Tryz.prog 70 [eS s_0, eS chars_1] (· = .p (eI r)) := by
  obtain ⟨⟨rfl, hl⟩, h1⟩ := ck_cut h0
  cases h1
  refine PCalls.of_calls (l := [.string (str s_0), .string dots]) fun w st hok => ?_
  have hz : (str s_0).size = s_0.length := str_size _
  by_cases h8 : (str s_0).size ≤ 8
  · refine (indexAny_short (str s_0) w h8).mono ?_
    rintro e w' ⟨rfl, hB⟩
    rw [str_list]
    exact ⟨_, rfl, hB, fun _ => .p (.val _)⟩
  · refine (Tryz.strings_IndexAny_long zero_set (str s_0) dots w (by decide) (by omega) (by omega) (by decide) dots_ascii).mono ?_
    rintro e w' ⟨rfl, rfl⟩
    rw [str_list]
    exact ⟨_, rfl, ((Below.refl _ w).alloc (Nat.le_refl _) _).alloc (by show w.heap.size ≤ (w.heap.push _).size; simp) _, fun _ => .p (.val _)⟩
end Go.Ab
