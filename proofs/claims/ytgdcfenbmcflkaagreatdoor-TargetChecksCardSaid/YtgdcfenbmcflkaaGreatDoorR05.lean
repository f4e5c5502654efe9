/- Chapter 42. -/
import Derived.Test.YtgdcfenbmcflkaaGreatDoorR06
set_option linter.unusedVariables false
set_option linter.unusedSimpArgs false
set_option linter.unnecessarySimpa false
namespace Go.Ab.R06
open Go.Proofs Go.Ab Go.Ab.RB
attribute [local irreducible] awp rwpL OpOk PCalls OCalls AV.sub M Ghost

def glob_Any_l1 (patterns_0 : List Bytes) (s_1 : Bytes) : Nat → Int → Option (Unit ⊕ Bool)
 | 0, _ => none
 | m + 1, t7 =>
 if t7 < (patterns_0.length : Int) then
  ck ((0 : Int) ≤ t7 ∧ t7 < (patterns_0.length : Int)) <|
  ck ((lat patterns_0 t7).length ≤ 65536 ∧ s_1.length ≤ 32768) <|
  if (Glob.matchL (lat patterns_0 t7) s_1) = true then
   some (.inr true)
  else
   ck (inR (t7 + 1)) <|
   glob_Any_l1 patterns_0 s_1 m (t7 + 1)
 else
  some (.inl ())

def glob_Any (n : Nat) (patterns_0 : List Bytes) (s_1 : Bytes) : Option Bool :=
 jn (glob_Any_l1 patterns_0 s_1 n 0) fun q14 =>
 some false

set_option maxHeartbeats 4000000 in
theorem glob_Any_ok (n : Nat) (patterns_0 : List Bytes) (s_1 : Bytes) (r : Bool) (h0 : glob_Any n patterns_0 s_1 = some r) : PCalls Tryz.prog 31 [eL eS patterns_0, eS s_1] (· = .p (eB r)) := by
 unfold glob_Any at h0
 refine pbodyA good Tryz.func31 rfl rfl rfl fun w0 => mP (fun v : Bool => .p (eB v)) ?_
 refine nx 8 rfl (oLl (f := eS) rfl rfl ?_)
 refine nx 3 rfl ?_
 obtain ⟨o15, h1, hL0, hR0⟩ := jn_cut h0
 refine kEx 0 (fun v16 : Unit => o15 = .inl v16) (fun v16 => ⟨[], []⟩) (fun v16 hv => ?_) ?_
 ·have h0 := hL0 _ hv
  exact nx 6 rfl (mQ (oi h0) rfl (sr))
 refine lG (fun (q17 : Int) => ⟨[(1, .p (eS s_1)), (7, .p (eL eS patterns_0)), (8, .p (eI (patterns_0.length : Int))), (9, .p (eI q17))], []⟩) (fun m (q17 : Int) => glob_Any_l1 patterns_0 s_1 m q17) (fun _ => rfl) 0 h1 (gE rfl rfl) ?_
 rintro m t7 h1
 replace h1 : glob_Any_l1 patterns_0 s_1 (m + 1) t7 = some o15 := h1
 rw [glob_Any_l1] at h1
 refine nx 5 rfl (fD [10] h1 rfl (fun c8 h1 => ?_) fun c8 h1 => ?_)
 ·refine nx 6 rfl (oE h1 (fun _ => rfl) rfl rfl (fun _ => rfl) fun hk9 h1 => ?_)
  refine nx 7 rfl (cc' h1 fun hk10 h1 => ?_)
  refine oK (Glob.match_ok (lat patterns_0 t7) s_1 hk10.1 hk10.2) rfl ⟨sr, sr, trivial⟩ Tryz.call49 rfl (nx 1 rfl ?_)
  refine fB [15] h1 rfl (fun c11 h1 => ?_) fun c11 h1 => ?_
  ·exact nx 6 rfl (mQ (hR0 _ (oi h1).symm) rfl (sr))
  refine nx 3 rfl (oA h1 rfl rfl fun hk12 h1 => ?_)
  exact nx 2 rfl (eX (t7 + 1) h1 (gE rfl rfl))
 exact nx 2 rfl (eXi _ (oi h1).symm (gE rfl rfl))

end Go.Ab.R06
