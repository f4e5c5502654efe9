/- Chapter 06. -/
import Derived.Test.YtijgdpmadidpaaaGreatDoorR06
set_option linter.unusedVariables false
set_option linter.unusedSimpArgs false
set_option linter.unnecessarySimpa false
namespace Go.Ab.R06
open Go.Proofs Go.Ab Go.Ab.RB
attribute [local irreducible] awp rwpL OpOk PCalls OCalls AV.sub

def law06_few_l1 (a_0 : TAddress) : Nat → Int → Option (Unit ⊕ Bool)
 | 0, _ => none
 | m + 1, i14 =>
 if i14 < (a_0.fModule.length : Int) then
  (
    ck ((0 : Int) ≤ i14 ∧ i14 < (a_0.fModule.length : Int)) <|
    if 5000 < (((lat a_0.fModule i14).fName).length : Int) then
     some true
    else
     ck ((0 : Int) ≤ i14 ∧ i14 < (a_0.fModule.length : Int)) <|
     some (decide (5000 < ((((lat a_0.fModule i14).fKey).fStr).length : Int)))
   : Option Bool).bind fun t19 =>
  if t19 = true then
   some (.inr false)
  else
   ck (inR (i14 + 1)) <|
   law06_few_l1 a_0 m (i14 + 1)
 else
  some (.inl ())

def law06_few (n : Nat) (a_0 : TAddress) : Option Bool :=
 (
   if 40 < (a_0.fModule.length : Int) then
    some true
   else
    if 5000 < (a_0.fType.length : Int) then
     some true
    else
     if 5000 < (a_0.fName.length : Int) then
      some true
     else
      some (decide (5000 < (a_0.fKey.fStr.length : Int)))
  : Option Bool).bind fun t4 =>
 if t4 = true then
  some false
 else
  jn (law06_few_l1 a_0 n 0) fun q24 =>
  some true

set_option maxHeartbeats 4000000 in
theorem law06_few_ok (n : Nat) (a_0 : TAddress) (r : Bool) (h0 : law06_few n a_0 = some r) : PCalls Tryz.prog 7 [.agg (TAddress.cs a_0)] (· = .p (eB r)) := by
 unfold law06_few at h0
 refine pbodyA good Tryz.func7 rfl rfl rfl fun w0 => ?_
 refine awp_seq (awp_reg ?_)
 refine ro rfl (ok_box rfl rfl rfl rfl rfl ?_)
 refine ro rfl (ok_assign rfl rfl rfl rfl ?_)
 refine rn ?_
 refine awp_seq (awp_seq ?_)
 obtain ⟨o26, h1, h0⟩ := bd_cut h0
 refine awp_joinN ⟨[(1, .ptr 1 0), (26, .p (eB o26))], [(1, [.p (eL eTModuleStep a_0.fModule), .p (eB a_0.fData), .p (eS a_0.fType), .p (eS a_0.fName), .p (eI a_0.fKey.fKind), .p (eI a_0.fKey.fNum), .p (eS a_0.fKey.fStr)])]⟩ ?_ ?_
 ·intro s' hle
  (repeat (first | refine uw ?_ | refine uo rfl ?_))
  refine awp_ghost hle ?_
  refine wp_if rfl (fun c5 => ?_) (fun c5 => ?_)
  ·replace h0 := if_t c5 h0
   refine awp_seq (awp_reg ?_)
   refine ro rfl (ok_assign rfl rfl rfl rfl ?_)
   refine rn ?_
   refine awp_ret ?_
   (repeat (first | refine uw ?_ | refine uo rfl ?_))
   have e0 := oi h0
   subst e0
   refine reta_mk rfl ?_
   exact sr
  ·replace h0 := if_bf c5 h0
   refine awp_skip (awp_seq (awp_seq (awp_reg ?_)))
   refine ro rfl (ok_assign rfl rfl rfl rfl ?_)
   refine rn ?_
   refine awp_block ?_
   obtain ⟨o28, h1, hL0, hR0⟩ := jn_cut h0
   refine awp_joinEx 0 (fun v29 : Unit => o28 = .inl v29) (fun v29 => ⟨[], []⟩) ?_ ?_
   ·rintro s' ⟨v29, hv, hle⟩
    have h0 := hL0 _ hv
    (repeat (first | refine uw ?_ | refine uo rfl ?_))
    refine awp_ghost hle ?_
    (repeat (first | refine uw ?_ | refine uo rfl ?_))
    refine awp_seq (awp_reg ?_)
    refine ro rfl (ok_assign rfl rfl rfl rfl ?_)
    refine rn ?_
    refine awp_ret ?_
    (repeat (first | refine uw ?_ | refine uo rfl ?_))
    have e0 := oi h0
    subst e0
    refine reta_mk rfl ?_
    exact sr
   ·skip
    refine awp_loopG (fun (q30 : Int) => ⟨[(1, .ptr 1 0), (3, .p (eI q30))], [(1, [.p (eL eTModuleStep a_0.fModule), .p (eB a_0.fData), .p (eS a_0.fType), .p (eS a_0.fName), .p (eI a_0.fKey.fKind), .p (eI a_0.fKey.fNum), .p (eS a_0.fKey.fStr)])]⟩) (fun m (q30 : Int) => law06_few_l1 a_0 m q30) (fun _ => rfl) 0 h1 (ghost_le (le_mk ⟨er rfl, er rfl, trivial⟩ ⟨⟨_, rfl, ⟨sr, sr, sr, sr, sr, sr, sr, trivial⟩⟩, trivial⟩)) ?_
    rintro m i14 h1
    replace h1 : law06_few_l1 a_0 (m + 1) i14 = some o28 := h1
    rw [law06_few_l1] at h1
    refine awp_seq (awp_seq (awp_reg ?_))
    refine ro rfl (ok_move rfl rfl rfl rfl ?_)
    refine ro rfl (ok_fieldAddrP rfl rfl rfl rfl rfl rfl rfl rfl rfl ?_)
    refine ro rfl (ok_loadP1 rfl rfl rfl rfl rfl rfl rfl rfl ?_)
    refine ro rfl (op_lenL (f := eTModuleStep) (l := a_0.fModule) rfl rfl rfl rfl rfl rfl rfl ?_)
    refine ro rfl (ok_cmp rfl rfl rfl rfl rfl rfl ?_)
    refine rn ?_
    refine wp_ifD rfl (fun c15 => ?_) (fun c15 => ?_)
    ·replace h1 := if_t c15 h1
     refine awp_skip (awp_seq (awp_block (awp_seq ?_)))
     obtain ⟨o31, h2, h1⟩ := bd_cut h1
     refine awp_joinN ⟨[(1, .ptr 1 0), (3, .p (eI i14)), (52, .p (eB o31))], [(1, [.p (eL eTModuleStep a_0.fModule), .p (eB a_0.fData), .p (eS a_0.fType), .p (eS a_0.fName), .p (eI a_0.fKey.fKind), .p (eI a_0.fKey.fNum), .p (eS a_0.fKey.fStr)])]⟩ ?_ ?_
     ·intro s' hle
      (repeat (first | refine uw ?_ | refine uo rfl ?_))
      refine awp_ghost hle ?_
      refine wp_if rfl (fun c20 => ?_) (fun c20 => ?_)
      ·replace h1 := if_t c20 h1
       refine awp_seq (awp_reg ?_)
       refine ro rfl (ok_assign rfl rfl rfl rfl ?_)
       refine rn ?_
       refine awp_ret ?_
       (repeat (first | refine uw ?_ | refine uo rfl ?_))
       have e1 := oi h1
       have e0 := hR0 _ e1.symm
       subst e0
       refine reta_mk rfl ?_
       exact sr
      ·replace h1 := if_bf c20 h1
       refine awp_skip ?_
       (repeat (first | refine uw ?_ | refine uo rfl ?_))
       refine awp_reg ?_
       refine ro rfl (ok_move rfl rfl rfl rfl ?_)
       obtain ⟨hk21, h1⟩ := ck_cut h1
       refine ro rfl (ok_ar rfl rfl rfl rfl rfl rfl hk21 ?_)
       refine ro rfl (ok_assign rfl rfl rfl rfl ?_)
       refine rn ?_
       (repeat (first | refine uw ?_ | refine uo rfl ?_))
       exact ⟨(i14 + 1), h1, ghost_le (le_mk ⟨er rfl, er rfl, trivial⟩ ⟨⟨_, rfl, ⟨sr, sr, sr, sr, sr, sr, sr, trivial⟩⟩, trivial⟩)⟩
     ·skip
      refine awp_reg ?_
      refine ro rfl (ok_fieldAddrP rfl rfl rfl rfl rfl rfl rfl rfl rfl ?_)
      refine ro rfl (ok_loadP1 rfl rfl rfl rfl rfl rfl rfl rfl ?_)
      refine ro rfl (ok_move rfl rfl rfl rfl ?_)
      obtain ⟨hk16, h2⟩ := ck_cut h2
      refine ro rfl (op_at (f := eTModuleStep) (l := a_0.fModule) TModuleStep.cs rfl rfl rfl rfl rfl rfl rfl rfl rfl hk16 TModuleStep.cells_eq (fun _ => rfl) ?_)
      refine ro rfl (ok_fieldAddrR rfl rfl rfl rfl rfl rfl rfl rfl rfl ?_)
      refine ro rfl (ok_loadR1 rfl rfl rfl rfl rfl rfl rfl ?_)
      refine ro rfl (ok_lenS rfl rfl rfl rfl rfl rfl ?_)
      refine ro rfl (ok_cmp rfl rfl rfl rfl rfl rfl ?_)
      refine ro rfl (ok_move rfl rfl rfl rfl ?_)
      refine gd_D rfl rfl rfl (fun c17 => ?_) (fun c17 => ?_)
      ·replace h2 := if_t c17 h2
       refine gd_ft rfl rfl rfl (dt c17) rfl rfl ?_
       refine gd_ft rfl rfl rfl (dt c17) rfl rfl ?_
       refine gd_ft rfl rfl rfl (dt c17) rfl rfl ?_
       refine gd_ft rfl rfl rfl (dt c17) rfl rfl ?_
       refine gd_ft rfl rfl rfl (dt c17) rfl rfl ?_
       refine gd_ft rfl rfl rfl (dt c17) rfl rfl ?_
       refine gd_ft rfl rfl rfl (dt c17) rfl rfl ?_
       refine gd_ft rfl rfl rfl (dt c17) rfl rfl ?_
       refine gd_ft rfl rfl rfl (dt c17) rfl rfl ?_
       refine ro rfl (ok_pick_true rfl rfl rfl rfl (dt c17) rfl ?_)
       refine rn ?_
       (repeat (first | refine uw ?_ | refine uo rfl ?_))
       have e2 := oi h2
       subst e2
       exact ghost_le (le_mk ⟨er rfl, er rfl, er rfl, trivial⟩ ⟨⟨_, rfl, ⟨sr, sr, sr, sr, sr, sr, sr, trivial⟩⟩, trivial⟩)
      ·replace h2 := if_f c17 h2
       refine gd_ff rfl rfl rfl (df c17) (ok_fieldAddrP rfl rfl rfl rfl rfl rfl rfl rfl rfl ?_)
       refine gd_ff rfl rfl rfl (df c17) (ok_loadP1 rfl rfl rfl rfl rfl rfl rfl rfl ?_)
       refine gd_ff rfl rfl rfl (df c17) (ok_move rfl rfl rfl rfl ?_)
       obtain ⟨hk18, h2⟩ := ck_cut h2
       refine gd_ff rfl rfl rfl (df c17) (op_at (f := eTModuleStep) (l := a_0.fModule) TModuleStep.cs rfl rfl rfl rfl rfl rfl rfl rfl rfl hk18 TModuleStep.cells_eq (fun _ => rfl) ?_)
       refine gd_ff rfl rfl rfl (df c17) (ok_fieldAddrR rfl rfl rfl rfl rfl rfl rfl rfl rfl ?_)
       refine gd_ff rfl rfl rfl (df c17) (ok_fieldAddrR rfl rfl rfl rfl rfl rfl rfl rfl rfl ?_)
       refine gd_ff rfl rfl rfl (df c17) (ok_loadR1 rfl rfl rfl rfl rfl rfl rfl ?_)
       refine gd_ff rfl rfl rfl (df c17) (ok_lenS rfl rfl rfl rfl rfl rfl ?_)
       refine gd_ff rfl rfl rfl (df c17) (ok_cmp rfl rfl rfl rfl rfl rfl ?_)
       refine ro rfl (ok_pick_false rfl rfl rfl rfl (df c17) rfl ?_)
       refine rn ?_
       (repeat (first | refine uw ?_ | refine uo rfl ?_))
       have e2 := oi h2
       subst e2
       exact ghost_le (le_mk ⟨er rfl, er rfl, er rfl, trivial⟩ ⟨⟨_, rfl, ⟨sr, sr, sr, sr, sr, sr, sr, trivial⟩⟩, trivial⟩)
    ·replace h1 := if_f c15 h1
     refine awp_exit ?_
     (repeat (first | refine uw ?_ | refine uo rfl ?_))
     have e1 := oi h1
     exact ⟨_, e1.symm, ghost_le (le_mk trivial trivial)⟩
 ·skip
  refine awp_reg ?_
  refine ro rfl (ok_fieldAddrP rfl rfl rfl rfl rfl rfl rfl rfl rfl ?_)
  refine ro rfl (ok_loadP1 rfl rfl rfl rfl rfl rfl rfl rfl ?_)
  refine ro rfl (op_lenL (f := eTModuleStep) (l := a_0.fModule) rfl rfl rfl rfl rfl rfl rfl ?_)
  refine ro rfl (ok_cmp rfl rfl rfl rfl rfl rfl ?_)
  refine ro rfl (ok_move rfl rfl rfl rfl ?_)
  refine gd_D rfl rfl rfl (fun c1 => ?_) (fun c1 => ?_)
  ·replace h1 := if_t c1 h1
   refine gd_ft rfl rfl rfl (dt c1) rfl rfl ?_
   refine gd_ft rfl rfl rfl (dt c1) rfl rfl ?_
   refine gd_ft rfl rfl rfl (dt c1) rfl rfl ?_
   refine gd_ft rfl rfl rfl (dt c1) rfl rfl ?_
   refine ro rfl (ok_pick_true rfl rfl rfl rfl (dt c1) rfl ?_)
   refine ro rfl (ok_move rfl rfl rfl rfl ?_)
   refine gd_ft rfl rfl rfl (rfl) rfl rfl ?_
   refine gd_ft rfl rfl rfl (rfl) rfl rfl ?_
   refine gd_ft rfl rfl rfl (rfl) rfl rfl ?_
   refine gd_ft rfl rfl rfl (rfl) rfl rfl ?_
   refine ro rfl (ok_pick_true rfl rfl rfl rfl (rfl) rfl ?_)
   refine ro rfl (ok_move rfl rfl rfl rfl ?_)
   refine gd_ft rfl rfl rfl (rfl) rfl rfl ?_
   refine gd_ft rfl rfl rfl (rfl) rfl rfl ?_
   refine gd_ft rfl rfl rfl (rfl) rfl rfl ?_
   refine gd_ft rfl rfl rfl (rfl) rfl rfl ?_
   refine gd_ft rfl rfl rfl (rfl) rfl rfl ?_
   refine ro rfl (ok_pick_true rfl rfl rfl rfl (rfl) rfl ?_)
   refine rn ?_
   (repeat (first | refine uw ?_ | refine uo rfl ?_))
   have e1 := oi h1
   subst e1
   exact ghost_le (le_mk ⟨er rfl, er rfl, trivial⟩ ⟨⟨_, rfl, ⟨sr, sr, sr, sr, sr, sr, sr, trivial⟩⟩, trivial⟩)
  ·replace h1 := if_f c1 h1
   refine gd_ff rfl rfl rfl (df c1) (ok_fieldAddrP rfl rfl rfl rfl rfl rfl rfl rfl rfl ?_)
   refine gd_ff rfl rfl rfl (df c1) (ok_loadP1 rfl rfl rfl rfl rfl rfl rfl rfl ?_)
   refine gd_ff rfl rfl rfl (df c1) (ok_lenS rfl rfl rfl rfl rfl rfl ?_)
   refine gd_ff rfl rfl rfl (df c1) (ok_cmp rfl rfl rfl rfl rfl rfl ?_)
   refine ro rfl (ok_pick_false rfl rfl rfl rfl (df c1) rfl ?_)
   refine ro rfl (ok_move rfl rfl rfl rfl ?_)
   refine gd_D rfl rfl rfl (fun c2 => ?_) (fun c2 => ?_)
   ·replace h1 := if_t c2 h1
    refine gd_ft rfl rfl rfl (dt c2) rfl rfl ?_
    refine gd_ft rfl rfl rfl (dt c2) rfl rfl ?_
    refine gd_ft rfl rfl rfl (dt c2) rfl rfl ?_
    refine gd_ft rfl rfl rfl (dt c2) rfl rfl ?_
    refine ro rfl (ok_pick_true rfl rfl rfl rfl (dt c2) rfl ?_)
    refine ro rfl (ok_move rfl rfl rfl rfl ?_)
    refine gd_ft rfl rfl rfl (rfl) rfl rfl ?_
    refine gd_ft rfl rfl rfl (rfl) rfl rfl ?_
    refine gd_ft rfl rfl rfl (rfl) rfl rfl ?_
    refine gd_ft rfl rfl rfl (rfl) rfl rfl ?_
    refine gd_ft rfl rfl rfl (rfl) rfl rfl ?_
    refine ro rfl (ok_pick_true rfl rfl rfl rfl (rfl) rfl ?_)
    refine rn ?_
    (repeat (first | refine uw ?_ | refine uo rfl ?_))
    have e1 := oi h1
    subst e1
    exact ghost_le (le_mk ⟨er rfl, er rfl, trivial⟩ ⟨⟨_, rfl, ⟨sr, sr, sr, sr, sr, sr, sr, trivial⟩⟩, trivial⟩)
   ·replace h1 := if_f c2 h1
    refine gd_ff rfl rfl rfl (df c2) (ok_fieldAddrP rfl rfl rfl rfl rfl rfl rfl rfl rfl ?_)
    refine gd_ff rfl rfl rfl (df c2) (ok_loadP1 rfl rfl rfl rfl rfl rfl rfl rfl ?_)
    refine gd_ff rfl rfl rfl (df c2) (ok_lenS rfl rfl rfl rfl rfl rfl ?_)
    refine gd_ff rfl rfl rfl (df c2) (ok_cmp rfl rfl rfl rfl rfl rfl ?_)
    refine ro rfl (ok_pick_false rfl rfl rfl rfl (df c2) rfl ?_)
    refine ro rfl (ok_move rfl rfl rfl rfl ?_)
    refine gd_D rfl rfl rfl (fun c3 => ?_) (fun c3 => ?_)
    ·replace h1 := if_t c3 h1
     refine gd_ft rfl rfl rfl (dt c3) rfl rfl ?_
     refine gd_ft rfl rfl rfl (dt c3) rfl rfl ?_
     refine gd_ft rfl rfl rfl (dt c3) rfl rfl ?_
     refine gd_ft rfl rfl rfl (dt c3) rfl rfl ?_
     refine gd_ft rfl rfl rfl (dt c3) rfl rfl ?_
     refine ro rfl (ok_pick_true rfl rfl rfl rfl (dt c3) rfl ?_)
     refine rn ?_
     (repeat (first | refine uw ?_ | refine uo rfl ?_))
     have e1 := oi h1
     subst e1
     exact ghost_le (le_mk ⟨er rfl, er rfl, trivial⟩ ⟨⟨_, rfl, ⟨sr, sr, sr, sr, sr, sr, sr, trivial⟩⟩, trivial⟩)
    ·replace h1 := if_f c3 h1
     refine gd_ff rfl rfl rfl (df c3) (ok_fieldAddrP rfl rfl rfl rfl rfl rfl rfl rfl rfl ?_)
     refine gd_ff rfl rfl rfl (df c3) (ok_fieldAddrP rfl rfl rfl rfl rfl rfl rfl rfl rfl ?_)
     refine gd_ff rfl rfl rfl (df c3) (ok_loadP1 rfl rfl rfl rfl rfl rfl rfl rfl ?_)
     refine gd_ff rfl rfl rfl (df c3) (ok_lenS rfl rfl rfl rfl rfl rfl ?_)
     refine gd_ff rfl rfl rfl (df c3) (ok_cmp rfl rfl rfl rfl rfl rfl ?_)
     refine ro rfl (ok_pick_false rfl rfl rfl rfl (df c3) rfl ?_)
     refine rn ?_
     (repeat (first | refine uw ?_ | refine uo rfl ?_))
     have e1 := oi h1
     subst e1
     exact ghost_le (le_mk ⟨er rfl, er rfl, trivial⟩ ⟨⟨_, rfl, ⟨sr, sr, sr, sr, sr, sr, sr, trivial⟩⟩, trivial⟩)

end Go.Ab.R06
