/- Chapter 06. -/
import Derived.Test.YtijgdpmadidpaaaDoorR06f
set_option linter.unusedVariables false
set_option linter.unusedSimpArgs false
set_option linter.unnecessarySimpa false
namespace Go.Ab.R06
open Go.Proofs Go.Ab Go.Ab.RB
attribute [local irreducible] awp rwpL OpOk PCalls OCalls AV.sub

def law06_AddressOwn_l1 (n : Nat) (a_0 : TAddress) (r10 : Bytes) : Nat → Bytes → Int → Option (Unit ⊕ Bool)
 | 0, _, _ => none
 | m + 1, p41, i42 =>
 if i42 < (a_0.fModule.length : Int) then
  (
    if 0 < i42 then
     ck (p41.length + ([46] : Bytes).length ≤ 9223372036854775807) <|
     some (p41 ++ ([46] : Bytes))
    else
     some p41
   : Option Bytes).bind fun p46 =>
  ck (p46.length + ([109, 111, 100, 117, 108, 101, 46] : Bytes).length ≤ 9223372036854775807) <|
  ck ((0 : Int) ≤ i42 ∧ i42 < (a_0.fModule.length : Int)) <|
  ck ((p46 ++ ([109, 111, 100, 117, 108, 101, 46] : Bytes)).length + ((lat a_0.fModule i42).fName).length ≤ 9223372036854775807) <|
  (address_Within n r10 ((p46 ++ ([109, 111, 100, 117, 108, 101, 46] : Bytes)) ++ ((lat a_0.fModule i42).fName))).bind fun r50 =>
  if (!r50) = true then
   some (.inr false)
  else
   ck ((0 : Int) ≤ i42 ∧ i42 < (a_0.fModule.length : Int)) <|
   (address_FormatKey n ((lat a_0.fModule i42).fKey)).bind fun r54 =>
   ck (((p46 ++ ([109, 111, 100, 117, 108, 101, 46] : Bytes)) ++ ((lat a_0.fModule i42).fName)).length + r54.length ≤ 9223372036854775807) <|
   (address_Within n r10 (((p46 ++ ([109, 111, 100, 117, 108, 101, 46] : Bytes)) ++ ((lat a_0.fModule i42).fName)) ++ r54)).bind fun r57 =>
   if (!r57) = true then
    some (.inr false)
   else
    ck (inR (i42 + 1)) <|
    law06_AddressOwn_l1 n a_0 r10 m (((p46 ++ ([109, 111, 100, 117, 108, 101, 46] : Bytes)) ++ ((lat a_0.fModule i42).fName)) ++ r54) (i42 + 1)
 else
  some (.inl ())

def law06_AddressOwn (n : Nat) (a_0 : TAddress) : Option Bool :=
 (
   (law06_few n a_0).bind fun r1 =>
   if (!r1) = true then
    some true
   else
    (address_Check n a_0).bind fun r4 =>
    some (!decide (r4 = 0))
  : Option Bool).bind fun t6 =>
 if t6 = true then
  (law06_awake n).bind fun r8 =>
  some r8
 else
  (address_Format n a_0).bind fun r10 =>
  (address_Static n r10).bind fun r12 =>
  (
    (address_Within n r10 r10).bind fun r14 =>
    if (!r14) = true then
     some true
    else
     (address_Within n r10 r12.1).bind fun r17 =>
     some (!r17)
   : Option Bool).bind fun t19 =>
  if t19 = true then
   some false
  else
   jn (law06_AddressOwn_l1 n a_0 r10 n ([] : Bytes) 0) fun q67 =>
   (law06_awake n).bind fun r63 =>
   some r63

set_option maxHeartbeats 4000000 in
theorem law06_AddressOwn_ok (n : Nat) (a_0 : TAddress) (r : Bool) (h0 : law06_AddressOwn n a_0 = some r) : PCalls Tryd.prog 6 [.agg (TAddress.cs a_0)] (· = .p (eB r)) := by
 unfold law06_AddressOwn at h0
 refine pbodyA good Tryd.func6 rfl rfl rfl fun w0 => ?_
 refine awp_seq (awp_reg ?_)
 refine ro rfl (ok_box rfl rfl rfl rfl rfl ?_)
 refine ro rfl (ok_assign rfl rfl rfl rfl ?_)
 refine rn ?_
 refine awp_seq (awp_seq ?_)
 obtain ⟨o69, h1, h0⟩ := bd_cut h0
 refine awp_joinN ⟨[(1, .ptr 1 0), (15, .p (eB o69))], [(1, [.p (eL eTModuleStep a_0.fModule), .p (eB a_0.fData), .p (eS a_0.fType), .p (eS a_0.fName), .p (eI a_0.fKey.fKind), .p (eI a_0.fKey.fNum), .p (eS a_0.fKey.fStr)])]⟩ ?_ ?_
 ·intro s' hle
  (repeat (first | refine uw ?_ | refine uo rfl ?_))
  refine awp_ghost hle ?_
  refine wp_if rfl (fun c7 => ?_) (fun c7 => ?_)
  ·replace h0 := if_t c7 h0
   refine awp_seq (awp_reg ?_)
   obtain ⟨r8, e9, h0⟩ := bd_cut h0
   refine ro rfl (ok_callP (law06_awake_ok _  _ e9) rfl rfl rfl rfl trivial Tryd.call9 rfl ?_)
   refine ro rfl (ok_assign rfl rfl rfl rfl ?_)
   refine rn ?_
   refine awp_ret ?_
   (repeat (first | refine uw ?_ | refine uo rfl ?_))
   have e0 := oi h0
   subst e0
   refine reta_mk rfl ?_
   exact sr
  ·replace h0 := if_bf c7 h0
   refine awp_skip (awp_seq (awp_reg ?_))
   refine ro rfl (ok_loadPA rfl rfl rfl rfl rfl rfl rfl rfl rfl ?_)
   obtain ⟨r10, e11, h0⟩ := bd_cut h0
   refine ro rfl (ok_callP (address_Format_ok _ a_0 _ e11) rfl rfl rfl rfl ⟨sr, trivial⟩ Tryd.call12 rfl ?_)
   refine ro rfl (ok_assign rfl rfl rfl rfl ?_)
   refine rn ?_
   refine awp_seq (awp_reg ?_)
   refine ro rfl (ok_move rfl rfl rfl rfl ?_)
   obtain ⟨r12, e13, h0⟩ := bd_cut h0
   refine ro rfl (ok_callP (address_Static_ok _ r10 _ e13) rfl rfl rfl rfl ⟨sr, trivial⟩ Tryd.call15 rfl ?_)
   refine ro rfl (ok_move rfl rfl rfl rfl ?_)
   refine ro rfl (ok_extract rfl rfl rfl rfl rfl ?_)
   refine ro rfl (ok_extract rfl rfl rfl rfl rfl ?_)
   refine ro rfl (ok_assign rfl rfl rfl rfl ?_)
   refine ro rfl (ok_assign rfl rfl rfl rfl ?_)
   refine rn ?_
   refine awp_seq (awp_seq ?_)
   obtain ⟨o71, h1, h0⟩ := bd_cut h0
   refine awp_joinN ⟨[(1, .ptr 1 0), (3, .p (eS r10)), (33, .p (eB o71))], [(1, [.p (eL eTModuleStep a_0.fModule), .p (eB a_0.fData), .p (eS a_0.fType), .p (eS a_0.fName), .p (eI a_0.fKey.fKind), .p (eI a_0.fKey.fNum), .p (eS a_0.fKey.fStr)])]⟩ ?_ ?_
   ·intro s' hle
    (repeat (first | refine uw ?_ | refine uo rfl ?_))
    refine awp_ghost hle ?_
    refine wp_if rfl (fun c20 => ?_) (fun c20 => ?_)
    ·replace h0 := if_t c20 h0
     refine awp_seq (awp_reg ?_)
     refine ro rfl (ok_assign rfl rfl rfl rfl ?_)
     refine rn ?_
     refine awp_ret ?_
     (repeat (first | refine uw ?_ | refine uo rfl ?_))
     have e0 := oi h0
     subst e0
     refine reta_mk rfl ?_
     exact sr
    ·replace h0 := if_bf c20 h0
     refine awp_skip (awp_seq (awp_reg ?_))
     refine ro rfl (ok_assign rfl rfl rfl rfl ?_)
     refine rn ?_
     refine awp_seq (awp_seq (awp_reg ?_))
     refine ro rfl (ok_assign rfl rfl rfl rfl ?_)
     refine rn ?_
     refine awp_block ?_
     obtain ⟨o73, h1, hL0, hR0⟩ := jn_cut h0
     refine awp_joinEx 0 (fun v74 : Unit => o73 = .inl v74) (fun v74 => ⟨[], []⟩) ?_ ?_
     ·rintro s' ⟨v74, hv, hle⟩
      have h0 := hL0 _ hv
      (repeat (first | refine uw ?_ | refine uo rfl ?_))
      refine awp_ghost hle ?_
      (repeat (first | refine uw ?_ | refine uo rfl ?_))
      refine awp_seq (awp_reg ?_)
      obtain ⟨r63, e64, h0⟩ := bd_cut h0
      refine ro rfl (ok_callP (law06_awake_ok _  _ e64) rfl rfl rfl rfl trivial Tryd.call9 rfl ?_)
      refine ro rfl (ok_assign rfl rfl rfl rfl ?_)
      refine rn ?_
      refine awp_ret ?_
      (repeat (first | refine uw ?_ | refine uo rfl ?_))
      have e0 := oi h0
      subst e0
      refine reta_mk rfl ?_
      exact sr
     ·skip
      refine awp_loopG (fun (q75 : Bytes × Int) => ⟨[(1, .ptr 1 0), (3, .p (eS r10)), (6, .p (eS q75.1)), (7, .p (eI q75.2))], [(1, [.p (eL eTModuleStep a_0.fModule), .p (eB a_0.fData), .p (eS a_0.fType), .p (eS a_0.fName), .p (eI a_0.fKey.fKind), .p (eI a_0.fKey.fNum), .p (eS a_0.fKey.fStr)])]⟩) (fun m (q75 : Bytes × Int) => law06_AddressOwn_l1 n a_0 r10 m q75.1 q75.2) (fun _ => rfl) (([] : Bytes), 0) h1 (ghost_le (le_mk ⟨er rfl, er rfl, er rfl, er rfl, trivial⟩ ⟨⟨_, rfl, ⟨sr, sr, sr, sr, sr, sr, sr, trivial⟩⟩, trivial⟩)) ?_
      rintro m ⟨p41, i42⟩ h1
      replace h1 : law06_AddressOwn_l1 n a_0 r10 (m + 1) p41 i42 = some o73 := h1
      rw [law06_AddressOwn_l1] at h1
      refine awp_seq (awp_seq (awp_reg ?_))
      refine ro rfl (ok_move rfl rfl rfl rfl ?_)
      refine ro rfl (ok_fieldAddrP rfl rfl rfl rfl rfl rfl rfl rfl rfl ?_)
      refine ro rfl (ok_loadP1 rfl rfl rfl rfl rfl rfl rfl rfl ?_)
      refine ro rfl (op_lenL (f := eTModuleStep) (l := a_0.fModule) rfl rfl rfl rfl rfl rfl rfl ?_)
      refine ro rfl (ok_cmp rfl rfl rfl rfl rfl rfl ?_)
      refine rn ?_
      refine wp_ifD rfl (fun c43 => ?_) (fun c43 => ?_)
      ·replace h1 := if_t c43 h1
       refine awp_skip (awp_seq (awp_block (awp_seq ?_)))
       obtain ⟨o76, h2, h1⟩ := bd_cut h1
       refine awp_joinN ⟨[(1, .ptr 1 0), (3, .p (eS r10)), (6, .p (eS o76)), (7, .p (eI i42))], [(1, [.p (eL eTModuleStep a_0.fModule), .p (eB a_0.fData), .p (eS a_0.fType), .p (eS a_0.fName), .p (eI a_0.fKey.fKind), .p (eI a_0.fKey.fNum), .p (eS a_0.fKey.fStr)])]⟩ ?_ ?_
       ·intro s' hle
        (repeat (first | refine uw ?_ | refine uo rfl ?_))
        refine awp_ghost hle ?_
        refine awp_seq (awp_reg ?_)
        refine ro rfl (ok_move rfl rfl rfl rfl ?_)
        obtain ⟨hk47, h1⟩ := ck_cut h1
        refine ro rfl (ok_concat rfl rfl rfl rfl rfl hk47 ?_)
        refine ro rfl (ok_fieldAddrP rfl rfl rfl rfl rfl rfl rfl rfl rfl ?_)
        refine ro rfl (ok_loadP1 rfl rfl rfl rfl rfl rfl rfl rfl ?_)
        refine ro rfl (ok_move rfl rfl rfl rfl ?_)
        obtain ⟨hk48, h1⟩ := ck_cut h1
        refine ro rfl (op_at (f := eTModuleStep) (l := a_0.fModule) TModuleStep.cs rfl rfl rfl rfl rfl rfl rfl rfl rfl hk48 TModuleStep.cells_eq (fun _ => rfl) ?_)
        refine ro rfl (ok_fieldAddrR rfl rfl rfl rfl rfl rfl rfl rfl rfl ?_)
        refine ro rfl (ok_loadR1 rfl rfl rfl rfl rfl rfl rfl ?_)
        obtain ⟨hk49, h1⟩ := ck_cut h1
        refine ro rfl (ok_concat rfl rfl rfl rfl rfl hk49 ?_)
        refine ro rfl (ok_assign rfl rfl rfl rfl ?_)
        refine rn ?_
        refine awp_seq (awp_seq (awp_reg ?_))
        refine ro rfl (ok_move rfl rfl rfl rfl ?_)
        refine ro rfl (ok_move rfl rfl rfl rfl ?_)
        obtain ⟨r50, e51, h1⟩ := bd_cut h1
        refine ro rfl (ok_callP (address_Within_ok _ r10 ((o76 ++ ([109, 111, 100, 117, 108, 101, 46] : Bytes)) ++ ((lat a_0.fModule i42).fName)) _ e51) rfl rfl rfl rfl ⟨sr, sr, trivial⟩ Tryd.call16 rfl ?_)
        refine ro rfl (ok_not rfl rfl rfl rfl ?_)
        refine rn ?_
        refine wp_if rfl (fun c52 => ?_) (fun c52 => ?_)
        ·replace h1 := if_t c52 h1
         refine awp_seq (awp_reg ?_)
         refine ro rfl (ok_assign rfl rfl rfl rfl ?_)
         refine rn ?_
         refine awp_ret ?_
         (repeat (first | refine uw ?_ | refine uo rfl ?_))
         have e1 := oi h1
         have e0 := hR0 _ e1.symm
         subst e0
         refine reta_mk rfl ?_
         exact sr
        ·replace h1 := if_bf c52 h1
         refine awp_skip (awp_seq (awp_reg ?_))
         refine ro rfl (ok_move rfl rfl rfl rfl ?_)
         refine ro rfl (ok_fieldAddrP rfl rfl rfl rfl rfl rfl rfl rfl rfl ?_)
         refine ro rfl (ok_loadP1 rfl rfl rfl rfl rfl rfl rfl rfl ?_)
         refine ro rfl (ok_move rfl rfl rfl rfl ?_)
         obtain ⟨hk53, h1⟩ := ck_cut h1
         refine ro rfl (op_at (f := eTModuleStep) (l := a_0.fModule) TModuleStep.cs rfl rfl rfl rfl rfl rfl rfl rfl rfl hk53 TModuleStep.cells_eq (fun _ => rfl) ?_)
         refine ro rfl (ok_fieldAddrR rfl rfl rfl rfl rfl rfl rfl rfl rfl ?_)
         refine ro rfl (ok_loadRA rfl rfl rfl rfl rfl rfl rfl ?_)
         obtain ⟨r54, e55, h1⟩ := bd_cut h1
         refine ro rfl (ok_callP (address_FormatKey_ok _ ((lat a_0.fModule i42).fKey) _ e55) rfl rfl rfl rfl ⟨sr, trivial⟩ Tryd.call17 rfl ?_)
         obtain ⟨hk56, h1⟩ := ck_cut h1
         refine ro rfl (ok_concat rfl rfl rfl rfl rfl hk56 ?_)
         refine ro rfl (ok_assign rfl rfl rfl rfl ?_)
         refine rn ?_
         refine awp_seq (awp_reg ?_)
         refine ro rfl (ok_move rfl rfl rfl rfl ?_)
         refine ro rfl (ok_move rfl rfl rfl rfl ?_)
         obtain ⟨r57, e58, h1⟩ := bd_cut h1
         refine ro rfl (ok_callP (address_Within_ok _ r10 (((o76 ++ ([109, 111, 100, 117, 108, 101, 46] : Bytes)) ++ ((lat a_0.fModule i42).fName)) ++ r54) _ e58) rfl rfl rfl rfl ⟨sr, sr, trivial⟩ Tryd.call16 rfl ?_)
         refine ro rfl (ok_not rfl rfl rfl rfl ?_)
         refine rn ?_
         refine awp_ghost (ghost_le (t := ⟨[(1, .ptr 1 0), (3, .p (eS r10)), (6, .p (eS (((o76 ++ ([109, 111, 100, 117, 108, 101, 46] : Bytes)) ++ ((lat a_0.fModule i42).fName)) ++ r54))), (7, .p (eI i42)), (70, .p (eB (!r57)))], [(1, [.p (eL eTModuleStep a_0.fModule), .p (eB a_0.fData), .p (eS a_0.fType), .p (eS a_0.fName), .p (eI a_0.fKey.fKind), .p (eI a_0.fKey.fNum), .p (eS a_0.fKey.fStr)])]⟩) (le_mk ⟨er rfl, er rfl, er rfl, er rfl, er rfl, trivial⟩ ⟨⟨_, rfl, ⟨sr, sr, sr, sr, sr, sr, sr, trivial⟩⟩, trivial⟩)) ?_
         refine wp_if rfl (fun c59 => ?_) (fun c59 => ?_)
         ·replace h1 := if_t c59 h1
          refine awp_seq (awp_reg ?_)
          refine ro rfl (ok_assign rfl rfl rfl rfl ?_)
          refine rn ?_
          refine awp_ret ?_
          (repeat (first | refine uw ?_ | refine uo rfl ?_))
          have e1 := oi h1
          have e0 := hR0 _ e1.symm
          subst e0
          refine reta_mk rfl ?_
          exact sr
         ·replace h1 := if_bf c59 h1
          refine awp_skip ?_
          (repeat (first | refine uw ?_ | refine uo rfl ?_))
          refine awp_reg ?_
          refine ro rfl (ok_move rfl rfl rfl rfl ?_)
          obtain ⟨hk60, h1⟩ := ck_cut h1
          refine ro rfl (ok_ar rfl rfl rfl rfl rfl rfl hk60 ?_)
          refine ro rfl (ok_assign rfl rfl rfl rfl ?_)
          refine rn ?_
          (repeat (first | refine uw ?_ | refine uo rfl ?_))
          exact ⟨(((o76 ++ ([109, 111, 100, 117, 108, 101, 46] : Bytes)) ++ ((lat a_0.fModule i42).fName)) ++ r54, i42 + 1), h1, ghost_le (le_mk ⟨er rfl, er rfl, er rfl, er rfl, trivial⟩ ⟨⟨_, rfl, ⟨sr, sr, sr, sr, sr, sr, sr, trivial⟩⟩, trivial⟩)⟩
       ·skip
        refine awp_seq (awp_reg ?_)
        refine ro rfl (ok_move rfl rfl rfl rfl ?_)
        refine ro rfl (ok_cmp rfl rfl rfl rfl rfl rfl ?_)
        refine rn ?_
        refine wp_ifD rfl (fun c44 => ?_) (fun c44 => ?_)
        ·replace h2 := if_t c44 h2
         refine awp_reg ?_
         refine ro rfl (ok_move rfl rfl rfl rfl ?_)
         obtain ⟨hk45, h2⟩ := ck_cut h2
         refine ro rfl (ok_concat rfl rfl rfl rfl rfl hk45 ?_)
         refine ro rfl (ok_assign rfl rfl rfl rfl ?_)
         refine rn ?_
         (repeat (first | refine uw ?_ | refine uo rfl ?_))
         have e2 := oi h2
         subst e2
         exact ghost_le (le_mk ⟨er rfl, er rfl, er rfl, er rfl, trivial⟩ ⟨⟨_, rfl, ⟨sr, sr, sr, sr, sr, sr, sr, trivial⟩⟩, trivial⟩)
        ·replace h2 := if_f c44 h2
         refine awp_skip ?_
         (repeat (first | refine uw ?_ | refine uo rfl ?_))
         have e2 := oi h2
         subst e2
         exact ghost_le (le_mk ⟨er rfl, er rfl, er rfl, er rfl, trivial⟩ ⟨⟨_, rfl, ⟨sr, sr, sr, sr, sr, sr, sr, trivial⟩⟩, trivial⟩)
      ·replace h1 := if_f c43 h1
       refine awp_exit ?_
       (repeat (first | refine uw ?_ | refine uo rfl ?_))
       have e1 := oi h1
       exact ⟨_, e1.symm, ghost_le (le_mk trivial trivial)⟩
   ·skip
    refine awp_reg ?_
    refine ro rfl (ok_move rfl rfl rfl rfl ?_)
    refine ro rfl (ok_move rfl rfl rfl rfl ?_)
    obtain ⟨r14, e15, h1⟩ := bd_cut h1
    refine ro rfl (ok_callP (address_Within_ok _ r10 r10 _ e15) rfl rfl rfl rfl ⟨sr, sr, trivial⟩ Tryd.call16 rfl ?_)
    refine ro rfl (ok_not rfl rfl rfl rfl ?_)
    refine ro rfl (ok_move rfl rfl rfl rfl ?_)
    refine gd_B rfl rfl rfl (fun c16 => ?_) (fun c16 => ?_)
    ·replace h1 := if_t c16 h1
     refine gd_ft rfl rfl rfl (c16) rfl rfl ?_
     refine gd_ft rfl rfl rfl (c16) rfl rfl ?_
     refine gd_ft rfl rfl rfl (c16) rfl rfl ?_
     refine gd_ft rfl rfl rfl (c16) rfl rfl ?_
     refine ro rfl (ok_pick_true rfl rfl rfl rfl (c16) rfl ?_)
     refine rn ?_
     (repeat (first | refine uw ?_ | refine uo rfl ?_))
     have e1 := oi h1
     subst e1
     exact ghost_le (le_mk ⟨er rfl, er rfl, er rfl, trivial⟩ ⟨⟨_, rfl, ⟨sr, sr, sr, sr, sr, sr, sr, trivial⟩⟩, trivial⟩)
    ·replace h1 := if_bf c16 h1
     refine gd_ff rfl rfl rfl (c16) (ok_move rfl rfl rfl rfl ?_)
     refine gd_ff rfl rfl rfl (c16) (ok_move rfl rfl rfl rfl ?_)
     obtain ⟨r17, e18, h1⟩ := bd_cut h1
     refine gd_ff rfl rfl rfl (c16) (ok_callP (address_Within_ok _ r10 r12.1 _ e18) rfl rfl rfl rfl ⟨sr, sr, trivial⟩ Tryd.call16 rfl ?_)
     refine gd_ff rfl rfl rfl (c16) (ok_not rfl rfl rfl rfl ?_)
     refine ro rfl (ok_pick_false rfl rfl rfl rfl (c16) rfl ?_)
     refine rn ?_
     (repeat (first | refine uw ?_ | refine uo rfl ?_))
     have e1 := oi h1
     subst e1
     exact ghost_le (le_mk ⟨er rfl, er rfl, er rfl, trivial⟩ ⟨⟨_, rfl, ⟨sr, sr, sr, sr, sr, sr, sr, trivial⟩⟩, trivial⟩)
 ·skip
  refine awp_reg ?_
  refine ro rfl (ok_loadPA rfl rfl rfl rfl rfl rfl rfl rfl rfl ?_)
  obtain ⟨r1, e2, h1⟩ := bd_cut h1
  refine ro rfl (ok_callP (law06_few_ok _ a_0 _ e2) rfl rfl rfl rfl ⟨sr, trivial⟩ Tryd.call14 rfl ?_)
  refine ro rfl (ok_not rfl rfl rfl rfl ?_)
  refine ro rfl (ok_move rfl rfl rfl rfl ?_)
  refine gd_B rfl rfl rfl (fun c3 => ?_) (fun c3 => ?_)
  ·replace h1 := if_t c3 h1
   refine gd_ft rfl rfl rfl (c3) rfl rfl ?_
   refine gd_ft rfl rfl rfl (c3) rfl rfl ?_
   refine gd_ft rfl rfl rfl (c3) rfl rfl ?_
   refine ro rfl (ok_pick_true rfl rfl rfl rfl (c3) rfl ?_)
   refine rn ?_
   (repeat (first | refine uw ?_ | refine uo rfl ?_))
   have e1 := oi h1
   subst e1
   exact ghost_le (le_mk ⟨er rfl, er rfl, trivial⟩ ⟨⟨_, rfl, ⟨sr, sr, sr, sr, sr, sr, sr, trivial⟩⟩, trivial⟩)
  ·replace h1 := if_bf c3 h1
   refine gd_ff rfl rfl rfl (c3) (ok_loadPA rfl rfl rfl rfl rfl rfl rfl rfl rfl ?_)
   obtain ⟨r4, e5, h1⟩ := bd_cut h1
   refine gd_ff rfl rfl rfl (c3) (ok_callP (address_Check_ok _ a_0 _ e5) rfl rfl rfl rfl ⟨sr, trivial⟩ Tryd.call13 rfl ?_)
   refine gd_ff rfl rfl rfl (c3) (ok_cmp rfl rfl rfl rfl rfl rfl ?_)
   refine ro rfl (ok_pick_false rfl rfl rfl rfl (c3) rfl ?_)
   refine rn ?_
   (repeat (first | refine uw ?_ | refine uo rfl ?_))
   have e1 := oi h1
   subst e1
   exact ghost_le (le_mk ⟨er rfl, er rfl, trivial⟩ ⟨⟨_, rfl, ⟨sr, sr, sr, sr, sr, sr, sr, trivial⟩⟩, trivial⟩)

end Go.Ab.R06
