/- Chapter 17. -/
import Derived.Test.YtmpmphkpplgbkaaR17b
set_option linter.unusedVariables false
set_option linter.unusedSimpArgs false
set_option linter.unnecessarySimpa false
namespace Go.Ab.R17
open Go.Proofs Go.Ab
attribute [local irreducible] awp rwpL OpOk PCalls OCalls AV.sub

def law17_ReferenceParts_l2 (r19 : (List TRef)) (i51 : Int) : Nat → Int → Option (Unit ⊕ (Unit ⊕ Bool))
 | 0, _ => none
 | m + 1, k61 =>
 if k61 < i51 then
  ck ((0 : Int) ≤ i51 ∧ i51 < (r19.length : Int)) <|
  ck ((0 : Int) ≤ k61 ∧ k61 < (r19.length : Int)) <|
  (reference_Same (lat r19 i51) (lat r19 k61)).bind fun r65 =>
  if r65 = true then
   some (.inr (.inr false))
  else
   ck (inR (k61 + 1)) <|
   law17_ReferenceParts_l2 r19 i51 m (k61 + 1)
 else
  some (.inl ())

def law17_ReferenceParts_l3 (n : Nat) (r19 : (List TRef)) : Nat → Int → Option (Unit ⊕ Bool)
 | 0, _ => none
 | m + 1, i51 =>
 if i51 < (r19.length : Int) then
  jn (law17_ReferenceParts_l2 r19 i51 n 0) fun q131 =>
  ck (inR (i51 + 1)) <|
  law17_ReferenceParts_l3 n r19 m (i51 + 1)
 else
  some (.inl ())

def law17_ReferenceParts_l5 (r19 : (List TRef)) (r23 : (List TRef)) (i97 : Int) : Nat → Bool → Int → Option Bool
 | 0, _, _ => none
 | m + 1, found107, k108 =>
 if k108 < (r19.length : Int) then
  (
    if found107 = true then
     some true
    else
     ck ((0 : Int) ≤ i97 ∧ i97 < (r23.length : Int)) <|
     ck ((0 : Int) ≤ k108 ∧ k108 < (r19.length : Int)) <|
     (reference_Same (lat r23 i97) (lat r19 k108)).bind fun r113 =>
     some r113
   : Option Bool).bind fun found115 =>
  ck (inR (k108 + 1)) <|
  law17_ReferenceParts_l5 r19 r23 i97 m found115 (k108 + 1)
 else
  some found107

def law17_ReferenceParts_l6 (n : Nat) (r19 : (List TRef)) (r23 : (List TRef)) : Nat → Int → Option (Unit ⊕ Bool)
 | 0, _ => none
 | m + 1, i97 =>
 if i97 < (r23.length : Int) then
  (law17_ReferenceParts_l5 r19 r23 i97 n false 0).bind fun found119 =>
  if (!found119) = true then
   some (.inr false)
  else
   ck (inR (i97 + 1)) <|
   law17_ReferenceParts_l6 n r19 r23 m (i97 + 1)
 else
  some (.inl ())

def law17_ReferenceParts (n : Nat) (a_0 : TExpr) (b_1 : TExpr) : Option Bool :=
 (
   (ref14_Small n a_0 100).bind fun r1 =>
   if (!r1) = true then
    some true
   else
    (ref14_Small n b_1 100).bind fun r4 =>
    if (!r4) = true then
     some true
    else
     (ref14_Check n a_0).bind fun r7 =>
     if r7 = 0 then
      (ref14_Check n b_1).bind fun r10 =>
      if r10 = 0 then
       (ref14_Check n (TExpr.mk 10 0 ([] : Bytes) ([] : Bytes) (TValue.mk 0 0 ([] : Bytes) [] []) [a_0, b_1] 0)).bind fun r13 =>
       some (!decide (r13 = 0))
      else
       some true
     else
      some true
  : Option Bool).bind fun t15 =>
 if t15 = true then
  (law17_awake n).bind fun r17 =>
  some r17
 else
  (reference_Of n (TExpr.mk 10 0 ([] : Bytes) ([] : Bytes) (TValue.mk 0 0 ([] : Bytes) [] []) [a_0, b_1] 0)).bind fun r19 =>
  (reference_Of n a_0).bind fun r21 =>
  (reference_Of n b_1).bind fun r23 =>
  (
    if (r19.length : Int) < (r21.length : Int) then
     some true
    else
     ck ((0 : Int) ≤ 0 ∧ 0 ≤ (r21.length : Int) ∧ (r21.length : Int) ≤ (r19.length : Int)) <|
     (law17_same n (sub r19 0 (r21.length : Int)) r21).bind fun r27 =>
     some (!r27)
   : Option Bool).bind fun t29 =>
  if t29 = true then
   some false
  else
   jn (law17_ReferenceParts_l3 n r19 n 0) fun q130 =>
   jn (law17_ReferenceParts_l6 n r19 r23 n 0) fun q132 =>
   (
     ck (inR ((r21.length : Int) + (r23.length : Int))) <|
     if (r19.length : Int) ≤ (r21.length : Int) + (r23.length : Int) then
      (law17_awake n).bind fun r125 =>
      some r125
     else
      some false
    : Option Bool).bind fun t127 =>
   some t127

set_option maxHeartbeats 4000000 in
theorem law17_ReferenceParts_ok (n : Nat) (a_0 : TExpr) (b_1 : TExpr) (r : Bool) (h0 : law17_ReferenceParts n a_0 b_1 = some r) : PCalls Try.prog 6 [.agg (TExpr.cs a_0), .agg (TExpr.cs b_1)] (· = .p (eB r)) := by
 unfold law17_ReferenceParts at h0
 refine pbodyA good Try.func6 rfl rfl rfl fun w0 => ?_
 refine awp_seq (awp_reg ?_)
 refine ro rfl (ok_box rfl rfl rfl rfl rfl ?_)
 refine ro rfl (ok_box rfl rfl rfl rfl rfl ?_)
 refine ro rfl (ok_assign rfl rfl rfl rfl ?_)
 refine rn ?_
 refine awp_seq (awp_reg ?_)
 refine ro rfl (ok_loadPA rfl rfl rfl rfl rfl rfl rfl rfl rfl ?_)
 refine ro rfl (ok_loadPA rfl rfl rfl rfl rfl rfl rfl rfl rfl ?_)
 refine ro rfl (op_bslice eTExpr [a_0, b_1] rfl rfl rfl rfl rfl rfl rfl rfl rfl rfl rfl rfl rfl (by first | rfl | (simp only [List.map_cons, List.map_nil, TExpr.agg_eq]; done) | (simp only [List.map_cons, List.map_nil, TExpr.agg_eq]; rfl)) ?_)
 refine ro rfl (ok_build rfl rfl rfl rfl rfl rfl rfl rfl rfl ?_)
 refine ro rfl (ok_alloc rfl rfl rfl rfl rfl ?_)
 refine ro rfl (ok_store rfl rfl rfl rfl rfl rfl rfl rfl (Nat.le_of_ble_eq_true rfl) ?_)
 refine rn ?_
 refine awp_seq (awp_seq ?_)
 obtain ⟨o136, h1, h0⟩ := bd_cut h0
 refine awp_joinN ⟨[(2, .ptr 2 0), (3, .ptr 3 0), (5, .ptr 5 0), (40, .p (eB o136))], [(2, [.p (eI a_0.fKind), .p (eI a_0.fOp), .p (eS a_0.fName), .p (eS a_0.fKey), .p (eI a_0.fValue.fKind), .p (eI a_0.fValue.fNum), .p (eS a_0.fValue.fStr), .p (eL eTValue a_0.fValue.fItems), .p (eL eS a_0.fValue.fKeys), .p (eL eTExpr a_0.fKids), .p (eI a_0.fAt)]), (3, [.p (eI b_1.fKind), .p (eI b_1.fOp), .p (eS b_1.fName), .p (eS b_1.fKey), .p (eI b_1.fValue.fKind), .p (eI b_1.fValue.fNum), .p (eS b_1.fValue.fStr), .p (eL eTValue b_1.fValue.fItems), .p (eL eS b_1.fValue.fKeys), .p (eL eTExpr b_1.fKids), .p (eI b_1.fAt)]), (5, [.p (eI 10), .p (eI 0), .p (eS ([] : Bytes)), .p (eS ([] : Bytes)), .p (eI 0), .p (eI 0), .p (eS ([] : Bytes)), .p (.val (.slice none 0 0)), .p (.val (.slice none 0 0)), .p (eL eTExpr [a_0, b_1]), .p (eI 0)])]⟩ ?_ ?_
 ·intro s' hle
  (repeat (first | refine uw ?_ | refine uo rfl ?_))
  refine awp_ghost hle ?_
  refine wp_if rfl (fun c16 => ?_) (fun c16 => ?_)
  ·replace h0 := if_t c16 h0
   refine awp_seq (awp_reg ?_)
   obtain ⟨r17, e18, h0⟩ := bd_cut h0
   refine ro rfl (ok_callP (law17_awake_ok _  _ e18) rfl rfl rfl rfl trivial Try.call9 rfl ?_)
   refine ro rfl (ok_assign rfl rfl rfl rfl ?_)
   refine rn ?_
   refine awp_ret ?_
   (repeat (first | refine uw ?_ | refine uo rfl ?_))
   have e0 := oi h0
   subst e0
   refine reta_mk rfl ?_
   exact sr
  ·replace h0 := if_bf c16 h0
   refine awp_skip (awp_seq (awp_reg ?_))
   refine ro rfl (ok_loadPA rfl rfl rfl rfl rfl rfl rfl rfl rfl ?_)
   obtain ⟨r19, e20, h0⟩ := bd_cut h0
   refine ro rfl (ok_callP (reference_Of_ok _ (TExpr.mk 10 0 ([] : Bytes) ([] : Bytes) (TValue.mk 0 0 ([] : Bytes) [] []) [a_0, b_1] 0) _ e20) rfl rfl rfl rfl ⟨sub_cells ⟨.inl rfl, .inl rfl, .inl rfl, .inl rfl, .inl rfl, .inl rfl, .inl rfl, .inr ⟨rfl, rfl⟩, .inr ⟨rfl, rfl⟩, .inl rfl, .inl rfl, trivial⟩, trivial⟩ Try.call13 rfl ?_)
   refine ro rfl (ok_assign rfl rfl rfl rfl ?_)
   refine rn ?_
   refine awp_seq ?_
   obtain ⟨r21, e22, h0⟩ := bd_cut h0
   obtain ⟨r23, e24, h0⟩ := bd_cut h0
   refine awp_drawQ [(2, .ptr 2 0), (3, .ptr 3 0), (6, .p (eL eTRef r19))] rfl ⟨rfl, rfl, rfl, trivial⟩ rfl ?_
   refine dq_cons (.p (.agg (TExpr.cs a_0))) [(2, _)] ⟨.inl rfl, trivial⟩ (fun sl hsl K hK => one_op rfl (ok_loadPA rfl rfl rfl rfl rfl (hsl _ _ rfl) rfl rfl rfl hK)) rfl rfl rfl ?_
   refine dq_cons (.p (eL eTRef r21)) [(44, _)] ⟨.inr ⟨0, rfl, rfl⟩, trivial⟩ (fun sl hsl K hK => one_op rfl (ok_callP (reference_Of_ok _ a_0 _ e22) rfl rfl rfl (args_cons (hsl _ _ rfl) args_nil) ⟨sr, trivial⟩ Try.call13 rfl hK)) rfl rfl rfl ?_
   refine dq_cons (.p (.agg (TExpr.cs b_1))) [(3, _)] ⟨.inl rfl, trivial⟩ (fun sl hsl K hK => one_op rfl (ok_loadPA rfl rfl rfl rfl rfl (hsl _ _ rfl) rfl rfl rfl hK)) rfl rfl rfl ?_
   refine dq_cons (.p (eL eTRef r23)) [(46, _)] ⟨.inr ⟨2, rfl, rfl⟩, trivial⟩ (fun sl hsl K hK => one_op rfl (ok_callP (reference_Of_ok _ b_1 _ e24) rfl rfl rfl (args_cons (hsl _ _ rfl) args_nil) ⟨sr, trivial⟩ Try.call13 rfl hK)) rfl rfl rfl ?_
   refine dq_cons (.p (eL eTRef r21)) [(45, _)] ⟨.inr ⟨1, rfl, rfl⟩, trivial⟩ (fun sl hsl K hK => one_op rfl (ok_assign rfl rfl rfl (hsl _ _ rfl) hK)) rfl rfl rfl ?_
   refine dq_cons (.p (eL eTRef r23)) [(47, _)] ⟨.inr ⟨3, rfl, rfl⟩, trivial⟩ (fun sl hsl K hK => one_op rfl (ok_assign rfl rfl rfl (hsl _ _ rfl) hK)) rfl rfl rfl ?_
   refine dq_nil ?_
   refine awp_seq (awp_seq ?_)
   obtain ⟨o138, h1, h0⟩ := bd_cut h0
   refine awp_joinN ⟨[(6, .p (eL eTRef r19)), (7, .p (eL eTRef r21)), (8, .p (eL eTRef r23)), (61, .p (eB o138))], []⟩ ?_ ?_
   ·intro s' hle
    (repeat (first | refine uw ?_ | refine uo rfl ?_))
    refine awp_ghost hle ?_
    refine wp_if rfl (fun c30 => ?_) (fun c30 => ?_)
    ·replace h0 := if_t c30 h0
     refine awp_seq (awp_reg ?_)
     refine ro rfl (ok_assign rfl rfl rfl rfl ?_)
     refine rn ?_
     refine awp_ret ?_
     (repeat (first | refine uw ?_ | refine uo rfl ?_))
     have e0 := oi h0
     subst e0
     refine reta_mk rfl ?_
     exact sr
    ·replace h0 := if_bf c30 h0
     refine awp_skip (awp_seq (awp_seq (awp_reg ?_)))
     refine ro rfl (ok_assign rfl rfl rfl rfl ?_)
     refine rn ?_
     refine awp_block ?_
     obtain ⟨o140, h1, hL0, hR0⟩ := jn_cut h0
     refine awp_joinEx 0 (fun v141 : Unit => o140 = .inl v141) (fun v141 => ⟨[(6, .p (eL eTRef r19)), (7, .p (eL eTRef r21)), (8, .p (eL eTRef r23))], []⟩) ?_ ?_
     ·rintro s' ⟨v141, hv, hle⟩
      have h0 := hL0 _ hv
      (repeat (first | refine uw ?_ | refine uo rfl ?_))
      refine awp_ghost hle ?_
      (repeat (first | refine uw ?_ | refine uo rfl ?_))
      refine awp_seq (awp_seq (awp_reg ?_))
      refine ro rfl (ok_assign rfl rfl rfl rfl ?_)
      refine rn ?_
      refine awp_block ?_
      obtain ⟨o142, h1, hL0, hR0⟩ := jn_cut h0
      refine awp_joinEx 4 (fun v143 : Unit => o142 = .inl v143) (fun v143 => ⟨[(6, .p (eL eTRef r19)), (7, .p (eL eTRef r21)), (8, .p (eL eTRef r23))], []⟩) ?_ ?_
      ·rintro s' ⟨v143, hv, hle⟩
       have h0 := hL0 _ hv
       (repeat (first | refine uw ?_ | refine uo rfl ?_))
       refine awp_ghost hle ?_
       (repeat (first | refine uw ?_ | refine uo rfl ?_))
       refine awp_seq ?_
       obtain ⟨o144, h1, h0⟩ := bd_cut h0
       refine awp_joinN ⟨[(4, .p (eB o144))], []⟩ ?_ ?_
       ·intro s' hle
        (repeat (first | refine uw ?_ | refine uo rfl ?_))
        refine awp_ghost hle ?_
        refine awp_ret ?_
        (repeat (first | refine uw ?_ | refine uo rfl ?_))
        have e0 := oi h0
        subst e0
        refine reta_mk rfl ?_
        exact sr
       ·skip
        refine awp_reg ?_
        refine ro rfl (ok_move rfl rfl rfl rfl ?_)
        refine ro rfl (op_lenL (f := eTRef) (l := r19) rfl rfl rfl rfl rfl rfl rfl ?_)
        refine ro rfl (ok_move rfl rfl rfl rfl ?_)
        refine ro rfl (op_lenL (f := eTRef) (l := r21) rfl rfl rfl rfl rfl rfl rfl ?_)
        refine ro rfl (ok_move rfl rfl rfl rfl ?_)
        refine ro rfl (op_lenL (f := eTRef) (l := r23) rfl rfl rfl rfl rfl rfl rfl ?_)
        obtain ⟨h123, h1⟩ := ck_cut h1
        refine ro rfl (ok_ar rfl rfl rfl rfl rfl rfl h123 ?_)
        refine ro rfl (ok_cmp rfl rfl rfl rfl rfl rfl ?_)
        refine ro rfl (ok_move rfl rfl rfl rfl ?_)
        refine gd_D rfl rfl rfl (fun c124 => ?_) (fun c124 => ?_)
        ·replace h1 := if_t c124 h1
         obtain ⟨r125, e126, h1⟩ := bd_cut h1
         refine gd_tt rfl rfl rfl (dt c124) (ok_callP (law17_awake_ok _  _ e126) rfl rfl rfl rfl trivial Try.call9 rfl ?_)
         refine ro rfl (ok_pick_true rfl rfl rfl rfl (dt c124) rfl ?_)
         refine ro rfl (ok_assign rfl rfl rfl rfl ?_)
         refine rn ?_
         (repeat (first | refine uw ?_ | refine uo rfl ?_))
         have e1 := oi h1
         subst e1
         exact ghost_le (le_mk ⟨er rfl, trivial⟩ trivial)
        ·replace h1 := if_f c124 h1
         refine gd_tf rfl rfl rfl (df c124) rfl rfl ?_
         refine ro rfl (ok_pick_false rfl rfl rfl rfl (df c124) rfl ?_)
         refine ro rfl (ok_assign rfl rfl rfl rfl ?_)
         refine rn ?_
         (repeat (first | refine uw ?_ | refine uo rfl ?_))
         have e1 := oi h1
         subst e1
         exact ghost_le (le_mk ⟨er rfl, trivial⟩ trivial)
      ·skip
       refine awp_loopG (fun q146 => ⟨[(6, .p (eL eTRef r19)), (7, .p (eL eTRef r21)), (8, .p (eL eTRef r23)), (11, .p (eI q146))], []⟩) (fun m (q146 : Int) => law17_ReferenceParts_l6 n r19 r23 m q146) (fun _ => rfl) 0 h1 (ghost_le (le_mk ⟨er rfl, er rfl, er rfl, er rfl, trivial⟩ trivial)) ?_
       rintro m i97 h1
       replace h1 : law17_ReferenceParts_l6 n r19 r23 (m + 1) i97 = some o142 := h1
       rw [law17_ReferenceParts_l6] at h1
       refine awp_seq (awp_seq (awp_reg ?_))
       refine ro rfl (ok_move rfl rfl rfl rfl ?_)
       refine ro rfl (ok_move rfl rfl rfl rfl ?_)
       refine ro rfl (op_lenL (f := eTRef) (l := r23) rfl rfl rfl rfl rfl rfl rfl ?_)
       refine ro rfl (ok_cmp rfl rfl rfl rfl rfl rfl ?_)
       refine rn ?_
       refine wp_ifD rfl (fun c98 => ?_) (fun c98 => ?_)
       ·replace h1 := if_t c98 h1
        refine awp_skip (awp_seq (awp_block (awp_seq (awp_reg ?_))))
        refine ro rfl (ok_assign rfl rfl rfl rfl ?_)
        refine rn ?_
        refine awp_seq (awp_seq (awp_reg ?_))
        refine ro rfl (ok_assign rfl rfl rfl rfl ?_)
        refine rn ?_
        refine awp_block ?_
        obtain ⟨o147, h2, h1⟩ := bd_cut h1
        refine awp_joinE 6 ⟨[(6, .p (eL eTRef r19)), (7, .p (eL eTRef r21)), (8, .p (eL eTRef r23)), (11, .p (eI i97)), (12, .p (eB o147))], []⟩ ?_ ?_
        ·intro s' hle
         (repeat (first | refine uw ?_ | refine uo rfl ?_))
         refine awp_ghost hle ?_
         (repeat (first | refine uw ?_ | refine uo rfl ?_))
         refine awp_seq (awp_reg ?_)
         refine ro rfl (ok_move rfl rfl rfl rfl ?_)
         refine ro rfl (ok_not rfl rfl rfl rfl ?_)
         refine rn ?_
         refine wp_if rfl (fun c120 => ?_) (fun c120 => ?_)
         ·replace h1 := if_t c120 h1
          refine awp_seq (awp_reg ?_)
          refine ro rfl (ok_assign rfl rfl rfl rfl ?_)
          refine rn ?_
          refine awp_ret ?_
          (repeat (first | refine uw ?_ | refine uo rfl ?_))
          have e1 := oi h1
          have e0 := hR0 _ e1.symm
          subst e0
          refine reta_mk rfl ?_
          exact sr
         ·replace h1 := if_bf c120 h1
          refine awp_skip ?_
          (repeat (first | refine uw ?_ | refine uo rfl ?_))
          refine awp_reg ?_
          refine ro rfl (ok_move rfl rfl rfl rfl ?_)
          obtain ⟨h121, h1⟩ := ck_cut h1
          refine ro rfl (ok_ar rfl rfl rfl rfl rfl rfl h121 ?_)
          refine ro rfl (ok_assign rfl rfl rfl rfl ?_)
          refine rn ?_
          (repeat (first | refine uw ?_ | refine uo rfl ?_))
          exact ⟨(i97 + 1), h1, ghost_le (le_mk ⟨er rfl, er rfl, er rfl, er rfl, trivial⟩ trivial)⟩
        ·skip
         refine awp_loopG (fun q149 => ⟨[(6, .p (eL eTRef r19)), (7, .p (eL eTRef r21)), (8, .p (eL eTRef r23)), (11, .p (eI i97)), (12, .p (eB q149.1)), (13, .p (eI q149.2))], []⟩) (fun m (q149 : Bool × Int) => law17_ReferenceParts_l5 r19 r23 i97 m q149.1 q149.2) (fun _ => rfl) (false, 0) h2 (ghost_le (le_mk ⟨er rfl, er rfl, er rfl, er rfl, er rfl, er rfl, trivial⟩ trivial)) ?_
         rintro m ⟨found107, k108⟩ h2
         replace h2 : law17_ReferenceParts_l5 r19 r23 i97 (m + 1) found107 k108 = some o147 := h2
         rw [law17_ReferenceParts_l5] at h2
         refine awp_seq (awp_seq (awp_reg ?_))
         refine ro rfl (ok_move rfl rfl rfl rfl ?_)
         refine ro rfl (ok_move rfl rfl rfl rfl ?_)
         refine ro rfl (op_lenL (f := eTRef) (l := r19) rfl rfl rfl rfl rfl rfl rfl ?_)
         refine ro rfl (ok_cmp rfl rfl rfl rfl rfl rfl ?_)
         refine rn ?_
         refine wp_ifD rfl (fun c109 => ?_) (fun c109 => ?_)
         ·replace h2 := if_t c109 h2
          refine awp_skip (awp_seq ?_)
          obtain ⟨o150, h3, h2⟩ := bd_cut h2
          refine awp_joinN ⟨[(6, .p (eL eTRef r19)), (7, .p (eL eTRef r21)), (8, .p (eL eTRef r23)), (11, .p (eI i97)), (12, .p (eB o150)), (13, .p (eI k108))], []⟩ ?_ ?_
          ·intro s' hle
           (repeat (first | refine uw ?_ | refine uo rfl ?_))
           refine awp_ghost hle ?_
           refine awp_reg ?_
           refine ro rfl (ok_move rfl rfl rfl rfl ?_)
           obtain ⟨h116, h2⟩ := ck_cut h2
           refine ro rfl (ok_ar rfl rfl rfl rfl rfl rfl h116 ?_)
           refine ro rfl (ok_assign rfl rfl rfl rfl ?_)
           refine rn ?_
           (repeat (first | refine uw ?_ | refine uo rfl ?_))
           exact ⟨(o150, k108 + 1), h2, ghost_le (le_mk ⟨er rfl, er rfl, er rfl, er rfl, er rfl, er rfl, trivial⟩ trivial)⟩
          ·refine awp_block ?_
           refine awp_byB (b := found107) (fun c110 => ?_) (fun c110 => ?_)
           ·replace h3 := if_t c110 h3
            refine awp_ghost (ghost_le (t := ⟨[(6, .p (eL eTRef r19)), (7, .p (eL eTRef r21)), (8, .p (eL eTRef r23)), (11, .p (eI i97)), (12, .p (eB found107)), (13, .p (eI k108))], []⟩) (le_mk ⟨er rfl, er rfl, er rfl, er rfl, er rfl, er rfl, trivial⟩ trivial)) ?_
            refine awp_drawS ⟨1, [12], (fun _ => none), (by2 [(6, .p (eL eTRef r19)), (7, .p (eL eTRef r21)), (8, .p (eL eTRef r23)), (11, .p (eI i97)), (12, .p (eB found107)), (13, .p (eI k108))] [(6, .p (eL eTRef r19)), (7, .p (eL eTRef r21)), (8, .p (eL eTRef r23)), (11, .p (eI i97)), (13, .p (eI k108))]), (fun _ => [])⟩ rfl rfl rfl ⟨rfl, rfl, rfl, rfl, rfl, rfl, trivial⟩ (lt1 ⟨rfl, rfl, rfl, rfl, rfl, trivial⟩) rfl rfl rfl rfl ?_
            refine ds_pure (fun _ => .p (eB found107)) rfl rfl rfl (all2 rfl (fun _ => rfl)) (lt1 rfl) (stg_no rfl (stg_yes [(12, _)] ⟨.inl rfl, trivial⟩ (fun sl hsl K hK => one_op rfl (ok_move rfl rfl rfl (hsl _ _ rfl) hK)) stg_nil)) ?_
            refine ds_pure (fun _ => .p (eB found107)) rfl rfl rfl (all2 rfl (fun _ => rfl)) (lt1 rfl) (stg_no rfl (stg_yes [(94, _)] ⟨.inr ⟨0, _, rfl, rfl, rfl⟩, trivial⟩ (fun sl hsl K hK => one_op rfl (ok_move rfl rfl rfl (hsl _ _ rfl) hK)) stg_nil)) ?_
            refine ds_pure (fun _ => .p (.val (.tuple #[]))) rfl rfl rfl (all2 rfl (fun _ => rfl)) (lt1 rfl) (stg_no rfl (stg_yes [(8, _), (95, _)] ⟨.inl rfl, .inr ⟨1, _, rfl, rfl, rfl⟩, trivial⟩ (fun sl hsl K hK => one_no rfl rfl (hsl _ _ rfl) (c110) rfl rfl hK) stg_nil)) ?_
            refine ds_pure (fun _ => .p (.val (.tuple #[]))) rfl rfl rfl (all2 rfl (fun _ => rfl)) (lt1 rfl) (stg_no rfl (stg_yes [(11, _), (95, _)] ⟨.inl rfl, .inr ⟨1, _, rfl, rfl, rfl⟩, trivial⟩ (fun sl hsl K hK => one_no rfl rfl (hsl _ _ rfl) (c110) rfl rfl hK) stg_nil)) ?_
            refine ds_pure (fun _ => .p (.val (.tuple #[]))) rfl rfl rfl (all2 rfl (fun _ => rfl)) (lt1 rfl) (stg_no rfl (stg_yes [(95, _), (96, _), (97, _)] ⟨.inr ⟨1, _, rfl, rfl, rfl⟩, .inr ⟨2, _, rfl, rfl, rfl⟩, .inr ⟨3, _, rfl, rfl, rfl⟩, trivial⟩ (fun sl hsl K hK => one_no rfl rfl (hsl _ _ rfl) (c110) rfl rfl hK) stg_nil)) ?_
            refine ds_pure (fun _ => .p (.val (.tuple #[]))) rfl rfl rfl (all2 rfl (fun _ => rfl)) (lt1 rfl) (stg_no rfl (stg_yes [(95, _), (98, _)] ⟨.inr ⟨1, _, rfl, rfl, rfl⟩, .inr ⟨4, _, rfl, rfl, rfl⟩, trivial⟩ (fun sl hsl K hK => one_no rfl rfl (hsl _ _ rfl) (c110) rfl rfl hK) stg_nil)) ?_
            refine ds_pure (fun _ => .p (.val (.tuple #[]))) rfl rfl rfl (all2 rfl (fun _ => rfl)) (lt1 rfl) (stg_no rfl (stg_yes [(6, _), (95, _)] ⟨.inl rfl, .inr ⟨1, _, rfl, rfl, rfl⟩, trivial⟩ (fun sl hsl K hK => one_no rfl rfl (hsl _ _ rfl) (c110) rfl rfl hK) stg_nil)) ?_
            refine ds_pure (fun _ => .p (.val (.tuple #[]))) rfl rfl rfl (all2 rfl (fun _ => rfl)) (lt1 rfl) (stg_no rfl (stg_yes [(13, _), (95, _)] ⟨.inl rfl, .inr ⟨1, _, rfl, rfl, rfl⟩, trivial⟩ (fun sl hsl K hK => one_no rfl rfl (hsl _ _ rfl) (c110) rfl rfl hK) stg_nil)) ?_
            refine ds_pure (fun _ => .p (.val (.tuple #[]))) rfl rfl rfl (all2 rfl (fun _ => rfl)) (lt1 rfl) (stg_no rfl (stg_yes [(95, _), (100, _), (101, _)] ⟨.inr ⟨1, _, rfl, rfl, rfl⟩, .inr ⟨6, _, rfl, rfl, rfl⟩, .inr ⟨7, _, rfl, rfl, rfl⟩, trivial⟩ (fun sl hsl K hK => one_no rfl rfl (hsl _ _ rfl) (c110) rfl rfl hK) stg_nil)) ?_
            refine ds_pure (fun _ => .p (.val (.tuple #[]))) rfl rfl rfl (all2 rfl (fun _ => rfl)) (lt1 rfl) (stg_no rfl (stg_yes [(95, _), (102, _)] ⟨.inr ⟨1, _, rfl, rfl, rfl⟩, .inr ⟨8, _, rfl, rfl, rfl⟩, trivial⟩ (fun sl hsl K hK => one_no rfl rfl (hsl _ _ rfl) (c110) rfl rfl hK) stg_nil)) ?_
            refine ds_pure (fun _ => .p (.val (.tuple #[]))) rfl rfl rfl (all2 rfl (fun _ => rfl)) (lt1 rfl) (stg_no rfl (stg_yes [(95, _), (99, _), (103, _)] ⟨.inr ⟨1, _, rfl, rfl, rfl⟩, .inr ⟨5, _, rfl, rfl, rfl⟩, .inr ⟨9, _, rfl, rfl, rfl⟩, trivial⟩ (fun sl hsl K hK => one_no rfl rfl (hsl _ _ rfl) (c110) rfl rfl hK) stg_nil)) ?_
            refine ds_pure (fun _ => .p (eB true)) rfl rfl rfl (all2 rfl (fun _ => rfl)) (lt1 rfl) (stg_no rfl (stg_yes [(95, _), (104, _)] ⟨.inr ⟨1, _, rfl, rfl, rfl⟩, .inr ⟨10, _, rfl, rfl, rfl⟩, trivial⟩ (fun sl hsl K hK => one_op rfl (ok_pick_true rfl rfl rfl (hsl _ _ rfl) (c110) rfl hK)) stg_nil)) ?_
            refine ds_imp (fun _ => .p (eB true)) [(105, _)] rfl ⟨.inr ⟨11, _, rfl, rfl, rfl⟩, trivial⟩ rfl rfl (fun _ => rfl) (lt1 (fun h => absurd h (by decide))) (fun sl hsl K hK => one_op rfl (ok_assign rfl rfl rfl (hsl _ _ rfl) hK)) ?_
            refine ds_nil ?_
            (repeat (first | refine uw ?_ | refine uo rfl ?_))
            have e3 := oi h3
            subst e3
            exact ghost_le (le_mk ⟨er rfl, er rfl, er rfl, er rfl, er rfl, er rfl, trivial⟩ trivial)
           ·replace h3 := if_bf c110 h3
            obtain ⟨h111, h3⟩ := ck_cut h3
            obtain ⟨h112, h3⟩ := ck_cut h3
            obtain ⟨r113, e114, h3⟩ := bd_cut h3
            refine awp_ghost (ghost_le (t := ⟨[(6, .p (eL eTRef r19)), (7, .p (eL eTRef r21)), (8, .p (eL eTRef r23)), (11, .p (eI i97)), (12, .p (eB found107)), (13, .p (eI k108))], []⟩) (le_mk ⟨er rfl, er rfl, er rfl, er rfl, er rfl, er rfl, trivial⟩ trivial)) ?_
            refine awp_drawS ⟨1, [12], (fun _ => none), (by2 [(6, .p (eL eTRef r19)), (7, .p (eL eTRef r21)), (8, .p (eL eTRef r23)), (11, .p (eI i97)), (12, .p (eB found107)), (13, .p (eI k108))] [(6, .p (eL eTRef r19)), (7, .p (eL eTRef r21)), (8, .p (eL eTRef r23)), (11, .p (eI i97)), (13, .p (eI k108))]), (fun _ => [])⟩ rfl rfl rfl ⟨rfl, rfl, rfl, rfl, rfl, rfl, trivial⟩ (lt1 ⟨rfl, rfl, rfl, rfl, rfl, trivial⟩) rfl rfl rfl rfl ?_
            refine ds_pure (fun _ => .p (eB found107)) rfl rfl rfl (all2 rfl (fun _ => rfl)) (lt1 rfl) (stg_no rfl (stg_yes [(12, _)] ⟨.inl rfl, trivial⟩ (fun sl hsl K hK => one_op rfl (ok_move rfl rfl rfl (hsl _ _ rfl) hK)) stg_nil)) ?_
            refine ds_pure (fun _ => .p (eB found107)) rfl rfl rfl (all2 rfl (fun _ => rfl)) (lt1 rfl) (stg_no rfl (stg_yes [(94, _)] ⟨.inr ⟨0, _, rfl, rfl, rfl⟩, trivial⟩ (fun sl hsl K hK => one_op rfl (ok_move rfl rfl rfl (hsl _ _ rfl) hK)) stg_nil)) ?_
            refine ds_pure (fun _ => .p (eL eTRef r23)) rfl rfl rfl (all2 rfl (fun _ => rfl)) (lt1 rfl) (stg_no rfl (stg_yes [(8, _), (95, _)] ⟨.inl rfl, .inr ⟨1, _, rfl, rfl, rfl⟩, trivial⟩ (fun sl hsl K hK => one_yes (ok_move rfl rfl rfl (hsl _ _ rfl) hK) rfl rfl (hsl _ _ rfl) (c110)) stg_nil)) ?_
            refine ds_pure (fun _ => .p (eI i97)) rfl rfl rfl (all2 rfl (fun _ => rfl)) (lt1 rfl) (stg_no rfl (stg_yes [(11, _), (95, _)] ⟨.inl rfl, .inr ⟨1, _, rfl, rfl, rfl⟩, trivial⟩ (fun sl hsl K hK => one_yes (ok_move rfl rfl rfl (hsl _ _ rfl) hK) rfl rfl (hsl _ _ rfl) (c110)) stg_nil)) ?_
            refine ds_pure (fun _ => .rptr (TRef.cs (lat r23 i97))) rfl rfl rfl (all2 rfl (fun _ => rfl)) (lt1 rfl) (stg_no rfl (stg_yes [(95, _), (96, _), (97, _)] ⟨.inr ⟨1, _, rfl, rfl, rfl⟩, .inr ⟨2, _, rfl, rfl, rfl⟩, .inr ⟨3, _, rfl, rfl, rfl⟩, trivial⟩ (fun sl hsl K hK => one_yes (op_at (f := eTRef) (l := r23) TRef.cs rfl rfl rfl rfl rfl rfl (hsl _ _ rfl) rfl (hsl _ _ rfl) h111 TRef.cells_eq (fun _ => rfl) hK) rfl rfl (hsl _ _ rfl) (c110)) stg_nil)) ?_
            refine ds_pure (fun _ => .p (.agg (TRef.cs (lat r23 i97)))) rfl rfl rfl (all2 rfl (fun _ => rfl)) (lt1 rfl) (stg_no rfl (stg_yes [(95, _), (98, _)] ⟨.inr ⟨1, _, rfl, rfl, rfl⟩, .inr ⟨4, _, rfl, rfl, rfl⟩, trivial⟩ (fun sl hsl K hK => one_yes (ok_loadRA rfl rfl rfl rfl rfl (hsl _ _ rfl) rfl hK) rfl rfl (hsl _ _ rfl) (c110)) stg_nil)) ?_
            refine ds_pure (fun _ => .p (eL eTRef r19)) rfl rfl rfl (all2 rfl (fun _ => rfl)) (lt1 rfl) (stg_no rfl (stg_yes [(6, _), (95, _)] ⟨.inl rfl, .inr ⟨1, _, rfl, rfl, rfl⟩, trivial⟩ (fun sl hsl K hK => one_yes (ok_move rfl rfl rfl (hsl _ _ rfl) hK) rfl rfl (hsl _ _ rfl) (c110)) stg_nil)) ?_
            refine ds_pure (fun _ => .p (eI k108)) rfl rfl rfl (all2 rfl (fun _ => rfl)) (lt1 rfl) (stg_no rfl (stg_yes [(13, _), (95, _)] ⟨.inl rfl, .inr ⟨1, _, rfl, rfl, rfl⟩, trivial⟩ (fun sl hsl K hK => one_yes (ok_move rfl rfl rfl (hsl _ _ rfl) hK) rfl rfl (hsl _ _ rfl) (c110)) stg_nil)) ?_
            refine ds_pure (fun _ => .rptr (TRef.cs (lat r19 k108))) rfl rfl rfl (all2 rfl (fun _ => rfl)) (lt1 rfl) (stg_no rfl (stg_yes [(95, _), (100, _), (101, _)] ⟨.inr ⟨1, _, rfl, rfl, rfl⟩, .inr ⟨6, _, rfl, rfl, rfl⟩, .inr ⟨7, _, rfl, rfl, rfl⟩, trivial⟩ (fun sl hsl K hK => one_yes (op_at (f := eTRef) (l := r19) TRef.cs rfl rfl rfl rfl rfl rfl (hsl _ _ rfl) rfl (hsl _ _ rfl) h112 TRef.cells_eq (fun _ => rfl) hK) rfl rfl (hsl _ _ rfl) (c110)) stg_nil)) ?_
            refine ds_pure (fun _ => .p (.agg (TRef.cs (lat r19 k108)))) rfl rfl rfl (all2 rfl (fun _ => rfl)) (lt1 rfl) (stg_no rfl (stg_yes [(95, _), (102, _)] ⟨.inr ⟨1, _, rfl, rfl, rfl⟩, .inr ⟨8, _, rfl, rfl, rfl⟩, trivial⟩ (fun sl hsl K hK => one_yes (ok_loadRA rfl rfl rfl rfl rfl (hsl _ _ rfl) rfl hK) rfl rfl (hsl _ _ rfl) (c110)) stg_nil)) ?_
            refine ds_pure (fun _ => .p (eB r113)) rfl rfl rfl (all2 rfl (fun _ => rfl)) (lt1 rfl) (stg_no rfl (stg_yes [(95, _), (99, _), (103, _)] ⟨.inr ⟨1, _, rfl, rfl, rfl⟩, .inr ⟨5, _, rfl, rfl, rfl⟩, .inr ⟨9, _, rfl, rfl, rfl⟩, trivial⟩ (fun sl hsl K hK => one_yes (ok_callP (reference_Same_ok (lat r23 i97) (lat r19 k108) _ e114) rfl rfl rfl (args_cons (hsl _ _ rfl) (args_cons (hsl _ _ rfl) args_nil)) ⟨sr, sr, trivial⟩ Try.call17 rfl hK) rfl rfl (hsl _ _ rfl) (c110)) stg_nil)) ?_
            refine ds_pure (fun _ => .p (eB r113)) rfl rfl rfl (all2 rfl (fun _ => rfl)) (lt1 rfl) (stg_no rfl (stg_yes [(95, _), (104, _)] ⟨.inr ⟨1, _, rfl, rfl, rfl⟩, .inr ⟨10, _, rfl, rfl, rfl⟩, trivial⟩ (fun sl hsl K hK => one_op rfl (ok_pick_false rfl rfl rfl (hsl _ _ rfl) (c110) (hsl _ _ rfl) hK)) stg_nil)) ?_
            refine ds_imp (fun _ => .p (eB r113)) [(105, _)] rfl ⟨.inr ⟨11, _, rfl, rfl, rfl⟩, trivial⟩ rfl rfl (fun _ => rfl) (lt1 (fun h => absurd h (by decide))) (fun sl hsl K hK => one_op rfl (ok_assign rfl rfl rfl (hsl _ _ rfl) hK)) ?_
            refine ds_nil ?_
            (repeat (first | refine uw ?_ | refine uo rfl ?_))
            have e3 := oi h3
            subst e3
            exact ghost_le (le_mk ⟨er rfl, er rfl, er rfl, er rfl, er rfl, er rfl, trivial⟩ trivial)
         ·replace h2 := if_f c109 h2
          refine awp_exit ?_
          (repeat (first | refine uw ?_ | refine uo rfl ?_))
          have e2 := oi h2
          subst e2
          exact ghost_le (le_mk ⟨er rfl, er rfl, er rfl, er rfl, er rfl, trivial⟩ trivial)
       ·replace h1 := if_f c98 h1
        refine awp_exit ?_
        (repeat (first | refine uw ?_ | refine uo rfl ?_))
        have e1 := oi h1
        exact ⟨_, e1.symm, ghost_le (le_mk ⟨er rfl, er rfl, er rfl, trivial⟩ trivial)⟩
     ·skip
      refine awp_loopG (fun q152 => ⟨[(6, .p (eL eTRef r19)), (7, .p (eL eTRef r21)), (8, .p (eL eTRef r23)), (9, .p (eI q152))], []⟩) (fun m (q152 : Int) => law17_ReferenceParts_l3 n r19 m q152) (fun _ => rfl) 0 h1 (ghost_le (le_mk ⟨er rfl, er rfl, er rfl, er rfl, trivial⟩ trivial)) ?_
      rintro m i51 h1
      replace h1 : law17_ReferenceParts_l3 n r19 (m + 1) i51 = some o140 := h1
      rw [law17_ReferenceParts_l3] at h1
      refine awp_seq (awp_seq (awp_reg ?_))
      refine ro rfl (ok_move rfl rfl rfl rfl ?_)
      refine ro rfl (ok_move rfl rfl rfl rfl ?_)
      refine ro rfl (op_lenL (f := eTRef) (l := r19) rfl rfl rfl rfl rfl rfl rfl ?_)
      refine ro rfl (ok_cmp rfl rfl rfl rfl rfl rfl ?_)
      refine rn ?_
      refine wp_ifD rfl (fun c52 => ?_) (fun c52 => ?_)
      ·replace h1 := if_t c52 h1
       refine awp_skip (awp_seq (awp_block (awp_seq (awp_reg ?_))))
       refine ro rfl (ok_assign rfl rfl rfl rfl ?_)
       refine rn ?_
       refine awp_block ?_
       obtain ⟨o153, h2, hL1, hR1⟩ := jn_cut h1
       refine awp_joinEx 2 (fun v154 : Unit => o153 = .inl v154) (fun v154 => ⟨[(6, .p (eL eTRef r19)), (7, .p (eL eTRef r21)), (8, .p (eL eTRef r23)), (9, .p (eI i51))], []⟩) ?_ ?_
       ·rintro s' ⟨v154, hv, hle⟩
        have h1 := hL1 _ hv
        (repeat (first | refine uw ?_ | refine uo rfl ?_))
        refine awp_ghost hle ?_
        (repeat (first | refine uw ?_ | refine uo rfl ?_))
        (repeat (first | refine uw ?_ | refine uo rfl ?_))
        refine awp_reg ?_
        refine ro rfl (ok_move rfl rfl rfl rfl ?_)
        obtain ⟨h70, h1⟩ := ck_cut h1
        refine ro rfl (ok_ar rfl rfl rfl rfl rfl rfl h70 ?_)
        refine ro rfl (ok_assign rfl rfl rfl rfl ?_)
        refine rn ?_
        (repeat (first | refine uw ?_ | refine uo rfl ?_))
        exact ⟨(i51 + 1), h1, ghost_le (le_mk ⟨er rfl, er rfl, er rfl, er rfl, trivial⟩ trivial)⟩
       ·skip
        refine awp_loopG (fun q155 => ⟨[(6, .p (eL eTRef r19)), (7, .p (eL eTRef r21)), (8, .p (eL eTRef r23)), (9, .p (eI i51)), (10, .p (eI q155))], []⟩) (fun m (q155 : Int) => law17_ReferenceParts_l2 r19 i51 m q155) (fun _ => rfl) 0 h2 (ghost_le (le_mk ⟨er rfl, er rfl, er rfl, er rfl, er rfl, trivial⟩ trivial)) ?_
        rintro m k61 h2
        replace h2 : law17_ReferenceParts_l2 r19 i51 (m + 1) k61 = some o153 := h2
        rw [law17_ReferenceParts_l2] at h2
        refine awp_seq (awp_seq (awp_reg ?_))
        refine ro rfl (ok_move rfl rfl rfl rfl ?_)
        refine ro rfl (ok_move rfl rfl rfl rfl ?_)
        refine ro rfl (ok_cmp rfl rfl rfl rfl rfl rfl ?_)
        refine rn ?_
        refine wp_ifD rfl (fun c62 => ?_) (fun c62 => ?_)
        ·replace h2 := if_t c62 h2
         refine awp_skip (awp_seq (awp_block (awp_seq ?_)))
         obtain ⟨h63, h2⟩ := ck_cut h2
         obtain ⟨h64, h2⟩ := ck_cut h2
         obtain ⟨r65, e66, h2⟩ := bd_cut h2
         refine awp_drawQ [(6, .p (eL eTRef r19)), (7, .p (eL eTRef r21)), (8, .p (eL eTRef r23)), (9, .p (eI i51)), (10, .p (eI k61))] rfl ⟨rfl, rfl, rfl, rfl, rfl, trivial⟩ rfl ?_
         refine dq_cons (.p (eL eTRef r19)) [(6, _)] ⟨.inl rfl, trivial⟩ (fun sl hsl K hK => one_op rfl (ok_move rfl rfl rfl (hsl _ _ rfl) hK)) rfl rfl rfl ?_
         refine dq_cons (.p (eI i51)) [(9, _)] ⟨.inl rfl, trivial⟩ (fun sl hsl K hK => one_op rfl (ok_move rfl rfl rfl (hsl _ _ rfl) hK)) rfl rfl rfl ?_
         refine dq_cons (.rptr (TRef.cs (lat r19 i51))) [(73, _), (74, _)] ⟨.inr ⟨0, rfl, rfl⟩, .inr ⟨1, rfl, rfl⟩, trivial⟩ (fun sl hsl K hK => one_op rfl (op_at (f := eTRef) (l := r19) TRef.cs rfl rfl rfl rfl rfl rfl (hsl _ _ rfl) rfl (hsl _ _ rfl) h63 TRef.cells_eq (fun _ => rfl) hK)) rfl rfl rfl ?_
         refine dq_cons (.p (.agg (TRef.cs (lat r19 i51)))) [(75, _)] ⟨.inr ⟨2, rfl, rfl⟩, trivial⟩ (fun sl hsl K hK => one_op rfl (ok_loadRA rfl rfl rfl rfl rfl (hsl _ _ rfl) rfl hK)) rfl rfl rfl ?_
         refine dq_cons (.p (eL eTRef r19)) [(6, _)] ⟨.inl rfl, trivial⟩ (fun sl hsl K hK => one_op rfl (ok_move rfl rfl rfl (hsl _ _ rfl) hK)) rfl rfl rfl ?_
         refine dq_cons (.p (eI k61)) [(10, _)] ⟨.inl rfl, trivial⟩ (fun sl hsl K hK => one_op rfl (ok_move rfl rfl rfl (hsl _ _ rfl) hK)) rfl rfl rfl ?_
         refine dq_cons (.rptr (TRef.cs (lat r19 k61))) [(77, _), (78, _)] ⟨.inr ⟨4, rfl, rfl⟩, .inr ⟨5, rfl, rfl⟩, trivial⟩ (fun sl hsl K hK => one_op rfl (op_at (f := eTRef) (l := r19) TRef.cs rfl rfl rfl rfl rfl rfl (hsl _ _ rfl) rfl (hsl _ _ rfl) h64 TRef.cells_eq (fun _ => rfl) hK)) rfl rfl rfl ?_
         refine dq_cons (.p (.agg (TRef.cs (lat r19 k61)))) [(79, _)] ⟨.inr ⟨6, rfl, rfl⟩, trivial⟩ (fun sl hsl K hK => one_op rfl (ok_loadRA rfl rfl rfl rfl rfl (hsl _ _ rfl) rfl hK)) rfl rfl rfl ?_
         refine dq_cons (.p (eB r65)) [(76, _), (80, _)] ⟨.inr ⟨3, rfl, rfl⟩, .inr ⟨7, rfl, rfl⟩, trivial⟩ (fun sl hsl K hK => one_op rfl (ok_callP (reference_Same_ok (lat r19 i51) (lat r19 k61) _ e66) rfl rfl rfl (args_cons (hsl _ _ rfl) (args_cons (hsl _ _ rfl) args_nil)) ⟨sr, sr, trivial⟩ Try.call17 rfl hK)) rfl rfl rfl ?_
         refine dq_nil ?_
         refine wp_if rfl (fun c67 => ?_) (fun c67 => ?_)
         ·replace h2 := if_t c67 h2
          refine awp_seq (awp_reg ?_)
          refine ro rfl (ok_assign rfl rfl rfl rfl ?_)
          refine rn ?_
          refine awp_ret ?_
          (repeat (first | refine uw ?_ | refine uo rfl ?_))
          have e2 := oi h2
          have e1 := hR1 _ e2.symm
          have e0 := hR0 _ e1.symm
          subst e0
          refine reta_mk rfl ?_
          exact sr
         ·replace h2 := if_bf c67 h2
          refine awp_skip ?_
          (repeat (first | refine uw ?_ | refine uo rfl ?_))
          refine awp_reg ?_
          refine ro rfl (ok_move rfl rfl rfl rfl ?_)
          obtain ⟨h68, h2⟩ := ck_cut h2
          refine ro rfl (ok_ar rfl rfl rfl rfl rfl rfl h68 ?_)
          refine ro rfl (ok_assign rfl rfl rfl rfl ?_)
          refine rn ?_
          (repeat (first | refine uw ?_ | refine uo rfl ?_))
          exact ⟨(k61 + 1), h2, ghost_le (le_mk ⟨er rfl, er rfl, er rfl, er rfl, er rfl, trivial⟩ trivial)⟩
        ·replace h2 := if_f c62 h2
         refine awp_exit ?_
         (repeat (first | refine uw ?_ | refine uo rfl ?_))
         have e2 := oi h2
         exact ⟨_, e2.symm, ghost_le (le_mk ⟨er rfl, er rfl, er rfl, er rfl, trivial⟩ trivial)⟩
      ·replace h1 := if_f c52 h1
       refine awp_exit ?_
       (repeat (first | refine uw ?_ | refine uo rfl ?_))
       have e1 := oi h1
       exact ⟨_, e1.symm, ghost_le (le_mk ⟨er rfl, er rfl, er rfl, trivial⟩ trivial)⟩
   ·skip
    refine awp_reg ?_
    refine ro rfl (ok_move rfl rfl rfl rfl ?_)
    refine ro rfl (op_lenL (f := eTRef) (l := r19) rfl rfl rfl rfl rfl rfl rfl ?_)
    refine ro rfl (ok_move rfl rfl rfl rfl ?_)
    refine ro rfl (op_lenL (f := eTRef) (l := r21) rfl rfl rfl rfl rfl rfl rfl ?_)
    refine ro rfl (ok_cmp rfl rfl rfl rfl rfl rfl ?_)
    refine ro rfl (ok_move rfl rfl rfl rfl ?_)
    refine gd_D rfl rfl rfl (fun c25 => ?_) (fun c25 => ?_)
    ·replace h1 := if_t c25 h1
     refine gd_ft rfl rfl rfl (dt c25) rfl rfl ?_
     refine gd_ft rfl rfl rfl (dt c25) rfl rfl ?_
     refine gd_ft rfl rfl rfl (dt c25) rfl rfl ?_
     refine gd_ft rfl rfl rfl (dt c25) rfl rfl ?_
     refine gd_ft rfl rfl rfl (dt c25) rfl rfl ?_
     refine gd_ft rfl rfl rfl (dt c25) rfl rfl ?_
     refine gd_ft rfl rfl rfl (dt c25) rfl rfl ?_
     refine ro rfl (ok_pick_true rfl rfl rfl rfl (dt c25) rfl ?_)
     refine rn ?_
     (repeat (first | refine uw ?_ | refine uo rfl ?_))
     have e1 := oi h1
     subst e1
     exact ghost_le (le_mk ⟨er rfl, er rfl, er rfl, er rfl, trivial⟩ trivial)
    ·replace h1 := if_f c25 h1
     refine gd_ff rfl rfl rfl (df c25) (ok_move rfl rfl rfl rfl ?_)
     refine gd_ff rfl rfl rfl (df c25) (ok_move rfl rfl rfl rfl ?_)
     refine gd_ff rfl rfl rfl (df c25) (op_lenL (f := eTRef) (l := r21) rfl rfl rfl rfl rfl rfl rfl ?_)
     obtain ⟨h26, h1⟩ := ck_cut h1
     refine gd_ff rfl rfl rfl (df c25) (op_sliceL (f := eTRef) (l := r19) rfl rfl rfl rfl rfl rfl rfl rfl rfl rfl h26 (fun x => congrArg List.length (TRef.cells_eq x)) ?_)
     refine gd_ff rfl rfl rfl (df c25) (ok_move rfl rfl rfl rfl ?_)
     obtain ⟨r27, e28, h1⟩ := bd_cut h1
     refine gd_ff rfl rfl rfl (df c25) (ok_callP (law17_same_ok _ (sub r19 0 (r21.length : Int)) r21 _ e28) rfl rfl rfl rfl ⟨sr, sr, trivial⟩ Try.call21 rfl ?_)
     refine gd_ff rfl rfl rfl (df c25) (ok_not rfl rfl rfl rfl ?_)
     refine ro rfl (ok_pick_false rfl rfl rfl rfl (df c25) rfl ?_)
     refine rn ?_
     (repeat (first | refine uw ?_ | refine uo rfl ?_))
     have e1 := oi h1
     subst e1
     exact ghost_le (le_mk ⟨er rfl, er rfl, er rfl, er rfl, trivial⟩ trivial)
 ·skip
  refine awp_reg ?_
  refine ro rfl (ok_loadPA rfl rfl rfl rfl rfl rfl rfl rfl rfl ?_)
  obtain ⟨r1, e2, h1⟩ := bd_cut h1
  refine ro rfl (ok_callP (ref14_Small_ok _ a_0 100 _ e2) rfl rfl rfl rfl ⟨sr, sr, trivial⟩ Try.call23 rfl ?_)
  refine ro rfl (ok_not rfl rfl rfl rfl ?_)
  refine ro rfl (ok_move rfl rfl rfl rfl ?_)
  refine gd_B rfl rfl rfl (fun c3 => ?_) (fun c3 => ?_)
  ·replace h1 := if_t c3 h1
   refine gd_ft rfl rfl rfl (c3) rfl rfl ?_
   refine gd_ft rfl rfl rfl (c3) rfl rfl ?_
   refine gd_ft rfl rfl rfl (c3) rfl rfl ?_
   refine ro rfl (ok_pick_true rfl rfl rfl rfl (c3) rfl ?_)
   refine ro rfl (ok_move rfl rfl rfl rfl ?_)
   refine gd_ft rfl rfl rfl (rfl) rfl rfl ?_
   refine gd_ft rfl rfl rfl (rfl) rfl rfl ?_
   refine gd_ft rfl rfl rfl (rfl) rfl rfl ?_
   refine ro rfl (ok_pick_true rfl rfl rfl rfl (rfl) rfl ?_)
   refine ro rfl (ok_move rfl rfl rfl rfl ?_)
   refine gd_ft rfl rfl rfl (rfl) rfl rfl ?_
   refine gd_ft rfl rfl rfl (rfl) rfl rfl ?_
   refine gd_ft rfl rfl rfl (rfl) rfl rfl ?_
   refine ro rfl (ok_pick_true rfl rfl rfl rfl (rfl) rfl ?_)
   refine ro rfl (ok_move rfl rfl rfl rfl ?_)
   refine gd_ft rfl rfl rfl (rfl) rfl rfl ?_
   refine gd_ft rfl rfl rfl (rfl) rfl rfl ?_
   refine gd_ft rfl rfl rfl (rfl) rfl rfl ?_
   refine ro rfl (ok_pick_true rfl rfl rfl rfl (rfl) rfl ?_)
   refine rn ?_
   (repeat (first | refine uw ?_ | refine uo rfl ?_))
   have e1 := oi h1
   subst e1
   exact ghost_le (le_mk ⟨er rfl, er rfl, er rfl, er rfl, trivial⟩ ⟨⟨_, rfl, ⟨sr, sr, sr, sr, sr, sr, sr, sr, sr, sr, sr, trivial⟩⟩, ⟨_, rfl, ⟨sr, sr, sr, sr, sr, sr, sr, sr, sr, sr, sr, trivial⟩⟩, ⟨_, rfl, ⟨sr, sr, sr, sr, sr, sr, sr, sr, sr, sr, sr, trivial⟩⟩, trivial⟩)
  ·replace h1 := if_bf c3 h1
   refine gd_ff rfl rfl rfl (c3) (ok_loadPA rfl rfl rfl rfl rfl rfl rfl rfl rfl ?_)
   obtain ⟨r4, e5, h1⟩ := bd_cut h1
   refine gd_ff rfl rfl rfl (c3) (ok_callP (ref14_Small_ok _ b_1 100 _ e5) rfl rfl rfl rfl ⟨sr, sr, trivial⟩ Try.call23 rfl ?_)
   refine gd_ff rfl rfl rfl (c3) (ok_not rfl rfl rfl rfl ?_)
   refine ro rfl (ok_pick_false rfl rfl rfl rfl (c3) rfl ?_)
   refine ro rfl (ok_move rfl rfl rfl rfl ?_)
   refine gd_B rfl rfl rfl (fun c6 => ?_) (fun c6 => ?_)
   ·replace h1 := if_t c6 h1
    refine gd_ft rfl rfl rfl (c6) rfl rfl ?_
    refine gd_ft rfl rfl rfl (c6) rfl rfl ?_
    refine gd_ft rfl rfl rfl (c6) rfl rfl ?_
    refine ro rfl (ok_pick_true rfl rfl rfl rfl (c6) rfl ?_)
    refine ro rfl (ok_move rfl rfl rfl rfl ?_)
    refine gd_ft rfl rfl rfl (rfl) rfl rfl ?_
    refine gd_ft rfl rfl rfl (rfl) rfl rfl ?_
    refine gd_ft rfl rfl rfl (rfl) rfl rfl ?_
    refine ro rfl (ok_pick_true rfl rfl rfl rfl (rfl) rfl ?_)
    refine ro rfl (ok_move rfl rfl rfl rfl ?_)
    refine gd_ft rfl rfl rfl (rfl) rfl rfl ?_
    refine gd_ft rfl rfl rfl (rfl) rfl rfl ?_
    refine gd_ft rfl rfl rfl (rfl) rfl rfl ?_
    refine ro rfl (ok_pick_true rfl rfl rfl rfl (rfl) rfl ?_)
    refine rn ?_
    (repeat (first | refine uw ?_ | refine uo rfl ?_))
    have e1 := oi h1
    subst e1
    exact ghost_le (le_mk ⟨er rfl, er rfl, er rfl, er rfl, trivial⟩ ⟨⟨_, rfl, ⟨sr, sr, sr, sr, sr, sr, sr, sr, sr, sr, sr, trivial⟩⟩, ⟨_, rfl, ⟨sr, sr, sr, sr, sr, sr, sr, sr, sr, sr, sr, trivial⟩⟩, ⟨_, rfl, ⟨sr, sr, sr, sr, sr, sr, sr, sr, sr, sr, sr, trivial⟩⟩, trivial⟩)
   ·replace h1 := if_bf c6 h1
    refine gd_ff rfl rfl rfl (c6) (ok_loadPA rfl rfl rfl rfl rfl rfl rfl rfl rfl ?_)
    obtain ⟨r7, e8, h1⟩ := bd_cut h1
    refine gd_ff rfl rfl rfl (c6) (ok_callP (ref14_Check_ok _ a_0 _ e8) rfl rfl rfl rfl ⟨sr, trivial⟩ Try.call24 rfl ?_)
    refine gd_ff rfl rfl rfl (c6) (ok_cmp rfl rfl rfl rfl rfl rfl ?_)
    refine ro rfl (ok_pick_false rfl rfl rfl rfl (c6) rfl ?_)
    refine ro rfl (ok_move rfl rfl rfl rfl ?_)
    refine gd_N rfl rfl rfl (fun c9 => ?_) (fun c9 => ?_)
    ·replace h1 := if_t c9 h1
     refine gd_ff rfl rfl rfl (nd_false c9) (ok_loadPA rfl rfl rfl rfl rfl rfl rfl rfl rfl ?_)
     obtain ⟨r10, e11, h1⟩ := bd_cut h1
     refine gd_ff rfl rfl rfl (nd_false c9) (ok_callP (ref14_Check_ok _ b_1 _ e11) rfl rfl rfl rfl ⟨sr, trivial⟩ Try.call24 rfl ?_)
     refine gd_ff rfl rfl rfl (nd_false c9) (ok_cmp rfl rfl rfl rfl rfl rfl ?_)
     refine ro rfl (ok_pick_false rfl rfl rfl rfl (nd_false c9) rfl ?_)
     refine ro rfl (ok_move rfl rfl rfl rfl ?_)
     refine gd_N rfl rfl rfl (fun c12 => ?_) (fun c12 => ?_)
     ·replace h1 := if_t c12 h1
      refine gd_ff rfl rfl rfl (nd_false c12) (ok_loadPA rfl rfl rfl rfl rfl rfl rfl rfl rfl ?_)
      obtain ⟨r13, e14, h1⟩ := bd_cut h1
      refine gd_ff rfl rfl rfl (nd_false c12) (ok_callP (ref14_Check_ok _ (TExpr.mk 10 0 ([] : Bytes) ([] : Bytes) (TValue.mk 0 0 ([] : Bytes) [] []) [a_0, b_1] 0) _ e14) rfl rfl rfl rfl ⟨sub_cells ⟨.inl rfl, .inl rfl, .inl rfl, .inl rfl, .inl rfl, .inl rfl, .inl rfl, .inr ⟨rfl, rfl⟩, .inr ⟨rfl, rfl⟩, .inl rfl, .inl rfl, trivial⟩, trivial⟩ Try.call24 rfl ?_)
      refine gd_ff rfl rfl rfl (nd_false c12) (ok_cmp rfl rfl rfl rfl rfl rfl ?_)
      refine ro rfl (ok_pick_false rfl rfl rfl rfl (nd_false c12) rfl ?_)
      refine rn ?_
      (repeat (first | refine uw ?_ | refine uo rfl ?_))
      have e1 := oi h1
      subst e1
      exact ghost_le (le_mk ⟨er rfl, er rfl, er rfl, er rfl, trivial⟩ ⟨⟨_, rfl, ⟨sr, sr, sr, sr, sr, sr, sr, sr, sr, sr, sr, trivial⟩⟩, ⟨_, rfl, ⟨sr, sr, sr, sr, sr, sr, sr, sr, sr, sr, sr, trivial⟩⟩, ⟨_, rfl, ⟨sr, sr, sr, sr, sr, sr, sr, sr, sr, sr, sr, trivial⟩⟩, trivial⟩)
     ·replace h1 := if_f c12 h1
      refine gd_ft rfl rfl rfl (nd_true c12) rfl rfl ?_
      refine gd_ft rfl rfl rfl (nd_true c12) rfl rfl ?_
      refine gd_ft rfl rfl rfl (nd_true c12) rfl rfl ?_
      refine ro rfl (ok_pick_true rfl rfl rfl rfl (nd_true c12) rfl ?_)
      refine rn ?_
      (repeat (first | refine uw ?_ | refine uo rfl ?_))
      have e1 := oi h1
      subst e1
      exact ghost_le (le_mk ⟨er rfl, er rfl, er rfl, er rfl, trivial⟩ ⟨⟨_, rfl, ⟨sr, sr, sr, sr, sr, sr, sr, sr, sr, sr, sr, trivial⟩⟩, ⟨_, rfl, ⟨sr, sr, sr, sr, sr, sr, sr, sr, sr, sr, sr, trivial⟩⟩, ⟨_, rfl, ⟨sr, sr, sr, sr, sr, sr, sr, sr, sr, sr, sr, trivial⟩⟩, trivial⟩)
    ·replace h1 := if_f c9 h1
     refine gd_ft rfl rfl rfl (nd_true c9) rfl rfl ?_
     refine gd_ft rfl rfl rfl (nd_true c9) rfl rfl ?_
     refine gd_ft rfl rfl rfl (nd_true c9) rfl rfl ?_
     refine ro rfl (ok_pick_true rfl rfl rfl rfl (nd_true c9) rfl ?_)
     refine ro rfl (ok_move rfl rfl rfl rfl ?_)
     refine gd_ft rfl rfl rfl (rfl) rfl rfl ?_
     refine gd_ft rfl rfl rfl (rfl) rfl rfl ?_
     refine gd_ft rfl rfl rfl (rfl) rfl rfl ?_
     refine ro rfl (ok_pick_true rfl rfl rfl rfl (rfl) rfl ?_)
     refine rn ?_
     (repeat (first | refine uw ?_ | refine uo rfl ?_))
     have e1 := oi h1
     subst e1
     exact ghost_le (le_mk ⟨er rfl, er rfl, er rfl, er rfl, trivial⟩ ⟨⟨_, rfl, ⟨sr, sr, sr, sr, sr, sr, sr, sr, sr, sr, sr, trivial⟩⟩, ⟨_, rfl, ⟨sr, sr, sr, sr, sr, sr, sr, sr, sr, sr, sr, trivial⟩⟩, ⟨_, rfl, ⟨sr, sr, sr, sr, sr, sr, sr, sr, sr, sr, sr, trivial⟩⟩, trivial⟩)

end Go.Ab.R17
