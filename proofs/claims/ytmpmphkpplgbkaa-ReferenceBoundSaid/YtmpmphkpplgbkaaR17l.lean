/- Chapter 17. -/
import Derived.Test.YtmpmphkpplgbkaaR17la
set_option linter.unusedVariables false
set_option linter.unusedSimpArgs false
set_option linter.unnecessarySimpa false
namespace Go.Ab.R17
open Go.Proofs Go.Ab
attribute [local irreducible] awp rwpL OpOk PCalls OCalls AV.sub

def ref17_Chain_ref (c_0 : TChain) : Option (TRef × Int) :=
 (ref17_Chain_step c_0 0).bind fun r1 =>
 if (!r1) = true then
  some ((TRef.mk 9 ([] : Bytes) c_0.fRoot.fName c_0.fRoot.fAt), 0)
 else
  (ref17_kind c_0.fRoot.fName).bind fun r4 =>
  ck ((0 : Int) ≤ 0 ∧ 0 < (c_0.fNames.length : Int)) <|
  jn (
    if r4 = 9 then
     (ref17_Chain_step c_0 1).bind fun r8 =>
     if (!r8) = true then
      some (.inr ((TRef.mk 9 ([] : Bytes) c_0.fRoot.fName c_0.fRoot.fAt), 0))
     else
      ck ((0 : Int) ≤ 0 ∧ 0 < (c_0.fNames.length : Int)) <|
      ck ((0 : Int) ≤ 1 ∧ 1 < (c_0.fNames.length : Int)) <|
      some (.inr ((TRef.mk 4 (lat c_0.fNames 0) (lat c_0.fNames 1) c_0.fRoot.fAt), 2))
    else
     if r4 = 3 then
      some (.inl c_0.fRoot.fName)
     else
      if r4 = 5 then
       (ref17_Chain_step c_0 1).bind fun r15 =>
       if r15 = true then
        ck ((0 : Int) ≤ 1 ∧ 1 < (c_0.fNames.length : Int)) <|
        some (.inr ((TRef.mk r4 (lat c_0.fNames 1) (lat c_0.fNames 0) c_0.fRoot.fAt), 2))
       else
        (
          if 2 < (c_0.fStep.length : Int) then
           (ref17_Chain_step c_0 2).bind fun r20 =>
           some r20
          else
           some false
         : Option Bool).bind fun t22 =>
        if t22 = true then
         ck ((0 : Int) ≤ 2 ∧ 2 < (c_0.fNames.length : Int)) <|
         some (.inr ((TRef.mk r4 (lat c_0.fNames 2) (lat c_0.fNames 0) c_0.fRoot.fAt), 3))
        else
         some (.inl ([] : Bytes))
      else
       some (.inl ([] : Bytes))
   : Option (Bytes ⊕ (TRef × Int))) fun f25 =>
  some ((TRef.mk r4 f25 (lat c_0.fNames 0) c_0.fRoot.fAt), 1)

set_option maxHeartbeats 4000000 in
theorem ref17_Chain_ref_ok (c_0 : TChain) (r : TRef × Int) (h0 : ref17_Chain_ref c_0 = some r) : PCalls Try.prog 36 [.agg (TChain.cs c_0)] (· = .tuple [.p (.agg (TRef.cs r.1)), .p (eI r.2)]) := by
 unfold ref17_Chain_ref at h0
 refine pbodyA good Try.func36 rfl rfl rfl fun w0 => ?_
 refine awp_seq (awp_reg ?_)
 refine ro rfl (ok_box rfl rfl rfl rfl rfl ?_)
 refine ro rfl (ok_alloc rfl rfl rfl rfl rfl ?_)
 refine ro rfl (ok_assign rfl rfl rfl rfl ?_)
 refine rn ?_
 refine awp_seq (awp_reg ?_)
 refine ro rfl (ok_fieldAddrP rfl rfl rfl rfl rfl rfl rfl rfl rfl ?_)
 refine ro rfl (ok_fieldAddrP rfl rfl rfl rfl rfl rfl rfl rfl rfl ?_)
 refine ro rfl (ok_loadP1 rfl rfl rfl rfl rfl rfl rfl rfl ?_)
 refine ro rfl (ok_assign rfl rfl rfl rfl ?_)
 refine rn ?_
 refine awp_seq (awp_reg ?_)
 refine ro rfl (ok_move rfl rfl rfl rfl ?_)
 refine ro rfl (ok_fieldAddrP rfl rfl rfl rfl rfl rfl rfl rfl rfl ?_)
 refine ro rfl (ok_fieldAddrP rfl rfl rfl rfl rfl rfl rfl rfl rfl ?_)
 refine ro rfl (ok_loadP1 rfl rfl rfl rfl rfl rfl rfl rfl ?_)
 refine ro rfl (ok_build rfl rfl rfl rfl rfl rfl rfl rfl rfl ?_)
 refine ro rfl (ok_alloc rfl rfl rfl rfl rfl ?_)
 refine ro rfl (ok_store rfl rfl rfl rfl rfl rfl rfl rfl (Nat.le_of_ble_eq_true rfl) ?_)
 refine rn ?_
 refine awp_seq (awp_seq (awp_reg ?_))
 refine ro rfl (ok_loadPA rfl rfl rfl rfl rfl rfl rfl rfl rfl ?_)
 obtain ⟨r1, e2, h0⟩ := bd_cut h0
 refine ro rfl (ok_callP (ref17_Chain_step_ok c_0 0 _ e2) rfl rfl rfl rfl ⟨sr, sr, trivial⟩ Try.call50 rfl ?_)
 refine ro rfl (ok_not rfl rfl rfl rfl ?_)
 refine rn ?_
 refine wp_if rfl (fun c3 => ?_) (fun c3 => ?_)
 ·replace h0 := if_t c3 h0
  refine awp_seq (awp_reg ?_)
  refine ro rfl (ok_loadPA rfl rfl rfl rfl rfl rfl rfl rfl rfl ?_)
  refine ro rfl (ok_store rfl rfl rfl rfl rfl rfl rfl rfl (Nat.le_of_ble_eq_true rfl) ?_)
  refine ro rfl (ok_assign rfl rfl rfl rfl ?_)
  refine rn ?_
  refine awp_ret ?_
  (repeat (first | refine uw ?_ | refine uo rfl ?_))
  have e0 := oi h0
  subst e0
  refine reta_mk rfl ?_
  exact sub_tuple ⟨sr, sr, trivial⟩
 ·replace h0 := if_bf c3 h0
  refine awp_skip (awp_seq (awp_reg ?_))
  refine ro rfl (ok_move rfl rfl rfl rfl ?_)
  obtain ⟨r4, e5, h0⟩ := bd_cut h0
  refine ro rfl (ok_callP (ref17_kind_ok c_0.fRoot.fName _ e5) rfl rfl rfl rfl ⟨sr, trivial⟩ Try.call51 rfl ?_)
  refine ro rfl (ok_fieldAddrP rfl rfl rfl rfl rfl rfl rfl rfl rfl ?_)
  refine ro rfl (ok_store rfl rfl rfl rfl rfl rfl rfl rfl (Nat.le_of_ble_eq_true rfl) ?_)
  refine rn ?_
  refine awp_seq (awp_reg ?_)
  refine ro rfl (ok_fieldAddrP rfl rfl rfl rfl rfl rfl rfl rfl rfl ?_)
  refine ro rfl (ok_loadP1 rfl rfl rfl rfl rfl rfl rfl rfl ?_)
  obtain ⟨h6, h0⟩ := ck_cut h0
  refine ro rfl (op_at (f := eS) (l := c_0.fNames) (fun x => [eS x]) rfl rfl rfl rfl rfl rfl rfl rfl rfl h6 (fun _ => rfl) (fun _ => rfl) ?_)
  refine ro rfl (ok_loadR1 rfl rfl rfl rfl rfl rfl rfl ?_)
  refine ro rfl (ok_fieldAddrP rfl rfl rfl rfl rfl rfl rfl rfl rfl ?_)
  refine ro rfl (ok_store rfl rfl rfl rfl rfl rfl rfl rfl (Nat.le_of_ble_eq_true rfl) ?_)
  refine rn ?_
  refine awp_seq (awp_seq (awp_reg ?_))
  refine ro rfl (ok_fieldAddrP rfl rfl rfl rfl rfl rfl rfl rfl rfl ?_)
  refine ro rfl (ok_loadP1 rfl rfl rfl rfl rfl rfl rfl rfl ?_)
  refine rn ?_
  obtain ⟨o28, h1, hL0, hR0⟩ := jn_cut h0
  refine awp_joinNx (fun v29 : Bytes => o28 = .inl v29) (fun v29 => ⟨[(2, .ptr 2 0), (5, .ptr 5 0)], [(2, [.p (eI 0), .p (eS ([] : Bytes)), .p (eS ([] : Bytes)), .p (eI 0)]), (5, [.p (eI r4), .p (eS v29), .p (eS (lat c_0.fNames 0)), .p (eI c_0.fRoot.fAt)])]⟩) ?_ ?_
  ·rintro s' ⟨v29, hv, hle⟩
   have h0 := hL0 _ hv
   (repeat (first | refine uw ?_ | refine uo rfl ?_))
   refine awp_ghost hle ?_
   refine awp_seq (awp_reg ?_)
   refine ro rfl (ok_loadPA rfl rfl rfl rfl rfl rfl rfl rfl rfl ?_)
   refine ro rfl (ok_store rfl rfl rfl rfl rfl rfl rfl rfl (Nat.le_of_ble_eq_true rfl) ?_)
   refine ro rfl (ok_assign rfl rfl rfl rfl ?_)
   refine rn ?_
   refine awp_ret ?_
   (repeat (first | refine uw ?_ | refine uo rfl ?_))
   have e0 := oi h0
   subst e0
   refine reta_mk rfl ?_
   exact sub_tuple ⟨sr, sr, trivial⟩
  ·refine awp_block ?_
   refine awp_seq (awp_reg ?_)
   refine ro rfl (ok_cmp rfl rfl rfl rfl rfl rfl ?_)
   refine ro rfl (ok_assign rfl rfl rfl rfl ?_)
   refine rn ?_
   refine wp_ifD rfl (fun c7 => ?_) (fun c7 => ?_)
   ·replace h1 := if_t c7 h1
    refine awp_seq (awp_seq (awp_reg ?_))
    refine ro rfl (ok_loadPA rfl rfl rfl rfl rfl rfl rfl rfl rfl ?_)
    obtain ⟨r8, e9, h1⟩ := bd_cut h1
    refine ro rfl (ok_callP (ref17_Chain_step_ok c_0 1 _ e9) rfl rfl rfl rfl ⟨sr, sr, trivial⟩ Try.call50 rfl ?_)
    refine ro rfl (ok_not rfl rfl rfl rfl ?_)
    refine rn ?_
    refine awp_ghost (ghost_le (t := ⟨[(1, .ptr 1 0), (2, .ptr 2 0), (4, .p (eS c_0.fRoot.fName)), (32, .p (eB (!r8)))], [(1, [.p (eI c_0.fRoot.fKind), .p (eI c_0.fRoot.fOp), .p (eS c_0.fRoot.fName), .p (eS c_0.fRoot.fKey), .p (eI c_0.fRoot.fValue.fKind), .p (eI c_0.fRoot.fValue.fNum), .p (eS c_0.fRoot.fValue.fStr), .p (eL eTValue c_0.fRoot.fValue.fItems), .p (eL eS c_0.fRoot.fValue.fKeys), .p (eL eTExpr c_0.fRoot.fKids), .p (eI c_0.fRoot.fAt), .p (eL eS c_0.fNames), .p (eL eB c_0.fStep), .p (eL eTExpr c_0.fKids)]), (2, [.p (eI 0), .p (eS ([] : Bytes)), .p (eS ([] : Bytes)), .p (eI 0)])]⟩) (le_mk ⟨er rfl, er rfl, er rfl, er rfl, trivial⟩ ⟨⟨_, rfl, ⟨sr, sr, sr, sr, sr, sr, sr, sr, sr, sr, sr, sr, sr, sr, trivial⟩⟩, ⟨_, rfl, ⟨sr, sr, sr, sr, trivial⟩⟩, trivial⟩)) ?_
    refine wp_if rfl (fun c10 => ?_) (fun c10 => ?_)
    ·replace h1 := if_t c10 h1
     refine awp_seq (awp_reg ?_)
     refine ro rfl (ok_move rfl rfl rfl rfl ?_)
     refine ro rfl (ok_fieldAddrP rfl rfl rfl rfl rfl rfl rfl rfl rfl ?_)
     refine ro rfl (ok_fieldAddrP rfl rfl rfl rfl rfl rfl rfl rfl rfl ?_)
     refine ro rfl (ok_loadP1 rfl rfl rfl rfl rfl rfl rfl rfl ?_)
     refine ro rfl (ok_build rfl rfl rfl rfl rfl rfl rfl rfl rfl ?_)
     refine ro rfl (ok_store rfl rfl rfl rfl rfl rfl rfl rfl (Nat.le_of_ble_eq_true rfl) ?_)
     refine ro rfl (ok_assign rfl rfl rfl rfl ?_)
     refine rn ?_
     refine awp_ret ?_
     (repeat (first | refine uw ?_ | refine uo rfl ?_))
     have e1 := oi h1
     have e0 := hR0 _ e1.symm
     subst e0
     refine reta_mk rfl ?_
     exact sub_tuple ⟨sr, sr, trivial⟩
    ·replace h1 := if_bf c10 h1
     refine awp_skip (awp_seq ?_)
     obtain ⟨h11, h1⟩ := ck_cut h1
     obtain ⟨h12, h1⟩ := ck_cut h1
     refine awp_ghost (ghost_le (t := ⟨[(1, .ptr 1 0), (2, .ptr 2 0)], [(1, [.p (eI c_0.fRoot.fKind), .p (eI c_0.fRoot.fOp), .p (eS c_0.fRoot.fName), .p (eS c_0.fRoot.fKey), .p (eI c_0.fRoot.fValue.fKind), .p (eI c_0.fRoot.fValue.fNum), .p (eS c_0.fRoot.fValue.fStr), .p (eL eTValue c_0.fRoot.fValue.fItems), .p (eL eS c_0.fRoot.fValue.fKeys), .p (eL eTExpr c_0.fRoot.fKids), .p (eI c_0.fRoot.fAt), .p (eL eS c_0.fNames), .p (eL eB c_0.fStep), .p (eL eTExpr c_0.fKids)]), (2, [.p (eI 0), .p (eS ([] : Bytes)), .p (eS ([] : Bytes)), .p (eI 0)])]⟩) (le_mk ⟨er rfl, er rfl, trivial⟩ ⟨⟨_, rfl, ⟨sr, sr, sr, sr, sr, sr, sr, sr, sr, sr, sr, sr, sr, sr, trivial⟩⟩, ⟨_, rfl, ⟨sr, sr, sr, sr, trivial⟩⟩, trivial⟩)) ?_
     refine awp_drawS ⟨1, [12], (fun _ => none), (fun _ => [(1, .ptr 1 0), (2, .ptr 2 0)]), (by2 ([(1, [.p (eI c_0.fRoot.fKind), .p (eI c_0.fRoot.fOp), .p (eS c_0.fRoot.fName), .p (eS c_0.fRoot.fKey), .p (eI c_0.fRoot.fValue.fKind), .p (eI c_0.fRoot.fValue.fNum), .p (eS c_0.fRoot.fValue.fStr), .p (eL eTValue c_0.fRoot.fValue.fItems), .p (eL eS c_0.fRoot.fValue.fKeys), .p (eL eTExpr c_0.fRoot.fKids), .p (eI c_0.fRoot.fAt), .p (eL eS c_0.fNames), .p (eL eB c_0.fStep), .p (eL eTExpr c_0.fKids)]), (2, [.p (eI 0), .p (eS ([] : Bytes)), .p (eS ([] : Bytes)), .p (eI 0)])]) ([(2, [.p (eI 4), .p (eS (lat c_0.fNames 0)), .p (eS (lat c_0.fNames 1)), .p (eI c_0.fRoot.fAt)]), (1, [.p (eI c_0.fRoot.fKind), .p (eI c_0.fRoot.fOp), .p (eS c_0.fRoot.fName), .p (eS c_0.fRoot.fKey), .p (eI c_0.fRoot.fValue.fKind), .p (eI c_0.fRoot.fValue.fNum), .p (eS c_0.fRoot.fValue.fStr), .p (eL eTValue c_0.fRoot.fValue.fItems), .p (eL eS c_0.fRoot.fValue.fKeys), .p (eL eTExpr c_0.fRoot.fKids), .p (eI c_0.fRoot.fAt), .p (eL eS c_0.fNames), .p (eL eB c_0.fStep), .p (eL eTExpr c_0.fKids)]), (2, [.p (eI 0), .p (eS ([] : Bytes)), .p (eS ([] : Bytes)), .p (eI 0)])]))⟩ rfl rfl rfl ⟨rfl, rfl, trivial⟩ (lt1 ⟨rfl, rfl, trivial⟩) rfl rfl rfl rfl ?_
     refine ds_pure (fun _ => .ptr 1 11) rfl rfl rfl (all2 rfl (fun _ => rfl)) (lt1 rfl) (stg_no rfl (stg_yes [(1, _)] ⟨.inl rfl, trivial⟩ (fun sl hsl K hK => one_op rfl (ok_fieldAddrP rfl rfl rfl rfl rfl rfl rfl rfl (hsl _ _ rfl) hK)) stg_nil)) ?_
     refine ds_pure (fun _ => .p (eL eS c_0.fNames)) rfl rfl rfl (all2 rfl (fun _ => rfl)) (lt1 rfl) (stg_no rfl (stg_yes [(38, _)] ⟨.inr ⟨0, _, rfl, rfl, rfl⟩, trivial⟩ (fun sl hsl K hK => one_op rfl (ok_loadP1 rfl rfl rfl rfl rfl (hsl _ _ rfl) rfl rfl hK)) stg_nil)) ?_
     refine ds_pure (fun _ => .rptr [eS (lat c_0.fNames 0)]) rfl rfl rfl (all2 rfl (fun _ => rfl)) (lt1 rfl) (stg_no rfl (stg_yes [(39, _)] ⟨.inr ⟨1, _, rfl, rfl, rfl⟩, trivial⟩ (fun sl hsl K hK => one_op rfl (op_at (f := eS) (l := c_0.fNames) (fun x => [eS x]) rfl rfl rfl rfl rfl rfl (hsl _ _ rfl) rfl rfl h11 (fun _ => rfl) (fun _ => rfl) hK)) stg_nil)) ?_
     refine ds_pure (fun _ => .p (eS (lat c_0.fNames 0))) rfl rfl rfl (all2 rfl (fun _ => rfl)) (lt1 rfl) (stg_no rfl (stg_yes [(40, _)] ⟨.inr ⟨2, _, rfl, rfl, rfl⟩, trivial⟩ (fun sl hsl K hK => one_op rfl (ok_loadR1 rfl rfl rfl rfl rfl (hsl _ _ rfl) rfl hK)) stg_nil)) ?_
     refine ds_pure (fun _ => .ptr 1 11) rfl rfl rfl (all2 rfl (fun _ => rfl)) (lt1 rfl) (stg_no rfl (stg_yes [(1, _)] ⟨.inl rfl, trivial⟩ (fun sl hsl K hK => one_op rfl (ok_fieldAddrP rfl rfl rfl rfl rfl rfl rfl rfl (hsl _ _ rfl) hK)) stg_nil)) ?_
     refine ds_pure (fun _ => .p (eL eS c_0.fNames)) rfl rfl rfl (all2 rfl (fun _ => rfl)) (lt1 rfl) (stg_no rfl (stg_yes [(42, _)] ⟨.inr ⟨4, _, rfl, rfl, rfl⟩, trivial⟩ (fun sl hsl K hK => one_op rfl (ok_loadP1 rfl rfl rfl rfl rfl (hsl _ _ rfl) rfl rfl hK)) stg_nil)) ?_
     refine ds_pure (fun _ => .rptr [eS (lat c_0.fNames 1)]) rfl rfl rfl (all2 rfl (fun _ => rfl)) (lt1 rfl) (stg_no rfl (stg_yes [(43, _)] ⟨.inr ⟨5, _, rfl, rfl, rfl⟩, trivial⟩ (fun sl hsl K hK => one_op rfl (op_at (f := eS) (l := c_0.fNames) (fun x => [eS x]) rfl rfl rfl rfl rfl rfl (hsl _ _ rfl) rfl rfl h12 (fun _ => rfl) (fun _ => rfl) hK)) stg_nil)) ?_
     refine ds_pure (fun _ => .p (eS (lat c_0.fNames 1))) rfl rfl rfl (all2 rfl (fun _ => rfl)) (lt1 rfl) (stg_no rfl (stg_yes [(44, _)] ⟨.inr ⟨6, _, rfl, rfl, rfl⟩, trivial⟩ (fun sl hsl K hK => one_op rfl (ok_loadR1 rfl rfl rfl rfl rfl (hsl _ _ rfl) rfl hK)) stg_nil)) ?_
     refine ds_pure (fun _ => .ptr 1 0) rfl rfl rfl (all2 rfl (fun _ => rfl)) (lt1 rfl) (stg_no rfl (stg_yes [(1, _)] ⟨.inl rfl, trivial⟩ (fun sl hsl K hK => one_op rfl (ok_fieldAddrP rfl rfl rfl rfl rfl rfl rfl rfl (hsl _ _ rfl) hK)) stg_nil)) ?_
     refine ds_pure (fun _ => .ptr 1 10) rfl rfl rfl (all2 rfl (fun _ => rfl)) (lt1 rfl) (stg_no rfl (stg_yes [(46, _)] ⟨.inr ⟨8, _, rfl, rfl, rfl⟩, trivial⟩ (fun sl hsl K hK => one_op rfl (ok_fieldAddrP rfl rfl rfl rfl rfl rfl rfl rfl (hsl _ _ rfl) hK)) stg_nil)) ?_
     refine ds_pure (fun _ => .p (eI c_0.fRoot.fAt)) rfl rfl rfl (all2 rfl (fun _ => rfl)) (lt1 rfl) (stg_no rfl (stg_yes [(47, _)] ⟨.inr ⟨9, _, rfl, rfl, rfl⟩, trivial⟩ (fun sl hsl K hK => one_op rfl (ok_loadP1 rfl rfl rfl rfl rfl (hsl _ _ rfl) rfl rfl hK)) stg_nil)) ?_
     refine ds_pure (fun _ => .p (.agg [eI 4, eS (lat c_0.fNames 0), eS (lat c_0.fNames 1), eI c_0.fRoot.fAt])) rfl rfl rfl (all2 rfl (fun _ => rfl)) (lt1 rfl) (stg_no rfl (stg_yes [(41, _), (45, _), (48, _)] ⟨.inr ⟨3, _, rfl, rfl, rfl⟩, .inr ⟨7, _, rfl, rfl, rfl⟩, .inr ⟨10, _, rfl, rfl, rfl⟩, trivial⟩ (fun sl hsl K hK => one_op rfl (ok_build rfl rfl rfl rfl rfl rfl (parts_cons rfl (parts_cons (hsl _ _ rfl) (parts_cons (hsl _ _ rfl) (parts_cons (hsl _ _ rfl) parts_nil)))) rfl rfl hK)) stg_nil)) ?_
     refine ds_store [(2, _), (49, _)] rfl ⟨.inl rfl, .inr ⟨11, _, rfl, rfl, rfl⟩, trivial⟩ rfl (fun sl hsl K hK => one_op rfl (ok_store rfl rfl rfl (hsl _ _ rfl) (hsl _ _ rfl) rfl rfl rfl (Nat.le_of_ble_eq_true rfl) hK)) ?_
     refine ds_pure (fun _ => .p (eI 2)) rfl rfl rfl (all2 rfl (fun _ => rfl)) (lt1 rfl) (stg_yes [] trivial (fun sl hsl K hK => one_op rfl (ok_assign rfl rfl rfl rfl hK)) (stg_no rfl stg_nil)) ?_
     refine ds_nil ?_
     refine awp_ret ?_
     (repeat (first | refine uw ?_ | refine uo rfl ?_))
     have e1 := oi h1
     have e0 := hR0 _ e1.symm
     subst e0
     refine reta_mk rfl ?_
     exact sub_tuple ⟨sr, sr, trivial⟩
   ·replace h1 := if_f c7 h1
    refine awp_seq (awp_reg ?_)
    refine ro rfl (ok_cmp rfl rfl rfl rfl rfl rfl ?_)
    refine ro rfl (ok_assign rfl rfl rfl rfl ?_)
    refine rn ?_
    refine awp_ghost (ghost_le (t := ⟨[(1, .ptr 1 0), (2, .ptr 2 0), (4, .p (eS c_0.fRoot.fName)), (5, .ptr 5 0), (27, .p (eI r4)), (50, .p (eB (decide (r4 = 3))))], [(1, [.p (eI c_0.fRoot.fKind), .p (eI c_0.fRoot.fOp), .p (eS c_0.fRoot.fName), .p (eS c_0.fRoot.fKey), .p (eI c_0.fRoot.fValue.fKind), .p (eI c_0.fRoot.fValue.fNum), .p (eS c_0.fRoot.fValue.fStr), .p (eL eTValue c_0.fRoot.fValue.fItems), .p (eL eS c_0.fRoot.fValue.fKeys), .p (eL eTExpr c_0.fRoot.fKids), .p (eI c_0.fRoot.fAt), .p (eL eS c_0.fNames), .p (eL eB c_0.fStep), .p (eL eTExpr c_0.fKids)]), (2, [.p (eI 0), .p (eS ([] : Bytes)), .p (eS ([] : Bytes)), .p (eI 0)]), (5, [.p (eI r4), .p (eS ([] : Bytes)), .p (eS (lat c_0.fNames 0)), .p (eI c_0.fRoot.fAt)])]⟩) (le_mk ⟨er rfl, er rfl, er rfl, er rfl, er rfl, er rfl, trivial⟩ ⟨⟨_, rfl, ⟨sr, sr, sr, sr, sr, sr, sr, sr, sr, sr, sr, sr, sr, sr, trivial⟩⟩, ⟨_, rfl, ⟨sr, sr, sr, sr, trivial⟩⟩, ⟨_, rfl, ⟨sr, sr, sr, sr, trivial⟩⟩, trivial⟩)) ?_
    refine wp_ifD rfl (fun c13 => ?_) (fun c13 => ?_)
    ·replace h1 := if_t c13 h1
     refine awp_reg ?_
     refine ro rfl (ok_move rfl rfl rfl rfl ?_)
     refine ro rfl (ok_fieldAddrP rfl rfl rfl rfl rfl rfl rfl rfl rfl ?_)
     refine ro rfl (ok_store rfl rfl rfl rfl rfl rfl rfl rfl (Nat.le_of_ble_eq_true rfl) ?_)
     refine rn ?_
     (repeat (first | refine uw ?_ | refine uo rfl ?_))
     have e1 := oi h1
     exact ⟨_, e1.symm, ghost_le (le_mk ⟨er rfl, er rfl, trivial⟩ ⟨⟨_, rfl, ⟨sr, sr, sr, sr, trivial⟩⟩, ⟨_, rfl, ⟨sr, sr, sr, sr, trivial⟩⟩, trivial⟩)⟩
    ·replace h1 := if_f c13 h1
     refine awp_seq (awp_reg ?_)
     refine ro rfl (ok_cmp rfl rfl rfl rfl rfl rfl ?_)
     refine ro rfl (ok_assign rfl rfl rfl rfl ?_)
     refine rn ?_
     refine wp_ifD rfl (fun c14 => ?_) (fun c14 => ?_)
     ·replace h1 := if_t c14 h1
      refine awp_seq (awp_seq (awp_reg ?_))
      refine ro rfl (ok_loadPA rfl rfl rfl rfl rfl rfl rfl rfl rfl ?_)
      obtain ⟨r15, e16, h1⟩ := bd_cut h1
      refine ro rfl (ok_callP (ref17_Chain_step_ok c_0 1 _ e16) rfl rfl rfl rfl ⟨sr, sr, trivial⟩ Try.call50 rfl ?_)
      refine rn ?_
      refine wp_if rfl (fun c17 => ?_) (fun c17 => ?_)
      ·replace h1 := if_t c17 h1
       refine awp_seq (awp_reg ?_)
       refine ro rfl (ok_fieldAddrP rfl rfl rfl rfl rfl rfl rfl rfl rfl ?_)
       refine ro rfl (ok_loadP1 rfl rfl rfl rfl rfl rfl rfl rfl ?_)
       obtain ⟨h18, h1⟩ := ck_cut h1
       refine ro rfl (op_at (f := eS) (l := c_0.fNames) (fun x => [eS x]) rfl rfl rfl rfl rfl rfl rfl rfl rfl h18 (fun _ => rfl) (fun _ => rfl) ?_)
       refine ro rfl (ok_loadR1 rfl rfl rfl rfl rfl rfl rfl ?_)
       refine ro rfl (ok_fieldAddrP rfl rfl rfl rfl rfl rfl rfl rfl rfl ?_)
       refine ro rfl (ok_store rfl rfl rfl rfl rfl rfl rfl rfl (Nat.le_of_ble_eq_true rfl) ?_)
       refine rn ?_
       refine awp_seq (awp_reg ?_)
       refine ro rfl (ok_loadPA rfl rfl rfl rfl rfl rfl rfl rfl rfl ?_)
       refine ro rfl (ok_store rfl rfl rfl rfl rfl rfl rfl rfl (Nat.le_of_ble_eq_true rfl) ?_)
       refine ro rfl (ok_assign rfl rfl rfl rfl ?_)
       refine rn ?_
       refine awp_ret ?_
       (repeat (first | refine uw ?_ | refine uo rfl ?_))
       have e1 := oi h1
       have e0 := hR0 _ e1.symm
       subst e0
       refine reta_mk rfl ?_
       exact sub_tuple ⟨sr, sr, trivial⟩
      ·replace h1 := if_bf c17 h1
       refine awp_skip (awp_seq ?_)
       obtain ⟨o30, h2, h1⟩ := bd_cut h1
       refine awp_joinN ⟨[(1, .ptr 1 0), (2, .ptr 2 0), (5, .ptr 5 0), (71, .p (eB o30))], [(1, [.p (eI c_0.fRoot.fKind), .p (eI c_0.fRoot.fOp), .p (eS c_0.fRoot.fName), .p (eS c_0.fRoot.fKey), .p (eI c_0.fRoot.fValue.fKind), .p (eI c_0.fRoot.fValue.fNum), .p (eS c_0.fRoot.fValue.fStr), .p (eL eTValue c_0.fRoot.fValue.fItems), .p (eL eS c_0.fRoot.fValue.fKeys), .p (eL eTExpr c_0.fRoot.fKids), .p (eI c_0.fRoot.fAt), .p (eL eS c_0.fNames), .p (eL eB c_0.fStep), .p (eL eTExpr c_0.fKids)]), (2, [.p (eI 0), .p (eS ([] : Bytes)), .p (eS ([] : Bytes)), .p (eI 0)]), (5, [.p (eI r4), .p (eS ([] : Bytes)), .p (eS (lat c_0.fNames 0)), .p (eI c_0.fRoot.fAt)])]⟩ ?_ ?_
       ·intro s' hle
        (repeat (first | refine uw ?_ | refine uo rfl ?_))
        refine awp_ghost hle ?_
        refine wp_if rfl (fun c23 => ?_) (fun c23 => ?_)
        ·replace h1 := if_t c23 h1
         refine awp_seq (awp_reg ?_)
         refine ro rfl (ok_fieldAddrP rfl rfl rfl rfl rfl rfl rfl rfl rfl ?_)
         refine ro rfl (ok_loadP1 rfl rfl rfl rfl rfl rfl rfl rfl ?_)
         obtain ⟨h24, h1⟩ := ck_cut h1
         refine ro rfl (op_at (f := eS) (l := c_0.fNames) (fun x => [eS x]) rfl rfl rfl rfl rfl rfl rfl rfl rfl h24 (fun _ => rfl) (fun _ => rfl) ?_)
         refine ro rfl (ok_loadR1 rfl rfl rfl rfl rfl rfl rfl ?_)
         refine ro rfl (ok_fieldAddrP rfl rfl rfl rfl rfl rfl rfl rfl rfl ?_)
         refine ro rfl (ok_store rfl rfl rfl rfl rfl rfl rfl rfl (Nat.le_of_ble_eq_true rfl) ?_)
         refine rn ?_
         refine awp_seq (awp_reg ?_)
         refine ro rfl (ok_loadPA rfl rfl rfl rfl rfl rfl rfl rfl rfl ?_)
         refine ro rfl (ok_store rfl rfl rfl rfl rfl rfl rfl rfl (Nat.le_of_ble_eq_true rfl) ?_)
         refine ro rfl (ok_assign rfl rfl rfl rfl ?_)
         refine rn ?_
         refine awp_ret ?_
         (repeat (first | refine uw ?_ | refine uo rfl ?_))
         have e1 := oi h1
         have e0 := hR0 _ e1.symm
         subst e0
         refine reta_mk rfl ?_
         exact sub_tuple ⟨sr, sr, trivial⟩
        ·replace h1 := if_bf c23 h1
         refine awp_skip ?_
         (repeat (first | refine uw ?_ | refine uo rfl ?_))
         have e1 := oi h1
         exact ⟨_, e1.symm, ghost_le (le_mk ⟨er rfl, er rfl, trivial⟩ ⟨⟨_, rfl, ⟨sr, sr, sr, sr, trivial⟩⟩, ⟨_, rfl, ⟨sr, sr, sr, sr, trivial⟩⟩, trivial⟩)⟩
       ·skip
        refine awp_reg ?_
        refine ro rfl (ok_fieldAddrP rfl rfl rfl rfl rfl rfl rfl rfl rfl ?_)
        refine ro rfl (ok_loadP1 rfl rfl rfl rfl rfl rfl rfl rfl ?_)
        refine ro rfl (op_lenL (f := eB) (l := c_0.fStep) rfl rfl rfl rfl rfl rfl rfl ?_)
        refine ro rfl (ok_cmp rfl rfl rfl rfl rfl rfl ?_)
        refine ro rfl (ok_move rfl rfl rfl rfl ?_)
        refine gd_D rfl rfl rfl (fun c19 => ?_) (fun c19 => ?_)
        ·replace h2 := if_t c19 h2
         refine gd_tt rfl rfl rfl (dt c19) (ok_loadPA rfl rfl rfl rfl rfl rfl rfl rfl rfl ?_)
         obtain ⟨r20, e21, h2⟩ := bd_cut h2
         refine gd_tt rfl rfl rfl (dt c19) (ok_callP (ref17_Chain_step_ok c_0 2 _ e21) rfl rfl rfl rfl ⟨sr, sr, trivial⟩ Try.call50 rfl ?_)
         refine ro rfl (ok_pick_true rfl rfl rfl rfl (dt c19) rfl ?_)
         refine rn ?_
         (repeat (first | refine uw ?_ | refine uo rfl ?_))
         have e2 := oi h2
         subst e2
         exact ghost_le (le_mk ⟨er rfl, er rfl, er rfl, er rfl, trivial⟩ ⟨⟨_, rfl, ⟨sr, sr, sr, sr, sr, sr, sr, sr, sr, sr, sr, sr, sr, sr, trivial⟩⟩, ⟨_, rfl, ⟨sr, sr, sr, sr, trivial⟩⟩, ⟨_, rfl, ⟨sr, sr, sr, sr, trivial⟩⟩, trivial⟩)
        ·replace h2 := if_f c19 h2
         refine gd_tf rfl rfl rfl (df c19) rfl rfl ?_
         refine gd_tf rfl rfl rfl (df c19) rfl rfl ?_
         refine ro rfl (ok_pick_false rfl rfl rfl rfl (df c19) rfl ?_)
         refine rn ?_
         (repeat (first | refine uw ?_ | refine uo rfl ?_))
         have e2 := oi h2
         subst e2
         exact ghost_le (le_mk ⟨er rfl, er rfl, er rfl, er rfl, trivial⟩ ⟨⟨_, rfl, ⟨sr, sr, sr, sr, sr, sr, sr, sr, sr, sr, sr, sr, sr, sr, trivial⟩⟩, ⟨_, rfl, ⟨sr, sr, sr, sr, trivial⟩⟩, ⟨_, rfl, ⟨sr, sr, sr, sr, trivial⟩⟩, trivial⟩)
     ·replace h1 := if_f c14 h1
      refine awp_skip ?_
      (repeat (first | refine uw ?_ | refine uo rfl ?_))
      have e1 := oi h1
      exact ⟨_, e1.symm, ghost_le (le_mk ⟨er rfl, er rfl, trivial⟩ ⟨⟨_, rfl, ⟨sr, sr, sr, sr, trivial⟩⟩, ⟨_, rfl, ⟨sr, sr, sr, sr, trivial⟩⟩, trivial⟩)⟩

def ref17_Parse (n : Nat) (e_0 : TExpr) : Option (TRef × Bool) :=
 (ref17_chain n e_0).bind fun r1 =>
 (
   if r1.fRoot.fKind = 3 then
    some (decide (0 < (r1.fKids.length : Int)))
   else
    some true
  : Option Bool).bind fun t4 =>
 if t4 = true then
  some ((TRef.mk 0 ([] : Bytes) ([] : Bytes) 0), false)
 else
  (ref17_Chain_ref (TChain.mk r1.fRoot r1.fNames r1.fStep r1.fKids)).bind fun r6 =>
  if r6.2 = (r1.fStep.length : Int) then
   some (r6.1, true)
  else
   some ((TRef.mk 0 ([] : Bytes) ([] : Bytes) 0), false)

set_option maxHeartbeats 4000000 in
theorem ref17_Parse_ok (n : Nat) (e_0 : TExpr) (r : TRef × Bool) (h0 : ref17_Parse n e_0 = some r) : PCalls Try.prog 11 [.agg (TExpr.cs e_0)] (· = .tuple [.p (.agg (TRef.cs r.1)), .p (eB r.2)]) := by
 unfold ref17_Parse at h0
 refine pbodyA good Try.func11 rfl rfl rfl fun w0 => ?_
 refine awp_seq (awp_reg ?_)
 refine ro rfl (ok_box rfl rfl rfl rfl rfl ?_)
 refine ro rfl (ok_alloc rfl rfl rfl rfl rfl ?_)
 refine ro rfl (ok_assign rfl rfl rfl rfl ?_)
 refine rn ?_
 refine awp_seq (awp_reg ?_)
 refine ro rfl (ok_loadPA rfl rfl rfl rfl rfl rfl rfl rfl rfl ?_)
 obtain ⟨r1, e2, h0⟩ := bd_cut h0
 refine ro rfl (op_callV [] [] 101000 101003 (ref17_chain_ok _ e_0 _ e2) rfl rfl rfl rfl rfl ⟨sr, trivial⟩ rfl rfl trivial rfl rfl rfl rfl rfl rfl rfl rfl Try.call35 rfl rfl ?_)
 refine ro rfl (ok_alloc rfl rfl rfl rfl rfl ?_)
 refine ro rfl (ok_store rfl rfl rfl rfl rfl rfl rfl rfl (Nat.le_of_ble_eq_true rfl) ?_)
 refine rn ?_
 refine awp_seq (awp_seq ?_)
 obtain ⟨o10, h1, h0⟩ := bd_cut h0
 refine awp_joinN ⟨[(2, .ptr 2 0), (4, .ptr 4 0), (18, .p (eB o10))], [(2, [.p (eI 0), .p (eS ([] : Bytes)), .p (eS ([] : Bytes)), .p (eI 0)]), (4, [.p (eI r1.fRoot.fKind), .p (eI r1.fRoot.fOp), .p (eS r1.fRoot.fName), .p (eS r1.fRoot.fKey), .p (eI r1.fRoot.fValue.fKind), .p (eI r1.fRoot.fValue.fNum), .p (eS r1.fRoot.fValue.fStr), .p (eL eTValue r1.fRoot.fValue.fItems), .p (eL eS r1.fRoot.fValue.fKeys), .p (eL eTExpr r1.fRoot.fKids), .p (eI r1.fRoot.fAt), .vec 101000 1 (r1.fNames.map eS), .vec 101001 1 (r1.fStep.map eB), .vec 101002 11 (r1.fKids.map eTExpr)])]⟩ ?_ ?_
 ·intro s' hle
  (repeat (first | refine uw ?_ | refine uo rfl ?_))
  refine awp_ghost hle ?_
  refine wp_if rfl (fun c5 => ?_) (fun c5 => ?_)
  ·replace h0 := if_t c5 h0
   refine awp_seq (awp_reg ?_)
   refine ro rfl (ok_build rfl rfl rfl rfl rfl rfl rfl rfl rfl ?_)
   refine ro rfl (ok_store rfl rfl rfl rfl rfl rfl rfl rfl (Nat.le_of_ble_eq_true rfl) ?_)
   refine ro rfl (ok_assign rfl rfl rfl rfl ?_)
   refine rn ?_
   refine awp_ret ?_
   (repeat (first | refine uw ?_ | refine uo rfl ?_))
   have e0 := oi h0
   subst e0
   refine reta_mk rfl ?_
   exact sub_tuple ⟨sr, sr, trivial⟩
  ·replace h0 := if_bf c5 h0
   refine awp_skip (awp_seq (awp_reg ?_))
   refine ro rfl (ok_loadPA rfl rfl rfl rfl rfl rfl rfl rfl rfl ?_)
   obtain ⟨r6, e7, h0⟩ := bd_cut h0
   refine ro rfl (ok_callP (ref17_Chain_ref_ok (TChain.mk r1.fRoot r1.fNames r1.fStep r1.fKids) _ e7) rfl rfl rfl rfl ⟨sub_aggs ⟨sr, sr, sr, sr, sr, sr, sr, sr, sr, sr, sr, AV.sub_vec _ _ _, AV.sub_vec _ _ _, AV.sub_vec _ _ _, trivial⟩, trivial⟩ Try.call36 rfl ?_)
   refine ro rfl (ok_move rfl rfl rfl rfl ?_)
   refine ro rfl (ok_extract rfl rfl rfl rfl rfl ?_)
   refine ro rfl (ok_extract rfl rfl rfl rfl rfl ?_)
   refine ro rfl (ok_alloc rfl rfl rfl rfl rfl ?_)
   refine ro rfl (ok_store rfl rfl rfl rfl rfl rfl rfl rfl (Nat.le_of_ble_eq_true rfl) ?_)
   refine ro rfl (ok_assign rfl rfl rfl rfl ?_)
   refine rn ?_
   refine awp_seq (awp_seq (awp_reg ?_))
   refine ro rfl (ok_move rfl rfl rfl rfl ?_)
   refine ro rfl (ok_fieldAddrP rfl rfl rfl rfl rfl rfl rfl rfl rfl ?_)
   refine ro rfl (ok_loadP1 rfl rfl rfl rfl rfl rfl rfl rfl ?_)
   refine ro rfl (op_lenL (f := eB) (l := r1.fStep) rfl rfl rfl rfl rfl rfl rfl ?_)
   refine ro rfl (ok_cmp rfl rfl rfl rfl rfl rfl ?_)
   refine rn ?_
   refine wp_ifN rfl (fun c8 => ?_) (fun c8 => ?_)
   ·replace h0 := if_f c8 h0
    refine awp_seq (awp_reg ?_)
    refine ro rfl (ok_build rfl rfl rfl rfl rfl rfl rfl rfl rfl ?_)
    refine ro rfl (ok_store rfl rfl rfl rfl rfl rfl rfl rfl (Nat.le_of_ble_eq_true rfl) ?_)
    refine ro rfl (ok_assign rfl rfl rfl rfl ?_)
    refine rn ?_
    refine awp_ret ?_
    (repeat (first | refine uw ?_ | refine uo rfl ?_))
    have e0 := oi h0
    subst e0
    refine reta_mk rfl ?_
    exact sub_tuple ⟨sr, sr, trivial⟩
   ·replace h0 := if_t c8 h0
    refine awp_skip (awp_seq (awp_reg ?_))
    refine ro rfl (ok_loadPA rfl rfl rfl rfl rfl rfl rfl rfl rfl ?_)
    refine ro rfl (ok_store rfl rfl rfl rfl rfl rfl rfl rfl (Nat.le_of_ble_eq_true rfl) ?_)
    refine ro rfl (ok_assign rfl rfl rfl rfl ?_)
    refine rn ?_
    refine awp_ret ?_
    (repeat (first | refine uw ?_ | refine uo rfl ?_))
    have e0 := oi h0
    subst e0
    refine reta_mk rfl ?_
    exact sub_tuple ⟨sr, sr, trivial⟩
 ·skip
  refine awp_reg ?_
  refine ro rfl (ok_fieldAddrP rfl rfl rfl rfl rfl rfl rfl rfl rfl ?_)
  refine ro rfl (ok_fieldAddrP rfl rfl rfl rfl rfl rfl rfl rfl rfl ?_)
  refine ro rfl (ok_loadP1 rfl rfl rfl rfl rfl rfl rfl rfl ?_)
  refine ro rfl (ok_cmp rfl rfl rfl rfl rfl rfl ?_)
  refine ro rfl (ok_move rfl rfl rfl rfl ?_)
  refine gd_N rfl rfl rfl (fun c3 => ?_) (fun c3 => ?_)
  ·replace h1 := if_t c3 h1
   refine gd_ff rfl rfl rfl (nd_false c3) (ok_fieldAddrP rfl rfl rfl rfl rfl rfl rfl rfl rfl ?_)
   refine gd_ff rfl rfl rfl (nd_false c3) (ok_loadP1 rfl rfl rfl rfl rfl rfl rfl rfl ?_)
   refine gd_ff rfl rfl rfl (nd_false c3) (op_lenL (f := eTExpr) (l := r1.fKids) rfl rfl rfl rfl rfl rfl rfl ?_)
   refine gd_ff rfl rfl rfl (nd_false c3) (ok_cmp rfl rfl rfl rfl rfl rfl ?_)
   refine ro rfl (ok_pick_false rfl rfl rfl rfl (nd_false c3) rfl ?_)
   refine rn ?_
   (repeat (first | refine uw ?_ | refine uo rfl ?_))
   have e1 := oi h1
   subst e1
   exact ghost_le (le_mk ⟨er rfl, er rfl, er rfl, trivial⟩ ⟨⟨_, rfl, ⟨sr, sr, sr, sr, trivial⟩⟩, ⟨_, rfl, ⟨sr, sr, sr, sr, sr, sr, sr, sr, sr, sr, sr, sr, sr, sr, trivial⟩⟩, trivial⟩)
  ·replace h1 := if_f c3 h1
   refine gd_ft rfl rfl rfl (nd_true c3) rfl rfl ?_
   refine gd_ft rfl rfl rfl (nd_true c3) rfl rfl ?_
   refine gd_ft rfl rfl rfl (nd_true c3) rfl rfl ?_
   refine gd_ft rfl rfl rfl (nd_true c3) rfl rfl ?_
   refine ro rfl (ok_pick_true rfl rfl rfl rfl (nd_true c3) rfl ?_)
   refine rn ?_
   (repeat (first | refine uw ?_ | refine uo rfl ?_))
   have e1 := oi h1
   subst e1
   exact ghost_le (le_mk ⟨er rfl, er rfl, er rfl, trivial⟩ ⟨⟨_, rfl, ⟨sr, sr, sr, sr, trivial⟩⟩, ⟨_, rfl, ⟨sr, sr, sr, sr, sr, sr, sr, sr, sr, sr, sr, sr, sr, sr, trivial⟩⟩, trivial⟩)

def law17_refs_l1 (a_0 : List TRef) (b_1 : List TRef) : Nat → Int → Option (Unit ⊕ Bool)
 | 0, _ => none
 | m + 1, i8 =>
 if i8 < (a_0.length : Int) then
  ck ((0 : Int) ≤ i8 ∧ i8 < (a_0.length : Int)) <|
  ck ((0 : Int) ≤ i8 ∧ i8 < (b_1.length : Int)) <|
  if (lat a_0 i8).fKind = (lat b_1 i8).fKind ∧ (lat a_0 i8).fType = (lat b_1 i8).fType ∧ (lat a_0 i8).fName = (lat b_1 i8).fName ∧ (lat a_0 i8).fAt = (lat b_1 i8).fAt then
   ck (inR (i8 + 1)) <|
   law17_refs_l1 a_0 b_1 m (i8 + 1)
  else
   some (.inr false)
 else
  some (.inl ())

def law17_refs (n : Nat) (a_0 : List TRef) (b_1 : List TRef) : Option Bool :=
 if (a_0.length : Int) = (b_1.length : Int) then
  jn (law17_refs_l1 a_0 b_1 n 0) fun q15 =>
  some true
 else
  some false

set_option maxHeartbeats 4000000 in
theorem law17_refs_ok (n : Nat) (a_0 : List TRef) (b_1 : List TRef) (r : Bool) (h0 : law17_refs n a_0 b_1 = some r) : PCalls Try.prog 12 [eL eTRef a_0, eL eTRef b_1] (· = .p (eB r)) := by
 unfold law17_refs at h0
 refine pbodyA good Try.func12 rfl rfl rfl fun w0 => ?_
 refine awp_seq (awp_reg ?_)
 refine ro rfl (ok_assign rfl rfl rfl rfl ?_)
 refine rn ?_
 refine awp_seq (awp_seq (awp_reg ?_))
 refine ro rfl (ok_move rfl rfl rfl rfl ?_)
 refine ro rfl (op_lenL (f := eTRef) (l := a_0) rfl rfl rfl rfl rfl rfl rfl ?_)
 refine ro rfl (ok_move rfl rfl rfl rfl ?_)
 refine ro rfl (op_lenL (f := eTRef) (l := b_1) rfl rfl rfl rfl rfl rfl rfl ?_)
 refine ro rfl (ok_cmp rfl rfl rfl rfl rfl rfl ?_)
 refine rn ?_
 refine wp_ifN rfl (fun c1 => ?_) (fun c1 => ?_)
 ·replace h0 := if_f c1 h0
  refine awp_seq (awp_reg ?_)
  refine ro rfl (ok_assign rfl rfl rfl rfl ?_)
  refine rn ?_
  refine awp_ret ?_
  (repeat (first | refine uw ?_ | refine uo rfl ?_))
  have e0 := oi h0
  subst e0
  refine reta_mk rfl ?_
  exact sr
 ·replace h0 := if_t c1 h0
  refine awp_skip (awp_seq (awp_seq (awp_reg ?_)))
  refine ro rfl (ok_assign rfl rfl rfl rfl ?_)
  refine rn ?_
  refine awp_block ?_
  obtain ⟨o16, h1, hL0, hR0⟩ := jn_cut h0
  refine awp_joinEx 0 (fun v17 : Unit => o16 = .inl v17) (fun v17 => ⟨[], []⟩) ?_ ?_
  ·rintro s' ⟨v17, hv, hle⟩
   have h0 := hL0 _ hv
   (repeat (first | refine uw ?_ | refine uo rfl ?_))
   refine awp_ghost hle ?_
   (repeat (first | refine uw ?_ | refine uo rfl ?_))
   refine awp_seq (awp_reg ?_)
   refine ro rfl (ok_assign rfl rfl rfl rfl ?_)
   refine rn ?_
   refine awp_ret ?_
   (repeat (first | refine uw ?_ | refine uo rfl ?_))
   have e0 := oi h0
   subst e0
   refine reta_mk rfl ?_
   exact sr
  ·skip
   refine awp_loopG (fun q18 => ⟨[(0, .p (eL eTRef a_0)), (1, .p (eL eTRef b_1)), (5, .p (eI q18))], []⟩) (fun m (q18 : Int) => law17_refs_l1 a_0 b_1 m q18) (fun _ => rfl) 0 h1 (ghost_le (le_mk ⟨er rfl, er rfl, er rfl, trivial⟩ trivial)) ?_
   rintro m i8 h1
   replace h1 : law17_refs_l1 a_0 b_1 (m + 1) i8 = some o16 := h1
   rw [law17_refs_l1] at h1
   refine awp_seq (awp_seq (awp_reg ?_))
   refine ro rfl (ok_move rfl rfl rfl rfl ?_)
   refine ro rfl (ok_move rfl rfl rfl rfl ?_)
   refine ro rfl (op_lenL (f := eTRef) (l := a_0) rfl rfl rfl rfl rfl rfl rfl ?_)
   refine ro rfl (ok_cmp rfl rfl rfl rfl rfl rfl ?_)
   refine rn ?_
   refine wp_ifD rfl (fun c9 => ?_) (fun c9 => ?_)
   ·replace h1 := if_t c9 h1
    refine awp_skip (awp_seq (awp_block (awp_seq ?_)))
    obtain ⟨h10, h1⟩ := ck_cut h1
    obtain ⟨h11, h1⟩ := ck_cut h1
    refine awp_drawQ [(0, .p (eL eTRef a_0)), (1, .p (eL eTRef b_1)), (5, .p (eI i8))] rfl ⟨rfl, rfl, rfl, trivial⟩ rfl ?_
    refine dq_cons (.p (eL eTRef a_0)) [(0, _)] ⟨.inl rfl, trivial⟩ (fun sl hsl K hK => one_op rfl (ok_move rfl rfl rfl (hsl _ _ rfl) hK)) rfl rfl rfl ?_
    refine dq_cons (.p (eI i8)) [(5, _)] ⟨.inl rfl, trivial⟩ (fun sl hsl K hK => one_op rfl (ok_move rfl rfl rfl (hsl _ _ rfl) hK)) rfl rfl rfl ?_
    refine dq_cons (.rptr (TRef.cs (lat a_0 i8))) [(17, _), (18, _)] ⟨.inr ⟨0, rfl, rfl⟩, .inr ⟨1, rfl, rfl⟩, trivial⟩ (fun sl hsl K hK => one_op rfl (op_at (f := eTRef) (l := a_0) TRef.cs rfl rfl rfl rfl rfl rfl (hsl _ _ rfl) rfl (hsl _ _ rfl) h10 TRef.cells_eq (fun _ => rfl) hK)) rfl rfl rfl ?_
    refine dq_cons (.p (.agg (TRef.cs (lat a_0 i8)))) [(19, _)] ⟨.inr ⟨2, rfl, rfl⟩, trivial⟩ (fun sl hsl K hK => one_op rfl (ok_loadRA rfl rfl rfl rfl rfl (hsl _ _ rfl) rfl hK)) rfl rfl rfl ?_
    refine dq_cons (.p (eL eTRef b_1)) [(1, _)] ⟨.inl rfl, trivial⟩ (fun sl hsl K hK => one_op rfl (ok_move rfl rfl rfl (hsl _ _ rfl) hK)) rfl rfl rfl ?_
    refine dq_cons (.p (eI i8)) [(5, _)] ⟨.inl rfl, trivial⟩ (fun sl hsl K hK => one_op rfl (ok_move rfl rfl rfl (hsl _ _ rfl) hK)) rfl rfl rfl ?_
    refine dq_cons (.rptr (TRef.cs (lat b_1 i8))) [(21, _), (22, _)] ⟨.inr ⟨4, rfl, rfl⟩, .inr ⟨5, rfl, rfl⟩, trivial⟩ (fun sl hsl K hK => one_op rfl (op_at (f := eTRef) (l := b_1) TRef.cs rfl rfl rfl rfl rfl rfl (hsl _ _ rfl) rfl (hsl _ _ rfl) h11 TRef.cells_eq (fun _ => rfl) hK)) rfl rfl rfl ?_
    refine dq_cons (.p (.agg (TRef.cs (lat b_1 i8)))) [(23, _)] ⟨.inr ⟨6, rfl, rfl⟩, trivial⟩ (fun sl hsl K hK => one_op rfl (ok_loadRA rfl rfl rfl rfl rfl (hsl _ _ rfl) rfl hK)) rfl rfl rfl ?_
    refine dq_cons (.p (eB (!decide ((lat a_0 i8).fKind = (lat b_1 i8).fKind ∧ (lat a_0 i8).fType = (lat b_1 i8).fType ∧ (lat a_0 i8).fName = (lat b_1 i8).fName ∧ (lat a_0 i8).fAt = (lat b_1 i8).fAt)))) [(20, _), (24, _)] ⟨.inr ⟨3, rfl, rfl⟩, .inr ⟨7, rfl, rfl⟩, trivial⟩ (fun sl hsl K hK => one_op rfl (op_eqS ((lat a_0 i8).fKind = (lat b_1 i8).fKind ∧ (lat a_0 i8).fType = (lat b_1 i8).fType ∧ (lat a_0 i8).fName = (lat b_1 i8).fName ∧ (lat a_0 i8).fAt = (lat b_1 i8).fAt) rfl rfl rfl rfl rfl (hsl _ _ rfl) (hsl _ _ rfl) (by kernel_rfl) rfl rfl (.inr ⟨rfl, rfl⟩) hK)) rfl rfl rfl ?_
    refine dq_nil ?_
    refine wp_ifN rfl (fun c12 => ?_) (fun c12 => ?_)
    ·replace h1 := if_f c12 h1
     refine awp_seq (awp_reg ?_)
     refine ro rfl (ok_assign rfl rfl rfl rfl ?_)
     refine rn ?_
     refine awp_ret ?_
     (repeat (first | refine uw ?_ | refine uo rfl ?_))
     have e1 := oi h1
     have e0 := hR0 _ e1.symm
     subst e0
     refine reta_mk rfl ?_
     exact sr
    ·replace h1 := if_t c12 h1
     refine awp_skip ?_
     (repeat (first | refine uw ?_ | refine uo rfl ?_))
     refine awp_reg ?_
     refine ro rfl (ok_move rfl rfl rfl rfl ?_)
     obtain ⟨h13, h1⟩ := ck_cut h1
     refine ro rfl (ok_ar rfl rfl rfl rfl rfl rfl h13 ?_)
     refine ro rfl (ok_assign rfl rfl rfl rfl ?_)
     refine rn ?_
     (repeat (first | refine uw ?_ | refine uo rfl ?_))
     exact ⟨(i8 + 1), h1, ghost_le (le_mk ⟨er rfl, er rfl, er rfl, trivial⟩ trivial)⟩
   ·replace h1 := if_f c9 h1
    refine awp_exit ?_
    (repeat (first | refine uw ?_ | refine uo rfl ?_))
    have e1 := oi h1
    exact ⟨_, e1.symm, ghost_le (le_mk trivial trivial)⟩

def ref17_has_l1 (l_0 : List Bytes) (s_1 : Bytes) : Nat → Int → Option (Unit ⊕ Bool)
 | 0, _ => none
 | m + 1, i6 =>
 if i6 < (l_0.length : Int) then
  ck ((0 : Int) ≤ i6 ∧ i6 < (l_0.length : Int)) <|
  if lat l_0 i6 = s_1 then
   some (.inr true)
  else
   ck (inR (i6 + 1)) <|
   ref17_has_l1 l_0 s_1 m (i6 + 1)
 else
  some (.inl ())

def ref17_has (n : Nat) (l_0 : List Bytes) (s_1 : Bytes) : Option Bool :=
 jn (ref17_has_l1 l_0 s_1 n 0) fun q12 =>
 some false

set_option maxHeartbeats 4000000 in
theorem ref17_has_ok (n : Nat) (l_0 : List Bytes) (s_1 : Bytes) (r : Bool) (h0 : ref17_has n l_0 s_1 = some r) : PCalls Try.prog 54 [eL eS l_0, eS s_1] (· = .p (eB r)) := by
 unfold ref17_has at h0
 refine pbodyA good Try.func54 rfl rfl rfl fun w0 => ?_
 refine awp_seq (awp_reg ?_)
 refine ro rfl (ok_assign rfl rfl rfl rfl ?_)
 refine rn ?_
 refine awp_seq (awp_seq (awp_reg ?_))
 refine ro rfl (ok_assign rfl rfl rfl rfl ?_)
 refine rn ?_
 refine awp_block ?_
 obtain ⟨o13, h1, hL0, hR0⟩ := jn_cut h0
 refine awp_joinEx 0 (fun v14 : Unit => o13 = .inl v14) (fun v14 => ⟨[], []⟩) ?_ ?_
 ·rintro s' ⟨v14, hv, hle⟩
  have h0 := hL0 _ hv
  (repeat (first | refine uw ?_ | refine uo rfl ?_))
  refine awp_ghost hle ?_
  (repeat (first | refine uw ?_ | refine uo rfl ?_))
  refine awp_seq (awp_reg ?_)
  refine ro rfl (ok_assign rfl rfl rfl rfl ?_)
  refine rn ?_
  refine awp_ret ?_
  (repeat (first | refine uw ?_ | refine uo rfl ?_))
  have e0 := oi h0
  subst e0
  refine reta_mk rfl ?_
  exact sr
 ·skip
  refine awp_loopG (fun q15 => ⟨[(0, .p (eL eS l_0)), (1, .p (eS s_1)), (5, .p (eI q15))], []⟩) (fun m (q15 : Int) => ref17_has_l1 l_0 s_1 m q15) (fun _ => rfl) 0 h1 (ghost_le (le_mk ⟨er rfl, er rfl, er rfl, trivial⟩ trivial)) ?_
  rintro m i6 h1
  replace h1 : ref17_has_l1 l_0 s_1 (m + 1) i6 = some o13 := h1
  rw [ref17_has_l1] at h1
  refine awp_seq (awp_seq (awp_reg ?_))
  refine ro rfl (ok_move rfl rfl rfl rfl ?_)
  refine ro rfl (ok_move rfl rfl rfl rfl ?_)
  refine ro rfl (op_lenL (f := eS) (l := l_0) rfl rfl rfl rfl rfl rfl rfl ?_)
  refine ro rfl (ok_cmp rfl rfl rfl rfl rfl rfl ?_)
  refine rn ?_
  refine wp_ifD rfl (fun c7 => ?_) (fun c7 => ?_)
  ·replace h1 := if_t c7 h1
   refine awp_skip (awp_seq (awp_block (awp_seq (awp_reg ?_))))
   refine ro rfl (ok_move rfl rfl rfl rfl ?_)
   refine ro rfl (ok_move rfl rfl rfl rfl ?_)
   obtain ⟨h8, h1⟩ := ck_cut h1
   refine ro rfl (op_at (f := eS) (l := l_0) (fun x => [eS x]) rfl rfl rfl rfl rfl rfl rfl rfl rfl h8 (fun _ => rfl) (fun _ => rfl) ?_)
   refine ro rfl (ok_loadR1 rfl rfl rfl rfl rfl rfl rfl ?_)
   refine ro rfl (ok_move rfl rfl rfl rfl ?_)
   refine ro rfl (ok_cmpS rfl rfl rfl rfl rfl rfl ?_)
   refine rn ?_
   refine wp_ifD rfl (fun c9 => ?_) (fun c9 => ?_)
   ·replace h1 := if_t c9 h1
    refine awp_seq (awp_reg ?_)
    refine ro rfl (ok_assign rfl rfl rfl rfl ?_)
    refine rn ?_
    refine awp_ret ?_
    (repeat (first | refine uw ?_ | refine uo rfl ?_))
    have e1 := oi h1
    have e0 := hR0 _ e1.symm
    subst e0
    refine reta_mk rfl ?_
    exact sr
   ·replace h1 := if_f c9 h1
    refine awp_skip ?_
    (repeat (first | refine uw ?_ | refine uo rfl ?_))
    refine awp_reg ?_
    refine ro rfl (ok_move rfl rfl rfl rfl ?_)
    obtain ⟨h10, h1⟩ := ck_cut h1
    refine ro rfl (ok_ar rfl rfl rfl rfl rfl rfl h10 ?_)
    refine ro rfl (ok_assign rfl rfl rfl rfl ?_)
    refine rn ?_
    (repeat (first | refine uw ?_ | refine uo rfl ?_))
    exact ⟨(i6 + 1), h1, ghost_le (le_mk ⟨er rfl, er rfl, er rfl, trivial⟩ trivial)⟩
  ·replace h1 := if_f c7 h1
   refine awp_exit ?_
   (repeat (first | refine uw ?_ | refine uo rfl ?_))
   have e1 := oi h1
   exact ⟨_, e1.symm, ghost_le (le_mk trivial trivial)⟩

def ref17_put_l2 (more_1 : List TRef) (out31 : List TRef) (i32 : Int) : Nat → Bool → Int → Option Bool
 | 0, _, _ => none
 | m + 1, old42, k43 =>
 if k43 < (out31.length : Int) then
  (
    if old42 = true then
     some true
    else
     ck ((0 : Int) ≤ k43 ∧ k43 < (out31.length : Int)) <|
     ck ((0 : Int) ≤ i32 ∧ i32 < (more_1.length : Int)) <|
     (ref17_Same (lat out31 k43) (lat more_1 i32)).bind fun r48 =>
     some r48
   : Option Bool).bind fun old50 =>
  ck (inR (k43 + 1)) <|
  ref17_put_l2 more_1 out31 i32 m old50 (k43 + 1)
 else
  some old42

def ref17_put_l3 (n : Nat) (more_1 : List TRef) : Nat → (List TRef) → Int → Option (List TRef)
 | 0, _, _ => none
 | m + 1, out31, i32 =>
 if i32 < (more_1.length : Int) then
  (
    (ref17_put_l2 more_1 out31 i32 n false 0).bind fun old54 =>
    if (!old54) = true then
     ck ((0 : Int) ≤ i32 ∧ i32 < (more_1.length : Int)) <|
     ck ((out31.length + [(lat more_1 i32)].length) * 48 ≤ 140737488355328) <|
     some (out31 ++ [(lat more_1 i32)])
    else
     some out31
   : Option (List TRef)).bind fun out58 =>
  ck (inR (i32 + 1)) <|
  ref17_put_l3 n more_1 m out58 (i32 + 1)
 else
  some out31

def ref17_put (n : Nat) (l_0 : List TRef) (more_1 : List TRef) : Option (List TRef) :=
 ck (l_0.length * 48 ≤ 140737488355328) <|
 (ref17_put_l3 n more_1 n l_0 0).bind fun out62 =>
 some out62

set_option maxHeartbeats 4000000 in
theorem ref17_put_ok (n : Nat) (l_0 : List TRef) (more_1 : List TRef) (r : (List TRef)) (h0 : ref17_put n l_0 more_1 = some r) : PCalls Try.prog 55 [eL eTRef l_0, eL eTRef more_1] (· = .p (eL eTRef r)) := by
 unfold ref17_put at h0
 refine pbodyA good Try.func55 rfl rfl rfl fun w0 => ?_
 refine awp_seq (awp_reg ?_)
 refine ro rfl (ok_assign rfl rfl rfl rfl ?_)
 refine rn ?_
 refine awp_seq (awp_reg ?_)
 refine ro rfl (ok_assign rfl rfl rfl rfl ?_)
 refine rn ?_
 refine awp_seq (awp_reg ?_)
 refine ro rfl (ok_move rfl rfl rfl rfl ?_)
 refine ro rfl (ok_move rfl rfl rfl rfl ?_)
 obtain ⟨h1, h0⟩ := ck_cut h0
 refine ro rfl (op_appN eTRef l_0 rfl rfl rfl rfl rfl rfl rfl rfl rfl rfl rfl (fun x => congrArg List.length (TRef.cells_eq x)) rfl rfl rfl h1 ?_)
 refine ro rfl (ok_assign rfl rfl rfl rfl ?_)
 refine rn ?_
 refine awp_seq (awp_seq (awp_reg ?_))
 refine ro rfl (ok_assign rfl rfl rfl rfl ?_)
 refine rn ?_
 refine awp_block ?_
 obtain ⟨o67, h1, h0⟩ := bd_cut h0
 refine awp_joinE 0 ⟨[(5, .vec 44 4 (o67.map eTRef))], []⟩ ?_ ?_
 ·intro s' hle
  (repeat (first | refine uw ?_ | refine uo rfl ?_))
  refine awp_ghost hle ?_
  (repeat (first | refine uw ?_ | refine uo rfl ?_))
  refine awp_seq (awp_reg ?_)
  refine ro rfl (ok_move rfl rfl rfl rfl ?_)
  refine ro rfl (ok_assign rfl rfl rfl rfl ?_)
  refine rn ?_
  refine awp_ret ?_
  (repeat (first | refine uw ?_ | refine uo rfl ?_))
  have e0 := oi h0
  subst e0
  refine reta_mk rfl ?_
  exact AV.sub_vec _ _ _
 ·skip
  refine awp_loopG (fun q69 => ⟨[(1, .p (eL eTRef more_1)), (5, .vec 44 4 (q69.1.map eTRef)), (6, .p (eI q69.2))], []⟩) (fun m (q69 : (List TRef) × Int) => ref17_put_l3 n more_1 m q69.1 q69.2) (fun _ => rfl) (l_0, 0) h1 (ghost_trans (ghost_ren 11 44 rfl rfl rfl rfl rfl) (ghost_le (le_mk ⟨er rfl, er rfl, er rfl, trivial⟩ trivial))) ?_
  rintro m ⟨out31, i32⟩ h1
  replace h1 : ref17_put_l3 n more_1 (m + 1) out31 i32 = some o67 := h1
  rw [ref17_put_l3] at h1
  refine awp_seq (awp_seq (awp_reg ?_))
  refine ro rfl (ok_move rfl rfl rfl rfl ?_)
  refine ro rfl (ok_move rfl rfl rfl rfl ?_)
  refine ro rfl (op_lenL (f := eTRef) (l := more_1) rfl rfl rfl rfl rfl rfl rfl ?_)
  refine ro rfl (ok_cmp rfl rfl rfl rfl rfl rfl ?_)
  refine rn ?_
  refine wp_ifD rfl (fun c33 => ?_) (fun c33 => ?_)
  ·replace h1 := if_t c33 h1
   refine awp_skip (awp_seq ?_)
   obtain ⟨o70, h2, h1⟩ := bd_cut h1
   refine awp_joinN ⟨[(1, .p (eL eTRef more_1)), (5, .vec 44 4 (o70.map eTRef)), (6, .p (eI i32))], []⟩ ?_ ?_
   ·intro s' hle
    (repeat (first | refine uw ?_ | refine uo rfl ?_))
    refine awp_ghost hle ?_
    refine awp_reg ?_
    refine ro rfl (ok_move rfl rfl rfl rfl ?_)
    obtain ⟨h59, h1⟩ := ck_cut h1
    refine ro rfl (ok_ar rfl rfl rfl rfl rfl rfl h59 ?_)
    refine ro rfl (ok_assign rfl rfl rfl rfl ?_)
    refine rn ?_
    (repeat (first | refine uw ?_ | refine uo rfl ?_))
    exact ⟨(o70, i32 + 1), h1, ghost_le (le_mk ⟨er rfl, er rfl, er rfl, trivial⟩ trivial)⟩
   ·refine awp_block ?_
    refine awp_seq (awp_reg ?_)
    refine ro rfl (ok_assign rfl rfl rfl rfl ?_)
    refine rn ?_
    refine awp_seq (awp_seq (awp_reg ?_))
    refine ro rfl (ok_assign rfl rfl rfl rfl ?_)
    refine rn ?_
    refine awp_block ?_
    obtain ⟨o72, h3, h2⟩ := bd_cut h2
    refine awp_joinE 2 ⟨[(1, .p (eL eTRef more_1)), (5, .vec 44 4 (out31.map eTRef)), (6, .p (eI i32)), (7, .p (eB o72))], []⟩ ?_ ?_
    ·intro s' hle
     (repeat (first | refine uw ?_ | refine uo rfl ?_))
     refine awp_ghost hle ?_
     (repeat (first | refine uw ?_ | refine uo rfl ?_))
     refine awp_seq (awp_reg ?_)
     refine ro rfl (ok_move rfl rfl rfl rfl ?_)
     refine ro rfl (ok_not rfl rfl rfl rfl ?_)
     refine rn ?_
     refine wp_if rfl (fun c55 => ?_) (fun c55 => ?_)
     ·replace h2 := if_t c55 h2
      refine awp_reg ?_
      refine ro rfl (ok_move rfl rfl rfl rfl ?_)
      refine ro rfl (ok_move rfl rfl rfl rfl ?_)
      refine ro rfl (ok_move rfl rfl rfl rfl ?_)
      obtain ⟨h56, h2⟩ := ck_cut h2
      refine ro rfl (op_at (f := eTRef) (l := more_1) TRef.cs rfl rfl rfl rfl rfl rfl rfl rfl rfl h56 TRef.cells_eq (fun _ => rfl) ?_)
      refine ro rfl (ok_loadRA rfl rfl rfl rfl rfl rfl rfl ?_)
      refine ro rfl (op_bslice eTRef [(lat more_1 i32)] rfl rfl rfl rfl rfl rfl rfl rfl rfl rfl rfl rfl rfl (by first | rfl | (simp only [List.map_cons, List.map_nil, TRef.agg_eq]; done) | (simp only [List.map_cons, List.map_nil, TRef.agg_eq]; rfl)) ?_)
      obtain ⟨h57, h2⟩ := ck_cut h2
      refine ro rfl (op_appV eTRef out31 [(lat more_1 i32)] rfl rfl rfl rfl rfl rfl rfl rfl rfl rfl rfl rfl rfl (fun x => congrArg List.length (TRef.cells_eq x)) rfl rfl rfl h57 ?_)
      refine ro rfl (ok_assign rfl rfl rfl rfl ?_)
      refine rn ?_
      (repeat (first | refine uw ?_ | refine uo rfl ?_))
      have e2 := oi h2
      subst e2
      exact ghost_le (le_mk ⟨er rfl, er rfl, er rfl, trivial⟩ trivial)
     ·replace h2 := if_bf c55 h2
      refine awp_skip ?_
      (repeat (first | refine uw ?_ | refine uo rfl ?_))
      have e2 := oi h2
      subst e2
      exact ghost_le (le_mk ⟨er rfl, er rfl, er rfl, trivial⟩ trivial)
    ·skip
     refine awp_loopG (fun q74 => ⟨[(1, .p (eL eTRef more_1)), (5, .vec 44 4 (out31.map eTRef)), (6, .p (eI i32)), (7, .p (eB q74.1)), (8, .p (eI q74.2))], []⟩) (fun m (q74 : Bool × Int) => ref17_put_l2 more_1 out31 i32 m q74.1 q74.2) (fun _ => rfl) (false, 0) h3 (ghost_le (le_mk ⟨er rfl, er rfl, er rfl, er rfl, er rfl, trivial⟩ trivial)) ?_
     rintro m ⟨old42, k43⟩ h3
     replace h3 : ref17_put_l2 more_1 out31 i32 (m + 1) old42 k43 = some o72 := h3
     rw [ref17_put_l2] at h3
     refine awp_seq (awp_seq (awp_reg ?_))
     refine ro rfl (ok_move rfl rfl rfl rfl ?_)
     refine ro rfl (ok_move rfl rfl rfl rfl ?_)
     refine ro rfl (op_lenL (f := eTRef) (l := out31) rfl rfl rfl rfl rfl rfl rfl ?_)
     refine ro rfl (ok_cmp rfl rfl rfl rfl rfl rfl ?_)
     refine rn ?_
     refine wp_ifD rfl (fun c44 => ?_) (fun c44 => ?_)
     ·replace h3 := if_t c44 h3
      refine awp_skip (awp_seq ?_)
      obtain ⟨o75, h4, h3⟩ := bd_cut h3
      refine awp_joinN ⟨[(1, .p (eL eTRef more_1)), (5, .vec 44 4 (out31.map eTRef)), (6, .p (eI i32)), (7, .p (eB o75)), (8, .p (eI k43))], []⟩ ?_ ?_
      ·intro s' hle
       (repeat (first | refine uw ?_ | refine uo rfl ?_))
       refine awp_ghost hle ?_
       refine awp_reg ?_
       refine ro rfl (ok_move rfl rfl rfl rfl ?_)
       obtain ⟨h51, h3⟩ := ck_cut h3
       refine ro rfl (ok_ar rfl rfl rfl rfl rfl rfl h51 ?_)
       refine ro rfl (ok_assign rfl rfl rfl rfl ?_)
       refine rn ?_
       (repeat (first | refine uw ?_ | refine uo rfl ?_))
       exact ⟨(o75, k43 + 1), h3, ghost_le (le_mk ⟨er rfl, er rfl, er rfl, er rfl, er rfl, trivial⟩ trivial)⟩
      ·refine awp_block ?_
       refine awp_byB (b := old42) (fun c45 => ?_) (fun c45 => ?_)
       ·replace h4 := if_t c45 h4
        refine awp_ghost (ghost_le (t := ⟨[(1, .p (eL eTRef more_1)), (5, .vec 44 4 (out31.map eTRef)), (6, .p (eI i32)), (7, .p (eB old42)), (8, .p (eI k43))], []⟩) (le_mk ⟨er rfl, er rfl, er rfl, er rfl, er rfl, trivial⟩ trivial)) ?_
        refine awp_drawS ⟨1, [12], (fun _ => none), (by2 [(1, .p (eL eTRef more_1)), (5, .vec 44 4 (out31.map eTRef)), (6, .p (eI i32)), (7, .p (eB old42)), (8, .p (eI k43))] [(1, .p (eL eTRef more_1)), (5, .vec 44 4 (out31.map eTRef)), (6, .p (eI i32)), (8, .p (eI k43))]), (fun _ => [])⟩ rfl rfl rfl ⟨rfl, rfl, rfl, rfl, rfl, trivial⟩ (lt1 ⟨rfl, rfl, rfl, rfl, trivial⟩) rfl rfl rfl rfl ?_
        refine ds_pure (fun _ => .p (eB old42)) rfl rfl rfl (all2 rfl (fun _ => rfl)) (lt1 rfl) (stg_no rfl (stg_yes [(7, _)] ⟨.inl rfl, trivial⟩ (fun sl hsl K hK => one_op rfl (ok_move rfl rfl rfl (hsl _ _ rfl) hK)) stg_nil)) ?_
        refine ds_pure (fun _ => .p (eB old42)) rfl rfl rfl (all2 rfl (fun _ => rfl)) (lt1 rfl) (stg_no rfl (stg_yes [(24, _)] ⟨.inr ⟨0, _, rfl, rfl, rfl⟩, trivial⟩ (fun sl hsl K hK => one_op rfl (ok_move rfl rfl rfl (hsl _ _ rfl) hK)) stg_nil)) ?_
        refine ds_pure (fun _ => .p (.val (.tuple #[]))) rfl rfl rfl (all2 rfl (fun _ => rfl)) (lt1 rfl) (stg_no rfl (stg_yes [(5, _), (25, _)] ⟨.inl rfl, .inr ⟨1, _, rfl, rfl, rfl⟩, trivial⟩ (fun sl hsl K hK => one_no rfl rfl (hsl _ _ rfl) (c45) rfl rfl hK) stg_nil)) ?_
        refine ds_pure (fun _ => .p (.val (.tuple #[]))) rfl rfl rfl (all2 rfl (fun _ => rfl)) (lt1 rfl) (stg_no rfl (stg_yes [(8, _), (25, _)] ⟨.inl rfl, .inr ⟨1, _, rfl, rfl, rfl⟩, trivial⟩ (fun sl hsl K hK => one_no rfl rfl (hsl _ _ rfl) (c45) rfl rfl hK) stg_nil)) ?_
        refine ds_pure (fun _ => .p (.val (.tuple #[]))) rfl rfl rfl (all2 rfl (fun _ => rfl)) (lt1 rfl) (stg_no rfl (stg_yes [(25, _), (26, _), (27, _)] ⟨.inr ⟨1, _, rfl, rfl, rfl⟩, .inr ⟨2, _, rfl, rfl, rfl⟩, .inr ⟨3, _, rfl, rfl, rfl⟩, trivial⟩ (fun sl hsl K hK => one_no rfl rfl (hsl _ _ rfl) (c45) rfl rfl hK) stg_nil)) ?_
        refine ds_pure (fun _ => .p (.val (.tuple #[]))) rfl rfl rfl (all2 rfl (fun _ => rfl)) (lt1 rfl) (stg_no rfl (stg_yes [(25, _), (28, _)] ⟨.inr ⟨1, _, rfl, rfl, rfl⟩, .inr ⟨4, _, rfl, rfl, rfl⟩, trivial⟩ (fun sl hsl K hK => one_no rfl rfl (hsl _ _ rfl) (c45) rfl rfl hK) stg_nil)) ?_
        refine ds_pure (fun _ => .p (.val (.tuple #[]))) rfl rfl rfl (all2 rfl (fun _ => rfl)) (lt1 rfl) (stg_no rfl (stg_yes [(1, _), (25, _)] ⟨.inl rfl, .inr ⟨1, _, rfl, rfl, rfl⟩, trivial⟩ (fun sl hsl K hK => one_no rfl rfl (hsl _ _ rfl) (c45) rfl rfl hK) stg_nil)) ?_
        refine ds_pure (fun _ => .p (.val (.tuple #[]))) rfl rfl rfl (all2 rfl (fun _ => rfl)) (lt1 rfl) (stg_no rfl (stg_yes [(6, _), (25, _)] ⟨.inl rfl, .inr ⟨1, _, rfl, rfl, rfl⟩, trivial⟩ (fun sl hsl K hK => one_no rfl rfl (hsl _ _ rfl) (c45) rfl rfl hK) stg_nil)) ?_
        refine ds_pure (fun _ => .p (.val (.tuple #[]))) rfl rfl rfl (all2 rfl (fun _ => rfl)) (lt1 rfl) (stg_no rfl (stg_yes [(25, _), (30, _), (31, _)] ⟨.inr ⟨1, _, rfl, rfl, rfl⟩, .inr ⟨6, _, rfl, rfl, rfl⟩, .inr ⟨7, _, rfl, rfl, rfl⟩, trivial⟩ (fun sl hsl K hK => one_no rfl rfl (hsl _ _ rfl) (c45) rfl rfl hK) stg_nil)) ?_
        refine ds_pure (fun _ => .p (.val (.tuple #[]))) rfl rfl rfl (all2 rfl (fun _ => rfl)) (lt1 rfl) (stg_no rfl (stg_yes [(25, _), (32, _)] ⟨.inr ⟨1, _, rfl, rfl, rfl⟩, .inr ⟨8, _, rfl, rfl, rfl⟩, trivial⟩ (fun sl hsl K hK => one_no rfl rfl (hsl _ _ rfl) (c45) rfl rfl hK) stg_nil)) ?_
        refine ds_pure (fun _ => .p (.val (.tuple #[]))) rfl rfl rfl (all2 rfl (fun _ => rfl)) (lt1 rfl) (stg_no rfl (stg_yes [(25, _), (29, _), (33, _)] ⟨.inr ⟨1, _, rfl, rfl, rfl⟩, .inr ⟨5, _, rfl, rfl, rfl⟩, .inr ⟨9, _, rfl, rfl, rfl⟩, trivial⟩ (fun sl hsl K hK => one_no rfl rfl (hsl _ _ rfl) (c45) rfl rfl hK) stg_nil)) ?_
        refine ds_pure (fun _ => .p (eB true)) rfl rfl rfl (all2 rfl (fun _ => rfl)) (lt1 rfl) (stg_no rfl (stg_yes [(25, _), (34, _)] ⟨.inr ⟨1, _, rfl, rfl, rfl⟩, .inr ⟨10, _, rfl, rfl, rfl⟩, trivial⟩ (fun sl hsl K hK => one_op rfl (ok_pick_true rfl rfl rfl (hsl _ _ rfl) (c45) rfl hK)) stg_nil)) ?_
        refine ds_imp (fun _ => .p (eB true)) [(35, _)] rfl ⟨.inr ⟨11, _, rfl, rfl, rfl⟩, trivial⟩ rfl rfl (fun _ => rfl) (lt1 (fun h => absurd h (by decide))) (fun sl hsl K hK => one_op rfl (ok_assign rfl rfl rfl (hsl _ _ rfl) hK)) ?_
        refine ds_nil ?_
        (repeat (first | refine uw ?_ | refine uo rfl ?_))
        have e4 := oi h4
        subst e4
        exact ghost_le (le_mk ⟨er rfl, er rfl, er rfl, er rfl, er rfl, trivial⟩ trivial)
       ·replace h4 := if_bf c45 h4
        obtain ⟨h46, h4⟩ := ck_cut h4
        obtain ⟨h47, h4⟩ := ck_cut h4
        obtain ⟨r48, e49, h4⟩ := bd_cut h4
        refine awp_ghost (ghost_le (t := ⟨[(1, .p (eL eTRef more_1)), (5, .vec 44 4 (out31.map eTRef)), (6, .p (eI i32)), (7, .p (eB old42)), (8, .p (eI k43))], []⟩) (le_mk ⟨er rfl, er rfl, er rfl, er rfl, er rfl, trivial⟩ trivial)) ?_
        refine awp_drawS ⟨1, [12], (fun _ => none), (by2 [(1, .p (eL eTRef more_1)), (5, .vec 44 4 (out31.map eTRef)), (6, .p (eI i32)), (7, .p (eB old42)), (8, .p (eI k43))] [(1, .p (eL eTRef more_1)), (5, .vec 44 4 (out31.map eTRef)), (6, .p (eI i32)), (8, .p (eI k43))]), (fun _ => [])⟩ rfl rfl rfl ⟨rfl, rfl, rfl, rfl, rfl, trivial⟩ (lt1 ⟨rfl, rfl, rfl, rfl, trivial⟩) rfl rfl rfl rfl ?_
        refine ds_pure (fun _ => .p (eB old42)) rfl rfl rfl (all2 rfl (fun _ => rfl)) (lt1 rfl) (stg_no rfl (stg_yes [(7, _)] ⟨.inl rfl, trivial⟩ (fun sl hsl K hK => one_op rfl (ok_move rfl rfl rfl (hsl _ _ rfl) hK)) stg_nil)) ?_
        refine ds_pure (fun _ => .p (eB old42)) rfl rfl rfl (all2 rfl (fun _ => rfl)) (lt1 rfl) (stg_no rfl (stg_yes [(24, _)] ⟨.inr ⟨0, _, rfl, rfl, rfl⟩, trivial⟩ (fun sl hsl K hK => one_op rfl (ok_move rfl rfl rfl (hsl _ _ rfl) hK)) stg_nil)) ?_
        refine ds_pure (fun _ => .vec 44 4 (out31.map eTRef)) rfl rfl rfl (all2 rfl (fun _ => rfl)) (lt1 rfl) (stg_no rfl (stg_yes [(5, _), (25, _)] ⟨.inl rfl, .inr ⟨1, _, rfl, rfl, rfl⟩, trivial⟩ (fun sl hsl K hK => one_yes (ok_move rfl rfl rfl (hsl _ _ rfl) hK) rfl rfl (hsl _ _ rfl) (c45)) stg_nil)) ?_
        refine ds_pure (fun _ => .p (eI k43)) rfl rfl rfl (all2 rfl (fun _ => rfl)) (lt1 rfl) (stg_no rfl (stg_yes [(8, _), (25, _)] ⟨.inl rfl, .inr ⟨1, _, rfl, rfl, rfl⟩, trivial⟩ (fun sl hsl K hK => one_yes (ok_move rfl rfl rfl (hsl _ _ rfl) hK) rfl rfl (hsl _ _ rfl) (c45)) stg_nil)) ?_
        refine ds_pure (fun _ => .rptr (TRef.cs (lat out31 k43))) rfl rfl rfl (all2 rfl (fun _ => rfl)) (lt1 rfl) (stg_no rfl (stg_yes [(25, _), (26, _), (27, _)] ⟨.inr ⟨1, _, rfl, rfl, rfl⟩, .inr ⟨2, _, rfl, rfl, rfl⟩, .inr ⟨3, _, rfl, rfl, rfl⟩, trivial⟩ (fun sl hsl K hK => one_yes (op_at (f := eTRef) (l := out31) TRef.cs rfl rfl rfl rfl rfl rfl (hsl _ _ rfl) rfl (hsl _ _ rfl) h46 TRef.cells_eq (fun _ => rfl) hK) rfl rfl (hsl _ _ rfl) (c45)) stg_nil)) ?_
        refine ds_pure (fun _ => .p (.agg (TRef.cs (lat out31 k43)))) rfl rfl rfl (all2 rfl (fun _ => rfl)) (lt1 rfl) (stg_no rfl (stg_yes [(25, _), (28, _)] ⟨.inr ⟨1, _, rfl, rfl, rfl⟩, .inr ⟨4, _, rfl, rfl, rfl⟩, trivial⟩ (fun sl hsl K hK => one_yes (ok_loadRA rfl rfl rfl rfl rfl (hsl _ _ rfl) rfl hK) rfl rfl (hsl _ _ rfl) (c45)) stg_nil)) ?_
        refine ds_pure (fun _ => .p (eL eTRef more_1)) rfl rfl rfl (all2 rfl (fun _ => rfl)) (lt1 rfl) (stg_no rfl (stg_yes [(1, _), (25, _)] ⟨.inl rfl, .inr ⟨1, _, rfl, rfl, rfl⟩, trivial⟩ (fun sl hsl K hK => one_yes (ok_move rfl rfl rfl (hsl _ _ rfl) hK) rfl rfl (hsl _ _ rfl) (c45)) stg_nil)) ?_
        refine ds_pure (fun _ => .p (eI i32)) rfl rfl rfl (all2 rfl (fun _ => rfl)) (lt1 rfl) (stg_no rfl (stg_yes [(6, _), (25, _)] ⟨.inl rfl, .inr ⟨1, _, rfl, rfl, rfl⟩, trivial⟩ (fun sl hsl K hK => one_yes (ok_move rfl rfl rfl (hsl _ _ rfl) hK) rfl rfl (hsl _ _ rfl) (c45)) stg_nil)) ?_
        refine ds_pure (fun _ => .rptr (TRef.cs (lat more_1 i32))) rfl rfl rfl (all2 rfl (fun _ => rfl)) (lt1 rfl) (stg_no rfl (stg_yes [(25, _), (30, _), (31, _)] ⟨.inr ⟨1, _, rfl, rfl, rfl⟩, .inr ⟨6, _, rfl, rfl, rfl⟩, .inr ⟨7, _, rfl, rfl, rfl⟩, trivial⟩ (fun sl hsl K hK => one_yes (op_at (f := eTRef) (l := more_1) TRef.cs rfl rfl rfl rfl rfl rfl (hsl _ _ rfl) rfl (hsl _ _ rfl) h47 TRef.cells_eq (fun _ => rfl) hK) rfl rfl (hsl _ _ rfl) (c45)) stg_nil)) ?_
        refine ds_pure (fun _ => .p (.agg (TRef.cs (lat more_1 i32)))) rfl rfl rfl (all2 rfl (fun _ => rfl)) (lt1 rfl) (stg_no rfl (stg_yes [(25, _), (32, _)] ⟨.inr ⟨1, _, rfl, rfl, rfl⟩, .inr ⟨8, _, rfl, rfl, rfl⟩, trivial⟩ (fun sl hsl K hK => one_yes (ok_loadRA rfl rfl rfl rfl rfl (hsl _ _ rfl) rfl hK) rfl rfl (hsl _ _ rfl) (c45)) stg_nil)) ?_
        refine ds_pure (fun _ => .p (eB r48)) rfl rfl rfl (all2 rfl (fun _ => rfl)) (lt1 rfl) (stg_no rfl (stg_yes [(25, _), (29, _), (33, _)] ⟨.inr ⟨1, _, rfl, rfl, rfl⟩, .inr ⟨5, _, rfl, rfl, rfl⟩, .inr ⟨9, _, rfl, rfl, rfl⟩, trivial⟩ (fun sl hsl K hK => one_yes (ok_callP (ref17_Same_ok (lat out31 k43) (lat more_1 i32) _ e49) rfl rfl rfl (args_cons (hsl _ _ rfl) (args_cons (hsl _ _ rfl) args_nil)) ⟨sr, sr, trivial⟩ Try.call18 rfl hK) rfl rfl (hsl _ _ rfl) (c45)) stg_nil)) ?_
        refine ds_pure (fun _ => .p (eB r48)) rfl rfl rfl (all2 rfl (fun _ => rfl)) (lt1 rfl) (stg_no rfl (stg_yes [(25, _), (34, _)] ⟨.inr ⟨1, _, rfl, rfl, rfl⟩, .inr ⟨10, _, rfl, rfl, rfl⟩, trivial⟩ (fun sl hsl K hK => one_op rfl (ok_pick_false rfl rfl rfl (hsl _ _ rfl) (c45) (hsl _ _ rfl) hK)) stg_nil)) ?_
        refine ds_imp (fun _ => .p (eB r48)) [(35, _)] rfl ⟨.inr ⟨11, _, rfl, rfl, rfl⟩, trivial⟩ rfl rfl (fun _ => rfl) (lt1 (fun h => absurd h (by decide))) (fun sl hsl K hK => one_op rfl (ok_assign rfl rfl rfl (hsl _ _ rfl) hK)) ?_
        refine ds_nil ?_
        (repeat (first | refine uw ?_ | refine uo rfl ?_))
        have e4 := oi h4
        subst e4
        exact ghost_le (le_mk ⟨er rfl, er rfl, er rfl, er rfl, er rfl, trivial⟩ trivial)
     ·replace h3 := if_f c44 h3
      refine awp_exit ?_
      (repeat (first | refine uw ?_ | refine uo rfl ?_))
      have e3 := oi h3
      subst e3
      exact ghost_le (le_mk ⟨er rfl, er rfl, er rfl, er rfl, trivial⟩ trivial)
  ·replace h1 := if_f c33 h1
   refine awp_exit ?_
   (repeat (first | refine uw ?_ | refine uo rfl ?_))
   have e1 := oi h1
   subst e1
   exact ghost_le (le_mk ⟨er rfl, trivial⟩ trivial)

def ref17_all_l1 (n : Nat) (r_ref17_of : TExpr → (List Bytes) → Option (List TRef)) (l_0 : List TExpr) (bound_1 : List Bytes) : Nat → (List TRef) → Int → Option (List TRef)
 | 0, _, _ => none
 | m + 1, out10, i11 =>
 if i11 < (l_0.length : Int) then
  ck ((0 : Int) ≤ i11 ∧ i11 < (l_0.length : Int)) <|
  (r_ref17_of (lat l_0 i11) bound_1).bind fun r14 =>
  (ref17_put n out10 r14).bind fun r16 =>
  ck (inR (i11 + 1)) <|
  ref17_all_l1 n r_ref17_of l_0 bound_1 m r16 (i11 + 1)
 else
  some out10

mutual
def ref17_of : Nat → TExpr → (List Bytes) → Option (List TRef)
 | 0, _, _ => none
 | n + 1, e_0, bound_1 =>
 (
   if e_0.fKind = 3 then
    some (decide (e_0.fKind = 3))
   else
    if e_0.fKind = 4 then
     some (decide (e_0.fKind = 4))
    else
     some (decide (e_0.fKind = 5))
  : Option Bool).bind fun t3 =>
 if t3 = true then
  (ref17_chain n e_0).bind fun r5 =>
  (
    if r5.fRoot.fKind = 3 then
     (ref17_has n bound_1 r5.fRoot.fName).bind fun r8 =>
     if (!r8) = true then
      (ref17_Chain_ref (TChain.mk r5.fRoot r5.fNames r5.fStep r5.fKids)).bind fun r11 =>
      ck ([r11.1].length * 48 ≤ 140737488355328) <|
      some [r11.1]
     else
      some []
    else
     ((ref17_of n) r5.fRoot bound_1).bind fun r14 =>
     some r14
   : Option (List TRef)).bind fun out16 =>
  ((ref17_all n) r5.fKids bound_1).bind fun r17 =>
  (ref17_put n out16 r17).bind fun r19 =>
  some r19
 else
  (
    if e_0.fKind = 12 then
     some (decide (e_0.fKind = 12))
    else
     some (decide (e_0.fKind = 13))
   : Option Bool).bind fun t22 =>
  if t22 = true then
   if (e_0.fKids.length : Int) = 0 then
    some []
   else
    ck ((0 : Int) ≤ 0 ∧ 0 < (e_0.fKids.length : Int)) <|
    ((ref17_of n) (lat e_0.fKids 0) bound_1).bind fun r26 =>
    ck (bound_1.length * 16 ≤ 140737488355328) <|
    ck ((bound_1.length + [e_0.fName].length) * 16 ≤ 140737488355328) <|
    (
      if e_0.fKey = ([] : Bytes) then
       some (bound_1 ++ [e_0.fName])
      else
       ck (((bound_1 ++ [e_0.fName]).length + [e_0.fKey].length) * 16 ≤ 140737488355328) <|
       some ((bound_1 ++ [e_0.fName]) ++ [e_0.fKey])
     : Option (List Bytes)).bind fun inner32 =>
    ck ((0 : Int) ≤ 1 ∧ 1 ≤ (e_0.fKids.length : Int) ∧ (e_0.fKids.length : Int) ≤ (e_0.fKids.length : Int)) <|
    ((ref17_all n) (sub e_0.fKids 1 (e_0.fKids.length : Int)) inner32).bind fun r34 =>
    (ref17_put n r26 r34).bind fun r36 =>
    some r36
  else
   ((ref17_all n) e_0.fKids bound_1).bind fun r38 =>
   some r38
def ref17_all : Nat → (List TExpr) → (List Bytes) → Option (List TRef)
 | 0, _, _ => none
 | n + 1, l_0, bound_1 =>
 (ref17_all_l1 n (ref17_of n) l_0 bound_1 n [] 0).bind fun out21 =>
 some out21
end

set_option maxHeartbeats 4000000 in
theorem ref17_of_all (n : Nat) : (∀ (e_0 : TExpr) (bound_1 : List Bytes) (r : (List TRef)), ref17_of n e_0 bound_1 = some r → PCalls Try.prog 38 [.agg (TExpr.cs e_0), eL eS bound_1] (· = .p (eL eTRef r))) ∧ (∀ (l_0 : List TExpr) (bound_1 : List Bytes) (r : (List TRef)), ref17_all n l_0 bound_1 = some r → PCalls Try.prog 56 [eL eTExpr l_0, eL eS bound_1] (· = .p (eL eTRef r))) := by
 induction n with
 | zero => exact ⟨(by intro e_0 bound_1 r h0; cases h0), (by intro l_0 bound_1 r h0; cases h0)⟩
 | succ n ih =>
 obtain ⟨ih_ref17_of_ok, ih_ref17_all_ok⟩ := ih
 refine ⟨?_, ?_⟩
 ·skip
  intro e_0 bound_1 r h0
  rw [ref17_of] at h0
  refine pbodyA good Try.func38 rfl rfl rfl fun w0 => ?_
  refine awp_seq (awp_reg ?_)
  refine ro rfl (ok_box rfl rfl rfl rfl rfl ?_)
  refine ro rfl (ok_assign rfl rfl rfl rfl ?_)
  refine rn ?_
  refine awp_seq (awp_seq (awp_reg ?_))
  refine ro rfl (ok_fieldAddrP rfl rfl rfl rfl rfl rfl rfl rfl rfl ?_)
  refine ro rfl (ok_loadP1 rfl rfl rfl rfl rfl rfl rfl rfl ?_)
  refine rn ?_
  refine awp_block (awp_seq ?_)
  obtain ⟨o44, h1, h0⟩ := bd_cut h0
  refine awp_joinN ⟨[(1, .p (eL eS bound_1)), (2, .ptr 2 0), (12, .p (eI e_0.fKind)), (13, .p (eB o44))], [(2, [.p (eI e_0.fKind), .p (eI e_0.fOp), .p (eS e_0.fName), .p (eS e_0.fKey), .p (eI e_0.fValue.fKind), .p (eI e_0.fValue.fNum), .p (eS e_0.fValue.fStr), .p (eL eTValue e_0.fValue.fItems), .p (eL eS e_0.fValue.fKeys), .p (eL eTExpr e_0.fKids), .p (eI e_0.fAt)])]⟩ ?_ ?_
  ·intro s' hle
   (repeat (first | refine uw ?_ | refine uo rfl ?_))
   refine awp_ghost hle ?_
   refine wp_if rfl (fun c4 => ?_) (fun c4 => ?_)
   ·replace h0 := if_t c4 h0
    refine awp_seq (awp_reg ?_)
    refine ro rfl (ok_loadPA rfl rfl rfl rfl rfl rfl rfl rfl rfl ?_)
    obtain ⟨r5, e6, h0⟩ := bd_cut h0
    refine ro rfl (op_callV [] [] 101000 101003 (ref17_chain_ok _ e_0 _ e6) rfl rfl rfl rfl rfl ⟨sr, trivial⟩ rfl rfl trivial rfl rfl rfl rfl rfl rfl rfl rfl Try.call35 rfl rfl ?_)
    refine ro rfl (ok_alloc rfl rfl rfl rfl rfl ?_)
    refine ro rfl (ok_store rfl rfl rfl rfl rfl rfl rfl rfl (Nat.le_of_ble_eq_true rfl) ?_)
    refine rn ?_
    refine awp_seq (awp_reg ?_)
    refine ro rfl (ok_assign rfl rfl rfl rfl ?_)
    refine rn ?_
    refine awp_seq ?_
    obtain ⟨o46, h1, h0⟩ := bd_cut h0
    refine awp_joinN ⟨[(1, .p (eL eS bound_1)), (5, .ptr 5 0), (6, .p (eL eTRef o46))], [(5, [.p (eI r5.fRoot.fKind), .p (eI r5.fRoot.fOp), .p (eS r5.fRoot.fName), .p (eS r5.fRoot.fKey), .p (eI r5.fRoot.fValue.fKind), .p (eI r5.fRoot.fValue.fNum), .p (eS r5.fRoot.fValue.fStr), .p (eL eTValue r5.fRoot.fValue.fItems), .p (eL eS r5.fRoot.fValue.fKeys), .p (eL eTExpr r5.fRoot.fKids), .p (eI r5.fRoot.fAt), .vec 101000 1 (r5.fNames.map eS), .vec 101001 1 (r5.fStep.map eB), .vec 101002 11 (r5.fKids.map eTExpr)])]⟩ ?_ ?_
    ·intro s' hle
     (repeat (first | refine uw ?_ | refine uo rfl ?_))
     refine awp_ghost hle ?_
     refine awp_seq (awp_reg ?_)
     refine ro rfl (ok_move rfl rfl rfl rfl ?_)
     refine ro rfl (ok_fieldAddrP rfl rfl rfl rfl rfl rfl rfl rfl rfl ?_)
     refine ro rfl (ok_loadP1 rfl rfl rfl rfl rfl rfl rfl rfl ?_)
     refine ro rfl (ok_move rfl rfl rfl rfl ?_)
     obtain ⟨r17, e18, h0⟩ := bd_cut h0
     refine ro rfl (ok_callP (ih_ref17_all_ok r5.fKids bound_1 _ e18) rfl rfl rfl rfl ⟨AV.sub_vec _ _ _, sr, trivial⟩ Try.call56 rfl ?_)
     obtain ⟨r19, e20, h0⟩ := bd_cut h0
     refine ro rfl (ok_callP (ref17_put_ok _ o46 r17 _ e20) rfl rfl rfl rfl ⟨sr, sr, trivial⟩ Try.call55 rfl ?_)
     refine ro rfl (ok_assign rfl rfl rfl rfl ?_)
     refine rn ?_
     refine awp_ret ?_
     (repeat (first | refine uw ?_ | refine uo rfl ?_))
     have e0 := oi h0
     subst e0
     refine reta_mk rfl ?_
     exact sr
    ·skip
     refine awp_seq (awp_reg ?_)
     refine ro rfl (ok_fieldAddrP rfl rfl rfl rfl rfl rfl rfl rfl rfl ?_)
     refine ro rfl (ok_fieldAddrP rfl rfl rfl rfl rfl rfl rfl rfl rfl ?_)
     refine ro rfl (ok_loadP1 rfl rfl rfl rfl rfl rfl rfl rfl ?_)
     refine ro rfl (ok_cmp rfl rfl rfl rfl rfl rfl ?_)
     refine rn ?_
     refine wp_ifD rfl (fun c7 => ?_) (fun c7 => ?_)
     ·replace h1 := if_t c7 h1
      refine awp_seq (awp_reg ?_)
      refine ro rfl (ok_move rfl rfl rfl rfl ?_)
      refine ro rfl (ok_fieldAddrP rfl rfl rfl rfl rfl rfl rfl rfl rfl ?_)
      refine ro rfl (ok_fieldAddrP rfl rfl rfl rfl rfl rfl rfl rfl rfl ?_)
      refine ro rfl (ok_loadP1 rfl rfl rfl rfl rfl rfl rfl rfl ?_)
      obtain ⟨r8, e9, h1⟩ := bd_cut h1
      refine ro rfl (ok_callP (ref17_has_ok _ bound_1 r5.fRoot.fName _ e9) rfl rfl rfl rfl ⟨sr, sr, trivial⟩ Try.call54 rfl ?_)
      refine ro rfl (ok_not rfl rfl rfl rfl ?_)
      refine rn ?_
      refine wp_if rfl (fun c10 => ?_) (fun c10 => ?_)
      ·replace h1 := if_t c10 h1
       refine awp_seq (awp_reg ?_)
       refine ro rfl (ok_loadPA rfl rfl rfl rfl rfl rfl rfl rfl rfl ?_)
       obtain ⟨r11, e12, h1⟩ := bd_cut h1
       refine ro rfl (ok_callP (ref17_Chain_ref_ok (TChain.mk r5.fRoot r5.fNames r5.fStep r5.fKids) _ e12) rfl rfl rfl rfl ⟨sub_aggs ⟨sr, sr, sr, sr, sr, sr, sr, sr, sr, sr, sr, AV.sub_vec _ _ _, AV.sub_vec _ _ _, AV.sub_vec _ _ _, trivial⟩, trivial⟩ Try.call36 rfl ?_)
       refine ro rfl (ok_move rfl rfl rfl rfl ?_)
       refine ro rfl (ok_extract rfl rfl rfl rfl rfl ?_)
       refine ro rfl (ok_extract rfl rfl rfl rfl rfl ?_)
       refine ro rfl (ok_alloc rfl rfl rfl rfl rfl ?_)
       refine ro rfl (ok_store rfl rfl rfl rfl rfl rfl rfl rfl (Nat.le_of_ble_eq_true rfl) ?_)
       refine ro rfl (ok_assign rfl rfl rfl rfl ?_)
       refine rn ?_
       refine awp_reg ?_
       refine ro rfl (ok_move rfl rfl rfl rfl ?_)
       refine ro rfl (ok_loadPA rfl rfl rfl rfl rfl rfl rfl rfl rfl ?_)
       refine ro rfl (op_bslice eTRef [r11.1] rfl rfl rfl rfl rfl rfl rfl rfl rfl rfl rfl rfl rfl (by first | rfl | (simp only [List.map_cons, List.map_nil, TRef.agg_eq]; done) | (simp only [List.map_cons, List.map_nil, TRef.agg_eq]; rfl)) ?_)
       obtain ⟨h13, h1⟩ := ck_cut h1
       refine ro rfl (op_appN eTRef [r11.1] rfl rfl rfl rfl rfl rfl rfl rfl rfl rfl rfl (fun x => congrArg List.length (TRef.cells_eq x)) rfl rfl rfl h13 ?_)
       refine ro rfl (ok_assign rfl rfl rfl rfl ?_)
       refine rn ?_
       (repeat (first | refine uw ?_ | refine uo rfl ?_))
       have e1 := oi h1
       subst e1
       exact ghost_le (le_mk ⟨er rfl, er rfl, ⟨_, rfl, AV.sub_vec _ _ _⟩, trivial⟩ ⟨⟨_, rfl, ⟨sr, sr, sr, sr, sr, sr, sr, sr, sr, sr, sr, sr, sr, sr, trivial⟩⟩, trivial⟩)
      ·replace h1 := if_bf c10 h1
       refine awp_skip ?_
       (repeat (first | refine uw ?_ | refine uo rfl ?_))
       have e1 := oi h1
       subst e1
       exact ghost_le (le_mk ⟨er rfl, er rfl, ⟨_, rfl, sub_nilL _⟩, trivial⟩ ⟨⟨_, rfl, ⟨sr, sr, sr, sr, sr, sr, sr, sr, sr, sr, sr, sr, sr, sr, trivial⟩⟩, trivial⟩)
     ·replace h1 := if_f c7 h1
      refine awp_reg ?_
      refine ro rfl (ok_fieldAddrP rfl rfl rfl rfl rfl rfl rfl rfl rfl ?_)
      refine ro rfl (ok_loadPA rfl rfl rfl rfl rfl rfl rfl rfl rfl ?_)
      refine ro rfl (ok_move rfl rfl rfl rfl ?_)
      obtain ⟨r14, e15, h1⟩ := bd_cut h1
      refine ro rfl (ok_callP (ih_ref17_of_ok r5.fRoot bound_1 _ e15) rfl rfl rfl rfl ⟨sr, sr, trivial⟩ Try.call38 rfl ?_)
      refine ro rfl (ok_assign rfl rfl rfl rfl ?_)
      refine rn ?_
      (repeat (first | refine uw ?_ | refine uo rfl ?_))
      have e1 := oi h1
      subst e1
      exact ghost_le (le_mk ⟨er rfl, er rfl, er rfl, trivial⟩ ⟨⟨_, rfl, ⟨sr, sr, sr, sr, sr, sr, sr, sr, sr, sr, sr, sr, sr, sr, trivial⟩⟩, trivial⟩)
   ·replace h0 := if_bf c4 h0
    refine awp_seq ?_
    obtain ⟨o48, h1, h0⟩ := bd_cut h0
    refine awp_joinN ⟨[(1, .p (eL eS bound_1)), (2, .ptr 2 0), (48, .p (eB o48))], [(2, [.p (eI e_0.fKind), .p (eI e_0.fOp), .p (eS e_0.fName), .p (eS e_0.fKey), .p (eI e_0.fValue.fKind), .p (eI e_0.fValue.fNum), .p (eS e_0.fValue.fStr), .p (eL eTValue e_0.fValue.fItems), .p (eL eS e_0.fValue.fKeys), .p (eL eTExpr e_0.fKids), .p (eI e_0.fAt)])]⟩ ?_ ?_
    ·intro s' hle
     (repeat (first | refine uw ?_ | refine uo rfl ?_))
     refine awp_ghost hle ?_
     refine wp_if rfl (fun c23 => ?_) (fun c23 => ?_)
     ·replace h0 := if_t c23 h0
      refine awp_seq (awp_seq (awp_reg ?_))
      refine ro rfl (ok_fieldAddrP rfl rfl rfl rfl rfl rfl rfl rfl rfl ?_)
      refine ro rfl (ok_loadP1 rfl rfl rfl rfl rfl rfl rfl rfl ?_)
      refine ro rfl (op_lenL (f := eTExpr) (l := e_0.fKids) rfl rfl rfl rfl rfl rfl rfl ?_)
      refine ro rfl (ok_cmp rfl rfl rfl rfl rfl rfl ?_)
      refine rn ?_
      refine wp_ifD rfl (fun c24 => ?_) (fun c24 => ?_)
      ·replace h0 := if_t c24 h0
       refine awp_seq (awp_reg ?_)
       refine ro rfl (ok_assign rfl rfl rfl rfl ?_)
       refine rn ?_
       refine awp_ret ?_
       (repeat (first | refine uw ?_ | refine uo rfl ?_))
       have e0 := oi h0
       subst e0
       refine reta_mk rfl ?_
       exact sub_nilL _
      ·replace h0 := if_f c24 h0
       refine awp_skip (awp_seq (awp_reg ?_))
       refine ro rfl (ok_fieldAddrP rfl rfl rfl rfl rfl rfl rfl rfl rfl ?_)
       refine ro rfl (ok_loadP1 rfl rfl rfl rfl rfl rfl rfl rfl ?_)
       obtain ⟨h25, h0⟩ := ck_cut h0
       refine ro rfl (op_at (f := eTExpr) (l := e_0.fKids) TExpr.cs rfl rfl rfl rfl rfl rfl rfl rfl rfl h25 TExpr.cells_eq (fun _ => rfl) ?_)
       refine ro rfl (ok_loadRA rfl rfl rfl rfl rfl rfl rfl ?_)
       refine ro rfl (ok_move rfl rfl rfl rfl ?_)
       obtain ⟨r26, e27, h0⟩ := bd_cut h0
       refine ro rfl (ok_callP (ih_ref17_of_ok (lat e_0.fKids 0) bound_1 _ e27) rfl rfl rfl rfl ⟨sr, sr, trivial⟩ Try.call38 rfl ?_)
       refine ro rfl (ok_assign rfl rfl rfl rfl ?_)
       refine rn ?_
       refine awp_seq (awp_reg ?_)
       refine ro rfl (ok_assign rfl rfl rfl rfl ?_)
       refine rn ?_
       refine awp_seq (awp_reg ?_)
       refine ro rfl (ok_move rfl rfl rfl rfl ?_)
       refine ro rfl (ok_move rfl rfl rfl rfl ?_)
       obtain ⟨h28, h0⟩ := ck_cut h0
       refine ro rfl (op_appN eS bound_1 rfl rfl rfl rfl rfl rfl rfl rfl rfl rfl rfl (fun _ => rfl) rfl rfl rfl h28 ?_)
       refine ro rfl (ok_assign rfl rfl rfl rfl ?_)
       refine rn ?_
       refine awp_seq (awp_reg ?_)
       refine ro rfl (ok_move rfl rfl rfl rfl ?_)
       refine ro rfl (ok_fieldAddrP rfl rfl rfl rfl rfl rfl rfl rfl rfl ?_)
       refine ro rfl (ok_loadP1 rfl rfl rfl rfl rfl rfl rfl rfl ?_)
       refine ro rfl (op_bslice eS [e_0.fName] rfl rfl rfl rfl rfl rfl rfl rfl rfl rfl rfl rfl rfl rfl ?_)
       obtain ⟨h29, h0⟩ := ck_cut h0
       refine ro rfl (op_appV eS bound_1 [e_0.fName] rfl rfl rfl rfl rfl rfl rfl rfl rfl rfl rfl rfl rfl (fun _ => rfl) rfl rfl rfl h29 ?_)
       refine ro rfl (ok_assign rfl rfl rfl rfl ?_)
       refine rn ?_
       refine awp_seq ?_
       obtain ⟨o50, h1, h0⟩ := bd_cut h0
       refine awp_joinN ⟨[(2, .ptr 2 0), (9, .p (eL eTRef r26)), (10, .vec 76 1 (o50.map eS))], [(2, [.p (eI e_0.fKind), .p (eI e_0.fOp), .p (eS e_0.fName), .p (eS e_0.fKey), .p (eI e_0.fValue.fKind), .p (eI e_0.fValue.fNum), .p (eS e_0.fValue.fStr), .p (eL eTValue e_0.fValue.fItems), .p (eL eS e_0.fValue.fKeys), .p (eL eTExpr e_0.fKids), .p (eI e_0.fAt)])]⟩ ?_ ?_
       ·intro s' hle
        (repeat (first | refine uw ?_ | refine uo rfl ?_))
        refine awp_ghost hle ?_
        refine awp_seq (awp_reg ?_)
        refine ro rfl (ok_move rfl rfl rfl rfl ?_)
        refine ro rfl (ok_fieldAddrP rfl rfl rfl rfl rfl rfl rfl rfl rfl ?_)
        refine ro rfl (ok_loadP1 rfl rfl rfl rfl rfl rfl rfl rfl ?_)
        obtain ⟨h33, h0⟩ := ck_cut h0
        refine ro rfl (op_sliceL (f := eTExpr) (l := e_0.fKids) rfl rfl rfl rfl rfl rfl rfl rfl rfl rfl h33 (fun x => congrArg List.length (TExpr.cells_eq x)) ?_)
        refine ro rfl (ok_move rfl rfl rfl rfl ?_)
        obtain ⟨r34, e35, h0⟩ := bd_cut h0
        refine ro rfl (ok_callP (ih_ref17_all_ok (sub e_0.fKids 1 (e_0.fKids.length : Int)) o50 _ e35) rfl rfl rfl rfl ⟨sr, AV.sub_vec _ _ _, trivial⟩ Try.call56 rfl ?_)
        obtain ⟨r36, e37, h0⟩ := bd_cut h0
        refine ro rfl (ok_callP (ref17_put_ok _ r26 r34 _ e37) rfl rfl rfl rfl ⟨sr, sr, trivial⟩ Try.call55 rfl ?_)
        refine ro rfl (ok_assign rfl rfl rfl rfl ?_)
        refine rn ?_
        refine awp_ret ?_
        (repeat (first | refine uw ?_ | refine uo rfl ?_))
        have e0 := oi h0
        subst e0
        refine reta_mk rfl ?_
        exact sr
       ·skip
        refine awp_seq (awp_reg ?_)
        refine ro rfl (ok_fieldAddrP rfl rfl rfl rfl rfl rfl rfl rfl rfl ?_)
        refine ro rfl (ok_loadP1 rfl rfl rfl rfl rfl rfl rfl rfl ?_)
        refine ro rfl (ok_cmpS rfl rfl rfl rfl rfl rfl ?_)
        refine rn ?_
        refine wp_ifN rfl (fun c30 => ?_) (fun c30 => ?_)
        ·replace h1 := if_f c30 h1
         refine awp_reg ?_
         refine ro rfl (ok_move rfl rfl rfl rfl ?_)
         refine ro rfl (ok_fieldAddrP rfl rfl rfl rfl rfl rfl rfl rfl rfl ?_)
         refine ro rfl (ok_loadP1 rfl rfl rfl rfl rfl rfl rfl rfl ?_)
         refine ro rfl (op_bslice eS [e_0.fKey] rfl rfl rfl rfl rfl rfl rfl rfl rfl rfl rfl rfl rfl rfl ?_)
         obtain ⟨h31, h1⟩ := ck_cut h1
         refine ro rfl (op_appV eS (bound_1 ++ [e_0.fName]) [e_0.fKey] rfl rfl rfl rfl rfl rfl rfl rfl rfl rfl rfl rfl rfl (fun _ => rfl) rfl rfl rfl h31 ?_)
         refine ro rfl (ok_assign rfl rfl rfl rfl ?_)
         refine rn ?_
         (repeat (first | refine uw ?_ | refine uo rfl ?_))
         have e1 := oi h1
         subst e1
         exact ghost_le (le_mk ⟨er rfl, er rfl, er rfl, trivial⟩ ⟨⟨_, rfl, ⟨sr, sr, sr, sr, sr, sr, sr, sr, sr, sr, sr, trivial⟩⟩, trivial⟩)
        ·replace h1 := if_t c30 h1
         refine awp_skip ?_
         (repeat (first | refine uw ?_ | refine uo rfl ?_))
         have e1 := oi h1
         subst e1
         exact ghost_trans (ghost_ren 68 76 rfl rfl rfl rfl rfl) (ghost_le (le_mk ⟨er rfl, er rfl, er rfl, trivial⟩ ⟨⟨_, rfl, ⟨sr, sr, sr, sr, sr, sr, sr, sr, sr, sr, sr, trivial⟩⟩, trivial⟩))
     ·replace h0 := if_bf c23 h0
      refine awp_skip ?_
      (repeat (first | refine uw ?_ | refine uo rfl ?_))
      refine awp_seq (awp_reg ?_)
      refine ro rfl (ok_fieldAddrP rfl rfl rfl rfl rfl rfl rfl rfl rfl ?_)
      refine ro rfl (ok_loadP1 rfl rfl rfl rfl rfl rfl rfl rfl ?_)
      refine ro rfl (ok_move rfl rfl rfl rfl ?_)
      obtain ⟨r38, e39, h0⟩ := bd_cut h0
      refine ro rfl (ok_callP (ih_ref17_all_ok e_0.fKids bound_1 _ e39) rfl rfl rfl rfl ⟨sr, sr, trivial⟩ Try.call56 rfl ?_)
      refine ro rfl (ok_assign rfl rfl rfl rfl ?_)
      refine rn ?_
      refine awp_ret ?_
      (repeat (first | refine uw ?_ | refine uo rfl ?_))
      have e0 := oi h0
      subst e0
      refine reta_mk rfl ?_
      exact sr
    ·skip
     refine awp_seq (awp_reg ?_)
     refine ro rfl (ok_cmp rfl rfl rfl rfl rfl rfl ?_)
     refine ro rfl (ok_assign rfl rfl rfl rfl ?_)
     refine rn ?_
     refine wp_ifD rfl (fun c21 => ?_) (fun c21 => ?_)
     ·replace h1 := if_t c21 h1
      refine awp_skip ?_
      (repeat (first | refine uw ?_ | refine uo rfl ?_))
      have e1 := oi h1
      subst e1
      exact ghost_le (le_mk ⟨er rfl, er rfl, er rfl, trivial⟩ ⟨⟨_, rfl, ⟨sr, sr, sr, sr, sr, sr, sr, sr, sr, sr, sr, trivial⟩⟩, trivial⟩)
     ·replace h1 := if_f c21 h1
      refine awp_reg ?_
      refine ro rfl (ok_cmp rfl rfl rfl rfl rfl rfl ?_)
      refine ro rfl (ok_assign rfl rfl rfl rfl ?_)
      refine rn ?_
      (repeat (first | refine uw ?_ | refine uo rfl ?_))
      have e1 := oi h1
      subst e1
      exact ghost_le (le_mk ⟨er rfl, er rfl, er rfl, trivial⟩ ⟨⟨_, rfl, ⟨sr, sr, sr, sr, sr, sr, sr, sr, sr, sr, sr, trivial⟩⟩, trivial⟩)
  ·skip
   refine awp_seq (awp_reg ?_)
   refine ro rfl (ok_cmp rfl rfl rfl rfl rfl rfl ?_)
   refine ro rfl (ok_assign rfl rfl rfl rfl ?_)
   refine rn ?_
   refine wp_ifD rfl (fun c1 => ?_) (fun c1 => ?_)
   ·replace h1 := if_t c1 h1
    refine awp_skip ?_
    (repeat (first | refine uw ?_ | refine uo rfl ?_))
    have e1 := oi h1
    subst e1
    exact ghost_le (le_mk ⟨er rfl, er rfl, er rfl, er rfl, trivial⟩ ⟨⟨_, rfl, ⟨sr, sr, sr, sr, sr, sr, sr, sr, sr, sr, sr, trivial⟩⟩, trivial⟩)
   ·replace h1 := if_f c1 h1
    refine awp_seq (awp_reg ?_)
    refine ro rfl (ok_cmp rfl rfl rfl rfl rfl rfl ?_)
    refine ro rfl (ok_assign rfl rfl rfl rfl ?_)
    refine rn ?_
    refine wp_ifD rfl (fun c2 => ?_) (fun c2 => ?_)
    ·replace h1 := if_t c2 h1
     refine awp_skip ?_
     (repeat (first | refine uw ?_ | refine uo rfl ?_))
     have e1 := oi h1
     subst e1
     exact ghost_le (le_mk ⟨er rfl, er rfl, er rfl, er rfl, trivial⟩ ⟨⟨_, rfl, ⟨sr, sr, sr, sr, sr, sr, sr, sr, sr, sr, sr, trivial⟩⟩, trivial⟩)
    ·replace h1 := if_f c2 h1
     refine awp_reg ?_
     refine ro rfl (ok_cmp rfl rfl rfl rfl rfl rfl ?_)
     refine ro rfl (ok_assign rfl rfl rfl rfl ?_)
     refine rn ?_
     (repeat (first | refine uw ?_ | refine uo rfl ?_))
     have e1 := oi h1
     subst e1
     exact ghost_le (le_mk ⟨er rfl, er rfl, er rfl, er rfl, trivial⟩ ⟨⟨_, rfl, ⟨sr, sr, sr, sr, sr, sr, sr, sr, sr, sr, sr, trivial⟩⟩, trivial⟩)
 ·skip
  intro l_0 bound_1 r h0
  rw [ref17_all] at h0
  refine pbodyA good Try.func56 rfl rfl rfl fun w0 => ?_
  refine awp_seq (awp_reg ?_)
  refine ro rfl (ok_assign rfl rfl rfl rfl ?_)
  refine rn ?_
  refine awp_seq (awp_reg ?_)
  refine ro rfl (ok_assign rfl rfl rfl rfl ?_)
  refine rn ?_
  refine awp_seq (awp_seq (awp_reg ?_))
  refine ro rfl (ok_assign rfl rfl rfl rfl ?_)
  refine rn ?_
  refine awp_block ?_
  obtain ⟨o23, h1, h0⟩ := bd_cut h0
  refine awp_joinE 0 ⟨[(5, .p (eL eTRef o23))], []⟩ ?_ ?_
  ·intro s' hle
   (repeat (first | refine uw ?_ | refine uo rfl ?_))
   refine awp_ghost hle ?_
   (repeat (first | refine uw ?_ | refine uo rfl ?_))
   refine awp_seq (awp_reg ?_)
   refine ro rfl (ok_move rfl rfl rfl rfl ?_)
   refine ro rfl (ok_assign rfl rfl rfl rfl ?_)
   refine rn ?_
   refine awp_ret ?_
   (repeat (first | refine uw ?_ | refine uo rfl ?_))
   have e0 := oi h0
   subst e0
   refine reta_mk rfl ?_
   exact sr
  ·skip
   refine awp_loopG (fun q25 => ⟨[(0, .p (eL eTExpr l_0)), (1, .p (eL eS bound_1)), (5, .p (eL eTRef q25.1)), (6, .p (eI q25.2))], []⟩) (fun m (q25 : (List TRef) × Int) => ref17_all_l1 n (ref17_of n) l_0 bound_1 m q25.1 q25.2) (fun _ => rfl) ([], 0) h1 (ghost_le (le_mk ⟨er rfl, er rfl, ⟨_, rfl, sub_nilL _⟩, er rfl, trivial⟩ trivial)) ?_
   rintro m ⟨out10, i11⟩ h1
   replace h1 : ref17_all_l1 n (ref17_of n) l_0 bound_1 (m + 1) out10 i11 = some o23 := h1
   rw [ref17_all_l1] at h1
   refine awp_seq (awp_seq (awp_reg ?_))
   refine ro rfl (ok_move rfl rfl rfl rfl ?_)
   refine ro rfl (ok_move rfl rfl rfl rfl ?_)
   refine ro rfl (op_lenL (f := eTExpr) (l := l_0) rfl rfl rfl rfl rfl rfl rfl ?_)
   refine ro rfl (ok_cmp rfl rfl rfl rfl rfl rfl ?_)
   refine rn ?_
   refine wp_ifD rfl (fun c12 => ?_) (fun c12 => ?_)
   ·replace h1 := if_t c12 h1
    refine awp_skip (awp_seq (awp_block (awp_reg ?_)))
    refine ro rfl (ok_move rfl rfl rfl rfl ?_)
    refine ro rfl (ok_move rfl rfl rfl rfl ?_)
    refine ro rfl (ok_move rfl rfl rfl rfl ?_)
    obtain ⟨h13, h1⟩ := ck_cut h1
    refine ro rfl (op_at (f := eTExpr) (l := l_0) TExpr.cs rfl rfl rfl rfl rfl rfl rfl rfl rfl h13 TExpr.cells_eq (fun _ => rfl) ?_)
    refine ro rfl (ok_loadRA rfl rfl rfl rfl rfl rfl rfl ?_)
    refine ro rfl (ok_move rfl rfl rfl rfl ?_)
    obtain ⟨r14, e15, h1⟩ := bd_cut h1
    refine ro rfl (ok_callP (ih_ref17_of_ok (lat l_0 i11) bound_1 _ e15) rfl rfl rfl rfl ⟨sr, sr, trivial⟩ Try.call38 rfl ?_)
    obtain ⟨r16, e17, h1⟩ := bd_cut h1
    refine ro rfl (ok_callP (ref17_put_ok _ out10 r14 _ e17) rfl rfl rfl rfl ⟨sr, sr, trivial⟩ Try.call55 rfl ?_)
    refine ro rfl (ok_assign rfl rfl rfl rfl ?_)
    refine rn ?_
    (repeat (first | refine uw ?_ | refine uo rfl ?_))
    refine awp_reg ?_
    refine ro rfl (ok_move rfl rfl rfl rfl ?_)
    obtain ⟨h18, h1⟩ := ck_cut h1
    refine ro rfl (ok_ar rfl rfl rfl rfl rfl rfl h18 ?_)
    refine ro rfl (ok_assign rfl rfl rfl rfl ?_)
    refine rn ?_
    (repeat (first | refine uw ?_ | refine uo rfl ?_))
    exact ⟨(r16, i11 + 1), h1, ghost_le (le_mk ⟨er rfl, er rfl, er rfl, er rfl, trivial⟩ trivial)⟩
   ·replace h1 := if_f c12 h1
    refine awp_exit ?_
    (repeat (first | refine uw ?_ | refine uo rfl ?_))
    have e1 := oi h1
    subst e1
    exact ghost_le (le_mk ⟨er rfl, trivial⟩ trivial)

theorem ref17_of_ok (n : Nat) : ∀ (e_0 : TExpr) (bound_1 : List Bytes) (r : (List TRef)), ref17_of n e_0 bound_1 = some r → PCalls Try.prog 38 [.agg (TExpr.cs e_0), eL eS bound_1] (· = .p (eL eTRef r)) := (ref17_of_all n).1

theorem ref17_all_ok (n : Nat) : ∀ (l_0 : List TExpr) (bound_1 : List Bytes) (r : (List TRef)), ref17_all n l_0 bound_1 = some r → PCalls Try.prog 56 [eL eTExpr l_0, eL eS bound_1] (· = .p (eL eTRef r)) := (ref17_of_all n).2

def ref17_Of (n : Nat) (e_0 : TExpr) : Option (List TRef) :=
 (ref17_of n e_0 []).bind fun r1 =>
 some r1

set_option maxHeartbeats 4000000 in
theorem ref17_Of_ok (n : Nat) (e_0 : TExpr) (r : (List TRef)) (h0 : ref17_Of n e_0 = some r) : PCalls Try.prog 14 [.agg (TExpr.cs e_0)] (· = .p (eL eTRef r)) := by
 unfold ref17_Of at h0
 refine pbodyA good Try.func14 rfl rfl rfl fun w0 => ?_
 refine awp_seq (awp_reg ?_)
 refine ro rfl (ok_box rfl rfl rfl rfl rfl ?_)
 refine ro rfl (ok_assign rfl rfl rfl rfl ?_)
 refine rn ?_
 refine awp_seq (awp_reg ?_)
 refine ro rfl (ok_loadPA rfl rfl rfl rfl rfl rfl rfl rfl rfl ?_)
 obtain ⟨r1, e2, h0⟩ := bd_cut h0
 refine ro rfl (ok_callP (ref17_of_ok _ e_0 [] _ e2) rfl rfl rfl rfl ⟨sr, sub_nilL _, trivial⟩ Try.call38 rfl ?_)
 refine ro rfl (ok_assign rfl rfl rfl rfl ?_)
 refine rn ?_
 refine awp_ret ?_
 (repeat (first | refine uw ?_ | refine uo rfl ?_))
 have e0 := oi h0
 subst e0
 refine reta_mk rfl ?_
 exact sr

def law17_ReferenceLists (n : Nat) (e_0 : TExpr) : Option Bool :=
 (law17_right n e_0).bind fun r1 =>
 if (!r1) = true then
  (law17_awake n).bind fun r4 =>
  some r4
 else
  (reference_Parse n e_0).bind fun r6 =>
  (ref17_Parse n e_0).bind fun r8 =>
  (
    (reference_Of n e_0).bind fun r10 =>
    (ref17_Of n e_0).bind fun r12 =>
    (law17_refs n r10 r12).bind fun r14 =>
    if r14 = true then
     if r6.1.fKind = r8.1.fKind ∧ r6.1.fType = r8.1.fType ∧ r6.1.fName = r8.1.fName ∧ r6.1.fAt = r8.1.fAt then
      if (r6.2 == r8.2) = true then
       (law17_awake n).bind fun r19 =>
       some r19
      else
       some false
     else
      some false
    else
     some false
   : Option Bool).bind fun t21 =>
  some t21

set_option maxHeartbeats 4000000 in
theorem law17_ReferenceLists_ok (n : Nat) (e_0 : TExpr) (r : Bool) (h0 : law17_ReferenceLists n e_0 = some r) : PCalls Try.prog 3 [.agg (TExpr.cs e_0)] (· = .p (eB r)) := by
 unfold law17_ReferenceLists at h0
 refine pbodyA good Try.func3 rfl rfl rfl fun w0 => ?_
 refine awp_seq (awp_reg ?_)
 refine ro rfl (ok_box rfl rfl rfl rfl rfl ?_)
 refine ro rfl (ok_assign rfl rfl rfl rfl ?_)
 refine rn ?_
 refine awp_seq (awp_seq (awp_reg ?_))
 refine ro rfl (ok_loadPA rfl rfl rfl rfl rfl rfl rfl rfl rfl ?_)
 obtain ⟨r1, e2, h0⟩ := bd_cut h0
 refine ro rfl (ok_callP (law17_right_ok _ e_0 _ e2) rfl rfl rfl rfl ⟨sr, trivial⟩ Try.call8 rfl ?_)
 refine ro rfl (ok_not rfl rfl rfl rfl ?_)
 refine rn ?_
 refine wp_if rfl (fun c3 => ?_) (fun c3 => ?_)
 ·replace h0 := if_t c3 h0
  refine awp_seq (awp_reg ?_)
  obtain ⟨r4, e5, h0⟩ := bd_cut h0
  refine ro rfl (ok_callP (law17_awake_ok _  _ e5) rfl rfl rfl rfl trivial Try.call9 rfl ?_)
  refine ro rfl (ok_assign rfl rfl rfl rfl ?_)
  refine rn ?_
  refine awp_ret ?_
  (repeat (first | refine uw ?_ | refine uo rfl ?_))
  have e0 := oi h0
  subst e0
  refine reta_mk rfl ?_
  exact sr
 ·replace h0 := if_bf c3 h0
  refine awp_skip (awp_seq (awp_reg ?_))
  refine ro rfl (ok_loadPA rfl rfl rfl rfl rfl rfl rfl rfl rfl ?_)
  obtain ⟨r6, e7, h0⟩ := bd_cut h0
  refine ro rfl (ok_callP (reference_Parse_ok _ e_0 _ e7) rfl rfl rfl rfl ⟨sr, trivial⟩ Try.call10 rfl ?_)
  refine ro rfl (ok_move rfl rfl rfl rfl ?_)
  refine ro rfl (ok_extract rfl rfl rfl rfl rfl ?_)
  refine ro rfl (ok_extract rfl rfl rfl rfl rfl ?_)
  refine ro rfl (ok_alloc rfl rfl rfl rfl rfl ?_)
  refine ro rfl (ok_store rfl rfl rfl rfl rfl rfl rfl rfl (Nat.le_of_ble_eq_true rfl) ?_)
  refine ro rfl (ok_assign rfl rfl rfl rfl ?_)
  refine rn ?_
  refine awp_seq (awp_reg ?_)
  refine ro rfl (ok_loadPA rfl rfl rfl rfl rfl rfl rfl rfl rfl ?_)
  obtain ⟨r8, e9, h0⟩ := bd_cut h0
  refine ro rfl (ok_callP (ref17_Parse_ok _ e_0 _ e9) rfl rfl rfl rfl ⟨sr, trivial⟩ Try.call11 rfl ?_)
  refine ro rfl (ok_move rfl rfl rfl rfl ?_)
  refine ro rfl (ok_extract rfl rfl rfl rfl rfl ?_)
  refine ro rfl (ok_extract rfl rfl rfl rfl rfl ?_)
  refine ro rfl (ok_alloc rfl rfl rfl rfl rfl ?_)
  refine ro rfl (ok_store rfl rfl rfl rfl rfl rfl rfl rfl (Nat.le_of_ble_eq_true rfl) ?_)
  refine ro rfl (ok_assign rfl rfl rfl rfl ?_)
  refine rn ?_
  refine awp_seq ?_
  obtain ⟨o23, h1, h0⟩ := bd_cut h0
  refine awp_joinN ⟨[(2, .p (eB o23))], []⟩ ?_ ?_
  ·intro s' hle
   (repeat (first | refine uw ?_ | refine uo rfl ?_))
   refine awp_ghost hle ?_
   refine awp_ret ?_
   (repeat (first | refine uw ?_ | refine uo rfl ?_))
   have e0 := oi h0
   subst e0
   refine reta_mk rfl ?_
   exact sr
  ·skip
   obtain ⟨r10, e11, h1⟩ := bd_cut h1
   obtain ⟨r12, e13, h1⟩ := bd_cut h1
   obtain ⟨r14, e15, h1⟩ := bd_cut h1
   refine awp_byB (b := r14) (fun c16 => ?_) (fun c16 => ?_)
   ·replace h1 := if_t c16 h1
    refine awp_byD (p := r6.1.fKind = r8.1.fKind ∧ r6.1.fType = r8.1.fType ∧ r6.1.fName = r8.1.fName ∧ r6.1.fAt = r8.1.fAt) (fun c17 => ?_) (fun c17 => ?_)
    ·replace h1 := if_t c17 h1
     refine awp_byB (b := r6.2 == r8.2) (fun c18 => ?_) (fun c18 => ?_)
     ·replace h1 := if_t c18 h1
      obtain ⟨r19, e20, h1⟩ := bd_cut h1
      refine awp_drawQ [(1, .ptr 1 0), (3, .ptr 3 0), (4, .p (eB r6.2)), (5, .ptr 5 0), (6, .p (eB r8.2))] rfl ⟨rfl, rfl, rfl, rfl, rfl, trivial⟩ rfl ?_
      refine dq_cons (.p (.agg (TExpr.cs e_0))) [(1, _)] ⟨.inl rfl, trivial⟩ (fun sl hsl K hK => one_op rfl (ok_loadPA rfl rfl rfl rfl rfl (hsl _ _ rfl) rfl rfl rfl hK)) rfl rfl rfl ?_
      refine dq_cons (.p (eL eTRef r10)) [(21, _)] ⟨.inr ⟨0, rfl, rfl⟩, trivial⟩ (fun sl hsl K hK => one_op rfl (ok_callP (reference_Of_ok _ e_0 _ e11) rfl rfl rfl (args_cons (hsl _ _ rfl) args_nil) ⟨sr, trivial⟩ Try.call13 rfl hK)) rfl rfl rfl ?_
      refine dq_cons (.p (.agg (TExpr.cs e_0))) [(1, _)] ⟨.inl rfl, trivial⟩ (fun sl hsl K hK => one_op rfl (ok_loadPA rfl rfl rfl rfl rfl (hsl _ _ rfl) rfl rfl rfl hK)) rfl rfl rfl ?_
      refine dq_cons (.p (eL eTRef r12)) [(23, _)] ⟨.inr ⟨2, rfl, rfl⟩, trivial⟩ (fun sl hsl K hK => one_op rfl (ok_callP (ref17_Of_ok _ e_0 _ e13) rfl rfl rfl (args_cons (hsl _ _ rfl) args_nil) ⟨sr, trivial⟩ Try.call14 rfl hK)) rfl rfl rfl ?_
      refine dq_cons (.p (eB r14)) [(22, _), (24, _)] ⟨.inr ⟨1, rfl, rfl⟩, .inr ⟨3, rfl, rfl⟩, trivial⟩ (fun sl hsl K hK => one_op rfl (ok_callP (law17_refs_ok _ r10 r12 _ e15) rfl rfl rfl (args_cons (hsl _ _ rfl) (args_cons (hsl _ _ rfl) args_nil)) ⟨sr, sr, trivial⟩ Try.call12 rfl hK)) rfl rfl rfl ?_
      refine dq_cons (.p (eB r14)) [(25, _)] ⟨.inr ⟨4, rfl, rfl⟩, trivial⟩ (fun sl hsl K hK => one_op rfl (ok_move rfl rfl rfl (hsl _ _ rfl) hK)) rfl rfl rfl ?_
      refine dq_cons (.p (.agg (TRef.cs r6.1))) [(3, _), (26, _)] ⟨.inl rfl, .inr ⟨5, rfl, rfl⟩, trivial⟩ (fun sl hsl K hK => one_yes (ok_loadPA rfl rfl rfl rfl rfl (hsl _ _ rfl) rfl rfl rfl hK) rfl rfl (hsl _ _ rfl) (c16)) rfl rfl rfl ?_
      refine dq_cons (.p (.agg (TRef.cs r8.1))) [(5, _), (26, _)] ⟨.inl rfl, .inr ⟨5, rfl, rfl⟩, trivial⟩ (fun sl hsl K hK => one_yes (ok_loadPA rfl rfl rfl rfl rfl (hsl _ _ rfl) rfl rfl rfl hK) rfl rfl (hsl _ _ rfl) (c16)) rfl rfl rfl ?_
      refine dq_cons (.p (eB (decide (r6.1.fKind = r8.1.fKind ∧ r6.1.fType = r8.1.fType ∧ r6.1.fName = r8.1.fName ∧ r6.1.fAt = r8.1.fAt)))) [(26, _), (27, _), (28, _)] ⟨.inr ⟨5, rfl, rfl⟩, .inr ⟨6, rfl, rfl⟩, .inr ⟨7, rfl, rfl⟩, trivial⟩ (fun sl hsl K hK => one_yes (op_eqS (r6.1.fKind = r8.1.fKind ∧ r6.1.fType = r8.1.fType ∧ r6.1.fName = r8.1.fName ∧ r6.1.fAt = r8.1.fAt) rfl rfl rfl rfl rfl (hsl _ _ rfl) (hsl _ _ rfl) (by kernel_rfl) rfl rfl (.inl ⟨rfl, rfl⟩) hK) rfl rfl (hsl _ _ rfl) (c16)) rfl rfl rfl ?_
      refine dq_cons (.p (eB (decide (r6.1.fKind = r8.1.fKind ∧ r6.1.fType = r8.1.fType ∧ r6.1.fName = r8.1.fName ∧ r6.1.fAt = r8.1.fAt)))) [(26, _), (29, _)] ⟨.inr ⟨5, rfl, rfl⟩, .inr ⟨8, rfl, rfl⟩, trivial⟩ (fun sl hsl K hK => one_op rfl (ok_pick_true rfl rfl rfl (hsl _ _ rfl) (c16) (hsl _ _ rfl) hK)) rfl rfl rfl ?_
      refine dq_cons (.p (eB (decide (r6.1.fKind = r8.1.fKind ∧ r6.1.fType = r8.1.fType ∧ r6.1.fName = r8.1.fName ∧ r6.1.fAt = r8.1.fAt)))) [(30, _)] ⟨.inr ⟨9, rfl, rfl⟩, trivial⟩ (fun sl hsl K hK => one_op rfl (ok_move rfl rfl rfl (hsl _ _ rfl) hK)) rfl rfl rfl ?_
      refine dq_cons (.p (eB r6.2)) [(4, _), (31, _)] ⟨.inl rfl, .inr ⟨10, rfl, rfl⟩, trivial⟩ (fun sl hsl K hK => one_yes (ok_move rfl rfl rfl (hsl _ _ rfl) hK) rfl rfl (hsl _ _ rfl) (dt c17)) rfl rfl rfl ?_
      refine dq_cons (.p (eB r8.2)) [(6, _), (31, _)] ⟨.inl rfl, .inr ⟨10, rfl, rfl⟩, trivial⟩ (fun sl hsl K hK => one_yes (ok_move rfl rfl rfl (hsl _ _ rfl) hK) rfl rfl (hsl _ _ rfl) (dt c17)) rfl rfl rfl ?_
      refine dq_cons (.p (eB (r6.2 == r8.2))) [(31, _), (32, _), (33, _)] ⟨.inr ⟨10, rfl, rfl⟩, .inr ⟨11, rfl, rfl⟩, .inr ⟨12, rfl, rfl⟩, trivial⟩ (fun sl hsl K hK => one_yes (ok_cmpB rfl rfl rfl rfl rfl (hsl _ _ rfl) (hsl _ _ rfl) rfl hK) rfl rfl (hsl _ _ rfl) (dt c17)) rfl rfl rfl ?_
      refine dq_cons (.p (eB (r6.2 == r8.2))) [(31, _), (34, _)] ⟨.inr ⟨10, rfl, rfl⟩, .inr ⟨13, rfl, rfl⟩, trivial⟩ (fun sl hsl K hK => one_op rfl (ok_pick_true rfl rfl rfl (hsl _ _ rfl) (dt c17) (hsl _ _ rfl) hK)) rfl rfl rfl ?_
      refine dq_cons (.p (eB (r6.2 == r8.2))) [(35, _)] ⟨.inr ⟨14, rfl, rfl⟩, trivial⟩ (fun sl hsl K hK => one_op rfl (ok_move rfl rfl rfl (hsl _ _ rfl) hK)) rfl rfl rfl ?_
      refine dq_cons (.p (eB r19)) [(36, _)] ⟨.inr ⟨15, rfl, rfl⟩, trivial⟩ (fun sl hsl K hK => one_yes (ok_callP (law17_awake_ok _  _ e20) rfl rfl rfl args_nil trivial Try.call9 rfl hK) rfl rfl (hsl _ _ rfl) (c18)) rfl rfl rfl ?_
      refine dq_cons (.p (eB r19)) [(36, _), (37, _)] ⟨.inr ⟨15, rfl, rfl⟩, .inr ⟨16, rfl, rfl⟩, trivial⟩ (fun sl hsl K hK => one_op rfl (ok_pick_true rfl rfl rfl (hsl _ _ rfl) (c18) (hsl _ _ rfl) hK)) rfl rfl rfl ?_
      refine dq_cons (.p (eB r19)) [(38, _)] ⟨.inr ⟨17, rfl, rfl⟩, trivial⟩ (fun sl hsl K hK => one_op rfl (ok_assign rfl rfl rfl (hsl _ _ rfl) hK)) rfl rfl rfl ?_
      refine dq_nil ?_
      (repeat (first | refine uw ?_ | refine uo rfl ?_))
      have e1 := oi h1
      subst e1
      exact ghost_le (le_mk ⟨er rfl, trivial⟩ trivial)
     ·replace h1 := if_bf c18 h1
      refine awp_drawQ [(1, .ptr 1 0), (3, .ptr 3 0), (4, .p (eB r6.2)), (5, .ptr 5 0), (6, .p (eB r8.2))] rfl ⟨rfl, rfl, rfl, rfl, rfl, trivial⟩ rfl ?_
      refine dq_cons (.p (.agg (TExpr.cs e_0))) [(1, _)] ⟨.inl rfl, trivial⟩ (fun sl hsl K hK => one_op rfl (ok_loadPA rfl rfl rfl rfl rfl (hsl _ _ rfl) rfl rfl rfl hK)) rfl rfl rfl ?_
      refine dq_cons (.p (eL eTRef r10)) [(21, _)] ⟨.inr ⟨0, rfl, rfl⟩, trivial⟩ (fun sl hsl K hK => one_op rfl (ok_callP (reference_Of_ok _ e_0 _ e11) rfl rfl rfl (args_cons (hsl _ _ rfl) args_nil) ⟨sr, trivial⟩ Try.call13 rfl hK)) rfl rfl rfl ?_
      refine dq_cons (.p (.agg (TExpr.cs e_0))) [(1, _)] ⟨.inl rfl, trivial⟩ (fun sl hsl K hK => one_op rfl (ok_loadPA rfl rfl rfl rfl rfl (hsl _ _ rfl) rfl rfl rfl hK)) rfl rfl rfl ?_
      refine dq_cons (.p (eL eTRef r12)) [(23, _)] ⟨.inr ⟨2, rfl, rfl⟩, trivial⟩ (fun sl hsl K hK => one_op rfl (ok_callP (ref17_Of_ok _ e_0 _ e13) rfl rfl rfl (args_cons (hsl _ _ rfl) args_nil) ⟨sr, trivial⟩ Try.call14 rfl hK)) rfl rfl rfl ?_
      refine dq_cons (.p (eB r14)) [(22, _), (24, _)] ⟨.inr ⟨1, rfl, rfl⟩, .inr ⟨3, rfl, rfl⟩, trivial⟩ (fun sl hsl K hK => one_op rfl (ok_callP (law17_refs_ok _ r10 r12 _ e15) rfl rfl rfl (args_cons (hsl _ _ rfl) (args_cons (hsl _ _ rfl) args_nil)) ⟨sr, sr, trivial⟩ Try.call12 rfl hK)) rfl rfl rfl ?_
      refine dq_cons (.p (eB r14)) [(25, _)] ⟨.inr ⟨4, rfl, rfl⟩, trivial⟩ (fun sl hsl K hK => one_op rfl (ok_move rfl rfl rfl (hsl _ _ rfl) hK)) rfl rfl rfl ?_
      refine dq_cons (.p (.agg (TRef.cs r6.1))) [(3, _), (26, _)] ⟨.inl rfl, .inr ⟨5, rfl, rfl⟩, trivial⟩ (fun sl hsl K hK => one_yes (ok_loadPA rfl rfl rfl rfl rfl (hsl _ _ rfl) rfl rfl rfl hK) rfl rfl (hsl _ _ rfl) (c16)) rfl rfl rfl ?_
      refine dq_cons (.p (.agg (TRef.cs r8.1))) [(5, _), (26, _)] ⟨.inl rfl, .inr ⟨5, rfl, rfl⟩, trivial⟩ (fun sl hsl K hK => one_yes (ok_loadPA rfl rfl rfl rfl rfl (hsl _ _ rfl) rfl rfl rfl hK) rfl rfl (hsl _ _ rfl) (c16)) rfl rfl rfl ?_
      refine dq_cons (.p (eB (decide (r6.1.fKind = r8.1.fKind ∧ r6.1.fType = r8.1.fType ∧ r6.1.fName = r8.1.fName ∧ r6.1.fAt = r8.1.fAt)))) [(26, _), (27, _), (28, _)] ⟨.inr ⟨5, rfl, rfl⟩, .inr ⟨6, rfl, rfl⟩, .inr ⟨7, rfl, rfl⟩, trivial⟩ (fun sl hsl K hK => one_yes (op_eqS (r6.1.fKind = r8.1.fKind ∧ r6.1.fType = r8.1.fType ∧ r6.1.fName = r8.1.fName ∧ r6.1.fAt = r8.1.fAt) rfl rfl rfl rfl rfl (hsl _ _ rfl) (hsl _ _ rfl) (by kernel_rfl) rfl rfl (.inl ⟨rfl, rfl⟩) hK) rfl rfl (hsl _ _ rfl) (c16)) rfl rfl rfl ?_
      refine dq_cons (.p (eB (decide (r6.1.fKind = r8.1.fKind ∧ r6.1.fType = r8.1.fType ∧ r6.1.fName = r8.1.fName ∧ r6.1.fAt = r8.1.fAt)))) [(26, _), (29, _)] ⟨.inr ⟨5, rfl, rfl⟩, .inr ⟨8, rfl, rfl⟩, trivial⟩ (fun sl hsl K hK => one_op rfl (ok_pick_true rfl rfl rfl (hsl _ _ rfl) (c16) (hsl _ _ rfl) hK)) rfl rfl rfl ?_
      refine dq_cons (.p (eB (decide (r6.1.fKind = r8.1.fKind ∧ r6.1.fType = r8.1.fType ∧ r6.1.fName = r8.1.fName ∧ r6.1.fAt = r8.1.fAt)))) [(30, _)] ⟨.inr ⟨9, rfl, rfl⟩, trivial⟩ (fun sl hsl K hK => one_op rfl (ok_move rfl rfl rfl (hsl _ _ rfl) hK)) rfl rfl rfl ?_
      refine dq_cons (.p (eB r6.2)) [(4, _), (31, _)] ⟨.inl rfl, .inr ⟨10, rfl, rfl⟩, trivial⟩ (fun sl hsl K hK => one_yes (ok_move rfl rfl rfl (hsl _ _ rfl) hK) rfl rfl (hsl _ _ rfl) (dt c17)) rfl rfl rfl ?_
      refine dq_cons (.p (eB r8.2)) [(6, _), (31, _)] ⟨.inl rfl, .inr ⟨10, rfl, rfl⟩, trivial⟩ (fun sl hsl K hK => one_yes (ok_move rfl rfl rfl (hsl _ _ rfl) hK) rfl rfl (hsl _ _ rfl) (dt c17)) rfl rfl rfl ?_
      refine dq_cons (.p (eB (r6.2 == r8.2))) [(31, _), (32, _), (33, _)] ⟨.inr ⟨10, rfl, rfl⟩, .inr ⟨11, rfl, rfl⟩, .inr ⟨12, rfl, rfl⟩, trivial⟩ (fun sl hsl K hK => one_yes (ok_cmpB rfl rfl rfl rfl rfl (hsl _ _ rfl) (hsl _ _ rfl) rfl hK) rfl rfl (hsl _ _ rfl) (dt c17)) rfl rfl rfl ?_
      refine dq_cons (.p (eB (r6.2 == r8.2))) [(31, _), (34, _)] ⟨.inr ⟨10, rfl, rfl⟩, .inr ⟨13, rfl, rfl⟩, trivial⟩ (fun sl hsl K hK => one_op rfl (ok_pick_true rfl rfl rfl (hsl _ _ rfl) (dt c17) (hsl _ _ rfl) hK)) rfl rfl rfl ?_
      refine dq_cons (.p (eB (r6.2 == r8.2))) [(35, _)] ⟨.inr ⟨14, rfl, rfl⟩, trivial⟩ (fun sl hsl K hK => one_op rfl (ok_move rfl rfl rfl (hsl _ _ rfl) hK)) rfl rfl rfl ?_
      refine dq_cons (.p (.val Go.undef)) [(36, _)] ⟨.inr ⟨15, rfl, rfl⟩, trivial⟩ (fun sl hsl K hK => one_no rfl rfl (hsl _ _ rfl) (c18) rfl rfl hK) rfl rfl rfl ?_
      refine dq_cons (.p (eB false)) [(36, _), (37, _)] ⟨.inr ⟨15, rfl, rfl⟩, .inr ⟨16, rfl, rfl⟩, trivial⟩ (fun sl hsl K hK => one_op rfl (ok_pick_false rfl rfl rfl (hsl _ _ rfl) (c18) rfl hK)) rfl rfl rfl ?_
      refine dq_cons (.p (eB false)) [(38, _)] ⟨.inr ⟨17, rfl, rfl⟩, trivial⟩ (fun sl hsl K hK => one_op rfl (ok_assign rfl rfl rfl (hsl _ _ rfl) hK)) rfl rfl rfl ?_
      refine dq_nil ?_
      (repeat (first | refine uw ?_ | refine uo rfl ?_))
      have e1 := oi h1
      subst e1
      exact ghost_le (le_mk ⟨er rfl, trivial⟩ trivial)
    ·replace h1 := if_f c17 h1
     refine awp_drawQ [(1, .ptr 1 0), (3, .ptr 3 0), (4, .p (eB r6.2)), (5, .ptr 5 0), (6, .p (eB r8.2))] rfl ⟨rfl, rfl, rfl, rfl, rfl, trivial⟩ rfl ?_
     refine dq_cons (.p (.agg (TExpr.cs e_0))) [(1, _)] ⟨.inl rfl, trivial⟩ (fun sl hsl K hK => one_op rfl (ok_loadPA rfl rfl rfl rfl rfl (hsl _ _ rfl) rfl rfl rfl hK)) rfl rfl rfl ?_
     refine dq_cons (.p (eL eTRef r10)) [(21, _)] ⟨.inr ⟨0, rfl, rfl⟩, trivial⟩ (fun sl hsl K hK => one_op rfl (ok_callP (reference_Of_ok _ e_0 _ e11) rfl rfl rfl (args_cons (hsl _ _ rfl) args_nil) ⟨sr, trivial⟩ Try.call13 rfl hK)) rfl rfl rfl ?_
     refine dq_cons (.p (.agg (TExpr.cs e_0))) [(1, _)] ⟨.inl rfl, trivial⟩ (fun sl hsl K hK => one_op rfl (ok_loadPA rfl rfl rfl rfl rfl (hsl _ _ rfl) rfl rfl rfl hK)) rfl rfl rfl ?_
     refine dq_cons (.p (eL eTRef r12)) [(23, _)] ⟨.inr ⟨2, rfl, rfl⟩, trivial⟩ (fun sl hsl K hK => one_op rfl (ok_callP (ref17_Of_ok _ e_0 _ e13) rfl rfl rfl (args_cons (hsl _ _ rfl) args_nil) ⟨sr, trivial⟩ Try.call14 rfl hK)) rfl rfl rfl ?_
     refine dq_cons (.p (eB r14)) [(22, _), (24, _)] ⟨.inr ⟨1, rfl, rfl⟩, .inr ⟨3, rfl, rfl⟩, trivial⟩ (fun sl hsl K hK => one_op rfl (ok_callP (law17_refs_ok _ r10 r12 _ e15) rfl rfl rfl (args_cons (hsl _ _ rfl) (args_cons (hsl _ _ rfl) args_nil)) ⟨sr, sr, trivial⟩ Try.call12 rfl hK)) rfl rfl rfl ?_
     refine dq_cons (.p (eB r14)) [(25, _)] ⟨.inr ⟨4, rfl, rfl⟩, trivial⟩ (fun sl hsl K hK => one_op rfl (ok_move rfl rfl rfl (hsl _ _ rfl) hK)) rfl rfl rfl ?_
     refine dq_cons (.p (.agg (TRef.cs r6.1))) [(3, _), (26, _)] ⟨.inl rfl, .inr ⟨5, rfl, rfl⟩, trivial⟩ (fun sl hsl K hK => one_yes (ok_loadPA rfl rfl rfl rfl rfl (hsl _ _ rfl) rfl rfl rfl hK) rfl rfl (hsl _ _ rfl) (c16)) rfl rfl rfl ?_
     refine dq_cons (.p (.agg (TRef.cs r8.1))) [(5, _), (26, _)] ⟨.inl rfl, .inr ⟨5, rfl, rfl⟩, trivial⟩ (fun sl hsl K hK => one_yes (ok_loadPA rfl rfl rfl rfl rfl (hsl _ _ rfl) rfl rfl rfl hK) rfl rfl (hsl _ _ rfl) (c16)) rfl rfl rfl ?_
     refine dq_cons (.p (eB (decide (r6.1.fKind = r8.1.fKind ∧ r6.1.fType = r8.1.fType ∧ r6.1.fName = r8.1.fName ∧ r6.1.fAt = r8.1.fAt)))) [(26, _), (27, _), (28, _)] ⟨.inr ⟨5, rfl, rfl⟩, .inr ⟨6, rfl, rfl⟩, .inr ⟨7, rfl, rfl⟩, trivial⟩ (fun sl hsl K hK => one_yes (op_eqS (r6.1.fKind = r8.1.fKind ∧ r6.1.fType = r8.1.fType ∧ r6.1.fName = r8.1.fName ∧ r6.1.fAt = r8.1.fAt) rfl rfl rfl rfl rfl (hsl _ _ rfl) (hsl _ _ rfl) (by kernel_rfl) rfl rfl (.inl ⟨rfl, rfl⟩) hK) rfl rfl (hsl _ _ rfl) (c16)) rfl rfl rfl ?_
     refine dq_cons (.p (eB (decide (r6.1.fKind = r8.1.fKind ∧ r6.1.fType = r8.1.fType ∧ r6.1.fName = r8.1.fName ∧ r6.1.fAt = r8.1.fAt)))) [(26, _), (29, _)] ⟨.inr ⟨5, rfl, rfl⟩, .inr ⟨8, rfl, rfl⟩, trivial⟩ (fun sl hsl K hK => one_op rfl (ok_pick_true rfl rfl rfl (hsl _ _ rfl) (c16) (hsl _ _ rfl) hK)) rfl rfl rfl ?_
     refine dq_cons (.p (eB (decide (r6.1.fKind = r8.1.fKind ∧ r6.1.fType = r8.1.fType ∧ r6.1.fName = r8.1.fName ∧ r6.1.fAt = r8.1.fAt)))) [(30, _)] ⟨.inr ⟨9, rfl, rfl⟩, trivial⟩ (fun sl hsl K hK => one_op rfl (ok_move rfl rfl rfl (hsl _ _ rfl) hK)) rfl rfl rfl ?_
     refine dq_cons (.p (.val Go.undef)) [(4, _), (31, _)] ⟨.inl rfl, .inr ⟨10, rfl, rfl⟩, trivial⟩ (fun sl hsl K hK => one_no rfl rfl (hsl _ _ rfl) (df c17) rfl rfl hK) rfl rfl rfl ?_
     refine dq_cons (.p (.val Go.undef)) [(6, _), (31, _)] ⟨.inl rfl, .inr ⟨10, rfl, rfl⟩, trivial⟩ (fun sl hsl K hK => one_no rfl rfl (hsl _ _ rfl) (df c17) rfl rfl hK) rfl rfl rfl ?_
     refine dq_cons (.p (.val Go.undef)) [(31, _), (32, _), (33, _)] ⟨.inr ⟨10, rfl, rfl⟩, .inr ⟨11, rfl, rfl⟩, .inr ⟨12, rfl, rfl⟩, trivial⟩ (fun sl hsl K hK => one_no rfl rfl (hsl _ _ rfl) (df c17) rfl rfl hK) rfl rfl rfl ?_
     refine dq_cons (.p (eB false)) [(31, _), (34, _)] ⟨.inr ⟨10, rfl, rfl⟩, .inr ⟨13, rfl, rfl⟩, trivial⟩ (fun sl hsl K hK => one_op rfl (ok_pick_false rfl rfl rfl (hsl _ _ rfl) (df c17) rfl hK)) rfl rfl rfl ?_
     refine dq_cons (.p (eB false)) [(35, _)] ⟨.inr ⟨14, rfl, rfl⟩, trivial⟩ (fun sl hsl K hK => one_op rfl (ok_move rfl rfl rfl (hsl _ _ rfl) hK)) rfl rfl rfl ?_
     refine dq_cons (.p (.val Go.undef)) [(36, _)] ⟨.inr ⟨15, rfl, rfl⟩, trivial⟩ (fun sl hsl K hK => one_no rfl rfl (hsl _ _ rfl) (rfl) rfl rfl hK) rfl rfl rfl ?_
     refine dq_cons (.p (eB false)) [(36, _), (37, _)] ⟨.inr ⟨15, rfl, rfl⟩, .inr ⟨16, rfl, rfl⟩, trivial⟩ (fun sl hsl K hK => one_op rfl (ok_pick_false rfl rfl rfl (hsl _ _ rfl) (rfl) rfl hK)) rfl rfl rfl ?_
     refine dq_cons (.p (eB false)) [(38, _)] ⟨.inr ⟨17, rfl, rfl⟩, trivial⟩ (fun sl hsl K hK => one_op rfl (ok_assign rfl rfl rfl (hsl _ _ rfl) hK)) rfl rfl rfl ?_
     refine dq_nil ?_
     (repeat (first | refine uw ?_ | refine uo rfl ?_))
     have e1 := oi h1
     subst e1
     exact ghost_le (le_mk ⟨er rfl, trivial⟩ trivial)
   ·replace h1 := if_bf c16 h1
    refine awp_drawQ [(1, .ptr 1 0), (3, .ptr 3 0), (4, .p (eB r6.2)), (5, .ptr 5 0), (6, .p (eB r8.2))] rfl ⟨rfl, rfl, rfl, rfl, rfl, trivial⟩ rfl ?_
    refine dq_cons (.p (.agg (TExpr.cs e_0))) [(1, _)] ⟨.inl rfl, trivial⟩ (fun sl hsl K hK => one_op rfl (ok_loadPA rfl rfl rfl rfl rfl (hsl _ _ rfl) rfl rfl rfl hK)) rfl rfl rfl ?_
    refine dq_cons (.p (eL eTRef r10)) [(21, _)] ⟨.inr ⟨0, rfl, rfl⟩, trivial⟩ (fun sl hsl K hK => one_op rfl (ok_callP (reference_Of_ok _ e_0 _ e11) rfl rfl rfl (args_cons (hsl _ _ rfl) args_nil) ⟨sr, trivial⟩ Try.call13 rfl hK)) rfl rfl rfl ?_
    refine dq_cons (.p (.agg (TExpr.cs e_0))) [(1, _)] ⟨.inl rfl, trivial⟩ (fun sl hsl K hK => one_op rfl (ok_loadPA rfl rfl rfl rfl rfl (hsl _ _ rfl) rfl rfl rfl hK)) rfl rfl rfl ?_
    refine dq_cons (.p (eL eTRef r12)) [(23, _)] ⟨.inr ⟨2, rfl, rfl⟩, trivial⟩ (fun sl hsl K hK => one_op rfl (ok_callP (ref17_Of_ok _ e_0 _ e13) rfl rfl rfl (args_cons (hsl _ _ rfl) args_nil) ⟨sr, trivial⟩ Try.call14 rfl hK)) rfl rfl rfl ?_
    refine dq_cons (.p (eB r14)) [(22, _), (24, _)] ⟨.inr ⟨1, rfl, rfl⟩, .inr ⟨3, rfl, rfl⟩, trivial⟩ (fun sl hsl K hK => one_op rfl (ok_callP (law17_refs_ok _ r10 r12 _ e15) rfl rfl rfl (args_cons (hsl _ _ rfl) (args_cons (hsl _ _ rfl) args_nil)) ⟨sr, sr, trivial⟩ Try.call12 rfl hK)) rfl rfl rfl ?_
    refine dq_cons (.p (eB r14)) [(25, _)] ⟨.inr ⟨4, rfl, rfl⟩, trivial⟩ (fun sl hsl K hK => one_op rfl (ok_move rfl rfl rfl (hsl _ _ rfl) hK)) rfl rfl rfl ?_
    refine dq_cons (.p (.val Go.undef)) [(3, _), (26, _)] ⟨.inl rfl, .inr ⟨5, rfl, rfl⟩, trivial⟩ (fun sl hsl K hK => one_no rfl rfl (hsl _ _ rfl) (c16) rfl rfl hK) rfl rfl rfl ?_
    refine dq_cons (.p (.val Go.undef)) [(5, _), (26, _)] ⟨.inl rfl, .inr ⟨5, rfl, rfl⟩, trivial⟩ (fun sl hsl K hK => one_no rfl rfl (hsl _ _ rfl) (c16) rfl rfl hK) rfl rfl rfl ?_
    refine dq_cons (.p (.val Go.undef)) [(26, _), (27, _), (28, _)] ⟨.inr ⟨5, rfl, rfl⟩, .inr ⟨6, rfl, rfl⟩, .inr ⟨7, rfl, rfl⟩, trivial⟩ (fun sl hsl K hK => one_no rfl rfl (hsl _ _ rfl) (c16) rfl rfl hK) rfl rfl rfl ?_
    refine dq_cons (.p (eB false)) [(26, _), (29, _)] ⟨.inr ⟨5, rfl, rfl⟩, .inr ⟨8, rfl, rfl⟩, trivial⟩ (fun sl hsl K hK => one_op rfl (ok_pick_false rfl rfl rfl (hsl _ _ rfl) (c16) rfl hK)) rfl rfl rfl ?_
    refine dq_cons (.p (eB false)) [(30, _)] ⟨.inr ⟨9, rfl, rfl⟩, trivial⟩ (fun sl hsl K hK => one_op rfl (ok_move rfl rfl rfl (hsl _ _ rfl) hK)) rfl rfl rfl ?_
    refine dq_cons (.p (.val Go.undef)) [(4, _), (31, _)] ⟨.inl rfl, .inr ⟨10, rfl, rfl⟩, trivial⟩ (fun sl hsl K hK => one_no rfl rfl (hsl _ _ rfl) (rfl) rfl rfl hK) rfl rfl rfl ?_
    refine dq_cons (.p (.val Go.undef)) [(6, _), (31, _)] ⟨.inl rfl, .inr ⟨10, rfl, rfl⟩, trivial⟩ (fun sl hsl K hK => one_no rfl rfl (hsl _ _ rfl) (rfl) rfl rfl hK) rfl rfl rfl ?_
    refine dq_cons (.p (.val Go.undef)) [(31, _), (32, _), (33, _)] ⟨.inr ⟨10, rfl, rfl⟩, .inr ⟨11, rfl, rfl⟩, .inr ⟨12, rfl, rfl⟩, trivial⟩ (fun sl hsl K hK => one_no rfl rfl (hsl _ _ rfl) (rfl) rfl rfl hK) rfl rfl rfl ?_
    refine dq_cons (.p (eB false)) [(31, _), (34, _)] ⟨.inr ⟨10, rfl, rfl⟩, .inr ⟨13, rfl, rfl⟩, trivial⟩ (fun sl hsl K hK => one_op rfl (ok_pick_false rfl rfl rfl (hsl _ _ rfl) (rfl) rfl hK)) rfl rfl rfl ?_
    refine dq_cons (.p (eB false)) [(35, _)] ⟨.inr ⟨14, rfl, rfl⟩, trivial⟩ (fun sl hsl K hK => one_op rfl (ok_move rfl rfl rfl (hsl _ _ rfl) hK)) rfl rfl rfl ?_
    refine dq_cons (.p (.val Go.undef)) [(36, _)] ⟨.inr ⟨15, rfl, rfl⟩, trivial⟩ (fun sl hsl K hK => one_no rfl rfl (hsl _ _ rfl) (rfl) rfl rfl hK) rfl rfl rfl ?_
    refine dq_cons (.p (eB false)) [(36, _), (37, _)] ⟨.inr ⟨15, rfl, rfl⟩, .inr ⟨16, rfl, rfl⟩, trivial⟩ (fun sl hsl K hK => one_op rfl (ok_pick_false rfl rfl rfl (hsl _ _ rfl) (rfl) rfl hK)) rfl rfl rfl ?_
    refine dq_cons (.p (eB false)) [(38, _)] ⟨.inr ⟨17, rfl, rfl⟩, trivial⟩ (fun sl hsl K hK => one_op rfl (ok_assign rfl rfl rfl (hsl _ _ rfl) hK)) rfl rfl rfl ?_
    refine dq_nil ?_
    (repeat (first | refine uw ?_ | refine uo rfl ?_))
    have e1 := oi h1
    subst e1
    exact ghost_le (le_mk ⟨er rfl, trivial⟩ trivial)

end Go.Ab.R17
