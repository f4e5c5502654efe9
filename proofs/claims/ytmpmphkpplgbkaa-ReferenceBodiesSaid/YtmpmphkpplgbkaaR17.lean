/- Chapter 17. -/
import Derived.Test.YtmpmphkpplgbkaaR17l
set_option linter.unusedVariables false
set_option linter.unusedSimpArgs false
set_option linter.unnecessarySimpa false
namespace Go.Ab.R17
open Go.Proofs Go.Ab
attribute [local irreducible] awp rwpL OpOk PCalls OCalls AV.sub

def ref14_Nodes_l1 (r_ref14_Nodes : TExpr → Option Int) (e_0 : TExpr) : Nat → Int → Int → Option Int
 | 0, _, _ => none
 | m + 1, n9, i10 =>
 if i10 < (e_0.fKids.length : Int) then
  ck ((0 : Int) ≤ i10 ∧ i10 < (e_0.fKids.length : Int)) <|
  (r_ref14_Nodes (lat e_0.fKids i10)).bind fun r13 =>
  ck (inR (n9 + r13)) <|
  ck (inR (i10 + 1)) <|
  ref14_Nodes_l1 r_ref14_Nodes e_0 m (n9 + r13) (i10 + 1)
 else
  some n9

def ref14_Nodes : Nat → TExpr → Option Int
 | 0, _ => none
 | n + 1, e_0 =>
 (ref14_Nodes_l1 (ref14_Nodes n) e_0 n 1 0).bind fun n19 =>
 some n19

set_option maxHeartbeats 4000000 in
theorem ref14_Nodes_ok (n : Nat) : ∀ (e_0 : TExpr) (r : Int), ref14_Nodes n e_0 = some r → PCalls Try.prog 58 [.agg (TExpr.cs e_0)] (· = .p (eI r)) := by
 induction n with
 | zero => intro e_0 r h0; cases h0
 | succ n ih =>
 have ih_ref14_Nodes_ok := ih
 intro e_0 r h0
 rw [ref14_Nodes] at h0
 refine pbodyA good Try.func58 rfl rfl rfl fun w0 => ?_
 refine awp_seq (awp_reg ?_)
 refine ro rfl (ok_box rfl rfl rfl rfl rfl ?_)
 refine ro rfl (ok_assign rfl rfl rfl rfl ?_)
 refine rn ?_
 refine awp_seq (awp_reg ?_)
 refine ro rfl (ok_assign rfl rfl rfl rfl ?_)
 refine rn ?_
 refine awp_seq (awp_seq (awp_reg ?_))
 refine ro rfl (ok_assign rfl rfl rfl rfl ?_)
 refine rn ?_
 refine awp_block ?_
 obtain ⟨o21, h1, h0⟩ := bd_cut h0
 refine awp_joinE 0 ⟨[(3, .p (eI o21))], []⟩ ?_ ?_
 ·intro s' hle
  (repeat (first | refine uw ?_ | refine uo rfl ?_))
  refine awp_ghost hle ?_
  (repeat (first | refine uw ?_ | refine uo rfl ?_))
  refine awp_seq (awp_reg ?_)
  refine ro rfl (ok_move rfl rfl rfl rfl ?_)
  refine ro rfl (ok_assign rfl rfl rfl rfl ?_)
  refine rn ?_
  refine awp_ret ?_
  (repeat (first | refine uw ?_ | refine uo rfl ?_))
  have e0 := oi h0
  subst e0
  refine reta_mk rfl ?_
  exact sr
 ·skip
  refine awp_loopG (fun q23 => ⟨[(1, .ptr 1 0), (3, .p (eI q23.1)), (4, .p (eI q23.2))], [(1, [.p (eI e_0.fKind), .p (eI e_0.fOp), .p (eS e_0.fName), .p (eS e_0.fKey), .p (eI e_0.fValue.fKind), .p (eI e_0.fValue.fNum), .p (eS e_0.fValue.fStr), .p (eL eTValue e_0.fValue.fItems), .p (eL eS e_0.fValue.fKeys), .p (eL eTExpr e_0.fKids), .p (eI e_0.fAt)])]⟩) (fun m (q23 : Int × Int) => ref14_Nodes_l1 (ref14_Nodes n) e_0 m q23.1 q23.2) (fun _ => rfl) (1, 0) h1 (ghost_le (le_mk ⟨er rfl, er rfl, er rfl, trivial⟩ ⟨⟨_, rfl, ⟨sr, sr, sr, sr, sr, sr, sr, sr, sr, sr, sr, trivial⟩⟩, trivial⟩)) ?_
  rintro m ⟨n9, i10⟩ h1
  replace h1 : ref14_Nodes_l1 (ref14_Nodes n) e_0 (m + 1) n9 i10 = some o21 := h1
  rw [ref14_Nodes_l1] at h1
  refine awp_seq (awp_seq (awp_reg ?_))
  refine ro rfl (ok_move rfl rfl rfl rfl ?_)
  refine ro rfl (ok_fieldAddrP rfl rfl rfl rfl rfl rfl rfl rfl rfl ?_)
  refine ro rfl (ok_loadP1 rfl rfl rfl rfl rfl rfl rfl rfl ?_)
  refine ro rfl (op_lenL (f := eTExpr) (l := e_0.fKids) rfl rfl rfl rfl rfl rfl rfl ?_)
  refine ro rfl (ok_cmp rfl rfl rfl rfl rfl rfl ?_)
  refine rn ?_
  refine wp_ifD rfl (fun c11 => ?_) (fun c11 => ?_)
  ·replace h1 := if_t c11 h1
   refine awp_skip (awp_seq (awp_block (awp_reg ?_)))
   refine ro rfl (ok_move rfl rfl rfl rfl ?_)
   refine ro rfl (ok_fieldAddrP rfl rfl rfl rfl rfl rfl rfl rfl rfl ?_)
   refine ro rfl (ok_loadP1 rfl rfl rfl rfl rfl rfl rfl rfl ?_)
   refine ro rfl (ok_move rfl rfl rfl rfl ?_)
   obtain ⟨h12, h1⟩ := ck_cut h1
   refine ro rfl (op_at (f := eTExpr) (l := e_0.fKids) TExpr.cs rfl rfl rfl rfl rfl rfl rfl rfl rfl h12 TExpr.cells_eq (fun _ => rfl) ?_)
   refine ro rfl (ok_loadRA rfl rfl rfl rfl rfl rfl rfl ?_)
   obtain ⟨r13, e14, h1⟩ := bd_cut h1
   refine ro rfl (ok_callP (ih_ref14_Nodes_ok (lat e_0.fKids i10) _ e14) rfl rfl rfl rfl ⟨sr, trivial⟩ Try.call58 rfl ?_)
   obtain ⟨h15, h1⟩ := ck_cut h1
   refine ro rfl (ok_ar rfl rfl rfl rfl rfl rfl h15 ?_)
   refine ro rfl (ok_assign rfl rfl rfl rfl ?_)
   refine rn ?_
   (repeat (first | refine uw ?_ | refine uo rfl ?_))
   refine awp_reg ?_
   refine ro rfl (ok_move rfl rfl rfl rfl ?_)
   obtain ⟨h16, h1⟩ := ck_cut h1
   refine ro rfl (ok_ar rfl rfl rfl rfl rfl rfl h16 ?_)
   refine ro rfl (ok_assign rfl rfl rfl rfl ?_)
   refine rn ?_
   (repeat (first | refine uw ?_ | refine uo rfl ?_))
   exact ⟨(n9 + r13, i10 + 1), h1, ghost_le (le_mk ⟨er rfl, er rfl, er rfl, trivial⟩ ⟨⟨_, rfl, ⟨sr, sr, sr, sr, sr, sr, sr, sr, sr, sr, sr, trivial⟩⟩, trivial⟩)⟩
  ·replace h1 := if_f c11 h1
   refine awp_exit ?_
   (repeat (first | refine uw ?_ | refine uo rfl ?_))
   have e1 := oi h1
   subst e1
   exact ghost_le (le_mk ⟨er rfl, trivial⟩ trivial)

def ref16_left_l1 (n : Nat) (b_0 : TBody) : Nat → Int → Int → Option (Int ⊕ Int)
 | 0, _, _ => none
 | m + 1, n22, i23 =>
 (
   if i23 < (b_0.fAttrs.length : Int) then
    some (decide (0 ≤ n22))
   else
    some false
  : Option Bool).bind fun t25 =>
 if t25 = true then
  ck ((0 : Int) ≤ i23 ∧ i23 < (b_0.fAttrs.length : Int)) <|
  ck (inR (n22 + 1)) <|
  (ref14_Small n ((lat b_0.fAttrs i23).fExpr) (n22 + 1)).bind fun r29 =>
  if (!r29) = true then
   some (.inr (-1))
  else
   ck ((0 : Int) ≤ i23 ∧ i23 < (b_0.fAttrs.length : Int)) <|
   (ref14_Nodes n ((lat b_0.fAttrs i23).fExpr)).bind fun r33 =>
   ck (inR (n22 - r33)) <|
   ck (inR (i23 + 1)) <|
   ref16_left_l1 n b_0 m (n22 - r33) (i23 + 1)
 else
  some (.inl n22)

def ref16_left_l2 (r_ref16_left : TBody → Int → Int → Option Int) (b_0 : TBody) (levels_2 : Int) : Nat → Int → Int → Option Int
 | 0, _, _ => none
 | m + 1, n52, i53 =>
 (
   if i53 < (b_0.fBlocks.length : Int) then
    some (decide (0 ≤ n52))
   else
    some false
  : Option Bool).bind fun t55 =>
 if t55 = true then
  ck ((0 : Int) ≤ i53 ∧ i53 < (b_0.fBlocks.length : Int)) <|
  ck ((0 : Int) ≤ i53 ∧ i53 < (b_0.fBlocks.length : Int)) <|
  ck (inR (n52 - (((lat b_0.fBlocks i53).fLabels).length : Int))) <|
  ck (inR (levels_2 - 1)) <|
  (r_ref16_left ((lat b_0.fBlocks i53).fBody) (n52 - (((lat b_0.fBlocks i53).fLabels).length : Int)) (levels_2 - 1)).bind fun r61 =>
  ck (inR (i53 + 1)) <|
  ref16_left_l2 r_ref16_left b_0 levels_2 m r61 (i53 + 1)
 else
  some n52

def ref16_left : Nat → TBody → Int → Int → Option Int
 | 0, _, _, _ => none
 | n + 1, b_0, nodes_1, levels_2 =>
 (
   if levels_2 < 1 then
    some true
   else
    ck (inR ((b_0.fAttrs.length : Int) + (b_0.fBlocks.length : Int))) <|
    some (decide (nodes_1 < (b_0.fAttrs.length : Int) + (b_0.fBlocks.length : Int)))
  : Option Bool).bind fun t3 =>
 if t3 = true then
  some (-1)
 else
  ck (inR (nodes_1 - (b_0.fAttrs.length : Int))) <|
  ck (inR ((nodes_1 - (b_0.fAttrs.length : Int)) - (b_0.fBlocks.length : Int))) <|
  jn (ref16_left_l1 n b_0 n ((nodes_1 - (b_0.fAttrs.length : Int)) - (b_0.fBlocks.length : Int)) 0) fun n39 =>
  (ref16_left_l2 (ref16_left n) b_0 levels_2 n n39 0).bind fun n66 =>
  some n66

set_option maxHeartbeats 4000000 in
theorem ref16_left_ok (n : Nat) : ∀ (b_0 : TBody) (nodes_1 : Int) (levels_2 : Int) (r : Int), ref16_left n b_0 nodes_1 levels_2 = some r → PCalls Try.prog 41 [.agg (TBody.cs b_0), eI nodes_1, eI levels_2] (· = .p (eI r)) := by
 induction n with
 | zero => intro b_0 nodes_1 levels_2 r h0; cases h0
 | succ n ih =>
 have ih_ref16_left_ok := ih
 intro b_0 nodes_1 levels_2 r h0
 rw [ref16_left] at h0
 refine pbodyA good Try.func41 rfl rfl rfl fun w0 => ?_
 refine awp_seq (awp_reg ?_)
 refine ro rfl (ok_box rfl rfl rfl rfl rfl ?_)
 refine ro rfl (ok_assign rfl rfl rfl rfl ?_)
 refine rn ?_
 refine awp_seq (awp_seq ?_)
 obtain ⟨o72, h1, h0⟩ := bd_cut h0
 refine awp_joinN ⟨[(1, .p (eI nodes_1)), (2, .p (eI levels_2)), (3, .ptr 3 0), (22, .p (eB o72))], [(3, [.p (eL eTAttribute b_0.fAttrs), .p (eL eTBlock b_0.fBlocks)])]⟩ ?_ ?_
 ·intro s' hle
  (repeat (first | refine uw ?_ | refine uo rfl ?_))
  refine awp_ghost hle ?_
  refine wp_if rfl (fun c4 => ?_) (fun c4 => ?_)
  ·replace h0 := if_t c4 h0
   refine awp_seq (awp_reg ?_)
   refine ro rfl (ok_assign rfl rfl rfl rfl ?_)
   refine rn ?_
   refine awp_ret ?_
   (repeat (first | refine uw ?_ | refine uo rfl ?_))
   have e0 := oi h0
   subst e0
   refine reta_mk rfl ?_
   exact sr
  ·replace h0 := if_bf c4 h0
   refine awp_skip (awp_seq (awp_reg ?_))
   refine ro rfl (ok_move rfl rfl rfl rfl ?_)
   refine ro rfl (ok_fieldAddrP rfl rfl rfl rfl rfl rfl rfl rfl rfl ?_)
   refine ro rfl (ok_loadP1 rfl rfl rfl rfl rfl rfl rfl rfl ?_)
   refine ro rfl (op_lenL (f := eTAttribute) (l := b_0.fAttrs) rfl rfl rfl rfl rfl rfl rfl ?_)
   obtain ⟨h5, h0⟩ := ck_cut h0
   refine ro rfl (ok_ar rfl rfl rfl rfl rfl rfl h5 ?_)
   refine ro rfl (ok_fieldAddrP rfl rfl rfl rfl rfl rfl rfl rfl rfl ?_)
   refine ro rfl (ok_loadP1 rfl rfl rfl rfl rfl rfl rfl rfl ?_)
   refine ro rfl (op_lenL (f := eTBlock) (l := b_0.fBlocks) rfl rfl rfl rfl rfl rfl rfl ?_)
   obtain ⟨h6, h0⟩ := ck_cut h0
   refine ro rfl (ok_ar rfl rfl rfl rfl rfl rfl h6 ?_)
   refine ro rfl (ok_assign rfl rfl rfl rfl ?_)
   refine rn ?_
   refine awp_seq (awp_seq (awp_reg ?_))
   refine ro rfl (ok_assign rfl rfl rfl rfl ?_)
   refine rn ?_
   refine awp_block ?_
   obtain ⟨o74, h1, hL0, hR0⟩ := jn_cut h0
   refine awp_joinEx 0 (fun v75 : Int => o74 = .inl v75) (fun v75 => ⟨[(2, .p (eI levels_2)), (3, .ptr 3 0), (7, .p (eI v75))], [(3, [.p (eL eTAttribute b_0.fAttrs), .p (eL eTBlock b_0.fBlocks)])]⟩) ?_ ?_
   ·rintro s' ⟨v75, hv, hle⟩
    have h0 := hL0 _ hv
    (repeat (first | refine uw ?_ | refine uo rfl ?_))
    refine awp_ghost hle ?_
    (repeat (first | refine uw ?_ | refine uo rfl ?_))
    refine awp_seq (awp_seq (awp_reg ?_))
    refine ro rfl (ok_assign rfl rfl rfl rfl ?_)
    refine rn ?_
    refine awp_block ?_
    obtain ⟨o76, h1, h0⟩ := bd_cut h0
    refine awp_joinE 2 ⟨[(7, .p (eI o76))], []⟩ ?_ ?_
    ·intro s' hle
     (repeat (first | refine uw ?_ | refine uo rfl ?_))
     refine awp_ghost hle ?_
     (repeat (first | refine uw ?_ | refine uo rfl ?_))
     refine awp_seq (awp_reg ?_)
     refine ro rfl (ok_move rfl rfl rfl rfl ?_)
     refine ro rfl (ok_assign rfl rfl rfl rfl ?_)
     refine rn ?_
     refine awp_ret ?_
     (repeat (first | refine uw ?_ | refine uo rfl ?_))
     have e0 := oi h0
     subst e0
     refine reta_mk rfl ?_
     exact sr
    ·skip
     refine awp_loopG (fun q78 => ⟨[(2, .p (eI levels_2)), (3, .ptr 3 0), (7, .p (eI q78.1)), (9, .p (eI q78.2))], [(3, [.p (eL eTAttribute b_0.fAttrs), .p (eL eTBlock b_0.fBlocks)])]⟩) (fun m (q78 : Int × Int) => ref16_left_l2 (ref16_left n) b_0 levels_2 m q78.1 q78.2) (fun _ => rfl) (v75, 0) h1 (ghost_le (le_mk ⟨er rfl, er rfl, er rfl, er rfl, trivial⟩ ⟨⟨_, rfl, ⟨sr, sr, trivial⟩⟩, trivial⟩)) ?_
     rintro m ⟨n52, i53⟩ h1
     replace h1 : ref16_left_l2 (ref16_left n) b_0 levels_2 (m + 1) n52 i53 = some o76 := h1
     rw [ref16_left_l2] at h1
     refine awp_seq (awp_seq ?_)
     obtain ⟨o79, h2, h1⟩ := bd_cut h1
     refine awp_joinN ⟨[(2, .p (eI levels_2)), (3, .ptr 3 0), (7, .p (eI n52)), (9, .p (eI i53)), (70, .p (eB o79))], [(3, [.p (eL eTAttribute b_0.fAttrs), .p (eL eTBlock b_0.fBlocks)])]⟩ ?_ ?_
     ·intro s' hle
      (repeat (first | refine uw ?_ | refine uo rfl ?_))
      refine awp_ghost hle ?_
      refine wp_if rfl (fun c56 => ?_) (fun c56 => ?_)
      ·replace h1 := if_t c56 h1
       refine awp_skip (awp_seq (awp_block ?_))
       obtain ⟨h57, h1⟩ := ck_cut h1
       obtain ⟨h58, h1⟩ := ck_cut h1
       obtain ⟨h59, h1⟩ := ck_cut h1
       obtain ⟨h60, h1⟩ := ck_cut h1
       obtain ⟨r61, e62, h1⟩ := bd_cut h1
       refine awp_ghost (ghost_le (t := ⟨[(2, .p (eI levels_2)), (3, .ptr 3 0), (7, .p (eI n52)), (9, .p (eI i53))], [(3, [.p (eL eTAttribute b_0.fAttrs), .p (eL eTBlock b_0.fBlocks)])]⟩) (le_mk ⟨er rfl, er rfl, er rfl, er rfl, trivial⟩ ⟨⟨_, rfl, ⟨sr, sr, trivial⟩⟩, trivial⟩)) ?_
       refine awp_drawS ⟨1, [18], (fun _ => none), (by2 [(2, .p (eI levels_2)), (3, .ptr 3 0), (7, .p (eI n52)), (9, .p (eI i53))] [(2, .p (eI levels_2)), (3, .ptr 3 0), (9, .p (eI i53))]), (fun _ => [(3, [.p (eL eTAttribute b_0.fAttrs), .p (eL eTBlock b_0.fBlocks)])])⟩ rfl rfl rfl ⟨rfl, rfl, rfl, rfl, trivial⟩ (lt1 ⟨rfl, rfl, rfl, trivial⟩) rfl rfl rfl rfl ?_
       refine ds_pure (fun _ => .ptr 3 1) rfl rfl rfl (all2 rfl (fun _ => rfl)) (lt1 rfl) (stg_no rfl (stg_yes [(3, _)] ⟨.inl rfl, trivial⟩ (fun sl hsl K hK => one_op rfl (ok_fieldAddrP rfl rfl rfl rfl rfl rfl rfl rfl (hsl _ _ rfl) hK)) stg_nil)) ?_
       refine ds_pure (fun _ => .p (eL eTBlock b_0.fBlocks)) rfl rfl rfl (all2 rfl (fun _ => rfl)) (lt1 rfl) (stg_no rfl (stg_yes [(73, _)] ⟨.inr ⟨0, _, rfl, rfl, rfl⟩, trivial⟩ (fun sl hsl K hK => one_op rfl (ok_loadP1 rfl rfl rfl rfl rfl (hsl _ _ rfl) rfl rfl hK)) stg_nil)) ?_
       refine ds_pure (fun _ => .p (eI i53)) rfl rfl rfl (all2 rfl (fun _ => rfl)) (lt1 rfl) (stg_no rfl (stg_yes [(9, _)] ⟨.inl rfl, trivial⟩ (fun sl hsl K hK => one_op rfl (ok_move rfl rfl rfl (hsl _ _ rfl) hK)) stg_nil)) ?_
       refine ds_pure (fun _ => .rptr (TBlock.cs (lat b_0.fBlocks i53))) rfl rfl rfl (all2 rfl (fun _ => rfl)) (lt1 rfl) (stg_no rfl (stg_yes [(74, _), (75, _)] ⟨.inr ⟨1, _, rfl, rfl, rfl⟩, .inr ⟨2, _, rfl, rfl, rfl⟩, trivial⟩ (fun sl hsl K hK => one_op rfl (op_at (f := eTBlock) (l := b_0.fBlocks) TBlock.cs rfl rfl rfl rfl rfl rfl (hsl _ _ rfl) rfl (hsl _ _ rfl) h57 TBlock.cells_eq (fun _ => rfl) hK)) stg_nil)) ?_
       refine ds_pure (fun _ => .rptr (List.drop 2 (TBlock.cs (lat b_0.fBlocks i53)))) rfl rfl rfl (all2 rfl (fun _ => rfl)) (lt1 rfl) (stg_no rfl (stg_yes [(76, _)] ⟨.inr ⟨3, _, rfl, rfl, rfl⟩, trivial⟩ (fun sl hsl K hK => one_op rfl (ok_fieldAddrR rfl rfl rfl rfl rfl rfl rfl rfl (hsl _ _ rfl) hK)) stg_nil)) ?_
       refine ds_pure (fun _ => .p (.agg (TBody.cs ((lat b_0.fBlocks i53).fBody)))) rfl rfl rfl (all2 rfl (fun _ => rfl)) (lt1 rfl) (stg_no rfl (stg_yes [(77, _)] ⟨.inr ⟨4, _, rfl, rfl, rfl⟩, trivial⟩ (fun sl hsl K hK => one_op rfl (ok_loadRA rfl rfl rfl rfl rfl (hsl _ _ rfl) rfl hK)) stg_nil)) ?_
       refine ds_pure (fun _ => .p (eI n52)) rfl rfl rfl (all2 rfl (fun _ => rfl)) (lt1 rfl) (stg_no rfl (stg_yes [(7, _)] ⟨.inl rfl, trivial⟩ (fun sl hsl K hK => one_op rfl (ok_move rfl rfl rfl (hsl _ _ rfl) hK)) stg_nil)) ?_
       refine ds_pure (fun _ => .ptr 3 1) rfl rfl rfl (all2 rfl (fun _ => rfl)) (lt1 rfl) (stg_no rfl (stg_yes [(3, _)] ⟨.inl rfl, trivial⟩ (fun sl hsl K hK => one_op rfl (ok_fieldAddrP rfl rfl rfl rfl rfl rfl rfl rfl (hsl _ _ rfl) hK)) stg_nil)) ?_
       refine ds_pure (fun _ => .p (eL eTBlock b_0.fBlocks)) rfl rfl rfl (all2 rfl (fun _ => rfl)) (lt1 rfl) (stg_no rfl (stg_yes [(80, _)] ⟨.inr ⟨7, _, rfl, rfl, rfl⟩, trivial⟩ (fun sl hsl K hK => one_op rfl (ok_loadP1 rfl rfl rfl rfl rfl (hsl _ _ rfl) rfl rfl hK)) stg_nil)) ?_
       refine ds_pure (fun _ => .p (eI i53)) rfl rfl rfl (all2 rfl (fun _ => rfl)) (lt1 rfl) (stg_no rfl (stg_yes [(9, _)] ⟨.inl rfl, trivial⟩ (fun sl hsl K hK => one_op rfl (ok_move rfl rfl rfl (hsl _ _ rfl) hK)) stg_nil)) ?_
       refine ds_pure (fun _ => .rptr (TBlock.cs (lat b_0.fBlocks i53))) rfl rfl rfl (all2 rfl (fun _ => rfl)) (lt1 rfl) (stg_no rfl (stg_yes [(81, _), (82, _)] ⟨.inr ⟨8, _, rfl, rfl, rfl⟩, .inr ⟨9, _, rfl, rfl, rfl⟩, trivial⟩ (fun sl hsl K hK => one_op rfl (op_at (f := eTBlock) (l := b_0.fBlocks) TBlock.cs rfl rfl rfl rfl rfl rfl (hsl _ _ rfl) rfl (hsl _ _ rfl) h58 TBlock.cells_eq (fun _ => rfl) hK)) stg_nil)) ?_
       refine ds_pure (fun _ => .rptr (List.drop 1 (TBlock.cs (lat b_0.fBlocks i53)))) rfl rfl rfl (all2 rfl (fun _ => rfl)) (lt1 rfl) (stg_no rfl (stg_yes [(83, _)] ⟨.inr ⟨10, _, rfl, rfl, rfl⟩, trivial⟩ (fun sl hsl K hK => one_op rfl (ok_fieldAddrR rfl rfl rfl rfl rfl rfl rfl rfl (hsl _ _ rfl) hK)) stg_nil)) ?_
       refine ds_pure (fun _ => .p (eL eS ((lat b_0.fBlocks i53).fLabels))) rfl rfl rfl (all2 rfl (fun _ => rfl)) (lt1 rfl) (stg_no rfl (stg_yes [(84, _)] ⟨.inr ⟨11, _, rfl, rfl, rfl⟩, trivial⟩ (fun sl hsl K hK => one_op rfl (ok_loadR1 rfl rfl rfl rfl rfl (hsl _ _ rfl) rfl hK)) stg_nil)) ?_
       refine ds_pure (fun _ => .p (eI (((lat b_0.fBlocks i53).fLabels).length : Int))) rfl rfl rfl (all2 rfl (fun _ => rfl)) (lt1 rfl) (stg_no rfl (stg_yes [(85, _)] ⟨.inr ⟨12, _, rfl, rfl, rfl⟩, trivial⟩ (fun sl hsl K hK => one_op rfl (op_lenL (f := eS) (l := (lat b_0.fBlocks i53).fLabels) rfl rfl rfl rfl rfl (hsl _ _ rfl) rfl hK)) stg_nil)) ?_
       refine ds_pure (fun _ => .p (eI (n52 - (((lat b_0.fBlocks i53).fLabels).length : Int)))) rfl rfl rfl (all2 rfl (fun _ => rfl)) (lt1 rfl) (stg_no rfl (stg_yes [(79, _), (86, _)] ⟨.inr ⟨6, _, rfl, rfl, rfl⟩, .inr ⟨13, _, rfl, rfl, rfl⟩, trivial⟩ (fun sl hsl K hK => one_op rfl (ok_ar rfl rfl rfl (hsl _ _ rfl) (hsl _ _ rfl) rfl h59 hK)) stg_nil)) ?_
       refine ds_pure (fun _ => .p (eI levels_2)) rfl rfl rfl (all2 rfl (fun _ => rfl)) (lt1 rfl) (stg_no rfl (stg_yes [(2, _)] ⟨.inl rfl, trivial⟩ (fun sl hsl K hK => one_op rfl (ok_move rfl rfl rfl (hsl _ _ rfl) hK)) stg_nil)) ?_
       refine ds_pure (fun _ => .p (eI (levels_2 - 1))) rfl rfl rfl (all2 rfl (fun _ => rfl)) (lt1 rfl) (stg_no rfl (stg_yes [(88, _)] ⟨.inr ⟨15, _, rfl, rfl, rfl⟩, trivial⟩ (fun sl hsl K hK => one_op rfl (ok_ar rfl rfl rfl (hsl _ _ rfl) rfl rfl h60 hK)) stg_nil)) ?_
       refine ds_pure (fun _ => .p (eI r61)) rfl rfl rfl (all2 rfl (fun _ => rfl)) (lt1 rfl) (stg_no rfl (stg_yes [(78, _), (87, _), (89, _)] ⟨.inr ⟨5, _, rfl, rfl, rfl⟩, .inr ⟨14, _, rfl, rfl, rfl⟩, .inr ⟨16, _, rfl, rfl, rfl⟩, trivial⟩ (fun sl hsl K hK => one_op rfl (ok_callP (ih_ref16_left_ok ((lat b_0.fBlocks i53).fBody) (n52 - (((lat b_0.fBlocks i53).fLabels).length : Int)) (levels_2 - 1) _ e62) rfl rfl rfl (args_cons (hsl _ _ rfl) (args_cons (hsl _ _ rfl) (args_cons (hsl _ _ rfl) args_nil))) ⟨sr, sr, sr, trivial⟩ Try.call41 rfl hK)) stg_nil)) ?_
       refine ds_imp (fun _ => .p (eI r61)) [(90, _)] rfl ⟨.inr ⟨17, _, rfl, rfl, rfl⟩, trivial⟩ rfl rfl (fun _ => rfl) (lt1 (fun h => absurd h (by decide))) (fun sl hsl K hK => one_op rfl (ok_assign rfl rfl rfl (hsl _ _ rfl) hK)) ?_
       refine ds_nil ?_
       (repeat (first | refine uw ?_ | refine uo rfl ?_))
       refine awp_reg ?_
       refine ro rfl (ok_move rfl rfl rfl rfl ?_)
       obtain ⟨h63, h1⟩ := ck_cut h1
       refine ro rfl (ok_ar rfl rfl rfl rfl rfl rfl h63 ?_)
       refine ro rfl (ok_assign rfl rfl rfl rfl ?_)
       refine rn ?_
       (repeat (first | refine uw ?_ | refine uo rfl ?_))
       exact ⟨(r61, i53 + 1), h1, ghost_le (le_mk ⟨er rfl, er rfl, er rfl, er rfl, trivial⟩ ⟨⟨_, rfl, ⟨sr, sr, trivial⟩⟩, trivial⟩)⟩
      ·replace h1 := if_bf c56 h1
       refine awp_exit ?_
       (repeat (first | refine uw ?_ | refine uo rfl ?_))
       have e1 := oi h1
       subst e1
       exact ghost_le (le_mk ⟨er rfl, trivial⟩ trivial)
     ·skip
      refine awp_reg ?_
      refine ro rfl (ok_move rfl rfl rfl rfl ?_)
      refine ro rfl (ok_fieldAddrP rfl rfl rfl rfl rfl rfl rfl rfl rfl ?_)
      refine ro rfl (ok_loadP1 rfl rfl rfl rfl rfl rfl rfl rfl ?_)
      refine ro rfl (op_lenL (f := eTBlock) (l := b_0.fBlocks) rfl rfl rfl rfl rfl rfl rfl ?_)
      refine ro rfl (ok_cmp rfl rfl rfl rfl rfl rfl ?_)
      refine ro rfl (ok_move rfl rfl rfl rfl ?_)
      refine gd_D rfl rfl rfl (fun c54 => ?_) (fun c54 => ?_)
      ·replace h2 := if_t c54 h2
       refine gd_tt rfl rfl rfl (dt c54) (ok_move rfl rfl rfl rfl ?_)
       refine gd_tt rfl rfl rfl (dt c54) (ok_cmp rfl rfl rfl rfl rfl rfl ?_)
       refine ro rfl (ok_pick_true rfl rfl rfl rfl (dt c54) rfl ?_)
       refine rn ?_
       (repeat (first | refine uw ?_ | refine uo rfl ?_))
       have e2 := oi h2
       subst e2
       exact ghost_le (le_mk ⟨er rfl, er rfl, er rfl, er rfl, er rfl, trivial⟩ ⟨⟨_, rfl, ⟨sr, sr, trivial⟩⟩, trivial⟩)
      ·replace h2 := if_f c54 h2
       refine gd_tf rfl rfl rfl (df c54) rfl rfl ?_
       refine gd_tf rfl rfl rfl (df c54) rfl rfl ?_
       refine ro rfl (ok_pick_false rfl rfl rfl rfl (df c54) rfl ?_)
       refine rn ?_
       (repeat (first | refine uw ?_ | refine uo rfl ?_))
       have e2 := oi h2
       subst e2
       exact ghost_le (le_mk ⟨er rfl, er rfl, er rfl, er rfl, er rfl, trivial⟩ ⟨⟨_, rfl, ⟨sr, sr, trivial⟩⟩, trivial⟩)
   ·skip
    refine awp_loopG (fun q81 => ⟨[(2, .p (eI levels_2)), (3, .ptr 3 0), (7, .p (eI q81.1)), (8, .p (eI q81.2))], [(3, [.p (eL eTAttribute b_0.fAttrs), .p (eL eTBlock b_0.fBlocks)])]⟩) (fun m (q81 : Int × Int) => ref16_left_l1 n b_0 m q81.1 q81.2) (fun _ => rfl) ((nodes_1 - (b_0.fAttrs.length : Int)) - (b_0.fBlocks.length : Int), 0) h1 (ghost_le (le_mk ⟨er rfl, er rfl, er rfl, er rfl, trivial⟩ ⟨⟨_, rfl, ⟨sr, sr, trivial⟩⟩, trivial⟩)) ?_
    rintro m ⟨n22, i23⟩ h1
    replace h1 : ref16_left_l1 n b_0 (m + 1) n22 i23 = some o74 := h1
    rw [ref16_left_l1] at h1
    refine awp_seq (awp_seq ?_)
    obtain ⟨o82, h2, h1⟩ := bd_cut h1
    refine awp_joinN ⟨[(2, .p (eI levels_2)), (3, .ptr 3 0), (7, .p (eI n22)), (8, .p (eI i23)), (40, .p (eB o82))], [(3, [.p (eL eTAttribute b_0.fAttrs), .p (eL eTBlock b_0.fBlocks)])]⟩ ?_ ?_
    ·intro s' hle
     (repeat (first | refine uw ?_ | refine uo rfl ?_))
     refine awp_ghost hle ?_
     refine wp_if rfl (fun c26 => ?_) (fun c26 => ?_)
     ·replace h1 := if_t c26 h1
      refine awp_skip (awp_seq (awp_block (awp_seq (awp_seq (awp_reg ?_)))))
      refine ro rfl (ok_fieldAddrP rfl rfl rfl rfl rfl rfl rfl rfl rfl ?_)
      refine ro rfl (ok_loadP1 rfl rfl rfl rfl rfl rfl rfl rfl ?_)
      refine ro rfl (ok_move rfl rfl rfl rfl ?_)
      obtain ⟨h27, h1⟩ := ck_cut h1
      refine ro rfl (op_at (f := eTAttribute) (l := b_0.fAttrs) TAttribute.cs rfl rfl rfl rfl rfl rfl rfl rfl rfl h27 TAttribute.cells_eq (fun _ => rfl) ?_)
      refine ro rfl (ok_fieldAddrR rfl rfl rfl rfl rfl rfl rfl rfl rfl ?_)
      refine ro rfl (ok_loadRA rfl rfl rfl rfl rfl rfl rfl ?_)
      refine ro rfl (ok_move rfl rfl rfl rfl ?_)
      obtain ⟨h28, h1⟩ := ck_cut h1
      refine ro rfl (ok_ar rfl rfl rfl rfl rfl rfl h28 ?_)
      obtain ⟨r29, e30, h1⟩ := bd_cut h1
      refine ro rfl (ok_callP (ref14_Small_ok _ ((lat b_0.fAttrs i23).fExpr) (n22 + 1) _ e30) rfl rfl rfl rfl ⟨sr, sr, trivial⟩ Try.call23 rfl ?_)
      refine ro rfl (ok_not rfl rfl rfl rfl ?_)
      refine rn ?_
      refine wp_if rfl (fun c31 => ?_) (fun c31 => ?_)
      ·replace h1 := if_t c31 h1
       refine awp_seq (awp_reg ?_)
       refine ro rfl (ok_assign rfl rfl rfl rfl ?_)
       refine rn ?_
       refine awp_ret ?_
       (repeat (first | refine uw ?_ | refine uo rfl ?_))
       have e1 := oi h1
       have e0 := hR0 _ e1.symm
       subst e0
       refine reta_mk rfl ?_
       exact sr
      ·replace h1 := if_bf c31 h1
       refine awp_skip (awp_reg ?_)
       refine ro rfl (ok_move rfl rfl rfl rfl ?_)
       refine ro rfl (ok_fieldAddrP rfl rfl rfl rfl rfl rfl rfl rfl rfl ?_)
       refine ro rfl (ok_loadP1 rfl rfl rfl rfl rfl rfl rfl rfl ?_)
       refine ro rfl (ok_move rfl rfl rfl rfl ?_)
       obtain ⟨h32, h1⟩ := ck_cut h1
       refine ro rfl (op_at (f := eTAttribute) (l := b_0.fAttrs) TAttribute.cs rfl rfl rfl rfl rfl rfl rfl rfl rfl h32 TAttribute.cells_eq (fun _ => rfl) ?_)
       refine ro rfl (ok_fieldAddrR rfl rfl rfl rfl rfl rfl rfl rfl rfl ?_)
       refine ro rfl (ok_loadRA rfl rfl rfl rfl rfl rfl rfl ?_)
       obtain ⟨r33, e34, h1⟩ := bd_cut h1
       refine ro rfl (ok_callP (ref14_Nodes_ok _ ((lat b_0.fAttrs i23).fExpr) _ e34) rfl rfl rfl rfl ⟨sr, trivial⟩ Try.call58 rfl ?_)
       obtain ⟨h35, h1⟩ := ck_cut h1
       refine ro rfl (ok_ar rfl rfl rfl rfl rfl rfl h35 ?_)
       refine ro rfl (ok_assign rfl rfl rfl rfl ?_)
       refine rn ?_
       (repeat (first | refine uw ?_ | refine uo rfl ?_))
       refine awp_reg ?_
       refine ro rfl (ok_move rfl rfl rfl rfl ?_)
       obtain ⟨h36, h1⟩ := ck_cut h1
       refine ro rfl (ok_ar rfl rfl rfl rfl rfl rfl h36 ?_)
       refine ro rfl (ok_assign rfl rfl rfl rfl ?_)
       refine rn ?_
       (repeat (first | refine uw ?_ | refine uo rfl ?_))
       exact ⟨(n22 - r33, i23 + 1), h1, ghost_le (le_mk ⟨er rfl, er rfl, er rfl, er rfl, trivial⟩ ⟨⟨_, rfl, ⟨sr, sr, trivial⟩⟩, trivial⟩)⟩
     ·replace h1 := if_bf c26 h1
      refine awp_exit ?_
      (repeat (first | refine uw ?_ | refine uo rfl ?_))
      have e1 := oi h1
      exact ⟨_, e1.symm, ghost_le (le_mk ⟨er rfl, er rfl, er rfl, trivial⟩ ⟨⟨_, rfl, ⟨sr, sr, trivial⟩⟩, trivial⟩)⟩
    ·skip
     refine awp_reg ?_
     refine ro rfl (ok_move rfl rfl rfl rfl ?_)
     refine ro rfl (ok_fieldAddrP rfl rfl rfl rfl rfl rfl rfl rfl rfl ?_)
     refine ro rfl (ok_loadP1 rfl rfl rfl rfl rfl rfl rfl rfl ?_)
     refine ro rfl (op_lenL (f := eTAttribute) (l := b_0.fAttrs) rfl rfl rfl rfl rfl rfl rfl ?_)
     refine ro rfl (ok_cmp rfl rfl rfl rfl rfl rfl ?_)
     refine ro rfl (ok_move rfl rfl rfl rfl ?_)
     refine gd_D rfl rfl rfl (fun c24 => ?_) (fun c24 => ?_)
     ·replace h2 := if_t c24 h2
      refine gd_tt rfl rfl rfl (dt c24) (ok_move rfl rfl rfl rfl ?_)
      refine gd_tt rfl rfl rfl (dt c24) (ok_cmp rfl rfl rfl rfl rfl rfl ?_)
      refine ro rfl (ok_pick_true rfl rfl rfl rfl (dt c24) rfl ?_)
      refine rn ?_
      (repeat (first | refine uw ?_ | refine uo rfl ?_))
      have e2 := oi h2
      subst e2
      exact ghost_le (le_mk ⟨er rfl, er rfl, er rfl, er rfl, er rfl, trivial⟩ ⟨⟨_, rfl, ⟨sr, sr, trivial⟩⟩, trivial⟩)
     ·replace h2 := if_f c24 h2
      refine gd_tf rfl rfl rfl (df c24) rfl rfl ?_
      refine gd_tf rfl rfl rfl (df c24) rfl rfl ?_
      refine ro rfl (ok_pick_false rfl rfl rfl rfl (df c24) rfl ?_)
      refine rn ?_
      (repeat (first | refine uw ?_ | refine uo rfl ?_))
      have e2 := oi h2
      subst e2
      exact ghost_le (le_mk ⟨er rfl, er rfl, er rfl, er rfl, er rfl, trivial⟩ ⟨⟨_, rfl, ⟨sr, sr, trivial⟩⟩, trivial⟩)
 ·skip
  refine awp_reg ?_
  refine ro rfl (ok_move rfl rfl rfl rfl ?_)
  refine ro rfl (ok_cmp rfl rfl rfl rfl rfl rfl ?_)
  refine ro rfl (ok_move rfl rfl rfl rfl ?_)
  refine gd_D rfl rfl rfl (fun c1 => ?_) (fun c1 => ?_)
  ·replace h1 := if_t c1 h1
   refine gd_ft rfl rfl rfl (dt c1) rfl rfl ?_
   refine gd_ft rfl rfl rfl (dt c1) rfl rfl ?_
   refine gd_ft rfl rfl rfl (dt c1) rfl rfl ?_
   refine gd_ft rfl rfl rfl (dt c1) rfl rfl ?_
   refine gd_ft rfl rfl rfl (dt c1) rfl rfl ?_
   refine gd_ft rfl rfl rfl (dt c1) rfl rfl ?_
   refine gd_ft rfl rfl rfl (dt c1) rfl rfl ?_
   refine gd_ft rfl rfl rfl (dt c1) rfl rfl ?_
   refine gd_ft rfl rfl rfl (dt c1) rfl rfl ?_
   refine ro rfl (ok_pick_true rfl rfl rfl rfl (dt c1) rfl ?_)
   refine rn ?_
   (repeat (first | refine uw ?_ | refine uo rfl ?_))
   have e1 := oi h1
   subst e1
   exact ghost_le (le_mk ⟨er rfl, er rfl, er rfl, er rfl, trivial⟩ ⟨⟨_, rfl, ⟨sr, sr, trivial⟩⟩, trivial⟩)
  ·replace h1 := if_f c1 h1
   refine gd_ff rfl rfl rfl (df c1) (ok_move rfl rfl rfl rfl ?_)
   refine gd_ff rfl rfl rfl (df c1) (ok_fieldAddrP rfl rfl rfl rfl rfl rfl rfl rfl rfl ?_)
   refine gd_ff rfl rfl rfl (df c1) (ok_loadP1 rfl rfl rfl rfl rfl rfl rfl rfl ?_)
   refine gd_ff rfl rfl rfl (df c1) (op_lenL (f := eTAttribute) (l := b_0.fAttrs) rfl rfl rfl rfl rfl rfl rfl ?_)
   refine gd_ff rfl rfl rfl (df c1) (ok_fieldAddrP rfl rfl rfl rfl rfl rfl rfl rfl rfl ?_)
   refine gd_ff rfl rfl rfl (df c1) (ok_loadP1 rfl rfl rfl rfl rfl rfl rfl rfl ?_)
   refine gd_ff rfl rfl rfl (df c1) (op_lenL (f := eTBlock) (l := b_0.fBlocks) rfl rfl rfl rfl rfl rfl rfl ?_)
   obtain ⟨h2, h1⟩ := ck_cut h1
   refine gd_ff rfl rfl rfl (df c1) (ok_ar rfl rfl rfl rfl rfl rfl h2 ?_)
   refine gd_ff rfl rfl rfl (df c1) (ok_cmp rfl rfl rfl rfl rfl rfl ?_)
   refine ro rfl (ok_pick_false rfl rfl rfl rfl (df c1) rfl ?_)
   refine rn ?_
   (repeat (first | refine uw ?_ | refine uo rfl ?_))
   have e1 := oi h1
   subst e1
   exact ghost_le (le_mk ⟨er rfl, er rfl, er rfl, er rfl, trivial⟩ ⟨⟨_, rfl, ⟨sr, sr, trivial⟩⟩, trivial⟩)

def ref16_Small (n : Nat) (b_0 : TBody) (nodes_1 : Int) : Option Bool :=
 (ref16_left n b_0 nodes_1 40).bind fun r1 =>
 some (decide (0 ≤ r1))

set_option maxHeartbeats 4000000 in
theorem ref16_Small_ok (n : Nat) (b_0 : TBody) (nodes_1 : Int) (r : Bool) (h0 : ref16_Small n b_0 nodes_1 = some r) : PCalls Try.prog 25 [.agg (TBody.cs b_0), eI nodes_1] (· = .p (eB r)) := by
 unfold ref16_Small at h0
 refine pbodyA good Try.func25 rfl rfl rfl fun w0 => ?_
 refine awp_seq (awp_reg ?_)
 refine ro rfl (ok_box rfl rfl rfl rfl rfl ?_)
 refine ro rfl (ok_assign rfl rfl rfl rfl ?_)
 refine rn ?_
 refine awp_seq (awp_reg ?_)
 refine ro rfl (ok_loadPA rfl rfl rfl rfl rfl rfl rfl rfl rfl ?_)
 refine ro rfl (ok_move rfl rfl rfl rfl ?_)
 obtain ⟨r1, e2, h0⟩ := bd_cut h0
 refine ro rfl (ok_callP (ref16_left_ok _ b_0 nodes_1 40 _ e2) rfl rfl rfl rfl ⟨sr, sr, sr, trivial⟩ Try.call41 rfl ?_)
 refine ro rfl (ok_cmp rfl rfl rfl rfl rfl rfl ?_)
 refine ro rfl (ok_assign rfl rfl rfl rfl ?_)
 refine rn ?_
 refine awp_ret ?_
 (repeat (first | refine uw ?_ | refine uo rfl ?_))
 have e0 := oi h0
 subst e0
 refine reta_mk rfl ?_
 exact sr

def ref15_template_l1 (s_0 : Bytes) : Nat → Int → Option (Unit ⊕ Bool)
 | 0, _ => none
 | m + 1, i11 =>
 ck (inR (i11 + 1)) <|
 if i11 + 1 < (s_0.length : Int) then
  (
    ck ((0 : Int) ≤ i11 ∧ i11 < (s_0.length : Int)) <|
    if byt s_0 i11 = 36 then
     ck (inR (i11 + 1)) <|
     ck ((0 : Int) ≤ i11 + 1 ∧ i11 + 1 < (s_0.length : Int)) <|
     some (decide (byt s_0 (i11 + 1) = 123))
    else
     some false
   : Option Bool).bind fun t18 =>
  if t18 = true then
   some (.inr true)
  else
   ck (inR (i11 + 1)) <|
   ref15_template_l1 s_0 m (i11 + 1)
 else
  some (.inl ())

def ref15_template (n : Nat) (s_0 : Bytes) : Option Bool :=
 jn (ref15_template_l1 s_0 n 0) fun q22 =>
 some false

set_option maxHeartbeats 4000000 in
theorem ref15_template_ok (n : Nat) (s_0 : Bytes) (r : Bool) (h0 : ref15_template n s_0 = some r) : PCalls Try.prog 61 [eS s_0] (· = .p (eB r)) := by
 unfold ref15_template at h0
 refine pbodyA good Try.func61 rfl rfl rfl fun w0 => ?_
 refine awp_seq (awp_reg ?_)
 refine ro rfl (ok_assign rfl rfl rfl rfl ?_)
 refine rn ?_
 refine awp_seq (awp_seq (awp_reg ?_))
 refine ro rfl (ok_assign rfl rfl rfl rfl ?_)
 refine rn ?_
 refine awp_block ?_
 obtain ⟨o24, h1, hL0, hR0⟩ := jn_cut h0
 refine awp_joinEx 0 (fun v25 : Unit => o24 = .inl v25) (fun v25 => ⟨[], []⟩) ?_ ?_
 ·rintro s' ⟨v25, hv, hle⟩
  have h0 := hL0 _ hv
  (repeat (first | refine uw ?_ | refine uo rfl ?_))
  refine awp_ghost hle ?_
  (repeat (first | refine uw ?_ | refine uo rfl ?_))
  refine awp_seq (awp_reg ?_)
  refine ro rfl (ok_assign rfl rfl rfl rfl ?_)
  refine rn ?_
  refine awp_ret ?_
  (repeat (first | refine uw ?_ | refine uo rfl ?_))
  have e0 := oi h0
  subst e0
  refine reta_mk rfl ?_
  exact sr
 ·skip
  refine awp_loopG (fun q26 => ⟨[(0, .p (eS s_0)), (3, .p (eI q26))], []⟩) (fun m (q26 : Int) => ref15_template_l1 s_0 m q26) (fun _ => rfl) 0 h1 (ghost_le (le_mk ⟨er rfl, er rfl, trivial⟩ trivial)) ?_
  rintro m i11 h1
  replace h1 : ref15_template_l1 s_0 (m + 1) i11 = some o24 := h1
  rw [ref15_template_l1] at h1
  refine awp_seq (awp_seq (awp_reg ?_))
  refine ro rfl (ok_move rfl rfl rfl rfl ?_)
  obtain ⟨h12, h1⟩ := ck_cut h1
  refine ro rfl (ok_ar rfl rfl rfl rfl rfl rfl h12 ?_)
  refine ro rfl (ok_move rfl rfl rfl rfl ?_)
  refine ro rfl (ok_lenS rfl rfl rfl rfl rfl rfl ?_)
  refine ro rfl (ok_cmp rfl rfl rfl rfl rfl rfl ?_)
  refine rn ?_
  refine wp_ifD rfl (fun c13 => ?_) (fun c13 => ?_)
  ·replace h1 := if_t c13 h1
   refine awp_skip (awp_seq (awp_block (awp_seq ?_)))
   obtain ⟨o27, h2, h1⟩ := bd_cut h1
   refine awp_joinN ⟨[(0, .p (eS s_0)), (3, .p (eI i11)), (21, .p (eB o27))], []⟩ ?_ ?_
   ·intro s' hle
    (repeat (first | refine uw ?_ | refine uo rfl ?_))
    refine awp_ghost hle ?_
    refine wp_if rfl (fun c19 => ?_) (fun c19 => ?_)
    ·replace h1 := if_t c19 h1
     refine awp_seq (awp_reg ?_)
     refine ro rfl (ok_assign rfl rfl rfl rfl ?_)
     refine rn ?_
     refine awp_ret ?_
     (repeat (first | refine uw ?_ | refine uo rfl ?_))
     have e1 := oi h1
     have e0 := hR0 _ e1.symm
     subst e0
     refine reta_mk rfl ?_
     exact sr
    ·replace h1 := if_bf c19 h1
     refine awp_skip ?_
     (repeat (first | refine uw ?_ | refine uo rfl ?_))
     refine awp_reg ?_
     refine ro rfl (ok_move rfl rfl rfl rfl ?_)
     obtain ⟨h20, h1⟩ := ck_cut h1
     refine ro rfl (ok_ar rfl rfl rfl rfl rfl rfl h20 ?_)
     refine ro rfl (ok_assign rfl rfl rfl rfl ?_)
     refine rn ?_
     (repeat (first | refine uw ?_ | refine uo rfl ?_))
     exact ⟨(i11 + 1), h1, ghost_le (le_mk ⟨er rfl, er rfl, trivial⟩ trivial)⟩
   ·skip
    refine awp_reg ?_
    refine ro rfl (ok_move rfl rfl rfl rfl ?_)
    refine ro rfl (ok_move rfl rfl rfl rfl ?_)
    obtain ⟨h14, h2⟩ := ck_cut h2
    refine ro rfl (op_indexS rfl rfl rfl rfl rfl rfl rfl h14 ?_)
    refine ro rfl (ok_cmp rfl rfl rfl rfl rfl rfl ?_)
    refine ro rfl (ok_move rfl rfl rfl rfl ?_)
    refine gd_D rfl rfl rfl (fun c15 => ?_) (fun c15 => ?_)
    ·replace h2 := if_t c15 h2
     refine gd_tt rfl rfl rfl (dt c15) (ok_move rfl rfl rfl rfl ?_)
     refine gd_tt rfl rfl rfl (dt c15) (ok_move rfl rfl rfl rfl ?_)
     obtain ⟨h16, h2⟩ := ck_cut h2
     refine gd_tt rfl rfl rfl (dt c15) (ok_ar rfl rfl rfl rfl rfl rfl h16 ?_)
     obtain ⟨h17, h2⟩ := ck_cut h2
     refine gd_tt rfl rfl rfl (dt c15) (op_indexS rfl rfl rfl rfl rfl rfl rfl h17 ?_)
     refine gd_tt rfl rfl rfl (dt c15) (ok_cmp rfl rfl rfl rfl rfl rfl ?_)
     refine ro rfl (ok_pick_true rfl rfl rfl rfl (dt c15) rfl ?_)
     refine rn ?_
     (repeat (first | refine uw ?_ | refine uo rfl ?_))
     have e2 := oi h2
     subst e2
     exact ghost_le (le_mk ⟨er rfl, er rfl, er rfl, trivial⟩ trivial)
    ·replace h2 := if_f c15 h2
     refine gd_tf rfl rfl rfl (df c15) rfl rfl ?_
     refine gd_tf rfl rfl rfl (df c15) rfl rfl ?_
     refine gd_tf rfl rfl rfl (df c15) rfl rfl ?_
     refine gd_tf rfl rfl rfl (df c15) rfl rfl ?_
     refine gd_tf rfl rfl rfl (df c15) rfl rfl ?_
     refine ro rfl (ok_pick_false rfl rfl rfl rfl (df c15) rfl ?_)
     refine rn ?_
     (repeat (first | refine uw ?_ | refine uo rfl ?_))
     have e2 := oi h2
     subst e2
     exact ghost_le (le_mk ⟨er rfl, er rfl, er rfl, trivial⟩ trivial)
  ·replace h1 := if_f c13 h1
   refine awp_exit ?_
   (repeat (first | refine uw ?_ | refine uo rfl ?_))
   have e1 := oi h1
   exact ⟨_, e1.symm, ghost_le (le_mk trivial trivial)⟩

def ref15_check_l2 (b_0 : TBody) (i22 : Int) : Nat → Int → Option (Unit ⊕ (Unit ⊕ Int))
 | 0, _ => none
 | m + 1, k33 =>
 if k33 < i22 then
  ck ((0 : Int) ≤ k33 ∧ k33 < (b_0.fAttrs.length : Int)) <|
  if (lat b_0.fAttrs k33).fName = (lat b_0.fAttrs i22).fName then
   some (.inr (.inr 8))
  else
   ck (inR (k33 + 1)) <|
   ref15_check_l2 b_0 i22 m (k33 + 1)
 else
  some (.inl ())

def ref15_check_l3 (n : Nat) (b_0 : TBody) : Nat → Int → Option (Unit ⊕ Int)
 | 0, _ => none
 | m + 1, i22 =>
 if i22 < (b_0.fAttrs.length : Int) then
  ck ((0 : Int) ≤ i22 ∧ i22 < (b_0.fAttrs.length : Int)) <|
  (ref06_Identifier n ((lat b_0.fAttrs i22).fName)).bind fun r25 =>
  if (!r25) = true then
   some (.inr 7)
  else
   jn (ref15_check_l2 b_0 i22 n 0) fun q120 =>
   (ref14_Check n ((lat b_0.fAttrs i22).fExpr)).bind fun r39 =>
   if r39 = 0 then
    ck (inR (i22 + 1)) <|
    ref15_check_l3 n b_0 m (i22 + 1)
   else
    some (.inr r39)
 else
  some (.inl ())

def ref15_check_l5 (n : Nat) (b_0 : TBody) (i81 : Int) : Nat → Int → Option (Unit ⊕ (Unit ⊕ Int))
 | 0, _ => none
 | m + 1, k99 =>
 if k99 < (((lat b_0.fBlocks i81).fLabels).length : Int) then
  (
    ck ((0 : Int) ≤ k99 ∧ k99 < (((lat b_0.fBlocks i81).fLabels).length : Int)) <|
    (ref02_Valid n (lat ((lat b_0.fBlocks i81).fLabels) k99)).bind fun r102 =>
    if (!r102) = true then
     some true
    else
     ck ((0 : Int) ≤ k99 ∧ k99 < (((lat b_0.fBlocks i81).fLabels).length : Int)) <|
     (ref15_template n (lat ((lat b_0.fBlocks i81).fLabels) k99)).bind fun r106 =>
     some r106
   : Option Bool).bind fun t108 =>
  if t108 = true then
   some (.inr (.inr 1))
  else
   ck (inR (k99 + 1)) <|
   ref15_check_l5 n b_0 i81 m (k99 + 1)
 else
  some (.inl ())

def ref15_check_l6 (n : Nat) (r_ref15_check : TBody → Int → Option Int) (b_0 : TBody) (depth_1 : Int) : Nat → Int → Option (Unit ⊕ Int)
 | 0, _ => none
 | m + 1, i81 =>
 if i81 < (b_0.fBlocks.length : Int) then
  ck ((0 : Int) ≤ i81 ∧ i81 < (b_0.fBlocks.length : Int)) <|
  (ref06_Identifier n ((lat b_0.fBlocks i81).fType)).bind fun r84 =>
  if (!r84) = true then
   some (.inr 7)
  else
   jn (ref15_check_l5 n b_0 i81 n 0) fun q122 =>
   if 32 ≤ depth_1 then
    some (.inr 4)
   else
    ck (inR (depth_1 + 1)) <|
    (r_ref15_check ((lat b_0.fBlocks i81).fBody) (depth_1 + 1)).bind fun r114 =>
    if r114 = 0 then
     ck (inR (i81 + 1)) <|
     ref15_check_l6 n r_ref15_check b_0 depth_1 m (i81 + 1)
    else
     some (.inr r114)
 else
  some (.inl ())

def ref15_check : Nat → TBody → Int → Option Int
 | 0, _, _ => none
 | n + 1, b_0, depth_1 =>
 jn (ref15_check_l3 n b_0 n 0) fun q119 =>
 jn (ref15_check_l6 n (ref15_check n) b_0 depth_1 n 0) fun q121 =>
 some 0

set_option maxHeartbeats 4000000 in
theorem ref15_check_ok (n : Nat) : ∀ (b_0 : TBody) (depth_1 : Int) (r : Int), ref15_check n b_0 depth_1 = some r → PCalls Try.prog 42 [.agg (TBody.cs b_0), eI depth_1] (· = .p (eI r)) := by
 induction n with
 | zero => intro b_0 depth_1 r h0; cases h0
 | succ n ih =>
 have ih_ref15_check_ok := ih
 intro b_0 depth_1 r h0
 rw [ref15_check] at h0
 refine pbodyA good Try.func42 rfl rfl rfl fun w0 => ?_
 refine awp_seq (awp_reg ?_)
 refine ro rfl (ok_box rfl rfl rfl rfl rfl ?_)
 refine ro rfl (ok_assign rfl rfl rfl rfl ?_)
 refine rn ?_
 refine awp_seq (awp_seq (awp_reg ?_))
 refine ro rfl (ok_assign rfl rfl rfl rfl ?_)
 refine rn ?_
 refine awp_block ?_
 obtain ⟨o124, h1, hL0, hR0⟩ := jn_cut h0
 refine awp_joinEx 0 (fun v125 : Unit => o124 = .inl v125) (fun v125 => ⟨[(1, .p (eI depth_1)), (2, .ptr 2 0)], [(2, [.p (eL eTAttribute b_0.fAttrs), .p (eL eTBlock b_0.fBlocks)])]⟩) ?_ ?_
 ·rintro s' ⟨v125, hv, hle⟩
  have h0 := hL0 _ hv
  (repeat (first | refine uw ?_ | refine uo rfl ?_))
  refine awp_ghost hle ?_
  (repeat (first | refine uw ?_ | refine uo rfl ?_))
  refine awp_seq (awp_seq (awp_reg ?_))
  refine ro rfl (ok_assign rfl rfl rfl rfl ?_)
  refine rn ?_
  refine awp_block ?_
  obtain ⟨o126, h1, hL0, hR0⟩ := jn_cut h0
  refine awp_joinEx 4 (fun v127 : Unit => o126 = .inl v127) (fun v127 => ⟨[], []⟩) ?_ ?_
  ·rintro s' ⟨v127, hv, hle⟩
   have h0 := hL0 _ hv
   (repeat (first | refine uw ?_ | refine uo rfl ?_))
   refine awp_ghost hle ?_
   (repeat (first | refine uw ?_ | refine uo rfl ?_))
   refine awp_seq (awp_reg ?_)
   refine ro rfl (ok_assign rfl rfl rfl rfl ?_)
   refine rn ?_
   refine awp_ret ?_
   (repeat (first | refine uw ?_ | refine uo rfl ?_))
   have e0 := oi h0
   subst e0
   refine reta_mk rfl ?_
   exact sr
  ·skip
   refine awp_loopG (fun q128 => ⟨[(1, .p (eI depth_1)), (2, .ptr 2 0), (9, .p (eI q128))], [(2, [.p (eL eTAttribute b_0.fAttrs), .p (eL eTBlock b_0.fBlocks)])]⟩) (fun m (q128 : Int) => ref15_check_l6 n (ref15_check n) b_0 depth_1 m q128) (fun _ => rfl) 0 h1 (ghost_le (le_mk ⟨er rfl, er rfl, er rfl, trivial⟩ ⟨⟨_, rfl, ⟨sr, sr, trivial⟩⟩, trivial⟩)) ?_
   rintro m i81 h1
   replace h1 : ref15_check_l6 n (ref15_check n) b_0 depth_1 (m + 1) i81 = some o126 := h1
   rw [ref15_check_l6] at h1
   refine awp_seq (awp_seq (awp_reg ?_))
   refine ro rfl (ok_move rfl rfl rfl rfl ?_)
   refine ro rfl (ok_fieldAddrP rfl rfl rfl rfl rfl rfl rfl rfl rfl ?_)
   refine ro rfl (ok_loadP1 rfl rfl rfl rfl rfl rfl rfl rfl ?_)
   refine ro rfl (op_lenL (f := eTBlock) (l := b_0.fBlocks) rfl rfl rfl rfl rfl rfl rfl ?_)
   refine ro rfl (ok_cmp rfl rfl rfl rfl rfl rfl ?_)
   refine rn ?_
   refine wp_ifD rfl (fun c82 => ?_) (fun c82 => ?_)
   ·replace h1 := if_t c82 h1
    refine awp_skip (awp_seq (awp_block (awp_seq (awp_reg ?_))))
    refine ro rfl (ok_fieldAddrP rfl rfl rfl rfl rfl rfl rfl rfl rfl ?_)
    refine ro rfl (ok_loadP1 rfl rfl rfl rfl rfl rfl rfl rfl ?_)
    refine ro rfl (ok_move rfl rfl rfl rfl ?_)
    obtain ⟨h83, h1⟩ := ck_cut h1
    refine ro rfl (op_at (f := eTBlock) (l := b_0.fBlocks) TBlock.cs rfl rfl rfl rfl rfl rfl rfl rfl rfl h83 TBlock.cells_eq (fun _ => rfl) ?_)
    refine ro rfl (ok_loadRA rfl rfl rfl rfl rfl rfl rfl ?_)
    refine ro rfl (ok_alloc rfl rfl rfl rfl rfl ?_)
    refine ro rfl (ok_store rfl rfl rfl rfl rfl rfl rfl rfl (Nat.le_of_ble_eq_true rfl) ?_)
    refine rn ?_
    refine awp_seq (awp_seq (awp_reg ?_))
    refine ro rfl (ok_fieldAddrP rfl rfl rfl rfl rfl rfl rfl rfl rfl ?_)
    refine ro rfl (ok_loadP1 rfl rfl rfl rfl rfl rfl rfl rfl ?_)
    obtain ⟨r84, e85, h1⟩ := bd_cut h1
    refine ro rfl (ok_callP (ref06_Identifier_ok _ ((lat b_0.fBlocks i81).fType) _ e85) rfl rfl rfl rfl ⟨sr, trivial⟩ Try.call59 rfl ?_)
    refine ro rfl (ok_not rfl rfl rfl rfl ?_)
    refine rn ?_
    refine wp_if rfl (fun c86 => ?_) (fun c86 => ?_)
    ·replace h1 := if_t c86 h1
     refine awp_seq (awp_reg ?_)
     refine ro rfl (ok_assign rfl rfl rfl rfl ?_)
     refine rn ?_
     refine awp_ret ?_
     (repeat (first | refine uw ?_ | refine uo rfl ?_))
     have e1 := oi h1
     have e0 := hR0 _ e1.symm
     subst e0
     refine reta_mk rfl ?_
     exact sr
    ·replace h1 := if_bf c86 h1
     refine awp_skip (awp_seq (awp_seq (awp_reg ?_)))
     refine ro rfl (ok_assign rfl rfl rfl rfl ?_)
     refine rn ?_
     refine awp_block ?_
     obtain ⟨o129, h2, hL1, hR1⟩ := jn_cut h1
     refine awp_joinEx 6 (fun v130 : Unit => o129 = .inl v130) (fun v130 => ⟨[(1, .p (eI depth_1)), (2, .ptr 2 0), (9, .p (eI i81)), (10, .ptr 10 0)], [(2, [.p (eL eTAttribute b_0.fAttrs), .p (eL eTBlock b_0.fBlocks)]), (10, [.p (eS ((lat b_0.fBlocks i81).fType)), .p (eL eS ((lat b_0.fBlocks i81).fLabels)), .p (eL eTAttribute (((lat b_0.fBlocks i81).fBody).fAttrs)), .p (eL eTBlock (((lat b_0.fBlocks i81).fBody).fBlocks)), .p (eI ((lat b_0.fBlocks i81).fAt))])]⟩) ?_ ?_
     ·rintro s' ⟨v130, hv, hle⟩
      have h1 := hL1 _ hv
      (repeat (first | refine uw ?_ | refine uo rfl ?_))
      refine awp_ghost hle ?_
      (repeat (first | refine uw ?_ | refine uo rfl ?_))
      refine awp_seq (awp_seq (awp_reg ?_))
      refine ro rfl (ok_move rfl rfl rfl rfl ?_)
      refine ro rfl (ok_cmp rfl rfl rfl rfl rfl rfl ?_)
      refine rn ?_
      refine wp_ifD rfl (fun c112 => ?_) (fun c112 => ?_)
      ·replace h1 := if_t c112 h1
       refine awp_seq (awp_reg ?_)
       refine ro rfl (ok_assign rfl rfl rfl rfl ?_)
       refine rn ?_
       refine awp_ret ?_
       (repeat (first | refine uw ?_ | refine uo rfl ?_))
       have e1 := oi h1
       have e0 := hR0 _ e1.symm
       subst e0
       refine reta_mk rfl ?_
       exact sr
      ·replace h1 := if_f c112 h1
       refine awp_skip (awp_seq (awp_reg ?_))
       refine ro rfl (ok_fieldAddrP rfl rfl rfl rfl rfl rfl rfl rfl rfl ?_)
       refine ro rfl (ok_loadPA rfl rfl rfl rfl rfl rfl rfl rfl rfl ?_)
       refine ro rfl (ok_move rfl rfl rfl rfl ?_)
       obtain ⟨h113, h1⟩ := ck_cut h1
       refine ro rfl (ok_ar rfl rfl rfl rfl rfl rfl h113 ?_)
       obtain ⟨r114, e115, h1⟩ := bd_cut h1
       refine ro rfl (ok_callP (ih_ref15_check_ok ((lat b_0.fBlocks i81).fBody) (depth_1 + 1) _ e115) rfl rfl rfl rfl ⟨sr, sr, trivial⟩ Try.call42 rfl ?_)
       refine ro rfl (ok_assign rfl rfl rfl rfl ?_)
       refine rn ?_
       refine awp_seq (awp_reg ?_)
       refine ro rfl (ok_move rfl rfl rfl rfl ?_)
       refine ro rfl (ok_cmp rfl rfl rfl rfl rfl rfl ?_)
       refine rn ?_
       refine wp_ifN rfl (fun c116 => ?_) (fun c116 => ?_)
       ·replace h1 := if_f c116 h1
        refine awp_seq (awp_reg ?_)
        refine ro rfl (ok_move rfl rfl rfl rfl ?_)
        refine ro rfl (ok_assign rfl rfl rfl rfl ?_)
        refine rn ?_
        refine awp_ret ?_
        (repeat (first | refine uw ?_ | refine uo rfl ?_))
        have e1 := oi h1
        have e0 := hR0 _ e1.symm
        subst e0
        refine reta_mk rfl ?_
        exact sr
       ·replace h1 := if_t c116 h1
        refine awp_skip ?_
        (repeat (first | refine uw ?_ | refine uo rfl ?_))
        refine awp_reg ?_
        refine ro rfl (ok_move rfl rfl rfl rfl ?_)
        obtain ⟨h117, h1⟩ := ck_cut h1
        refine ro rfl (ok_ar rfl rfl rfl rfl rfl rfl h117 ?_)
        refine ro rfl (ok_assign rfl rfl rfl rfl ?_)
        refine rn ?_
        (repeat (first | refine uw ?_ | refine uo rfl ?_))
        exact ⟨(i81 + 1), h1, ghost_le (le_mk ⟨er rfl, er rfl, er rfl, trivial⟩ ⟨⟨_, rfl, ⟨sr, sr, trivial⟩⟩, trivial⟩)⟩
     ·skip
      refine awp_loopG (fun q131 => ⟨[(1, .p (eI depth_1)), (2, .ptr 2 0), (9, .p (eI i81)), (10, .ptr 10 0), (11, .p (eI q131))], [(2, [.p (eL eTAttribute b_0.fAttrs), .p (eL eTBlock b_0.fBlocks)]), (10, [.p (eS ((lat b_0.fBlocks i81).fType)), .p (eL eS ((lat b_0.fBlocks i81).fLabels)), .p (eL eTAttribute (((lat b_0.fBlocks i81).fBody).fAttrs)), .p (eL eTBlock (((lat b_0.fBlocks i81).fBody).fBlocks)), .p (eI ((lat b_0.fBlocks i81).fAt))])]⟩) (fun m (q131 : Int) => ref15_check_l5 n b_0 i81 m q131) (fun _ => rfl) 0 h2 (ghost_le (le_mk ⟨er rfl, er rfl, er rfl, er rfl, er rfl, trivial⟩ ⟨⟨_, rfl, ⟨sr, sr, trivial⟩⟩, ⟨_, rfl, ⟨sr, sr, sr, sr, sr, trivial⟩⟩, trivial⟩)) ?_
      rintro m k99 h2
      replace h2 : ref15_check_l5 n b_0 i81 (m + 1) k99 = some o129 := h2
      rw [ref15_check_l5] at h2
      refine awp_seq (awp_seq (awp_reg ?_))
      refine ro rfl (ok_move rfl rfl rfl rfl ?_)
      refine ro rfl (ok_fieldAddrP rfl rfl rfl rfl rfl rfl rfl rfl rfl ?_)
      refine ro rfl (ok_loadP1 rfl rfl rfl rfl rfl rfl rfl rfl ?_)
      refine ro rfl (op_lenL (f := eS) (l := (lat b_0.fBlocks i81).fLabels) rfl rfl rfl rfl rfl rfl rfl ?_)
      refine ro rfl (ok_cmp rfl rfl rfl rfl rfl rfl ?_)
      refine rn ?_
      refine wp_ifD rfl (fun c100 => ?_) (fun c100 => ?_)
      ·replace h2 := if_t c100 h2
       refine awp_skip (awp_seq (awp_block (awp_seq ?_)))
       obtain ⟨o132, h3, h2⟩ := bd_cut h2
       refine awp_joinN ⟨[(1, .p (eI depth_1)), (2, .ptr 2 0), (9, .p (eI i81)), (10, .ptr 10 0), (11, .p (eI k99)), (86, .p (eB o132))], [(2, [.p (eL eTAttribute b_0.fAttrs), .p (eL eTBlock b_0.fBlocks)]), (10, [.p (eS ((lat b_0.fBlocks i81).fType)), .p (eL eS ((lat b_0.fBlocks i81).fLabels)), .p (eL eTAttribute (((lat b_0.fBlocks i81).fBody).fAttrs)), .p (eL eTBlock (((lat b_0.fBlocks i81).fBody).fBlocks)), .p (eI ((lat b_0.fBlocks i81).fAt))])]⟩ ?_ ?_
       ·intro s' hle
        (repeat (first | refine uw ?_ | refine uo rfl ?_))
        refine awp_ghost hle ?_
        refine wp_if rfl (fun c109 => ?_) (fun c109 => ?_)
        ·replace h2 := if_t c109 h2
         refine awp_seq (awp_reg ?_)
         refine ro rfl (ok_assign rfl rfl rfl rfl ?_)
         refine rn ?_
         refine awp_ret ?_
         (repeat (first | refine uw ?_ | refine uo rfl ?_))
         have e2 := oi h2
         have e1 := hR1 _ e2.symm
         have e0 := hR0 _ e1.symm
         subst e0
         refine reta_mk rfl ?_
         exact sr
        ·replace h2 := if_bf c109 h2
         refine awp_skip ?_
         (repeat (first | refine uw ?_ | refine uo rfl ?_))
         refine awp_reg ?_
         refine ro rfl (ok_move rfl rfl rfl rfl ?_)
         obtain ⟨h110, h2⟩ := ck_cut h2
         refine ro rfl (ok_ar rfl rfl rfl rfl rfl rfl h110 ?_)
         refine ro rfl (ok_assign rfl rfl rfl rfl ?_)
         refine rn ?_
         (repeat (first | refine uw ?_ | refine uo rfl ?_))
         exact ⟨(k99 + 1), h2, ghost_le (le_mk ⟨er rfl, er rfl, er rfl, er rfl, er rfl, trivial⟩ ⟨⟨_, rfl, ⟨sr, sr, trivial⟩⟩, ⟨_, rfl, ⟨sr, sr, sr, sr, sr, trivial⟩⟩, trivial⟩)⟩
       ·skip
        refine awp_reg ?_
        refine ro rfl (ok_fieldAddrP rfl rfl rfl rfl rfl rfl rfl rfl rfl ?_)
        refine ro rfl (ok_loadP1 rfl rfl rfl rfl rfl rfl rfl rfl ?_)
        refine ro rfl (ok_move rfl rfl rfl rfl ?_)
        obtain ⟨h101, h3⟩ := ck_cut h3
        refine ro rfl (op_at (f := eS) (l := (lat b_0.fBlocks i81).fLabels) (fun x => [eS x]) rfl rfl rfl rfl rfl rfl rfl rfl rfl h101 (fun _ => rfl) (fun _ => rfl) ?_)
        refine ro rfl (ok_loadR1 rfl rfl rfl rfl rfl rfl rfl ?_)
        obtain ⟨r102, e103, h3⟩ := bd_cut h3
        refine ro rfl (ok_callP (ref02_Valid_ok _ (lat ((lat b_0.fBlocks i81).fLabels) k99) _ e103) rfl rfl rfl rfl ⟨sr, trivial⟩ Try.call60 rfl ?_)
        refine ro rfl (ok_not rfl rfl rfl rfl ?_)
        refine ro rfl (ok_move rfl rfl rfl rfl ?_)
        refine gd_B rfl rfl rfl (fun c104 => ?_) (fun c104 => ?_)
        ·replace h3 := if_t c104 h3
         refine gd_ft rfl rfl rfl (c104) rfl rfl ?_
         refine gd_ft rfl rfl rfl (c104) rfl rfl ?_
         refine gd_ft rfl rfl rfl (c104) rfl rfl ?_
         refine gd_ft rfl rfl rfl (c104) rfl rfl ?_
         refine gd_ft rfl rfl rfl (c104) rfl rfl ?_
         refine gd_ft rfl rfl rfl (c104) rfl rfl ?_
         refine ro rfl (ok_pick_true rfl rfl rfl rfl (c104) rfl ?_)
         refine rn ?_
         (repeat (first | refine uw ?_ | refine uo rfl ?_))
         have e3 := oi h3
         subst e3
         exact ghost_le (le_mk ⟨er rfl, er rfl, er rfl, er rfl, er rfl, er rfl, trivial⟩ ⟨⟨_, rfl, ⟨sr, sr, trivial⟩⟩, ⟨_, rfl, ⟨sr, sr, sr, sr, sr, trivial⟩⟩, trivial⟩)
        ·replace h3 := if_bf c104 h3
         refine gd_ff rfl rfl rfl (c104) (ok_fieldAddrP rfl rfl rfl rfl rfl rfl rfl rfl rfl ?_)
         refine gd_ff rfl rfl rfl (c104) (ok_loadP1 rfl rfl rfl rfl rfl rfl rfl rfl ?_)
         refine gd_ff rfl rfl rfl (c104) (ok_move rfl rfl rfl rfl ?_)
         obtain ⟨h105, h3⟩ := ck_cut h3
         refine gd_ff rfl rfl rfl (c104) (op_at (f := eS) (l := (lat b_0.fBlocks i81).fLabels) (fun x => [eS x]) rfl rfl rfl rfl rfl rfl rfl rfl rfl h105 (fun _ => rfl) (fun _ => rfl) ?_)
         refine gd_ff rfl rfl rfl (c104) (ok_loadR1 rfl rfl rfl rfl rfl rfl rfl ?_)
         obtain ⟨r106, e107, h3⟩ := bd_cut h3
         refine gd_ff rfl rfl rfl (c104) (ok_callP (ref15_template_ok _ (lat ((lat b_0.fBlocks i81).fLabels) k99) _ e107) rfl rfl rfl rfl ⟨sr, trivial⟩ Try.call61 rfl ?_)
         refine ro rfl (ok_pick_false rfl rfl rfl rfl (c104) rfl ?_)
         refine rn ?_
         (repeat (first | refine uw ?_ | refine uo rfl ?_))
         have e3 := oi h3
         subst e3
         exact ghost_le (le_mk ⟨er rfl, er rfl, er rfl, er rfl, er rfl, er rfl, trivial⟩ ⟨⟨_, rfl, ⟨sr, sr, trivial⟩⟩, ⟨_, rfl, ⟨sr, sr, sr, sr, sr, trivial⟩⟩, trivial⟩)
      ·replace h2 := if_f c100 h2
       refine awp_exit ?_
       (repeat (first | refine uw ?_ | refine uo rfl ?_))
       have e2 := oi h2
       exact ⟨_, e2.symm, ghost_le (le_mk ⟨er rfl, er rfl, er rfl, er rfl, trivial⟩ ⟨⟨_, rfl, ⟨sr, sr, trivial⟩⟩, ⟨_, rfl, ⟨sr, sr, sr, sr, sr, trivial⟩⟩, trivial⟩)⟩
   ·replace h1 := if_f c82 h1
    refine awp_exit ?_
    (repeat (first | refine uw ?_ | refine uo rfl ?_))
    have e1 := oi h1
    exact ⟨_, e1.symm, ghost_le (le_mk trivial trivial)⟩
 ·skip
  refine awp_loopG (fun q134 => ⟨[(1, .p (eI depth_1)), (2, .ptr 2 0), (5, .p (eI q134))], [(2, [.p (eL eTAttribute b_0.fAttrs), .p (eL eTBlock b_0.fBlocks)])]⟩) (fun m (q134 : Int) => ref15_check_l3 n b_0 m q134) (fun _ => rfl) 0 h1 (ghost_le (le_mk ⟨er rfl, er rfl, er rfl, trivial⟩ ⟨⟨_, rfl, ⟨sr, sr, trivial⟩⟩, trivial⟩)) ?_
  rintro m i22 h1
  replace h1 : ref15_check_l3 n b_0 (m + 1) i22 = some o124 := h1
  rw [ref15_check_l3] at h1
  refine awp_seq (awp_seq (awp_reg ?_))
  refine ro rfl (ok_move rfl rfl rfl rfl ?_)
  refine ro rfl (ok_fieldAddrP rfl rfl rfl rfl rfl rfl rfl rfl rfl ?_)
  refine ro rfl (ok_loadP1 rfl rfl rfl rfl rfl rfl rfl rfl ?_)
  refine ro rfl (op_lenL (f := eTAttribute) (l := b_0.fAttrs) rfl rfl rfl rfl rfl rfl rfl ?_)
  refine ro rfl (ok_cmp rfl rfl rfl rfl rfl rfl ?_)
  refine rn ?_
  refine wp_ifD rfl (fun c23 => ?_) (fun c23 => ?_)
  ·replace h1 := if_t c23 h1
   refine awp_skip (awp_seq (awp_block (awp_seq (awp_reg ?_))))
   refine ro rfl (ok_fieldAddrP rfl rfl rfl rfl rfl rfl rfl rfl rfl ?_)
   refine ro rfl (ok_loadP1 rfl rfl rfl rfl rfl rfl rfl rfl ?_)
   refine ro rfl (ok_move rfl rfl rfl rfl ?_)
   obtain ⟨h24, h1⟩ := ck_cut h1
   refine ro rfl (op_at (f := eTAttribute) (l := b_0.fAttrs) TAttribute.cs rfl rfl rfl rfl rfl rfl rfl rfl rfl h24 TAttribute.cells_eq (fun _ => rfl) ?_)
   refine ro rfl (ok_loadRA rfl rfl rfl rfl rfl rfl rfl ?_)
   refine ro rfl (ok_alloc rfl rfl rfl rfl rfl ?_)
   refine ro rfl (ok_store rfl rfl rfl rfl rfl rfl rfl rfl (Nat.le_of_ble_eq_true rfl) ?_)
   refine rn ?_
   refine awp_seq (awp_seq (awp_reg ?_))
   refine ro rfl (ok_fieldAddrP rfl rfl rfl rfl rfl rfl rfl rfl rfl ?_)
   refine ro rfl (ok_loadP1 rfl rfl rfl rfl rfl rfl rfl rfl ?_)
   obtain ⟨r25, e26, h1⟩ := bd_cut h1
   refine ro rfl (ok_callP (ref06_Identifier_ok _ ((lat b_0.fAttrs i22).fName) _ e26) rfl rfl rfl rfl ⟨sr, trivial⟩ Try.call59 rfl ?_)
   refine ro rfl (ok_not rfl rfl rfl rfl ?_)
   refine rn ?_
   refine wp_if rfl (fun c27 => ?_) (fun c27 => ?_)
   ·replace h1 := if_t c27 h1
    refine awp_seq (awp_reg ?_)
    refine ro rfl (ok_assign rfl rfl rfl rfl ?_)
    refine rn ?_
    refine awp_ret ?_
    (repeat (first | refine uw ?_ | refine uo rfl ?_))
    have e1 := oi h1
    have e0 := hR0 _ e1.symm
    subst e0
    refine reta_mk rfl ?_
    exact sr
   ·replace h1 := if_bf c27 h1
    refine awp_skip (awp_seq (awp_seq (awp_reg ?_)))
    refine ro rfl (ok_assign rfl rfl rfl rfl ?_)
    refine rn ?_
    refine awp_block ?_
    obtain ⟨o135, h2, hL1, hR1⟩ := jn_cut h1
    refine awp_joinEx 2 (fun v136 : Unit => o135 = .inl v136) (fun v136 => ⟨[(1, .p (eI depth_1)), (2, .ptr 2 0), (5, .p (eI i22)), (6, .ptr 6 0)], [(2, [.p (eL eTAttribute b_0.fAttrs), .p (eL eTBlock b_0.fBlocks)]), (6, [.p (eS ((lat b_0.fAttrs i22).fName)), .p (eI (((lat b_0.fAttrs i22).fExpr).fKind)), .p (eI (((lat b_0.fAttrs i22).fExpr).fOp)), .p (eS (((lat b_0.fAttrs i22).fExpr).fName)), .p (eS (((lat b_0.fAttrs i22).fExpr).fKey)), .p (eI ((((lat b_0.fAttrs i22).fExpr).fValue).fKind)), .p (eI ((((lat b_0.fAttrs i22).fExpr).fValue).fNum)), .p (eS ((((lat b_0.fAttrs i22).fExpr).fValue).fStr)), .p (eL eTValue ((((lat b_0.fAttrs i22).fExpr).fValue).fItems)), .p (eL eS ((((lat b_0.fAttrs i22).fExpr).fValue).fKeys)), .p (eL eTExpr (((lat b_0.fAttrs i22).fExpr).fKids)), .p (eI (((lat b_0.fAttrs i22).fExpr).fAt)), .p (eI ((lat b_0.fAttrs i22).fAt))])]⟩) ?_ ?_
    ·rintro s' ⟨v136, hv, hle⟩
     have h1 := hL1 _ hv
     (repeat (first | refine uw ?_ | refine uo rfl ?_))
     refine awp_ghost hle ?_
     (repeat (first | refine uw ?_ | refine uo rfl ?_))
     refine awp_seq (awp_reg ?_)
     refine ro rfl (ok_fieldAddrP rfl rfl rfl rfl rfl rfl rfl rfl rfl ?_)
     refine ro rfl (ok_loadPA rfl rfl rfl rfl rfl rfl rfl rfl rfl ?_)
     obtain ⟨r39, e40, h1⟩ := bd_cut h1
     refine ro rfl (ok_callP (ref14_Check_ok _ ((lat b_0.fAttrs i22).fExpr) _ e40) rfl rfl rfl rfl ⟨sr, trivial⟩ Try.call24 rfl ?_)
     refine ro rfl (ok_assign rfl rfl rfl rfl ?_)
     refine rn ?_
     refine awp_seq (awp_reg ?_)
     refine ro rfl (ok_move rfl rfl rfl rfl ?_)
     refine ro rfl (ok_cmp rfl rfl rfl rfl rfl rfl ?_)
     refine rn ?_
     refine wp_ifN rfl (fun c41 => ?_) (fun c41 => ?_)
     ·replace h1 := if_f c41 h1
      refine awp_seq (awp_reg ?_)
      refine ro rfl (ok_move rfl rfl rfl rfl ?_)
      refine ro rfl (ok_assign rfl rfl rfl rfl ?_)
      refine rn ?_
      refine awp_ret ?_
      (repeat (first | refine uw ?_ | refine uo rfl ?_))
      have e1 := oi h1
      have e0 := hR0 _ e1.symm
      subst e0
      refine reta_mk rfl ?_
      exact sr
     ·replace h1 := if_t c41 h1
      refine awp_skip ?_
      (repeat (first | refine uw ?_ | refine uo rfl ?_))
      refine awp_reg ?_
      refine ro rfl (ok_move rfl rfl rfl rfl ?_)
      obtain ⟨h42, h1⟩ := ck_cut h1
      refine ro rfl (ok_ar rfl rfl rfl rfl rfl rfl h42 ?_)
      refine ro rfl (ok_assign rfl rfl rfl rfl ?_)
      refine rn ?_
      (repeat (first | refine uw ?_ | refine uo rfl ?_))
      exact ⟨(i22 + 1), h1, ghost_le (le_mk ⟨er rfl, er rfl, er rfl, trivial⟩ ⟨⟨_, rfl, ⟨sr, sr, trivial⟩⟩, trivial⟩)⟩
    ·skip
     refine awp_loopG (fun q137 => ⟨[(1, .p (eI depth_1)), (2, .ptr 2 0), (5, .p (eI i22)), (6, .ptr 6 0), (7, .p (eI q137))], [(2, [.p (eL eTAttribute b_0.fAttrs), .p (eL eTBlock b_0.fBlocks)]), (6, [.p (eS ((lat b_0.fAttrs i22).fName)), .p (eI (((lat b_0.fAttrs i22).fExpr).fKind)), .p (eI (((lat b_0.fAttrs i22).fExpr).fOp)), .p (eS (((lat b_0.fAttrs i22).fExpr).fName)), .p (eS (((lat b_0.fAttrs i22).fExpr).fKey)), .p (eI ((((lat b_0.fAttrs i22).fExpr).fValue).fKind)), .p (eI ((((lat b_0.fAttrs i22).fExpr).fValue).fNum)), .p (eS ((((lat b_0.fAttrs i22).fExpr).fValue).fStr)), .p (eL eTValue ((((lat b_0.fAttrs i22).fExpr).fValue).fItems)), .p (eL eS ((((lat b_0.fAttrs i22).fExpr).fValue).fKeys)), .p (eL eTExpr (((lat b_0.fAttrs i22).fExpr).fKids)), .p (eI (((lat b_0.fAttrs i22).fExpr).fAt)), .p (eI ((lat b_0.fAttrs i22).fAt))])]⟩) (fun m (q137 : Int) => ref15_check_l2 b_0 i22 m q137) (fun _ => rfl) 0 h2 (ghost_le (le_mk ⟨er rfl, er rfl, er rfl, er rfl, er rfl, trivial⟩ ⟨⟨_, rfl, ⟨sr, sr, trivial⟩⟩, ⟨_, rfl, ⟨sr, sr, sr, sr, sr, sr, sr, sr, sr, sr, sr, sr, sr, trivial⟩⟩, trivial⟩)) ?_
     rintro m k33 h2
     replace h2 : ref15_check_l2 b_0 i22 (m + 1) k33 = some o135 := h2
     rw [ref15_check_l2] at h2
     refine awp_seq (awp_seq (awp_reg ?_))
     refine ro rfl (ok_move rfl rfl rfl rfl ?_)
     refine ro rfl (ok_move rfl rfl rfl rfl ?_)
     refine ro rfl (ok_cmp rfl rfl rfl rfl rfl rfl ?_)
     refine rn ?_
     refine wp_ifD rfl (fun c34 => ?_) (fun c34 => ?_)
     ·replace h2 := if_t c34 h2
      refine awp_skip (awp_seq (awp_block (awp_seq ?_)))
      obtain ⟨h35, h2⟩ := ck_cut h2
      refine awp_drawQ [(1, .p (eI depth_1)), (2, .ptr 2 0), (5, .p (eI i22)), (6, .ptr 6 0), (7, .p (eI k33))] rfl ⟨rfl, rfl, rfl, rfl, rfl, trivial⟩ rfl ?_
      refine dq_cons (.ptr 2 0) [(2, _)] ⟨.inl rfl, trivial⟩ (fun sl hsl K hK => one_op rfl (ok_fieldAddrP rfl rfl rfl rfl rfl rfl rfl rfl (hsl _ _ rfl) hK)) rfl rfl rfl ?_
      refine dq_cons (.p (eL eTAttribute b_0.fAttrs)) [(34, _)] ⟨.inr ⟨0, rfl, rfl⟩, trivial⟩ (fun sl hsl K hK => one_op rfl (ok_loadP1 rfl rfl rfl rfl rfl (hsl _ _ rfl) rfl rfl hK)) rfl rfl rfl ?_
      refine dq_cons (.p (eI k33)) [(7, _)] ⟨.inl rfl, trivial⟩ (fun sl hsl K hK => one_op rfl (ok_move rfl rfl rfl (hsl _ _ rfl) hK)) rfl rfl rfl ?_
      refine dq_cons (.rptr (TAttribute.cs (lat b_0.fAttrs k33))) [(35, _), (36, _)] ⟨.inr ⟨1, rfl, rfl⟩, .inr ⟨2, rfl, rfl⟩, trivial⟩ (fun sl hsl K hK => one_op rfl (op_at (f := eTAttribute) (l := b_0.fAttrs) TAttribute.cs rfl rfl rfl rfl rfl rfl (hsl _ _ rfl) rfl (hsl _ _ rfl) h35 TAttribute.cells_eq (fun _ => rfl) hK)) rfl rfl rfl ?_
      refine dq_cons (.rptr (List.drop 0 (TAttribute.cs (lat b_0.fAttrs k33)))) [(37, _)] ⟨.inr ⟨3, rfl, rfl⟩, trivial⟩ (fun sl hsl K hK => one_op rfl (ok_fieldAddrR rfl rfl rfl rfl rfl rfl rfl rfl (hsl _ _ rfl) hK)) rfl rfl rfl ?_
      refine dq_cons (.p (eS ((lat b_0.fAttrs k33).fName))) [(38, _)] ⟨.inr ⟨4, rfl, rfl⟩, trivial⟩ (fun sl hsl K hK => one_op rfl (ok_loadR1 rfl rfl rfl rfl rfl (hsl _ _ rfl) rfl hK)) rfl rfl rfl ?_
      refine dq_cons (.ptr 6 0) [(6, _)] ⟨.inl rfl, trivial⟩ (fun sl hsl K hK => one_op rfl (ok_fieldAddrP rfl rfl rfl rfl rfl rfl rfl rfl (hsl _ _ rfl) hK)) rfl rfl rfl ?_
      refine dq_cons (.p (eS ((lat b_0.fAttrs i22).fName))) [(40, _)] ⟨.inr ⟨6, rfl, rfl⟩, trivial⟩ (fun sl hsl K hK => one_op rfl (ok_loadP1 rfl rfl rfl rfl rfl (hsl _ _ rfl) rfl rfl hK)) rfl rfl rfl ?_
      refine dq_cons (.p (eB (decide ((lat b_0.fAttrs k33).fName = (lat b_0.fAttrs i22).fName)))) [(39, _), (41, _)] ⟨.inr ⟨5, rfl, rfl⟩, .inr ⟨7, rfl, rfl⟩, trivial⟩ (fun sl hsl K hK => one_op rfl (ok_cmpS rfl rfl rfl (hsl _ _ rfl) (hsl _ _ rfl) rfl hK)) rfl rfl rfl ?_
      refine dq_nil ?_
      refine wp_ifD rfl (fun c36 => ?_) (fun c36 => ?_)
      ·replace h2 := if_t c36 h2
       refine awp_seq (awp_reg ?_)
       refine ro rfl (ok_assign rfl rfl rfl rfl ?_)
       refine rn ?_
       refine awp_ret ?_
       (repeat (first | refine uw ?_ | refine uo rfl ?_))
       have e2 := oi h2
       have e1 := hR1 _ e2.symm
       have e0 := hR0 _ e1.symm
       subst e0
       refine reta_mk rfl ?_
       exact sr
      ·replace h2 := if_f c36 h2
       refine awp_skip ?_
       (repeat (first | refine uw ?_ | refine uo rfl ?_))
       refine awp_reg ?_
       refine ro rfl (ok_move rfl rfl rfl rfl ?_)
       obtain ⟨h37, h2⟩ := ck_cut h2
       refine ro rfl (ok_ar rfl rfl rfl rfl rfl rfl h37 ?_)
       refine ro rfl (ok_assign rfl rfl rfl rfl ?_)
       refine rn ?_
       (repeat (first | refine uw ?_ | refine uo rfl ?_))
       exact ⟨(k33 + 1), h2, ghost_le (le_mk ⟨er rfl, er rfl, er rfl, er rfl, er rfl, trivial⟩ ⟨⟨_, rfl, ⟨sr, sr, trivial⟩⟩, ⟨_, rfl, ⟨sr, sr, sr, sr, sr, sr, sr, sr, sr, sr, sr, sr, sr, trivial⟩⟩, trivial⟩)⟩
     ·replace h2 := if_f c34 h2
      refine awp_exit ?_
      (repeat (first | refine uw ?_ | refine uo rfl ?_))
      have e2 := oi h2
      exact ⟨_, e2.symm, ghost_le (le_mk ⟨er rfl, er rfl, er rfl, er rfl, trivial⟩ ⟨⟨_, rfl, ⟨sr, sr, trivial⟩⟩, ⟨_, rfl, ⟨sr, sr, sr, sr, sr, sr, sr, sr, sr, sr, sr, sr, sr, trivial⟩⟩, trivial⟩)⟩
  ·replace h1 := if_f c23 h1
   refine awp_exit ?_
   (repeat (first | refine uw ?_ | refine uo rfl ?_))
   have e1 := oi h1
   exact ⟨_, e1.symm, ghost_le (le_mk ⟨er rfl, er rfl, trivial⟩ ⟨⟨_, rfl, ⟨sr, sr, trivial⟩⟩, trivial⟩)⟩

def ref15_Check (n : Nat) (b_0 : TBody) : Option Int :=
 (ref15_check n b_0 0).bind fun r1 =>
 some r1

set_option maxHeartbeats 4000000 in
theorem ref15_Check_ok (n : Nat) (b_0 : TBody) (r : Int) (h0 : ref15_Check n b_0 = some r) : PCalls Try.prog 26 [.agg (TBody.cs b_0)] (· = .p (eI r)) := by
 unfold ref15_Check at h0
 refine pbodyA good Try.func26 rfl rfl rfl fun w0 => ?_
 refine awp_seq (awp_reg ?_)
 refine ro rfl (ok_box rfl rfl rfl rfl rfl ?_)
 refine ro rfl (ok_assign rfl rfl rfl rfl ?_)
 refine rn ?_
 refine awp_seq (awp_reg ?_)
 refine ro rfl (ok_loadPA rfl rfl rfl rfl rfl rfl rfl rfl rfl ?_)
 obtain ⟨r1, e2, h0⟩ := bd_cut h0
 refine ro rfl (ok_callP (ref15_check_ok _ b_0 0 _ e2) rfl rfl rfl rfl ⟨sr, sr, trivial⟩ Try.call42 rfl ?_)
 refine ro rfl (ok_assign rfl rfl rfl rfl ?_)
 refine rn ?_
 refine awp_ret ?_
 (repeat (first | refine uw ?_ | refine uo rfl ?_))
 have e0 := oi h0
 subst e0
 refine reta_mk rfl ?_
 exact sr

def reference_iterator_l1 (b_0 : TBlock) : Nat → Int → Option (Unit ⊕ Bytes)
 | 0, _ => none
 | m + 1, t9 =>
 if t9 < (b_0.fBody.fAttrs.length : Int) then
  ck ((0 : Int) ≤ t9 ∧ t9 < (b_0.fBody.fAttrs.length : Int)) <|
  (
    if (lat b_0.fBody.fAttrs t9).fName = ([105, 116, 101, 114, 97, 116, 111, 114] : Bytes) then
     if ((lat b_0.fBody.fAttrs t9).fExpr).fKind = 1 then
      some (decide ((((lat b_0.fBody.fAttrs t9).fExpr).fValue).fKind = 3))
     else
      some false
    else
     some false
   : Option Bool).bind fun t14 =>
  if t14 = true then
   some (.inr ((((lat b_0.fBody.fAttrs t9).fExpr).fValue).fStr))
  else
   ck (inR (t9 + 1)) <|
   reference_iterator_l1 b_0 m (t9 + 1)
 else
  some (.inl ())

def reference_iterator (n : Nat) (b_0 : TBlock) : Option Bytes :=
 jn (reference_iterator_l1 b_0 n 0) fun q19 =>
 ck ((0 : Int) ≤ 0 ∧ 0 < (b_0.fLabels.length : Int)) <|
 some (lat b_0.fLabels 0)

set_option maxHeartbeats 4000000 in
theorem reference_iterator_ok (n : Nat) (b_0 : TBlock) (r : Bytes) (h0 : reference_iterator n b_0 = some r) : PCalls Try.prog 62 [.agg (TBlock.cs b_0)] (· = .p (eS r)) := by
 unfold reference_iterator at h0
 refine pbodyA good Try.func62 rfl rfl rfl fun w0 => ?_
 refine awp_seq (awp_reg ?_)
 refine ro rfl (ok_box rfl rfl rfl rfl rfl ?_)
 refine ro rfl (ok_assign rfl rfl rfl rfl ?_)
 refine rn ?_
 refine awp_seq (awp_seq (awp_reg ?_))
 refine ro rfl (ok_fieldAddrP rfl rfl rfl rfl rfl rfl rfl rfl rfl ?_)
 refine ro rfl (ok_fieldAddrP rfl rfl rfl rfl rfl rfl rfl rfl rfl ?_)
 refine ro rfl (ok_loadP1 rfl rfl rfl rfl rfl rfl rfl rfl ?_)
 refine ro rfl (op_lenL (f := eTAttribute) (l := b_0.fBody.fAttrs) rfl rfl rfl rfl rfl rfl rfl ?_)
 refine ro rfl (ok_move rfl rfl rfl rfl ?_)
 refine rn ?_
 refine awp_block ?_
 obtain ⟨o21, h1, hL0, hR0⟩ := jn_cut h0
 refine awp_joinEx 0 (fun v22 : Unit => o21 = .inl v22) (fun v22 => ⟨[(1, .ptr 1 0)], [(1, [.p (eS b_0.fType), .p (eL eS b_0.fLabels), .p (eL eTAttribute b_0.fBody.fAttrs), .p (eL eTBlock b_0.fBody.fBlocks), .p (eI b_0.fAt)])]⟩) ?_ ?_
 ·rintro s' ⟨v22, hv, hle⟩
  have h0 := hL0 _ hv
  (repeat (first | refine uw ?_ | refine uo rfl ?_))
  refine awp_ghost hle ?_
  (repeat (first | refine uw ?_ | refine uo rfl ?_))
  refine awp_seq (awp_reg ?_)
  refine ro rfl (ok_fieldAddrP rfl rfl rfl rfl rfl rfl rfl rfl rfl ?_)
  refine ro rfl (ok_loadP1 rfl rfl rfl rfl rfl rfl rfl rfl ?_)
  obtain ⟨h18, h0⟩ := ck_cut h0
  refine ro rfl (op_at (f := eS) (l := b_0.fLabels) (fun x => [eS x]) rfl rfl rfl rfl rfl rfl rfl rfl rfl h18 (fun _ => rfl) (fun _ => rfl) ?_)
  refine ro rfl (ok_loadR1 rfl rfl rfl rfl rfl rfl rfl ?_)
  refine ro rfl (ok_assign rfl rfl rfl rfl ?_)
  refine rn ?_
  refine awp_ret ?_
  (repeat (first | refine uw ?_ | refine uo rfl ?_))
  have e0 := oi h0
  subst e0
  refine reta_mk rfl ?_
  exact sr
 ·skip
  refine awp_loopG (fun q23 => ⟨[(1, .ptr 1 0), (7, .p (eL eTAttribute b_0.fBody.fAttrs)), (8, .p (eI (b_0.fBody.fAttrs.length : Int))), (9, .p (eI q23))], [(1, [.p (eS b_0.fType), .p (eL eS b_0.fLabels), .p (eL eTAttribute b_0.fBody.fAttrs), .p (eL eTBlock b_0.fBody.fBlocks), .p (eI b_0.fAt)])]⟩) (fun m (q23 : Int) => reference_iterator_l1 b_0 m q23) (fun _ => rfl) 0 h1 (ghost_le (le_mk ⟨er rfl, er rfl, er rfl, er rfl, trivial⟩ ⟨⟨_, rfl, ⟨sr, sr, sr, sr, sr, trivial⟩⟩, trivial⟩)) ?_
  rintro m t9 h1
  replace h1 : reference_iterator_l1 b_0 (m + 1) t9 = some o21 := h1
  rw [reference_iterator_l1] at h1
  refine awp_seq (awp_reg ?_)
  refine ro rfl (ok_cmp rfl rfl rfl rfl rfl rfl ?_)
  refine rn ?_
  refine awp_seq ?_
  refine wp_ifD rfl (fun c10 => ?_) (fun c10 => ?_)
  ·replace h1 := if_t c10 h1
   refine awp_skip (awp_seq (awp_block (awp_seq (awp_reg ?_))))
   obtain ⟨h11, h1⟩ := ck_cut h1
   refine ro rfl (op_at (f := eTAttribute) (l := b_0.fBody.fAttrs) TAttribute.cs rfl rfl rfl rfl rfl rfl rfl rfl rfl h11 TAttribute.cells_eq (fun _ => rfl) ?_)
   refine ro rfl (ok_loadRA rfl rfl rfl rfl rfl rfl rfl ?_)
   refine ro rfl (ok_alloc rfl rfl rfl rfl rfl ?_)
   refine ro rfl (ok_store rfl rfl rfl rfl rfl rfl rfl rfl (Nat.le_of_ble_eq_true rfl) ?_)
   refine rn ?_
   refine awp_seq ?_
   obtain ⟨o24, h2, h1⟩ := bd_cut h1
   refine awp_joinN ⟨[(1, .ptr 1 0), (4, .ptr 4 0), (7, .p (eL eTAttribute b_0.fBody.fAttrs)), (8, .p (eI (b_0.fBody.fAttrs.length : Int))), (9, .p (eI t9)), (28, .p (eB o24))], [(1, [.p (eS b_0.fType), .p (eL eS b_0.fLabels), .p (eL eTAttribute b_0.fBody.fAttrs), .p (eL eTBlock b_0.fBody.fBlocks), .p (eI b_0.fAt)]), (4, [.p (eS ((lat b_0.fBody.fAttrs t9).fName)), .p (eI (((lat b_0.fBody.fAttrs t9).fExpr).fKind)), .p (eI (((lat b_0.fBody.fAttrs t9).fExpr).fOp)), .p (eS (((lat b_0.fBody.fAttrs t9).fExpr).fName)), .p (eS (((lat b_0.fBody.fAttrs t9).fExpr).fKey)), .p (eI ((((lat b_0.fBody.fAttrs t9).fExpr).fValue).fKind)), .p (eI ((((lat b_0.fBody.fAttrs t9).fExpr).fValue).fNum)), .p (eS ((((lat b_0.fBody.fAttrs t9).fExpr).fValue).fStr)), .p (eL eTValue ((((lat b_0.fBody.fAttrs t9).fExpr).fValue).fItems)), .p (eL eS ((((lat b_0.fBody.fAttrs t9).fExpr).fValue).fKeys)), .p (eL eTExpr (((lat b_0.fBody.fAttrs t9).fExpr).fKids)), .p (eI (((lat b_0.fBody.fAttrs t9).fExpr).fAt)), .p (eI ((lat b_0.fBody.fAttrs t9).fAt))])]⟩ ?_ ?_
   ·intro s' hle
    (repeat (first | refine uw ?_ | refine uo rfl ?_))
    refine awp_ghost hle ?_
    refine wp_if rfl (fun c15 => ?_) (fun c15 => ?_)
    ·replace h1 := if_t c15 h1
     refine awp_seq (awp_reg ?_)
     refine ro rfl (ok_fieldAddrP rfl rfl rfl rfl rfl rfl rfl rfl rfl ?_)
     refine ro rfl (ok_fieldAddrP rfl rfl rfl rfl rfl rfl rfl rfl rfl ?_)
     refine ro rfl (ok_fieldAddrP rfl rfl rfl rfl rfl rfl rfl rfl rfl ?_)
     refine ro rfl (ok_loadP1 rfl rfl rfl rfl rfl rfl rfl rfl ?_)
     refine ro rfl (ok_assign rfl rfl rfl rfl ?_)
     refine rn ?_
     refine awp_ret ?_
     (repeat (first | refine uw ?_ | refine uo rfl ?_))
     have e1 := oi h1
     have e0 := hR0 _ e1.symm
     subst e0
     refine reta_mk rfl ?_
     exact sr
    ·replace h1 := if_bf c15 h1
     refine awp_skip ?_
     (repeat (first | refine uw ?_ | refine uo rfl ?_))
     refine awp_reg ?_
     obtain ⟨h16, h1⟩ := ck_cut h1
     refine ro rfl (ok_ar rfl rfl rfl rfl rfl rfl h16 ?_)
     refine ro rfl (ok_move rfl rfl rfl rfl ?_)
     refine rn ?_
     (repeat (first | refine uw ?_ | refine uo rfl ?_))
     exact ⟨(t9 + 1), h1, ghost_le (le_mk ⟨er rfl, er rfl, er rfl, er rfl, trivial⟩ ⟨⟨_, rfl, ⟨sr, sr, sr, sr, sr, trivial⟩⟩, trivial⟩)⟩
   ·skip
    refine awp_reg ?_
    refine ro rfl (ok_fieldAddrP rfl rfl rfl rfl rfl rfl rfl rfl rfl ?_)
    refine ro rfl (ok_loadP1 rfl rfl rfl rfl rfl rfl rfl rfl ?_)
    refine ro rfl (ok_cmpS rfl rfl rfl rfl rfl rfl ?_)
    refine ro rfl (ok_move rfl rfl rfl rfl ?_)
    refine gd_D rfl rfl rfl (fun c12 => ?_) (fun c12 => ?_)
    ·replace h2 := if_t c12 h2
     refine gd_tt rfl rfl rfl (dt c12) (ok_fieldAddrP rfl rfl rfl rfl rfl rfl rfl rfl rfl ?_)
     refine gd_tt rfl rfl rfl (dt c12) (ok_fieldAddrP rfl rfl rfl rfl rfl rfl rfl rfl rfl ?_)
     refine gd_tt rfl rfl rfl (dt c12) (ok_loadP1 rfl rfl rfl rfl rfl rfl rfl rfl ?_)
     refine gd_tt rfl rfl rfl (dt c12) (ok_cmp rfl rfl rfl rfl rfl rfl ?_)
     refine ro rfl (ok_pick_true rfl rfl rfl rfl (dt c12) rfl ?_)
     refine ro rfl (ok_move rfl rfl rfl rfl ?_)
     refine gd_D rfl rfl rfl (fun c13 => ?_) (fun c13 => ?_)
     ·replace h2 := if_t c13 h2
      refine gd_tt rfl rfl rfl (dt c13) (ok_fieldAddrP rfl rfl rfl rfl rfl rfl rfl rfl rfl ?_)
      refine gd_tt rfl rfl rfl (dt c13) (ok_fieldAddrP rfl rfl rfl rfl rfl rfl rfl rfl rfl ?_)
      refine gd_tt rfl rfl rfl (dt c13) (ok_fieldAddrP rfl rfl rfl rfl rfl rfl rfl rfl rfl ?_)
      refine gd_tt rfl rfl rfl (dt c13) (ok_loadP1 rfl rfl rfl rfl rfl rfl rfl rfl ?_)
      refine gd_tt rfl rfl rfl (dt c13) (ok_cmp rfl rfl rfl rfl rfl rfl ?_)
      refine ro rfl (ok_pick_true rfl rfl rfl rfl (dt c13) rfl ?_)
      refine rn ?_
      (repeat (first | refine uw ?_ | refine uo rfl ?_))
      have e2 := oi h2
      subst e2
      exact ghost_le (le_mk ⟨er rfl, er rfl, er rfl, er rfl, er rfl, er rfl, trivial⟩ ⟨⟨_, rfl, ⟨sr, sr, sr, sr, sr, trivial⟩⟩, ⟨_, rfl, ⟨sr, sr, sr, sr, sr, sr, sr, sr, sr, sr, sr, sr, sr, trivial⟩⟩, trivial⟩)
     ·replace h2 := if_f c13 h2
      refine gd_tf rfl rfl rfl (df c13) rfl rfl ?_
      refine gd_tf rfl rfl rfl (df c13) rfl rfl ?_
      refine gd_tf rfl rfl rfl (df c13) rfl rfl ?_
      refine gd_tf rfl rfl rfl (df c13) rfl rfl ?_
      refine gd_tf rfl rfl rfl (df c13) rfl rfl ?_
      refine ro rfl (ok_pick_false rfl rfl rfl rfl (df c13) rfl ?_)
      refine rn ?_
      (repeat (first | refine uw ?_ | refine uo rfl ?_))
      have e2 := oi h2
      subst e2
      exact ghost_le (le_mk ⟨er rfl, er rfl, er rfl, er rfl, er rfl, er rfl, trivial⟩ ⟨⟨_, rfl, ⟨sr, sr, sr, sr, sr, trivial⟩⟩, ⟨_, rfl, ⟨sr, sr, sr, sr, sr, sr, sr, sr, sr, sr, sr, sr, sr, trivial⟩⟩, trivial⟩)
    ·replace h2 := if_f c12 h2
     refine gd_tf rfl rfl rfl (df c12) rfl rfl ?_
     refine gd_tf rfl rfl rfl (df c12) rfl rfl ?_
     refine gd_tf rfl rfl rfl (df c12) rfl rfl ?_
     refine gd_tf rfl rfl rfl (df c12) rfl rfl ?_
     refine ro rfl (ok_pick_false rfl rfl rfl rfl (df c12) rfl ?_)
     refine ro rfl (ok_move rfl rfl rfl rfl ?_)
     refine gd_tf rfl rfl rfl (rfl) rfl rfl ?_
     refine gd_tf rfl rfl rfl (rfl) rfl rfl ?_
     refine gd_tf rfl rfl rfl (rfl) rfl rfl ?_
     refine gd_tf rfl rfl rfl (rfl) rfl rfl ?_
     refine gd_tf rfl rfl rfl (rfl) rfl rfl ?_
     refine ro rfl (ok_pick_false rfl rfl rfl rfl (rfl) rfl ?_)
     refine rn ?_
     (repeat (first | refine uw ?_ | refine uo rfl ?_))
     have e2 := oi h2
     subst e2
     exact ghost_le (le_mk ⟨er rfl, er rfl, er rfl, er rfl, er rfl, er rfl, trivial⟩ ⟨⟨_, rfl, ⟨sr, sr, sr, sr, sr, trivial⟩⟩, ⟨_, rfl, ⟨sr, sr, sr, sr, sr, sr, sr, sr, sr, sr, sr, sr, sr, trivial⟩⟩, trivial⟩)
  ·replace h1 := if_f c10 h1
   refine awp_exit ?_
   (repeat (first | refine uw ?_ | refine uo rfl ?_))
   have e1 := oi h1
   exact ⟨_, e1.symm, ghost_le (le_mk ⟨er rfl, trivial⟩ ⟨⟨_, rfl, ⟨sr, sr, sr, sr, sr, trivial⟩⟩, trivial⟩)⟩

def reference_finder_body_l1 (n : Nat) (b_1 : TBody) (bound_2 : List Bytes) : Nat → Int → (List TRef) → Option (List TRef)
 | 0, _, _ => none
 | m + 1, t8, f9 =>
 if t8 < (b_1.fAttrs.length : Int) then
  ck ((0 : Int) ≤ t8 ∧ t8 < (b_1.fAttrs.length : Int)) <|
  (reference_finder_expr n (Tfinder.mk f9) ((lat b_1.fAttrs t8).fExpr) bound_2).bind fun r12 =>
  ck (inR (t8 + 1)) <|
  reference_finder_body_l1 n b_1 bound_2 m (t8 + 1) r12.fout
 else
  some f9

def reference_finder_body_l4 (n : Nat) (b_1 : TBody) (bound_2 : List Bytes) (t76 : Int) : Nat → Int → (List TRef) → Option (List TRef)
 | 0, _, _ => none
 | m + 1, t92, f93 =>
 if t92 < ((((lat b_1.fBlocks t76).fBody).fAttrs).length : Int) then
  ck ((0 : Int) ≤ t92 ∧ t92 < ((((lat b_1.fBlocks t76).fBody).fAttrs).length : Int)) <|
  (reference_finder_expr n (Tfinder.mk f93) ((lat (((lat b_1.fBlocks t76).fBody).fAttrs) t92).fExpr) bound_2).bind fun r96 =>
  ck (inR (t92 + 1)) <|
  reference_finder_body_l4 n b_1 bound_2 t76 m (t92 + 1) r96.fout
 else
  some f93

def reference_finder_body_l5 (r_reference_finder_body : Tfinder → TBody → (List Bytes) → Option Tfinder) (b_1 : TBody) (bound_2 : List Bytes) (t76 : Int) (r102 : (List Bytes)) (r104 : Bytes) : Nat → Int → (List TRef) → Option (List TRef)
 | 0, _, _ => none
 | m + 1, t118, f119 =>
 if t118 < ((((lat b_1.fBlocks t76).fBody).fBlocks).length : Int) then
  (
    ck ((0 : Int) ≤ t118 ∧ t118 < ((((lat b_1.fBlocks t76).fBody).fBlocks).length : Int)) <|
    if (lat (((lat b_1.fBlocks t76).fBody).fBlocks) t118).fType = ([99, 111, 110, 116, 101, 110, 116] : Bytes) then
     (r_reference_finder_body (Tfinder.mk f119) ((lat (((lat b_1.fBlocks t76).fBody).fBlocks) t118).fBody) (r102 ++ [r104])).bind fun r123 =>
     some r123.fout
    else
     (r_reference_finder_body (Tfinder.mk f119) (TBody.mk [] [(lat (((lat b_1.fBlocks t76).fBody).fBlocks) t118)]) bound_2).bind fun r125 =>
     some r125.fout
   : Option (List TRef)).bind fun f127 =>
  ck (inR (t118 + 1)) <|
  reference_finder_body_l5 r_reference_finder_body b_1 bound_2 t76 r102 r104 m (t118 + 1) f127
 else
  some f119

def reference_finder_body_l6 (n : Nat) (r_reference_finder_body : Tfinder → TBody → (List Bytes) → Option Tfinder) (b_1 : TBody) (bound_2 : List Bytes) : Nat → Int → (List TRef) → Option (List TRef)
 | 0, _, _ => none
 | m + 1, t76, f77 =>
 if t76 < (b_1.fBlocks.length : Int) then
  (
    ck ((0 : Int) ≤ t76 ∧ t76 < (b_1.fBlocks.length : Int)) <|
    (
      if (lat b_1.fBlocks t76).fType = ([100, 121, 110, 97, 109, 105, 99] : Bytes) then
       some (!decide ((((lat b_1.fBlocks t76).fLabels).length : Int) = 1))
      else
       some true
     : Option Bool).bind fun t81 =>
    if t81 = true then
     (r_reference_finder_body (Tfinder.mk f77) ((lat b_1.fBlocks t76).fBody) bound_2).bind fun r83 =>
     some r83.fout
    else
     (reference_finder_body_l4 n b_1 bound_2 t76 n 0 f77).bind fun f101 =>
     (slices_Clone_string_string bound_2).bind fun r102 =>
     (reference_iterator n (lat b_1.fBlocks t76)).bind fun r104 =>
     ck ((r102.length + [r104].length) * 16 ≤ 140737488355328) <|
     (reference_finder_body_l5 r_reference_finder_body b_1 bound_2 t76 r102 r104 n 0 f101).bind fun f131 =>
     some f131
   : Option (List TRef)).bind fun f132 =>
  ck (inR (t76 + 1)) <|
  reference_finder_body_l6 n r_reference_finder_body b_1 bound_2 m (t76 + 1) f132
 else
  some f77

def reference_finder_body : Nat → Tfinder → TBody → (List Bytes) → Option Tfinder
 | 0, _, _, _ => none
 | n + 1, f_0, b_1, bound_2 =>
 (reference_finder_body_l1 n b_1 bound_2 n 0 f_0.fout).bind fun f17 =>
 (reference_finder_body_l6 n (reference_finder_body n) b_1 bound_2 n 0 f17).bind fun f136 =>
 some (Tfinder.mk f136)

set_option maxHeartbeats 4000000 in
theorem reference_finder_body_ok (n : Nat) : ∀ (f_0 : Tfinder) (b_1 : TBody) (bound_2 : List Bytes) (r : Tfinder), reference_finder_body n f_0 b_1 bound_2 = some r → OCalls Try.prog 43 [.ptr 1000000 0, .p (.agg (TBody.cs b_1)), .p (eL eS bound_2)] [(1000000, [.vec 900000 4 (f_0.fout.map eTRef)])] (fun x y => x = .tuple [] ∧ y = [(1000000, [.vec 2000000 4 (r.fout.map eTRef)])]) := by
 induction n with
 | zero => intro f_0 b_1 bound_2 r h0; cases h0
 | succ n ih =>
 have ih_reference_finder_body_ok := ih
 intro f_0 b_1 bound_2 r h0
 rw [reference_finder_body] at h0
 refine obodyG good [800000] [1000000] Try.func43 rfl rfl rfl rfl rfl fun w0 F => ?_
 refine awp_seq (awp_reg ?_)
 refine ro rfl (ok_box rfl rfl rfl rfl rfl ?_)
 refine rn ?_
 refine awp_seq (awp_seq (awp_reg ?_))
 refine ro rfl (ok_fieldAddrP rfl rfl rfl rfl rfl rfl rfl rfl rfl ?_)
 refine ro rfl (ok_loadP1 rfl rfl rfl rfl rfl rfl rfl rfl ?_)
 refine ro rfl (op_lenL (f := eTAttribute) (l := b_1.fAttrs) rfl rfl rfl rfl rfl rfl rfl ?_)
 refine ro rfl (ok_move rfl rfl rfl rfl ?_)
 refine rn ?_
 refine awp_block ?_
 obtain ⟨o144, h1, h0⟩ := bd_cut h0
 refine awp_joinE 0 ⟨[(0, .ptr 1000000 0), (2, .p (eL eS bound_2)), (4, .ptr 4 0)], [(4, [.p (eL eTAttribute b_1.fAttrs), .p (eL eTBlock b_1.fBlocks)]), (1000000, [.vec 900000 4 (o144.map eTRef)])]⟩ ?_ ?_
 ·intro s' hle
  (repeat (first | refine uw ?_ | refine uo rfl ?_))
  refine awp_ghost hle ?_
  (repeat (first | refine uw ?_ | refine uo rfl ?_))
  refine awp_seq (awp_reg ?_)
  refine ro rfl (ok_fieldAddrP rfl rfl rfl rfl rfl rfl rfl rfl rfl ?_)
  refine ro rfl (ok_loadP1 rfl rfl rfl rfl rfl rfl rfl rfl ?_)
  refine ro rfl (op_lenL (f := eTBlock) (l := b_1.fBlocks) rfl rfl rfl rfl rfl rfl rfl ?_)
  refine ro rfl (ok_move rfl rfl rfl rfl ?_)
  refine rn ?_
  refine awp_block ?_
  obtain ⟨o146, h1, h0⟩ := bd_cut h0
  refine awp_joinE 2 ⟨[], [(1000000, [.vec 900000 4 (o146.map eTRef)])]⟩ ?_ ?_
  ·intro s' hle
   (repeat (first | refine uw ?_ | refine uo rfl ?_))
   (repeat (first | refine uw ?_ | refine uo rfl ?_))
   have e0 := oi h0
   subst e0
   exact endg_mk (ghost_trans hle (ghost_trans (ghost_ren 900000 800000 rfl rfl rfl rfl rfl) (ghost_refl _))) rfl rfl rfl rfl (sr) ⟨⟨_, rfl, ⟨sr, trivial⟩⟩, trivial⟩
  ·skip
   refine awp_loopG (fun q148 => ⟨[(0, .ptr 1000000 0), (2, .p (eL eS bound_2)), (29, .p (eL eTBlock b_1.fBlocks)), (30, .p (eI (b_1.fBlocks.length : Int))), (31, .p (eI q148.1))], [(1000000, [.vec 900000 4 (q148.2.map eTRef)])]⟩) (fun m (q148 : Int × (List TRef)) => reference_finder_body_l6 n (reference_finder_body n) b_1 bound_2 m q148.1 q148.2) (fun _ => rfl) (0, o144) h1 (ghost_le (le_mk ⟨er rfl, er rfl, er rfl, er rfl, er rfl, trivial⟩ ⟨⟨_, rfl, ⟨sr, trivial⟩⟩, trivial⟩)) ?_
   rintro m ⟨t76, f77⟩ h1
   replace h1 : reference_finder_body_l6 n (reference_finder_body n) b_1 bound_2 (m + 1) t76 f77 = some o146 := h1
   rw [reference_finder_body_l6] at h1
   refine awp_seq (awp_reg ?_)
   refine ro rfl (ok_cmp rfl rfl rfl rfl rfl rfl ?_)
   refine rn ?_
   refine awp_seq ?_
   refine wp_ifD rfl (fun c78 => ?_) (fun c78 => ?_)
   ·replace h1 := if_t c78 h1
    refine awp_skip (awp_seq ?_)
    obtain ⟨o149, h2, h1⟩ := bd_cut h1
    refine awp_joinN ⟨[(0, .ptr 1000000 0), (2, .p (eL eS bound_2)), (29, .p (eL eTBlock b_1.fBlocks)), (30, .p (eI (b_1.fBlocks.length : Int))), (31, .p (eI t76))], [(1000000, [.vec 900000 4 (o149.map eTRef)])]⟩ ?_ ?_
    ·intro s' hle
     (repeat (first | refine uw ?_ | refine uo rfl ?_))
     refine awp_ghost hle ?_
     refine awp_reg ?_
     obtain ⟨h133, h1⟩ := ck_cut h1
     refine ro rfl (ok_ar rfl rfl rfl rfl rfl rfl h133 ?_)
     refine ro rfl (ok_move rfl rfl rfl rfl ?_)
     refine rn ?_
     (repeat (first | refine uw ?_ | refine uo rfl ?_))
     exact ⟨(t76 + 1, o149), h1, ghost_le (le_mk ⟨er rfl, er rfl, er rfl, er rfl, er rfl, trivial⟩ ⟨⟨_, rfl, ⟨sr, trivial⟩⟩, trivial⟩)⟩
    ·refine awp_block ?_
     refine awp_seq (awp_reg ?_)
     obtain ⟨h79, h2⟩ := ck_cut h2
     refine ro rfl (op_at (f := eTBlock) (l := b_1.fBlocks) TBlock.cs rfl rfl rfl rfl rfl rfl rfl rfl rfl h79 TBlock.cells_eq (fun _ => rfl) ?_)
     refine ro rfl (ok_loadRA rfl rfl rfl rfl rfl rfl rfl ?_)
     refine ro rfl (ok_alloc rfl rfl rfl rfl rfl ?_)
     refine ro rfl (ok_store rfl rfl rfl rfl rfl rfl rfl rfl (Nat.le_of_ble_eq_true rfl) ?_)
     refine rn ?_
     refine awp_seq (awp_seq ?_)
     obtain ⟨o151, h3, h2⟩ := bd_cut h2
     refine awp_joinN ⟨[(0, .ptr 1000000 0), (2, .p (eL eS bound_2)), (9, .ptr 9 0), (29, .p (eL eTBlock b_1.fBlocks)), (30, .p (eI (b_1.fBlocks.length : Int))), (31, .p (eI t76)), (43, .p (eB o151))], [(9, [.p (eS ((lat b_1.fBlocks t76).fType)), .p (eL eS ((lat b_1.fBlocks t76).fLabels)), .p (eL eTAttribute (((lat b_1.fBlocks t76).fBody).fAttrs)), .p (eL eTBlock (((lat b_1.fBlocks t76).fBody).fBlocks)), .p (eI ((lat b_1.fBlocks t76).fAt))]), (1000000, [.vec 900000 4 (f77.map eTRef)])]⟩ ?_ ?_
     ·intro s' hle
      (repeat (first | refine uw ?_ | refine uo rfl ?_))
      refine awp_ghost hle ?_
      refine wp_if rfl (fun c82 => ?_) (fun c82 => ?_)
      ·replace h2 := if_t c82 h2
       refine awp_seq (awp_reg ?_)
       refine ro rfl (ok_move rfl rfl rfl rfl ?_)
       refine ro rfl (ok_fieldAddrP rfl rfl rfl rfl rfl rfl rfl rfl rfl ?_)
       refine ro rfl (ok_loadPA rfl rfl rfl rfl rfl rfl rfl rfl rfl ?_)
       refine ro rfl (ok_move rfl rfl rfl rfl ?_)
       obtain ⟨r83, e84, h2⟩ := bd_cut h2
       refine ro rfl (op_callV [1000000] [900000] 111000 111001 (ih_reference_finder_body_ok (Tfinder.mk f77) ((lat b_1.fBlocks t76).fBody) bound_2 _ e84) rfl rfl rfl rfl rfl ⟨sr, sr, sr, trivial⟩ rfl rfl ⟨⟨_, rfl, ⟨sr, trivial⟩⟩, trivial⟩ rfl rfl rfl rfl rfl rfl rfl rfl Try.call43 rfl rfl ?_)
       refine rn ?_
       refine awp_exit ?_
       (repeat (first | refine uw ?_ | refine uo rfl ?_))
       have e2 := oi h2
       subst e2
       exact ghost_trans (ghost_ren 111000 900000 rfl rfl rfl rfl rfl) (ghost_le (le_mk ⟨er rfl, er rfl, er rfl, er rfl, er rfl, trivial⟩ ⟨⟨_, rfl, ⟨sr, trivial⟩⟩, trivial⟩))
      ·replace h2 := if_bf c82 h2
       refine awp_skip (awp_seq (awp_seq (awp_reg ?_)))
       refine ro rfl (ok_fieldAddrP rfl rfl rfl rfl rfl rfl rfl rfl rfl ?_)
       refine ro rfl (ok_fieldAddrP rfl rfl rfl rfl rfl rfl rfl rfl rfl ?_)
       refine ro rfl (ok_loadP1 rfl rfl rfl rfl rfl rfl rfl rfl ?_)
       refine ro rfl (op_lenL (f := eTAttribute) (l := ((lat b_1.fBlocks t76).fBody).fAttrs) rfl rfl rfl rfl rfl rfl rfl ?_)
       refine ro rfl (ok_move rfl rfl rfl rfl ?_)
       refine rn ?_
       refine awp_block ?_
       obtain ⟨o153, h3, h2⟩ := bd_cut h2
       refine awp_joinE 4 ⟨[(0, .ptr 1000000 0), (2, .p (eL eS bound_2)), (9, .ptr 9 0), (29, .p (eL eTBlock b_1.fBlocks)), (30, .p (eI (b_1.fBlocks.length : Int))), (31, .p (eI t76))], [(9, [.p (eS ((lat b_1.fBlocks t76).fType)), .p (eL eS ((lat b_1.fBlocks t76).fLabels)), .p (eL eTAttribute (((lat b_1.fBlocks t76).fBody).fAttrs)), .p (eL eTBlock (((lat b_1.fBlocks t76).fBody).fBlocks)), .p (eI ((lat b_1.fBlocks t76).fAt))]), (1000000, [.vec 900000 4 (o153.map eTRef)])]⟩ ?_ ?_
       ·intro s' hle
        (repeat (first | refine uw ?_ | refine uo rfl ?_))
        refine awp_ghost hle ?_
        (repeat (first | refine uw ?_ | refine uo rfl ?_))
        refine awp_seq ?_
        obtain ⟨r102, e103, h2⟩ := bd_cut h2
        obtain ⟨r104, e105, h2⟩ := bd_cut h2
        obtain ⟨h106, h2⟩ := ck_cut h2
        refine awp_ghost (ghost_le (t := ⟨[(0, .ptr 1000000 0), (2, .p (eL eS bound_2)), (9, .ptr 9 0), (29, .p (eL eTBlock b_1.fBlocks)), (30, .p (eI (b_1.fBlocks.length : Int))), (31, .p (eI t76))], [(9, [.p (eS ((lat b_1.fBlocks t76).fType)), .p (eL eS ((lat b_1.fBlocks t76).fLabels)), .p (eL eTAttribute (((lat b_1.fBlocks t76).fBody).fAttrs)), .p (eL eTBlock (((lat b_1.fBlocks t76).fBody).fBlocks)), .p (eI ((lat b_1.fBlocks t76).fAt))]), (1000000, [.vec 900000 4 (o153.map eTRef)])]⟩) (le_mk ⟨er rfl, er rfl, er rfl, er rfl, er rfl, er rfl, trivial⟩ ⟨⟨_, rfl, ⟨sr, sr, sr, sr, sr, trivial⟩⟩, ⟨_, rfl, ⟨sr, trivial⟩⟩, trivial⟩)) ?_
        refine awp_drawS ⟨3, [1, 5, 6], (by4 (some (dropV [] 114000 114001)) (some fun i => Nat.beq i 114000 || Nat.beq i 68) none none), (fun _ => [(0, .ptr 1000000 0), (2, .p (eL eS bound_2)), (9, .ptr 9 0), (29, .p (eL eTBlock b_1.fBlocks)), (30, .p (eI (b_1.fBlocks.length : Int))), (31, .p (eI t76))]), (fun _ => [(9, [.p (eS ((lat b_1.fBlocks t76).fType)), .p (eL eS ((lat b_1.fBlocks t76).fLabels)), .p (eL eTAttribute (((lat b_1.fBlocks t76).fBody).fAttrs)), .p (eL eTBlock (((lat b_1.fBlocks t76).fBody).fBlocks)), .p (eI ((lat b_1.fBlocks t76).fAt))]), (1000000, [.vec 900000 4 (o153.map eTRef)])])⟩ rfl rfl rfl ⟨rfl, rfl, rfl, rfl, rfl, rfl, trivial⟩ (lt3 ⟨rfl, rfl, rfl, rfl, rfl, rfl, trivial⟩ ⟨rfl, rfl, rfl, rfl, rfl, rfl, trivial⟩ ⟨rfl, rfl, rfl, rfl, rfl, rfl, trivial⟩) rfl rfl rfl rfl ?_
        refine ds_pure (fun _ => .p (eL eS bound_2)) rfl rfl rfl (all4 rfl rfl rfl (fun _ => rfl)) (lt3 rfl rfl rfl) (stg_no rfl (stg_no rfl (stg_no rfl (stg_yes [(2, _)] ⟨.inl rfl, trivial⟩ (fun sl hsl K hK => one_op rfl (ok_move rfl rfl rfl (hsl _ _ rfl) hK)) stg_nil)))) ?_
        refine ds_imp (by4 (.vec 114000 1 (r102.map eS)) (.vec 114000 1 (r102.map eS)) (.p (eL eS r102)) (.p (eL eS r102))) [(63, _)] rfl ⟨.inr ⟨0, _, rfl, rfl, rfl⟩, trivial⟩ rfl rfl (fun _ => rfl) (lt3 (fun h => absurd h (by decide)) (fun _ => rfl) (fun _ => rfl)) (fun sl hsl K hK => one_op rfl (op_callV [] [] 114000 114001 (slices_Clone_string_string_ok bound_2 _ e103) rfl rfl rfl (args_cons (hsl _ _ rfl) args_nil) rfl ⟨sr, trivial⟩ rfl rfl trivial rfl rfl rfl rfl rfl rfl rfl rfl Try.call53 rfl rfl hK)) ?_
        refine ds_pure (fun _ => .p (.agg (TBlock.cs (lat b_1.fBlocks t76)))) rfl rfl rfl (all4 rfl rfl rfl (fun _ => rfl)) (lt3 rfl rfl rfl) (stg_no rfl (stg_yes [(9, _)] ⟨.inl rfl, trivial⟩ (fun sl hsl K hK => one_op rfl (ok_loadPA rfl rfl rfl rfl rfl (hsl _ _ rfl) rfl rfl rfl hK)) (stg_yes [(9, _)] ⟨.inl rfl, trivial⟩ (fun sl hsl K hK => one_op rfl (ok_loadPA rfl rfl rfl rfl rfl (hsl _ _ rfl) rfl rfl rfl hK)) (stg_yes [(9, _)] ⟨.inl rfl, trivial⟩ (fun sl hsl K hK => one_op rfl (ok_loadPA rfl rfl rfl rfl rfl (hsl _ _ rfl) rfl rfl rfl hK)) stg_nil)))) ?_
        refine ds_pure (fun _ => .p (eS r104)) rfl rfl rfl (all4 rfl rfl rfl (fun _ => rfl)) (lt3 rfl rfl rfl) (stg_no rfl (stg_no rfl (stg_yes [(65, _)] ⟨.inr ⟨2, _, rfl, rfl, rfl⟩, trivial⟩ (fun sl hsl K hK => one_op rfl (ok_callP (reference_iterator_ok _ (lat b_1.fBlocks t76) _ e105) rfl rfl rfl (args_cons (hsl _ _ rfl) args_nil) ⟨sr, trivial⟩ Try.call62 rfl hK)) (stg_no rfl stg_nil)))) ?_
        refine ds_pure (fun _ => .p (eL eS [r104])) rfl rfl rfl (all4 rfl rfl rfl (fun _ => rfl)) (lt3 rfl rfl rfl) (stg_no rfl (stg_no rfl (stg_yes [(66, _)] ⟨.inr ⟨3, _, rfl, rfl, rfl⟩, trivial⟩ (fun sl hsl K hK => one_op rfl (op_bslice eS [r104] rfl rfl rfl rfl rfl rfl (elems_cons (hsl _ _ rfl) rfl elems_nil) rfl rfl rfl rfl rfl rfl rfl hK)) (stg_yes [(66, _)] ⟨.inr ⟨3, _, rfl, rfl, rfl⟩, trivial⟩ (fun sl hsl K hK => one_op rfl (op_bslice eS [r104] rfl rfl rfl rfl rfl rfl (elems_cons (hsl _ _ rfl) rfl elems_nil) rfl rfl rfl rfl rfl rfl rfl hK)) stg_nil)))) ?_
        refine ds_imp (fun _ => .vec 68 1 ((r102 ++ [r104]).map eS)) [(64, _), (67, _)] rfl ⟨.inr ⟨1, _, rfl, rfl, rfl⟩, .inr ⟨4, _, rfl, rfl, rfl⟩, trivial⟩ rfl rfl (fun _ => rfl) (lt3 (fun h => absurd h (by decide)) (fun h => absurd h (by decide)) (fun _ => rfl)) (fun sl hsl K hK => one_op rfl (op_appV eS r102 [r104] rfl rfl rfl rfl rfl rfl rfl rfl (hsl _ _ rfl) rfl rfl (hsl _ _ rfl) rfl (fun _ => rfl) rfl rfl rfl h106 hK)) ?_
        refine ds_imp (fun _ => .vec 68 1 ((r102 ++ [r104]).map eS)) [(68, _)] rfl ⟨.inr ⟨5, _, rfl, rfl, rfl⟩, trivial⟩ rfl rfl (fun _ => rfl) (lt3 (fun h => absurd h (by decide)) (fun h => absurd h (by decide)) (fun h => absurd h (by decide))) (fun sl hsl K hK => one_op rfl (ok_assign rfl rfl rfl (hsl _ _ rfl) hK)) ?_
        refine ds_nil ?_
        refine awp_seq (awp_reg ?_)
        refine ro rfl (ok_fieldAddrP rfl rfl rfl rfl rfl rfl rfl rfl rfl ?_)
        refine ro rfl (ok_fieldAddrP rfl rfl rfl rfl rfl rfl rfl rfl rfl ?_)
        refine ro rfl (ok_loadP1 rfl rfl rfl rfl rfl rfl rfl rfl ?_)
        refine ro rfl (op_lenL (f := eTBlock) (l := ((lat b_1.fBlocks t76).fBody).fBlocks) rfl rfl rfl rfl rfl rfl rfl ?_)
        refine ro rfl (ok_move rfl rfl rfl rfl ?_)
        refine rn ?_
        refine awp_block ?_
        obtain ⟨o155, h3, h2⟩ := bd_cut h2
        refine awp_joinE 6 ⟨[(0, .ptr 1000000 0), (2, .p (eL eS bound_2)), (29, .p (eL eTBlock b_1.fBlocks)), (30, .p (eI (b_1.fBlocks.length : Int))), (31, .p (eI t76))], [(1000000, [.vec 900000 4 (o155.map eTRef)])]⟩ ?_ ?_
        ·intro s' hle
         (repeat (first | refine uw ?_ | refine uo rfl ?_))
         refine ghost_trans hle ?_
         (repeat (first | refine uw ?_ | refine uo rfl ?_))
         have e2 := oi h2
         subst e2
         exact ghost_le (le_mk ⟨er rfl, er rfl, er rfl, er rfl, er rfl, trivial⟩ ⟨⟨_, rfl, ⟨sr, trivial⟩⟩, trivial⟩)
        ·skip
         refine awp_loopG (fun q157 => ⟨[(0, .ptr 1000000 0), (2, .p (eL eS bound_2)), (12, .vec 68 1 ((r102 ++ [r104]).map eS)), (29, .p (eL eTBlock b_1.fBlocks)), (30, .p (eI (b_1.fBlocks.length : Int))), (31, .p (eI t76)), (71, .p (eL eTBlock (((lat b_1.fBlocks t76).fBody).fBlocks))), (72, .p (eI ((((lat b_1.fBlocks t76).fBody).fBlocks).length : Int))), (73, .p (eI q157.1))], [(1000000, [.vec 900000 4 (q157.2.map eTRef)])]⟩) (fun m (q157 : Int × (List TRef)) => reference_finder_body_l5 (reference_finder_body n) b_1 bound_2 t76 r102 r104 m q157.1 q157.2) (fun _ => rfl) (0, o153) h3 (ghost_le (le_mk ⟨er rfl, er rfl, er rfl, er rfl, er rfl, er rfl, er rfl, er rfl, er rfl, trivial⟩ ⟨⟨_, rfl, ⟨sr, trivial⟩⟩, trivial⟩)) ?_
         rintro m ⟨t118, f119⟩ h3
         replace h3 : reference_finder_body_l5 (reference_finder_body n) b_1 bound_2 t76 r102 r104 (m + 1) t118 f119 = some o155 := h3
         rw [reference_finder_body_l5] at h3
         refine awp_seq (awp_reg ?_)
         refine ro rfl (ok_cmp rfl rfl rfl rfl rfl rfl ?_)
         refine rn ?_
         refine awp_seq ?_
         refine wp_ifD rfl (fun c120 => ?_) (fun c120 => ?_)
         ·replace h3 := if_t c120 h3
          refine awp_skip (awp_seq ?_)
          obtain ⟨o158, h4, h3⟩ := bd_cut h3
          refine awp_joinN ⟨[(0, .ptr 1000000 0), (2, .p (eL eS bound_2)), (12, .vec 68 1 ((r102 ++ [r104]).map eS)), (29, .p (eL eTBlock b_1.fBlocks)), (30, .p (eI (b_1.fBlocks.length : Int))), (31, .p (eI t76)), (71, .p (eL eTBlock (((lat b_1.fBlocks t76).fBody).fBlocks))), (72, .p (eI ((((lat b_1.fBlocks t76).fBody).fBlocks).length : Int))), (73, .p (eI t118))], [(1000000, [.vec 118000 4 (o158.map eTRef)])]⟩ ?_ ?_
          ·intro s' hle
           (repeat (first | refine uw ?_ | refine uo rfl ?_))
           refine awp_ghost hle ?_
           refine awp_reg ?_
           obtain ⟨h128, h3⟩ := ck_cut h3
           refine ro rfl (ok_ar rfl rfl rfl rfl rfl rfl h128 ?_)
           refine ro rfl (ok_move rfl rfl rfl rfl ?_)
           refine rn ?_
           (repeat (first | refine uw ?_ | refine uo rfl ?_))
           exact ⟨(t118 + 1, o158), h3, ghost_trans (ghost_ren 118000 900000 rfl rfl rfl rfl rfl) (ghost_le (le_mk ⟨er rfl, er rfl, er rfl, er rfl, er rfl, er rfl, er rfl, er rfl, er rfl, trivial⟩ ⟨⟨_, rfl, ⟨sr, trivial⟩⟩, trivial⟩))⟩
          ·refine awp_block ?_
           refine awp_seq (awp_reg ?_)
           obtain ⟨h121, h4⟩ := ck_cut h4
           refine ro rfl (op_at (f := eTBlock) (l := ((lat b_1.fBlocks t76).fBody).fBlocks) TBlock.cs rfl rfl rfl rfl rfl rfl rfl rfl rfl h121 TBlock.cells_eq (fun _ => rfl) ?_)
           refine ro rfl (ok_loadRA rfl rfl rfl rfl rfl rfl rfl ?_)
           refine ro rfl (ok_alloc rfl rfl rfl rfl rfl ?_)
           refine ro rfl (ok_store rfl rfl rfl rfl rfl rfl rfl rfl (Nat.le_of_ble_eq_true rfl) ?_)
           refine rn ?_
           refine awp_seq (awp_reg ?_)
           refine ro rfl (ok_fieldAddrP rfl rfl rfl rfl rfl rfl rfl rfl rfl ?_)
           refine ro rfl (ok_loadP1 rfl rfl rfl rfl rfl rfl rfl rfl ?_)
           refine ro rfl (ok_cmpS rfl rfl rfl rfl rfl rfl ?_)
           refine rn ?_
           refine wp_ifD rfl (fun c122 => ?_) (fun c122 => ?_)
           ·replace h4 := if_t c122 h4
            refine awp_reg ?_
            refine ro rfl (ok_move rfl rfl rfl rfl ?_)
            refine ro rfl (ok_fieldAddrP rfl rfl rfl rfl rfl rfl rfl rfl rfl ?_)
            refine ro rfl (ok_loadPA rfl rfl rfl rfl rfl rfl rfl rfl rfl ?_)
            refine ro rfl (ok_move rfl rfl rfl rfl ?_)
            obtain ⟨r123, e124, h4⟩ := bd_cut h4
            refine ro rfl (op_callV [1000000] [900000] 117000 117001 (ih_reference_finder_body_ok (Tfinder.mk f119) ((lat (((lat b_1.fBlocks t76).fBody).fBlocks) t118).fBody) (r102 ++ [r104]) _ e124) rfl rfl rfl rfl rfl ⟨sr, sr, sr, trivial⟩ rfl rfl ⟨⟨_, rfl, ⟨sr, trivial⟩⟩, trivial⟩ rfl rfl rfl rfl rfl rfl rfl rfl Try.call43 rfl rfl ?_)
            refine rn ?_
            (repeat (first | refine uw ?_ | refine uo rfl ?_))
            have e4 := oi h4
            subst e4
            exact ghost_trans (ghost_ren 117000 118000 rfl rfl rfl rfl rfl) (ghost_le (le_mk ⟨er rfl, er rfl, er rfl, er rfl, er rfl, er rfl, er rfl, er rfl, er rfl, trivial⟩ ⟨⟨_, rfl, ⟨sr, trivial⟩⟩, trivial⟩))
           ·replace h4 := if_f c122 h4
            refine awp_reg ?_
            refine ro rfl (ok_move rfl rfl rfl rfl ?_)
            refine ro rfl (ok_loadPA rfl rfl rfl rfl rfl rfl rfl rfl rfl ?_)
            refine ro rfl (op_bslice eTBlock [(lat (((lat b_1.fBlocks t76).fBody).fBlocks) t118)] rfl rfl rfl rfl rfl rfl rfl rfl rfl rfl rfl rfl rfl (by first | rfl | (simp only [List.map_cons, List.map_nil, TBlock.agg_eq]; done) | (simp only [List.map_cons, List.map_nil, TBlock.agg_eq]; rfl)) ?_)
            refine ro rfl (ok_build rfl rfl rfl rfl rfl rfl rfl rfl rfl ?_)
            refine ro rfl (ok_move rfl rfl rfl rfl ?_)
            obtain ⟨r125, e126, h4⟩ := bd_cut h4
            refine ro rfl (op_callV [1000000] [900000] 118000 118001 (ih_reference_finder_body_ok (Tfinder.mk f119) (TBody.mk [] [(lat (((lat b_1.fBlocks t76).fBody).fBlocks) t118)]) bound_2 _ e126) rfl rfl rfl rfl rfl ⟨sr, sub_cells ⟨.inr ⟨rfl, rfl⟩, .inl rfl, trivial⟩, sr, trivial⟩ rfl rfl ⟨⟨_, rfl, ⟨sr, trivial⟩⟩, trivial⟩ rfl rfl rfl rfl rfl rfl rfl rfl Try.call43 rfl rfl ?_)
            refine rn ?_
            (repeat (first | refine uw ?_ | refine uo rfl ?_))
            have e4 := oi h4
            subst e4
            exact ghost_le (le_mk ⟨er rfl, er rfl, er rfl, er rfl, er rfl, er rfl, er rfl, er rfl, er rfl, trivial⟩ ⟨⟨_, rfl, ⟨sr, trivial⟩⟩, trivial⟩)
         ·replace h3 := if_f c120 h3
          refine awp_exit ?_
          (repeat (first | refine uw ?_ | refine uo rfl ?_))
          have e3 := oi h3
          subst e3
          exact ghost_le (le_mk ⟨er rfl, er rfl, er rfl, er rfl, er rfl, trivial⟩ ⟨⟨_, rfl, ⟨sr, trivial⟩⟩, trivial⟩)
       ·skip
        refine awp_loopG (fun q160 => ⟨[(0, .ptr 1000000 0), (2, .p (eL eS bound_2)), (9, .ptr 9 0), (29, .p (eL eTBlock b_1.fBlocks)), (30, .p (eI (b_1.fBlocks.length : Int))), (31, .p (eI t76)), (51, .p (eL eTAttribute (((lat b_1.fBlocks t76).fBody).fAttrs))), (52, .p (eI ((((lat b_1.fBlocks t76).fBody).fAttrs).length : Int))), (53, .p (eI q160.1))], [(9, [.p (eS ((lat b_1.fBlocks t76).fType)), .p (eL eS ((lat b_1.fBlocks t76).fLabels)), .p (eL eTAttribute (((lat b_1.fBlocks t76).fBody).fAttrs)), .p (eL eTBlock (((lat b_1.fBlocks t76).fBody).fBlocks)), .p (eI ((lat b_1.fBlocks t76).fAt))]), (1000000, [.vec 900000 4 (q160.2.map eTRef)])]⟩) (fun m (q160 : Int × (List TRef)) => reference_finder_body_l4 n b_1 bound_2 t76 m q160.1 q160.2) (fun _ => rfl) (0, f77) h3 (ghost_le (le_mk ⟨er rfl, er rfl, er rfl, er rfl, er rfl, er rfl, er rfl, er rfl, er rfl, trivial⟩ ⟨⟨_, rfl, ⟨sr, sr, sr, sr, sr, trivial⟩⟩, ⟨_, rfl, ⟨sr, trivial⟩⟩, trivial⟩)) ?_
        rintro m ⟨t92, f93⟩ h3
        replace h3 : reference_finder_body_l4 n b_1 bound_2 t76 (m + 1) t92 f93 = some o153 := h3
        rw [reference_finder_body_l4] at h3
        refine awp_seq (awp_reg ?_)
        refine ro rfl (ok_cmp rfl rfl rfl rfl rfl rfl ?_)
        refine rn ?_
        refine awp_seq ?_
        refine wp_ifD rfl (fun c94 => ?_) (fun c94 => ?_)
        ·replace h3 := if_t c94 h3
         refine awp_skip (awp_seq (awp_block (awp_seq (awp_reg ?_))))
         obtain ⟨h95, h3⟩ := ck_cut h3
         refine ro rfl (op_at (f := eTAttribute) (l := ((lat b_1.fBlocks t76).fBody).fAttrs) TAttribute.cs rfl rfl rfl rfl rfl rfl rfl rfl rfl h95 TAttribute.cells_eq (fun _ => rfl) ?_)
         refine ro rfl (ok_loadRA rfl rfl rfl rfl rfl rfl rfl ?_)
         refine ro rfl (ok_alloc rfl rfl rfl rfl rfl ?_)
         refine ro rfl (ok_store rfl rfl rfl rfl rfl rfl rfl rfl (Nat.le_of_ble_eq_true rfl) ?_)
         refine rn ?_
         refine awp_reg ?_
         refine ro rfl (ok_move rfl rfl rfl rfl ?_)
         refine ro rfl (ok_fieldAddrP rfl rfl rfl rfl rfl rfl rfl rfl rfl ?_)
         refine ro rfl (ok_loadPA rfl rfl rfl rfl rfl rfl rfl rfl rfl ?_)
         refine ro rfl (ok_move rfl rfl rfl rfl ?_)
         obtain ⟨r96, e97, h3⟩ := bd_cut h3
         refine ro rfl (op_callV [1000000] [900000] 113000 113001 (reference_finder_expr_ok _ (Tfinder.mk f93) ((lat (((lat b_1.fBlocks t76).fBody).fAttrs) t92).fExpr) bound_2 _ e97) rfl rfl rfl rfl rfl ⟨sr, sr, sr, trivial⟩ rfl rfl ⟨⟨_, rfl, ⟨sr, trivial⟩⟩, trivial⟩ rfl rfl rfl rfl rfl rfl rfl rfl Try.call37 rfl rfl ?_)
         refine rn ?_
         (repeat (first | refine uw ?_ | refine uo rfl ?_))
         refine awp_reg ?_
         obtain ⟨h98, h3⟩ := ck_cut h3
         refine ro rfl (ok_ar rfl rfl rfl rfl rfl rfl h98 ?_)
         refine ro rfl (ok_move rfl rfl rfl rfl ?_)
         refine rn ?_
         (repeat (first | refine uw ?_ | refine uo rfl ?_))
         exact ⟨(t92 + 1, r96.fout), h3, ghost_trans (ghost_ren 113000 900000 rfl rfl rfl rfl rfl) (ghost_le (le_mk ⟨er rfl, er rfl, er rfl, er rfl, er rfl, er rfl, er rfl, er rfl, er rfl, trivial⟩ ⟨⟨_, rfl, ⟨sr, sr, sr, sr, sr, trivial⟩⟩, ⟨_, rfl, ⟨sr, trivial⟩⟩, trivial⟩))⟩
        ·replace h3 := if_f c94 h3
         refine awp_exit ?_
         (repeat (first | refine uw ?_ | refine uo rfl ?_))
         have e3 := oi h3
         subst e3
         exact ghost_le (le_mk ⟨er rfl, er rfl, er rfl, er rfl, er rfl, er rfl, trivial⟩ ⟨⟨_, rfl, ⟨sr, sr, sr, sr, sr, trivial⟩⟩, ⟨_, rfl, ⟨sr, trivial⟩⟩, trivial⟩)
     ·skip
      refine awp_reg ?_
      refine ro rfl (ok_fieldAddrP rfl rfl rfl rfl rfl rfl rfl rfl rfl ?_)
      refine ro rfl (ok_loadP1 rfl rfl rfl rfl rfl rfl rfl rfl ?_)
      refine ro rfl (ok_cmpS rfl rfl rfl rfl rfl rfl ?_)
      refine ro rfl (ok_move rfl rfl rfl rfl ?_)
      refine gd_N rfl rfl rfl (fun c80 => ?_) (fun c80 => ?_)
      ·replace h3 := if_t c80 h3
       refine gd_ff rfl rfl rfl (nd_false c80) (ok_fieldAddrP rfl rfl rfl rfl rfl rfl rfl rfl rfl ?_)
       refine gd_ff rfl rfl rfl (nd_false c80) (ok_loadP1 rfl rfl rfl rfl rfl rfl rfl rfl ?_)
       refine gd_ff rfl rfl rfl (nd_false c80) (op_lenL (f := eS) (l := (lat b_1.fBlocks t76).fLabels) rfl rfl rfl rfl rfl rfl rfl ?_)
       refine gd_ff rfl rfl rfl (nd_false c80) (ok_cmp rfl rfl rfl rfl rfl rfl ?_)
       refine ro rfl (ok_pick_false rfl rfl rfl rfl (nd_false c80) rfl ?_)
       refine rn ?_
       (repeat (first | refine uw ?_ | refine uo rfl ?_))
       have e3 := oi h3
       subst e3
       exact ghost_le (le_mk ⟨er rfl, er rfl, er rfl, er rfl, er rfl, er rfl, er rfl, trivial⟩ ⟨⟨_, rfl, ⟨sr, sr, sr, sr, sr, trivial⟩⟩, ⟨_, rfl, ⟨sr, trivial⟩⟩, trivial⟩)
      ·replace h3 := if_f c80 h3
       refine gd_ft rfl rfl rfl (nd_true c80) rfl rfl ?_
       refine gd_ft rfl rfl rfl (nd_true c80) rfl rfl ?_
       refine gd_ft rfl rfl rfl (nd_true c80) rfl rfl ?_
       refine gd_ft rfl rfl rfl (nd_true c80) rfl rfl ?_
       refine ro rfl (ok_pick_true rfl rfl rfl rfl (nd_true c80) rfl ?_)
       refine rn ?_
       (repeat (first | refine uw ?_ | refine uo rfl ?_))
       have e3 := oi h3
       subst e3
       exact ghost_le (le_mk ⟨er rfl, er rfl, er rfl, er rfl, er rfl, er rfl, er rfl, trivial⟩ ⟨⟨_, rfl, ⟨sr, sr, sr, sr, sr, trivial⟩⟩, ⟨_, rfl, ⟨sr, trivial⟩⟩, trivial⟩)
   ·replace h1 := if_f c78 h1
    refine awp_exit ?_
    (repeat (first | refine uw ?_ | refine uo rfl ?_))
    have e1 := oi h1
    subst e1
    exact ghost_le (le_mk trivial ⟨⟨_, rfl, ⟨sr, trivial⟩⟩, trivial⟩)
 ·skip
  refine awp_loopG (fun q161 => ⟨[(0, .ptr 1000000 0), (2, .p (eL eS bound_2)), (4, .ptr 4 0), (16, .p (eL eTAttribute b_1.fAttrs)), (17, .p (eI (b_1.fAttrs.length : Int))), (18, .p (eI q161.1))], [(4, [.p (eL eTAttribute b_1.fAttrs), .p (eL eTBlock b_1.fBlocks)]), (1000000, [.vec 900000 4 (q161.2.map eTRef)])]⟩) (fun m (q161 : Int × (List TRef)) => reference_finder_body_l1 n b_1 bound_2 m q161.1 q161.2) (fun _ => rfl) (0, f_0.fout) h1 (ghost_le (le_mk ⟨er rfl, er rfl, er rfl, er rfl, er rfl, er rfl, trivial⟩ ⟨⟨_, rfl, ⟨sr, sr, trivial⟩⟩, ⟨_, rfl, ⟨sr, trivial⟩⟩, trivial⟩)) ?_
  rintro m ⟨t8, f9⟩ h1
  replace h1 : reference_finder_body_l1 n b_1 bound_2 (m + 1) t8 f9 = some o144 := h1
  rw [reference_finder_body_l1] at h1
  refine awp_seq (awp_reg ?_)
  refine ro rfl (ok_cmp rfl rfl rfl rfl rfl rfl ?_)
  refine rn ?_
  refine awp_seq ?_
  refine wp_ifD rfl (fun c10 => ?_) (fun c10 => ?_)
  ·replace h1 := if_t c10 h1
   refine awp_skip (awp_seq (awp_block (awp_seq (awp_reg ?_))))
   obtain ⟨h11, h1⟩ := ck_cut h1
   refine ro rfl (op_at (f := eTAttribute) (l := b_1.fAttrs) TAttribute.cs rfl rfl rfl rfl rfl rfl rfl rfl rfl h11 TAttribute.cells_eq (fun _ => rfl) ?_)
   refine ro rfl (ok_loadRA rfl rfl rfl rfl rfl rfl rfl ?_)
   refine ro rfl (ok_alloc rfl rfl rfl rfl rfl ?_)
   refine ro rfl (ok_store rfl rfl rfl rfl rfl rfl rfl rfl (Nat.le_of_ble_eq_true rfl) ?_)
   refine rn ?_
   refine awp_reg ?_
   refine ro rfl (ok_move rfl rfl rfl rfl ?_)
   refine ro rfl (ok_fieldAddrP rfl rfl rfl rfl rfl rfl rfl rfl rfl ?_)
   refine ro rfl (ok_loadPA rfl rfl rfl rfl rfl rfl rfl rfl rfl ?_)
   refine ro rfl (ok_move rfl rfl rfl rfl ?_)
   obtain ⟨r12, e13, h1⟩ := bd_cut h1
   refine ro rfl (op_callV [1000000] [900000] 102000 102001 (reference_finder_expr_ok _ (Tfinder.mk f9) ((lat b_1.fAttrs t8).fExpr) bound_2 _ e13) rfl rfl rfl rfl rfl ⟨sr, sr, sr, trivial⟩ rfl rfl ⟨⟨_, rfl, ⟨sr, trivial⟩⟩, trivial⟩ rfl rfl rfl rfl rfl rfl rfl rfl Try.call37 rfl rfl ?_)
   refine rn ?_
   (repeat (first | refine uw ?_ | refine uo rfl ?_))
   refine awp_reg ?_
   obtain ⟨h14, h1⟩ := ck_cut h1
   refine ro rfl (ok_ar rfl rfl rfl rfl rfl rfl h14 ?_)
   refine ro rfl (ok_move rfl rfl rfl rfl ?_)
   refine rn ?_
   (repeat (first | refine uw ?_ | refine uo rfl ?_))
   exact ⟨(t8 + 1, r12.fout), h1, ghost_trans (ghost_ren 102000 900000 rfl rfl rfl rfl rfl) (ghost_le (le_mk ⟨er rfl, er rfl, er rfl, er rfl, er rfl, er rfl, trivial⟩ ⟨⟨_, rfl, ⟨sr, sr, trivial⟩⟩, ⟨_, rfl, ⟨sr, trivial⟩⟩, trivial⟩))⟩
  ·replace h1 := if_f c10 h1
   refine awp_exit ?_
   (repeat (first | refine uw ?_ | refine uo rfl ?_))
   have e1 := oi h1
   subst e1
   exact ghost_le (le_mk ⟨er rfl, er rfl, er rfl, trivial⟩ ⟨⟨_, rfl, ⟨sr, sr, trivial⟩⟩, ⟨_, rfl, ⟨sr, trivial⟩⟩, trivial⟩)

def reference_OfBody (n : Nat) (b_0 : TBody) : Option (List TRef) :=
 (reference_finder_body n (Tfinder.mk []) b_0 []).bind fun r1 =>
 some r1.fout

set_option maxHeartbeats 4000000 in
theorem reference_OfBody_ok (n : Nat) (b_0 : TBody) (r : (List TRef)) (h0 : reference_OfBody n b_0 = some r) : PCalls Try.prog 27 [.agg (TBody.cs b_0)] (· = .p (eL eTRef r)) := by
 unfold reference_OfBody at h0
 refine pbodyA good Try.func27 rfl rfl rfl fun w0 => ?_
 refine awp_seq (awp_reg ?_)
 refine ro rfl (ok_box rfl rfl rfl rfl rfl ?_)
 refine ro rfl (ok_assign rfl rfl rfl rfl ?_)
 refine rn ?_
 refine awp_seq (awp_reg ?_)
 refine ro rfl (ok_build rfl rfl rfl rfl rfl rfl rfl rfl rfl ?_)
 refine ro rfl (ok_box rfl rfl rfl rfl rfl ?_)
 refine ro rfl (ok_assign rfl rfl rfl rfl ?_)
 refine rn ?_
 refine awp_seq (awp_reg ?_)
 refine ro rfl (ok_move rfl rfl rfl rfl ?_)
 refine ro rfl (ok_loadPA rfl rfl rfl rfl rfl rfl rfl rfl rfl ?_)
 obtain ⟨r1, e2, h0⟩ := bd_cut h0
 refine ro rfl (op_callV [5] [890000] 101000 101001 (reference_finder_body_ok _ (Tfinder.mk []) b_0 [] _ e2) rfl rfl rfl rfl rfl ⟨sr, sr, sub_nilL _, trivial⟩ rfl rfl ⟨⟨_, rfl, ⟨AV.sub_nilvec _ _, trivial⟩⟩, trivial⟩ rfl rfl rfl rfl rfl rfl rfl rfl Try.call43 rfl rfl ?_)
 refine rn ?_
 refine awp_seq (awp_reg ?_)
 refine ro rfl (ok_move rfl rfl rfl rfl ?_)
 refine ro rfl (ok_nilCheckP rfl rfl rfl rfl ?_)
 refine ro rfl (ok_fieldAddrP rfl rfl rfl rfl rfl rfl rfl rfl rfl ?_)
 refine ro rfl (ok_loadP1 rfl rfl rfl rfl rfl rfl rfl rfl ?_)
 refine ro rfl (ok_assign rfl rfl rfl rfl ?_)
 refine rn ?_
 refine awp_ret ?_
 (repeat (first | refine uw ?_ | refine uo rfl ?_))
 have e0 := oi h0
 subst e0
 refine reta_mk rfl ?_
 exact AV.sub_vec _ _ _

def ref17_iterator_l1 (b_0 : TBlock) : Nat → Int → Option (Unit ⊕ Bytes)
 | 0, _ => none
 | m + 1, i9 =>
 if i9 < (b_0.fBody.fAttrs.length : Int) then
  ck ((0 : Int) ≤ i9 ∧ i9 < (b_0.fBody.fAttrs.length : Int)) <|
  (
    if (lat b_0.fBody.fAttrs i9).fName = ([105, 116, 101, 114, 97, 116, 111, 114] : Bytes) then
     if ((lat b_0.fBody.fAttrs i9).fExpr).fKind = 1 then
      some (decide ((((lat b_0.fBody.fAttrs i9).fExpr).fValue).fKind = 3))
     else
      some false
    else
     some false
   : Option Bool).bind fun t14 =>
  if t14 = true then
   some (.inr ((((lat b_0.fBody.fAttrs i9).fExpr).fValue).fStr))
  else
   ck (inR (i9 + 1)) <|
   ref17_iterator_l1 b_0 m (i9 + 1)
 else
  some (.inl ())

def ref17_iterator (n : Nat) (b_0 : TBlock) : Option Bytes :=
 jn (ref17_iterator_l1 b_0 n 0) fun q19 =>
 ck ((0 : Int) ≤ 0 ∧ 0 < (b_0.fLabels.length : Int)) <|
 some (lat b_0.fLabels 0)

set_option maxHeartbeats 4000000 in
theorem ref17_iterator_ok (n : Nat) (b_0 : TBlock) (r : Bytes) (h0 : ref17_iterator n b_0 = some r) : PCalls Try.prog 73 [.agg (TBlock.cs b_0)] (· = .p (eS r)) := by
 unfold ref17_iterator at h0
 refine pbodyA good Try.func73 rfl rfl rfl fun w0 => ?_
 refine awp_seq (awp_reg ?_)
 refine ro rfl (ok_box rfl rfl rfl rfl rfl ?_)
 refine ro rfl (ok_assign rfl rfl rfl rfl ?_)
 refine rn ?_
 refine awp_seq (awp_seq (awp_reg ?_))
 refine ro rfl (ok_assign rfl rfl rfl rfl ?_)
 refine rn ?_
 refine awp_block ?_
 obtain ⟨o21, h1, hL0, hR0⟩ := jn_cut h0
 refine awp_joinEx 0 (fun v22 : Unit => o21 = .inl v22) (fun v22 => ⟨[(1, .ptr 1 0)], [(1, [.p (eS b_0.fType), .p (eL eS b_0.fLabels), .p (eL eTAttribute b_0.fBody.fAttrs), .p (eL eTBlock b_0.fBody.fBlocks), .p (eI b_0.fAt)])]⟩) ?_ ?_
 ·rintro s' ⟨v22, hv, hle⟩
  have h0 := hL0 _ hv
  (repeat (first | refine uw ?_ | refine uo rfl ?_))
  refine awp_ghost hle ?_
  (repeat (first | refine uw ?_ | refine uo rfl ?_))
  refine awp_seq (awp_reg ?_)
  refine ro rfl (ok_fieldAddrP rfl rfl rfl rfl rfl rfl rfl rfl rfl ?_)
  refine ro rfl (ok_loadP1 rfl rfl rfl rfl rfl rfl rfl rfl ?_)
  obtain ⟨h18, h0⟩ := ck_cut h0
  refine ro rfl (op_at (f := eS) (l := b_0.fLabels) (fun x => [eS x]) rfl rfl rfl rfl rfl rfl rfl rfl rfl h18 (fun _ => rfl) (fun _ => rfl) ?_)
  refine ro rfl (ok_loadR1 rfl rfl rfl rfl rfl rfl rfl ?_)
  refine ro rfl (ok_assign rfl rfl rfl rfl ?_)
  refine rn ?_
  refine awp_ret ?_
  (repeat (first | refine uw ?_ | refine uo rfl ?_))
  have e0 := oi h0
  subst e0
  refine reta_mk rfl ?_
  exact sr
 ·skip
  refine awp_loopG (fun q23 => ⟨[(1, .ptr 1 0), (3, .p (eI q23))], [(1, [.p (eS b_0.fType), .p (eL eS b_0.fLabels), .p (eL eTAttribute b_0.fBody.fAttrs), .p (eL eTBlock b_0.fBody.fBlocks), .p (eI b_0.fAt)])]⟩) (fun m (q23 : Int) => ref17_iterator_l1 b_0 m q23) (fun _ => rfl) 0 h1 (ghost_le (le_mk ⟨er rfl, er rfl, trivial⟩ ⟨⟨_, rfl, ⟨sr, sr, sr, sr, sr, trivial⟩⟩, trivial⟩)) ?_
  rintro m i9 h1
  replace h1 : ref17_iterator_l1 b_0 (m + 1) i9 = some o21 := h1
  rw [ref17_iterator_l1] at h1
  refine awp_seq (awp_seq (awp_reg ?_))
  refine ro rfl (ok_move rfl rfl rfl rfl ?_)
  refine ro rfl (ok_fieldAddrP rfl rfl rfl rfl rfl rfl rfl rfl rfl ?_)
  refine ro rfl (ok_fieldAddrP rfl rfl rfl rfl rfl rfl rfl rfl rfl ?_)
  refine ro rfl (ok_loadP1 rfl rfl rfl rfl rfl rfl rfl rfl ?_)
  refine ro rfl (op_lenL (f := eTAttribute) (l := b_0.fBody.fAttrs) rfl rfl rfl rfl rfl rfl rfl ?_)
  refine ro rfl (ok_cmp rfl rfl rfl rfl rfl rfl ?_)
  refine rn ?_
  refine wp_ifD rfl (fun c10 => ?_) (fun c10 => ?_)
  ·replace h1 := if_t c10 h1
   refine awp_skip (awp_seq (awp_block (awp_seq (awp_reg ?_))))
   refine ro rfl (ok_fieldAddrP rfl rfl rfl rfl rfl rfl rfl rfl rfl ?_)
   refine ro rfl (ok_fieldAddrP rfl rfl rfl rfl rfl rfl rfl rfl rfl ?_)
   refine ro rfl (ok_loadP1 rfl rfl rfl rfl rfl rfl rfl rfl ?_)
   refine ro rfl (ok_move rfl rfl rfl rfl ?_)
   obtain ⟨h11, h1⟩ := ck_cut h1
   refine ro rfl (op_at (f := eTAttribute) (l := b_0.fBody.fAttrs) TAttribute.cs rfl rfl rfl rfl rfl rfl rfl rfl rfl h11 TAttribute.cells_eq (fun _ => rfl) ?_)
   refine ro rfl (ok_loadRA rfl rfl rfl rfl rfl rfl rfl ?_)
   refine ro rfl (ok_alloc rfl rfl rfl rfl rfl ?_)
   refine ro rfl (ok_store rfl rfl rfl rfl rfl rfl rfl rfl (Nat.le_of_ble_eq_true rfl) ?_)
   refine rn ?_
   refine awp_seq ?_
   obtain ⟨o24, h2, h1⟩ := bd_cut h1
   refine awp_joinN ⟨[(1, .ptr 1 0), (3, .p (eI i9)), (4, .ptr 4 0), (34, .p (eB o24))], [(1, [.p (eS b_0.fType), .p (eL eS b_0.fLabels), .p (eL eTAttribute b_0.fBody.fAttrs), .p (eL eTBlock b_0.fBody.fBlocks), .p (eI b_0.fAt)]), (4, [.p (eS ((lat b_0.fBody.fAttrs i9).fName)), .p (eI (((lat b_0.fBody.fAttrs i9).fExpr).fKind)), .p (eI (((lat b_0.fBody.fAttrs i9).fExpr).fOp)), .p (eS (((lat b_0.fBody.fAttrs i9).fExpr).fName)), .p (eS (((lat b_0.fBody.fAttrs i9).fExpr).fKey)), .p (eI ((((lat b_0.fBody.fAttrs i9).fExpr).fValue).fKind)), .p (eI ((((lat b_0.fBody.fAttrs i9).fExpr).fValue).fNum)), .p (eS ((((lat b_0.fBody.fAttrs i9).fExpr).fValue).fStr)), .p (eL eTValue ((((lat b_0.fBody.fAttrs i9).fExpr).fValue).fItems)), .p (eL eS ((((lat b_0.fBody.fAttrs i9).fExpr).fValue).fKeys)), .p (eL eTExpr (((lat b_0.fBody.fAttrs i9).fExpr).fKids)), .p (eI (((lat b_0.fBody.fAttrs i9).fExpr).fAt)), .p (eI ((lat b_0.fBody.fAttrs i9).fAt))])]⟩ ?_ ?_
   ·intro s' hle
    (repeat (first | refine uw ?_ | refine uo rfl ?_))
    refine awp_ghost hle ?_
    refine wp_if rfl (fun c15 => ?_) (fun c15 => ?_)
    ·replace h1 := if_t c15 h1
     refine awp_seq (awp_reg ?_)
     refine ro rfl (ok_fieldAddrP rfl rfl rfl rfl rfl rfl rfl rfl rfl ?_)
     refine ro rfl (ok_fieldAddrP rfl rfl rfl rfl rfl rfl rfl rfl rfl ?_)
     refine ro rfl (ok_fieldAddrP rfl rfl rfl rfl rfl rfl rfl rfl rfl ?_)
     refine ro rfl (ok_loadP1 rfl rfl rfl rfl rfl rfl rfl rfl ?_)
     refine ro rfl (ok_assign rfl rfl rfl rfl ?_)
     refine rn ?_
     refine awp_ret ?_
     (repeat (first | refine uw ?_ | refine uo rfl ?_))
     have e1 := oi h1
     have e0 := hR0 _ e1.symm
     subst e0
     refine reta_mk rfl ?_
     exact sr
    ·replace h1 := if_bf c15 h1
     refine awp_skip ?_
     (repeat (first | refine uw ?_ | refine uo rfl ?_))
     refine awp_reg ?_
     refine ro rfl (ok_move rfl rfl rfl rfl ?_)
     obtain ⟨h16, h1⟩ := ck_cut h1
     refine ro rfl (ok_ar rfl rfl rfl rfl rfl rfl h16 ?_)
     refine ro rfl (ok_assign rfl rfl rfl rfl ?_)
     refine rn ?_
     (repeat (first | refine uw ?_ | refine uo rfl ?_))
     exact ⟨(i9 + 1), h1, ghost_le (le_mk ⟨er rfl, er rfl, trivial⟩ ⟨⟨_, rfl, ⟨sr, sr, sr, sr, sr, trivial⟩⟩, trivial⟩)⟩
   ·skip
    refine awp_reg ?_
    refine ro rfl (ok_fieldAddrP rfl rfl rfl rfl rfl rfl rfl rfl rfl ?_)
    refine ro rfl (ok_loadP1 rfl rfl rfl rfl rfl rfl rfl rfl ?_)
    refine ro rfl (ok_cmpS rfl rfl rfl rfl rfl rfl ?_)
    refine ro rfl (ok_move rfl rfl rfl rfl ?_)
    refine gd_D rfl rfl rfl (fun c12 => ?_) (fun c12 => ?_)
    ·replace h2 := if_t c12 h2
     refine gd_tt rfl rfl rfl (dt c12) (ok_fieldAddrP rfl rfl rfl rfl rfl rfl rfl rfl rfl ?_)
     refine gd_tt rfl rfl rfl (dt c12) (ok_fieldAddrP rfl rfl rfl rfl rfl rfl rfl rfl rfl ?_)
     refine gd_tt rfl rfl rfl (dt c12) (ok_loadP1 rfl rfl rfl rfl rfl rfl rfl rfl ?_)
     refine gd_tt rfl rfl rfl (dt c12) (ok_cmp rfl rfl rfl rfl rfl rfl ?_)
     refine ro rfl (ok_pick_true rfl rfl rfl rfl (dt c12) rfl ?_)
     refine ro rfl (ok_move rfl rfl rfl rfl ?_)
     refine gd_D rfl rfl rfl (fun c13 => ?_) (fun c13 => ?_)
     ·replace h2 := if_t c13 h2
      refine gd_tt rfl rfl rfl (dt c13) (ok_fieldAddrP rfl rfl rfl rfl rfl rfl rfl rfl rfl ?_)
      refine gd_tt rfl rfl rfl (dt c13) (ok_fieldAddrP rfl rfl rfl rfl rfl rfl rfl rfl rfl ?_)
      refine gd_tt rfl rfl rfl (dt c13) (ok_fieldAddrP rfl rfl rfl rfl rfl rfl rfl rfl rfl ?_)
      refine gd_tt rfl rfl rfl (dt c13) (ok_loadP1 rfl rfl rfl rfl rfl rfl rfl rfl ?_)
      refine gd_tt rfl rfl rfl (dt c13) (ok_cmp rfl rfl rfl rfl rfl rfl ?_)
      refine ro rfl (ok_pick_true rfl rfl rfl rfl (dt c13) rfl ?_)
      refine rn ?_
      (repeat (first | refine uw ?_ | refine uo rfl ?_))
      have e2 := oi h2
      subst e2
      exact ghost_le (le_mk ⟨er rfl, er rfl, er rfl, er rfl, trivial⟩ ⟨⟨_, rfl, ⟨sr, sr, sr, sr, sr, trivial⟩⟩, ⟨_, rfl, ⟨sr, sr, sr, sr, sr, sr, sr, sr, sr, sr, sr, sr, sr, trivial⟩⟩, trivial⟩)
     ·replace h2 := if_f c13 h2
      refine gd_tf rfl rfl rfl (df c13) rfl rfl ?_
      refine gd_tf rfl rfl rfl (df c13) rfl rfl ?_
      refine gd_tf rfl rfl rfl (df c13) rfl rfl ?_
      refine gd_tf rfl rfl rfl (df c13) rfl rfl ?_
      refine gd_tf rfl rfl rfl (df c13) rfl rfl ?_
      refine ro rfl (ok_pick_false rfl rfl rfl rfl (df c13) rfl ?_)
      refine rn ?_
      (repeat (first | refine uw ?_ | refine uo rfl ?_))
      have e2 := oi h2
      subst e2
      exact ghost_le (le_mk ⟨er rfl, er rfl, er rfl, er rfl, trivial⟩ ⟨⟨_, rfl, ⟨sr, sr, sr, sr, sr, trivial⟩⟩, ⟨_, rfl, ⟨sr, sr, sr, sr, sr, sr, sr, sr, sr, sr, sr, sr, sr, trivial⟩⟩, trivial⟩)
    ·replace h2 := if_f c12 h2
     refine gd_tf rfl rfl rfl (df c12) rfl rfl ?_
     refine gd_tf rfl rfl rfl (df c12) rfl rfl ?_
     refine gd_tf rfl rfl rfl (df c12) rfl rfl ?_
     refine gd_tf rfl rfl rfl (df c12) rfl rfl ?_
     refine ro rfl (ok_pick_false rfl rfl rfl rfl (df c12) rfl ?_)
     refine ro rfl (ok_move rfl rfl rfl rfl ?_)
     refine gd_tf rfl rfl rfl (rfl) rfl rfl ?_
     refine gd_tf rfl rfl rfl (rfl) rfl rfl ?_
     refine gd_tf rfl rfl rfl (rfl) rfl rfl ?_
     refine gd_tf rfl rfl rfl (rfl) rfl rfl ?_
     refine gd_tf rfl rfl rfl (rfl) rfl rfl ?_
     refine ro rfl (ok_pick_false rfl rfl rfl rfl (rfl) rfl ?_)
     refine rn ?_
     (repeat (first | refine uw ?_ | refine uo rfl ?_))
     have e2 := oi h2
     subst e2
     exact ghost_le (le_mk ⟨er rfl, er rfl, er rfl, er rfl, trivial⟩ ⟨⟨_, rfl, ⟨sr, sr, sr, sr, sr, trivial⟩⟩, ⟨_, rfl, ⟨sr, sr, sr, sr, sr, sr, sr, sr, sr, sr, sr, sr, sr, trivial⟩⟩, trivial⟩)
  ·replace h1 := if_f c10 h1
   refine awp_exit ?_
   (repeat (first | refine uw ?_ | refine uo rfl ?_))
   have e1 := oi h1
   exact ⟨_, e1.symm, ghost_le (le_mk ⟨er rfl, trivial⟩ ⟨⟨_, rfl, ⟨sr, sr, sr, sr, sr, trivial⟩⟩, trivial⟩)⟩

def ref17_body_l1 (n : Nat) (b_0 : TBody) (bound_1 : List Bytes) : Nat → (List TRef) → Int → Option (List TRef)
 | 0, _, _ => none
 | m + 1, out10, i11 =>
 if i11 < (b_0.fAttrs.length : Int) then
  ck ((0 : Int) ≤ i11 ∧ i11 < (b_0.fAttrs.length : Int)) <|
  (ref17_of n ((lat b_0.fAttrs i11).fExpr) bound_1).bind fun r14 =>
  (ref17_put n out10 r14).bind fun r16 =>
  ck (inR (i11 + 1)) <|
  ref17_body_l1 n b_0 bound_1 m r16 (i11 + 1)
 else
  some out10

def ref17_body_l2 (n : Nat) (r_ref17_body : TBody → (List Bytes) → Option (List TRef)) (r_ref17_dynamic : TBlock → (List Bytes) → Option (List TRef)) (b_0 : TBody) (bound_1 : List Bytes) : Nat → (List TRef) → Int → Option (List TRef)
 | 0, _, _ => none
 | m + 1, out39, i40 =>
 if i40 < (b_0.fBlocks.length : Int) then
  (
    ck ((0 : Int) ≤ i40 ∧ i40 < (b_0.fBlocks.length : Int)) <|
    (
      if (lat b_0.fBlocks i40).fType = ([100, 121, 110, 97, 109, 105, 99] : Bytes) then
       some (decide ((((lat b_0.fBlocks i40).fLabels).length : Int) = 1))
      else
       some false
     : Option Bool).bind fun t44 =>
    if t44 = true then
     (r_ref17_dynamic (lat b_0.fBlocks i40) bound_1).bind fun r46 =>
     (ref17_put n out39 r46).bind fun r48 =>
     some r48
    else
     (r_ref17_body ((lat b_0.fBlocks i40).fBody) bound_1).bind fun r50 =>
     (ref17_put n out39 r50).bind fun r52 =>
     some r52
   : Option (List TRef)).bind fun out54 =>
  ck (inR (i40 + 1)) <|
  ref17_body_l2 n r_ref17_body r_ref17_dynamic b_0 bound_1 m out54 (i40 + 1)
 else
  some out39

def ref17_dynamic_l1 (n : Nat) (b_0 : TBlock) (bound_1 : List Bytes) : Nat → (List TRef) → Int → Option (List TRef)
 | 0, _, _ => none
 | m + 1, out10, i11 =>
 if i11 < (b_0.fBody.fAttrs.length : Int) then
  ck ((0 : Int) ≤ i11 ∧ i11 < (b_0.fBody.fAttrs.length : Int)) <|
  (ref17_of n ((lat b_0.fBody.fAttrs i11).fExpr) bound_1).bind fun r14 =>
  (ref17_put n out10 r14).bind fun r16 =>
  ck (inR (i11 + 1)) <|
  ref17_dynamic_l1 n b_0 bound_1 m r16 (i11 + 1)
 else
  some out10

def ref17_dynamic_l2 (n : Nat) (r_ref17_body : TBody → (List Bytes) → Option (List TRef)) (b_0 : TBlock) (bound_1 : List Bytes) (r23 : Bytes) : Nat → (List TRef) → Int → Option (List TRef)
 | 0, _, _ => none
 | m + 1, out41, i42 =>
 if i42 < (b_0.fBody.fBlocks.length : Int) then
  (
    ck ((0 : Int) ≤ i42 ∧ i42 < (b_0.fBody.fBlocks.length : Int)) <|
    if (lat b_0.fBody.fBlocks i42).fType = ([99, 111, 110, 116, 101, 110, 116] : Bytes) then
     (r_ref17_body ((lat b_0.fBody.fBlocks i42).fBody) (bound_1 ++ [r23])).bind fun r46 =>
     (ref17_put n out41 r46).bind fun r48 =>
     some r48
    else
     (r_ref17_body (TBody.mk [] [(lat b_0.fBody.fBlocks i42)]) bound_1).bind fun r50 =>
     (ref17_put n out41 r50).bind fun r52 =>
     some r52
   : Option (List TRef)).bind fun out54 =>
  ck (inR (i42 + 1)) <|
  ref17_dynamic_l2 n r_ref17_body b_0 bound_1 r23 m out54 (i42 + 1)
 else
  some out41

mutual
def ref17_body : Nat → TBody → (List Bytes) → Option (List TRef)
 | 0, _, _ => none
 | n + 1, b_0, bound_1 =>
 (ref17_body_l1 n b_0 bound_1 n [] 0).bind fun out21 =>
 (ref17_body_l2 n (ref17_body n) (ref17_dynamic n) b_0 bound_1 n out21 0).bind fun out58 =>
 some out58
def ref17_dynamic : Nat → TBlock → (List Bytes) → Option (List TRef)
 | 0, _, _ => none
 | n + 1, b_0, bound_1 =>
 (ref17_dynamic_l1 n b_0 bound_1 n [] 0).bind fun out21 =>
 ck (bound_1.length * 16 ≤ 140737488355328) <|
 (ref17_iterator n b_0).bind fun r23 =>
 ck ((bound_1.length + [r23].length) * 16 ≤ 140737488355328) <|
 (ref17_dynamic_l2 n (ref17_body n) b_0 bound_1 r23 n out21 0).bind fun out58 =>
 some out58
end

set_option maxHeartbeats 4000000 in
theorem ref17_body_all (n : Nat) : (∀ (b_0 : TBody) (bound_1 : List Bytes) (r : (List TRef)), ref17_body n b_0 bound_1 = some r → PCalls Try.prog 44 [.agg (TBody.cs b_0), eL eS bound_1] (· = .p (eL eTRef r))) ∧ (∀ (b_0 : TBlock) (bound_1 : List Bytes) (r : (List TRef)), ref17_dynamic n b_0 bound_1 = some r → PCalls Try.prog 63 [.agg (TBlock.cs b_0), eL eS bound_1] (· = .p (eL eTRef r))) := by
 induction n with
 | zero => exact ⟨(by intro b_0 bound_1 r h0; cases h0), (by intro b_0 bound_1 r h0; cases h0)⟩
 | succ n ih =>
 obtain ⟨ih_ref17_body_ok, ih_ref17_dynamic_ok⟩ := ih
 refine ⟨?_, ?_⟩
 ·skip
  intro b_0 bound_1 r h0
  rw [ref17_body] at h0
  refine pbodyA good Try.func44 rfl rfl rfl fun w0 => ?_
  refine awp_seq (awp_reg ?_)
  refine ro rfl (ok_box rfl rfl rfl rfl rfl ?_)
  refine ro rfl (ok_assign rfl rfl rfl rfl ?_)
  refine rn ?_
  refine awp_seq (awp_reg ?_)
  refine ro rfl (ok_assign rfl rfl rfl rfl ?_)
  refine rn ?_
  refine awp_seq (awp_seq (awp_reg ?_))
  refine ro rfl (ok_assign rfl rfl rfl rfl ?_)
  refine rn ?_
  refine awp_block ?_
  obtain ⟨o63, h1, h0⟩ := bd_cut h0
  refine awp_joinE 0 ⟨[(1, .p (eL eS bound_1)), (2, .ptr 2 0), (5, .p (eL eTRef o63))], [(2, [.p (eL eTAttribute b_0.fAttrs), .p (eL eTBlock b_0.fBlocks)])]⟩ ?_ ?_
  ·intro s' hle
   (repeat (first | refine uw ?_ | refine uo rfl ?_))
   refine awp_ghost hle ?_
   (repeat (first | refine uw ?_ | refine uo rfl ?_))
   refine awp_seq (awp_seq (awp_reg ?_))
   refine ro rfl (ok_assign rfl rfl rfl rfl ?_)
   refine rn ?_
   refine awp_block ?_
   obtain ⟨o65, h1, h0⟩ := bd_cut h0
   refine awp_joinE 2 ⟨[(5, .p (eL eTRef o65))], []⟩ ?_ ?_
   ·intro s' hle
    (repeat (first | refine uw ?_ | refine uo rfl ?_))
    refine awp_ghost hle ?_
    (repeat (first | refine uw ?_ | refine uo rfl ?_))
    refine awp_seq (awp_reg ?_)
    refine ro rfl (ok_move rfl rfl rfl rfl ?_)
    refine ro rfl (ok_assign rfl rfl rfl rfl ?_)
    refine rn ?_
    refine awp_ret ?_
    (repeat (first | refine uw ?_ | refine uo rfl ?_))
    have e0 := oi h0
    subst e0
    refine reta_mk rfl ?_
    exact sr
   ·skip
    refine awp_loopG (fun q67 => ⟨[(1, .p (eL eS bound_1)), (2, .ptr 2 0), (5, .p (eL eTRef q67.1)), (7, .p (eI q67.2))], [(2, [.p (eL eTAttribute b_0.fAttrs), .p (eL eTBlock b_0.fBlocks)])]⟩) (fun m (q67 : (List TRef) × Int) => ref17_body_l2 n (ref17_body n) (ref17_dynamic n) b_0 bound_1 m q67.1 q67.2) (fun _ => rfl) (o63, 0) h1 (ghost_le (le_mk ⟨er rfl, er rfl, er rfl, er rfl, trivial⟩ ⟨⟨_, rfl, ⟨sr, sr, trivial⟩⟩, trivial⟩)) ?_
    rintro m ⟨out39, i40⟩ h1
    replace h1 : ref17_body_l2 n (ref17_body n) (ref17_dynamic n) b_0 bound_1 (m + 1) out39 i40 = some o65 := h1
    rw [ref17_body_l2] at h1
    refine awp_seq (awp_seq (awp_reg ?_))
    refine ro rfl (ok_move rfl rfl rfl rfl ?_)
    refine ro rfl (ok_fieldAddrP rfl rfl rfl rfl rfl rfl rfl rfl rfl ?_)
    refine ro rfl (ok_loadP1 rfl rfl rfl rfl rfl rfl rfl rfl ?_)
    refine ro rfl (op_lenL (f := eTBlock) (l := b_0.fBlocks) rfl rfl rfl rfl rfl rfl rfl ?_)
    refine ro rfl (ok_cmp rfl rfl rfl rfl rfl rfl ?_)
    refine rn ?_
    refine wp_ifD rfl (fun c41 => ?_) (fun c41 => ?_)
    ·replace h1 := if_t c41 h1
     refine awp_skip (awp_seq ?_)
     obtain ⟨o68, h2, h1⟩ := bd_cut h1
     refine awp_joinN ⟨[(1, .p (eL eS bound_1)), (2, .ptr 2 0), (5, .p (eL eTRef o68)), (7, .p (eI i40))], [(2, [.p (eL eTAttribute b_0.fAttrs), .p (eL eTBlock b_0.fBlocks)])]⟩ ?_ ?_
     ·intro s' hle
      (repeat (first | refine uw ?_ | refine uo rfl ?_))
      refine awp_ghost hle ?_
      refine awp_reg ?_
      refine ro rfl (ok_move rfl rfl rfl rfl ?_)
      obtain ⟨h55, h1⟩ := ck_cut h1
      refine ro rfl (ok_ar rfl rfl rfl rfl rfl rfl h55 ?_)
      refine ro rfl (ok_assign rfl rfl rfl rfl ?_)
      refine rn ?_
      (repeat (first | refine uw ?_ | refine uo rfl ?_))
      exact ⟨(o68, i40 + 1), h1, ghost_le (le_mk ⟨er rfl, er rfl, er rfl, er rfl, trivial⟩ ⟨⟨_, rfl, ⟨sr, sr, trivial⟩⟩, trivial⟩)⟩
     ·refine awp_block ?_
      refine awp_seq (awp_reg ?_)
      refine ro rfl (ok_fieldAddrP rfl rfl rfl rfl rfl rfl rfl rfl rfl ?_)
      refine ro rfl (ok_loadP1 rfl rfl rfl rfl rfl rfl rfl rfl ?_)
      refine ro rfl (ok_move rfl rfl rfl rfl ?_)
      obtain ⟨h42, h2⟩ := ck_cut h2
      refine ro rfl (op_at (f := eTBlock) (l := b_0.fBlocks) TBlock.cs rfl rfl rfl rfl rfl rfl rfl rfl rfl h42 TBlock.cells_eq (fun _ => rfl) ?_)
      refine ro rfl (ok_loadRA rfl rfl rfl rfl rfl rfl rfl ?_)
      refine ro rfl (ok_alloc rfl rfl rfl rfl rfl ?_)
      refine ro rfl (ok_store rfl rfl rfl rfl rfl rfl rfl rfl (Nat.le_of_ble_eq_true rfl) ?_)
      refine rn ?_
      refine awp_seq ?_
      obtain ⟨o70, h3, h2⟩ := bd_cut h2
      refine awp_joinN ⟨[(1, .p (eL eS bound_1)), (2, .ptr 2 0), (5, .p (eL eTRef out39)), (7, .p (eI i40)), (8, .ptr 8 0), (46, .p (eB o70))], [(2, [.p (eL eTAttribute b_0.fAttrs), .p (eL eTBlock b_0.fBlocks)]), (8, [.p (eS ((lat b_0.fBlocks i40).fType)), .p (eL eS ((lat b_0.fBlocks i40).fLabels)), .p (eL eTAttribute (((lat b_0.fBlocks i40).fBody).fAttrs)), .p (eL eTBlock (((lat b_0.fBlocks i40).fBody).fBlocks)), .p (eI ((lat b_0.fBlocks i40).fAt))])]⟩ ?_ ?_
      ·intro s' hle
       (repeat (first | refine uw ?_ | refine uo rfl ?_))
       refine awp_ghost hle ?_
       refine wp_if rfl (fun c45 => ?_) (fun c45 => ?_)
       ·replace h2 := if_t c45 h2
        refine awp_reg ?_
        refine ro rfl (ok_move rfl rfl rfl rfl ?_)
        refine ro rfl (ok_loadPA rfl rfl rfl rfl rfl rfl rfl rfl rfl ?_)
        refine ro rfl (ok_move rfl rfl rfl rfl ?_)
        obtain ⟨r46, e47, h2⟩ := bd_cut h2
        refine ro rfl (ok_callP (ih_ref17_dynamic_ok (lat b_0.fBlocks i40) bound_1 _ e47) rfl rfl rfl rfl ⟨sr, sr, trivial⟩ Try.call63 rfl ?_)
        obtain ⟨r48, e49, h2⟩ := bd_cut h2
        refine ro rfl (ok_callP (ref17_put_ok _ out39 r46 _ e49) rfl rfl rfl rfl ⟨sr, sr, trivial⟩ Try.call55 rfl ?_)
        refine ro rfl (ok_assign rfl rfl rfl rfl ?_)
        refine rn ?_
        (repeat (first | refine uw ?_ | refine uo rfl ?_))
        have e2 := oi h2
        subst e2
        exact ghost_le (le_mk ⟨er rfl, er rfl, er rfl, er rfl, trivial⟩ ⟨⟨_, rfl, ⟨sr, sr, trivial⟩⟩, trivial⟩)
       ·replace h2 := if_bf c45 h2
        refine awp_reg ?_
        refine ro rfl (ok_move rfl rfl rfl rfl ?_)
        refine ro rfl (ok_fieldAddrP rfl rfl rfl rfl rfl rfl rfl rfl rfl ?_)
        refine ro rfl (ok_loadPA rfl rfl rfl rfl rfl rfl rfl rfl rfl ?_)
        refine ro rfl (ok_move rfl rfl rfl rfl ?_)
        obtain ⟨r50, e51, h2⟩ := bd_cut h2
        refine ro rfl (ok_callP (ih_ref17_body_ok ((lat b_0.fBlocks i40).fBody) bound_1 _ e51) rfl rfl rfl rfl ⟨sr, sr, trivial⟩ Try.call44 rfl ?_)
        obtain ⟨r52, e53, h2⟩ := bd_cut h2
        refine ro rfl (ok_callP (ref17_put_ok _ out39 r50 _ e53) rfl rfl rfl rfl ⟨sr, sr, trivial⟩ Try.call55 rfl ?_)
        refine ro rfl (ok_assign rfl rfl rfl rfl ?_)
        refine rn ?_
        (repeat (first | refine uw ?_ | refine uo rfl ?_))
        have e2 := oi h2
        subst e2
        exact ghost_le (le_mk ⟨er rfl, er rfl, er rfl, er rfl, trivial⟩ ⟨⟨_, rfl, ⟨sr, sr, trivial⟩⟩, trivial⟩)
      ·skip
       refine awp_reg ?_
       refine ro rfl (ok_fieldAddrP rfl rfl rfl rfl rfl rfl rfl rfl rfl ?_)
       refine ro rfl (ok_loadP1 rfl rfl rfl rfl rfl rfl rfl rfl ?_)
       refine ro rfl (ok_cmpS rfl rfl rfl rfl rfl rfl ?_)
       refine ro rfl (ok_move rfl rfl rfl rfl ?_)
       refine gd_D rfl rfl rfl (fun c43 => ?_) (fun c43 => ?_)
       ·replace h3 := if_t c43 h3
        refine gd_tt rfl rfl rfl (dt c43) (ok_fieldAddrP rfl rfl rfl rfl rfl rfl rfl rfl rfl ?_)
        refine gd_tt rfl rfl rfl (dt c43) (ok_loadP1 rfl rfl rfl rfl rfl rfl rfl rfl ?_)
        refine gd_tt rfl rfl rfl (dt c43) (op_lenL (f := eS) (l := (lat b_0.fBlocks i40).fLabels) rfl rfl rfl rfl rfl rfl rfl ?_)
        refine gd_tt rfl rfl rfl (dt c43) (ok_cmp rfl rfl rfl rfl rfl rfl ?_)
        refine ro rfl (ok_pick_true rfl rfl rfl rfl (dt c43) rfl ?_)
        refine rn ?_
        (repeat (first | refine uw ?_ | refine uo rfl ?_))
        have e3 := oi h3
        subst e3
        exact ghost_le (le_mk ⟨er rfl, er rfl, er rfl, er rfl, er rfl, er rfl, trivial⟩ ⟨⟨_, rfl, ⟨sr, sr, trivial⟩⟩, ⟨_, rfl, ⟨sr, sr, sr, sr, sr, trivial⟩⟩, trivial⟩)
       ·replace h3 := if_f c43 h3
        refine gd_tf rfl rfl rfl (df c43) rfl rfl ?_
        refine gd_tf rfl rfl rfl (df c43) rfl rfl ?_
        refine gd_tf rfl rfl rfl (df c43) rfl rfl ?_
        refine gd_tf rfl rfl rfl (df c43) rfl rfl ?_
        refine ro rfl (ok_pick_false rfl rfl rfl rfl (df c43) rfl ?_)
        refine rn ?_
        (repeat (first | refine uw ?_ | refine uo rfl ?_))
        have e3 := oi h3
        subst e3
        exact ghost_le (le_mk ⟨er rfl, er rfl, er rfl, er rfl, er rfl, er rfl, trivial⟩ ⟨⟨_, rfl, ⟨sr, sr, trivial⟩⟩, ⟨_, rfl, ⟨sr, sr, sr, sr, sr, trivial⟩⟩, trivial⟩)
    ·replace h1 := if_f c41 h1
     refine awp_exit ?_
     (repeat (first | refine uw ?_ | refine uo rfl ?_))
     have e1 := oi h1
     subst e1
     exact ghost_le (le_mk ⟨er rfl, trivial⟩ trivial)
  ·skip
   refine awp_loopG (fun q72 => ⟨[(1, .p (eL eS bound_1)), (2, .ptr 2 0), (5, .p (eL eTRef q72.1)), (6, .p (eI q72.2))], [(2, [.p (eL eTAttribute b_0.fAttrs), .p (eL eTBlock b_0.fBlocks)])]⟩) (fun m (q72 : (List TRef) × Int) => ref17_body_l1 n b_0 bound_1 m q72.1 q72.2) (fun _ => rfl) ([], 0) h1 (ghost_le (le_mk ⟨er rfl, er rfl, ⟨_, rfl, sub_nilL _⟩, er rfl, trivial⟩ ⟨⟨_, rfl, ⟨sr, sr, trivial⟩⟩, trivial⟩)) ?_
   rintro m ⟨out10, i11⟩ h1
   replace h1 : ref17_body_l1 n b_0 bound_1 (m + 1) out10 i11 = some o63 := h1
   rw [ref17_body_l1] at h1
   refine awp_seq (awp_seq (awp_reg ?_))
   refine ro rfl (ok_move rfl rfl rfl rfl ?_)
   refine ro rfl (ok_fieldAddrP rfl rfl rfl rfl rfl rfl rfl rfl rfl ?_)
   refine ro rfl (ok_loadP1 rfl rfl rfl rfl rfl rfl rfl rfl ?_)
   refine ro rfl (op_lenL (f := eTAttribute) (l := b_0.fAttrs) rfl rfl rfl rfl rfl rfl rfl ?_)
   refine ro rfl (ok_cmp rfl rfl rfl rfl rfl rfl ?_)
   refine rn ?_
   refine wp_ifD rfl (fun c12 => ?_) (fun c12 => ?_)
   ·replace h1 := if_t c12 h1
    refine awp_skip (awp_seq (awp_block (awp_reg ?_)))
    refine ro rfl (ok_move rfl rfl rfl rfl ?_)
    refine ro rfl (ok_fieldAddrP rfl rfl rfl rfl rfl rfl rfl rfl rfl ?_)
    refine ro rfl (ok_loadP1 rfl rfl rfl rfl rfl rfl rfl rfl ?_)
    refine ro rfl (ok_move rfl rfl rfl rfl ?_)
    obtain ⟨h13, h1⟩ := ck_cut h1
    refine ro rfl (op_at (f := eTAttribute) (l := b_0.fAttrs) TAttribute.cs rfl rfl rfl rfl rfl rfl rfl rfl rfl h13 TAttribute.cells_eq (fun _ => rfl) ?_)
    refine ro rfl (ok_fieldAddrR rfl rfl rfl rfl rfl rfl rfl rfl rfl ?_)
    refine ro rfl (ok_loadRA rfl rfl rfl rfl rfl rfl rfl ?_)
    refine ro rfl (ok_move rfl rfl rfl rfl ?_)
    obtain ⟨r14, e15, h1⟩ := bd_cut h1
    refine ro rfl (ok_callP (ref17_of_ok _ ((lat b_0.fAttrs i11).fExpr) bound_1 _ e15) rfl rfl rfl rfl ⟨sr, sr, trivial⟩ Try.call38 rfl ?_)
    obtain ⟨r16, e17, h1⟩ := bd_cut h1
    refine ro rfl (ok_callP (ref17_put_ok _ out10 r14 _ e17) rfl rfl rfl rfl ⟨sr, sr, trivial⟩ Try.call55 rfl ?_)
    refine ro rfl (ok_assign rfl rfl rfl rfl ?_)
    refine rn ?_
    (repeat (first | refine uw ?_ | refine uo rfl ?_))
    refine awp_reg ?_
    refine ro rfl (ok_move rfl rfl rfl rfl ?_)
    obtain ⟨h18, h1⟩ := ck_cut h1
    refine ro rfl (ok_ar rfl rfl rfl rfl rfl rfl h18 ?_)
    refine ro rfl (ok_assign rfl rfl rfl rfl ?_)
    refine rn ?_
    (repeat (first | refine uw ?_ | refine uo rfl ?_))
    exact ⟨(r16, i11 + 1), h1, ghost_le (le_mk ⟨er rfl, er rfl, er rfl, er rfl, trivial⟩ ⟨⟨_, rfl, ⟨sr, sr, trivial⟩⟩, trivial⟩)⟩
   ·replace h1 := if_f c12 h1
    refine awp_exit ?_
    (repeat (first | refine uw ?_ | refine uo rfl ?_))
    have e1 := oi h1
    subst e1
    exact ghost_le (le_mk ⟨er rfl, er rfl, er rfl, trivial⟩ ⟨⟨_, rfl, ⟨sr, sr, trivial⟩⟩, trivial⟩)
 ·skip
  intro b_0 bound_1 r h0
  rw [ref17_dynamic] at h0
  refine pbodyA good Try.func63 rfl rfl rfl fun w0 => ?_
  refine awp_seq (awp_reg ?_)
  refine ro rfl (ok_box rfl rfl rfl rfl rfl ?_)
  refine ro rfl (ok_assign rfl rfl rfl rfl ?_)
  refine rn ?_
  refine awp_seq (awp_reg ?_)
  refine ro rfl (ok_assign rfl rfl rfl rfl ?_)
  refine rn ?_
  refine awp_seq (awp_seq (awp_reg ?_))
  refine ro rfl (ok_assign rfl rfl rfl rfl ?_)
  refine rn ?_
  refine awp_block ?_
  obtain ⟨o62, h1, h0⟩ := bd_cut h0
  refine awp_joinE 0 ⟨[(1, .p (eL eS bound_1)), (2, .ptr 2 0), (5, .p (eL eTRef o62))], [(2, [.p (eS b_0.fType), .p (eL eS b_0.fLabels), .p (eL eTAttribute b_0.fBody.fAttrs), .p (eL eTBlock b_0.fBody.fBlocks), .p (eI b_0.fAt)])]⟩ ?_ ?_
  ·intro s' hle
   (repeat (first | refine uw ?_ | refine uo rfl ?_))
   refine awp_ghost hle ?_
   (repeat (first | refine uw ?_ | refine uo rfl ?_))
   refine awp_seq (awp_reg ?_)
   refine ro rfl (ok_assign rfl rfl rfl rfl ?_)
   refine rn ?_
   refine awp_seq (awp_reg ?_)
   refine ro rfl (ok_move rfl rfl rfl rfl ?_)
   refine ro rfl (ok_move rfl rfl rfl rfl ?_)
   obtain ⟨h22, h0⟩ := ck_cut h0
   refine ro rfl (op_appN eS bound_1 rfl rfl rfl rfl rfl rfl rfl rfl rfl rfl rfl (fun _ => rfl) rfl rfl rfl h22 ?_)
   refine ro rfl (ok_assign rfl rfl rfl rfl ?_)
   refine rn ?_
   refine awp_seq (awp_reg ?_)
   refine ro rfl (ok_move rfl rfl rfl rfl ?_)
   refine ro rfl (ok_loadPA rfl rfl rfl rfl rfl rfl rfl rfl rfl ?_)
   obtain ⟨r23, e24, h0⟩ := bd_cut h0
   refine ro rfl (ok_callP (ref17_iterator_ok _ b_0 _ e24) rfl rfl rfl rfl ⟨sr, trivial⟩ Try.call73 rfl ?_)
   refine ro rfl (op_bslice eS [r23] rfl rfl rfl rfl rfl rfl rfl rfl rfl rfl rfl rfl rfl rfl ?_)
   obtain ⟨h25, h0⟩ := ck_cut h0
   refine ro rfl (op_appV eS bound_1 [r23] rfl rfl rfl rfl rfl rfl rfl rfl rfl rfl rfl rfl rfl (fun _ => rfl) rfl rfl rfl h25 ?_)
   refine ro rfl (ok_assign rfl rfl rfl rfl ?_)
   refine rn ?_
   refine awp_seq (awp_seq (awp_reg ?_))
   refine ro rfl (ok_assign rfl rfl rfl rfl ?_)
   refine rn ?_
   refine awp_block ?_
   obtain ⟨o64, h1, h0⟩ := bd_cut h0
   refine awp_joinE 2 ⟨[(5, .p (eL eTRef o64))], []⟩ ?_ ?_
   ·intro s' hle
    (repeat (first | refine uw ?_ | refine uo rfl ?_))
    refine awp_ghost hle ?_
    (repeat (first | refine uw ?_ | refine uo rfl ?_))
    refine awp_seq (awp_reg ?_)
    refine ro rfl (ok_move rfl rfl rfl rfl ?_)
    refine ro rfl (ok_assign rfl rfl rfl rfl ?_)
    refine rn ?_
    refine awp_ret ?_
    (repeat (first | refine uw ?_ | refine uo rfl ?_))
    have e0 := oi h0
    subst e0
    refine reta_mk rfl ?_
    exact sr
   ·skip
    refine awp_loopG (fun q66 => ⟨[(1, .p (eL eS bound_1)), (2, .ptr 2 0), (5, .p (eL eTRef q66.1)), (7, .vec 36 1 ((bound_1 ++ [r23]).map eS)), (8, .p (eI q66.2))], [(2, [.p (eS b_0.fType), .p (eL eS b_0.fLabels), .p (eL eTAttribute b_0.fBody.fAttrs), .p (eL eTBlock b_0.fBody.fBlocks), .p (eI b_0.fAt)])]⟩) (fun m (q66 : (List TRef) × Int) => ref17_dynamic_l2 n (ref17_body n) b_0 bound_1 r23 m q66.1 q66.2) (fun _ => rfl) (o62, 0) h1 (ghost_le (le_mk ⟨er rfl, er rfl, er rfl, er rfl, er rfl, trivial⟩ ⟨⟨_, rfl, ⟨sr, sr, sr, sr, sr, trivial⟩⟩, trivial⟩)) ?_
    rintro m ⟨out41, i42⟩ h1
    replace h1 : ref17_dynamic_l2 n (ref17_body n) b_0 bound_1 r23 (m + 1) out41 i42 = some o64 := h1
    rw [ref17_dynamic_l2] at h1
    refine awp_seq (awp_seq (awp_reg ?_))
    refine ro rfl (ok_move rfl rfl rfl rfl ?_)
    refine ro rfl (ok_fieldAddrP rfl rfl rfl rfl rfl rfl rfl rfl rfl ?_)
    refine ro rfl (ok_fieldAddrP rfl rfl rfl rfl rfl rfl rfl rfl rfl ?_)
    refine ro rfl (ok_loadP1 rfl rfl rfl rfl rfl rfl rfl rfl ?_)
    refine ro rfl (op_lenL (f := eTBlock) (l := b_0.fBody.fBlocks) rfl rfl rfl rfl rfl rfl rfl ?_)
    refine ro rfl (ok_cmp rfl rfl rfl rfl rfl rfl ?_)
    refine rn ?_
    refine wp_ifD rfl (fun c43 => ?_) (fun c43 => ?_)
    ·replace h1 := if_t c43 h1
     refine awp_skip (awp_seq ?_)
     obtain ⟨o67, h2, h1⟩ := bd_cut h1
     refine awp_joinN ⟨[(1, .p (eL eS bound_1)), (2, .ptr 2 0), (5, .p (eL eTRef o67)), (7, .vec 36 1 ((bound_1 ++ [r23]).map eS)), (8, .p (eI i42))], [(2, [.p (eS b_0.fType), .p (eL eS b_0.fLabels), .p (eL eTAttribute b_0.fBody.fAttrs), .p (eL eTBlock b_0.fBody.fBlocks), .p (eI b_0.fAt)])]⟩ ?_ ?_
     ·intro s' hle
      (repeat (first | refine uw ?_ | refine uo rfl ?_))
      refine awp_ghost hle ?_
      refine awp_reg ?_
      refine ro rfl (ok_move rfl rfl rfl rfl ?_)
      obtain ⟨h55, h1⟩ := ck_cut h1
      refine ro rfl (ok_ar rfl rfl rfl rfl rfl rfl h55 ?_)
      refine ro rfl (ok_assign rfl rfl rfl rfl ?_)
      refine rn ?_
      (repeat (first | refine uw ?_ | refine uo rfl ?_))
      exact ⟨(o67, i42 + 1), h1, ghost_le (le_mk ⟨er rfl, er rfl, er rfl, er rfl, er rfl, trivial⟩ ⟨⟨_, rfl, ⟨sr, sr, sr, sr, sr, trivial⟩⟩, trivial⟩)⟩
     ·refine awp_block ?_
      refine awp_seq (awp_reg ?_)
      refine ro rfl (ok_fieldAddrP rfl rfl rfl rfl rfl rfl rfl rfl rfl ?_)
      refine ro rfl (ok_fieldAddrP rfl rfl rfl rfl rfl rfl rfl rfl rfl ?_)
      refine ro rfl (ok_loadP1 rfl rfl rfl rfl rfl rfl rfl rfl ?_)
      refine ro rfl (ok_move rfl rfl rfl rfl ?_)
      obtain ⟨h44, h2⟩ := ck_cut h2
      refine ro rfl (op_at (f := eTBlock) (l := b_0.fBody.fBlocks) TBlock.cs rfl rfl rfl rfl rfl rfl rfl rfl rfl h44 TBlock.cells_eq (fun _ => rfl) ?_)
      refine ro rfl (ok_loadRA rfl rfl rfl rfl rfl rfl rfl ?_)
      refine ro rfl (ok_alloc rfl rfl rfl rfl rfl ?_)
      refine ro rfl (ok_store rfl rfl rfl rfl rfl rfl rfl rfl (Nat.le_of_ble_eq_true rfl) ?_)
      refine rn ?_
      refine awp_seq (awp_reg ?_)
      refine ro rfl (ok_fieldAddrP rfl rfl rfl rfl rfl rfl rfl rfl rfl ?_)
      refine ro rfl (ok_loadP1 rfl rfl rfl rfl rfl rfl rfl rfl ?_)
      refine ro rfl (ok_cmpS rfl rfl rfl rfl rfl rfl ?_)
      refine rn ?_
      refine wp_ifD rfl (fun c45 => ?_) (fun c45 => ?_)
      ·replace h2 := if_t c45 h2
       refine awp_reg ?_
       refine ro rfl (ok_move rfl rfl rfl rfl ?_)
       refine ro rfl (ok_fieldAddrP rfl rfl rfl rfl rfl rfl rfl rfl rfl ?_)
       refine ro rfl (ok_loadPA rfl rfl rfl rfl rfl rfl rfl rfl rfl ?_)
       refine ro rfl (ok_move rfl rfl rfl rfl ?_)
       obtain ⟨r46, e47, h2⟩ := bd_cut h2
       refine ro rfl (ok_callP (ih_ref17_body_ok ((lat b_0.fBody.fBlocks i42).fBody) (bound_1 ++ [r23]) _ e47) rfl rfl rfl rfl ⟨sr, AV.sub_vec _ _ _, trivial⟩ Try.call44 rfl ?_)
       obtain ⟨r48, e49, h2⟩ := bd_cut h2
       refine ro rfl (ok_callP (ref17_put_ok _ out41 r46 _ e49) rfl rfl rfl rfl ⟨sr, sr, trivial⟩ Try.call55 rfl ?_)
       refine ro rfl (ok_assign rfl rfl rfl rfl ?_)
       refine rn ?_
       (repeat (first | refine uw ?_ | refine uo rfl ?_))
       have e2 := oi h2
       subst e2
       exact ghost_le (le_mk ⟨er rfl, er rfl, er rfl, er rfl, er rfl, trivial⟩ ⟨⟨_, rfl, ⟨sr, sr, sr, sr, sr, trivial⟩⟩, trivial⟩)
      ·replace h2 := if_f c45 h2
       refine awp_reg ?_
       refine ro rfl (ok_move rfl rfl rfl rfl ?_)
       refine ro rfl (ok_loadPA rfl rfl rfl rfl rfl rfl rfl rfl rfl ?_)
       refine ro rfl (op_bslice eTBlock [(lat b_0.fBody.fBlocks i42)] rfl rfl rfl rfl rfl rfl rfl rfl rfl rfl rfl rfl rfl (by first | rfl | (simp only [List.map_cons, List.map_nil, TBlock.agg_eq]; done) | (simp only [List.map_cons, List.map_nil, TBlock.agg_eq]; rfl)) ?_)
       refine ro rfl (ok_build rfl rfl rfl rfl rfl rfl rfl rfl rfl ?_)
       refine ro rfl (ok_move rfl rfl rfl rfl ?_)
       obtain ⟨r50, e51, h2⟩ := bd_cut h2
       refine ro rfl (ok_callP (ih_ref17_body_ok (TBody.mk [] [(lat b_0.fBody.fBlocks i42)]) bound_1 _ e51) rfl rfl rfl rfl ⟨sub_cells ⟨.inr ⟨rfl, rfl⟩, .inl rfl, trivial⟩, sr, trivial⟩ Try.call44 rfl ?_)
       obtain ⟨r52, e53, h2⟩ := bd_cut h2
       refine ro rfl (ok_callP (ref17_put_ok _ out41 r50 _ e53) rfl rfl rfl rfl ⟨sr, sr, trivial⟩ Try.call55 rfl ?_)
       refine ro rfl (ok_assign rfl rfl rfl rfl ?_)
       refine rn ?_
       (repeat (first | refine uw ?_ | refine uo rfl ?_))
       have e2 := oi h2
       subst e2
       exact ghost_le (le_mk ⟨er rfl, er rfl, er rfl, er rfl, er rfl, trivial⟩ ⟨⟨_, rfl, ⟨sr, sr, sr, sr, sr, trivial⟩⟩, trivial⟩)
    ·replace h1 := if_f c43 h1
     refine awp_exit ?_
     (repeat (first | refine uw ?_ | refine uo rfl ?_))
     have e1 := oi h1
     subst e1
     exact ghost_le (le_mk ⟨er rfl, trivial⟩ trivial)
  ·skip
   refine awp_loopG (fun q69 => ⟨[(1, .p (eL eS bound_1)), (2, .ptr 2 0), (5, .p (eL eTRef q69.1)), (6, .p (eI q69.2))], [(2, [.p (eS b_0.fType), .p (eL eS b_0.fLabels), .p (eL eTAttribute b_0.fBody.fAttrs), .p (eL eTBlock b_0.fBody.fBlocks), .p (eI b_0.fAt)])]⟩) (fun m (q69 : (List TRef) × Int) => ref17_dynamic_l1 n b_0 bound_1 m q69.1 q69.2) (fun _ => rfl) ([], 0) h1 (ghost_le (le_mk ⟨er rfl, er rfl, ⟨_, rfl, sub_nilL _⟩, er rfl, trivial⟩ ⟨⟨_, rfl, ⟨sr, sr, sr, sr, sr, trivial⟩⟩, trivial⟩)) ?_
   rintro m ⟨out10, i11⟩ h1
   replace h1 : ref17_dynamic_l1 n b_0 bound_1 (m + 1) out10 i11 = some o62 := h1
   rw [ref17_dynamic_l1] at h1
   refine awp_seq (awp_seq (awp_reg ?_))
   refine ro rfl (ok_move rfl rfl rfl rfl ?_)
   refine ro rfl (ok_fieldAddrP rfl rfl rfl rfl rfl rfl rfl rfl rfl ?_)
   refine ro rfl (ok_fieldAddrP rfl rfl rfl rfl rfl rfl rfl rfl rfl ?_)
   refine ro rfl (ok_loadP1 rfl rfl rfl rfl rfl rfl rfl rfl ?_)
   refine ro rfl (op_lenL (f := eTAttribute) (l := b_0.fBody.fAttrs) rfl rfl rfl rfl rfl rfl rfl ?_)
   refine ro rfl (ok_cmp rfl rfl rfl rfl rfl rfl ?_)
   refine rn ?_
   refine wp_ifD rfl (fun c12 => ?_) (fun c12 => ?_)
   ·replace h1 := if_t c12 h1
    refine awp_skip (awp_seq (awp_block (awp_reg ?_)))
    refine ro rfl (ok_move rfl rfl rfl rfl ?_)
    refine ro rfl (ok_fieldAddrP rfl rfl rfl rfl rfl rfl rfl rfl rfl ?_)
    refine ro rfl (ok_fieldAddrP rfl rfl rfl rfl rfl rfl rfl rfl rfl ?_)
    refine ro rfl (ok_loadP1 rfl rfl rfl rfl rfl rfl rfl rfl ?_)
    refine ro rfl (ok_move rfl rfl rfl rfl ?_)
    obtain ⟨h13, h1⟩ := ck_cut h1
    refine ro rfl (op_at (f := eTAttribute) (l := b_0.fBody.fAttrs) TAttribute.cs rfl rfl rfl rfl rfl rfl rfl rfl rfl h13 TAttribute.cells_eq (fun _ => rfl) ?_)
    refine ro rfl (ok_fieldAddrR rfl rfl rfl rfl rfl rfl rfl rfl rfl ?_)
    refine ro rfl (ok_loadRA rfl rfl rfl rfl rfl rfl rfl ?_)
    refine ro rfl (ok_move rfl rfl rfl rfl ?_)
    obtain ⟨r14, e15, h1⟩ := bd_cut h1
    refine ro rfl (ok_callP (ref17_of_ok _ ((lat b_0.fBody.fAttrs i11).fExpr) bound_1 _ e15) rfl rfl rfl rfl ⟨sr, sr, trivial⟩ Try.call38 rfl ?_)
    obtain ⟨r16, e17, h1⟩ := bd_cut h1
    refine ro rfl (ok_callP (ref17_put_ok _ out10 r14 _ e17) rfl rfl rfl rfl ⟨sr, sr, trivial⟩ Try.call55 rfl ?_)
    refine ro rfl (ok_assign rfl rfl rfl rfl ?_)
    refine rn ?_
    (repeat (first | refine uw ?_ | refine uo rfl ?_))
    refine awp_reg ?_
    refine ro rfl (ok_move rfl rfl rfl rfl ?_)
    obtain ⟨h18, h1⟩ := ck_cut h1
    refine ro rfl (ok_ar rfl rfl rfl rfl rfl rfl h18 ?_)
    refine ro rfl (ok_assign rfl rfl rfl rfl ?_)
    refine rn ?_
    (repeat (first | refine uw ?_ | refine uo rfl ?_))
    exact ⟨(r16, i11 + 1), h1, ghost_le (le_mk ⟨er rfl, er rfl, er rfl, er rfl, trivial⟩ ⟨⟨_, rfl, ⟨sr, sr, sr, sr, sr, trivial⟩⟩, trivial⟩)⟩
   ·replace h1 := if_f c12 h1
    refine awp_exit ?_
    (repeat (first | refine uw ?_ | refine uo rfl ?_))
    have e1 := oi h1
    subst e1
    exact ghost_le (le_mk ⟨er rfl, er rfl, er rfl, trivial⟩ ⟨⟨_, rfl, ⟨sr, sr, sr, sr, sr, trivial⟩⟩, trivial⟩)

theorem ref17_body_ok (n : Nat) : ∀ (b_0 : TBody) (bound_1 : List Bytes) (r : (List TRef)), ref17_body n b_0 bound_1 = some r → PCalls Try.prog 44 [.agg (TBody.cs b_0), eL eS bound_1] (· = .p (eL eTRef r)) := (ref17_body_all n).1

theorem ref17_dynamic_ok (n : Nat) : ∀ (b_0 : TBlock) (bound_1 : List Bytes) (r : (List TRef)), ref17_dynamic n b_0 bound_1 = some r → PCalls Try.prog 63 [.agg (TBlock.cs b_0), eL eS bound_1] (· = .p (eL eTRef r)) := (ref17_body_all n).2

def ref17_OfBody (n : Nat) (b_0 : TBody) : Option (List TRef) :=
 (ref17_body n b_0 []).bind fun r1 =>
 some r1

set_option maxHeartbeats 4000000 in
theorem ref17_OfBody_ok (n : Nat) (b_0 : TBody) (r : (List TRef)) (h0 : ref17_OfBody n b_0 = some r) : PCalls Try.prog 28 [.agg (TBody.cs b_0)] (· = .p (eL eTRef r)) := by
 unfold ref17_OfBody at h0
 refine pbodyA good Try.func28 rfl rfl rfl fun w0 => ?_
 refine awp_seq (awp_reg ?_)
 refine ro rfl (ok_box rfl rfl rfl rfl rfl ?_)
 refine ro rfl (ok_assign rfl rfl rfl rfl ?_)
 refine rn ?_
 refine awp_seq (awp_reg ?_)
 refine ro rfl (ok_loadPA rfl rfl rfl rfl rfl rfl rfl rfl rfl ?_)
 obtain ⟨r1, e2, h0⟩ := bd_cut h0
 refine ro rfl (ok_callP (ref17_body_ok _ b_0 [] _ e2) rfl rfl rfl rfl ⟨sr, sub_nilL _, trivial⟩ Try.call44 rfl ?_)
 refine ro rfl (ok_assign rfl rfl rfl rfl ?_)
 refine rn ?_
 refine awp_ret ?_
 (repeat (first | refine uw ?_ | refine uo rfl ?_))
 have e0 := oi h0
 subst e0
 refine reta_mk rfl ?_
 exact sr

def law17_ReferenceBodies (n : Nat) (b_0 : TBody) : Option Bool :=
 (
   (ref16_Small n b_0 200).bind fun r1 =>
   if (!r1) = true then
    some true
   else
    (ref15_Check n b_0).bind fun r4 =>
    some (!decide (r4 = 0))
  : Option Bool).bind fun t6 =>
 if t6 = true then
  (law17_awake n).bind fun r8 =>
  some r8
 else
  (
    (reference_OfBody n b_0).bind fun r10 =>
    (ref17_OfBody n b_0).bind fun r12 =>
    (law17_refs n r10 r12).bind fun r14 =>
    if r14 = true then
     (law17_awake n).bind fun r17 =>
     some r17
    else
     some false
   : Option Bool).bind fun t19 =>
  some t19

set_option maxHeartbeats 4000000 in
theorem law17_ReferenceBodies_ok (n : Nat) (b_0 : TBody) (r : Bool) (h0 : law17_ReferenceBodies n b_0 = some r) : PCalls Try.prog 7 [.agg (TBody.cs b_0)] (· = .p (eB r)) := by
 unfold law17_ReferenceBodies at h0
 refine pbodyA good Try.func7 rfl rfl rfl fun w0 => ?_
 refine awp_seq (awp_reg ?_)
 refine ro rfl (ok_box rfl rfl rfl rfl rfl ?_)
 refine ro rfl (ok_assign rfl rfl rfl rfl ?_)
 refine rn ?_
 refine awp_seq (awp_seq ?_)
 obtain ⟨o22, h1, h0⟩ := bd_cut h0
 refine awp_joinN ⟨[(1, .ptr 1 0), (10, .p (eB o22))], [(1, [.p (eL eTAttribute b_0.fAttrs), .p (eL eTBlock b_0.fBlocks)])]⟩ ?_ ?_
 ·intro s' hle
  (repeat (first | refine uw ?_ | refine uo rfl ?_))
  refine awp_ghost hle ?_
  refine wp_if rfl (fun c7 => ?_) (fun c7 => ?_)
  ·replace h0 := if_t c7 h0
   refine awp_seq (awp_reg ?_)
   obtain ⟨r8, e9, h0⟩ := bd_cut h0
   refine ro rfl (ok_callP (law17_awake_ok _  _ e9) rfl rfl rfl rfl trivial Try.call9 rfl ?_)
   refine ro rfl (ok_assign rfl rfl rfl rfl ?_)
   refine rn ?_
   refine awp_ret ?_
   (repeat (first | refine uw ?_ | refine uo rfl ?_))
   have e0 := oi h0
   subst e0
   refine reta_mk rfl ?_
   exact sr
  ·replace h0 := if_bf c7 h0
   refine awp_skip (awp_seq ?_)
   obtain ⟨o24, h1, h0⟩ := bd_cut h0
   refine awp_joinN ⟨[(2, .p (eB o24))], []⟩ ?_ ?_
   ·intro s' hle
    (repeat (first | refine uw ?_ | refine uo rfl ?_))
    refine awp_ghost hle ?_
    refine awp_ret ?_
    (repeat (first | refine uw ?_ | refine uo rfl ?_))
    have e0 := oi h0
    subst e0
    refine reta_mk rfl ?_
    exact sr
   ·skip
    obtain ⟨r10, e11, h1⟩ := bd_cut h1
    obtain ⟨r12, e13, h1⟩ := bd_cut h1
    obtain ⟨r14, e15, h1⟩ := bd_cut h1
    refine awp_byB (b := r14) (fun c16 => ?_) (fun c16 => ?_)
    ·replace h1 := if_t c16 h1
     obtain ⟨r17, e18, h1⟩ := bd_cut h1
     refine awp_drawQ [(1, .ptr 1 0)] rfl ⟨rfl, trivial⟩ rfl ?_
     refine dq_cons (.p (.agg (TBody.cs b_0))) [(1, _)] ⟨.inl rfl, trivial⟩ (fun sl hsl K hK => one_op rfl (ok_loadPA rfl rfl rfl rfl rfl (hsl _ _ rfl) rfl rfl rfl hK)) rfl rfl rfl ?_
     refine dq_cons (.p (eL eTRef r10)) [(12, _)] ⟨.inr ⟨0, rfl, rfl⟩, trivial⟩ (fun sl hsl K hK => one_op rfl (ok_callP (reference_OfBody_ok _ b_0 _ e11) rfl rfl rfl (args_cons (hsl _ _ rfl) args_nil) ⟨sr, trivial⟩ Try.call27 rfl hK)) rfl rfl rfl ?_
     refine dq_cons (.p (.agg (TBody.cs b_0))) [(1, _)] ⟨.inl rfl, trivial⟩ (fun sl hsl K hK => one_op rfl (ok_loadPA rfl rfl rfl rfl rfl (hsl _ _ rfl) rfl rfl rfl hK)) rfl rfl rfl ?_
     refine dq_cons (.p (eL eTRef r12)) [(14, _)] ⟨.inr ⟨2, rfl, rfl⟩, trivial⟩ (fun sl hsl K hK => one_op rfl (ok_callP (ref17_OfBody_ok _ b_0 _ e13) rfl rfl rfl (args_cons (hsl _ _ rfl) args_nil) ⟨sr, trivial⟩ Try.call28 rfl hK)) rfl rfl rfl ?_
     refine dq_cons (.p (eB r14)) [(13, _), (15, _)] ⟨.inr ⟨1, rfl, rfl⟩, .inr ⟨3, rfl, rfl⟩, trivial⟩ (fun sl hsl K hK => one_op rfl (ok_callP (law17_refs_ok _ r10 r12 _ e15) rfl rfl rfl (args_cons (hsl _ _ rfl) (args_cons (hsl _ _ rfl) args_nil)) ⟨sr, sr, trivial⟩ Try.call12 rfl hK)) rfl rfl rfl ?_
     refine dq_cons (.p (eB r14)) [(16, _)] ⟨.inr ⟨4, rfl, rfl⟩, trivial⟩ (fun sl hsl K hK => one_op rfl (ok_move rfl rfl rfl (hsl _ _ rfl) hK)) rfl rfl rfl ?_
     refine dq_cons (.p (eB r17)) [(17, _)] ⟨.inr ⟨5, rfl, rfl⟩, trivial⟩ (fun sl hsl K hK => one_yes (ok_callP (law17_awake_ok _  _ e18) rfl rfl rfl args_nil trivial Try.call9 rfl hK) rfl rfl (hsl _ _ rfl) (c16)) rfl rfl rfl ?_
     refine dq_cons (.p (eB r17)) [(17, _), (18, _)] ⟨.inr ⟨5, rfl, rfl⟩, .inr ⟨6, rfl, rfl⟩, trivial⟩ (fun sl hsl K hK => one_op rfl (ok_pick_true rfl rfl rfl (hsl _ _ rfl) (c16) (hsl _ _ rfl) hK)) rfl rfl rfl ?_
     refine dq_cons (.p (eB r17)) [(19, _)] ⟨.inr ⟨7, rfl, rfl⟩, trivial⟩ (fun sl hsl K hK => one_op rfl (ok_assign rfl rfl rfl (hsl _ _ rfl) hK)) rfl rfl rfl ?_
     refine dq_nil ?_
     (repeat (first | refine uw ?_ | refine uo rfl ?_))
     have e1 := oi h1
     subst e1
     exact ghost_le (le_mk ⟨er rfl, trivial⟩ trivial)
    ·replace h1 := if_bf c16 h1
     refine awp_drawQ [(1, .ptr 1 0)] rfl ⟨rfl, trivial⟩ rfl ?_
     refine dq_cons (.p (.agg (TBody.cs b_0))) [(1, _)] ⟨.inl rfl, trivial⟩ (fun sl hsl K hK => one_op rfl (ok_loadPA rfl rfl rfl rfl rfl (hsl _ _ rfl) rfl rfl rfl hK)) rfl rfl rfl ?_
     refine dq_cons (.p (eL eTRef r10)) [(12, _)] ⟨.inr ⟨0, rfl, rfl⟩, trivial⟩ (fun sl hsl K hK => one_op rfl (ok_callP (reference_OfBody_ok _ b_0 _ e11) rfl rfl rfl (args_cons (hsl _ _ rfl) args_nil) ⟨sr, trivial⟩ Try.call27 rfl hK)) rfl rfl rfl ?_
     refine dq_cons (.p (.agg (TBody.cs b_0))) [(1, _)] ⟨.inl rfl, trivial⟩ (fun sl hsl K hK => one_op rfl (ok_loadPA rfl rfl rfl rfl rfl (hsl _ _ rfl) rfl rfl rfl hK)) rfl rfl rfl ?_
     refine dq_cons (.p (eL eTRef r12)) [(14, _)] ⟨.inr ⟨2, rfl, rfl⟩, trivial⟩ (fun sl hsl K hK => one_op rfl (ok_callP (ref17_OfBody_ok _ b_0 _ e13) rfl rfl rfl (args_cons (hsl _ _ rfl) args_nil) ⟨sr, trivial⟩ Try.call28 rfl hK)) rfl rfl rfl ?_
     refine dq_cons (.p (eB r14)) [(13, _), (15, _)] ⟨.inr ⟨1, rfl, rfl⟩, .inr ⟨3, rfl, rfl⟩, trivial⟩ (fun sl hsl K hK => one_op rfl (ok_callP (law17_refs_ok _ r10 r12 _ e15) rfl rfl rfl (args_cons (hsl _ _ rfl) (args_cons (hsl _ _ rfl) args_nil)) ⟨sr, sr, trivial⟩ Try.call12 rfl hK)) rfl rfl rfl ?_
     refine dq_cons (.p (eB r14)) [(16, _)] ⟨.inr ⟨4, rfl, rfl⟩, trivial⟩ (fun sl hsl K hK => one_op rfl (ok_move rfl rfl rfl (hsl _ _ rfl) hK)) rfl rfl rfl ?_
     refine dq_cons (.p (.val Go.undef)) [(17, _)] ⟨.inr ⟨5, rfl, rfl⟩, trivial⟩ (fun sl hsl K hK => one_no rfl rfl (hsl _ _ rfl) (c16) rfl rfl hK) rfl rfl rfl ?_
     refine dq_cons (.p (eB false)) [(17, _), (18, _)] ⟨.inr ⟨5, rfl, rfl⟩, .inr ⟨6, rfl, rfl⟩, trivial⟩ (fun sl hsl K hK => one_op rfl (ok_pick_false rfl rfl rfl (hsl _ _ rfl) (c16) rfl hK)) rfl rfl rfl ?_
     refine dq_cons (.p (eB false)) [(19, _)] ⟨.inr ⟨7, rfl, rfl⟩, trivial⟩ (fun sl hsl K hK => one_op rfl (ok_assign rfl rfl rfl (hsl _ _ rfl) hK)) rfl rfl rfl ?_
     refine dq_nil ?_
     (repeat (first | refine uw ?_ | refine uo rfl ?_))
     have e1 := oi h1
     subst e1
     exact ghost_le (le_mk ⟨er rfl, trivial⟩ trivial)
 ·skip
  refine awp_reg ?_
  refine ro rfl (ok_loadPA rfl rfl rfl rfl rfl rfl rfl rfl rfl ?_)
  obtain ⟨r1, e2, h1⟩ := bd_cut h1
  refine ro rfl (ok_callP (ref16_Small_ok _ b_0 200 _ e2) rfl rfl rfl rfl ⟨sr, sr, trivial⟩ Try.call25 rfl ?_)
  refine ro rfl (ok_not rfl rfl rfl rfl ?_)
  refine ro rfl (ok_move rfl rfl rfl rfl ?_)
  refine gd_B rfl rfl rfl (fun c3 => ?_) (fun c3 => ?_)
  ·replace h1 := if_t c3 h1
   refine gd_ft rfl rfl rfl (c3) rfl rfl ?_
   refine gd_ft rfl rfl rfl (c3) rfl rfl ?_
   refine gd_ft rfl rfl rfl (c3) rfl rfl ?_
   refine ro rfl (ok_pick_true rfl rfl rfl rfl (c3) rfl ?_)
   refine rn ?_
   (repeat (first | refine uw ?_ | refine uo rfl ?_))
   have e1 := oi h1
   subst e1
   exact ghost_le (le_mk ⟨er rfl, er rfl, trivial⟩ ⟨⟨_, rfl, ⟨sr, sr, trivial⟩⟩, trivial⟩)
  ·replace h1 := if_bf c3 h1
   refine gd_ff rfl rfl rfl (c3) (ok_loadPA rfl rfl rfl rfl rfl rfl rfl rfl rfl ?_)
   obtain ⟨r4, e5, h1⟩ := bd_cut h1
   refine gd_ff rfl rfl rfl (c3) (ok_callP (ref15_Check_ok _ b_0 _ e5) rfl rfl rfl rfl ⟨sr, trivial⟩ Try.call26 rfl ?_)
   refine gd_ff rfl rfl rfl (c3) (ok_cmp rfl rfl rfl rfl rfl rfl ?_)
   refine ro rfl (ok_pick_false rfl rfl rfl rfl (c3) rfl ?_)
   refine rn ?_
   (repeat (first | refine uw ?_ | refine uo rfl ?_))
   have e1 := oi h1
   subst e1
   exact ghost_le (le_mk ⟨er rfl, er rfl, trivial⟩ ⟨⟨_, rfl, ⟨sr, sr, trivial⟩⟩, trivial⟩)

end Go.Ab.R17
