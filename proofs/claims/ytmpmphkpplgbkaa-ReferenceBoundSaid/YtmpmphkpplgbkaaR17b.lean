/- Chapter 17. -/
import Derived.Test.YtmpmphkpplgbkaaR17l
set_option linter.unusedVariables false
set_option linter.unusedSimpArgs false
set_option linter.unnecessarySimpa false
namespace Go.Ab.R17
open Go.Proofs Go.Ab
attribute [local irreducible] awp rwpL OpOk PCalls OCalls AV.sub

def law17_occurs_l1 (r_law17_occurs : TExpr → Bytes → Option Bool) (e_0 : TExpr) (s_1 : Bytes) : Nat → Int → Option (Unit ⊕ Bool)
 | 0, _ => none
 | m + 1, i11 =>
 if i11 < (e_0.fKids.length : Int) then
  ck ((0 : Int) ≤ i11 ∧ i11 < (e_0.fKids.length : Int)) <|
  (r_law17_occurs (lat e_0.fKids i11) s_1).bind fun r14 =>
  if r14 = true then
   some (.inr true)
  else
   ck (inR (i11 + 1)) <|
   law17_occurs_l1 r_law17_occurs e_0 s_1 m (i11 + 1)
 else
  some (.inl ())

def law17_occurs : Nat → TExpr → Bytes → Option Bool
 | 0, _, _ => none
 | n + 1, e_0, s_1 =>
 (
   if e_0.fName = s_1 then
    some true
   else
    some (decide (e_0.fKey = s_1))
  : Option Bool).bind fun t2 =>
 if t2 = true then
  some true
 else
  jn (law17_occurs_l1 (law17_occurs n) e_0 s_1 n 0) fun q20 =>
  some false

set_option maxHeartbeats 4000000 in
theorem law17_occurs_ok (n : Nat) : ∀ (e_0 : TExpr) (s_1 : Bytes) (r : Bool), law17_occurs n e_0 s_1 = some r → PCalls Try.prog 19 [.agg (TExpr.cs e_0), eS s_1] (· = .p (eB r)) := by
 induction n with
 | zero => intro e_0 s_1 r h0; cases h0
 | succ n ih =>
 have ih_law17_occurs_ok := ih
 intro e_0 s_1 r h0
 rw [law17_occurs] at h0
 refine pbodyA good Try.func19 rfl rfl rfl fun w0 => ?_
 refine awp_seq (awp_reg ?_)
 refine ro rfl (ok_box rfl rfl rfl rfl rfl ?_)
 refine ro rfl (ok_assign rfl rfl rfl rfl ?_)
 refine rn ?_
 refine awp_seq (awp_seq ?_)
 obtain ⟨o21, h1, h0⟩ := bd_cut h0
 refine awp_joinN ⟨[(1, .p (eS s_1)), (2, .ptr 2 0), (15, .p (eB o21))], [(2, [.p (eI e_0.fKind), .p (eI e_0.fOp), .p (eS e_0.fName), .p (eS e_0.fKey), .p (eI e_0.fValue.fKind), .p (eI e_0.fValue.fNum), .p (eS e_0.fValue.fStr), .p (eL eTValue e_0.fValue.fItems), .p (eL eS e_0.fValue.fKeys), .p (eL eTExpr e_0.fKids), .p (eI e_0.fAt)])]⟩ ?_ ?_
 ·intro s' hle
  (repeat (first | refine uw ?_ | refine uo rfl ?_))
  refine awp_ghost hle ?_
  refine wp_if rfl (fun c3 => ?_) (fun c3 => ?_)
  ·replace h0 := if_t c3 h0
   refine awp_seq (awp_reg ?_)
   refine ro rfl (ok_assign rfl rfl rfl rfl ?_)
   refine rn ?_
   refine awp_ret ?_
   (repeat (first | refine uw ?_ | refine uo rfl ?_))
   have e0 := oi h0
   subst e0
   refine reta_mk rfl ?_
   exact sr
  ·replace h0 := if_bf c3 h0
   refine awp_skip (awp_seq (awp_seq (awp_reg ?_)))
   refine ro rfl (ok_assign rfl rfl rfl rfl ?_)
   refine rn ?_
   refine awp_block ?_
   obtain ⟨o23, h1, hL0, hR0⟩ := jn_cut h0
   refine awp_joinEx 0 (fun v24 : Unit => o23 = .inl v24) (fun v24 => ⟨[], []⟩) ?_ ?_
   ·rintro s' ⟨v24, hv, hle⟩
    have h0 := hL0 _ hv
    (repeat (first | refine uw ?_ | refine uo rfl ?_))
    refine awp_ghost hle ?_
    (repeat (first | refine uw ?_ | refine uo rfl ?_))
    refine awp_seq (awp_reg ?_)
    refine ro rfl (ok_assign rfl rfl rfl rfl ?_)
    refine rn ?_
    refine awp_ret ?_
    (repeat (first | refine uw ?_ | refine uo rfl ?_))
    have e0 := oi h0
    subst e0
    refine reta_mk rfl ?_
    exact sr
   ·skip
    refine awp_loopG (fun q25 => ⟨[(1, .p (eS s_1)), (2, .ptr 2 0), (5, .p (eI q25))], [(2, [.p (eI e_0.fKind), .p (eI e_0.fOp), .p (eS e_0.fName), .p (eS e_0.fKey), .p (eI e_0.fValue.fKind), .p (eI e_0.fValue.fNum), .p (eS e_0.fValue.fStr), .p (eL eTValue e_0.fValue.fItems), .p (eL eS e_0.fValue.fKeys), .p (eL eTExpr e_0.fKids), .p (eI e_0.fAt)])]⟩) (fun m (q25 : Int) => law17_occurs_l1 (law17_occurs n) e_0 s_1 m q25) (fun _ => rfl) 0 h1 (ghost_le (le_mk ⟨er rfl, er rfl, er rfl, trivial⟩ ⟨⟨_, rfl, ⟨sr, sr, sr, sr, sr, sr, sr, sr, sr, sr, sr, trivial⟩⟩, trivial⟩)) ?_
    rintro m i11 h1
    replace h1 : law17_occurs_l1 (law17_occurs n) e_0 s_1 (m + 1) i11 = some o23 := h1
    rw [law17_occurs_l1] at h1
    refine awp_seq (awp_seq (awp_reg ?_))
    refine ro rfl (ok_move rfl rfl rfl rfl ?_)
    refine ro rfl (ok_fieldAddrP rfl rfl rfl rfl rfl rfl rfl rfl rfl ?_)
    refine ro rfl (ok_loadP1 rfl rfl rfl rfl rfl rfl rfl rfl ?_)
    refine ro rfl (op_lenL (f := eTExpr) (l := e_0.fKids) rfl rfl rfl rfl rfl rfl rfl ?_)
    refine ro rfl (ok_cmp rfl rfl rfl rfl rfl rfl ?_)
    refine rn ?_
    refine wp_ifD rfl (fun c12 => ?_) (fun c12 => ?_)
    ·replace h1 := if_t c12 h1
     refine awp_skip (awp_seq (awp_block (awp_seq (awp_reg ?_))))
     refine ro rfl (ok_fieldAddrP rfl rfl rfl rfl rfl rfl rfl rfl rfl ?_)
     refine ro rfl (ok_loadP1 rfl rfl rfl rfl rfl rfl rfl rfl ?_)
     refine ro rfl (ok_move rfl rfl rfl rfl ?_)
     obtain ⟨h13, h1⟩ := ck_cut h1
     refine ro rfl (op_at (f := eTExpr) (l := e_0.fKids) TExpr.cs rfl rfl rfl rfl rfl rfl rfl rfl rfl h13 TExpr.cells_eq (fun _ => rfl) ?_)
     refine ro rfl (ok_loadRA rfl rfl rfl rfl rfl rfl rfl ?_)
     refine ro rfl (ok_move rfl rfl rfl rfl ?_)
     obtain ⟨r14, e15, h1⟩ := bd_cut h1
     refine ro rfl (ok_callP (ih_law17_occurs_ok (lat e_0.fKids i11) s_1 _ e15) rfl rfl rfl rfl ⟨sr, sr, trivial⟩ Try.call19 rfl ?_)
     refine rn ?_
     refine wp_if rfl (fun c16 => ?_) (fun c16 => ?_)
     ·replace h1 := if_t c16 h1
      refine awp_seq (awp_reg ?_)
      refine ro rfl (ok_assign rfl rfl rfl rfl ?_)
      refine rn ?_
      refine awp_ret ?_
      (repeat (first | refine uw ?_ | refine uo rfl ?_))
      have e1 := oi h1
      have e0 := hR0 _ e1.symm
      subst e0
      refine reta_mk rfl ?_
      exact sr
     ·replace h1 := if_bf c16 h1
      refine awp_skip ?_
      (repeat (first | refine uw ?_ | refine uo rfl ?_))
      refine awp_reg ?_
      refine ro rfl (ok_move rfl rfl rfl rfl ?_)
      obtain ⟨h17, h1⟩ := ck_cut h1
      refine ro rfl (ok_ar rfl rfl rfl rfl rfl rfl h17 ?_)
      refine ro rfl (ok_assign rfl rfl rfl rfl ?_)
      refine rn ?_
      (repeat (first | refine uw ?_ | refine uo rfl ?_))
      exact ⟨(i11 + 1), h1, ghost_le (le_mk ⟨er rfl, er rfl, er rfl, trivial⟩ ⟨⟨_, rfl, ⟨sr, sr, sr, sr, sr, sr, sr, sr, sr, sr, sr, trivial⟩⟩, trivial⟩)⟩
    ·replace h1 := if_f c12 h1
     refine awp_exit ?_
     (repeat (first | refine uw ?_ | refine uo rfl ?_))
     have e1 := oi h1
     exact ⟨_, e1.symm, ghost_le (le_mk trivial trivial)⟩
 ·skip
  refine awp_reg ?_
  refine ro rfl (ok_fieldAddrP rfl rfl rfl rfl rfl rfl rfl rfl rfl ?_)
  refine ro rfl (ok_loadP1 rfl rfl rfl rfl rfl rfl rfl rfl ?_)
  refine ro rfl (ok_move rfl rfl rfl rfl ?_)
  refine ro rfl (ok_cmpS rfl rfl rfl rfl rfl rfl ?_)
  refine ro rfl (ok_move rfl rfl rfl rfl ?_)
  refine gd_D rfl rfl rfl (fun c1 => ?_) (fun c1 => ?_)
  ·replace h1 := if_t c1 h1
   refine gd_ft rfl rfl rfl (dt c1) rfl rfl ?_
   refine gd_ft rfl rfl rfl (dt c1) rfl rfl ?_
   refine gd_ft rfl rfl rfl (dt c1) rfl rfl ?_
   refine gd_ft rfl rfl rfl (dt c1) rfl rfl ?_
   refine ro rfl (ok_pick_true rfl rfl rfl rfl (dt c1) rfl ?_)
   refine rn ?_
   (repeat (first | refine uw ?_ | refine uo rfl ?_))
   have e1 := oi h1
   subst e1
   exact ghost_le (le_mk ⟨er rfl, er rfl, er rfl, trivial⟩ ⟨⟨_, rfl, ⟨sr, sr, sr, sr, sr, sr, sr, sr, sr, sr, sr, trivial⟩⟩, trivial⟩)
  ·replace h1 := if_f c1 h1
   refine gd_ff rfl rfl rfl (df c1) (ok_fieldAddrP rfl rfl rfl rfl rfl rfl rfl rfl rfl ?_)
   refine gd_ff rfl rfl rfl (df c1) (ok_loadP1 rfl rfl rfl rfl rfl rfl rfl rfl ?_)
   refine gd_ff rfl rfl rfl (df c1) (ok_move rfl rfl rfl rfl ?_)
   refine gd_ff rfl rfl rfl (df c1) (ok_cmpS rfl rfl rfl rfl rfl rfl ?_)
   refine ro rfl (ok_pick_false rfl rfl rfl rfl (df c1) rfl ?_)
   refine rn ?_
   (repeat (first | refine uw ?_ | refine uo rfl ?_))
   have e1 := oi h1
   subst e1
   exact ghost_le (le_mk ⟨er rfl, er rfl, er rfl, trivial⟩ ⟨⟨_, rfl, ⟨sr, sr, sr, sr, sr, sr, sr, sr, sr, sr, sr, trivial⟩⟩, trivial⟩)

def law17_root (r_0 : TRef) : Option Bytes :=
 if r_0.fKind = 1 then
  some ([118, 97, 114] : Bytes)
 else
  if r_0.fKind = 2 then
   some ([108, 111, 99, 97, 108] : Bytes)
  else
   if r_0.fKind = 3 then
    some r_0.fType
   else
    if r_0.fKind = 4 then
     some ([100, 97, 116, 97] : Bytes)
    else
     if r_0.fKind = 5 then
      some ([109, 111, 100, 117, 108, 101] : Bytes)
     else
      if r_0.fKind = 6 then
       some ([101, 97, 99, 104] : Bytes)
      else
       if r_0.fKind = 7 then
        some ([99, 111, 117, 110, 116] : Bytes)
       else
        if r_0.fKind = 8 then
         some ([114, 101, 109, 111, 116, 101] : Bytes)
        else
         some r_0.fName

set_option maxHeartbeats 4000000 in
theorem law17_root_ok (r_0 : TRef) (r : Bytes) (h0 : law17_root r_0 = some r) : PCalls Try.prog 20 [.agg (TRef.cs r_0)] (· = .p (eS r)) := by
 unfold law17_root at h0
 refine pbodyA good Try.func20 rfl rfl rfl fun w0 => ?_
 refine awp_seq (awp_reg ?_)
 refine ro rfl (ok_box rfl rfl rfl rfl rfl ?_)
 refine ro rfl (ok_assign rfl rfl rfl rfl ?_)
 refine rn ?_
 refine awp_seq (awp_seq (awp_reg ?_))
 refine ro rfl (ok_fieldAddrP rfl rfl rfl rfl rfl rfl rfl rfl rfl ?_)
 refine ro rfl (ok_loadP1 rfl rfl rfl rfl rfl rfl rfl rfl ?_)
 refine rn ?_
 refine awp_block (awp_seq (awp_reg ?_))
 refine ro rfl (ok_cmp rfl rfl rfl rfl rfl rfl ?_)
 refine ro rfl (ok_assign rfl rfl rfl rfl ?_)
 refine rn ?_
 refine wp_ifD rfl (fun c1 => ?_) (fun c1 => ?_)
 ·replace h0 := if_t c1 h0
  refine awp_seq (awp_reg ?_)
  refine ro rfl (ok_assign rfl rfl rfl rfl ?_)
  refine rn ?_
  refine awp_ret ?_
  (repeat (first | refine uw ?_ | refine uo rfl ?_))
  have e0 := oi h0
  subst e0
  refine reta_mk rfl ?_
  exact sr
 ·replace h0 := if_f c1 h0
  refine awp_seq (awp_reg ?_)
  refine ro rfl (ok_cmp rfl rfl rfl rfl rfl rfl ?_)
  refine ro rfl (ok_assign rfl rfl rfl rfl ?_)
  refine rn ?_
  refine wp_ifD rfl (fun c2 => ?_) (fun c2 => ?_)
  ·replace h0 := if_t c2 h0
   refine awp_seq (awp_reg ?_)
   refine ro rfl (ok_assign rfl rfl rfl rfl ?_)
   refine rn ?_
   refine awp_ret ?_
   (repeat (first | refine uw ?_ | refine uo rfl ?_))
   have e0 := oi h0
   subst e0
   refine reta_mk rfl ?_
   exact sr
  ·replace h0 := if_f c2 h0
   refine awp_seq (awp_reg ?_)
   refine ro rfl (ok_cmp rfl rfl rfl rfl rfl rfl ?_)
   refine ro rfl (ok_assign rfl rfl rfl rfl ?_)
   refine rn ?_
   refine wp_ifD rfl (fun c3 => ?_) (fun c3 => ?_)
   ·replace h0 := if_t c3 h0
    refine awp_seq (awp_reg ?_)
    refine ro rfl (ok_fieldAddrP rfl rfl rfl rfl rfl rfl rfl rfl rfl ?_)
    refine ro rfl (ok_loadP1 rfl rfl rfl rfl rfl rfl rfl rfl ?_)
    refine ro rfl (ok_assign rfl rfl rfl rfl ?_)
    refine rn ?_
    refine awp_ret ?_
    (repeat (first | refine uw ?_ | refine uo rfl ?_))
    have e0 := oi h0
    subst e0
    refine reta_mk rfl ?_
    exact sr
   ·replace h0 := if_f c3 h0
    refine awp_seq (awp_reg ?_)
    refine ro rfl (ok_cmp rfl rfl rfl rfl rfl rfl ?_)
    refine ro rfl (ok_assign rfl rfl rfl rfl ?_)
    refine rn ?_
    refine wp_ifD rfl (fun c4 => ?_) (fun c4 => ?_)
    ·replace h0 := if_t c4 h0
     refine awp_seq (awp_reg ?_)
     refine ro rfl (ok_assign rfl rfl rfl rfl ?_)
     refine rn ?_
     refine awp_ret ?_
     (repeat (first | refine uw ?_ | refine uo rfl ?_))
     have e0 := oi h0
     subst e0
     refine reta_mk rfl ?_
     exact sr
    ·replace h0 := if_f c4 h0
     refine awp_seq (awp_reg ?_)
     refine ro rfl (ok_cmp rfl rfl rfl rfl rfl rfl ?_)
     refine ro rfl (ok_assign rfl rfl rfl rfl ?_)
     refine rn ?_
     refine wp_ifD rfl (fun c5 => ?_) (fun c5 => ?_)
     ·replace h0 := if_t c5 h0
      refine awp_seq (awp_reg ?_)
      refine ro rfl (ok_assign rfl rfl rfl rfl ?_)
      refine rn ?_
      refine awp_ret ?_
      (repeat (first | refine uw ?_ | refine uo rfl ?_))
      have e0 := oi h0
      subst e0
      refine reta_mk rfl ?_
      exact sr
     ·replace h0 := if_f c5 h0
      refine awp_seq (awp_reg ?_)
      refine ro rfl (ok_cmp rfl rfl rfl rfl rfl rfl ?_)
      refine ro rfl (ok_assign rfl rfl rfl rfl ?_)
      refine rn ?_
      refine wp_ifD rfl (fun c6 => ?_) (fun c6 => ?_)
      ·replace h0 := if_t c6 h0
       refine awp_seq (awp_reg ?_)
       refine ro rfl (ok_assign rfl rfl rfl rfl ?_)
       refine rn ?_
       refine awp_ret ?_
       (repeat (first | refine uw ?_ | refine uo rfl ?_))
       have e0 := oi h0
       subst e0
       refine reta_mk rfl ?_
       exact sr
      ·replace h0 := if_f c6 h0
       refine awp_seq (awp_reg ?_)
       refine ro rfl (ok_cmp rfl rfl rfl rfl rfl rfl ?_)
       refine ro rfl (ok_assign rfl rfl rfl rfl ?_)
       refine rn ?_
       refine wp_ifD rfl (fun c7 => ?_) (fun c7 => ?_)
       ·replace h0 := if_t c7 h0
        refine awp_seq (awp_reg ?_)
        refine ro rfl (ok_assign rfl rfl rfl rfl ?_)
        refine rn ?_
        refine awp_ret ?_
        (repeat (first | refine uw ?_ | refine uo rfl ?_))
        have e0 := oi h0
        subst e0
        refine reta_mk rfl ?_
        exact sr
       ·replace h0 := if_f c7 h0
        refine awp_seq (awp_reg ?_)
        refine ro rfl (ok_cmp rfl rfl rfl rfl rfl rfl ?_)
        refine ro rfl (ok_assign rfl rfl rfl rfl ?_)
        refine rn ?_
        refine wp_ifD rfl (fun c8 => ?_) (fun c8 => ?_)
        ·replace h0 := if_t c8 h0
         refine awp_seq (awp_reg ?_)
         refine ro rfl (ok_assign rfl rfl rfl rfl ?_)
         refine rn ?_
         refine awp_ret ?_
         (repeat (first | refine uw ?_ | refine uo rfl ?_))
         have e0 := oi h0
         subst e0
         refine reta_mk rfl ?_
         exact sr
        ·replace h0 := if_f c8 h0
         refine awp_skip ?_
         (repeat (first | refine uw ?_ | refine uo rfl ?_))
         refine awp_seq (awp_reg ?_)
         refine ro rfl (ok_fieldAddrP rfl rfl rfl rfl rfl rfl rfl rfl rfl ?_)
         refine ro rfl (ok_loadP1 rfl rfl rfl rfl rfl rfl rfl rfl ?_)
         refine ro rfl (ok_assign rfl rfl rfl rfl ?_)
         refine rn ?_
         refine awp_ret ?_
         (repeat (first | refine uw ?_ | refine uo rfl ?_))
         have e0 := oi h0
         subst e0
         refine reta_mk rfl ?_
         exact sr

def law17_same_l1 (a_0 : List TRef) (b_1 : List TRef) : Nat → Int → Option (Unit ⊕ Bool)
 | 0, _ => none
 | m + 1, i10 =>
 if i10 < (a_0.length : Int) then
  ck ((0 : Int) ≤ i10 ∧ i10 < (a_0.length : Int)) <|
  ck ((0 : Int) ≤ i10 ∧ i10 < (b_1.length : Int)) <|
  (reference_Same (lat a_0 i10) (lat b_1 i10)).bind fun r14 =>
  if (!r14) = true then
   some (.inr false)
  else
   ck (inR (i10 + 1)) <|
   law17_same_l1 a_0 b_1 m (i10 + 1)
 else
  some (.inl ())

def law17_same (n : Nat) (a_0 : List TRef) (b_1 : List TRef) : Option Bool :=
 if (a_0.length : Int) = (b_1.length : Int) then
  jn (law17_same_l1 a_0 b_1 n 0) fun q19 =>
  some true
 else
  some false

set_option maxHeartbeats 4000000 in
theorem law17_same_ok (n : Nat) (a_0 : List TRef) (b_1 : List TRef) (r : Bool) (h0 : law17_same n a_0 b_1 = some r) : PCalls Try.prog 21 [eL eTRef a_0, eL eTRef b_1] (· = .p (eB r)) := by
 unfold law17_same at h0
 refine pbodyA good Try.func21 rfl rfl rfl fun w0 => ?_
 refine awp_seq (awp_reg ?_)
 refine ro rfl (ok_assign rfl rfl rfl rfl ?_)
 refine rn ?_
 refine awp_seq (awp_seq (awp_reg ?_))
 refine ro rfl (ok_move rfl rfl rfl rfl ?_)
 refine ro rfl (op_lenL (f := eTRef) (l := a_0) rfl rfl rfl rfl rfl rfl rfl ?_)
 refine ro rfl (ok_move rfl rfl rfl rfl ?_)
 refine ro rfl (op_lenL (f := eTRef) (l := b_1) rfl rfl rfl rfl rfl rfl rfl ?_)
 refine ro rfl (ok_cmp rfl rfl rfl rfl rfl rfl ?_)
 refine rn ?_
 refine wp_ifN rfl (fun c1 => ?_) (fun c1 => ?_)
 ·replace h0 := if_f c1 h0
  refine awp_seq (awp_reg ?_)
  refine ro rfl (ok_assign rfl rfl rfl rfl ?_)
  refine rn ?_
  refine awp_ret ?_
  (repeat (first | refine uw ?_ | refine uo rfl ?_))
  have e0 := oi h0
  subst e0
  refine reta_mk rfl ?_
  exact sr
 ·replace h0 := if_t c1 h0
  refine awp_skip (awp_seq (awp_seq (awp_reg ?_)))
  refine ro rfl (ok_assign rfl rfl rfl rfl ?_)
  refine rn ?_
  refine awp_block ?_
  obtain ⟨o20, h1, hL0, hR0⟩ := jn_cut h0
  refine awp_joinEx 0 (fun v21 : Unit => o20 = .inl v21) (fun v21 => ⟨[], []⟩) ?_ ?_
  ·rintro s' ⟨v21, hv, hle⟩
   have h0 := hL0 _ hv
   (repeat (first | refine uw ?_ | refine uo rfl ?_))
   refine awp_ghost hle ?_
   (repeat (first | refine uw ?_ | refine uo rfl ?_))
   refine awp_seq (awp_reg ?_)
   refine ro rfl (ok_assign rfl rfl rfl rfl ?_)
   refine rn ?_
   refine awp_ret ?_
   (repeat (first | refine uw ?_ | refine uo rfl ?_))
   have e0 := oi h0
   subst e0
   refine reta_mk rfl ?_
   exact sr
  ·skip
   refine awp_loopG (fun q22 => ⟨[(0, .p (eL eTRef a_0)), (1, .p (eL eTRef b_1)), (5, .p (eI q22))], []⟩) (fun m (q22 : Int) => law17_same_l1 a_0 b_1 m q22) (fun _ => rfl) 0 h1 (ghost_le (le_mk ⟨er rfl, er rfl, er rfl, trivial⟩ trivial)) ?_
   rintro m i10 h1
   replace h1 : law17_same_l1 a_0 b_1 (m + 1) i10 = some o20 := h1
   rw [law17_same_l1] at h1
   refine awp_seq (awp_seq (awp_reg ?_))
   refine ro rfl (ok_move rfl rfl rfl rfl ?_)
   refine ro rfl (ok_move rfl rfl rfl rfl ?_)
   refine ro rfl (op_lenL (f := eTRef) (l := a_0) rfl rfl rfl rfl rfl rfl rfl ?_)
   refine ro rfl (ok_cmp rfl rfl rfl rfl rfl rfl ?_)
   refine rn ?_
   refine wp_ifD rfl (fun c11 => ?_) (fun c11 => ?_)
   ·replace h1 := if_t c11 h1
    refine awp_skip (awp_seq (awp_block (awp_seq ?_)))
    obtain ⟨h12, h1⟩ := ck_cut h1
    obtain ⟨h13, h1⟩ := ck_cut h1
    obtain ⟨r14, e15, h1⟩ := bd_cut h1
    refine awp_drawQ [(0, .p (eL eTRef a_0)), (1, .p (eL eTRef b_1)), (5, .p (eI i10))] rfl ⟨rfl, rfl, rfl, trivial⟩ rfl ?_
    refine dq_cons (.p (eL eTRef a_0)) [(0, _)] ⟨.inl rfl, trivial⟩ (fun sl hsl K hK => one_op rfl (ok_move rfl rfl rfl (hsl _ _ rfl) hK)) rfl rfl rfl ?_
    refine dq_cons (.p (eI i10)) [(5, _)] ⟨.inl rfl, trivial⟩ (fun sl hsl K hK => one_op rfl (ok_move rfl rfl rfl (hsl _ _ rfl) hK)) rfl rfl rfl ?_
    refine dq_cons (.rptr (TRef.cs (lat a_0 i10))) [(17, _), (18, _)] ⟨.inr ⟨0, rfl, rfl⟩, .inr ⟨1, rfl, rfl⟩, trivial⟩ (fun sl hsl K hK => one_op rfl (op_at (f := eTRef) (l := a_0) TRef.cs rfl rfl rfl rfl rfl rfl (hsl _ _ rfl) rfl (hsl _ _ rfl) h12 TRef.cells_eq (fun _ => rfl) hK)) rfl rfl rfl ?_
    refine dq_cons (.p (.agg (TRef.cs (lat a_0 i10)))) [(19, _)] ⟨.inr ⟨2, rfl, rfl⟩, trivial⟩ (fun sl hsl K hK => one_op rfl (ok_loadRA rfl rfl rfl rfl rfl (hsl _ _ rfl) rfl hK)) rfl rfl rfl ?_
    refine dq_cons (.p (eL eTRef b_1)) [(1, _)] ⟨.inl rfl, trivial⟩ (fun sl hsl K hK => one_op rfl (ok_move rfl rfl rfl (hsl _ _ rfl) hK)) rfl rfl rfl ?_
    refine dq_cons (.p (eI i10)) [(5, _)] ⟨.inl rfl, trivial⟩ (fun sl hsl K hK => one_op rfl (ok_move rfl rfl rfl (hsl _ _ rfl) hK)) rfl rfl rfl ?_
    refine dq_cons (.rptr (TRef.cs (lat b_1 i10))) [(21, _), (22, _)] ⟨.inr ⟨4, rfl, rfl⟩, .inr ⟨5, rfl, rfl⟩, trivial⟩ (fun sl hsl K hK => one_op rfl (op_at (f := eTRef) (l := b_1) TRef.cs rfl rfl rfl rfl rfl rfl (hsl _ _ rfl) rfl (hsl _ _ rfl) h13 TRef.cells_eq (fun _ => rfl) hK)) rfl rfl rfl ?_
    refine dq_cons (.p (.agg (TRef.cs (lat b_1 i10)))) [(23, _)] ⟨.inr ⟨6, rfl, rfl⟩, trivial⟩ (fun sl hsl K hK => one_op rfl (ok_loadRA rfl rfl rfl rfl rfl (hsl _ _ rfl) rfl hK)) rfl rfl rfl ?_
    refine dq_cons (.p (eB r14)) [(20, _), (24, _)] ⟨.inr ⟨3, rfl, rfl⟩, .inr ⟨7, rfl, rfl⟩, trivial⟩ (fun sl hsl K hK => one_op rfl (ok_callP (reference_Same_ok (lat a_0 i10) (lat b_1 i10) _ e15) rfl rfl rfl (args_cons (hsl _ _ rfl) (args_cons (hsl _ _ rfl) args_nil)) ⟨sr, sr, trivial⟩ Try.call17 rfl hK)) rfl rfl rfl ?_
    refine dq_cons (.p (eB (!r14))) [(25, _)] ⟨.inr ⟨8, rfl, rfl⟩, trivial⟩ (fun sl hsl K hK => one_op rfl (ok_not rfl rfl rfl (hsl _ _ rfl) hK)) rfl rfl rfl ?_
    refine dq_nil ?_
    refine wp_if rfl (fun c16 => ?_) (fun c16 => ?_)
    ·replace h1 := if_t c16 h1
     refine awp_seq (awp_reg ?_)
     refine ro rfl (ok_assign rfl rfl rfl rfl ?_)
     refine rn ?_
     refine awp_ret ?_
     (repeat (first | refine uw ?_ | refine uo rfl ?_))
     have e1 := oi h1
     have e0 := hR0 _ e1.symm
     subst e0
     refine reta_mk rfl ?_
     exact sr
    ·replace h1 := if_bf c16 h1
     refine awp_skip ?_
     (repeat (first | refine uw ?_ | refine uo rfl ?_))
     refine awp_reg ?_
     refine ro rfl (ok_move rfl rfl rfl rfl ?_)
     obtain ⟨h17, h1⟩ := ck_cut h1
     refine ro rfl (ok_ar rfl rfl rfl rfl rfl rfl h17 ?_)
     refine ro rfl (ok_assign rfl rfl rfl rfl ?_)
     refine rn ?_
     (repeat (first | refine uw ?_ | refine uo rfl ?_))
     exact ⟨(i10 + 1), h1, ghost_le (le_mk ⟨er rfl, er rfl, er rfl, trivial⟩ trivial)⟩
   ·replace h1 := if_f c11 h1
    refine awp_exit ?_
    (repeat (first | refine uw ?_ | refine uo rfl ?_))
    have e1 := oi h1
    exact ⟨_, e1.symm, ghost_le (le_mk trivial trivial)⟩

def law17_renamed_l1 (r_law17_renamed : TExpr → Bytes → Bytes → Option TExpr) (e_0 : TExpr) (n_1 : Bytes) (m_2 : Bytes) (loop9 : Bool) : Nat → Int → (List TExpr) → Option (List TExpr)
 | 0, _, _ => none
 | m + 1, i24, f25 =>
 if i24 < (e_0.fKids.length : Int) then
  (
    (
      if loop9 = true then
       some (decide (0 < i24))
      else
       some false
     : Option Bool).bind fun t28 =>
    if t28 = true then
     ck ((0 : Int) ≤ i24 ∧ i24 < (e_0.fKids.length : Int)) <|
     ck ((f25.length + [(lat e_0.fKids i24)].length) * 160 ≤ 140737488355328) <|
     some (f25 ++ [(lat e_0.fKids i24)])
    else
     ck ((0 : Int) ≤ i24 ∧ i24 < (e_0.fKids.length : Int)) <|
     (r_law17_renamed (lat e_0.fKids i24) n_1 m_2).bind fun r33 =>
     ck ((f25.length + [r33].length) * 160 ≤ 140737488355328) <|
     some (f25 ++ [r33])
   : Option (List TExpr)).bind fun f36 =>
  ck (inR (i24 + 1)) <|
  law17_renamed_l1 r_law17_renamed e_0 n_1 m_2 loop9 m (i24 + 1) f36
 else
  some f25

def law17_renamed : Nat → TExpr → Bytes → Bytes → Option TExpr
 | 0, _, _, _ => none
 | n + 1, e_0, n_1, m_2 =>
 (
   (
     if e_0.fKind = 3 then
      some (decide (e_0.fName = n_1))
     else
      some false
    : Option Bool).bind fun t2 =>
   if t2 = true then
    some m_2
   else
    some e_0.fName
  : Option Bytes).bind fun f4 =>
 (
   if e_0.fKind = 12 then
    if e_0.fName = n_1 then
     some true
    else
     some (decide (e_0.fKey = n_1))
   else
    if e_0.fKind = 13 then
     if e_0.fName = n_1 then
      some true
     else
      some (decide (e_0.fKey = n_1))
    else
     some false
  : Option Bool).bind fun loop9 =>
 (law17_renamed_l1 (law17_renamed n) e_0 n_1 m_2 loop9 n 0 []).bind fun f40 =>
 some (TExpr.mk e_0.fKind e_0.fOp f4 e_0.fKey e_0.fValue f40 e_0.fAt)

set_option maxHeartbeats 4000000 in
theorem law17_renamed_ok (n : Nat) : ∀ (e_0 : TExpr) (n_1 : Bytes) (m_2 : Bytes) (r : TExpr), law17_renamed n e_0 n_1 m_2 = some r → PCalls Try.prog 22 [.agg (TExpr.cs e_0), eS n_1, eS m_2] (· = .p (.agg (TExpr.cs r))) := by
 induction n with
 | zero => intro e_0 n_1 m_2 r h0; cases h0
 | succ n ih =>
 have ih_law17_renamed_ok := ih
 intro e_0 n_1 m_2 r h0
 rw [law17_renamed] at h0
 refine pbodyA good Try.func22 rfl rfl rfl fun w0 => ?_
 refine awp_seq (awp_reg ?_)
 refine ro rfl (ok_box rfl rfl rfl rfl rfl ?_)
 refine ro rfl (ok_alloc rfl rfl rfl rfl rfl ?_)
 refine rn ?_
 refine awp_seq (awp_reg ?_)
 refine ro rfl (ok_loadPA rfl rfl rfl rfl rfl rfl rfl rfl rfl ?_)
 refine ro rfl (ok_alloc rfl rfl rfl rfl rfl ?_)
 refine ro rfl (ok_store rfl rfl rfl rfl rfl rfl rfl rfl (Nat.le_of_ble_eq_true rfl) ?_)
 refine rn ?_
 refine awp_seq (awp_reg ?_)
 refine ro rfl (ok_fieldAddrP rfl rfl rfl rfl rfl rfl rfl rfl rfl ?_)
 refine ro rfl (ok_store rfl rfl rfl rfl rfl rfl rfl rfl (Nat.le_of_ble_eq_true rfl) ?_)
 refine rn ?_
 refine awp_seq ?_
 obtain ⟨o47, h1, h0⟩ := bd_cut h0
 refine awp_joinN ⟨[(1, .p (eS n_1)), (2, .p (eS m_2)), (3, .ptr 3 0), (6, .ptr 6 0), (7, .ptr 7 0)], [(3, [.p (eI e_0.fKind), .p (eI e_0.fOp), .p (eS e_0.fName), .p (eS e_0.fKey), .p (eI e_0.fValue.fKind), .p (eI e_0.fValue.fNum), .p (eS e_0.fValue.fStr), .p (eL eTValue e_0.fValue.fItems), .p (eL eS e_0.fValue.fKeys), .p (eL eTExpr e_0.fKids), .p (eI e_0.fAt)]), (6, [.p (eI 0), .p (eI 0), .p (eS ([] : Bytes)), .p (eS ([] : Bytes)), .p (eI 0), .p (eI 0), .p (eS ([] : Bytes)), .p (.val (.slice none 0 0)), .p (.val (.slice none 0 0)), .p (.val (.slice none 0 0)), .p (eI 0)]), (7, [.p (eI e_0.fKind), .p (eI e_0.fOp), .p (eS o47), .p (eS e_0.fKey), .p (eI e_0.fValue.fKind), .p (eI e_0.fValue.fNum), .p (eS e_0.fValue.fStr), .p (eL eTValue e_0.fValue.fItems), .p (eL eS e_0.fValue.fKeys), .p (.val (.slice none 0 0)), .p (eI e_0.fAt)])]⟩ ?_ ?_
 ·intro s' hle
  (repeat (first | refine uw ?_ | refine uo rfl ?_))
  refine awp_ghost hle ?_
  refine awp_seq ?_
  obtain ⟨o49, h1, h0⟩ := bd_cut h0
  refine awp_joinN ⟨[(1, .p (eS n_1)), (2, .p (eS m_2)), (3, .ptr 3 0), (6, .ptr 6 0), (7, .ptr 7 0), (8, .p (eB o49))], [(3, [.p (eI e_0.fKind), .p (eI e_0.fOp), .p (eS e_0.fName), .p (eS e_0.fKey), .p (eI e_0.fValue.fKind), .p (eI e_0.fValue.fNum), .p (eS e_0.fValue.fStr), .p (eL eTValue e_0.fValue.fItems), .p (eL eS e_0.fValue.fKeys), .p (eL eTExpr e_0.fKids), .p (eI e_0.fAt)]), (6, [.p (eI 0), .p (eI 0), .p (eS ([] : Bytes)), .p (eS ([] : Bytes)), .p (eI 0), .p (eI 0), .p (eS ([] : Bytes)), .p (.val (.slice none 0 0)), .p (.val (.slice none 0 0)), .p (.val (.slice none 0 0)), .p (eI 0)]), (7, [.p (eI e_0.fKind), .p (eI e_0.fOp), .p (eS o47), .p (eS e_0.fKey), .p (eI e_0.fValue.fKind), .p (eI e_0.fValue.fNum), .p (eS e_0.fValue.fStr), .p (eL eTValue e_0.fValue.fItems), .p (eL eS e_0.fValue.fKeys), .p (.val (.slice none 0 0)), .p (eI e_0.fAt)])]⟩ ?_ ?_
  ·intro s' hle
   (repeat (first | refine uw ?_ | refine uo rfl ?_))
   refine awp_ghost hle ?_
   refine awp_seq (awp_seq (awp_reg ?_))
   refine ro rfl (ok_assign rfl rfl rfl rfl ?_)
   refine rn ?_
   refine awp_block ?_
   obtain ⟨o51, h1, h0⟩ := bd_cut h0
   refine awp_joinE 0 ⟨[(6, .ptr 6 0), (7, .ptr 7 0)], [(6, [.p (eI 0), .p (eI 0), .p (eS ([] : Bytes)), .p (eS ([] : Bytes)), .p (eI 0), .p (eI 0), .p (eS ([] : Bytes)), .p (.val (.slice none 0 0)), .p (.val (.slice none 0 0)), .p (.val (.slice none 0 0)), .p (eI 0)]), (7, [.p (eI e_0.fKind), .p (eI e_0.fOp), .p (eS o47), .p (eS e_0.fKey), .p (eI e_0.fValue.fKind), .p (eI e_0.fValue.fNum), .p (eS e_0.fValue.fStr), .p (eL eTValue e_0.fValue.fItems), .p (eL eS e_0.fValue.fKeys), .vec 76 11 (o51.map eTExpr), .p (eI e_0.fAt)])]⟩ ?_ ?_
   ·intro s' hle
    (repeat (first | refine uw ?_ | refine uo rfl ?_))
    refine awp_ghost hle ?_
    (repeat (first | refine uw ?_ | refine uo rfl ?_))
    refine awp_seq (awp_reg ?_)
    refine ro rfl (ok_loadPA rfl rfl rfl rfl rfl rfl rfl rfl rfl ?_)
    refine ro rfl (ok_store rfl rfl rfl rfl rfl rfl rfl rfl (Nat.le_of_ble_eq_true rfl) ?_)
    refine rn ?_
    refine awp_ret ?_
    (repeat (first | refine uw ?_ | refine uo rfl ?_))
    have e0 := oi h0
    subst e0
    refine reta_mk rfl ?_
    exact sub_aggs ⟨sr, sr, sr, sr, sr, sr, sr, sr, sr, AV.sub_vec _ _ _, sr, trivial⟩
   ·skip
    refine awp_loopG (fun q53 => ⟨[(1, .p (eS n_1)), (2, .p (eS m_2)), (3, .ptr 3 0), (6, .ptr 6 0), (7, .ptr 7 0), (8, .p (eB o49)), (9, .p (eI q53.1))], [(3, [.p (eI e_0.fKind), .p (eI e_0.fOp), .p (eS e_0.fName), .p (eS e_0.fKey), .p (eI e_0.fValue.fKind), .p (eI e_0.fValue.fNum), .p (eS e_0.fValue.fStr), .p (eL eTValue e_0.fValue.fItems), .p (eL eS e_0.fValue.fKeys), .p (eL eTExpr e_0.fKids), .p (eI e_0.fAt)]), (6, [.p (eI 0), .p (eI 0), .p (eS ([] : Bytes)), .p (eS ([] : Bytes)), .p (eI 0), .p (eI 0), .p (eS ([] : Bytes)), .p (.val (.slice none 0 0)), .p (.val (.slice none 0 0)), .p (.val (.slice none 0 0)), .p (eI 0)]), (7, [.p (eI e_0.fKind), .p (eI e_0.fOp), .p (eS o47), .p (eS e_0.fKey), .p (eI e_0.fValue.fKind), .p (eI e_0.fValue.fNum), .p (eS e_0.fValue.fStr), .p (eL eTValue e_0.fValue.fItems), .p (eL eS e_0.fValue.fKeys), .vec 76 11 (q53.2.map eTExpr), .p (eI e_0.fAt)])]⟩) (fun m (q53 : Int × (List TExpr)) => law17_renamed_l1 (law17_renamed n) e_0 n_1 m_2 o49 m q53.1 q53.2) (fun _ => rfl) (0, []) h1 (ghost_le (le_mk ⟨er rfl, er rfl, er rfl, er rfl, er rfl, er rfl, er rfl, trivial⟩ ⟨⟨_, rfl, ⟨sr, sr, sr, sr, sr, sr, sr, sr, sr, sr, sr, trivial⟩⟩, ⟨_, rfl, ⟨sr, sr, sr, sr, sr, sr, sr, sr, sr, sr, sr, trivial⟩⟩, ⟨_, rfl, ⟨sr, sr, sr, sr, sr, sr, sr, sr, sr, AV.sub_nilvec _ _, sr, trivial⟩⟩, trivial⟩)) ?_
    rintro m ⟨i24, f25⟩ h1
    replace h1 : law17_renamed_l1 (law17_renamed n) e_0 n_1 m_2 o49 (m + 1) i24 f25 = some o51 := h1
    rw [law17_renamed_l1] at h1
    refine awp_seq (awp_seq (awp_reg ?_))
    refine ro rfl (ok_move rfl rfl rfl rfl ?_)
    refine ro rfl (ok_fieldAddrP rfl rfl rfl rfl rfl rfl rfl rfl rfl ?_)
    refine ro rfl (ok_loadP1 rfl rfl rfl rfl rfl rfl rfl rfl ?_)
    refine ro rfl (op_lenL (f := eTExpr) (l := e_0.fKids) rfl rfl rfl rfl rfl rfl rfl ?_)
    refine ro rfl (ok_cmp rfl rfl rfl rfl rfl rfl ?_)
    refine rn ?_
    refine wp_ifD rfl (fun c26 => ?_) (fun c26 => ?_)
    ·replace h1 := if_t c26 h1
     refine awp_skip (awp_seq ?_)
     obtain ⟨o54, h2, h1⟩ := bd_cut h1
     refine awp_joinN ⟨[(1, .p (eS n_1)), (2, .p (eS m_2)), (3, .ptr 3 0), (6, .ptr 6 0), (7, .ptr 7 0), (8, .p (eB o49)), (9, .p (eI i24))], [(3, [.p (eI e_0.fKind), .p (eI e_0.fOp), .p (eS e_0.fName), .p (eS e_0.fKey), .p (eI e_0.fValue.fKind), .p (eI e_0.fValue.fNum), .p (eS e_0.fValue.fStr), .p (eL eTValue e_0.fValue.fItems), .p (eL eS e_0.fValue.fKeys), .p (eL eTExpr e_0.fKids), .p (eI e_0.fAt)]), (6, [.p (eI 0), .p (eI 0), .p (eS ([] : Bytes)), .p (eS ([] : Bytes)), .p (eI 0), .p (eI 0), .p (eS ([] : Bytes)), .p (.val (.slice none 0 0)), .p (.val (.slice none 0 0)), .p (.val (.slice none 0 0)), .p (eI 0)]), (7, [.p (eI e_0.fKind), .p (eI e_0.fOp), .p (eS o47), .p (eS e_0.fKey), .p (eI e_0.fValue.fKind), .p (eI e_0.fValue.fNum), .p (eS e_0.fValue.fStr), .p (eL eTValue e_0.fValue.fItems), .p (eL eS e_0.fValue.fKeys), .vec 76 11 (o54.map eTExpr), .p (eI e_0.fAt)])]⟩ ?_ ?_
     ·intro s' hle
      (repeat (first | refine uw ?_ | refine uo rfl ?_))
      refine awp_ghost hle ?_
      refine awp_reg ?_
      refine ro rfl (ok_move rfl rfl rfl rfl ?_)
      obtain ⟨h37, h1⟩ := ck_cut h1
      refine ro rfl (ok_ar rfl rfl rfl rfl rfl rfl h37 ?_)
      refine ro rfl (ok_assign rfl rfl rfl rfl ?_)
      refine rn ?_
      (repeat (first | refine uw ?_ | refine uo rfl ?_))
      exact ⟨(i24 + 1, o54), h1, ghost_le (le_mk ⟨er rfl, er rfl, er rfl, er rfl, er rfl, er rfl, er rfl, trivial⟩ ⟨⟨_, rfl, ⟨sr, sr, sr, sr, sr, sr, sr, sr, sr, sr, sr, trivial⟩⟩, ⟨_, rfl, ⟨sr, sr, sr, sr, sr, sr, sr, sr, sr, sr, sr, trivial⟩⟩, ⟨_, rfl, ⟨sr, sr, sr, sr, sr, sr, sr, sr, sr, sr, sr, trivial⟩⟩, trivial⟩)⟩
     ·refine awp_block ?_
      refine awp_seq ?_
      obtain ⟨o56, h3, h2⟩ := bd_cut h2
      refine awp_joinN ⟨[(1, .p (eS n_1)), (2, .p (eS m_2)), (3, .ptr 3 0), (6, .ptr 6 0), (7, .ptr 7 0), (8, .p (eB o49)), (9, .p (eI i24)), (54, .p (eB o56))], [(3, [.p (eI e_0.fKind), .p (eI e_0.fOp), .p (eS e_0.fName), .p (eS e_0.fKey), .p (eI e_0.fValue.fKind), .p (eI e_0.fValue.fNum), .p (eS e_0.fValue.fStr), .p (eL eTValue e_0.fValue.fItems), .p (eL eS e_0.fValue.fKeys), .p (eL eTExpr e_0.fKids), .p (eI e_0.fAt)]), (6, [.p (eI 0), .p (eI 0), .p (eS ([] : Bytes)), .p (eS ([] : Bytes)), .p (eI 0), .p (eI 0), .p (eS ([] : Bytes)), .p (.val (.slice none 0 0)), .p (.val (.slice none 0 0)), .p (.val (.slice none 0 0)), .p (eI 0)]), (7, [.p (eI e_0.fKind), .p (eI e_0.fOp), .p (eS o47), .p (eS e_0.fKey), .p (eI e_0.fValue.fKind), .p (eI e_0.fValue.fNum), .p (eS e_0.fValue.fStr), .p (eL eTValue e_0.fValue.fItems), .p (eL eS e_0.fValue.fKeys), .vec 76 11 (f25.map eTExpr), .p (eI e_0.fAt)])]⟩ ?_ ?_
      ·intro s' hle
       (repeat (first | refine uw ?_ | refine uo rfl ?_))
       refine awp_ghost hle ?_
       refine wp_if rfl (fun c29 => ?_) (fun c29 => ?_)
       ·replace h2 := if_t c29 h2
        obtain ⟨h30, h2⟩ := ck_cut h2
        obtain ⟨h31, h2⟩ := ck_cut h2
        refine awp_ghost (ghost_le (t := ⟨[(1, .p (eS n_1)), (2, .p (eS m_2)), (3, .ptr 3 0), (6, .ptr 6 0), (7, .ptr 7 0), (8, .p (eB o49)), (9, .p (eI i24))], [(3, [.p (eI e_0.fKind), .p (eI e_0.fOp), .p (eS e_0.fName), .p (eS e_0.fKey), .p (eI e_0.fValue.fKind), .p (eI e_0.fValue.fNum), .p (eS e_0.fValue.fStr), .p (eL eTValue e_0.fValue.fItems), .p (eL eS e_0.fValue.fKeys), .p (eL eTExpr e_0.fKids), .p (eI e_0.fAt)]), (6, [.p (eI 0), .p (eI 0), .p (eS ([] : Bytes)), .p (eS ([] : Bytes)), .p (eI 0), .p (eI 0), .p (eS ([] : Bytes)), .p (.val (.slice none 0 0)), .p (.val (.slice none 0 0)), .p (.val (.slice none 0 0)), .p (eI 0)]), (7, [.p (eI e_0.fKind), .p (eI e_0.fOp), .p (eS o47), .p (eS e_0.fKey), .p (eI e_0.fValue.fKind), .p (eI e_0.fValue.fNum), .p (eS e_0.fValue.fStr), .p (eL eTValue e_0.fValue.fItems), .p (eL eS e_0.fValue.fKeys), .vec 76 11 (f25.map eTExpr), .p (eI e_0.fAt)])]⟩) (le_mk ⟨er rfl, er rfl, er rfl, er rfl, er rfl, er rfl, er rfl, trivial⟩ ⟨⟨_, rfl, ⟨sr, sr, sr, sr, sr, sr, sr, sr, sr, sr, sr, trivial⟩⟩, ⟨_, rfl, ⟨sr, sr, sr, sr, sr, sr, sr, sr, sr, sr, sr, trivial⟩⟩, ⟨_, rfl, ⟨sr, sr, sr, sr, sr, sr, sr, sr, sr, sr, sr, trivial⟩⟩, trivial⟩)) ?_
        refine awp_drawS ⟨2, [8, 10], (by3 (some fun i => Nat.beq i 76 || Nat.beq i 63) none none), (fun _ => [(1, .p (eS n_1)), (2, .p (eS m_2)), (3, .ptr 3 0), (6, .ptr 6 0), (7, .ptr 7 0), (8, .p (eB o49)), (9, .p (eI i24))]), (by3 ([(3, [.p (eI e_0.fKind), .p (eI e_0.fOp), .p (eS e_0.fName), .p (eS e_0.fKey), .p (eI e_0.fValue.fKind), .p (eI e_0.fValue.fNum), .p (eS e_0.fValue.fStr), .p (eL eTValue e_0.fValue.fItems), .p (eL eS e_0.fValue.fKeys), .p (eL eTExpr e_0.fKids), .p (eI e_0.fAt)]), (6, [.p (eI 0), .p (eI 0), .p (eS ([] : Bytes)), .p (eS ([] : Bytes)), .p (eI 0), .p (eI 0), .p (eS ([] : Bytes)), .p (.val (.slice none 0 0)), .p (.val (.slice none 0 0)), .p (.val (.slice none 0 0)), .p (eI 0)]), (7, [.p (eI e_0.fKind), .p (eI e_0.fOp), .p (eS o47), .p (eS e_0.fKey), .p (eI e_0.fValue.fKind), .p (eI e_0.fValue.fNum), .p (eS e_0.fValue.fStr), .p (eL eTValue e_0.fValue.fItems), .p (eL eS e_0.fValue.fKeys), .vec 76 11 (f25.map eTExpr), .p (eI e_0.fAt)])]) ([(3, [.p (eI e_0.fKind), .p (eI e_0.fOp), .p (eS e_0.fName), .p (eS e_0.fKey), .p (eI e_0.fValue.fKind), .p (eI e_0.fValue.fNum), .p (eS e_0.fValue.fStr), .p (eL eTValue e_0.fValue.fItems), .p (eL eS e_0.fValue.fKeys), .p (eL eTExpr e_0.fKids), .p (eI e_0.fAt)]), (6, [.p (eI 0), .p (eI 0), .p (eS ([] : Bytes)), .p (eS ([] : Bytes)), .p (eI 0), .p (eI 0), .p (eS ([] : Bytes)), .p (.val (.slice none 0 0)), .p (.val (.slice none 0 0)), .p (.val (.slice none 0 0)), .p (eI 0)]), (7, [.p (eI e_0.fKind), .p (eI e_0.fOp), .p (eS o47), .p (eS e_0.fKey), .p (eI e_0.fValue.fKind), .p (eI e_0.fValue.fNum), .p (eS e_0.fValue.fStr), .p (eL eTValue e_0.fValue.fItems), .p (eL eS e_0.fValue.fKeys), .p (eL eTExpr f25), .p (eI e_0.fAt)])]) ([(7, [.p (eI e_0.fKind), .p (eI e_0.fOp), .p (eS o47), .p (eS e_0.fKey), .p (eI e_0.fValue.fKind), .p (eI e_0.fValue.fNum), .p (eS e_0.fValue.fStr), .p (eL eTValue e_0.fValue.fItems), .p (eL eS e_0.fValue.fKeys), .vec 63 11 ((f25 ++ [(lat e_0.fKids i24)]).map eTExpr), .p (eI e_0.fAt)]), (3, [.p (eI e_0.fKind), .p (eI e_0.fOp), .p (eS e_0.fName), .p (eS e_0.fKey), .p (eI e_0.fValue.fKind), .p (eI e_0.fValue.fNum), .p (eS e_0.fValue.fStr), .p (eL eTValue e_0.fValue.fItems), .p (eL eS e_0.fValue.fKeys), .p (eL eTExpr e_0.fKids), .p (eI e_0.fAt)]), (6, [.p (eI 0), .p (eI 0), .p (eS ([] : Bytes)), .p (eS ([] : Bytes)), .p (eI 0), .p (eI 0), .p (eS ([] : Bytes)), .p (.val (.slice none 0 0)), .p (.val (.slice none 0 0)), .p (.val (.slice none 0 0)), .p (eI 0)]), (7, [.p (eI e_0.fKind), .p (eI e_0.fOp), .p (eS o47), .p (eS e_0.fKey), .p (eI e_0.fValue.fKind), .p (eI e_0.fValue.fNum), .p (eS e_0.fValue.fStr), .p (eL eTValue e_0.fValue.fItems), .p (eL eS e_0.fValue.fKeys), .p (eL eTExpr f25), .p (eI e_0.fAt)])]))⟩ rfl rfl rfl ⟨rfl, rfl, rfl, rfl, rfl, rfl, rfl, trivial⟩ (lt2 ⟨rfl, rfl, rfl, rfl, rfl, rfl, rfl, trivial⟩ ⟨rfl, rfl, rfl, rfl, rfl, rfl, rfl, trivial⟩) rfl rfl rfl rfl ?_
        refine ds_pure (fun _ => .ptr 7 9) rfl rfl rfl (all3 rfl rfl (fun _ => rfl)) (lt2 rfl rfl) (stg_no rfl (stg_yes [(7, _)] ⟨.inl rfl, trivial⟩ (fun sl hsl K hK => one_op rfl (ok_fieldAddrP rfl rfl rfl rfl rfl rfl rfl rfl (hsl _ _ rfl) hK)) (stg_yes [(7, _)] ⟨.inl rfl, trivial⟩ (fun sl hsl K hK => one_op rfl (ok_fieldAddrP rfl rfl rfl rfl rfl rfl rfl rfl (hsl _ _ rfl) hK)) stg_nil))) ?_
        refine ds_pure (by3 (.vec 76 11 (f25.map eTExpr)) (.p (eL eTExpr f25)) (.p (eL eTExpr f25))) rfl rfl rfl (all3 rfl rfl (fun _ => rfl)) (lt2 rfl rfl) (stg_no rfl (stg_no rfl (stg_yes [(55, _)] ⟨.inr ⟨0, _, rfl, rfl, rfl⟩, trivial⟩ (fun sl hsl K hK => one_op rfl (ok_loadP1 rfl rfl rfl rfl rfl (hsl _ _ rfl) rfl rfl hK)) stg_nil))) ?_
        refine ds_pure (fun _ => .ptr 3 9) rfl rfl rfl (all3 rfl rfl (fun _ => rfl)) (lt2 rfl rfl) (stg_no rfl (stg_yes [(3, _)] ⟨.inl rfl, trivial⟩ (fun sl hsl K hK => one_op rfl (ok_fieldAddrP rfl rfl rfl rfl rfl rfl rfl rfl (hsl _ _ rfl) hK)) (stg_yes [(3, _)] ⟨.inl rfl, trivial⟩ (fun sl hsl K hK => one_op rfl (ok_fieldAddrP rfl rfl rfl rfl rfl rfl rfl rfl (hsl _ _ rfl) hK)) stg_nil))) ?_
        refine ds_pure (fun _ => .p (eL eTExpr e_0.fKids)) rfl rfl rfl (all3 rfl rfl (fun _ => rfl)) (lt2 rfl rfl) (stg_no rfl (stg_yes [(57, _)] ⟨.inr ⟨2, _, rfl, rfl, rfl⟩, trivial⟩ (fun sl hsl K hK => one_op rfl (ok_loadP1 rfl rfl rfl rfl rfl (hsl _ _ rfl) rfl rfl hK)) (stg_yes [(57, _)] ⟨.inr ⟨2, _, rfl, rfl, rfl⟩, trivial⟩ (fun sl hsl K hK => one_op rfl (ok_loadP1 rfl rfl rfl rfl rfl (hsl _ _ rfl) rfl rfl hK)) stg_nil))) ?_
        refine ds_pure (fun _ => .p (eI i24)) rfl rfl rfl (all3 rfl rfl (fun _ => rfl)) (lt2 rfl rfl) (stg_no rfl (stg_yes [(9, _)] ⟨.inl rfl, trivial⟩ (fun sl hsl K hK => one_op rfl (ok_move rfl rfl rfl (hsl _ _ rfl) hK)) (stg_yes [(9, _)] ⟨.inl rfl, trivial⟩ (fun sl hsl K hK => one_op rfl (ok_move rfl rfl rfl (hsl _ _ rfl) hK)) stg_nil))) ?_
        refine ds_pure (fun _ => .rptr (TExpr.cs (lat e_0.fKids i24))) rfl rfl rfl (all3 rfl rfl (fun _ => rfl)) (lt2 rfl rfl) (stg_no rfl (stg_yes [(58, _), (59, _)] ⟨.inr ⟨3, _, rfl, rfl, rfl⟩, .inr ⟨4, _, rfl, rfl, rfl⟩, trivial⟩ (fun sl hsl K hK => one_op rfl (op_at (f := eTExpr) (l := e_0.fKids) TExpr.cs rfl rfl rfl rfl rfl rfl (hsl _ _ rfl) rfl (hsl _ _ rfl) h30 TExpr.cells_eq (fun _ => rfl) hK)) (stg_yes [(58, _), (59, _)] ⟨.inr ⟨3, _, rfl, rfl, rfl⟩, .inr ⟨4, _, rfl, rfl, rfl⟩, trivial⟩ (fun sl hsl K hK => one_op rfl (op_at (f := eTExpr) (l := e_0.fKids) TExpr.cs rfl rfl rfl rfl rfl rfl (hsl _ _ rfl) rfl (hsl _ _ rfl) h30 TExpr.cells_eq (fun _ => rfl) hK)) stg_nil))) ?_
        refine ds_pure (fun _ => .p (.agg (TExpr.cs (lat e_0.fKids i24)))) rfl rfl rfl (all3 rfl rfl (fun _ => rfl)) (lt2 rfl rfl) (stg_no rfl (stg_yes [(60, _)] ⟨.inr ⟨5, _, rfl, rfl, rfl⟩, trivial⟩ (fun sl hsl K hK => one_op rfl (ok_loadRA rfl rfl rfl rfl rfl (hsl _ _ rfl) rfl hK)) (stg_yes [(60, _)] ⟨.inr ⟨5, _, rfl, rfl, rfl⟩, trivial⟩ (fun sl hsl K hK => one_op rfl (ok_loadRA rfl rfl rfl rfl rfl (hsl _ _ rfl) rfl hK)) stg_nil))) ?_
        refine ds_pure (fun _ => .p (eL eTExpr [(lat e_0.fKids i24)])) rfl rfl rfl (all3 rfl rfl (fun _ => rfl)) (lt2 rfl rfl) (stg_no rfl (stg_no rfl (stg_yes [(61, _)] ⟨.inr ⟨6, _, rfl, rfl, rfl⟩, trivial⟩ (fun sl hsl K hK => one_op rfl (op_bslice eTExpr [(lat e_0.fKids i24)] rfl rfl rfl rfl rfl rfl (elems_cons (hsl _ _ rfl) rfl elems_nil) rfl rfl rfl rfl rfl rfl (by first | rfl | (simp only [List.map_cons, List.map_nil, TExpr.agg_eq]; done) | (simp only [List.map_cons, List.map_nil, TExpr.agg_eq]; rfl)) hK)) stg_nil))) ?_
        refine ds_imp (fun _ => .vec 63 11 ((f25 ++ [(lat e_0.fKids i24)]).map eTExpr)) [(56, _), (62, _)] rfl ⟨.inr ⟨1, _, rfl, rfl, rfl⟩, .inr ⟨7, _, rfl, rfl, rfl⟩, trivial⟩ rfl rfl (fun _ => rfl) (lt2 (fun h => absurd h (by decide)) (fun _ => rfl)) (fun sl hsl K hK => one_op rfl (op_appV eTExpr f25 [(lat e_0.fKids i24)] rfl rfl rfl rfl rfl rfl rfl rfl (hsl _ _ rfl) rfl rfl (hsl _ _ rfl) rfl (fun x => congrArg List.length (TExpr.cells_eq x)) rfl rfl rfl h31 hK)) ?_
        refine ds_pure (fun _ => .ptr 7 9) rfl rfl rfl (all3 rfl rfl (fun _ => rfl)) (lt2 rfl rfl) (stg_no rfl (stg_yes [(7, _)] ⟨.inl rfl, trivial⟩ (fun sl hsl K hK => one_op rfl (ok_fieldAddrP rfl rfl rfl rfl rfl rfl rfl rfl (hsl _ _ rfl) hK)) (stg_no rfl stg_nil))) ?_
        refine ds_store [(63, _), (64, _)] rfl ⟨.inr ⟨8, _, rfl, rfl, rfl⟩, .inr ⟨9, _, rfl, rfl, rfl⟩, trivial⟩ rfl (fun sl hsl K hK => one_op rfl (ok_store rfl rfl rfl (hsl _ _ rfl) (hsl _ _ rfl) rfl rfl rfl (Nat.le_of_ble_eq_true rfl) hK)) ?_
        refine ds_nil ?_
        (repeat (first | refine uw ?_ | refine uo rfl ?_))
        have e2 := oi h2
        subst e2
        exact ghost_trans (ghost_ren 63 76 rfl rfl rfl rfl rfl) (ghost_le (le_mk ⟨er rfl, er rfl, er rfl, er rfl, er rfl, er rfl, er rfl, trivial⟩ ⟨⟨_, rfl, ⟨sr, sr, sr, sr, sr, sr, sr, sr, sr, sr, sr, trivial⟩⟩, ⟨_, rfl, ⟨sr, sr, sr, sr, sr, sr, sr, sr, sr, sr, sr, trivial⟩⟩, ⟨_, rfl, ⟨sr, sr, sr, sr, sr, sr, sr, sr, sr, sr, sr, trivial⟩⟩, trivial⟩))
       ·replace h2 := if_bf c29 h2
        obtain ⟨h32, h2⟩ := ck_cut h2
        obtain ⟨r33, e34, h2⟩ := bd_cut h2
        obtain ⟨h35, h2⟩ := ck_cut h2
        refine awp_ghost (ghost_le (t := ⟨[(1, .p (eS n_1)), (2, .p (eS m_2)), (3, .ptr 3 0), (6, .ptr 6 0), (7, .ptr 7 0), (8, .p (eB o49)), (9, .p (eI i24))], [(3, [.p (eI e_0.fKind), .p (eI e_0.fOp), .p (eS e_0.fName), .p (eS e_0.fKey), .p (eI e_0.fValue.fKind), .p (eI e_0.fValue.fNum), .p (eS e_0.fValue.fStr), .p (eL eTValue e_0.fValue.fItems), .p (eL eS e_0.fValue.fKeys), .p (eL eTExpr e_0.fKids), .p (eI e_0.fAt)]), (6, [.p (eI 0), .p (eI 0), .p (eS ([] : Bytes)), .p (eS ([] : Bytes)), .p (eI 0), .p (eI 0), .p (eS ([] : Bytes)), .p (.val (.slice none 0 0)), .p (.val (.slice none 0 0)), .p (.val (.slice none 0 0)), .p (eI 0)]), (7, [.p (eI e_0.fKind), .p (eI e_0.fOp), .p (eS o47), .p (eS e_0.fKey), .p (eI e_0.fValue.fKind), .p (eI e_0.fValue.fNum), .p (eS e_0.fValue.fStr), .p (eL eTValue e_0.fValue.fItems), .p (eL eS e_0.fValue.fKeys), .vec 76 11 (f25.map eTExpr), .p (eI e_0.fAt)])]⟩) (le_mk ⟨er rfl, er rfl, er rfl, er rfl, er rfl, er rfl, er rfl, trivial⟩ ⟨⟨_, rfl, ⟨sr, sr, sr, sr, sr, sr, sr, sr, sr, sr, sr, trivial⟩⟩, ⟨_, rfl, ⟨sr, sr, sr, sr, sr, sr, sr, sr, sr, sr, sr, trivial⟩⟩, ⟨_, rfl, ⟨sr, sr, sr, sr, sr, sr, sr, sr, sr, sr, sr, trivial⟩⟩, trivial⟩)) ?_
        refine awp_drawS ⟨2, [11, 13], (by3 (some fun i => Nat.beq i 76 || Nat.beq i 76) none none), (fun _ => [(1, .p (eS n_1)), (2, .p (eS m_2)), (3, .ptr 3 0), (6, .ptr 6 0), (7, .ptr 7 0), (8, .p (eB o49)), (9, .p (eI i24))]), (by3 ([(3, [.p (eI e_0.fKind), .p (eI e_0.fOp), .p (eS e_0.fName), .p (eS e_0.fKey), .p (eI e_0.fValue.fKind), .p (eI e_0.fValue.fNum), .p (eS e_0.fValue.fStr), .p (eL eTValue e_0.fValue.fItems), .p (eL eS e_0.fValue.fKeys), .p (eL eTExpr e_0.fKids), .p (eI e_0.fAt)]), (6, [.p (eI 0), .p (eI 0), .p (eS ([] : Bytes)), .p (eS ([] : Bytes)), .p (eI 0), .p (eI 0), .p (eS ([] : Bytes)), .p (.val (.slice none 0 0)), .p (.val (.slice none 0 0)), .p (.val (.slice none 0 0)), .p (eI 0)]), (7, [.p (eI e_0.fKind), .p (eI e_0.fOp), .p (eS o47), .p (eS e_0.fKey), .p (eI e_0.fValue.fKind), .p (eI e_0.fValue.fNum), .p (eS e_0.fValue.fStr), .p (eL eTValue e_0.fValue.fItems), .p (eL eS e_0.fValue.fKeys), .vec 76 11 (f25.map eTExpr), .p (eI e_0.fAt)])]) ([(3, [.p (eI e_0.fKind), .p (eI e_0.fOp), .p (eS e_0.fName), .p (eS e_0.fKey), .p (eI e_0.fValue.fKind), .p (eI e_0.fValue.fNum), .p (eS e_0.fValue.fStr), .p (eL eTValue e_0.fValue.fItems), .p (eL eS e_0.fValue.fKeys), .p (eL eTExpr e_0.fKids), .p (eI e_0.fAt)]), (6, [.p (eI 0), .p (eI 0), .p (eS ([] : Bytes)), .p (eS ([] : Bytes)), .p (eI 0), .p (eI 0), .p (eS ([] : Bytes)), .p (.val (.slice none 0 0)), .p (.val (.slice none 0 0)), .p (.val (.slice none 0 0)), .p (eI 0)]), (7, [.p (eI e_0.fKind), .p (eI e_0.fOp), .p (eS o47), .p (eS e_0.fKey), .p (eI e_0.fValue.fKind), .p (eI e_0.fValue.fNum), .p (eS e_0.fValue.fStr), .p (eL eTValue e_0.fValue.fItems), .p (eL eS e_0.fValue.fKeys), .p (eL eTExpr f25), .p (eI e_0.fAt)])]) ([(7, [.p (eI e_0.fKind), .p (eI e_0.fOp), .p (eS o47), .p (eS e_0.fKey), .p (eI e_0.fValue.fKind), .p (eI e_0.fValue.fNum), .p (eS e_0.fValue.fStr), .p (eL eTValue e_0.fValue.fItems), .p (eL eS e_0.fValue.fKeys), .vec 76 11 ((f25 ++ [r33]).map eTExpr), .p (eI e_0.fAt)]), (3, [.p (eI e_0.fKind), .p (eI e_0.fOp), .p (eS e_0.fName), .p (eS e_0.fKey), .p (eI e_0.fValue.fKind), .p (eI e_0.fValue.fNum), .p (eS e_0.fValue.fStr), .p (eL eTValue e_0.fValue.fItems), .p (eL eS e_0.fValue.fKeys), .p (eL eTExpr e_0.fKids), .p (eI e_0.fAt)]), (6, [.p (eI 0), .p (eI 0), .p (eS ([] : Bytes)), .p (eS ([] : Bytes)), .p (eI 0), .p (eI 0), .p (eS ([] : Bytes)), .p (.val (.slice none 0 0)), .p (.val (.slice none 0 0)), .p (.val (.slice none 0 0)), .p (eI 0)]), (7, [.p (eI e_0.fKind), .p (eI e_0.fOp), .p (eS o47), .p (eS e_0.fKey), .p (eI e_0.fValue.fKind), .p (eI e_0.fValue.fNum), .p (eS e_0.fValue.fStr), .p (eL eTValue e_0.fValue.fItems), .p (eL eS e_0.fValue.fKeys), .p (eL eTExpr f25), .p (eI e_0.fAt)])]))⟩ rfl rfl rfl ⟨rfl, rfl, rfl, rfl, rfl, rfl, rfl, trivial⟩ (lt2 ⟨rfl, rfl, rfl, rfl, rfl, rfl, rfl, trivial⟩ ⟨rfl, rfl, rfl, rfl, rfl, rfl, rfl, trivial⟩) rfl rfl rfl rfl ?_
        refine ds_pure (fun _ => .ptr 7 9) rfl rfl rfl (all3 rfl rfl (fun _ => rfl)) (lt2 rfl rfl) (stg_no rfl (stg_yes [(7, _)] ⟨.inl rfl, trivial⟩ (fun sl hsl K hK => one_op rfl (ok_fieldAddrP rfl rfl rfl rfl rfl rfl rfl rfl (hsl _ _ rfl) hK)) (stg_yes [(7, _)] ⟨.inl rfl, trivial⟩ (fun sl hsl K hK => one_op rfl (ok_fieldAddrP rfl rfl rfl rfl rfl rfl rfl rfl (hsl _ _ rfl) hK)) stg_nil))) ?_
        refine ds_pure (by3 (.vec 76 11 (f25.map eTExpr)) (.p (eL eTExpr f25)) (.p (eL eTExpr f25))) rfl rfl rfl (all3 rfl rfl (fun _ => rfl)) (lt2 rfl rfl) (stg_no rfl (stg_no rfl (stg_yes [(65, _)] ⟨.inr ⟨0, _, rfl, rfl, rfl⟩, trivial⟩ (fun sl hsl K hK => one_op rfl (ok_loadP1 rfl rfl rfl rfl rfl (hsl _ _ rfl) rfl rfl hK)) stg_nil))) ?_
        refine ds_pure (fun _ => .ptr 3 9) rfl rfl rfl (all3 rfl rfl (fun _ => rfl)) (lt2 rfl rfl) (stg_no rfl (stg_yes [(3, _)] ⟨.inl rfl, trivial⟩ (fun sl hsl K hK => one_op rfl (ok_fieldAddrP rfl rfl rfl rfl rfl rfl rfl rfl (hsl _ _ rfl) hK)) (stg_yes [(3, _)] ⟨.inl rfl, trivial⟩ (fun sl hsl K hK => one_op rfl (ok_fieldAddrP rfl rfl rfl rfl rfl rfl rfl rfl (hsl _ _ rfl) hK)) stg_nil))) ?_
        refine ds_pure (fun _ => .p (eL eTExpr e_0.fKids)) rfl rfl rfl (all3 rfl rfl (fun _ => rfl)) (lt2 rfl rfl) (stg_no rfl (stg_yes [(67, _)] ⟨.inr ⟨2, _, rfl, rfl, rfl⟩, trivial⟩ (fun sl hsl K hK => one_op rfl (ok_loadP1 rfl rfl rfl rfl rfl (hsl _ _ rfl) rfl rfl hK)) (stg_yes [(67, _)] ⟨.inr ⟨2, _, rfl, rfl, rfl⟩, trivial⟩ (fun sl hsl K hK => one_op rfl (ok_loadP1 rfl rfl rfl rfl rfl (hsl _ _ rfl) rfl rfl hK)) stg_nil))) ?_
        refine ds_pure (fun _ => .p (eI i24)) rfl rfl rfl (all3 rfl rfl (fun _ => rfl)) (lt2 rfl rfl) (stg_no rfl (stg_yes [(9, _)] ⟨.inl rfl, trivial⟩ (fun sl hsl K hK => one_op rfl (ok_move rfl rfl rfl (hsl _ _ rfl) hK)) (stg_yes [(9, _)] ⟨.inl rfl, trivial⟩ (fun sl hsl K hK => one_op rfl (ok_move rfl rfl rfl (hsl _ _ rfl) hK)) stg_nil))) ?_
        refine ds_pure (fun _ => .rptr (TExpr.cs (lat e_0.fKids i24))) rfl rfl rfl (all3 rfl rfl (fun _ => rfl)) (lt2 rfl rfl) (stg_no rfl (stg_yes [(68, _), (69, _)] ⟨.inr ⟨3, _, rfl, rfl, rfl⟩, .inr ⟨4, _, rfl, rfl, rfl⟩, trivial⟩ (fun sl hsl K hK => one_op rfl (op_at (f := eTExpr) (l := e_0.fKids) TExpr.cs rfl rfl rfl rfl rfl rfl (hsl _ _ rfl) rfl (hsl _ _ rfl) h32 TExpr.cells_eq (fun _ => rfl) hK)) (stg_yes [(68, _), (69, _)] ⟨.inr ⟨3, _, rfl, rfl, rfl⟩, .inr ⟨4, _, rfl, rfl, rfl⟩, trivial⟩ (fun sl hsl K hK => one_op rfl (op_at (f := eTExpr) (l := e_0.fKids) TExpr.cs rfl rfl rfl rfl rfl rfl (hsl _ _ rfl) rfl (hsl _ _ rfl) h32 TExpr.cells_eq (fun _ => rfl) hK)) stg_nil))) ?_
        refine ds_pure (fun _ => .p (.agg (TExpr.cs (lat e_0.fKids i24)))) rfl rfl rfl (all3 rfl rfl (fun _ => rfl)) (lt2 rfl rfl) (stg_no rfl (stg_yes [(70, _)] ⟨.inr ⟨5, _, rfl, rfl, rfl⟩, trivial⟩ (fun sl hsl K hK => one_op rfl (ok_loadRA rfl rfl rfl rfl rfl (hsl _ _ rfl) rfl hK)) (stg_yes [(70, _)] ⟨.inr ⟨5, _, rfl, rfl, rfl⟩, trivial⟩ (fun sl hsl K hK => one_op rfl (ok_loadRA rfl rfl rfl rfl rfl (hsl _ _ rfl) rfl hK)) stg_nil))) ?_
        refine ds_pure (fun _ => .p (eS n_1)) rfl rfl rfl (all3 rfl rfl (fun _ => rfl)) (lt2 rfl rfl) (stg_no rfl (stg_yes [(1, _)] ⟨.inl rfl, trivial⟩ (fun sl hsl K hK => one_op rfl (ok_move rfl rfl rfl (hsl _ _ rfl) hK)) (stg_yes [(1, _)] ⟨.inl rfl, trivial⟩ (fun sl hsl K hK => one_op rfl (ok_move rfl rfl rfl (hsl _ _ rfl) hK)) stg_nil))) ?_
        refine ds_pure (fun _ => .p (eS m_2)) rfl rfl rfl (all3 rfl rfl (fun _ => rfl)) (lt2 rfl rfl) (stg_no rfl (stg_yes [(2, _)] ⟨.inl rfl, trivial⟩ (fun sl hsl K hK => one_op rfl (ok_move rfl rfl rfl (hsl _ _ rfl) hK)) (stg_yes [(2, _)] ⟨.inl rfl, trivial⟩ (fun sl hsl K hK => one_op rfl (ok_move rfl rfl rfl (hsl _ _ rfl) hK)) stg_nil))) ?_
        refine ds_pure (fun _ => .p (.agg (TExpr.cs r33))) rfl rfl rfl (all3 rfl rfl (fun _ => rfl)) (lt2 rfl rfl) (stg_no rfl (stg_no rfl (stg_yes [(71, _), (72, _), (73, _)] ⟨.inr ⟨6, _, rfl, rfl, rfl⟩, .inr ⟨7, _, rfl, rfl, rfl⟩, .inr ⟨8, _, rfl, rfl, rfl⟩, trivial⟩ (fun sl hsl K hK => one_op rfl (ok_callP (ih_law17_renamed_ok (lat e_0.fKids i24) n_1 m_2 _ e34) rfl rfl rfl (args_cons (hsl _ _ rfl) (args_cons (hsl _ _ rfl) (args_cons (hsl _ _ rfl) args_nil))) ⟨sr, sr, sr, trivial⟩ Try.call22 rfl hK)) stg_nil))) ?_
        refine ds_pure (fun _ => .p (eL eTExpr [r33])) rfl rfl rfl (all3 rfl rfl (fun _ => rfl)) (lt2 rfl rfl) (stg_no rfl (stg_no rfl (stg_yes [(74, _)] ⟨.inr ⟨9, _, rfl, rfl, rfl⟩, trivial⟩ (fun sl hsl K hK => one_op rfl (op_bslice eTExpr [r33] rfl rfl rfl rfl rfl rfl (elems_cons (hsl _ _ rfl) rfl elems_nil) rfl rfl rfl rfl rfl rfl (by first | rfl | (simp only [List.map_cons, List.map_nil, TExpr.agg_eq]; done) | (simp only [List.map_cons, List.map_nil, TExpr.agg_eq]; rfl)) hK)) stg_nil))) ?_
        refine ds_imp (fun _ => .vec 76 11 ((f25 ++ [r33]).map eTExpr)) [(66, _), (75, _)] rfl ⟨.inr ⟨1, _, rfl, rfl, rfl⟩, .inr ⟨10, _, rfl, rfl, rfl⟩, trivial⟩ rfl rfl (fun _ => rfl) (lt2 (fun h => absurd h (by decide)) (fun _ => rfl)) (fun sl hsl K hK => one_op rfl (op_appV eTExpr f25 [r33] rfl rfl rfl rfl rfl rfl rfl rfl (hsl _ _ rfl) rfl rfl (hsl _ _ rfl) rfl (fun x => congrArg List.length (TExpr.cells_eq x)) rfl rfl rfl h35 hK)) ?_
        refine ds_pure (fun _ => .ptr 7 9) rfl rfl rfl (all3 rfl rfl (fun _ => rfl)) (lt2 rfl rfl) (stg_no rfl (stg_yes [(7, _)] ⟨.inl rfl, trivial⟩ (fun sl hsl K hK => one_op rfl (ok_fieldAddrP rfl rfl rfl rfl rfl rfl rfl rfl (hsl _ _ rfl) hK)) (stg_no rfl stg_nil))) ?_
        refine ds_store [(76, _), (77, _)] rfl ⟨.inr ⟨11, _, rfl, rfl, rfl⟩, .inr ⟨12, _, rfl, rfl, rfl⟩, trivial⟩ rfl (fun sl hsl K hK => one_op rfl (ok_store rfl rfl rfl (hsl _ _ rfl) (hsl _ _ rfl) rfl rfl rfl (Nat.le_of_ble_eq_true rfl) hK)) ?_
        refine ds_nil ?_
        (repeat (first | refine uw ?_ | refine uo rfl ?_))
        have e2 := oi h2
        subst e2
        exact ghost_le (le_mk ⟨er rfl, er rfl, er rfl, er rfl, er rfl, er rfl, er rfl, trivial⟩ ⟨⟨_, rfl, ⟨sr, sr, sr, sr, sr, sr, sr, sr, sr, sr, sr, trivial⟩⟩, ⟨_, rfl, ⟨sr, sr, sr, sr, sr, sr, sr, sr, sr, sr, sr, trivial⟩⟩, ⟨_, rfl, ⟨sr, sr, sr, sr, sr, sr, sr, sr, sr, sr, sr, trivial⟩⟩, trivial⟩)
      ·skip
       refine awp_reg ?_
       refine ro rfl (ok_move rfl rfl rfl rfl ?_)
       refine ro rfl (ok_move rfl rfl rfl rfl ?_)
       refine gd_B rfl rfl rfl (fun c27 => ?_) (fun c27 => ?_)
       ·replace h3 := if_t c27 h3
        refine gd_tt rfl rfl rfl (c27) (ok_move rfl rfl rfl rfl ?_)
        refine gd_tt rfl rfl rfl (c27) (ok_cmp rfl rfl rfl rfl rfl rfl ?_)
        refine ro rfl (ok_pick_true rfl rfl rfl rfl (c27) rfl ?_)
        refine rn ?_
        (repeat (first | refine uw ?_ | refine uo rfl ?_))
        have e3 := oi h3
        subst e3
        exact ghost_le (le_mk ⟨er rfl, er rfl, er rfl, er rfl, er rfl, er rfl, er rfl, er rfl, trivial⟩ ⟨⟨_, rfl, ⟨sr, sr, sr, sr, sr, sr, sr, sr, sr, sr, sr, trivial⟩⟩, ⟨_, rfl, ⟨sr, sr, sr, sr, sr, sr, sr, sr, sr, sr, sr, trivial⟩⟩, ⟨_, rfl, ⟨sr, sr, sr, sr, sr, sr, sr, sr, sr, sr, sr, trivial⟩⟩, trivial⟩)
       ·replace h3 := if_bf c27 h3
        refine gd_tf rfl rfl rfl (c27) rfl rfl ?_
        refine gd_tf rfl rfl rfl (c27) rfl rfl ?_
        refine ro rfl (ok_pick_false rfl rfl rfl rfl (c27) rfl ?_)
        refine rn ?_
        (repeat (first | refine uw ?_ | refine uo rfl ?_))
        have e3 := oi h3
        subst e3
        exact ghost_le (le_mk ⟨er rfl, er rfl, er rfl, er rfl, er rfl, er rfl, er rfl, er rfl, trivial⟩ ⟨⟨_, rfl, ⟨sr, sr, sr, sr, sr, sr, sr, sr, sr, sr, sr, trivial⟩⟩, ⟨_, rfl, ⟨sr, sr, sr, sr, sr, sr, sr, sr, sr, sr, sr, trivial⟩⟩, ⟨_, rfl, ⟨sr, sr, sr, sr, sr, sr, sr, sr, sr, sr, sr, trivial⟩⟩, trivial⟩)
    ·replace h1 := if_f c26 h1
     refine awp_exit ?_
     (repeat (first | refine uw ?_ | refine uo rfl ?_))
     have e1 := oi h1
     subst e1
     exact ghost_le (le_mk ⟨er rfl, er rfl, trivial⟩ ⟨⟨_, rfl, ⟨sr, sr, sr, sr, sr, sr, sr, sr, sr, sr, sr, trivial⟩⟩, ⟨_, rfl, ⟨sr, sr, sr, sr, sr, sr, sr, sr, sr, sr, sr, trivial⟩⟩, trivial⟩)
  ·skip
   refine awp_reg ?_
   refine ro rfl (ok_fieldAddrP rfl rfl rfl rfl rfl rfl rfl rfl rfl ?_)
   refine ro rfl (ok_loadP1 rfl rfl rfl rfl rfl rfl rfl rfl ?_)
   refine ro rfl (ok_cmp rfl rfl rfl rfl rfl rfl ?_)
   refine ro rfl (ok_move rfl rfl rfl rfl ?_)
   refine gd_D rfl rfl rfl (fun c5 => ?_) (fun c5 => ?_)
   ·replace h1 := if_t c5 h1
    refine gd_ft rfl rfl rfl (dt c5) rfl rfl ?_
    refine gd_ft rfl rfl rfl (dt c5) rfl rfl ?_
    refine gd_ft rfl rfl rfl (dt c5) rfl rfl ?_
    refine ro rfl (ok_pick_true rfl rfl rfl rfl (dt c5) rfl ?_)
    refine ro rfl (ok_move rfl rfl rfl rfl ?_)
    refine gd_tt rfl rfl rfl (rfl) (ok_fieldAddrP rfl rfl rfl rfl rfl rfl rfl rfl rfl ?_)
    refine gd_tt rfl rfl rfl (rfl) (ok_loadP1 rfl rfl rfl rfl rfl rfl rfl rfl ?_)
    refine gd_tt rfl rfl rfl (rfl) (ok_move rfl rfl rfl rfl ?_)
    refine gd_tt rfl rfl rfl (rfl) (ok_cmpS rfl rfl rfl rfl rfl rfl ?_)
    refine gd_tt rfl rfl rfl (rfl) (ok_move rfl rfl rfl rfl ?_)
    refine gd_D rfl rfl rfl (fun c6 => ?_) (fun c6 => ?_)
    ·replace h1 := if_t c6 h1
     refine gd_ft rfl rfl rfl (dt c6) rfl rfl ?_
     refine gd_ft rfl rfl rfl (dt c6) rfl rfl ?_
     refine gd_ft rfl rfl rfl (dt c6) rfl rfl ?_
     refine gd_ft rfl rfl rfl (dt c6) rfl rfl ?_
     refine gd_tt rfl rfl rfl (rfl) (ok_pick_true rfl rfl rfl rfl (dt c6) rfl ?_)
     refine ro rfl (ok_pick_true rfl rfl rfl rfl (rfl) rfl ?_)
     refine ro rfl (ok_assign rfl rfl rfl rfl ?_)
     refine rn ?_
     (repeat (first | refine uw ?_ | refine uo rfl ?_))
     have e1 := oi h1
     subst e1
     exact ghost_le (le_mk ⟨er rfl, er rfl, er rfl, er rfl, er rfl, er rfl, trivial⟩ ⟨⟨_, rfl, ⟨sr, sr, sr, sr, sr, sr, sr, sr, sr, sr, sr, trivial⟩⟩, ⟨_, rfl, ⟨sr, sr, sr, sr, sr, sr, sr, sr, sr, sr, sr, trivial⟩⟩, ⟨_, rfl, ⟨sr, sr, sr, sr, sr, sr, sr, sr, sr, sr, sr, trivial⟩⟩, trivial⟩)
    ·replace h1 := if_f c6 h1
     refine gd_ff rfl rfl rfl (df c6) (ok_fieldAddrP rfl rfl rfl rfl rfl rfl rfl rfl rfl ?_)
     refine gd_ff rfl rfl rfl (df c6) (ok_loadP1 rfl rfl rfl rfl rfl rfl rfl rfl ?_)
     refine gd_ff rfl rfl rfl (df c6) (ok_move rfl rfl rfl rfl ?_)
     refine gd_ff rfl rfl rfl (df c6) (ok_cmpS rfl rfl rfl rfl rfl rfl ?_)
     refine gd_tt rfl rfl rfl (rfl) (ok_pick_false rfl rfl rfl rfl (df c6) rfl ?_)
     refine ro rfl (ok_pick_true rfl rfl rfl rfl (rfl) rfl ?_)
     refine ro rfl (ok_assign rfl rfl rfl rfl ?_)
     refine rn ?_
     (repeat (first | refine uw ?_ | refine uo rfl ?_))
     have e1 := oi h1
     subst e1
     exact ghost_le (le_mk ⟨er rfl, er rfl, er rfl, er rfl, er rfl, er rfl, trivial⟩ ⟨⟨_, rfl, ⟨sr, sr, sr, sr, sr, sr, sr, sr, sr, sr, sr, trivial⟩⟩, ⟨_, rfl, ⟨sr, sr, sr, sr, sr, sr, sr, sr, sr, sr, sr, trivial⟩⟩, ⟨_, rfl, ⟨sr, sr, sr, sr, sr, sr, sr, sr, sr, sr, sr, trivial⟩⟩, trivial⟩)
   ·replace h1 := if_f c5 h1
    refine gd_ff rfl rfl rfl (df c5) (ok_fieldAddrP rfl rfl rfl rfl rfl rfl rfl rfl rfl ?_)
    refine gd_ff rfl rfl rfl (df c5) (ok_loadP1 rfl rfl rfl rfl rfl rfl rfl rfl ?_)
    refine gd_ff rfl rfl rfl (df c5) (ok_cmp rfl rfl rfl rfl rfl rfl ?_)
    refine ro rfl (ok_pick_false rfl rfl rfl rfl (df c5) rfl ?_)
    refine ro rfl (ok_move rfl rfl rfl rfl ?_)
    refine gd_D rfl rfl rfl (fun c7 => ?_) (fun c7 => ?_)
    ·replace h1 := if_t c7 h1
     refine gd_tt rfl rfl rfl (dt c7) (ok_fieldAddrP rfl rfl rfl rfl rfl rfl rfl rfl rfl ?_)
     refine gd_tt rfl rfl rfl (dt c7) (ok_loadP1 rfl rfl rfl rfl rfl rfl rfl rfl ?_)
     refine gd_tt rfl rfl rfl (dt c7) (ok_move rfl rfl rfl rfl ?_)
     refine gd_tt rfl rfl rfl (dt c7) (ok_cmpS rfl rfl rfl rfl rfl rfl ?_)
     refine gd_tt rfl rfl rfl (dt c7) (ok_move rfl rfl rfl rfl ?_)
     refine gd_D rfl rfl rfl (fun c8 => ?_) (fun c8 => ?_)
     ·replace h1 := if_t c8 h1
      refine gd_ft rfl rfl rfl (dt c8) rfl rfl ?_
      refine gd_ft rfl rfl rfl (dt c8) rfl rfl ?_
      refine gd_ft rfl rfl rfl (dt c8) rfl rfl ?_
      refine gd_ft rfl rfl rfl (dt c8) rfl rfl ?_
      refine gd_tt rfl rfl rfl (dt c7) (ok_pick_true rfl rfl rfl rfl (dt c8) rfl ?_)
      refine ro rfl (ok_pick_true rfl rfl rfl rfl (dt c7) rfl ?_)
      refine ro rfl (ok_assign rfl rfl rfl rfl ?_)
      refine rn ?_
      (repeat (first | refine uw ?_ | refine uo rfl ?_))
      have e1 := oi h1
      subst e1
      exact ghost_le (le_mk ⟨er rfl, er rfl, er rfl, er rfl, er rfl, er rfl, trivial⟩ ⟨⟨_, rfl, ⟨sr, sr, sr, sr, sr, sr, sr, sr, sr, sr, sr, trivial⟩⟩, ⟨_, rfl, ⟨sr, sr, sr, sr, sr, sr, sr, sr, sr, sr, sr, trivial⟩⟩, ⟨_, rfl, ⟨sr, sr, sr, sr, sr, sr, sr, sr, sr, sr, sr, trivial⟩⟩, trivial⟩)
     ·replace h1 := if_f c8 h1
      refine gd_ff rfl rfl rfl (df c8) (ok_fieldAddrP rfl rfl rfl rfl rfl rfl rfl rfl rfl ?_)
      refine gd_ff rfl rfl rfl (df c8) (ok_loadP1 rfl rfl rfl rfl rfl rfl rfl rfl ?_)
      refine gd_ff rfl rfl rfl (df c8) (ok_move rfl rfl rfl rfl ?_)
      refine gd_ff rfl rfl rfl (df c8) (ok_cmpS rfl rfl rfl rfl rfl rfl ?_)
      refine gd_tt rfl rfl rfl (dt c7) (ok_pick_false rfl rfl rfl rfl (df c8) rfl ?_)
      refine ro rfl (ok_pick_true rfl rfl rfl rfl (dt c7) rfl ?_)
      refine ro rfl (ok_assign rfl rfl rfl rfl ?_)
      refine rn ?_
      (repeat (first | refine uw ?_ | refine uo rfl ?_))
      have e1 := oi h1
      subst e1
      exact ghost_le (le_mk ⟨er rfl, er rfl, er rfl, er rfl, er rfl, er rfl, trivial⟩ ⟨⟨_, rfl, ⟨sr, sr, sr, sr, sr, sr, sr, sr, sr, sr, sr, trivial⟩⟩, ⟨_, rfl, ⟨sr, sr, sr, sr, sr, sr, sr, sr, sr, sr, sr, trivial⟩⟩, ⟨_, rfl, ⟨sr, sr, sr, sr, sr, sr, sr, sr, sr, sr, sr, trivial⟩⟩, trivial⟩)
    ·replace h1 := if_f c7 h1
     refine gd_tf rfl rfl rfl (df c7) rfl rfl ?_
     refine gd_tf rfl rfl rfl (df c7) rfl rfl ?_
     refine gd_tf rfl rfl rfl (df c7) rfl rfl ?_
     refine gd_tf rfl rfl rfl (df c7) rfl rfl ?_
     refine gd_tf rfl rfl rfl (df c7) rfl rfl ?_
     refine gd_none rfl rfl rfl rfl rfl ?_
     refine gd_none rfl rfl rfl rfl rfl ?_
     refine gd_none rfl rfl rfl rfl rfl ?_
     refine gd_none rfl rfl rfl rfl rfl ?_
     refine gd_tf rfl rfl rfl (df c7) rfl rfl ?_
     refine ro rfl (ok_pick_false rfl rfl rfl rfl (df c7) rfl ?_)
     refine ro rfl (ok_assign rfl rfl rfl rfl ?_)
     refine rn ?_
     (repeat (first | refine uw ?_ | refine uo rfl ?_))
     have e1 := oi h1
     subst e1
     exact ghost_le (le_mk ⟨er rfl, er rfl, er rfl, er rfl, er rfl, er rfl, trivial⟩ ⟨⟨_, rfl, ⟨sr, sr, sr, sr, sr, sr, sr, sr, sr, sr, sr, trivial⟩⟩, ⟨_, rfl, ⟨sr, sr, sr, sr, sr, sr, sr, sr, sr, sr, sr, trivial⟩⟩, ⟨_, rfl, ⟨sr, sr, sr, sr, sr, sr, sr, sr, sr, sr, sr, trivial⟩⟩, trivial⟩)
 ·skip
  refine awp_seq ?_
  obtain ⟨o58, h2, h1⟩ := bd_cut h1
  refine awp_joinN ⟨[(1, .p (eS n_1)), (2, .p (eS m_2)), (3, .ptr 3 0), (6, .ptr 6 0), (7, .ptr 7 0), (20, .p (eB o58))], [(3, [.p (eI e_0.fKind), .p (eI e_0.fOp), .p (eS e_0.fName), .p (eS e_0.fKey), .p (eI e_0.fValue.fKind), .p (eI e_0.fValue.fNum), .p (eS e_0.fValue.fStr), .p (eL eTValue e_0.fValue.fItems), .p (eL eS e_0.fValue.fKeys), .p (eL eTExpr e_0.fKids), .p (eI e_0.fAt)]), (6, [.p (eI 0), .p (eI 0), .p (eS ([] : Bytes)), .p (eS ([] : Bytes)), .p (eI 0), .p (eI 0), .p (eS ([] : Bytes)), .p (.val (.slice none 0 0)), .p (.val (.slice none 0 0)), .p (.val (.slice none 0 0)), .p (eI 0)]), (7, [.p (eI e_0.fKind), .p (eI e_0.fOp), .p (eS e_0.fName), .p (eS e_0.fKey), .p (eI e_0.fValue.fKind), .p (eI e_0.fValue.fNum), .p (eS e_0.fValue.fStr), .p (eL eTValue e_0.fValue.fItems), .p (eL eS e_0.fValue.fKeys), .p (.val (.slice none 0 0)), .p (eI e_0.fAt)])]⟩ ?_ ?_
  ·intro s' hle
   (repeat (first | refine uw ?_ | refine uo rfl ?_))
   refine awp_ghost hle ?_
   refine wp_if rfl (fun c3 => ?_) (fun c3 => ?_)
   ·replace h1 := if_t c3 h1
    refine awp_reg ?_
    refine ro rfl (ok_move rfl rfl rfl rfl ?_)
    refine ro rfl (ok_fieldAddrP rfl rfl rfl rfl rfl rfl rfl rfl rfl ?_)
    refine ro rfl (ok_store rfl rfl rfl rfl rfl rfl rfl rfl (Nat.le_of_ble_eq_true rfl) ?_)
    refine rn ?_
    (repeat (first | refine uw ?_ | refine uo rfl ?_))
    have e1 := oi h1
    subst e1
    exact ghost_le (le_mk ⟨er rfl, er rfl, er rfl, er rfl, er rfl, trivial⟩ ⟨⟨_, rfl, ⟨sr, sr, sr, sr, sr, sr, sr, sr, sr, sr, sr, trivial⟩⟩, ⟨_, rfl, ⟨sr, sr, sr, sr, sr, sr, sr, sr, sr, sr, sr, trivial⟩⟩, ⟨_, rfl, ⟨sr, sr, sr, sr, sr, sr, sr, sr, sr, sr, sr, trivial⟩⟩, trivial⟩)
   ·replace h1 := if_bf c3 h1
    refine awp_skip ?_
    (repeat (first | refine uw ?_ | refine uo rfl ?_))
    have e1 := oi h1
    subst e1
    exact ghost_le (le_mk ⟨er rfl, er rfl, er rfl, er rfl, er rfl, trivial⟩ ⟨⟨_, rfl, ⟨sr, sr, sr, sr, sr, sr, sr, sr, sr, sr, sr, trivial⟩⟩, ⟨_, rfl, ⟨sr, sr, sr, sr, sr, sr, sr, sr, sr, sr, sr, trivial⟩⟩, ⟨_, rfl, ⟨sr, sr, sr, sr, sr, sr, sr, sr, sr, sr, sr, trivial⟩⟩, trivial⟩)
  ·skip
   refine awp_reg ?_
   refine ro rfl (ok_fieldAddrP rfl rfl rfl rfl rfl rfl rfl rfl rfl ?_)
   refine ro rfl (ok_loadP1 rfl rfl rfl rfl rfl rfl rfl rfl ?_)
   refine ro rfl (ok_cmp rfl rfl rfl rfl rfl rfl ?_)
   refine ro rfl (ok_move rfl rfl rfl rfl ?_)
   refine gd_D rfl rfl rfl (fun c1 => ?_) (fun c1 => ?_)
   ·replace h2 := if_t c1 h2
    refine gd_tt rfl rfl rfl (dt c1) (ok_fieldAddrP rfl rfl rfl rfl rfl rfl rfl rfl rfl ?_)
    refine gd_tt rfl rfl rfl (dt c1) (ok_loadP1 rfl rfl rfl rfl rfl rfl rfl rfl ?_)
    refine gd_tt rfl rfl rfl (dt c1) (ok_move rfl rfl rfl rfl ?_)
    refine gd_tt rfl rfl rfl (dt c1) (ok_cmpS rfl rfl rfl rfl rfl rfl ?_)
    refine ro rfl (ok_pick_true rfl rfl rfl rfl (dt c1) rfl ?_)
    refine rn ?_
    (repeat (first | refine uw ?_ | refine uo rfl ?_))
    have e2 := oi h2
    subst e2
    exact ghost_le (le_mk ⟨er rfl, er rfl, er rfl, er rfl, er rfl, er rfl, trivial⟩ ⟨⟨_, rfl, ⟨sr, sr, sr, sr, sr, sr, sr, sr, sr, sr, sr, trivial⟩⟩, ⟨_, rfl, ⟨sr, sr, sr, sr, sr, sr, sr, sr, sr, sr, sr, trivial⟩⟩, ⟨_, rfl, ⟨sr, sr, sr, sr, sr, sr, sr, sr, sr, sr, sr, trivial⟩⟩, trivial⟩)
   ·replace h2 := if_f c1 h2
    refine gd_tf rfl rfl rfl (df c1) rfl rfl ?_
    refine gd_tf rfl rfl rfl (df c1) rfl rfl ?_
    refine gd_tf rfl rfl rfl (df c1) rfl rfl ?_
    refine gd_tf rfl rfl rfl (df c1) rfl rfl ?_
    refine ro rfl (ok_pick_false rfl rfl rfl rfl (df c1) rfl ?_)
    refine rn ?_
    (repeat (first | refine uw ?_ | refine uo rfl ?_))
    have e2 := oi h2
    subst e2
    exact ghost_le (le_mk ⟨er rfl, er rfl, er rfl, er rfl, er rfl, er rfl, trivial⟩ ⟨⟨_, rfl, ⟨sr, sr, sr, sr, sr, sr, sr, sr, sr, sr, sr, trivial⟩⟩, ⟨_, rfl, ⟨sr, sr, sr, sr, sr, sr, sr, sr, sr, sr, sr, trivial⟩⟩, ⟨_, rfl, ⟨sr, sr, sr, sr, sr, sr, sr, sr, sr, sr, sr, trivial⟩⟩, trivial⟩)

def law17_ReferenceBound_l1 (n_1 : Bytes) (r12 : (List TRef)) : Nat → Bool → Int → Option Bool
 | 0, _, _ => none
 | m + 1, refers21, i22 =>
 if i22 < (r12.length : Int) then
  (
    if refers21 = true then
     some true
    else
     ck ((0 : Int) ≤ i22 ∧ i22 < (r12.length : Int)) <|
     (law17_root (lat r12 i22)).bind fun r26 =>
     some (decide (r26 = n_1))
   : Option Bool).bind fun refers28 =>
  ck (inR (i22 + 1)) <|
  law17_ReferenceBound_l1 n_1 r12 m refers28 (i22 + 1)
 else
  some refers21

def law17_ReferenceBound (n : Nat) (e_0 : TExpr) (n_1 : Bytes) : Option Bool :=
 (
   (law17_right n e_0).bind fun r1 =>
   if (!r1) = true then
    some true
   else
    if 100 < (n_1.length : Int) then
     some true
    else
     if n_1 = ([122, 122, 95, 110, 101, 119] : Bytes) then
      some true
     else
      (law17_occurs n e_0 ([122, 122, 95, 110, 101, 119] : Bytes)).bind fun r6 =>
      some r6
  : Option Bool).bind fun t8 =>
 if t8 = true then
  (law17_awake n).bind fun r10 =>
  some r10
 else
  (reference_Of n e_0).bind fun r12 =>
  (law17_ReferenceBound_l1 n_1 r12 n false 0).bind fun refers32 =>
  (
    (law17_renamed n e_0 n_1 ([122, 122, 95, 110, 101, 119] : Bytes)).bind fun r33 =>
    (reference_Of n r33).bind fun r35 =>
    (law17_same n r12 r35).bind fun r37 =>
    if (refers32 == (!r37)) = true then
     (law17_awake n).bind fun r40 =>
     some r40
    else
     some false
   : Option Bool).bind fun t42 =>
  some t42

set_option maxHeartbeats 4000000 in
theorem law17_ReferenceBound_ok (n : Nat) (e_0 : TExpr) (n_1 : Bytes) (r : Bool) (h0 : law17_ReferenceBound n e_0 n_1 = some r) : PCalls Try.prog 5 [.agg (TExpr.cs e_0), eS n_1] (· = .p (eB r)) := by
 unfold law17_ReferenceBound at h0
 refine pbodyA good Try.func5 rfl rfl rfl fun w0 => ?_
 refine awp_seq (awp_reg ?_)
 refine ro rfl (ok_box rfl rfl rfl rfl rfl ?_)
 refine ro rfl (ok_assign rfl rfl rfl rfl ?_)
 refine rn ?_
 refine awp_seq (awp_seq ?_)
 obtain ⟨o47, h1, h0⟩ := bd_cut h0
 refine awp_joinN ⟨[(1, .p (eS n_1)), (2, .ptr 2 0), (23, .p (eB o47))], [(2, [.p (eI e_0.fKind), .p (eI e_0.fOp), .p (eS e_0.fName), .p (eS e_0.fKey), .p (eI e_0.fValue.fKind), .p (eI e_0.fValue.fNum), .p (eS e_0.fValue.fStr), .p (eL eTValue e_0.fValue.fItems), .p (eL eS e_0.fValue.fKeys), .p (eL eTExpr e_0.fKids), .p (eI e_0.fAt)])]⟩ ?_ ?_
 ·intro s' hle
  (repeat (first | refine uw ?_ | refine uo rfl ?_))
  refine awp_ghost hle ?_
  refine wp_if rfl (fun c9 => ?_) (fun c9 => ?_)
  ·replace h0 := if_t c9 h0
   refine awp_seq (awp_reg ?_)
   obtain ⟨r10, e11, h0⟩ := bd_cut h0
   refine ro rfl (ok_callP (law17_awake_ok _  _ e11) rfl rfl rfl rfl trivial Try.call9 rfl ?_)
   refine ro rfl (ok_assign rfl rfl rfl rfl ?_)
   refine rn ?_
   refine awp_ret ?_
   (repeat (first | refine uw ?_ | refine uo rfl ?_))
   have e0 := oi h0
   subst e0
   refine reta_mk rfl ?_
   exact sr
  ·replace h0 := if_bf c9 h0
   refine awp_skip (awp_seq (awp_reg ?_))
   refine ro rfl (ok_loadPA rfl rfl rfl rfl rfl rfl rfl rfl rfl ?_)
   obtain ⟨r12, e13, h0⟩ := bd_cut h0
   refine ro rfl (ok_callP (reference_Of_ok _ e_0 _ e13) rfl rfl rfl rfl ⟨sr, trivial⟩ Try.call13 rfl ?_)
   refine ro rfl (ok_assign rfl rfl rfl rfl ?_)
   refine rn ?_
   refine awp_seq (awp_reg ?_)
   refine ro rfl (ok_assign rfl rfl rfl rfl ?_)
   refine rn ?_
   refine awp_seq (awp_seq (awp_reg ?_))
   refine ro rfl (ok_assign rfl rfl rfl rfl ?_)
   refine rn ?_
   refine awp_block ?_
   obtain ⟨o49, h1, h0⟩ := bd_cut h0
   refine awp_joinE 0 ⟨[(1, .p (eS n_1)), (2, .ptr 2 0), (5, .p (eL eTRef r12)), (6, .p (eB o49))], [(2, [.p (eI e_0.fKind), .p (eI e_0.fOp), .p (eS e_0.fName), .p (eS e_0.fKey), .p (eI e_0.fValue.fKind), .p (eI e_0.fValue.fNum), .p (eS e_0.fValue.fStr), .p (eL eTValue e_0.fValue.fItems), .p (eL eS e_0.fValue.fKeys), .p (eL eTExpr e_0.fKids), .p (eI e_0.fAt)])]⟩ ?_ ?_
   ·intro s' hle
    (repeat (first | refine uw ?_ | refine uo rfl ?_))
    refine awp_ghost hle ?_
    (repeat (first | refine uw ?_ | refine uo rfl ?_))
    refine awp_seq ?_
    obtain ⟨o51, h1, h0⟩ := bd_cut h0
    refine awp_joinN ⟨[(4, .p (eB o51))], []⟩ ?_ ?_
    ·intro s' hle
     (repeat (first | refine uw ?_ | refine uo rfl ?_))
     refine awp_ghost hle ?_
     refine awp_ret ?_
     (repeat (first | refine uw ?_ | refine uo rfl ?_))
     have e0 := oi h0
     subst e0
     refine reta_mk rfl ?_
     exact sr
    ·skip
     refine awp_reg ?_
     refine ro rfl (ok_move rfl rfl rfl rfl ?_)
     refine ro rfl (ok_move rfl rfl rfl rfl ?_)
     refine ro rfl (ok_loadPA rfl rfl rfl rfl rfl rfl rfl rfl rfl ?_)
     refine ro rfl (ok_move rfl rfl rfl rfl ?_)
     obtain ⟨r33, e34, h1⟩ := bd_cut h1
     refine ro rfl (ok_callP (law17_renamed_ok _ e_0 n_1 ([122, 122, 95, 110, 101, 119] : Bytes) _ e34) rfl rfl rfl rfl ⟨sr, sr, sr, trivial⟩ Try.call22 rfl ?_)
     obtain ⟨r35, e36, h1⟩ := bd_cut h1
     refine ro rfl (ok_callP (reference_Of_ok _ r33 _ e36) rfl rfl rfl rfl ⟨sr, trivial⟩ Try.call13 rfl ?_)
     obtain ⟨r37, e38, h1⟩ := bd_cut h1
     refine ro rfl (ok_callP (law17_same_ok _ r12 r35 _ e38) rfl rfl rfl rfl ⟨sr, sr, trivial⟩ Try.call21 rfl ?_)
     refine ro rfl (ok_not rfl rfl rfl rfl ?_)
     refine ro rfl (ok_cmpB rfl rfl rfl rfl rfl rfl rfl rfl ?_)
     refine ro rfl (ok_move rfl rfl rfl rfl ?_)
     refine gd_B rfl rfl rfl (fun c39 => ?_) (fun c39 => ?_)
     ·replace h1 := if_t c39 h1
      obtain ⟨r40, e41, h1⟩ := bd_cut h1
      refine gd_tt rfl rfl rfl (c39) (ok_callP (law17_awake_ok _  _ e41) rfl rfl rfl rfl trivial Try.call9 rfl ?_)
      refine ro rfl (ok_pick_true rfl rfl rfl rfl (c39) rfl ?_)
      refine ro rfl (ok_assign rfl rfl rfl rfl ?_)
      refine rn ?_
      (repeat (first | refine uw ?_ | refine uo rfl ?_))
      have e1 := oi h1
      subst e1
      exact ghost_le (le_mk ⟨er rfl, trivial⟩ trivial)
     ·replace h1 := if_bf c39 h1
      refine gd_tf rfl rfl rfl (c39) rfl rfl ?_
      refine ro rfl (ok_pick_false rfl rfl rfl rfl (c39) rfl ?_)
      refine ro rfl (ok_assign rfl rfl rfl rfl ?_)
      refine rn ?_
      (repeat (first | refine uw ?_ | refine uo rfl ?_))
      have e1 := oi h1
      subst e1
      exact ghost_le (le_mk ⟨er rfl, trivial⟩ trivial)
   ·skip
    refine awp_loopG (fun q53 => ⟨[(1, .p (eS n_1)), (2, .ptr 2 0), (5, .p (eL eTRef r12)), (6, .p (eB q53.1)), (7, .p (eI q53.2))], [(2, [.p (eI e_0.fKind), .p (eI e_0.fOp), .p (eS e_0.fName), .p (eS e_0.fKey), .p (eI e_0.fValue.fKind), .p (eI e_0.fValue.fNum), .p (eS e_0.fValue.fStr), .p (eL eTValue e_0.fValue.fItems), .p (eL eS e_0.fValue.fKeys), .p (eL eTExpr e_0.fKids), .p (eI e_0.fAt)])]⟩) (fun m (q53 : Bool × Int) => law17_ReferenceBound_l1 n_1 r12 m q53.1 q53.2) (fun _ => rfl) (false, 0) h1 (ghost_le (le_mk ⟨er rfl, er rfl, er rfl, er rfl, er rfl, trivial⟩ ⟨⟨_, rfl, ⟨sr, sr, sr, sr, sr, sr, sr, sr, sr, sr, sr, trivial⟩⟩, trivial⟩)) ?_
    rintro m ⟨refers21, i22⟩ h1
    replace h1 : law17_ReferenceBound_l1 n_1 r12 (m + 1) refers21 i22 = some o49 := h1
    rw [law17_ReferenceBound_l1] at h1
    refine awp_seq (awp_seq (awp_reg ?_))
    refine ro rfl (ok_move rfl rfl rfl rfl ?_)
    refine ro rfl (ok_move rfl rfl rfl rfl ?_)
    refine ro rfl (op_lenL (f := eTRef) (l := r12) rfl rfl rfl rfl rfl rfl rfl ?_)
    refine ro rfl (ok_cmp rfl rfl rfl rfl rfl rfl ?_)
    refine rn ?_
    refine wp_ifD rfl (fun c23 => ?_) (fun c23 => ?_)
    ·replace h1 := if_t c23 h1
     refine awp_skip (awp_seq ?_)
     obtain ⟨o54, h2, h1⟩ := bd_cut h1
     refine awp_joinN ⟨[(1, .p (eS n_1)), (2, .ptr 2 0), (5, .p (eL eTRef r12)), (6, .p (eB o54)), (7, .p (eI i22))], [(2, [.p (eI e_0.fKind), .p (eI e_0.fOp), .p (eS e_0.fName), .p (eS e_0.fKey), .p (eI e_0.fValue.fKind), .p (eI e_0.fValue.fNum), .p (eS e_0.fValue.fStr), .p (eL eTValue e_0.fValue.fItems), .p (eL eS e_0.fValue.fKeys), .p (eL eTExpr e_0.fKids), .p (eI e_0.fAt)])]⟩ ?_ ?_
     ·intro s' hle
      (repeat (first | refine uw ?_ | refine uo rfl ?_))
      refine awp_ghost hle ?_
      refine awp_reg ?_
      refine ro rfl (ok_move rfl rfl rfl rfl ?_)
      obtain ⟨h29, h1⟩ := ck_cut h1
      refine ro rfl (ok_ar rfl rfl rfl rfl rfl rfl h29 ?_)
      refine ro rfl (ok_assign rfl rfl rfl rfl ?_)
      refine rn ?_
      (repeat (first | refine uw ?_ | refine uo rfl ?_))
      exact ⟨(o54, i22 + 1), h1, ghost_le (le_mk ⟨er rfl, er rfl, er rfl, er rfl, er rfl, trivial⟩ ⟨⟨_, rfl, ⟨sr, sr, sr, sr, sr, sr, sr, sr, sr, sr, sr, trivial⟩⟩, trivial⟩)⟩
     ·refine awp_block ?_
      refine awp_reg ?_
      refine ro rfl (ok_move rfl rfl rfl rfl ?_)
      refine ro rfl (ok_move rfl rfl rfl rfl ?_)
      refine gd_B rfl rfl rfl (fun c24 => ?_) (fun c24 => ?_)
      ·replace h2 := if_t c24 h2
       refine gd_ft rfl rfl rfl (c24) rfl rfl ?_
       refine gd_ft rfl rfl rfl (c24) rfl rfl ?_
       refine gd_ft rfl rfl rfl (c24) rfl rfl ?_
       refine gd_ft rfl rfl rfl (c24) rfl rfl ?_
       refine gd_ft rfl rfl rfl (c24) rfl rfl ?_
       refine gd_ft rfl rfl rfl (c24) rfl rfl ?_
       refine gd_ft rfl rfl rfl (c24) rfl rfl ?_
       refine ro rfl (ok_pick_true rfl rfl rfl rfl (c24) rfl ?_)
       refine ro rfl (ok_assign rfl rfl rfl rfl ?_)
       refine rn ?_
       (repeat (first | refine uw ?_ | refine uo rfl ?_))
       have e2 := oi h2
       subst e2
       exact ghost_le (le_mk ⟨er rfl, er rfl, er rfl, er rfl, er rfl, trivial⟩ ⟨⟨_, rfl, ⟨sr, sr, sr, sr, sr, sr, sr, sr, sr, sr, sr, trivial⟩⟩, trivial⟩)
      ·replace h2 := if_bf c24 h2
       refine gd_ff rfl rfl rfl (c24) (ok_move rfl rfl rfl rfl ?_)
       refine gd_ff rfl rfl rfl (c24) (ok_move rfl rfl rfl rfl ?_)
       obtain ⟨h25, h2⟩ := ck_cut h2
       refine gd_ff rfl rfl rfl (c24) (op_at (f := eTRef) (l := r12) TRef.cs rfl rfl rfl rfl rfl rfl rfl rfl rfl h25 TRef.cells_eq (fun _ => rfl) ?_)
       refine gd_ff rfl rfl rfl (c24) (ok_loadRA rfl rfl rfl rfl rfl rfl rfl ?_)
       obtain ⟨r26, e27, h2⟩ := bd_cut h2
       refine gd_ff rfl rfl rfl (c24) (ok_callP (law17_root_ok (lat r12 i22) _ e27) rfl rfl rfl rfl ⟨sr, trivial⟩ Try.call20 rfl ?_)
       refine gd_ff rfl rfl rfl (c24) (ok_move rfl rfl rfl rfl ?_)
       refine gd_ff rfl rfl rfl (c24) (ok_cmpS rfl rfl rfl rfl rfl rfl ?_)
       refine ro rfl (ok_pick_false rfl rfl rfl rfl (c24) rfl ?_)
       refine ro rfl (ok_assign rfl rfl rfl rfl ?_)
       refine rn ?_
       (repeat (first | refine uw ?_ | refine uo rfl ?_))
       have e2 := oi h2
       subst e2
       exact ghost_le (le_mk ⟨er rfl, er rfl, er rfl, er rfl, er rfl, trivial⟩ ⟨⟨_, rfl, ⟨sr, sr, sr, sr, sr, sr, sr, sr, sr, sr, sr, trivial⟩⟩, trivial⟩)
    ·replace h1 := if_f c23 h1
     refine awp_exit ?_
     (repeat (first | refine uw ?_ | refine uo rfl ?_))
     have e1 := oi h1
     subst e1
     exact ghost_le (le_mk ⟨er rfl, er rfl, er rfl, er rfl, trivial⟩ ⟨⟨_, rfl, ⟨sr, sr, sr, sr, sr, sr, sr, sr, sr, sr, sr, trivial⟩⟩, trivial⟩)
 ·skip
  refine awp_reg ?_
  refine ro rfl (ok_loadPA rfl rfl rfl rfl rfl rfl rfl rfl rfl ?_)
  obtain ⟨r1, e2, h1⟩ := bd_cut h1
  refine ro rfl (ok_callP (law17_right_ok _ e_0 _ e2) rfl rfl rfl rfl ⟨sr, trivial⟩ Try.call8 rfl ?_)
  refine ro rfl (ok_not rfl rfl rfl rfl ?_)
  refine ro rfl (ok_move rfl rfl rfl rfl ?_)
  refine gd_B rfl rfl rfl (fun c3 => ?_) (fun c3 => ?_)
  ·replace h1 := if_t c3 h1
   refine gd_ft rfl rfl rfl (c3) rfl rfl ?_
   refine gd_ft rfl rfl rfl (c3) rfl rfl ?_
   refine gd_ft rfl rfl rfl (c3) rfl rfl ?_
   refine ro rfl (ok_pick_true rfl rfl rfl rfl (c3) rfl ?_)
   refine ro rfl (ok_move rfl rfl rfl rfl ?_)
   refine gd_ft rfl rfl rfl (rfl) rfl rfl ?_
   refine gd_ft rfl rfl rfl (rfl) rfl rfl ?_
   refine ro rfl (ok_pick_true rfl rfl rfl rfl (rfl) rfl ?_)
   refine ro rfl (ok_move rfl rfl rfl rfl ?_)
   refine gd_ft rfl rfl rfl (rfl) rfl rfl ?_
   refine gd_ft rfl rfl rfl (rfl) rfl rfl ?_
   refine ro rfl (ok_pick_true rfl rfl rfl rfl (rfl) rfl ?_)
   refine rn ?_
   (repeat (first | refine uw ?_ | refine uo rfl ?_))
   have e1 := oi h1
   subst e1
   exact ghost_le (le_mk ⟨er rfl, er rfl, er rfl, trivial⟩ ⟨⟨_, rfl, ⟨sr, sr, sr, sr, sr, sr, sr, sr, sr, sr, sr, trivial⟩⟩, trivial⟩)
  ·replace h1 := if_bf c3 h1
   refine gd_ff rfl rfl rfl (c3) (ok_move rfl rfl rfl rfl ?_)
   refine gd_ff rfl rfl rfl (c3) (ok_lenS rfl rfl rfl rfl rfl rfl ?_)
   refine gd_ff rfl rfl rfl (c3) (ok_cmp rfl rfl rfl rfl rfl rfl ?_)
   refine ro rfl (ok_pick_false rfl rfl rfl rfl (c3) rfl ?_)
   refine ro rfl (ok_move rfl rfl rfl rfl ?_)
   refine gd_D rfl rfl rfl (fun c4 => ?_) (fun c4 => ?_)
   ·replace h1 := if_t c4 h1
    refine gd_ft rfl rfl rfl (dt c4) rfl rfl ?_
    refine gd_ft rfl rfl rfl (dt c4) rfl rfl ?_
    refine ro rfl (ok_pick_true rfl rfl rfl rfl (dt c4) rfl ?_)
    refine ro rfl (ok_move rfl rfl rfl rfl ?_)
    refine gd_ft rfl rfl rfl (rfl) rfl rfl ?_
    refine gd_ft rfl rfl rfl (rfl) rfl rfl ?_
    refine ro rfl (ok_pick_true rfl rfl rfl rfl (rfl) rfl ?_)
    refine rn ?_
    (repeat (first | refine uw ?_ | refine uo rfl ?_))
    have e1 := oi h1
    subst e1
    exact ghost_le (le_mk ⟨er rfl, er rfl, er rfl, trivial⟩ ⟨⟨_, rfl, ⟨sr, sr, sr, sr, sr, sr, sr, sr, sr, sr, sr, trivial⟩⟩, trivial⟩)
   ·replace h1 := if_f c4 h1
    refine gd_ff rfl rfl rfl (df c4) (ok_move rfl rfl rfl rfl ?_)
    refine gd_ff rfl rfl rfl (df c4) (ok_cmpS rfl rfl rfl rfl rfl rfl ?_)
    refine ro rfl (ok_pick_false rfl rfl rfl rfl (df c4) rfl ?_)
    refine ro rfl (ok_move rfl rfl rfl rfl ?_)
    refine gd_D rfl rfl rfl (fun c5 => ?_) (fun c5 => ?_)
    ·replace h1 := if_t c5 h1
     refine gd_ft rfl rfl rfl (dt c5) rfl rfl ?_
     refine gd_ft rfl rfl rfl (dt c5) rfl rfl ?_
     refine ro rfl (ok_pick_true rfl rfl rfl rfl (dt c5) rfl ?_)
     refine rn ?_
     (repeat (first | refine uw ?_ | refine uo rfl ?_))
     have e1 := oi h1
     subst e1
     exact ghost_le (le_mk ⟨er rfl, er rfl, er rfl, trivial⟩ ⟨⟨_, rfl, ⟨sr, sr, sr, sr, sr, sr, sr, sr, sr, sr, sr, trivial⟩⟩, trivial⟩)
    ·replace h1 := if_f c5 h1
     refine gd_ff rfl rfl rfl (df c5) (ok_loadPA rfl rfl rfl rfl rfl rfl rfl rfl rfl ?_)
     obtain ⟨r6, e7, h1⟩ := bd_cut h1
     refine gd_ff rfl rfl rfl (df c5) (ok_callP (law17_occurs_ok _ e_0 ([122, 122, 95, 110, 101, 119] : Bytes) _ e7) rfl rfl rfl rfl ⟨sr, sr, trivial⟩ Try.call19 rfl ?_)
     refine ro rfl (ok_pick_false rfl rfl rfl rfl (df c5) rfl ?_)
     refine rn ?_
     (repeat (first | refine uw ?_ | refine uo rfl ?_))
     have e1 := oi h1
     subst e1
     exact ghost_le (le_mk ⟨er rfl, er rfl, er rfl, trivial⟩ ⟨⟨_, rfl, ⟨sr, sr, sr, sr, sr, sr, sr, sr, sr, sr, sr, trivial⟩⟩, trivial⟩)

end Go.Ab.R17
