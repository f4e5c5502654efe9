/- Chapter 17. -/
import Derived.Test.YtmpmphkpplgbkaaDat17
import Derived.Test.YtmpmphkpplgbkaaC17
import Derived.Test.YtmpmphkpplgbkaaAbSq
import Derived.Test.YtmpmphkpplgbkaaTy
set_option linter.unusedVariables false
set_option linter.unusedSimpArgs false
set_option linter.unnecessarySimpa false
namespace Go.Ab.R17
open Go.Proofs Go.Ab
attribute [local irreducible] awp rwpL OpOk PCalls OCalls AV.sub

def slices_IndexFunc_api_Expr_api_Expr_l1 (s_0 : List TExpr) (f_1 : TExpr → Option Bool) : Nat → Int → Option (Unit ⊕ Int)
 | 0, _ => none
 | m + 1, t8 =>
 if t8 < (s_0.length : Int) then
  ck ((0 : Int) ≤ t8 ∧ t8 < (s_0.length : Int)) <|
  (f_1 (lat s_0 t8)).bind fun r11 =>
  if r11 = true then
   some (.inr t8)
  else
   ck (inR (t8 + 1)) <|
   slices_IndexFunc_api_Expr_api_Expr_l1 s_0 f_1 m (t8 + 1)
 else
  some (.inl ())

def slices_IndexFunc_api_Expr_api_Expr (n : Nat) (s_0 : List TExpr) (f_1 : TExpr → Option Bool) : Option Int :=
 jn (slices_IndexFunc_api_Expr_api_Expr_l1 s_0 f_1 n 0) fun q16 =>
 some (-1)

set_option maxHeartbeats 4000000 in
theorem slices_IndexFunc_api_Expr_api_Expr_ok (n : Nat) (s_0 : List TExpr) (f_1 : TExpr → Option Bool) (F_f_1 : FuncId) (C_f_1 : List AV) (K_f_1 : AV.mapA.go (fun _ => none) C_f_1 = some C_f_1) (E_f_1 : ∀ vs w, (callFunc F_f_1 vs).run Try.prog w = .ok (.enter F_f_1 vs) w) (H_f_1 : ∀ (x0 : TExpr) r, f_1 x0 = some r → QCalls Try.prog F_f_1 ([.p (.agg (TExpr.cs x0))] ++ C_f_1) (· = .p (eB r))) (r : Int) (h0 : slices_IndexFunc_api_Expr_api_Expr n s_0 f_1 = some r) : QCalls Try.prog 46 [.p (eL eTExpr s_0), .func (.func F_f_1) C_f_1] (· = .p (eI r)) := by
 unfold slices_IndexFunc_api_Expr_api_Expr at h0
 refine qbodyA good Try.func46 rfl rfl rfl fun w0 => ?_
 refine awp_seq (awp_reg ?_)
 refine ro rfl (ok_assign rfl rfl rfl rfl ?_)
 refine rn ?_
 refine awp_seq (awp_seq (awp_reg ?_))
 refine ro rfl (ok_move rfl rfl rfl rfl ?_)
 refine ro rfl (op_lenL (f := eTExpr) (l := s_0) rfl rfl rfl rfl rfl rfl rfl ?_)
 refine ro rfl (ok_move rfl rfl rfl rfl ?_)
 refine rn ?_
 refine awp_block ?_
 obtain ⟨o17, h1, hL0, hR0⟩ := jn_cut h0
 refine awp_joinEx 0 (fun v18 : Unit => o17 = .inl v18) (fun v18 => ⟨[], []⟩) ?_ ?_
 ·rintro s' ⟨v18, hv, hle⟩
  have h0 := hL0 _ hv
  (repeat (first | refine uw ?_ | refine uo rfl ?_))
  refine awp_ghost hle ?_
  (repeat (first | refine uw ?_ | refine uo rfl ?_))
  refine awp_seq (awp_reg ?_)
  refine ro rfl (ok_assign rfl rfl rfl rfl ?_)
  refine rn ?_
  refine awp_ret ?_
  (repeat (first | refine uw ?_ | refine uo rfl ?_))
  have e0 := oi h0
  subst e0
  refine reta_mk rfl ?_
  exact sr
 ·skip
  refine awp_loopG (fun q19 => ⟨[(0, .p (eL eTExpr s_0)), (1, .func (.func F_f_1) C_f_1), (7, .p (eI (s_0.length : Int))), (8, .p (eI q19))], []⟩) (fun m (q19 : Int) => slices_IndexFunc_api_Expr_api_Expr_l1 s_0 f_1 m q19) (fun _ => rfl) 0 h1 (ghost_le (le_mk ⟨er rfl, er rfl, er rfl, er rfl, trivial⟩ trivial)) ?_
  rintro m t8 h1
  replace h1 : slices_IndexFunc_api_Expr_api_Expr_l1 s_0 f_1 (m + 1) t8 = some o17 := h1
  rw [slices_IndexFunc_api_Expr_api_Expr_l1] at h1
  refine awp_seq (awp_reg ?_)
  refine ro rfl (ok_cmp rfl rfl rfl rfl rfl rfl ?_)
  refine rn ?_
  refine awp_seq ?_
  refine wp_ifD rfl (fun c9 => ?_) (fun c9 => ?_)
  ·replace h1 := if_t c9 h1
   refine awp_skip (awp_seq (awp_block (awp_seq (awp_reg ?_))))
   refine ro rfl (ok_move rfl rfl rfl rfl ?_)
   refine ro rfl (ok_assign rfl rfl rfl rfl ?_)
   refine rn ?_
   refine awp_seq (awp_reg ?_)
   refine ro rfl (ok_move rfl rfl rfl rfl ?_)
   refine ro rfl (ok_move rfl rfl rfl rfl ?_)
   refine ro rfl (ok_move rfl rfl rfl rfl ?_)
   obtain ⟨h10, h1⟩ := ck_cut h1
   refine ro rfl (op_at (f := eTExpr) (l := s_0) TExpr.cs rfl rfl rfl rfl rfl rfl rfl rfl rfl h10 TExpr.cells_eq (fun _ => rfl) ?_)
   refine ro rfl (ok_loadRA rfl rfl rfl rfl rfl rfl rfl ?_)
   obtain ⟨r11, e12, h1⟩ := bd_cut h1
   refine ro rfl (ok_callF (H_f_1 (lat s_0 t8) _ e12) rfl rfl rfl rfl K_f_1 rfl rfl ⟨sr, trivial⟩ E_f_1 rfl ?_)
   refine rn ?_
   refine wp_if rfl (fun c13 => ?_) (fun c13 => ?_)
   ·replace h1 := if_t c13 h1
    refine awp_seq (awp_reg ?_)
    refine ro rfl (ok_move rfl rfl rfl rfl ?_)
    refine ro rfl (ok_assign rfl rfl rfl rfl ?_)
    refine rn ?_
    refine awp_ret ?_
    (repeat (first | refine uw ?_ | refine uo rfl ?_))
    have e1 := oi h1
    have e0 := hR0 _ e1.symm
    subst e0
    refine reta_mk rfl ?_
    exact sr
   ·replace h1 := if_bf c13 h1
    refine awp_skip ?_
    (repeat (first | refine uw ?_ | refine uo rfl ?_))
    refine awp_reg ?_
    obtain ⟨h14, h1⟩ := ck_cut h1
    refine ro rfl (ok_ar rfl rfl rfl rfl rfl rfl h14 ?_)
    refine ro rfl (ok_move rfl rfl rfl rfl ?_)
    refine rn ?_
    (repeat (first | refine uw ?_ | refine uo rfl ?_))
    exact ⟨(t8 + 1), h1, ghost_le (le_mk ⟨er rfl, er rfl, er rfl, er rfl, trivial⟩ trivial)⟩
  ·replace h1 := if_f c9 h1
   refine awp_exit ?_
   (repeat (first | refine uw ?_ | refine uo rfl ?_))
   have e1 := oi h1
   exact ⟨_, e1.symm, ghost_le (le_mk trivial trivial)⟩

def slices_ContainsFunc_api_Expr_api_Expr (n : Nat) (s_0 : List TExpr) (f_1 : TExpr → Option Bool) : Option Bool :=
 (slices_IndexFunc_api_Expr_api_Expr n s_0 f_1).bind fun r1 =>
 some (decide (0 ≤ r1))

set_option maxHeartbeats 4000000 in
theorem slices_ContainsFunc_api_Expr_api_Expr_ok (n : Nat) (s_0 : List TExpr) (f_1 : TExpr → Option Bool) (F_f_1 : FuncId) (C_f_1 : List AV) (K_f_1 : AV.mapA.go (fun _ => none) C_f_1 = some C_f_1) (E_f_1 : ∀ vs w, (callFunc F_f_1 vs).run Try.prog w = .ok (.enter F_f_1 vs) w) (H_f_1 : ∀ (x0 : TExpr) r, f_1 x0 = some r → QCalls Try.prog F_f_1 ([.p (.agg (TExpr.cs x0))] ++ C_f_1) (· = .p (eB r))) (r : Bool) (h0 : slices_ContainsFunc_api_Expr_api_Expr n s_0 f_1 = some r) : QCalls Try.prog 32 [.p (eL eTExpr s_0), .func (.func F_f_1) C_f_1] (· = .p (eB r)) := by
 unfold slices_ContainsFunc_api_Expr_api_Expr at h0
 refine qbodyA good Try.func32 rfl rfl rfl fun w0 => ?_
 refine awp_seq (awp_reg ?_)
 refine ro rfl (ok_assign rfl rfl rfl rfl ?_)
 refine rn ?_
 refine awp_seq (awp_reg ?_)
 refine ro rfl (ok_move rfl rfl rfl rfl ?_)
 refine ro rfl (ok_move rfl rfl rfl rfl ?_)
 obtain ⟨r1, e2, h0⟩ := bd_cut h0
 refine ro rfl (ok_callQ (slices_IndexFunc_api_Expr_api_Expr_ok _ s_0 f_1 F_f_1 C_f_1 K_f_1 E_f_1 H_f_1 _ e2) rfl rfl rfl rfl (mapAgo_cons rfl (mapAgo_cons (mapA_func K_f_1) mapAgo_nil)) ⟨sr, sr, trivial⟩ Try.call46 rfl ?_)
 refine ro rfl (ok_cmp rfl rfl rfl rfl rfl rfl ?_)
 refine ro rfl (ok_assign rfl rfl rfl rfl ?_)
 refine rn ?_
 refine awp_ret ?_
 (repeat (first | refine uw ?_ | refine uo rfl ?_))
 have e0 := oi h0
 subst e0
 refine reta_mk rfl ?_
 exact sr

def reference_Parse_1 (s_0 : TExpr) : Option Bool :=
 some (decide (s_0.fKind = 5))

set_option maxHeartbeats 4000000 in
theorem reference_Parse_1_ok (s_0 : TExpr) (r : Bool) (h0 : reference_Parse_1 s_0 = some r) : PCalls Try.prog 33 [.agg (TExpr.cs s_0)] (· = .p (eB r)) := by
 unfold reference_Parse_1 at h0
 refine pbodyA good Try.func33 rfl rfl rfl fun w0 => ?_
 refine awp_seq (awp_reg ?_)
 refine ro rfl (ok_box rfl rfl rfl rfl rfl ?_)
 refine ro rfl (ok_assign rfl rfl rfl rfl ?_)
 refine rn ?_
 refine awp_seq (awp_reg ?_)
 refine ro rfl (ok_fieldAddrP rfl rfl rfl rfl rfl rfl rfl rfl rfl ?_)
 refine ro rfl (ok_loadP1 rfl rfl rfl rfl rfl rfl rfl rfl ?_)
 refine ro rfl (ok_cmp rfl rfl rfl rfl rfl rfl ?_)
 refine ro rfl (ok_assign rfl rfl rfl rfl ?_)
 refine rn ?_
 refine awp_ret ?_
 (repeat (first | refine uw ?_ | refine uo rfl ?_))
 have e0 := oi h0
 subst e0
 refine reta_mk rfl ?_
 exact sr

def reference_attr (steps_0 : List TExpr) (i_1 : Int) : Option (Bytes × Bool) :=
 (
   if (steps_0.length : Int) ≤ i_1 then
    some true
   else
    ck ((0 : Int) ≤ i_1 ∧ i_1 < (steps_0.length : Int)) <|
    some (!decide ((lat steps_0 i_1).fKind = 4))
  : Option Bool).bind fun t3 =>
 if t3 = true then
  some (([] : Bytes), false)
 else
  ck ((0 : Int) ≤ i_1 ∧ i_1 < (steps_0.length : Int)) <|
  some ((lat steps_0 i_1).fName, true)

set_option maxHeartbeats 4000000 in
theorem reference_attr_ok (steps_0 : List TExpr) (i_1 : Int) (r : Bytes × Bool) (h0 : reference_attr steps_0 i_1 = some r) : PCalls Try.prog 47 [eL eTExpr steps_0, eI i_1] (· = .tuple [.p (eS r.1), .p (eB r.2)]) := by
 unfold reference_attr at h0
 refine pbodyA good Try.func47 rfl rfl rfl fun w0 => ?_
 refine awp_seq (awp_reg ?_)
 refine ro rfl (ok_assign rfl rfl rfl rfl ?_)
 refine ro rfl (ok_assign rfl rfl rfl rfl ?_)
 refine rn ?_
 refine awp_seq (awp_seq ?_)
 obtain ⟨o7, h1, h0⟩ := bd_cut h0
 refine awp_joinN ⟨[(0, .p (eL eTExpr steps_0)), (1, .p (eI i_1)), (17, .p (eB o7))], []⟩ ?_ ?_
 ·intro s' hle
  (repeat (first | refine uw ?_ | refine uo rfl ?_))
  refine awp_ghost hle ?_
  refine wp_if rfl (fun c4 => ?_) (fun c4 => ?_)
  ·replace h0 := if_t c4 h0
   refine awp_seq (awp_reg ?_)
   refine ro rfl (ok_assign rfl rfl rfl rfl ?_)
   refine ro rfl (ok_assign rfl rfl rfl rfl ?_)
   refine rn ?_
   refine awp_ret ?_
   (repeat (first | refine uw ?_ | refine uo rfl ?_))
   have e0 := oi h0
   subst e0
   refine reta_mk rfl ?_
   exact sub_tuple ⟨sr, sr, trivial⟩
  ·replace h0 := if_bf c4 h0
   refine awp_skip (awp_seq (awp_reg ?_))
   refine ro rfl (ok_move rfl rfl rfl rfl ?_)
   refine ro rfl (ok_move rfl rfl rfl rfl ?_)
   obtain ⟨h5, h0⟩ := ck_cut h0
   refine ro rfl (op_at (f := eTExpr) (l := steps_0) TExpr.cs rfl rfl rfl rfl rfl rfl rfl rfl rfl h5 TExpr.cells_eq (fun _ => rfl) ?_)
   refine ro rfl (ok_fieldAddrR rfl rfl rfl rfl rfl rfl rfl rfl rfl ?_)
   refine ro rfl (ok_loadR1 rfl rfl rfl rfl rfl rfl rfl ?_)
   refine ro rfl (ok_assign rfl rfl rfl rfl ?_)
   refine ro rfl (ok_assign rfl rfl rfl rfl ?_)
   refine rn ?_
   refine awp_ret ?_
   (repeat (first | refine uw ?_ | refine uo rfl ?_))
   have e0 := oi h0
   subst e0
   refine reta_mk rfl ?_
   exact sub_tuple ⟨sr, sr, trivial⟩
 ·skip
  refine awp_reg ?_
  refine ro rfl (ok_move rfl rfl rfl rfl ?_)
  refine ro rfl (ok_move rfl rfl rfl rfl ?_)
  refine ro rfl (op_lenL (f := eTExpr) (l := steps_0) rfl rfl rfl rfl rfl rfl rfl ?_)
  refine ro rfl (ok_cmp rfl rfl rfl rfl rfl rfl ?_)
  refine ro rfl (ok_move rfl rfl rfl rfl ?_)
  refine gd_D rfl rfl rfl (fun c1 => ?_) (fun c1 => ?_)
  ·replace h1 := if_t c1 h1
   refine gd_ft rfl rfl rfl (dt c1) rfl rfl ?_
   refine gd_ft rfl rfl rfl (dt c1) rfl rfl ?_
   refine gd_ft rfl rfl rfl (dt c1) rfl rfl ?_
   refine gd_ft rfl rfl rfl (dt c1) rfl rfl ?_
   refine gd_ft rfl rfl rfl (dt c1) rfl rfl ?_
   refine gd_ft rfl rfl rfl (dt c1) rfl rfl ?_
   refine ro rfl (ok_pick_true rfl rfl rfl rfl (dt c1) rfl ?_)
   refine rn ?_
   (repeat (first | refine uw ?_ | refine uo rfl ?_))
   have e1 := oi h1
   subst e1
   exact ghost_le (le_mk ⟨er rfl, er rfl, er rfl, trivial⟩ trivial)
  ·replace h1 := if_f c1 h1
   refine gd_ff rfl rfl rfl (df c1) (ok_move rfl rfl rfl rfl ?_)
   refine gd_ff rfl rfl rfl (df c1) (ok_move rfl rfl rfl rfl ?_)
   obtain ⟨h2, h1⟩ := ck_cut h1
   refine gd_ff rfl rfl rfl (df c1) (op_at (f := eTExpr) (l := steps_0) TExpr.cs rfl rfl rfl rfl rfl rfl rfl rfl rfl h2 TExpr.cells_eq (fun _ => rfl) ?_)
   refine gd_ff rfl rfl rfl (df c1) (ok_fieldAddrR rfl rfl rfl rfl rfl rfl rfl rfl rfl ?_)
   refine gd_ff rfl rfl rfl (df c1) (ok_loadR1 rfl rfl rfl rfl rfl rfl rfl ?_)
   refine gd_ff rfl rfl rfl (df c1) (ok_cmp rfl rfl rfl rfl rfl rfl ?_)
   refine ro rfl (ok_pick_false rfl rfl rfl rfl (df c1) rfl ?_)
   refine rn ?_
   (repeat (first | refine uw ?_ | refine uo rfl ?_))
   have e1 := oi h1
   subst e1
   exact ghost_le (le_mk ⟨er rfl, er rfl, er rfl, trivial⟩ trivial)

def reference_plain (root_0 : Bytes) : Option (Int × Bool) :=
 if root_0 = ([118, 97, 114] : Bytes) then
  some (1, true)
 else
  if root_0 = ([108, 111, 99, 97, 108] : Bytes) then
   some (2, true)
  else
   if root_0 = ([101, 97, 99, 104] : Bytes) then
    some (6, true)
   else
    if root_0 = ([99, 111, 117, 110, 116] : Bytes) then
     some (7, true)
    else
     if root_0 = ([114, 101, 109, 111, 116, 101] : Bytes) then
      some (8, true)
     else
      some (0, false)

set_option maxHeartbeats 4000000 in
theorem reference_plain_ok (root_0 : Bytes) (r : Int × Bool) (h0 : reference_plain root_0 = some r) : PCalls Try.prog 48 [eS root_0] (· = .tuple [.p (eI r.1), .p (eB r.2)]) := by
 unfold reference_plain at h0
 refine pbodyA good Try.func48 rfl rfl rfl fun w0 => ?_
 refine awp_seq (awp_reg ?_)
 refine ro rfl (ok_assign rfl rfl rfl rfl ?_)
 refine ro rfl (ok_assign rfl rfl rfl rfl ?_)
 refine rn ?_
 refine awp_seq (awp_seq (awp_reg ?_))
 refine ro rfl (ok_move rfl rfl rfl rfl ?_)
 refine rn ?_
 refine awp_block (awp_seq (awp_reg ?_))
 refine ro rfl (ok_cmpS rfl rfl rfl rfl rfl rfl ?_)
 refine ro rfl (ok_assign rfl rfl rfl rfl ?_)
 refine rn ?_
 refine wp_ifD rfl (fun c1 => ?_) (fun c1 => ?_)
 ·replace h0 := if_t c1 h0
  refine awp_seq (awp_reg ?_)
  refine ro rfl (ok_assign rfl rfl rfl rfl ?_)
  refine ro rfl (ok_assign rfl rfl rfl rfl ?_)
  refine rn ?_
  refine awp_ret ?_
  (repeat (first | refine uw ?_ | refine uo rfl ?_))
  have e0 := oi h0
  subst e0
  refine reta_mk rfl ?_
  exact sub_tuple ⟨sr, sr, trivial⟩
 ·replace h0 := if_f c1 h0
  refine awp_seq (awp_reg ?_)
  refine ro rfl (ok_cmpS rfl rfl rfl rfl rfl rfl ?_)
  refine ro rfl (ok_assign rfl rfl rfl rfl ?_)
  refine rn ?_
  refine wp_ifD rfl (fun c2 => ?_) (fun c2 => ?_)
  ·replace h0 := if_t c2 h0
   refine awp_seq (awp_reg ?_)
   refine ro rfl (ok_assign rfl rfl rfl rfl ?_)
   refine ro rfl (ok_assign rfl rfl rfl rfl ?_)
   refine rn ?_
   refine awp_ret ?_
   (repeat (first | refine uw ?_ | refine uo rfl ?_))
   have e0 := oi h0
   subst e0
   refine reta_mk rfl ?_
   exact sub_tuple ⟨sr, sr, trivial⟩
  ·replace h0 := if_f c2 h0
   refine awp_seq (awp_reg ?_)
   refine ro rfl (ok_cmpS rfl rfl rfl rfl rfl rfl ?_)
   refine ro rfl (ok_assign rfl rfl rfl rfl ?_)
   refine rn ?_
   refine wp_ifD rfl (fun c3 => ?_) (fun c3 => ?_)
   ·replace h0 := if_t c3 h0
    refine awp_seq (awp_reg ?_)
    refine ro rfl (ok_assign rfl rfl rfl rfl ?_)
    refine ro rfl (ok_assign rfl rfl rfl rfl ?_)
    refine rn ?_
    refine awp_ret ?_
    (repeat (first | refine uw ?_ | refine uo rfl ?_))
    have e0 := oi h0
    subst e0
    refine reta_mk rfl ?_
    exact sub_tuple ⟨sr, sr, trivial⟩
   ·replace h0 := if_f c3 h0
    refine awp_seq (awp_reg ?_)
    refine ro rfl (ok_cmpS rfl rfl rfl rfl rfl rfl ?_)
    refine ro rfl (ok_assign rfl rfl rfl rfl ?_)
    refine rn ?_
    refine wp_ifD rfl (fun c4 => ?_) (fun c4 => ?_)
    ·replace h0 := if_t c4 h0
     refine awp_seq (awp_reg ?_)
     refine ro rfl (ok_assign rfl rfl rfl rfl ?_)
     refine ro rfl (ok_assign rfl rfl rfl rfl ?_)
     refine rn ?_
     refine awp_ret ?_
     (repeat (first | refine uw ?_ | refine uo rfl ?_))
     have e0 := oi h0
     subst e0
     refine reta_mk rfl ?_
     exact sub_tuple ⟨sr, sr, trivial⟩
    ·replace h0 := if_f c4 h0
     refine awp_seq (awp_reg ?_)
     refine ro rfl (ok_cmpS rfl rfl rfl rfl rfl rfl ?_)
     refine ro rfl (ok_assign rfl rfl rfl rfl ?_)
     refine rn ?_
     refine wp_ifD rfl (fun c5 => ?_) (fun c5 => ?_)
     ·replace h0 := if_t c5 h0
      refine awp_seq (awp_reg ?_)
      refine ro rfl (ok_assign rfl rfl rfl rfl ?_)
      refine ro rfl (ok_assign rfl rfl rfl rfl ?_)
      refine rn ?_
      refine awp_ret ?_
      (repeat (first | refine uw ?_ | refine uo rfl ?_))
      have e0 := oi h0
      subst e0
      refine reta_mk rfl ?_
      exact sub_tuple ⟨sr, sr, trivial⟩
     ·replace h0 := if_f c5 h0
      refine awp_skip ?_
      (repeat (first | refine uw ?_ | refine uo rfl ?_))
      refine awp_seq (awp_reg ?_)
      refine ro rfl (ok_assign rfl rfl rfl rfl ?_)
      refine ro rfl (ok_assign rfl rfl rfl rfl ?_)
      refine rn ?_
      refine awp_ret ?_
      (repeat (first | refine uw ?_ | refine uo rfl ?_))
      have e0 := oi h0
      subst e0
      refine reta_mk rfl ?_
      exact sub_tuple ⟨sr, sr, trivial⟩

def reference_module (name_0 : Bytes) (steps_1 : List TExpr) (at_2 : Int) : Option (TRef × Int) :=
 (reference_attr steps_1 1).bind fun r1 =>
 if r1.2 = true then
  some ((TRef.mk 5 r1.1 name_0 at_2), 2)
 else
  (reference_attr steps_1 2).bind fun r4 =>
  if r4.2 = true then
   some ((TRef.mk 5 r4.1 name_0 at_2), 3)
  else
   some ((TRef.mk 5 ([] : Bytes) name_0 at_2), 1)

set_option maxHeartbeats 4000000 in
theorem reference_module_ok (name_0 : Bytes) (steps_1 : List TExpr) (at_2 : Int) (r : TRef × Int) (h0 : reference_module name_0 steps_1 at_2 = some r) : PCalls Try.prog 49 [eS name_0, eL eTExpr steps_1, eI at_2] (· = .tuple [.p (.agg (TRef.cs r.1)), .p (eI r.2)]) := by
 unfold reference_module at h0
 refine pbodyA good Try.func49 rfl rfl rfl fun w0 => ?_
 refine awp_seq (awp_reg ?_)
 refine ro rfl (ok_alloc rfl rfl rfl rfl rfl ?_)
 refine ro rfl (ok_assign rfl rfl rfl rfl ?_)
 refine rn ?_
 refine awp_seq (awp_reg ?_)
 refine ro rfl (ok_move rfl rfl rfl rfl ?_)
 refine ro rfl (ok_move rfl rfl rfl rfl ?_)
 refine ro rfl (ok_build rfl rfl rfl rfl rfl rfl rfl rfl rfl ?_)
 refine ro rfl (ok_alloc rfl rfl rfl rfl rfl ?_)
 refine ro rfl (ok_store rfl rfl rfl rfl rfl rfl rfl rfl (Nat.le_of_ble_eq_true rfl) ?_)
 refine rn ?_
 refine awp_seq (awp_seq (awp_reg ?_))
 refine ro rfl (ok_move rfl rfl rfl rfl ?_)
 obtain ⟨r1, e2, h0⟩ := bd_cut h0
 refine ro rfl (ok_callP (reference_attr_ok steps_1 1 _ e2) rfl rfl rfl rfl ⟨sr, sr, trivial⟩ Try.call47 rfl ?_)
 refine ro rfl (ok_move rfl rfl rfl rfl ?_)
 refine ro rfl (ok_extract rfl rfl rfl rfl rfl ?_)
 refine ro rfl (ok_extract rfl rfl rfl rfl rfl ?_)
 refine ro rfl (ok_assign rfl rfl rfl rfl ?_)
 refine ro rfl (ok_assign rfl rfl rfl rfl ?_)
 refine rn ?_
 refine awp_seq (awp_reg ?_)
 refine ro rfl (ok_move rfl rfl rfl rfl ?_)
 refine rn ?_
 refine wp_if rfl (fun c3 => ?_) (fun c3 => ?_)
 ·replace h0 := if_t c3 h0
  refine awp_seq (awp_reg ?_)
  refine ro rfl (ok_move rfl rfl rfl rfl ?_)
  refine ro rfl (ok_fieldAddrP rfl rfl rfl rfl rfl rfl rfl rfl rfl ?_)
  refine ro rfl (ok_store rfl rfl rfl rfl rfl rfl rfl rfl (Nat.le_of_ble_eq_true rfl) ?_)
  refine rn ?_
  refine awp_seq (awp_reg ?_)
  refine ro rfl (ok_loadPA rfl rfl rfl rfl rfl rfl rfl rfl rfl ?_)
  refine ro rfl (ok_store rfl rfl rfl rfl rfl rfl rfl rfl (Nat.le_of_ble_eq_true rfl) ?_)
  refine ro rfl (ok_assign rfl rfl rfl rfl ?_)
  refine rn ?_
  refine awp_ret ?_
  (repeat (first | refine uw ?_ | refine uo rfl ?_))
  have e0 := oi h0
  subst e0
  refine reta_mk rfl ?_
  exact sub_tuple ⟨sr, sr, trivial⟩
 ·replace h0 := if_bf c3 h0
  refine awp_skip (awp_seq (awp_seq (awp_reg ?_)))
  refine ro rfl (ok_move rfl rfl rfl rfl ?_)
  obtain ⟨r4, e5, h0⟩ := bd_cut h0
  refine ro rfl (ok_callP (reference_attr_ok steps_1 2 _ e5) rfl rfl rfl rfl ⟨sr, sr, trivial⟩ Try.call47 rfl ?_)
  refine ro rfl (ok_move rfl rfl rfl rfl ?_)
  refine ro rfl (ok_extract rfl rfl rfl rfl rfl ?_)
  refine ro rfl (ok_extract rfl rfl rfl rfl rfl ?_)
  refine ro rfl (ok_assign rfl rfl rfl rfl ?_)
  refine ro rfl (ok_assign rfl rfl rfl rfl ?_)
  refine rn ?_
  refine awp_seq (awp_reg ?_)
  refine ro rfl (ok_move rfl rfl rfl rfl ?_)
  refine rn ?_
  refine wp_if rfl (fun c6 => ?_) (fun c6 => ?_)
  ·replace h0 := if_t c6 h0
   refine awp_seq (awp_reg ?_)
   refine ro rfl (ok_move rfl rfl rfl rfl ?_)
   refine ro rfl (ok_fieldAddrP rfl rfl rfl rfl rfl rfl rfl rfl rfl ?_)
   refine ro rfl (ok_store rfl rfl rfl rfl rfl rfl rfl rfl (Nat.le_of_ble_eq_true rfl) ?_)
   refine rn ?_
   refine awp_ghost (ghost_le (t := ⟨[(6, .ptr 6 0), (8, .ptr 8 0)], [(6, [.p (eI 0), .p (eS ([] : Bytes)), .p (eS ([] : Bytes)), .p (eI 0)]), (8, [.p (eI 5), .p (eS r4.1), .p (eS name_0), .p (eI at_2)])]⟩) (le_mk ⟨er rfl, er rfl, trivial⟩ ⟨⟨_, rfl, ⟨sr, sr, sr, sr, trivial⟩⟩, ⟨_, rfl, ⟨sr, sr, sr, sr, trivial⟩⟩, trivial⟩)) ?_
   refine awp_seq (awp_reg ?_)
   refine ro rfl (ok_loadPA rfl rfl rfl rfl rfl rfl rfl rfl rfl ?_)
   refine ro rfl (ok_store rfl rfl rfl rfl rfl rfl rfl rfl (Nat.le_of_ble_eq_true rfl) ?_)
   refine ro rfl (ok_assign rfl rfl rfl rfl ?_)
   refine rn ?_
   refine awp_ret ?_
   (repeat (first | refine uw ?_ | refine uo rfl ?_))
   have e0 := oi h0
   subst e0
   refine reta_mk rfl ?_
   exact sub_tuple ⟨sr, sr, trivial⟩
  ·replace h0 := if_bf c6 h0
   refine awp_skip (awp_seq (awp_reg ?_))
   refine ro rfl (ok_loadPA rfl rfl rfl rfl rfl rfl rfl rfl rfl ?_)
   refine ro rfl (ok_store rfl rfl rfl rfl rfl rfl rfl rfl (Nat.le_of_ble_eq_true rfl) ?_)
   refine ro rfl (ok_assign rfl rfl rfl rfl ?_)
   refine rn ?_
   refine awp_ret ?_
   (repeat (first | refine uw ?_ | refine uo rfl ?_))
   have e0 := oi h0
   subst e0
   refine reta_mk rfl ?_
   exact sub_tuple ⟨sr, sr, trivial⟩

def reference_begin (root_0 : TExpr) (steps_1 : List TExpr) : Option (TRef × Int) :=
 (reference_attr steps_1 0).bind fun r1 =>
 if (!r1.2) = true then
  some ((TRef.mk 9 ([] : Bytes) root_0.fName root_0.fAt), 0)
 else
  (reference_plain root_0.fName).bind fun r4 =>
  if r4.2 = true then
   some ((TRef.mk r4.1 ([] : Bytes) r1.1 root_0.fAt), 1)
  else
   if root_0.fName = ([100, 97, 116, 97] : Bytes) then
    (reference_attr steps_1 1).bind fun r8 =>
    if (!r8.2) = true then
     some ((TRef.mk 9 ([] : Bytes) root_0.fName root_0.fAt), 0)
    else
     some ((TRef.mk 4 r1.1 r8.1 root_0.fAt), 2)
   else
    if root_0.fName = ([109, 111, 100, 117, 108, 101] : Bytes) then
     (reference_module r1.1 steps_1 root_0.fAt).bind fun r12 =>
     some (r12.1, r12.2)
    else
     some ((TRef.mk 3 root_0.fName r1.1 root_0.fAt), 1)

set_option maxHeartbeats 4000000 in
theorem reference_begin_ok (root_0 : TExpr) (steps_1 : List TExpr) (r : TRef × Int) (h0 : reference_begin root_0 steps_1 = some r) : PCalls Try.prog 34 [.agg (TExpr.cs root_0), eL eTExpr steps_1] (· = .tuple [.p (.agg (TRef.cs r.1)), .p (eI r.2)]) := by
 unfold reference_begin at h0
 refine pbodyA good Try.func34 rfl rfl rfl fun w0 => ?_
 refine awp_seq (awp_reg ?_)
 refine ro rfl (ok_box rfl rfl rfl rfl rfl ?_)
 refine ro rfl (ok_alloc rfl rfl rfl rfl rfl ?_)
 refine ro rfl (ok_assign rfl rfl rfl rfl ?_)
 refine rn ?_
 refine awp_seq (awp_reg ?_)
 refine ro rfl (ok_fieldAddrP rfl rfl rfl rfl rfl rfl rfl rfl rfl ?_)
 refine ro rfl (ok_loadP1 rfl rfl rfl rfl rfl rfl rfl rfl ?_)
 refine ro rfl (ok_fieldAddrP rfl rfl rfl rfl rfl rfl rfl rfl rfl ?_)
 refine ro rfl (ok_loadP1 rfl rfl rfl rfl rfl rfl rfl rfl ?_)
 refine ro rfl (ok_build rfl rfl rfl rfl rfl rfl rfl rfl rfl ?_)
 refine ro rfl (ok_alloc rfl rfl rfl rfl rfl ?_)
 refine ro rfl (ok_store rfl rfl rfl rfl rfl rfl rfl rfl (Nat.le_of_ble_eq_true rfl) ?_)
 refine rn ?_
 refine awp_seq (awp_reg ?_)
 refine ro rfl (ok_move rfl rfl rfl rfl ?_)
 obtain ⟨r1, e2, h0⟩ := bd_cut h0
 refine ro rfl (ok_callP (reference_attr_ok steps_1 0 _ e2) rfl rfl rfl rfl ⟨sr, sr, trivial⟩ Try.call47 rfl ?_)
 refine ro rfl (ok_move rfl rfl rfl rfl ?_)
 refine ro rfl (ok_extract rfl rfl rfl rfl rfl ?_)
 refine ro rfl (ok_extract rfl rfl rfl rfl rfl ?_)
 refine ro rfl (ok_assign rfl rfl rfl rfl ?_)
 refine ro rfl (ok_assign rfl rfl rfl rfl ?_)
 refine rn ?_
 refine awp_seq (awp_seq (awp_reg ?_))
 refine ro rfl (ok_move rfl rfl rfl rfl ?_)
 refine ro rfl (ok_not rfl rfl rfl rfl ?_)
 refine rn ?_
 refine wp_if rfl (fun c3 => ?_) (fun c3 => ?_)
 ·replace h0 := if_t c3 h0
  refine awp_seq (awp_reg ?_)
  refine ro rfl (ok_loadPA rfl rfl rfl rfl rfl rfl rfl rfl rfl ?_)
  refine ro rfl (ok_store rfl rfl rfl rfl rfl rfl rfl rfl (Nat.le_of_ble_eq_true rfl) ?_)
  refine ro rfl (ok_assign rfl rfl rfl rfl ?_)
  refine rn ?_
  refine awp_ret ?_
  (repeat (first | refine uw ?_ | refine uo rfl ?_))
  have e0 := oi h0
  subst e0
  refine reta_mk rfl ?_
  exact sub_tuple ⟨sr, sr, trivial⟩
 ·replace h0 := if_bf c3 h0
  refine awp_skip (awp_seq (awp_seq (awp_reg ?_)))
  refine ro rfl (ok_fieldAddrP rfl rfl rfl rfl rfl rfl rfl rfl rfl ?_)
  refine ro rfl (ok_loadP1 rfl rfl rfl rfl rfl rfl rfl rfl ?_)
  obtain ⟨r4, e5, h0⟩ := bd_cut h0
  refine ro rfl (ok_callP (reference_plain_ok root_0.fName _ e5) rfl rfl rfl rfl ⟨sr, trivial⟩ Try.call48 rfl ?_)
  refine ro rfl (ok_move rfl rfl rfl rfl ?_)
  refine ro rfl (ok_extract rfl rfl rfl rfl rfl ?_)
  refine ro rfl (ok_extract rfl rfl rfl rfl rfl ?_)
  refine ro rfl (ok_assign rfl rfl rfl rfl ?_)
  refine ro rfl (ok_assign rfl rfl rfl rfl ?_)
  refine rn ?_
  refine awp_seq (awp_reg ?_)
  refine ro rfl (ok_move rfl rfl rfl rfl ?_)
  refine rn ?_
  refine wp_if rfl (fun c6 => ?_) (fun c6 => ?_)
  ·replace h0 := if_t c6 h0
   refine awp_seq (awp_reg ?_)
   refine ro rfl (ok_move rfl rfl rfl rfl ?_)
   refine ro rfl (ok_move rfl rfl rfl rfl ?_)
   refine ro rfl (ok_fieldAddrP rfl rfl rfl rfl rfl rfl rfl rfl rfl ?_)
   refine ro rfl (ok_loadP1 rfl rfl rfl rfl rfl rfl rfl rfl ?_)
   refine ro rfl (ok_build rfl rfl rfl rfl rfl rfl rfl rfl rfl ?_)
   refine ro rfl (ok_store rfl rfl rfl rfl rfl rfl rfl rfl (Nat.le_of_ble_eq_true rfl) ?_)
   refine ro rfl (ok_assign rfl rfl rfl rfl ?_)
   refine rn ?_
   refine awp_ghost (ghost_le (t := ⟨[(4, .ptr 4 0), (5, .p (eI 1))], [(4, [.p (eI r4.1), .p (eS ([] : Bytes)), .p (eS r1.1), .p (eI root_0.fAt)])]⟩) (le_mk ⟨er rfl, er rfl, trivial⟩ ⟨⟨_, rfl, ⟨sr, sr, sr, sr, trivial⟩⟩, trivial⟩)) ?_
   refine awp_ret ?_
   (repeat (first | refine uw ?_ | refine uo rfl ?_))
   have e0 := oi h0
   subst e0
   refine reta_mk rfl ?_
   exact sub_tuple ⟨sr, sr, trivial⟩
  ·replace h0 := if_bf c6 h0
   refine awp_skip (awp_seq (awp_seq (awp_reg ?_)))
   refine ro rfl (ok_fieldAddrP rfl rfl rfl rfl rfl rfl rfl rfl rfl ?_)
   refine ro rfl (ok_loadP1 rfl rfl rfl rfl rfl rfl rfl rfl ?_)
   refine rn ?_
   refine awp_ghost (ghost_le (t := ⟨[(1, .p (eL eTExpr steps_1)), (2, .ptr 2 0), (4, .ptr 4 0), (6, .ptr 6 0), (7, .p (eS r1.1)), (39, .p (eS root_0.fName))], [(2, [.p (eI root_0.fKind), .p (eI root_0.fOp), .p (eS root_0.fName), .p (eS root_0.fKey), .p (eI root_0.fValue.fKind), .p (eI root_0.fValue.fNum), .p (eS root_0.fValue.fStr), .p (eL eTValue root_0.fValue.fItems), .p (eL eS root_0.fValue.fKeys), .p (eL eTExpr root_0.fKids), .p (eI root_0.fAt)]), (4, [.p (eI 0), .p (eS ([] : Bytes)), .p (eS ([] : Bytes)), .p (eI 0)]), (6, [.p (eI 9), .p (eS ([] : Bytes)), .p (eS root_0.fName), .p (eI root_0.fAt)])]⟩) (le_mk ⟨er rfl, er rfl, er rfl, er rfl, er rfl, er rfl, trivial⟩ ⟨⟨_, rfl, ⟨sr, sr, sr, sr, sr, sr, sr, sr, sr, sr, sr, trivial⟩⟩, ⟨_, rfl, ⟨sr, sr, sr, sr, trivial⟩⟩, ⟨_, rfl, ⟨sr, sr, sr, sr, trivial⟩⟩, trivial⟩)) ?_
   refine awp_block (awp_seq (awp_reg ?_))
   refine ro rfl (ok_cmpS rfl rfl rfl rfl rfl rfl ?_)
   refine ro rfl (ok_assign rfl rfl rfl rfl ?_)
   refine rn ?_
   refine wp_ifD rfl (fun c7 => ?_) (fun c7 => ?_)
   ·replace h0 := if_t c7 h0
    refine awp_seq (awp_reg ?_)
    refine ro rfl (ok_move rfl rfl rfl rfl ?_)
    obtain ⟨r8, e9, h0⟩ := bd_cut h0
    refine ro rfl (ok_callP (reference_attr_ok steps_1 1 _ e9) rfl rfl rfl rfl ⟨sr, sr, trivial⟩ Try.call47 rfl ?_)
    refine ro rfl (ok_move rfl rfl rfl rfl ?_)
    refine ro rfl (ok_extract rfl rfl rfl rfl rfl ?_)
    refine ro rfl (ok_extract rfl rfl rfl rfl rfl ?_)
    refine ro rfl (ok_assign rfl rfl rfl rfl ?_)
    refine ro rfl (ok_assign rfl rfl rfl rfl ?_)
    refine rn ?_
    refine awp_seq (awp_seq (awp_reg ?_))
    refine ro rfl (ok_move rfl rfl rfl rfl ?_)
    refine ro rfl (ok_not rfl rfl rfl rfl ?_)
    refine rn ?_
    refine wp_if rfl (fun c10 => ?_) (fun c10 => ?_)
    ·replace h0 := if_t c10 h0
     refine awp_seq (awp_reg ?_)
     refine ro rfl (ok_loadPA rfl rfl rfl rfl rfl rfl rfl rfl rfl ?_)
     refine ro rfl (ok_store rfl rfl rfl rfl rfl rfl rfl rfl (Nat.le_of_ble_eq_true rfl) ?_)
     refine ro rfl (ok_assign rfl rfl rfl rfl ?_)
     refine rn ?_
     refine awp_ret ?_
     (repeat (first | refine uw ?_ | refine uo rfl ?_))
     have e0 := oi h0
     subst e0
     refine reta_mk rfl ?_
     exact sub_tuple ⟨sr, sr, trivial⟩
    ·replace h0 := if_bf c10 h0
     refine awp_skip (awp_seq (awp_reg ?_))
     refine ro rfl (ok_move rfl rfl rfl rfl ?_)
     refine ro rfl (ok_move rfl rfl rfl rfl ?_)
     refine ro rfl (ok_fieldAddrP rfl rfl rfl rfl rfl rfl rfl rfl rfl ?_)
     refine ro rfl (ok_loadP1 rfl rfl rfl rfl rfl rfl rfl rfl ?_)
     refine ro rfl (ok_build rfl rfl rfl rfl rfl rfl rfl rfl rfl ?_)
     refine ro rfl (ok_store rfl rfl rfl rfl rfl rfl rfl rfl (Nat.le_of_ble_eq_true rfl) ?_)
     refine ro rfl (ok_assign rfl rfl rfl rfl ?_)
     refine rn ?_
     refine awp_ret ?_
     (repeat (first | refine uw ?_ | refine uo rfl ?_))
     have e0 := oi h0
     subst e0
     refine reta_mk rfl ?_
     exact sub_tuple ⟨sr, sr, trivial⟩
   ·replace h0 := if_f c7 h0
    refine awp_seq (awp_reg ?_)
    refine ro rfl (ok_cmpS rfl rfl rfl rfl rfl rfl ?_)
    refine ro rfl (ok_assign rfl rfl rfl rfl ?_)
    refine rn ?_
    refine wp_ifD rfl (fun c11 => ?_) (fun c11 => ?_)
    ·replace h0 := if_t c11 h0
     refine awp_seq (awp_reg ?_)
     refine ro rfl (ok_move rfl rfl rfl rfl ?_)
     refine ro rfl (ok_move rfl rfl rfl rfl ?_)
     refine ro rfl (ok_fieldAddrP rfl rfl rfl rfl rfl rfl rfl rfl rfl ?_)
     refine ro rfl (ok_loadP1 rfl rfl rfl rfl rfl rfl rfl rfl ?_)
     obtain ⟨r12, e13, h0⟩ := bd_cut h0
     refine ro rfl (ok_callP (reference_module_ok r1.1 steps_1 root_0.fAt _ e13) rfl rfl rfl rfl ⟨sr, sr, sr, trivial⟩ Try.call49 rfl ?_)
     refine ro rfl (ok_extract rfl rfl rfl rfl rfl ?_)
     refine ro rfl (ok_extract rfl rfl rfl rfl rfl ?_)
     refine ro rfl (ok_store rfl rfl rfl rfl rfl rfl rfl rfl (Nat.le_of_ble_eq_true rfl) ?_)
     refine ro rfl (ok_assign rfl rfl rfl rfl ?_)
     refine rn ?_
     refine awp_ret ?_
     (repeat (first | refine uw ?_ | refine uo rfl ?_))
     have e0 := oi h0
     subst e0
     refine reta_mk rfl ?_
     exact sub_tuple ⟨sr, sr, trivial⟩
    ·replace h0 := if_f c11 h0
     refine awp_skip ?_
     (repeat (first | refine uw ?_ | refine uo rfl ?_))
     refine awp_seq (awp_reg ?_)
     refine ro rfl (ok_fieldAddrP rfl rfl rfl rfl rfl rfl rfl rfl rfl ?_)
     refine ro rfl (ok_loadP1 rfl rfl rfl rfl rfl rfl rfl rfl ?_)
     refine ro rfl (ok_move rfl rfl rfl rfl ?_)
     refine ro rfl (ok_fieldAddrP rfl rfl rfl rfl rfl rfl rfl rfl rfl ?_)
     refine ro rfl (ok_loadP1 rfl rfl rfl rfl rfl rfl rfl rfl ?_)
     refine ro rfl (ok_build rfl rfl rfl rfl rfl rfl rfl rfl rfl ?_)
     refine ro rfl (ok_store rfl rfl rfl rfl rfl rfl rfl rfl (Nat.le_of_ble_eq_true rfl) ?_)
     refine ro rfl (ok_assign rfl rfl rfl rfl ?_)
     refine rn ?_
     refine awp_ret ?_
     (repeat (first | refine uw ?_ | refine uo rfl ?_))
     have e0 := oi h0
     subst e0
     refine reta_mk rfl ?_
     exact sub_tuple ⟨sr, sr, trivial⟩

def reference_Parse (n : Nat) (e_0 : TExpr) : Option (TRef × Bool) :=
 (reference_chain n e_0).bind fun r1 =>
 (
   if r1.1.fKind = 3 then
    (slices_ContainsFunc_api_Expr_api_Expr n r1.2 (fun x0 => reference_Parse_1 x0)).bind fun r5 =>
    some r5
   else
    some true
  : Option Bool).bind fun t7 =>
 if t7 = true then
  some ((TRef.mk 0 ([] : Bytes) ([] : Bytes) 0), false)
 else
  (reference_begin r1.1 r1.2).bind fun r9 =>
  if r9.2 = (r1.2.length : Int) then
   some (r9.1, true)
  else
   some ((TRef.mk 0 ([] : Bytes) ([] : Bytes) 0), false)

set_option maxHeartbeats 4000000 in
theorem reference_Parse_ok (n : Nat) (e_0 : TExpr) (r : TRef × Bool) (h0 : reference_Parse n e_0 = some r) : PCalls Try.prog 10 [.agg (TExpr.cs e_0)] (· = .tuple [.p (.agg (TRef.cs r.1)), .p (eB r.2)]) := by
 unfold reference_Parse at h0
 refine pbodyA good Try.func10 rfl rfl rfl fun w0 => ?_
 refine awp_seq (awp_reg ?_)
 refine ro rfl (ok_box rfl rfl rfl rfl rfl ?_)
 refine ro rfl (ok_alloc rfl rfl rfl rfl rfl ?_)
 refine ro rfl (ok_assign rfl rfl rfl rfl ?_)
 refine rn ?_
 refine awp_seq (awp_reg ?_)
 refine ro rfl (ok_loadPA rfl rfl rfl rfl rfl rfl rfl rfl rfl ?_)
 obtain ⟨r1, e2, h0⟩ := bd_cut h0
 refine ro rfl (ok_callP (reference_chain_ok _ e_0 _ e2) rfl rfl rfl rfl ⟨sr, trivial⟩ Try.call31 rfl ?_)
 refine ro rfl (ok_move rfl rfl rfl rfl ?_)
 refine ro rfl (ok_extract rfl rfl rfl rfl rfl ?_)
 refine ro rfl (ok_extract rfl rfl rfl rfl rfl ?_)
 refine ro rfl (ok_alloc rfl rfl rfl rfl rfl ?_)
 refine ro rfl (ok_store rfl rfl rfl rfl rfl rfl rfl rfl (Nat.le_of_ble_eq_true rfl) ?_)
 refine ro rfl (ok_assign rfl rfl rfl rfl ?_)
 refine rn ?_
 refine awp_seq (awp_seq ?_)
 obtain ⟨o13, h1, h0⟩ := bd_cut h0
 refine awp_joinN ⟨[(2, .ptr 2 0), (4, .ptr 4 0), (5, .p (eL eTExpr r1.2)), (19, .p (eB o13))], [(2, [.p (eI 0), .p (eS ([] : Bytes)), .p (eS ([] : Bytes)), .p (eI 0)]), (4, [.p (eI r1.1.fKind), .p (eI r1.1.fOp), .p (eS r1.1.fName), .p (eS r1.1.fKey), .p (eI r1.1.fValue.fKind), .p (eI r1.1.fValue.fNum), .p (eS r1.1.fValue.fStr), .p (eL eTValue r1.1.fValue.fItems), .p (eL eS r1.1.fValue.fKeys), .p (eL eTExpr r1.1.fKids), .p (eI r1.1.fAt)])]⟩ ?_ ?_
 ·intro s' hle
  (repeat (first | refine uw ?_ | refine uo rfl ?_))
  refine awp_ghost hle ?_
  refine wp_if rfl (fun c8 => ?_) (fun c8 => ?_)
  ·replace h0 := if_t c8 h0
   refine awp_seq (awp_reg ?_)
   refine ro rfl (ok_build rfl rfl rfl rfl rfl rfl rfl rfl rfl ?_)
   refine ro rfl (ok_store rfl rfl rfl rfl rfl rfl rfl rfl (Nat.le_of_ble_eq_true rfl) ?_)
   refine ro rfl (ok_assign rfl rfl rfl rfl ?_)
   refine rn ?_
   refine awp_ret ?_
   (repeat (first | refine uw ?_ | refine uo rfl ?_))
   have e0 := oi h0
   subst e0
   refine reta_mk rfl ?_
   exact sub_tuple ⟨sr, sr, trivial⟩
  ·replace h0 := if_bf c8 h0
   refine awp_skip (awp_seq (awp_reg ?_))
   refine ro rfl (ok_loadPA rfl rfl rfl rfl rfl rfl rfl rfl rfl ?_)
   refine ro rfl (ok_move rfl rfl rfl rfl ?_)
   obtain ⟨r9, e10, h0⟩ := bd_cut h0
   refine ro rfl (ok_callP (reference_begin_ok r1.1 r1.2 _ e10) rfl rfl rfl rfl ⟨sr, sr, trivial⟩ Try.call34 rfl ?_)
   refine ro rfl (ok_move rfl rfl rfl rfl ?_)
   refine ro rfl (ok_extract rfl rfl rfl rfl rfl ?_)
   refine ro rfl (ok_extract rfl rfl rfl rfl rfl ?_)
   refine ro rfl (ok_alloc rfl rfl rfl rfl rfl ?_)
   refine ro rfl (ok_store rfl rfl rfl rfl rfl rfl rfl rfl (Nat.le_of_ble_eq_true rfl) ?_)
   refine ro rfl (ok_assign rfl rfl rfl rfl ?_)
   refine rn ?_
   refine awp_seq (awp_seq (awp_reg ?_))
   refine ro rfl (ok_move rfl rfl rfl rfl ?_)
   refine ro rfl (ok_move rfl rfl rfl rfl ?_)
   refine ro rfl (op_lenL (f := eTExpr) (l := r1.2) rfl rfl rfl rfl rfl rfl rfl ?_)
   refine ro rfl (ok_cmp rfl rfl rfl rfl rfl rfl ?_)
   refine rn ?_
   refine wp_ifN rfl (fun c11 => ?_) (fun c11 => ?_)
   ·replace h0 := if_f c11 h0
    refine awp_seq (awp_reg ?_)
    refine ro rfl (ok_build rfl rfl rfl rfl rfl rfl rfl rfl rfl ?_)
    refine ro rfl (ok_store rfl rfl rfl rfl rfl rfl rfl rfl (Nat.le_of_ble_eq_true rfl) ?_)
    refine ro rfl (ok_assign rfl rfl rfl rfl ?_)
    refine rn ?_
    refine awp_ret ?_
    (repeat (first | refine uw ?_ | refine uo rfl ?_))
    have e0 := oi h0
    subst e0
    refine reta_mk rfl ?_
    exact sub_tuple ⟨sr, sr, trivial⟩
   ·replace h0 := if_t c11 h0
    refine awp_skip (awp_seq (awp_reg ?_))
    refine ro rfl (ok_loadPA rfl rfl rfl rfl rfl rfl rfl rfl rfl ?_)
    refine ro rfl (ok_store rfl rfl rfl rfl rfl rfl rfl rfl (Nat.le_of_ble_eq_true rfl) ?_)
    refine ro rfl (ok_assign rfl rfl rfl rfl ?_)
    refine rn ?_
    refine awp_ret ?_
    (repeat (first | refine uw ?_ | refine uo rfl ?_))
    have e0 := oi h0
    subst e0
    refine reta_mk rfl ?_
    exact sub_tuple ⟨sr, sr, trivial⟩
 ·skip
  refine awp_reg ?_
  refine ro rfl (ok_fieldAddrP rfl rfl rfl rfl rfl rfl rfl rfl rfl ?_)
  refine ro rfl (ok_loadP1 rfl rfl rfl rfl rfl rfl rfl rfl ?_)
  refine ro rfl (ok_cmp rfl rfl rfl rfl rfl rfl ?_)
  refine ro rfl (ok_move rfl rfl rfl rfl ?_)
  refine gd_N rfl rfl rfl (fun c3 => ?_) (fun c3 => ?_)
  ·replace h1 := if_t c3 h1
   refine gd_ff rfl rfl rfl (nd_false c3) (ok_move rfl rfl rfl rfl ?_)
   obtain ⟨r5, e6, h1⟩ := bd_cut h1
   refine gd_ff rfl rfl rfl (nd_false c3) (ok_callQ (slices_ContainsFunc_api_Expr_api_Expr_ok _ r1.2 (fun x0 => reference_Parse_1 x0) 33 [] rfl Try.call33 (fun x0 r h => (reference_Parse_1_ok x0 r h).q) _ e6) rfl rfl rfl rfl (mapAgo_cons rfl (mapAgo_cons (mapA_func rfl) mapAgo_nil)) ⟨sr, sr, trivial⟩ Try.call32 rfl ?_)
   refine ro rfl (ok_pick_false rfl rfl rfl rfl (nd_false c3) rfl ?_)
   refine rn ?_
   (repeat (first | refine uw ?_ | refine uo rfl ?_))
   have e1 := oi h1
   subst e1
   exact ghost_le (le_mk ⟨er rfl, er rfl, er rfl, er rfl, trivial⟩ ⟨⟨_, rfl, ⟨sr, sr, sr, sr, trivial⟩⟩, ⟨_, rfl, ⟨sr, sr, sr, sr, sr, sr, sr, sr, sr, sr, sr, trivial⟩⟩, trivial⟩)
  ·replace h1 := if_f c3 h1
   refine gd_ft rfl rfl rfl (nd_true c3) rfl rfl ?_
   refine gd_ft rfl rfl rfl (nd_true c3) rfl rfl ?_
   refine ro rfl (ok_pick_true rfl rfl rfl rfl (nd_true c3) rfl ?_)
   refine rn ?_
   (repeat (first | refine uw ?_ | refine uo rfl ?_))
   have e1 := oi h1
   subst e1
   exact ghost_le (le_mk ⟨er rfl, er rfl, er rfl, er rfl, trivial⟩ ⟨⟨_, rfl, ⟨sr, sr, sr, sr, trivial⟩⟩, ⟨_, rfl, ⟨sr, sr, sr, sr, sr, sr, sr, sr, sr, sr, sr, trivial⟩⟩, trivial⟩)

def slices_Index_string_string_l1 (s_0 : List Bytes) (v_1 : Bytes) : Nat → Int → Option (Unit ⊕ Int)
 | 0, _ => none
 | m + 1, t6 =>
 if t6 < (s_0.length : Int) then
  ck ((0 : Int) ≤ t6 ∧ t6 < (s_0.length : Int)) <|
  if v_1 = lat s_0 t6 then
   some (.inr t6)
  else
   ck (inR (t6 + 1)) <|
   slices_Index_string_string_l1 s_0 v_1 m (t6 + 1)
 else
  some (.inl ())

def slices_Index_string_string (n : Nat) (s_0 : List Bytes) (v_1 : Bytes) : Option Int :=
 jn (slices_Index_string_string_l1 s_0 v_1 n 0) fun q12 =>
 some (-1)

set_option maxHeartbeats 4000000 in
theorem slices_Index_string_string_ok (n : Nat) (s_0 : List Bytes) (v_1 : Bytes) (r : Int) (h0 : slices_Index_string_string n s_0 v_1 = some r) : PCalls Try.prog 74 [eL eS s_0, eS v_1] (· = .p (eI r)) := by
 unfold slices_Index_string_string at h0
 refine pbodyA good Try.func74 rfl rfl rfl fun w0 => ?_
 refine awp_seq (awp_reg ?_)
 refine ro rfl (ok_assign rfl rfl rfl rfl ?_)
 refine rn ?_
 refine awp_seq (awp_seq (awp_reg ?_))
 refine ro rfl (ok_move rfl rfl rfl rfl ?_)
 refine ro rfl (op_lenL (f := eS) (l := s_0) rfl rfl rfl rfl rfl rfl rfl ?_)
 refine ro rfl (ok_move rfl rfl rfl rfl ?_)
 refine rn ?_
 refine awp_block ?_
 obtain ⟨o13, h1, hL0, hR0⟩ := jn_cut h0
 refine awp_joinEx 0 (fun v14 : Unit => o13 = .inl v14) (fun v14 => ⟨[], []⟩) ?_ ?_
 ·rintro s' ⟨v14, hv, hle⟩
  have h0 := hL0 _ hv
  (repeat (first | refine uw ?_ | refine uo rfl ?_))
  refine awp_ghost hle ?_
  (repeat (first | refine uw ?_ | refine uo rfl ?_))
  refine awp_seq (awp_reg ?_)
  refine ro rfl (ok_assign rfl rfl rfl rfl ?_)
  refine rn ?_
  refine awp_ret ?_
  (repeat (first | refine uw ?_ | refine uo rfl ?_))
  have e0 := oi h0
  subst e0
  refine reta_mk rfl ?_
  exact sr
 ·skip
  refine awp_loopG (fun q15 => ⟨[(0, .p (eL eS s_0)), (1, .p (eS v_1)), (7, .p (eI (s_0.length : Int))), (8, .p (eI q15))], []⟩) (fun m (q15 : Int) => slices_Index_string_string_l1 s_0 v_1 m q15) (fun _ => rfl) 0 h1 (ghost_le (le_mk ⟨er rfl, er rfl, er rfl, er rfl, trivial⟩ trivial)) ?_
  rintro m t6 h1
  replace h1 : slices_Index_string_string_l1 s_0 v_1 (m + 1) t6 = some o13 := h1
  rw [slices_Index_string_string_l1] at h1
  refine awp_seq (awp_reg ?_)
  refine ro rfl (ok_cmp rfl rfl rfl rfl rfl rfl ?_)
  refine rn ?_
  refine awp_seq ?_
  refine wp_ifD rfl (fun c7 => ?_) (fun c7 => ?_)
  ·replace h1 := if_t c7 h1
   refine awp_skip (awp_seq (awp_block (awp_seq (awp_reg ?_))))
   refine ro rfl (ok_move rfl rfl rfl rfl ?_)
   refine ro rfl (ok_assign rfl rfl rfl rfl ?_)
   refine rn ?_
   refine awp_seq (awp_reg ?_)
   refine ro rfl (ok_move rfl rfl rfl rfl ?_)
   refine ro rfl (ok_move rfl rfl rfl rfl ?_)
   refine ro rfl (ok_move rfl rfl rfl rfl ?_)
   obtain ⟨h8, h1⟩ := ck_cut h1
   refine ro rfl (op_at (f := eS) (l := s_0) (fun x => [eS x]) rfl rfl rfl rfl rfl rfl rfl rfl rfl h8 (fun _ => rfl) (fun _ => rfl) ?_)
   refine ro rfl (ok_loadR1 rfl rfl rfl rfl rfl rfl rfl ?_)
   refine ro rfl (ok_cmpS rfl rfl rfl rfl rfl rfl ?_)
   refine rn ?_
   refine wp_ifD rfl (fun c9 => ?_) (fun c9 => ?_)
   ·replace h1 := if_t c9 h1
    refine awp_seq (awp_reg ?_)
    refine ro rfl (ok_move rfl rfl rfl rfl ?_)
    refine ro rfl (ok_assign rfl rfl rfl rfl ?_)
    refine rn ?_
    refine awp_ret ?_
    (repeat (first | refine uw ?_ | refine uo rfl ?_))
    have e1 := oi h1
    have e0 := hR0 _ e1.symm
    subst e0
    refine reta_mk rfl ?_
    exact sr
   ·replace h1 := if_f c9 h1
    refine awp_skip ?_
    (repeat (first | refine uw ?_ | refine uo rfl ?_))
    refine awp_reg ?_
    obtain ⟨h10, h1⟩ := ck_cut h1
    refine ro rfl (ok_ar rfl rfl rfl rfl rfl rfl h10 ?_)
    refine ro rfl (ok_move rfl rfl rfl rfl ?_)
    refine rn ?_
    (repeat (first | refine uw ?_ | refine uo rfl ?_))
    exact ⟨(t6 + 1), h1, ghost_le (le_mk ⟨er rfl, er rfl, er rfl, er rfl, trivial⟩ trivial)⟩
  ·replace h1 := if_f c7 h1
   refine awp_exit ?_
   (repeat (first | refine uw ?_ | refine uo rfl ?_))
   have e1 := oi h1
   exact ⟨_, e1.symm, ghost_le (le_mk trivial trivial)⟩

def slices_Contains_string_string (n : Nat) (s_0 : List Bytes) (v_1 : Bytes) : Option Bool :=
 (slices_Index_string_string n s_0 v_1).bind fun r1 =>
 some (decide (0 ≤ r1))

set_option maxHeartbeats 4000000 in
theorem slices_Contains_string_string_ok (n : Nat) (s_0 : List Bytes) (v_1 : Bytes) (r : Bool) (h0 : slices_Contains_string_string n s_0 v_1 = some r) : PCalls Try.prog 64 [eL eS s_0, eS v_1] (· = .p (eB r)) := by
 unfold slices_Contains_string_string at h0
 refine pbodyA good Try.func64 rfl rfl rfl fun w0 => ?_
 refine awp_seq (awp_reg ?_)
 refine ro rfl (ok_assign rfl rfl rfl rfl ?_)
 refine rn ?_
 refine awp_seq (awp_reg ?_)
 refine ro rfl (ok_move rfl rfl rfl rfl ?_)
 refine ro rfl (ok_move rfl rfl rfl rfl ?_)
 obtain ⟨r1, e2, h0⟩ := bd_cut h0
 refine ro rfl (ok_callP (slices_Index_string_string_ok _ s_0 v_1 _ e2) rfl rfl rfl rfl ⟨sr, sr, trivial⟩ Try.call74 rfl ?_)
 refine ro rfl (ok_cmp rfl rfl rfl rfl rfl rfl ?_)
 refine ro rfl (ok_assign rfl rfl rfl rfl ?_)
 refine rn ?_
 refine awp_ret ?_
 (repeat (first | refine uw ?_ | refine uo rfl ?_))
 have e0 := oi h0
 subst e0
 refine reta_mk rfl ?_
 exact sr

def slices_IndexFunc_api_Ref_api_Ref_l1 (s_0 : List TRef) (f_1 : TRef → Option Bool) : Nat → Int → Option (Unit ⊕ Int)
 | 0, _ => none
 | m + 1, t8 =>
 if t8 < (s_0.length : Int) then
  ck ((0 : Int) ≤ t8 ∧ t8 < (s_0.length : Int)) <|
  (f_1 (lat s_0 t8)).bind fun r11 =>
  if r11 = true then
   some (.inr t8)
  else
   ck (inR (t8 + 1)) <|
   slices_IndexFunc_api_Ref_api_Ref_l1 s_0 f_1 m (t8 + 1)
 else
  some (.inl ())

def slices_IndexFunc_api_Ref_api_Ref (n : Nat) (s_0 : List TRef) (f_1 : TRef → Option Bool) : Option Int :=
 jn (slices_IndexFunc_api_Ref_api_Ref_l1 s_0 f_1 n 0) fun q16 =>
 some (-1)

set_option maxHeartbeats 4000000 in
theorem slices_IndexFunc_api_Ref_api_Ref_ok (n : Nat) (s_0 : List TRef) (f_1 : TRef → Option Bool) (F_f_1 : FuncId) (C_f_1 : List AV) (K_f_1 : AV.mapA.go (fun _ => none) C_f_1 = some C_f_1) (E_f_1 : ∀ vs w, (callFunc F_f_1 vs).run Try.prog w = .ok (.enter F_f_1 vs) w) (H_f_1 : ∀ (x0 : TRef) r, f_1 x0 = some r → QCalls Try.prog F_f_1 ([.p (.agg (TRef.cs x0))] ++ C_f_1) (· = .p (eB r))) (r : Int) (h0 : slices_IndexFunc_api_Ref_api_Ref n s_0 f_1 = some r) : QCalls Try.prog 82 [.p (eL eTRef s_0), .func (.func F_f_1) C_f_1] (· = .p (eI r)) := by
 unfold slices_IndexFunc_api_Ref_api_Ref at h0
 refine qbodyA good Try.func82 rfl rfl rfl fun w0 => ?_
 refine awp_seq (awp_reg ?_)
 refine ro rfl (ok_assign rfl rfl rfl rfl ?_)
 refine rn ?_
 refine awp_seq (awp_seq (awp_reg ?_))
 refine ro rfl (ok_move rfl rfl rfl rfl ?_)
 refine ro rfl (op_lenL (f := eTRef) (l := s_0) rfl rfl rfl rfl rfl rfl rfl ?_)
 refine ro rfl (ok_move rfl rfl rfl rfl ?_)
 refine rn ?_
 refine awp_block ?_
 obtain ⟨o17, h1, hL0, hR0⟩ := jn_cut h0
 refine awp_joinEx 0 (fun v18 : Unit => o17 = .inl v18) (fun v18 => ⟨[], []⟩) ?_ ?_
 ·rintro s' ⟨v18, hv, hle⟩
  have h0 := hL0 _ hv
  (repeat (first | refine uw ?_ | refine uo rfl ?_))
  refine awp_ghost hle ?_
  (repeat (first | refine uw ?_ | refine uo rfl ?_))
  refine awp_seq (awp_reg ?_)
  refine ro rfl (ok_assign rfl rfl rfl rfl ?_)
  refine rn ?_
  refine awp_ret ?_
  (repeat (first | refine uw ?_ | refine uo rfl ?_))
  have e0 := oi h0
  subst e0
  refine reta_mk rfl ?_
  exact sr
 ·skip
  refine awp_loopG (fun q19 => ⟨[(0, .p (eL eTRef s_0)), (1, .func (.func F_f_1) C_f_1), (7, .p (eI (s_0.length : Int))), (8, .p (eI q19))], []⟩) (fun m (q19 : Int) => slices_IndexFunc_api_Ref_api_Ref_l1 s_0 f_1 m q19) (fun _ => rfl) 0 h1 (ghost_le (le_mk ⟨er rfl, er rfl, er rfl, er rfl, trivial⟩ trivial)) ?_
  rintro m t8 h1
  replace h1 : slices_IndexFunc_api_Ref_api_Ref_l1 s_0 f_1 (m + 1) t8 = some o17 := h1
  rw [slices_IndexFunc_api_Ref_api_Ref_l1] at h1
  refine awp_seq (awp_reg ?_)
  refine ro rfl (ok_cmp rfl rfl rfl rfl rfl rfl ?_)
  refine rn ?_
  refine awp_seq ?_
  refine wp_ifD rfl (fun c9 => ?_) (fun c9 => ?_)
  ·replace h1 := if_t c9 h1
   refine awp_skip (awp_seq (awp_block (awp_seq (awp_reg ?_))))
   refine ro rfl (ok_move rfl rfl rfl rfl ?_)
   refine ro rfl (ok_assign rfl rfl rfl rfl ?_)
   refine rn ?_
   refine awp_seq (awp_reg ?_)
   refine ro rfl (ok_move rfl rfl rfl rfl ?_)
   refine ro rfl (ok_move rfl rfl rfl rfl ?_)
   refine ro rfl (ok_move rfl rfl rfl rfl ?_)
   obtain ⟨h10, h1⟩ := ck_cut h1
   refine ro rfl (op_at (f := eTRef) (l := s_0) TRef.cs rfl rfl rfl rfl rfl rfl rfl rfl rfl h10 TRef.cells_eq (fun _ => rfl) ?_)
   refine ro rfl (ok_loadRA rfl rfl rfl rfl rfl rfl rfl ?_)
   obtain ⟨r11, e12, h1⟩ := bd_cut h1
   refine ro rfl (ok_callF (H_f_1 (lat s_0 t8) _ e12) rfl rfl rfl rfl K_f_1 rfl rfl ⟨sr, trivial⟩ E_f_1 rfl ?_)
   refine rn ?_
   refine wp_if rfl (fun c13 => ?_) (fun c13 => ?_)
   ·replace h1 := if_t c13 h1
    refine awp_seq (awp_reg ?_)
    refine ro rfl (ok_move rfl rfl rfl rfl ?_)
    refine ro rfl (ok_assign rfl rfl rfl rfl ?_)
    refine rn ?_
    refine awp_ret ?_
    (repeat (first | refine uw ?_ | refine uo rfl ?_))
    have e1 := oi h1
    have e0 := hR0 _ e1.symm
    subst e0
    refine reta_mk rfl ?_
    exact sr
   ·replace h1 := if_bf c13 h1
    refine awp_skip ?_
    (repeat (first | refine uw ?_ | refine uo rfl ?_))
    refine awp_reg ?_
    obtain ⟨h14, h1⟩ := ck_cut h1
    refine ro rfl (ok_ar rfl rfl rfl rfl rfl rfl h14 ?_)
    refine ro rfl (ok_move rfl rfl rfl rfl ?_)
    refine rn ?_
    (repeat (first | refine uw ?_ | refine uo rfl ?_))
    exact ⟨(t8 + 1), h1, ghost_le (le_mk ⟨er rfl, er rfl, er rfl, er rfl, trivial⟩ trivial)⟩
  ·replace h1 := if_f c9 h1
   refine awp_exit ?_
   (repeat (first | refine uw ?_ | refine uo rfl ?_))
   have e1 := oi h1
   exact ⟨_, e1.symm, ghost_le (le_mk trivial trivial)⟩

def slices_ContainsFunc_api_Ref_api_Ref (n : Nat) (s_0 : List TRef) (f_1 : TRef → Option Bool) : Option Bool :=
 (slices_IndexFunc_api_Ref_api_Ref n s_0 f_1).bind fun r1 =>
 some (decide (0 ≤ r1))

set_option maxHeartbeats 4000000 in
theorem slices_ContainsFunc_api_Ref_api_Ref_ok (n : Nat) (s_0 : List TRef) (f_1 : TRef → Option Bool) (F_f_1 : FuncId) (C_f_1 : List AV) (K_f_1 : AV.mapA.go (fun _ => none) C_f_1 = some C_f_1) (E_f_1 : ∀ vs w, (callFunc F_f_1 vs).run Try.prog w = .ok (.enter F_f_1 vs) w) (H_f_1 : ∀ (x0 : TRef) r, f_1 x0 = some r → QCalls Try.prog F_f_1 ([.p (.agg (TRef.cs x0))] ++ C_f_1) (· = .p (eB r))) (r : Bool) (h0 : slices_ContainsFunc_api_Ref_api_Ref n s_0 f_1 = some r) : QCalls Try.prog 75 [.p (eL eTRef s_0), .func (.func F_f_1) C_f_1] (· = .p (eB r)) := by
 unfold slices_ContainsFunc_api_Ref_api_Ref at h0
 refine qbodyA good Try.func75 rfl rfl rfl fun w0 => ?_
 refine awp_seq (awp_reg ?_)
 refine ro rfl (ok_assign rfl rfl rfl rfl ?_)
 refine rn ?_
 refine awp_seq (awp_reg ?_)
 refine ro rfl (ok_move rfl rfl rfl rfl ?_)
 refine ro rfl (ok_move rfl rfl rfl rfl ?_)
 obtain ⟨r1, e2, h0⟩ := bd_cut h0
 refine ro rfl (ok_callQ (slices_IndexFunc_api_Ref_api_Ref_ok _ s_0 f_1 F_f_1 C_f_1 K_f_1 E_f_1 H_f_1 _ e2) rfl rfl rfl rfl (mapAgo_cons rfl (mapAgo_cons (mapA_func K_f_1) mapAgo_nil)) ⟨sr, sr, trivial⟩ Try.call82 rfl ?_)
 refine ro rfl (ok_cmp rfl rfl rfl rfl rfl rfl ?_)
 refine ro rfl (ok_assign rfl rfl rfl rfl ?_)
 refine rn ?_
 refine awp_ret ?_
 (repeat (first | refine uw ?_ | refine uo rfl ?_))
 have e0 := oi h0
 subst e0
 refine reta_mk rfl ?_
 exact sr

def reference_Same (a_0 : TRef) (b_1 : TRef) : Option Bool :=
 (
   if a_0.fKind = b_1.fKind then
    if a_0.fType = b_1.fType then
     some (decide (a_0.fName = b_1.fName))
    else
     some false
   else
    some false
  : Option Bool).bind fun t3 =>
 some t3

set_option maxHeartbeats 4000000 in
theorem reference_Same_ok (a_0 : TRef) (b_1 : TRef) (r : Bool) (h0 : reference_Same a_0 b_1 = some r) : PCalls Try.prog 17 [.agg (TRef.cs a_0), .agg (TRef.cs b_1)] (· = .p (eB r)) := by
 unfold reference_Same at h0
 refine pbodyA good Try.func17 rfl rfl rfl fun w0 => ?_
 refine awp_seq (awp_reg ?_)
 refine ro rfl (ok_box rfl rfl rfl rfl rfl ?_)
 refine ro rfl (ok_box rfl rfl rfl rfl rfl ?_)
 refine ro rfl (ok_assign rfl rfl rfl rfl ?_)
 refine rn ?_
 refine awp_seq ?_
 obtain ⟨o5, h1, h0⟩ := bd_cut h0
 refine awp_joinN ⟨[(4, .p (eB o5))], []⟩ ?_ ?_
 ·intro s' hle
  (repeat (first | refine uw ?_ | refine uo rfl ?_))
  refine awp_ghost hle ?_
  refine awp_ret ?_
  (repeat (first | refine uw ?_ | refine uo rfl ?_))
  have e0 := oi h0
  subst e0
  refine reta_mk rfl ?_
  exact sr
 ·skip
  refine awp_reg ?_
  refine ro rfl (ok_fieldAddrP rfl rfl rfl rfl rfl rfl rfl rfl rfl ?_)
  refine ro rfl (ok_loadP1 rfl rfl rfl rfl rfl rfl rfl rfl ?_)
  refine ro rfl (ok_fieldAddrP rfl rfl rfl rfl rfl rfl rfl rfl rfl ?_)
  refine ro rfl (ok_loadP1 rfl rfl rfl rfl rfl rfl rfl rfl ?_)
  refine ro rfl (ok_cmp rfl rfl rfl rfl rfl rfl ?_)
  refine ro rfl (ok_move rfl rfl rfl rfl ?_)
  refine gd_D rfl rfl rfl (fun c1 => ?_) (fun c1 => ?_)
  ·replace h1 := if_t c1 h1
   refine gd_tt rfl rfl rfl (dt c1) (ok_fieldAddrP rfl rfl rfl rfl rfl rfl rfl rfl rfl ?_)
   refine gd_tt rfl rfl rfl (dt c1) (ok_loadP1 rfl rfl rfl rfl rfl rfl rfl rfl ?_)
   refine gd_tt rfl rfl rfl (dt c1) (ok_fieldAddrP rfl rfl rfl rfl rfl rfl rfl rfl rfl ?_)
   refine gd_tt rfl rfl rfl (dt c1) (ok_loadP1 rfl rfl rfl rfl rfl rfl rfl rfl ?_)
   refine gd_tt rfl rfl rfl (dt c1) (ok_cmpS rfl rfl rfl rfl rfl rfl ?_)
   refine ro rfl (ok_pick_true rfl rfl rfl rfl (dt c1) rfl ?_)
   refine ro rfl (ok_move rfl rfl rfl rfl ?_)
   refine gd_D rfl rfl rfl (fun c2 => ?_) (fun c2 => ?_)
   ·replace h1 := if_t c2 h1
    refine gd_tt rfl rfl rfl (dt c2) (ok_fieldAddrP rfl rfl rfl rfl rfl rfl rfl rfl rfl ?_)
    refine gd_tt rfl rfl rfl (dt c2) (ok_loadP1 rfl rfl rfl rfl rfl rfl rfl rfl ?_)
    refine gd_tt rfl rfl rfl (dt c2) (ok_fieldAddrP rfl rfl rfl rfl rfl rfl rfl rfl rfl ?_)
    refine gd_tt rfl rfl rfl (dt c2) (ok_loadP1 rfl rfl rfl rfl rfl rfl rfl rfl ?_)
    refine gd_tt rfl rfl rfl (dt c2) (ok_cmpS rfl rfl rfl rfl rfl rfl ?_)
    refine ro rfl (ok_pick_true rfl rfl rfl rfl (dt c2) rfl ?_)
    refine ro rfl (ok_assign rfl rfl rfl rfl ?_)
    refine rn ?_
    (repeat (first | refine uw ?_ | refine uo rfl ?_))
    have e1 := oi h1
    subst e1
    exact ghost_le (le_mk ⟨er rfl, trivial⟩ trivial)
   ·replace h1 := if_f c2 h1
    refine gd_tf rfl rfl rfl (df c2) rfl rfl ?_
    refine gd_tf rfl rfl rfl (df c2) rfl rfl ?_
    refine gd_tf rfl rfl rfl (df c2) rfl rfl ?_
    refine gd_tf rfl rfl rfl (df c2) rfl rfl ?_
    refine gd_tf rfl rfl rfl (df c2) rfl rfl ?_
    refine ro rfl (ok_pick_false rfl rfl rfl rfl (df c2) rfl ?_)
    refine ro rfl (ok_assign rfl rfl rfl rfl ?_)
    refine rn ?_
    (repeat (first | refine uw ?_ | refine uo rfl ?_))
    have e1 := oi h1
    subst e1
    exact ghost_le (le_mk ⟨er rfl, trivial⟩ trivial)
  ·replace h1 := if_f c1 h1
   refine gd_tf rfl rfl rfl (df c1) rfl rfl ?_
   refine gd_tf rfl rfl rfl (df c1) rfl rfl ?_
   refine gd_tf rfl rfl rfl (df c1) rfl rfl ?_
   refine gd_tf rfl rfl rfl (df c1) rfl rfl ?_
   refine gd_tf rfl rfl rfl (df c1) rfl rfl ?_
   refine ro rfl (ok_pick_false rfl rfl rfl rfl (df c1) rfl ?_)
   refine ro rfl (ok_move rfl rfl rfl rfl ?_)
   refine gd_tf rfl rfl rfl (rfl) rfl rfl ?_
   refine gd_tf rfl rfl rfl (rfl) rfl rfl ?_
   refine gd_tf rfl rfl rfl (rfl) rfl rfl ?_
   refine gd_tf rfl rfl rfl (rfl) rfl rfl ?_
   refine gd_tf rfl rfl rfl (rfl) rfl rfl ?_
   refine ro rfl (ok_pick_false rfl rfl rfl rfl (rfl) rfl ?_)
   refine ro rfl (ok_assign rfl rfl rfl rfl ?_)
   refine rn ?_
   (repeat (first | refine uw ?_ | refine uo rfl ?_))
   have e1 := oi h1
   subst e1
   exact ghost_le (le_mk ⟨er rfl, trivial⟩ trivial)

def reference_finder_add_1 (x_0 : TRef) (cap_0 : TRef) : Option Bool :=
 (reference_Same x_0 cap_0).bind fun r1 =>
 some r1

set_option maxHeartbeats 4000000 in
theorem reference_finder_add_1_ok (x_0 : TRef) (cap_0 : TRef) (r : Bool) (h0 : reference_finder_add_1 x_0 cap_0 = some r) : QCalls Try.prog 76 [.p (.agg (TRef.cs x_0)), .rptr (TRef.cs cap_0)] (· = .p (eB r)) := by
 unfold reference_finder_add_1 at h0
 refine qbodyA good Try.func76 rfl rfl rfl fun w0 => ?_
 refine awp_seq (awp_reg ?_)
 refine ro rfl (ok_box rfl rfl rfl rfl rfl ?_)
 refine ro rfl (ok_assign rfl rfl rfl rfl ?_)
 refine rn ?_
 refine awp_seq (awp_reg ?_)
 refine ro rfl (ok_loadPA rfl rfl rfl rfl rfl rfl rfl rfl rfl ?_)
 refine ro rfl (ok_loadRA rfl rfl rfl rfl rfl rfl rfl ?_)
 obtain ⟨r1, e2, h0⟩ := bd_cut h0
 refine ro rfl (ok_callP (reference_Same_ok x_0 cap_0 _ e2) rfl rfl rfl rfl ⟨sr, sr, trivial⟩ Try.call17 rfl ?_)
 refine ro rfl (ok_assign rfl rfl rfl rfl ?_)
 refine rn ?_
 refine awp_ret ?_
 (repeat (first | refine uw ?_ | refine uo rfl ?_))
 have e0 := oi h0
 subst e0
 refine reta_mk rfl ?_
 exact sr

def reference_finder_add (n : Nat) (f_0 : Tfinder) (r_1 : TRef) : Option Tfinder :=
 (slices_ContainsFunc_api_Ref_api_Ref n f_0.fout (fun x0 => reference_finder_add_1 x0 r_1)).bind fun r2 =>
 if (!r2) = true then
  ck ((f_0.fout.length + [r_1].length) * 48 ≤ 140737488355328) <|
  some (Tfinder.mk (f_0.fout ++ [r_1]))
 else
  some (Tfinder.mk f_0.fout)

set_option maxHeartbeats 4000000 in
theorem reference_finder_add_ok (n : Nat) (f_0 : Tfinder) (r_1 : TRef) (r : Tfinder) (h0 : reference_finder_add n f_0 r_1 = some r) : OCalls Try.prog 65 [.ptr 1000000 0, .p (.agg (TRef.cs r_1))] [(1000000, [.vec 900000 4 (f_0.fout.map eTRef)])] (fun x y => x = .tuple [] ∧ y = [(1000000, [.vec 2000000 4 (r.fout.map eTRef)])]) := by
 unfold reference_finder_add at h0
 refine obodyG good [800000] [1000000] Try.func65 rfl rfl rfl rfl rfl fun w0 F => ?_
 refine awp_seq (awp_reg ?_)
 refine ro rfl (ok_box rfl rfl rfl rfl rfl ?_)
 refine rn ?_
 refine awp_seq (awp_reg ?_)
 refine ro rfl (ok_move rfl rfl rfl rfl ?_)
 refine ro rfl (ok_nilCheckP rfl rfl rfl rfl ?_)
 refine ro rfl (ok_fieldAddrP rfl rfl rfl rfl rfl rfl rfl rfl rfl ?_)
 refine ro rfl (ok_loadP1 rfl rfl rfl rfl rfl rfl rfl rfl ?_)
 refine rwpL_ghost (ghost_settleO 3 (cs := TRef.cs r_1) rfl rfl rfl) ?_
 refine ro rfl (ok_makeFunc rfl rfl rfl rfl ?_)
 obtain ⟨r2, e3, h0⟩ := bd_cut h0
 refine ro rfl (ok_callQ (slices_ContainsFunc_api_Ref_api_Ref_ok _ f_0.fout (fun x0 => reference_finder_add_1 x0 r_1) 76 [.rptr (TRef.cs r_1)] rfl Try.call76 (fun x0 r h => reference_finder_add_1_ok x0 r_1 r h) _ e3) rfl rfl rfl rfl (mapAgo_cons rfl (mapAgo_cons (mapA_func rfl) mapAgo_nil)) ⟨sr, sr, trivial⟩ Try.call75 rfl ?_)
 refine ro rfl (ok_not rfl rfl rfl rfl ?_)
 refine rn ?_
 refine wp_if rfl (fun c4 => ?_) (fun c4 => ?_)
 ·replace h0 := if_t c4 h0
  obtain ⟨h5, h0⟩ := ck_cut h0
  refine awp_ghost (ghost_le (t := ⟨[(0, .ptr 1000000 0), (3, .rptr (TRef.cs r_1))], [(1000000, [.vec 900000 4 (f_0.fout.map eTRef)])]⟩) (le_mk ⟨er rfl, er rfl, trivial⟩ ⟨⟨_, rfl, ⟨sr, trivial⟩⟩, trivial⟩)) ?_
  refine awp_drawS ⟨2, [7, 10], (by3 (some fun i => Nat.beq i 900000 || Nat.beq i 18) none none), (fun _ => [(0, .ptr 1000000 0), (3, .rptr (TRef.cs r_1))]), (by3 ([(1000000, [.vec 900000 4 (f_0.fout.map eTRef)])]) ([(1000000, [.p (eL eTRef f_0.fout)])]) ([(1000000, [.vec 18 4 ((f_0.fout ++ [r_1]).map eTRef)]), (1000000, [.p (eL eTRef f_0.fout)])]))⟩ rfl rfl rfl ⟨rfl, rfl, trivial⟩ (lt2 ⟨rfl, rfl, trivial⟩ ⟨rfl, rfl, trivial⟩) rfl rfl rfl rfl ?_
  refine ds_pure (fun _ => .ptr 1000000 0) rfl rfl rfl (all3 rfl rfl (fun _ => rfl)) (lt2 rfl rfl) (stg_no rfl (stg_yes [(0, _)] ⟨.inl rfl, trivial⟩ (fun sl hsl K hK => one_op rfl (ok_move rfl rfl rfl (hsl _ _ rfl) hK)) (stg_yes [(0, _)] ⟨.inl rfl, trivial⟩ (fun sl hsl K hK => one_op rfl (ok_move rfl rfl rfl (hsl _ _ rfl) hK)) stg_nil))) ?_
  refine ds_pure (fun _ => .ptr 1000000 0) rfl rfl rfl (all3 rfl rfl (fun _ => rfl)) (lt2 rfl rfl) (stg_no rfl (stg_yes [(0, _)] ⟨.inl rfl, trivial⟩ (fun sl hsl K hK => one_op rfl (ok_move rfl rfl rfl (hsl _ _ rfl) hK)) (stg_yes [(0, _)] ⟨.inl rfl, trivial⟩ (fun sl hsl K hK => one_op rfl (ok_move rfl rfl rfl (hsl _ _ rfl) hK)) stg_nil))) ?_
  refine ds_pure (fun _ => .ptr 1000000 0) rfl rfl rfl (all3 rfl rfl (fun _ => rfl)) (lt2 rfl rfl) (stg_no rfl (stg_yes [(12, _)] ⟨.inr ⟨1, _, rfl, rfl, rfl⟩, trivial⟩ (fun sl hsl K hK => one_op rfl (ok_nilCheckP rfl rfl rfl (hsl _ _ rfl) hK)) (stg_yes [(12, _)] ⟨.inr ⟨1, _, rfl, rfl, rfl⟩, trivial⟩ (fun sl hsl K hK => one_op rfl (ok_nilCheckP rfl rfl rfl (hsl _ _ rfl) hK)) stg_nil))) ?_
  refine ds_pure (fun _ => .ptr 1000000 0) rfl rfl rfl (all3 rfl rfl (fun _ => rfl)) (lt2 rfl rfl) (stg_no rfl (stg_yes [(13, _)] ⟨.inr ⟨2, _, rfl, rfl, rfl⟩, trivial⟩ (fun sl hsl K hK => one_op rfl (ok_fieldAddrP rfl rfl rfl rfl rfl rfl rfl rfl (hsl _ _ rfl) hK)) (stg_yes [(13, _)] ⟨.inr ⟨2, _, rfl, rfl, rfl⟩, trivial⟩ (fun sl hsl K hK => one_op rfl (ok_fieldAddrP rfl rfl rfl rfl rfl rfl rfl rfl (hsl _ _ rfl) hK)) stg_nil))) ?_
  refine ds_pure (by3 (.vec 900000 4 (f_0.fout.map eTRef)) (.p (eL eTRef f_0.fout)) (.p (eL eTRef f_0.fout))) rfl rfl rfl (all3 rfl rfl (fun _ => rfl)) (lt2 rfl rfl) (stg_no rfl (stg_no rfl (stg_yes [(14, _)] ⟨.inr ⟨3, _, rfl, rfl, rfl⟩, trivial⟩ (fun sl hsl K hK => one_op rfl (ok_loadP1 rfl rfl rfl rfl rfl (hsl _ _ rfl) rfl rfl hK)) stg_nil))) ?_
  refine ds_pure (fun _ => .p (.agg (TRef.cs r_1))) rfl rfl rfl (all3 rfl rfl (fun _ => rfl)) (lt2 rfl rfl) (stg_no rfl (stg_yes [(3, _)] ⟨.inl rfl, trivial⟩ (fun sl hsl K hK => one_op rfl (ok_loadRA rfl rfl rfl rfl rfl (hsl _ _ rfl) rfl hK)) (stg_yes [(3, _)] ⟨.inl rfl, trivial⟩ (fun sl hsl K hK => one_op rfl (ok_loadRA rfl rfl rfl rfl rfl (hsl _ _ rfl) rfl hK)) stg_nil))) ?_
  refine ds_pure (fun _ => .p (eL eTRef [r_1])) rfl rfl rfl (all3 rfl rfl (fun _ => rfl)) (lt2 rfl rfl) (stg_no rfl (stg_no rfl (stg_yes [(16, _)] ⟨.inr ⟨5, _, rfl, rfl, rfl⟩, trivial⟩ (fun sl hsl K hK => one_op rfl (op_bslice eTRef [r_1] rfl rfl rfl rfl rfl rfl (elems_cons (hsl _ _ rfl) rfl elems_nil) rfl rfl rfl rfl rfl rfl (by first | rfl | (simp only [List.map_cons, List.map_nil, TRef.agg_eq]; done) | (simp only [List.map_cons, List.map_nil, TRef.agg_eq]; rfl)) hK)) stg_nil))) ?_
  refine ds_imp (fun _ => .vec 18 4 ((f_0.fout ++ [r_1]).map eTRef)) [(15, _), (17, _)] rfl ⟨.inr ⟨4, _, rfl, rfl, rfl⟩, .inr ⟨6, _, rfl, rfl, rfl⟩, trivial⟩ rfl rfl (fun _ => rfl) (lt2 (fun h => absurd h (by decide)) (fun _ => rfl)) (fun sl hsl K hK => one_op rfl (op_appV eTRef f_0.fout [r_1] rfl rfl rfl rfl rfl rfl rfl rfl (hsl _ _ rfl) rfl rfl (hsl _ _ rfl) rfl (fun x => congrArg List.length (TRef.cells_eq x)) rfl rfl rfl h5 hK)) ?_
  refine ds_pure (fun _ => .ptr 1000000 0) rfl rfl rfl (all3 rfl rfl (fun _ => rfl)) (lt2 rfl rfl) (stg_yes [(11, _)] ⟨.inr ⟨0, _, rfl, rfl, rfl⟩, trivial⟩ (fun sl hsl K hK => one_op rfl (ok_nilCheckP rfl rfl rfl (hsl _ _ rfl) hK)) (stg_yes [(11, _)] ⟨.inr ⟨0, _, rfl, rfl, rfl⟩, trivial⟩ (fun sl hsl K hK => one_op rfl (ok_nilCheckP rfl rfl rfl (hsl _ _ rfl) hK)) (stg_no rfl stg_nil))) ?_
  refine ds_pure (fun _ => .ptr 1000000 0) rfl rfl rfl (all3 rfl rfl (fun _ => rfl)) (lt2 rfl rfl) (stg_no rfl (stg_yes [(19, _)] ⟨.inr ⟨8, _, rfl, rfl, rfl⟩, trivial⟩ (fun sl hsl K hK => one_op rfl (ok_fieldAddrP rfl rfl rfl rfl rfl rfl rfl rfl (hsl _ _ rfl) hK)) (stg_no rfl stg_nil))) ?_
  refine ds_store [(18, _), (20, _)] rfl ⟨.inr ⟨7, _, rfl, rfl, rfl⟩, .inr ⟨9, _, rfl, rfl, rfl⟩, trivial⟩ rfl (fun sl hsl K hK => one_op rfl (ok_store rfl rfl rfl (hsl _ _ rfl) (hsl _ _ rfl) rfl rfl rfl (Nat.le_of_ble_eq_true rfl) hK)) ?_
  refine ds_nil ?_
  (repeat (first | refine uw ?_ | refine uo rfl ?_))
  have e0 := oi h0
  subst e0
  exact endg_mk (ghost_trans (ghost_ren 18 800000 rfl rfl rfl rfl rfl) (ghost_refl _)) rfl rfl rfl rfl (sr) ⟨⟨_, rfl, ⟨sr, trivial⟩⟩, trivial⟩
 ·replace h0 := if_bf c4 h0
  refine awp_skip ?_
  (repeat (first | refine uw ?_ | refine uo rfl ?_))
  have e0 := oi h0
  subst e0
  exact endg_mk (ghost_trans (ghost_ren 900000 800000 rfl rfl rfl rfl rfl) (ghost_refl _)) rfl rfl rfl rfl (sr) ⟨⟨_, rfl, ⟨sr, trivial⟩⟩, trivial⟩

def reference_finder_expr_l1 (r_reference_finder_expr : Tfinder → TExpr → (List Bytes) → Option Tfinder) (e_1 : TExpr) (bound_2 : List Bytes) (inner15 : List Bytes) : Nat → Int → (List TRef) → Option (List TRef)
 | 0, _, _ => none
 | m + 1, t27, f28 =>
 if t27 < (e_1.fKids.length : Int) then
  (
    ck ((0 : Int) ≤ t27 ∧ t27 < (e_1.fKids.length : Int)) <|
    if t27 = 0 then
     (r_reference_finder_expr (Tfinder.mk f28) (lat e_1.fKids t27) bound_2).bind fun r32 =>
     some r32.fout
    else
     (r_reference_finder_expr (Tfinder.mk f28) (lat e_1.fKids t27) inner15).bind fun r34 =>
     some r34.fout
   : Option (List TRef)).bind fun f36 =>
  ck (inR (t27 + 1)) <|
  reference_finder_expr_l1 r_reference_finder_expr e_1 bound_2 inner15 m (t27 + 1) f36
 else
  some f28

def reference_finder_expr_l2 (r_reference_finder_expr : Tfinder → TExpr → (List Bytes) → Option Tfinder) (e_1 : TExpr) (bound_2 : List Bytes) : Nat → Int → (List TRef) → Option (List TRef)
 | 0, _, _ => none
 | m + 1, t48, f49 =>
 if t48 < (e_1.fKids.length : Int) then
  ck ((0 : Int) ≤ t48 ∧ t48 < (e_1.fKids.length : Int)) <|
  (r_reference_finder_expr (Tfinder.mk f49) (lat e_1.fKids t48) bound_2).bind fun r52 =>
  ck (inR (t48 + 1)) <|
  reference_finder_expr_l2 r_reference_finder_expr e_1 bound_2 m (t48 + 1) r52.fout
 else
  some f49

def reference_finder_chain_l1 (r_reference_finder_expr : Tfinder → TExpr → (List Bytes) → Option Tfinder) (bound_2 : List Bytes) (r1 : TExpr × (List TExpr)) : Nat → Int → (List TRef) → Option (List TRef)
 | 0, _, _ => none
 | m + 1, t26, f27 =>
 if t26 < (r1.2.length : Int) then
  (
    ck ((0 : Int) ≤ t26 ∧ t26 < (r1.2.length : Int)) <|
    (
      if (lat r1.2 t26).fKind = 5 then
       some (decide (1 < (((lat r1.2 t26).fKids).length : Int)))
      else
       some false
     : Option Bool).bind fun t31 =>
    if t31 = true then
     ck ((0 : Int) ≤ 1 ∧ 1 < (((lat r1.2 t26).fKids).length : Int)) <|
     (r_reference_finder_expr (Tfinder.mk f27) (lat ((lat r1.2 t26).fKids) 1) bound_2).bind fun r34 =>
     some r34.fout
    else
     some f27
   : Option (List TRef)).bind fun f36 =>
  ck (inR (t26 + 1)) <|
  reference_finder_chain_l1 r_reference_finder_expr bound_2 r1 m (t26 + 1) f36
 else
  some f27

mutual
def reference_finder_expr : Nat → Tfinder → TExpr → (List Bytes) → Option Tfinder
 | 0, _, _, _ => none
 | n + 1, f_0, e_1, bound_2 =>
 (
   (
     if e_1.fKind = 3 then
      some (decide (e_1.fKind = 3))
     else
      if e_1.fKind = 4 then
       some (decide (e_1.fKind = 4))
      else
       some (decide (e_1.fKind = 5))
    : Option Bool).bind fun t3 =>
   if t3 = true then
    ((reference_finder_chain n) (Tfinder.mk f_0.fout) e_1 bound_2).bind fun r5 =>
    some r5.fout
   else
    (
      if e_1.fKind = 12 then
       some (decide (e_1.fKind = 12))
      else
       some (decide (e_1.fKind = 13))
     : Option Bool).bind fun t8 =>
    if t8 = true then
     (slices_Clone_string_string bound_2).bind fun r10 =>
     ck ((r10.length + [e_1.fName].length) * 16 ≤ 140737488355328) <|
     (
       if e_1.fKey = ([] : Bytes) then
        some (r10 ++ [e_1.fName])
       else
        ck (((r10 ++ [e_1.fName]).length + [e_1.fKey].length) * 16 ≤ 140737488355328) <|
        some ((r10 ++ [e_1.fName]) ++ [e_1.fKey])
      : Option (List Bytes)).bind fun inner15 =>
     (reference_finder_expr_l1 (reference_finder_expr n) e_1 bound_2 inner15 n 0 f_0.fout).bind fun f40 =>
     some f40
    else
     (reference_finder_expr_l2 (reference_finder_expr n) e_1 bound_2 n 0 f_0.fout).bind fun f57 =>
     some f57
  : Option (List TRef)).bind fun f58 =>
 some (Tfinder.mk f58)
def reference_finder_chain : Nat → Tfinder → TExpr → (List Bytes) → Option Tfinder
 | 0, _, _, _ => none
 | n + 1, f_0, e_1, bound_2 =>
 (reference_chain n e_1).bind fun r1 =>
 (
   if r1.1.fKind = 3 then
    (slices_Contains_string_string n bound_2 r1.1.fName).bind fun r4 =>
    if (!r4) = true then
     (reference_begin r1.1 r1.2).bind fun r7 =>
     (reference_finder_add n (Tfinder.mk f_0.fout) r7.1).bind fun r9 =>
     some r9.fout
    else
     some f_0.fout
   else
    ((reference_finder_expr n) (Tfinder.mk f_0.fout) r1.1 bound_2).bind fun r11 =>
    some r11.fout
  : Option (List TRef)).bind fun f13 =>
 (reference_finder_chain_l1 (reference_finder_expr n) bound_2 r1 n 0 f13).bind fun f40 =>
 some (Tfinder.mk f40)
end

set_option maxHeartbeats 4000000 in
theorem reference_finder_expr_all (n : Nat) : (∀ (f_0 : Tfinder) (e_1 : TExpr) (bound_2 : List Bytes) (r : Tfinder), reference_finder_expr n f_0 e_1 bound_2 = some r → OCalls Try.prog 37 [.ptr 1000000 0, .p (.agg (TExpr.cs e_1)), .p (eL eS bound_2)] [(1000000, [.vec 900000 4 (f_0.fout.map eTRef)])] (fun x y => x = .tuple [] ∧ y = [(1000000, [.vec 2000000 4 (r.fout.map eTRef)])])) ∧ (∀ (f_0 : Tfinder) (e_1 : TExpr) (bound_2 : List Bytes) (r : Tfinder), reference_finder_chain n f_0 e_1 bound_2 = some r → OCalls Try.prog 52 [.ptr 1000000 0, .p (.agg (TExpr.cs e_1)), .p (eL eS bound_2)] [(1000000, [.vec 900000 4 (f_0.fout.map eTRef)])] (fun x y => x = .tuple [] ∧ y = [(1000000, [.vec 2000000 4 (r.fout.map eTRef)])])) := by
 induction n with
 | zero => exact ⟨(by intro f_0 e_1 bound_2 r h0; cases h0), (by intro f_0 e_1 bound_2 r h0; cases h0)⟩
 | succ n ih =>
 obtain ⟨ih_reference_finder_expr_ok, ih_reference_finder_chain_ok⟩ := ih
 refine ⟨?_, ?_⟩
 ·skip
  intro f_0 e_1 bound_2 r h0
  rw [reference_finder_expr] at h0
  refine obodyG good [800000] [1000000] Try.func37 rfl rfl rfl rfl rfl fun w0 F => ?_
  refine awp_seq (awp_reg ?_)
  refine ro rfl (ok_box rfl rfl rfl rfl rfl ?_)
  refine rn ?_
  refine awp_seq (awp_reg ?_)
  refine ro rfl (ok_fieldAddrP rfl rfl rfl rfl rfl rfl rfl rfl rfl ?_)
  refine ro rfl (ok_loadP1 rfl rfl rfl rfl rfl rfl rfl rfl ?_)
  refine rn ?_
  obtain ⟨o66, h1, h0⟩ := bd_cut h0
  refine awp_joinN ⟨[], [(1000000, [.vec 900000 4 (o66.map eTRef)])]⟩ ?_ ?_
  ·intro s' hle
   (repeat (first | refine uw ?_ | refine uo rfl ?_))
   (repeat (first | refine uw ?_ | refine uo rfl ?_))
   have e0 := oi h0
   subst e0
   exact endg_mk (ghost_trans hle (ghost_trans (ghost_ren 900000 800000 rfl rfl rfl rfl rfl) (ghost_refl _))) rfl rfl rfl rfl (sr) ⟨⟨_, rfl, ⟨sr, trivial⟩⟩, trivial⟩
  ·refine awp_block ?_
   refine awp_seq ?_
   obtain ⟨o68, h2, h1⟩ := bd_cut h1
   refine awp_joinN ⟨[(0, .ptr 1000000 0), (2, .p (eL eS bound_2)), (4, .ptr 4 0), (12, .p (eI e_1.fKind)), (25, .p (eB o68))], [(4, [.p (eI e_1.fKind), .p (eI e_1.fOp), .p (eS e_1.fName), .p (eS e_1.fKey), .p (eI e_1.fValue.fKind), .p (eI e_1.fValue.fNum), .p (eS e_1.fValue.fStr), .p (eL eTValue e_1.fValue.fItems), .p (eL eS e_1.fValue.fKeys), .p (eL eTExpr e_1.fKids), .p (eI e_1.fAt)]), (1000000, [.vec 900000 4 (f_0.fout.map eTRef)])]⟩ ?_ ?_
   ·intro s' hle
    (repeat (first | refine uw ?_ | refine uo rfl ?_))
    refine awp_ghost hle ?_
    refine wp_if rfl (fun c4 => ?_) (fun c4 => ?_)
    ·replace h1 := if_t c4 h1
     refine awp_reg ?_
     refine ro rfl (ok_move rfl rfl rfl rfl ?_)
     refine ro rfl (ok_loadPA rfl rfl rfl rfl rfl rfl rfl rfl rfl ?_)
     refine ro rfl (ok_move rfl rfl rfl rfl ?_)
     obtain ⟨r5, e6, h1⟩ := bd_cut h1
     refine ro rfl (op_callV [1000000] [900000] 101000 101001 (ih_reference_finder_chain_ok (Tfinder.mk f_0.fout) e_1 bound_2 _ e6) rfl rfl rfl rfl rfl ⟨sr, sr, sr, trivial⟩ rfl rfl ⟨⟨_, rfl, ⟨sr, trivial⟩⟩, trivial⟩ rfl rfl rfl rfl rfl rfl rfl rfl Try.call52 rfl rfl ?_)
     refine rn ?_
     (repeat (first | refine uw ?_ | refine uo rfl ?_))
     have e1 := oi h1
     subst e1
     exact ghost_trans (ghost_ren 101000 900000 rfl rfl rfl rfl rfl) (ghost_le (le_mk trivial ⟨⟨_, rfl, ⟨sr, trivial⟩⟩, trivial⟩))
    ·replace h1 := if_bf c4 h1
     refine awp_seq ?_
     obtain ⟨o70, h2, h1⟩ := bd_cut h1
     refine awp_joinN ⟨[(0, .ptr 1000000 0), (2, .p (eL eS bound_2)), (4, .ptr 4 0), (33, .p (eB o70))], [(4, [.p (eI e_1.fKind), .p (eI e_1.fOp), .p (eS e_1.fName), .p (eS e_1.fKey), .p (eI e_1.fValue.fKind), .p (eI e_1.fValue.fNum), .p (eS e_1.fValue.fStr), .p (eL eTValue e_1.fValue.fItems), .p (eL eS e_1.fValue.fKeys), .p (eL eTExpr e_1.fKids), .p (eI e_1.fAt)]), (1000000, [.vec 900000 4 (f_0.fout.map eTRef)])]⟩ ?_ ?_
     ·intro s' hle
      (repeat (first | refine uw ?_ | refine uo rfl ?_))
      refine awp_ghost hle ?_
      refine wp_if rfl (fun c9 => ?_) (fun c9 => ?_)
      ·replace h1 := if_t c9 h1
       refine awp_seq ?_
       obtain ⟨r10, e11, h1⟩ := bd_cut h1
       obtain ⟨h12, h1⟩ := ck_cut h1
       refine awp_ghost (ghost_le (t := ⟨[(0, .ptr 1000000 0), (2, .p (eL eS bound_2)), (4, .ptr 4 0)], [(4, [.p (eI e_1.fKind), .p (eI e_1.fOp), .p (eS e_1.fName), .p (eS e_1.fKey), .p (eI e_1.fValue.fKind), .p (eI e_1.fValue.fNum), .p (eS e_1.fValue.fStr), .p (eL eTValue e_1.fValue.fItems), .p (eL eS e_1.fValue.fKeys), .p (eL eTExpr e_1.fKids), .p (eI e_1.fAt)]), (1000000, [.vec 900000 4 (f_0.fout.map eTRef)])]⟩) (le_mk ⟨er rfl, er rfl, er rfl, trivial⟩ ⟨⟨_, rfl, ⟨sr, sr, sr, sr, sr, sr, sr, sr, sr, sr, sr, trivial⟩⟩, ⟨_, rfl, ⟨sr, trivial⟩⟩, trivial⟩)) ?_
       refine awp_drawS ⟨3, [1, 5, 6], (by4 (some (dropV [] 102000 102001)) (some fun i => Nat.beq i 102000 || Nat.beq i 41) none none), (fun _ => [(0, .ptr 1000000 0), (2, .p (eL eS bound_2)), (4, .ptr 4 0)]), (fun _ => [(4, [.p (eI e_1.fKind), .p (eI e_1.fOp), .p (eS e_1.fName), .p (eS e_1.fKey), .p (eI e_1.fValue.fKind), .p (eI e_1.fValue.fNum), .p (eS e_1.fValue.fStr), .p (eL eTValue e_1.fValue.fItems), .p (eL eS e_1.fValue.fKeys), .p (eL eTExpr e_1.fKids), .p (eI e_1.fAt)]), (1000000, [.vec 900000 4 (f_0.fout.map eTRef)])])⟩ rfl rfl rfl ⟨rfl, rfl, rfl, trivial⟩ (lt3 ⟨rfl, rfl, rfl, trivial⟩ ⟨rfl, rfl, rfl, trivial⟩ ⟨rfl, rfl, rfl, trivial⟩) rfl rfl rfl rfl ?_
       refine ds_pure (fun _ => .p (eL eS bound_2)) rfl rfl rfl (all4 rfl rfl rfl (fun _ => rfl)) (lt3 rfl rfl rfl) (stg_no rfl (stg_no rfl (stg_no rfl (stg_yes [(2, _)] ⟨.inl rfl, trivial⟩ (fun sl hsl K hK => one_op rfl (ok_move rfl rfl rfl (hsl _ _ rfl) hK)) stg_nil)))) ?_
       refine ds_imp (by4 (.vec 102000 1 (r10.map eS)) (.vec 102000 1 (r10.map eS)) (.p (eL eS r10)) (.p (eL eS r10))) [(36, _)] rfl ⟨.inr ⟨0, _, rfl, rfl, rfl⟩, trivial⟩ rfl rfl (fun _ => rfl) (lt3 (fun h => absurd h (by decide)) (fun _ => rfl) (fun _ => rfl)) (fun sl hsl K hK => one_op rfl (op_callV [] [] 102000 102001 (slices_Clone_string_string_ok bound_2 _ e11) rfl rfl rfl (args_cons (hsl _ _ rfl) args_nil) rfl ⟨sr, trivial⟩ rfl rfl trivial rfl rfl rfl rfl rfl rfl rfl rfl Try.call53 rfl rfl hK)) ?_
       refine ds_pure (fun _ => .ptr 4 2) rfl rfl rfl (all4 rfl rfl rfl (fun _ => rfl)) (lt3 rfl rfl rfl) (stg_no rfl (stg_yes [(4, _)] ⟨.inl rfl, trivial⟩ (fun sl hsl K hK => one_op rfl (ok_fieldAddrP rfl rfl rfl rfl rfl rfl rfl rfl (hsl _ _ rfl) hK)) (stg_yes [(4, _)] ⟨.inl rfl, trivial⟩ (fun sl hsl K hK => one_op rfl (ok_fieldAddrP rfl rfl rfl rfl rfl rfl rfl rfl (hsl _ _ rfl) hK)) (stg_yes [(4, _)] ⟨.inl rfl, trivial⟩ (fun sl hsl K hK => one_op rfl (ok_fieldAddrP rfl rfl rfl rfl rfl rfl rfl rfl (hsl _ _ rfl) hK)) stg_nil)))) ?_
       refine ds_pure (fun _ => .p (eS e_1.fName)) rfl rfl rfl (all4 rfl rfl rfl (fun _ => rfl)) (lt3 rfl rfl rfl) (stg_no rfl (stg_yes [(38, _)] ⟨.inr ⟨2, _, rfl, rfl, rfl⟩, trivial⟩ (fun sl hsl K hK => one_op rfl (ok_loadP1 rfl rfl rfl rfl rfl (hsl _ _ rfl) rfl rfl hK)) (stg_yes [(38, _)] ⟨.inr ⟨2, _, rfl, rfl, rfl⟩, trivial⟩ (fun sl hsl K hK => one_op rfl (ok_loadP1 rfl rfl rfl rfl rfl (hsl _ _ rfl) rfl rfl hK)) (stg_yes [(38, _)] ⟨.inr ⟨2, _, rfl, rfl, rfl⟩, trivial⟩ (fun sl hsl K hK => one_op rfl (ok_loadP1 rfl rfl rfl rfl rfl (hsl _ _ rfl) rfl rfl hK)) stg_nil)))) ?_
       refine ds_pure (fun _ => .p (eL eS [e_1.fName])) rfl rfl rfl (all4 rfl rfl rfl (fun _ => rfl)) (lt3 rfl rfl rfl) (stg_no rfl (stg_no rfl (stg_yes [(39, _)] ⟨.inr ⟨3, _, rfl, rfl, rfl⟩, trivial⟩ (fun sl hsl K hK => one_op rfl (op_bslice eS [e_1.fName] rfl rfl rfl rfl rfl rfl (elems_cons (hsl _ _ rfl) rfl elems_nil) rfl rfl rfl rfl rfl rfl rfl hK)) (stg_yes [(39, _)] ⟨.inr ⟨3, _, rfl, rfl, rfl⟩, trivial⟩ (fun sl hsl K hK => one_op rfl (op_bslice eS [e_1.fName] rfl rfl rfl rfl rfl rfl (elems_cons (hsl _ _ rfl) rfl elems_nil) rfl rfl rfl rfl rfl rfl rfl hK)) stg_nil)))) ?_
       refine ds_imp (fun _ => .vec 41 1 ((r10 ++ [e_1.fName]).map eS)) [(37, _), (40, _)] rfl ⟨.inr ⟨1, _, rfl, rfl, rfl⟩, .inr ⟨4, _, rfl, rfl, rfl⟩, trivial⟩ rfl rfl (fun _ => rfl) (lt3 (fun h => absurd h (by decide)) (fun h => absurd h (by decide)) (fun _ => rfl)) (fun sl hsl K hK => one_op rfl (op_appV eS r10 [e_1.fName] rfl rfl rfl rfl rfl rfl rfl rfl (hsl _ _ rfl) rfl rfl (hsl _ _ rfl) rfl (fun _ => rfl) rfl rfl rfl h12 hK)) ?_
       refine ds_imp (fun _ => .vec 41 1 ((r10 ++ [e_1.fName]).map eS)) [(41, _)] rfl ⟨.inr ⟨5, _, rfl, rfl, rfl⟩, trivial⟩ rfl rfl (fun _ => rfl) (lt3 (fun h => absurd h (by decide)) (fun h => absurd h (by decide)) (fun h => absurd h (by decide))) (fun sl hsl K hK => one_op rfl (ok_assign rfl rfl rfl (hsl _ _ rfl) hK)) ?_
       refine ds_nil ?_
       refine awp_seq ?_
       obtain ⟨o72, h2, h1⟩ := bd_cut h1
       refine awp_joinN ⟨[(0, .ptr 1000000 0), (2, .p (eL eS bound_2)), (4, .ptr 4 0), (6, .vec 49 1 (o72.map eS))], [(4, [.p (eI e_1.fKind), .p (eI e_1.fOp), .p (eS e_1.fName), .p (eS e_1.fKey), .p (eI e_1.fValue.fKind), .p (eI e_1.fValue.fNum), .p (eS e_1.fValue.fStr), .p (eL eTValue e_1.fValue.fItems), .p (eL eS e_1.fValue.fKeys), .p (eL eTExpr e_1.fKids), .p (eI e_1.fAt)]), (1000000, [.vec 900000 4 (f_0.fout.map eTRef)])]⟩ ?_ ?_
       ·intro s' hle
        (repeat (first | refine uw ?_ | refine uo rfl ?_))
        refine awp_ghost hle ?_
        refine awp_seq (awp_reg ?_)
        refine ro rfl (ok_fieldAddrP rfl rfl rfl rfl rfl rfl rfl rfl rfl ?_)
        refine ro rfl (ok_loadP1 rfl rfl rfl rfl rfl rfl rfl rfl ?_)
        refine ro rfl (op_lenL (f := eTExpr) (l := e_1.fKids) rfl rfl rfl rfl rfl rfl rfl ?_)
        refine ro rfl (ok_move rfl rfl rfl rfl ?_)
        refine rn ?_
        refine awp_block ?_
        obtain ⟨o74, h2, h1⟩ := bd_cut h1
        refine awp_joinE 3 ⟨[], [(1000000, [.vec 900000 4 (o74.map eTRef)])]⟩ ?_ ?_
        ·intro s' hle
         (repeat (first | refine uw ?_ | refine uo rfl ?_))
         refine ghost_trans hle ?_
         (repeat (first | refine uw ?_ | refine uo rfl ?_))
         have e1 := oi h1
         subst e1
         exact ghost_le (le_mk trivial ⟨⟨_, rfl, ⟨sr, trivial⟩⟩, trivial⟩)
        ·skip
         refine awp_loopG (fun q76 => ⟨[(0, .ptr 1000000 0), (2, .p (eL eS bound_2)), (6, .vec 49 1 (o72.map eS)), (51, .p (eL eTExpr e_1.fKids)), (52, .p (eI (e_1.fKids.length : Int))), (53, .p (eI q76.1))], [(1000000, [.vec 900000 4 (q76.2.map eTRef)])]⟩) (fun m (q76 : Int × (List TRef)) => reference_finder_expr_l1 (reference_finder_expr n) e_1 bound_2 o72 m q76.1 q76.2) (fun _ => rfl) (0, f_0.fout) h2 (ghost_le (le_mk ⟨er rfl, er rfl, er rfl, er rfl, er rfl, er rfl, trivial⟩ ⟨⟨_, rfl, ⟨sr, trivial⟩⟩, trivial⟩)) ?_
         rintro m ⟨t27, f28⟩ h2
         replace h2 : reference_finder_expr_l1 (reference_finder_expr n) e_1 bound_2 o72 (m + 1) t27 f28 = some o74 := h2
         rw [reference_finder_expr_l1] at h2
         refine awp_seq (awp_reg ?_)
         refine ro rfl (ok_cmp rfl rfl rfl rfl rfl rfl ?_)
         refine rn ?_
         refine awp_seq ?_
         refine wp_ifD rfl (fun c29 => ?_) (fun c29 => ?_)
         ·replace h2 := if_t c29 h2
          refine awp_skip (awp_seq ?_)
          obtain ⟨o77, h3, h2⟩ := bd_cut h2
          refine awp_joinN ⟨[(0, .ptr 1000000 0), (2, .p (eL eS bound_2)), (6, .vec 49 1 (o72.map eS)), (51, .p (eL eTExpr e_1.fKids)), (52, .p (eI (e_1.fKids.length : Int))), (53, .p (eI t27))], [(1000000, [.vec 106000 4 (o77.map eTRef)])]⟩ ?_ ?_
          ·intro s' hle
           (repeat (first | refine uw ?_ | refine uo rfl ?_))
           refine awp_ghost hle ?_
           refine awp_reg ?_
           obtain ⟨h37, h2⟩ := ck_cut h2
           refine ro rfl (ok_ar rfl rfl rfl rfl rfl rfl h37 ?_)
           refine ro rfl (ok_move rfl rfl rfl rfl ?_)
           refine rn ?_
           (repeat (first | refine uw ?_ | refine uo rfl ?_))
           exact ⟨(t27 + 1, o77), h2, ghost_trans (ghost_ren 106000 900000 rfl rfl rfl rfl rfl) (ghost_le (le_mk ⟨er rfl, er rfl, er rfl, er rfl, er rfl, er rfl, trivial⟩ ⟨⟨_, rfl, ⟨sr, trivial⟩⟩, trivial⟩))⟩
          ·refine awp_block ?_
           refine awp_seq (awp_reg ?_)
           refine ro rfl (ok_move rfl rfl rfl rfl ?_)
           obtain ⟨h30, h3⟩ := ck_cut h3
           refine ro rfl (op_at (f := eTExpr) (l := e_1.fKids) TExpr.cs rfl rfl rfl rfl rfl rfl rfl rfl rfl h30 TExpr.cells_eq (fun _ => rfl) ?_)
           refine ro rfl (ok_loadRA rfl rfl rfl rfl rfl rfl rfl ?_)
           refine ro rfl (ok_alloc rfl rfl rfl rfl rfl ?_)
           refine ro rfl (ok_assign rfl rfl rfl rfl ?_)
           refine ro rfl (ok_store rfl rfl rfl rfl rfl rfl rfl rfl (Nat.le_of_ble_eq_true rfl) ?_)
           refine rn ?_
           refine awp_seq (awp_reg ?_)
           refine ro rfl (ok_move rfl rfl rfl rfl ?_)
           refine ro rfl (ok_cmp rfl rfl rfl rfl rfl rfl ?_)
           refine rn ?_
           refine wp_ifD rfl (fun c31 => ?_) (fun c31 => ?_)
           ·replace h3 := if_t c31 h3
            refine awp_reg ?_
            refine ro rfl (ok_move rfl rfl rfl rfl ?_)
            refine ro rfl (ok_loadPA rfl rfl rfl rfl rfl rfl rfl rfl rfl ?_)
            refine ro rfl (ok_move rfl rfl rfl rfl ?_)
            obtain ⟨r32, e33, h3⟩ := bd_cut h3
            refine ro rfl (op_callV [1000000] [900000] 105000 105001 (ih_reference_finder_expr_ok (Tfinder.mk f28) (lat e_1.fKids t27) bound_2 _ e33) rfl rfl rfl rfl rfl ⟨sr, sr, sr, trivial⟩ rfl rfl ⟨⟨_, rfl, ⟨sr, trivial⟩⟩, trivial⟩ rfl rfl rfl rfl rfl rfl rfl rfl Try.call37 rfl rfl ?_)
            refine rn ?_
            (repeat (first | refine uw ?_ | refine uo rfl ?_))
            have e3 := oi h3
            subst e3
            exact ghost_trans (ghost_ren 105000 106000 rfl rfl rfl rfl rfl) (ghost_le (le_mk ⟨er rfl, er rfl, er rfl, er rfl, er rfl, er rfl, trivial⟩ ⟨⟨_, rfl, ⟨sr, trivial⟩⟩, trivial⟩))
           ·replace h3 := if_f c31 h3
            refine awp_reg ?_
            refine ro rfl (ok_move rfl rfl rfl rfl ?_)
            refine ro rfl (ok_loadPA rfl rfl rfl rfl rfl rfl rfl rfl rfl ?_)
            refine ro rfl (ok_move rfl rfl rfl rfl ?_)
            obtain ⟨r34, e35, h3⟩ := bd_cut h3
            refine ro rfl (op_callV [1000000] [900000] 106000 106001 (ih_reference_finder_expr_ok (Tfinder.mk f28) (lat e_1.fKids t27) o72 _ e35) rfl rfl rfl rfl rfl ⟨sr, sr, sr, trivial⟩ rfl rfl ⟨⟨_, rfl, ⟨sr, trivial⟩⟩, trivial⟩ rfl rfl rfl rfl rfl rfl rfl rfl Try.call37 rfl rfl ?_)
            refine rn ?_
            (repeat (first | refine uw ?_ | refine uo rfl ?_))
            have e3 := oi h3
            subst e3
            exact ghost_le (le_mk ⟨er rfl, er rfl, er rfl, er rfl, er rfl, er rfl, trivial⟩ ⟨⟨_, rfl, ⟨sr, trivial⟩⟩, trivial⟩)
         ·replace h2 := if_f c29 h2
          refine awp_exit ?_
          (repeat (first | refine uw ?_ | refine uo rfl ?_))
          have e2 := oi h2
          subst e2
          exact ghost_le (le_mk trivial ⟨⟨_, rfl, ⟨sr, trivial⟩⟩, trivial⟩)
       ·skip
        refine awp_seq (awp_reg ?_)
        refine ro rfl (ok_fieldAddrP rfl rfl rfl rfl rfl rfl rfl rfl rfl ?_)
        refine ro rfl (ok_loadP1 rfl rfl rfl rfl rfl rfl rfl rfl ?_)
        refine ro rfl (ok_cmpS rfl rfl rfl rfl rfl rfl ?_)
        refine rn ?_
        refine wp_ifN rfl (fun c13 => ?_) (fun c13 => ?_)
        ·replace h2 := if_f c13 h2
         refine awp_reg ?_
         refine ro rfl (ok_move rfl rfl rfl rfl ?_)
         refine ro rfl (ok_fieldAddrP rfl rfl rfl rfl rfl rfl rfl rfl rfl ?_)
         refine ro rfl (ok_loadP1 rfl rfl rfl rfl rfl rfl rfl rfl ?_)
         refine ro rfl (op_bslice eS [e_1.fKey] rfl rfl rfl rfl rfl rfl rfl rfl rfl rfl rfl rfl rfl rfl ?_)
         obtain ⟨h14, h2⟩ := ck_cut h2
         refine ro rfl (op_appV eS (r10 ++ [e_1.fName]) [e_1.fKey] rfl rfl rfl rfl rfl rfl rfl rfl rfl rfl rfl rfl rfl (fun _ => rfl) rfl rfl rfl h14 ?_)
         refine ro rfl (ok_assign rfl rfl rfl rfl ?_)
         refine rn ?_
         (repeat (first | refine uw ?_ | refine uo rfl ?_))
         have e2 := oi h2
         subst e2
         exact ghost_le (le_mk ⟨er rfl, er rfl, er rfl, er rfl, trivial⟩ ⟨⟨_, rfl, ⟨sr, sr, sr, sr, sr, sr, sr, sr, sr, sr, sr, trivial⟩⟩, ⟨_, rfl, ⟨sr, trivial⟩⟩, trivial⟩)
        ·replace h2 := if_t c13 h2
         refine awp_skip ?_
         (repeat (first | refine uw ?_ | refine uo rfl ?_))
         have e2 := oi h2
         subst e2
         exact ghost_trans (ghost_ren 41 49 rfl rfl rfl rfl rfl) (ghost_le (le_mk ⟨er rfl, er rfl, er rfl, er rfl, trivial⟩ ⟨⟨_, rfl, ⟨sr, sr, sr, sr, sr, sr, sr, sr, sr, sr, sr, trivial⟩⟩, ⟨_, rfl, ⟨sr, trivial⟩⟩, trivial⟩))
      ·replace h1 := if_bf c9 h1
       refine awp_seq (awp_reg ?_)
       refine ro rfl (ok_fieldAddrP rfl rfl rfl rfl rfl rfl rfl rfl rfl ?_)
       refine ro rfl (ok_loadP1 rfl rfl rfl rfl rfl rfl rfl rfl ?_)
       refine ro rfl (op_lenL (f := eTExpr) (l := e_1.fKids) rfl rfl rfl rfl rfl rfl rfl ?_)
       refine ro rfl (ok_move rfl rfl rfl rfl ?_)
       refine rn ?_
       refine awp_block ?_
       obtain ⟨o79, h2, h1⟩ := bd_cut h1
       refine awp_joinE 1 ⟨[], [(1000000, [.vec 900000 4 (o79.map eTRef)])]⟩ ?_ ?_
       ·intro s' hle
        (repeat (first | refine uw ?_ | refine uo rfl ?_))
        refine ghost_trans hle ?_
        (repeat (first | refine uw ?_ | refine uo rfl ?_))
        have e1 := oi h1
        subst e1
        exact ghost_le (le_mk trivial ⟨⟨_, rfl, ⟨sr, trivial⟩⟩, trivial⟩)
       ·skip
        refine awp_loopG (fun q81 => ⟨[(0, .ptr 1000000 0), (2, .p (eL eS bound_2)), (14, .p (eL eTExpr e_1.fKids)), (15, .p (eI (e_1.fKids.length : Int))), (16, .p (eI q81.1))], [(1000000, [.vec 900000 4 (q81.2.map eTRef)])]⟩) (fun m (q81 : Int × (List TRef)) => reference_finder_expr_l2 (reference_finder_expr n) e_1 bound_2 m q81.1 q81.2) (fun _ => rfl) (0, f_0.fout) h2 (ghost_le (le_mk ⟨er rfl, er rfl, er rfl, er rfl, er rfl, trivial⟩ ⟨⟨_, rfl, ⟨sr, trivial⟩⟩, trivial⟩)) ?_
        rintro m ⟨t48, f49⟩ h2
        replace h2 : reference_finder_expr_l2 (reference_finder_expr n) e_1 bound_2 (m + 1) t48 f49 = some o79 := h2
        rw [reference_finder_expr_l2] at h2
        refine awp_seq (awp_reg ?_)
        refine ro rfl (ok_cmp rfl rfl rfl rfl rfl rfl ?_)
        refine rn ?_
        refine awp_seq ?_
        refine wp_ifD rfl (fun c50 => ?_) (fun c50 => ?_)
        ·replace h2 := if_t c50 h2
         refine awp_skip (awp_seq (awp_block (awp_seq (awp_reg ?_))))
         obtain ⟨h51, h2⟩ := ck_cut h2
         refine ro rfl (op_at (f := eTExpr) (l := e_1.fKids) TExpr.cs rfl rfl rfl rfl rfl rfl rfl rfl rfl h51 TExpr.cells_eq (fun _ => rfl) ?_)
         refine ro rfl (ok_loadRA rfl rfl rfl rfl rfl rfl rfl ?_)
         refine ro rfl (ok_alloc rfl rfl rfl rfl rfl ?_)
         refine ro rfl (ok_store rfl rfl rfl rfl rfl rfl rfl rfl (Nat.le_of_ble_eq_true rfl) ?_)
         refine rn ?_
         refine awp_reg ?_
         refine ro rfl (ok_move rfl rfl rfl rfl ?_)
         refine ro rfl (ok_loadPA rfl rfl rfl rfl rfl rfl rfl rfl rfl ?_)
         refine ro rfl (ok_move rfl rfl rfl rfl ?_)
         obtain ⟨r52, e53, h2⟩ := bd_cut h2
         refine ro rfl (op_callV [1000000] [900000] 108000 108001 (ih_reference_finder_expr_ok (Tfinder.mk f49) (lat e_1.fKids t48) bound_2 _ e53) rfl rfl rfl rfl rfl ⟨sr, sr, sr, trivial⟩ rfl rfl ⟨⟨_, rfl, ⟨sr, trivial⟩⟩, trivial⟩ rfl rfl rfl rfl rfl rfl rfl rfl Try.call37 rfl rfl ?_)
         refine rn ?_
         (repeat (first | refine uw ?_ | refine uo rfl ?_))
         refine awp_reg ?_
         obtain ⟨h54, h2⟩ := ck_cut h2
         refine ro rfl (ok_ar rfl rfl rfl rfl rfl rfl h54 ?_)
         refine ro rfl (ok_move rfl rfl rfl rfl ?_)
         refine rn ?_
         (repeat (first | refine uw ?_ | refine uo rfl ?_))
         exact ⟨(t48 + 1, r52.fout), h2, ghost_trans (ghost_ren 108000 900000 rfl rfl rfl rfl rfl) (ghost_le (le_mk ⟨er rfl, er rfl, er rfl, er rfl, er rfl, trivial⟩ ⟨⟨_, rfl, ⟨sr, trivial⟩⟩, trivial⟩))⟩
        ·replace h2 := if_f c50 h2
         refine awp_exit ?_
         (repeat (first | refine uw ?_ | refine uo rfl ?_))
         have e2 := oi h2
         subst e2
         exact ghost_le (le_mk trivial ⟨⟨_, rfl, ⟨sr, trivial⟩⟩, trivial⟩)
     ·skip
      refine awp_seq (awp_reg ?_)
      refine ro rfl (ok_cmp rfl rfl rfl rfl rfl rfl ?_)
      refine ro rfl (ok_assign rfl rfl rfl rfl ?_)
      refine rn ?_
      refine wp_ifD rfl (fun c7 => ?_) (fun c7 => ?_)
      ·replace h2 := if_t c7 h2
       refine awp_skip ?_
       (repeat (first | refine uw ?_ | refine uo rfl ?_))
       have e2 := oi h2
       subst e2
       exact ghost_le (le_mk ⟨er rfl, er rfl, er rfl, er rfl, trivial⟩ ⟨⟨_, rfl, ⟨sr, sr, sr, sr, sr, sr, sr, sr, sr, sr, sr, trivial⟩⟩, ⟨_, rfl, ⟨sr, trivial⟩⟩, trivial⟩)
      ·replace h2 := if_f c7 h2
       refine awp_reg ?_
       refine ro rfl (ok_cmp rfl rfl rfl rfl rfl rfl ?_)
       refine ro rfl (ok_assign rfl rfl rfl rfl ?_)
       refine rn ?_
       (repeat (first | refine uw ?_ | refine uo rfl ?_))
       have e2 := oi h2
       subst e2
       exact ghost_le (le_mk ⟨er rfl, er rfl, er rfl, er rfl, trivial⟩ ⟨⟨_, rfl, ⟨sr, sr, sr, sr, sr, sr, sr, sr, sr, sr, sr, trivial⟩⟩, ⟨_, rfl, ⟨sr, trivial⟩⟩, trivial⟩)
   ·skip
    refine awp_seq (awp_reg ?_)
    refine ro rfl (ok_cmp rfl rfl rfl rfl rfl rfl ?_)
    refine ro rfl (ok_assign rfl rfl rfl rfl ?_)
    refine rn ?_
    refine wp_ifD rfl (fun c1 => ?_) (fun c1 => ?_)
    ·replace h2 := if_t c1 h2
     refine awp_skip ?_
     (repeat (first | refine uw ?_ | refine uo rfl ?_))
     have e2 := oi h2
     subst e2
     exact ghost_le (le_mk ⟨er rfl, er rfl, er rfl, er rfl, er rfl, trivial⟩ ⟨⟨_, rfl, ⟨sr, sr, sr, sr, sr, sr, sr, sr, sr, sr, sr, trivial⟩⟩, ⟨_, rfl, ⟨sr, trivial⟩⟩, trivial⟩)
    ·replace h2 := if_f c1 h2
     refine awp_seq (awp_reg ?_)
     refine ro rfl (ok_cmp rfl rfl rfl rfl rfl rfl ?_)
     refine ro rfl (ok_assign rfl rfl rfl rfl ?_)
     refine rn ?_
     refine wp_ifD rfl (fun c2 => ?_) (fun c2 => ?_)
     ·replace h2 := if_t c2 h2
      refine awp_skip ?_
      (repeat (first | refine uw ?_ | refine uo rfl ?_))
      have e2 := oi h2
      subst e2
      exact ghost_le (le_mk ⟨er rfl, er rfl, er rfl, er rfl, er rfl, trivial⟩ ⟨⟨_, rfl, ⟨sr, sr, sr, sr, sr, sr, sr, sr, sr, sr, sr, trivial⟩⟩, ⟨_, rfl, ⟨sr, trivial⟩⟩, trivial⟩)
     ·replace h2 := if_f c2 h2
      refine awp_reg ?_
      refine ro rfl (ok_cmp rfl rfl rfl rfl rfl rfl ?_)
      refine ro rfl (ok_assign rfl rfl rfl rfl ?_)
      refine rn ?_
      (repeat (first | refine uw ?_ | refine uo rfl ?_))
      have e2 := oi h2
      subst e2
      exact ghost_le (le_mk ⟨er rfl, er rfl, er rfl, er rfl, er rfl, trivial⟩ ⟨⟨_, rfl, ⟨sr, sr, sr, sr, sr, sr, sr, sr, sr, sr, sr, trivial⟩⟩, ⟨_, rfl, ⟨sr, trivial⟩⟩, trivial⟩)
 ·skip
  intro f_0 e_1 bound_2 r h0
  rw [reference_finder_chain] at h0
  refine obodyG good [800000] [1000000] Try.func52 rfl rfl rfl rfl rfl fun w0 F => ?_
  refine awp_seq (awp_reg ?_)
  refine ro rfl (ok_box rfl rfl rfl rfl rfl ?_)
  refine rn ?_
  refine awp_seq (awp_reg ?_)
  refine ro rfl (ok_loadPA rfl rfl rfl rfl rfl rfl rfl rfl rfl ?_)
  obtain ⟨r1, e2, h0⟩ := bd_cut h0
  refine ro rfl (ok_callP (reference_chain_ok _ e_1 _ e2) rfl rfl rfl rfl ⟨sr, trivial⟩ Try.call31 rfl ?_)
  refine ro rfl (ok_move rfl rfl rfl rfl ?_)
  refine ro rfl (ok_extract rfl rfl rfl rfl rfl ?_)
  refine ro rfl (ok_extract rfl rfl rfl rfl rfl ?_)
  refine ro rfl (ok_alloc rfl rfl rfl rfl rfl ?_)
  refine ro rfl (ok_store rfl rfl rfl rfl rfl rfl rfl rfl (Nat.le_of_ble_eq_true rfl) ?_)
  refine ro rfl (ok_assign rfl rfl rfl rfl ?_)
  refine rn ?_
  refine awp_seq ?_
  obtain ⟨o45, h1, h0⟩ := bd_cut h0
  refine awp_joinN ⟨[(0, .ptr 1000000 0), (2, .p (eL eS bound_2)), (7, .p (eL eTExpr r1.2))], [(1000000, [.vec 900000 4 (o45.map eTRef)])]⟩ ?_ ?_
  ·intro s' hle
   (repeat (first | refine uw ?_ | refine uo rfl ?_))
   refine awp_ghost hle ?_
   refine awp_seq (awp_reg ?_)
   refine ro rfl (ok_move rfl rfl rfl rfl ?_)
   refine ro rfl (op_lenL (f := eTExpr) (l := r1.2) rfl rfl rfl rfl rfl rfl rfl ?_)
   refine ro rfl (ok_move rfl rfl rfl rfl ?_)
   refine rn ?_
   refine awp_block ?_
   obtain ⟨o47, h1, h0⟩ := bd_cut h0
   refine awp_joinE 0 ⟨[], [(1000000, [.vec 900000 4 (o47.map eTRef)])]⟩ ?_ ?_
   ·intro s' hle
    (repeat (first | refine uw ?_ | refine uo rfl ?_))
    (repeat (first | refine uw ?_ | refine uo rfl ?_))
    have e0 := oi h0
    subst e0
    exact endg_mk (ghost_trans hle (ghost_trans (ghost_ren 900000 800000 rfl rfl rfl rfl rfl) (ghost_refl _))) rfl rfl rfl rfl (sr) ⟨⟨_, rfl, ⟨sr, trivial⟩⟩, trivial⟩
   ·skip
    refine awp_loopG (fun q49 => ⟨[(0, .ptr 1000000 0), (2, .p (eL eS bound_2)), (38, .p (eL eTExpr r1.2)), (39, .p (eI (r1.2.length : Int))), (40, .p (eI q49.1))], [(1000000, [.vec 900000 4 (q49.2.map eTRef)])]⟩) (fun m (q49 : Int × (List TRef)) => reference_finder_chain_l1 (reference_finder_expr n) bound_2 r1 m q49.1 q49.2) (fun _ => rfl) (0, o45) h1 (ghost_le (le_mk ⟨er rfl, er rfl, er rfl, er rfl, er rfl, trivial⟩ ⟨⟨_, rfl, ⟨sr, trivial⟩⟩, trivial⟩)) ?_
    rintro m ⟨t26, f27⟩ h1
    replace h1 : reference_finder_chain_l1 (reference_finder_expr n) bound_2 r1 (m + 1) t26 f27 = some o47 := h1
    rw [reference_finder_chain_l1] at h1
    refine awp_seq (awp_reg ?_)
    refine ro rfl (ok_cmp rfl rfl rfl rfl rfl rfl ?_)
    refine rn ?_
    refine awp_seq ?_
    refine wp_ifD rfl (fun c28 => ?_) (fun c28 => ?_)
    ·replace h1 := if_t c28 h1
     refine awp_skip (awp_seq ?_)
     obtain ⟨o50, h2, h1⟩ := bd_cut h1
     refine awp_joinN ⟨[(0, .ptr 1000000 0), (2, .p (eL eS bound_2)), (38, .p (eL eTExpr r1.2)), (39, .p (eI (r1.2.length : Int))), (40, .p (eI t26))], [(1000000, [.vec 900000 4 (o50.map eTRef)])]⟩ ?_ ?_
     ·intro s' hle
      (repeat (first | refine uw ?_ | refine uo rfl ?_))
      refine awp_ghost hle ?_
      refine awp_reg ?_
      obtain ⟨h37, h1⟩ := ck_cut h1
      refine ro rfl (ok_ar rfl rfl rfl rfl rfl rfl h37 ?_)
      refine ro rfl (ok_move rfl rfl rfl rfl ?_)
      refine rn ?_
      (repeat (first | refine uw ?_ | refine uo rfl ?_))
      exact ⟨(t26 + 1, o50), h1, ghost_le (le_mk ⟨er rfl, er rfl, er rfl, er rfl, er rfl, trivial⟩ ⟨⟨_, rfl, ⟨sr, trivial⟩⟩, trivial⟩)⟩
     ·refine awp_block ?_
      refine awp_seq (awp_reg ?_)
      obtain ⟨h29, h2⟩ := ck_cut h2
      refine ro rfl (op_at (f := eTExpr) (l := r1.2) TExpr.cs rfl rfl rfl rfl rfl rfl rfl rfl rfl h29 TExpr.cells_eq (fun _ => rfl) ?_)
      refine ro rfl (ok_loadRA rfl rfl rfl rfl rfl rfl rfl ?_)
      refine ro rfl (ok_alloc rfl rfl rfl rfl rfl ?_)
      refine ro rfl (ok_store rfl rfl rfl rfl rfl rfl rfl rfl (Nat.le_of_ble_eq_true rfl) ?_)
      refine rn ?_
      refine awp_seq ?_
      obtain ⟨o52, h3, h2⟩ := bd_cut h2
      refine awp_joinN ⟨[(0, .ptr 1000000 0), (2, .p (eL eS bound_2)), (11, .ptr 11 0), (38, .p (eL eTExpr r1.2)), (39, .p (eI (r1.2.length : Int))), (40, .p (eI t26)), (52, .p (eB o52))], [(11, [.p (eI ((lat r1.2 t26).fKind)), .p (eI ((lat r1.2 t26).fOp)), .p (eS ((lat r1.2 t26).fName)), .p (eS ((lat r1.2 t26).fKey)), .p (eI (((lat r1.2 t26).fValue).fKind)), .p (eI (((lat r1.2 t26).fValue).fNum)), .p (eS (((lat r1.2 t26).fValue).fStr)), .p (eL eTValue (((lat r1.2 t26).fValue).fItems)), .p (eL eS (((lat r1.2 t26).fValue).fKeys)), .p (eL eTExpr ((lat r1.2 t26).fKids)), .p (eI ((lat r1.2 t26).fAt))]), (1000000, [.vec 900000 4 (f27.map eTRef)])]⟩ ?_ ?_
      ·intro s' hle
       (repeat (first | refine uw ?_ | refine uo rfl ?_))
       refine awp_ghost hle ?_
       refine wp_if rfl (fun c32 => ?_) (fun c32 => ?_)
       ·replace h2 := if_t c32 h2
        refine awp_reg ?_
        refine ro rfl (ok_move rfl rfl rfl rfl ?_)
        refine ro rfl (ok_fieldAddrP rfl rfl rfl rfl rfl rfl rfl rfl rfl ?_)
        refine ro rfl (ok_loadP1 rfl rfl rfl rfl rfl rfl rfl rfl ?_)
        obtain ⟨h33, h2⟩ := ck_cut h2
        refine ro rfl (op_at (f := eTExpr) (l := (lat r1.2 t26).fKids) TExpr.cs rfl rfl rfl rfl rfl rfl rfl rfl rfl h33 TExpr.cells_eq (fun _ => rfl) ?_)
        refine ro rfl (ok_loadRA rfl rfl rfl rfl rfl rfl rfl ?_)
        refine ro rfl (ok_move rfl rfl rfl rfl ?_)
        obtain ⟨r34, e35, h2⟩ := bd_cut h2
        refine ro rfl (op_callV [1000000] [900000] 104000 104001 (ih_reference_finder_expr_ok (Tfinder.mk f27) (lat ((lat r1.2 t26).fKids) 1) bound_2 _ e35) rfl rfl rfl rfl rfl ⟨sr, sr, sr, trivial⟩ rfl rfl ⟨⟨_, rfl, ⟨sr, trivial⟩⟩, trivial⟩ rfl rfl rfl rfl rfl rfl rfl rfl Try.call37 rfl rfl ?_)
        refine rn ?_
        (repeat (first | refine uw ?_ | refine uo rfl ?_))
        have e2 := oi h2
        subst e2
        exact ghost_trans (ghost_ren 104000 900000 rfl rfl rfl rfl rfl) (ghost_le (le_mk ⟨er rfl, er rfl, er rfl, er rfl, er rfl, trivial⟩ ⟨⟨_, rfl, ⟨sr, trivial⟩⟩, trivial⟩))
       ·replace h2 := if_bf c32 h2
        refine awp_skip ?_
        (repeat (first | refine uw ?_ | refine uo rfl ?_))
        have e2 := oi h2
        subst e2
        exact ghost_le (le_mk ⟨er rfl, er rfl, er rfl, er rfl, er rfl, trivial⟩ ⟨⟨_, rfl, ⟨sr, trivial⟩⟩, trivial⟩)
      ·skip
       refine awp_reg ?_
       refine ro rfl (ok_fieldAddrP rfl rfl rfl rfl rfl rfl rfl rfl rfl ?_)
       refine ro rfl (ok_loadP1 rfl rfl rfl rfl rfl rfl rfl rfl ?_)
       refine ro rfl (ok_cmp rfl rfl rfl rfl rfl rfl ?_)
       refine ro rfl (ok_move rfl rfl rfl rfl ?_)
       refine gd_D rfl rfl rfl (fun c30 => ?_) (fun c30 => ?_)
       ·replace h3 := if_t c30 h3
        refine gd_tt rfl rfl rfl (dt c30) (ok_fieldAddrP rfl rfl rfl rfl rfl rfl rfl rfl rfl ?_)
        refine gd_tt rfl rfl rfl (dt c30) (ok_loadP1 rfl rfl rfl rfl rfl rfl rfl rfl ?_)
        refine gd_tt rfl rfl rfl (dt c30) (op_lenL (f := eTExpr) (l := (lat r1.2 t26).fKids) rfl rfl rfl rfl rfl rfl rfl ?_)
        refine gd_tt rfl rfl rfl (dt c30) (ok_cmp rfl rfl rfl rfl rfl rfl ?_)
        refine ro rfl (ok_pick_true rfl rfl rfl rfl (dt c30) rfl ?_)
        refine rn ?_
        (repeat (first | refine uw ?_ | refine uo rfl ?_))
        have e3 := oi h3
        subst e3
        exact ghost_le (le_mk ⟨er rfl, er rfl, er rfl, er rfl, er rfl, er rfl, er rfl, trivial⟩ ⟨⟨_, rfl, ⟨sr, sr, sr, sr, sr, sr, sr, sr, sr, sr, sr, trivial⟩⟩, ⟨_, rfl, ⟨sr, trivial⟩⟩, trivial⟩)
       ·replace h3 := if_f c30 h3
        refine gd_tf rfl rfl rfl (df c30) rfl rfl ?_
        refine gd_tf rfl rfl rfl (df c30) rfl rfl ?_
        refine gd_tf rfl rfl rfl (df c30) rfl rfl ?_
        refine gd_tf rfl rfl rfl (df c30) rfl rfl ?_
        refine ro rfl (ok_pick_false rfl rfl rfl rfl (df c30) rfl ?_)
        refine rn ?_
        (repeat (first | refine uw ?_ | refine uo rfl ?_))
        have e3 := oi h3
        subst e3
        exact ghost_le (le_mk ⟨er rfl, er rfl, er rfl, er rfl, er rfl, er rfl, er rfl, trivial⟩ ⟨⟨_, rfl, ⟨sr, sr, sr, sr, sr, sr, sr, sr, sr, sr, sr, trivial⟩⟩, ⟨_, rfl, ⟨sr, trivial⟩⟩, trivial⟩)
    ·replace h1 := if_f c28 h1
     refine awp_exit ?_
     (repeat (first | refine uw ?_ | refine uo rfl ?_))
     have e1 := oi h1
     subst e1
     exact ghost_le (le_mk trivial ⟨⟨_, rfl, ⟨sr, trivial⟩⟩, trivial⟩)
  ·skip
   refine awp_seq (awp_reg ?_)
   refine ro rfl (ok_fieldAddrP rfl rfl rfl rfl rfl rfl rfl rfl rfl ?_)
   refine ro rfl (ok_loadP1 rfl rfl rfl rfl rfl rfl rfl rfl ?_)
   refine ro rfl (ok_cmp rfl rfl rfl rfl rfl rfl ?_)
   refine rn ?_
   refine wp_ifN rfl (fun c3 => ?_) (fun c3 => ?_)
   ·replace h1 := if_f c3 h1
    refine awp_reg ?_
    refine ro rfl (ok_move rfl rfl rfl rfl ?_)
    refine ro rfl (ok_loadPA rfl rfl rfl rfl rfl rfl rfl rfl rfl ?_)
    refine ro rfl (ok_move rfl rfl rfl rfl ?_)
    obtain ⟨r11, e12, h1⟩ := bd_cut h1
    refine ro rfl (op_callV [1000000] [900000] 102000 102001 (ih_reference_finder_expr_ok (Tfinder.mk f_0.fout) r1.1 bound_2 _ e12) rfl rfl rfl rfl rfl ⟨sr, sr, sr, trivial⟩ rfl rfl ⟨⟨_, rfl, ⟨sr, trivial⟩⟩, trivial⟩ rfl rfl rfl rfl rfl rfl rfl rfl Try.call37 rfl rfl ?_)
    refine rn ?_
    (repeat (first | refine uw ?_ | refine uo rfl ?_))
    have e1 := oi h1
    subst e1
    exact ghost_trans (ghost_ren 102000 900000 rfl rfl rfl rfl rfl) (ghost_le (le_mk ⟨er rfl, er rfl, er rfl, trivial⟩ ⟨⟨_, rfl, ⟨sr, trivial⟩⟩, trivial⟩))
   ·replace h1 := if_t c3 h1
    refine awp_seq (awp_reg ?_)
    refine ro rfl (ok_move rfl rfl rfl rfl ?_)
    refine ro rfl (ok_fieldAddrP rfl rfl rfl rfl rfl rfl rfl rfl rfl ?_)
    refine ro rfl (ok_loadP1 rfl rfl rfl rfl rfl rfl rfl rfl ?_)
    obtain ⟨r4, e5, h1⟩ := bd_cut h1
    refine ro rfl (ok_callP (slices_Contains_string_string_ok _ bound_2 r1.1.fName _ e5) rfl rfl rfl rfl ⟨sr, sr, trivial⟩ Try.call64 rfl ?_)
    refine ro rfl (ok_not rfl rfl rfl rfl ?_)
    refine rn ?_
    refine wp_if rfl (fun c6 => ?_) (fun c6 => ?_)
    ·replace h1 := if_t c6 h1
     refine awp_seq (awp_reg ?_)
     refine ro rfl (ok_loadPA rfl rfl rfl rfl rfl rfl rfl rfl rfl ?_)
     refine ro rfl (ok_move rfl rfl rfl rfl ?_)
     obtain ⟨r7, e8, h1⟩ := bd_cut h1
     refine ro rfl (ok_callP (reference_begin_ok r1.1 r1.2 _ e8) rfl rfl rfl rfl ⟨sr, sr, trivial⟩ Try.call34 rfl ?_)
     refine ro rfl (ok_move rfl rfl rfl rfl ?_)
     refine ro rfl (ok_extract rfl rfl rfl rfl rfl ?_)
     refine ro rfl (ok_extract rfl rfl rfl rfl rfl ?_)
     refine ro rfl (ok_alloc rfl rfl rfl rfl rfl ?_)
     refine ro rfl (ok_store rfl rfl rfl rfl rfl rfl rfl rfl (Nat.le_of_ble_eq_true rfl) ?_)
     refine ro rfl (ok_assign rfl rfl rfl rfl ?_)
     refine rn ?_
     refine awp_reg ?_
     refine ro rfl (ok_move rfl rfl rfl rfl ?_)
     refine ro rfl (ok_loadPA rfl rfl rfl rfl rfl rfl rfl rfl rfl ?_)
     obtain ⟨r9, e10, h1⟩ := bd_cut h1
     refine ro rfl (op_callV [1000000] [900000] 101000 101001 (reference_finder_add_ok _ (Tfinder.mk f_0.fout) r7.1 _ e10) rfl rfl rfl rfl rfl ⟨sr, sr, trivial⟩ rfl rfl ⟨⟨_, rfl, ⟨sr, trivial⟩⟩, trivial⟩ rfl rfl rfl rfl rfl rfl rfl rfl Try.call65 rfl rfl ?_)
     refine rn ?_
     (repeat (first | refine uw ?_ | refine uo rfl ?_))
     have e1 := oi h1
     subst e1
     exact ghost_trans (ghost_ren 101000 900000 rfl rfl rfl rfl rfl) (ghost_le (le_mk ⟨er rfl, er rfl, er rfl, trivial⟩ ⟨⟨_, rfl, ⟨sr, trivial⟩⟩, trivial⟩))
    ·replace h1 := if_bf c6 h1
     refine awp_skip ?_
     (repeat (first | refine uw ?_ | refine uo rfl ?_))
     have e1 := oi h1
     subst e1
     exact ghost_le (le_mk ⟨er rfl, er rfl, er rfl, trivial⟩ ⟨⟨_, rfl, ⟨sr, trivial⟩⟩, trivial⟩)

theorem reference_finder_expr_ok (n : Nat) : ∀ (f_0 : Tfinder) (e_1 : TExpr) (bound_2 : List Bytes) (r : Tfinder), reference_finder_expr n f_0 e_1 bound_2 = some r → OCalls Try.prog 37 [.ptr 1000000 0, .p (.agg (TExpr.cs e_1)), .p (eL eS bound_2)] [(1000000, [.vec 900000 4 (f_0.fout.map eTRef)])] (fun x y => x = .tuple [] ∧ y = [(1000000, [.vec 2000000 4 (r.fout.map eTRef)])]) := (reference_finder_expr_all n).1

theorem reference_finder_chain_ok (n : Nat) : ∀ (f_0 : Tfinder) (e_1 : TExpr) (bound_2 : List Bytes) (r : Tfinder), reference_finder_chain n f_0 e_1 bound_2 = some r → OCalls Try.prog 52 [.ptr 1000000 0, .p (.agg (TExpr.cs e_1)), .p (eL eS bound_2)] [(1000000, [.vec 900000 4 (f_0.fout.map eTRef)])] (fun x y => x = .tuple [] ∧ y = [(1000000, [.vec 2000000 4 (r.fout.map eTRef)])]) := (reference_finder_expr_all n).2

def reference_Of (n : Nat) (e_0 : TExpr) : Option (List TRef) :=
 (reference_finder_expr n (Tfinder.mk []) e_0 []).bind fun r1 =>
 some r1.fout

set_option maxHeartbeats 4000000 in
theorem reference_Of_ok (n : Nat) (e_0 : TExpr) (r : (List TRef)) (h0 : reference_Of n e_0 = some r) : PCalls Try.prog 13 [.agg (TExpr.cs e_0)] (· = .p (eL eTRef r)) := by
 unfold reference_Of at h0
 refine pbodyA good Try.func13 rfl rfl rfl fun w0 => ?_
 refine awp_seq (awp_reg ?_)
 refine ro rfl (ok_box rfl rfl rfl rfl rfl ?_)
 refine ro rfl (ok_assign rfl rfl rfl rfl ?_)
 refine rn ?_
 refine awp_seq (awp_reg ?_)
 refine ro rfl (ok_build rfl rfl rfl rfl rfl rfl rfl rfl rfl ?_)
 refine ro rfl (ok_box rfl rfl rfl rfl rfl ?_)
 refine ro rfl (ok_assign rfl rfl rfl rfl ?_)
 refine rn ?_
 refine awp_seq (awp_reg ?_)
 refine ro rfl (ok_move rfl rfl rfl rfl ?_)
 refine ro rfl (ok_loadPA rfl rfl rfl rfl rfl rfl rfl rfl rfl ?_)
 obtain ⟨r1, e2, h0⟩ := bd_cut h0
 refine ro rfl (op_callV [5] [890000] 101000 101001 (reference_finder_expr_ok _ (Tfinder.mk []) e_0 [] _ e2) rfl rfl rfl rfl rfl ⟨sr, sr, sub_nilL _, trivial⟩ rfl rfl ⟨⟨_, rfl, ⟨AV.sub_nilvec _ _, trivial⟩⟩, trivial⟩ rfl rfl rfl rfl rfl rfl rfl rfl Try.call37 rfl rfl ?_)
 refine rn ?_
 refine awp_seq (awp_reg ?_)
 refine ro rfl (ok_move rfl rfl rfl rfl ?_)
 refine ro rfl (ok_nilCheckP rfl rfl rfl rfl ?_)
 refine ro rfl (ok_fieldAddrP rfl rfl rfl rfl rfl rfl rfl rfl rfl ?_)
 refine ro rfl (ok_loadP1 rfl rfl rfl rfl rfl rfl rfl rfl ?_)
 refine ro rfl (ok_assign rfl rfl rfl rfl ?_)
 refine rn ?_
 refine awp_ret ?_
 (repeat (first | refine uw ?_ | refine uo rfl ?_))
 have e0 := oi h0
 subst e0
 refine reta_mk rfl ?_
 exact AV.sub_vec _ _ _

def reference_Text (r_0 : TRef) : Option Bytes :=
 if r_0.fKind = 1 then
  ck (([118, 97, 114, 46] : Bytes).length + r_0.fName.length ≤ 9223372036854775807) <|
  some (([118, 97, 114, 46] : Bytes) ++ r_0.fName)
 else
  if r_0.fKind = 2 then
   ck (([108, 111, 99, 97, 108, 46] : Bytes).length + r_0.fName.length ≤ 9223372036854775807) <|
   some (([108, 111, 99, 97, 108, 46] : Bytes) ++ r_0.fName)
  else
   if r_0.fKind = 6 then
    ck (([101, 97, 99, 104, 46] : Bytes).length + r_0.fName.length ≤ 9223372036854775807) <|
    some (([101, 97, 99, 104, 46] : Bytes) ++ r_0.fName)
   else
    if r_0.fKind = 7 then
     ck (([99, 111, 117, 110, 116, 46] : Bytes).length + r_0.fName.length ≤ 9223372036854775807) <|
     some (([99, 111, 117, 110, 116, 46] : Bytes) ++ r_0.fName)
    else
     if r_0.fKind = 8 then
      ck (([114, 101, 109, 111, 116, 101, 46] : Bytes).length + r_0.fName.length ≤ 9223372036854775807) <|
      some (([114, 101, 109, 111, 116, 101, 46] : Bytes) ++ r_0.fName)
     else
      if r_0.fKind = 3 then
       ck (r_0.fType.length + ([46] : Bytes).length ≤ 9223372036854775807) <|
       ck ((r_0.fType ++ ([46] : Bytes)).length + r_0.fName.length ≤ 9223372036854775807) <|
       some ((r_0.fType ++ ([46] : Bytes)) ++ r_0.fName)
      else
       if r_0.fKind = 4 then
        ck (([100, 97, 116, 97, 46] : Bytes).length + r_0.fType.length ≤ 9223372036854775807) <|
        ck ((([100, 97, 116, 97, 46] : Bytes) ++ r_0.fType).length + ([46] : Bytes).length ≤ 9223372036854775807) <|
        ck (((([100, 97, 116, 97, 46] : Bytes) ++ r_0.fType) ++ ([46] : Bytes)).length + r_0.fName.length ≤ 9223372036854775807) <|
        some (((([100, 97, 116, 97, 46] : Bytes) ++ r_0.fType) ++ ([46] : Bytes)) ++ r_0.fName)
       else
        if r_0.fKind = 5 then
         if r_0.fType = ([] : Bytes) then
          ck (([109, 111, 100, 117, 108, 101, 46] : Bytes).length + r_0.fName.length ≤ 9223372036854775807) <|
          some (([109, 111, 100, 117, 108, 101, 46] : Bytes) ++ r_0.fName)
         else
          ck (([109, 111, 100, 117, 108, 101, 46] : Bytes).length + r_0.fName.length ≤ 9223372036854775807) <|
          ck ((([109, 111, 100, 117, 108, 101, 46] : Bytes) ++ r_0.fName).length + ([46] : Bytes).length ≤ 9223372036854775807) <|
          ck (((([109, 111, 100, 117, 108, 101, 46] : Bytes) ++ r_0.fName) ++ ([46] : Bytes)).length + r_0.fType.length ≤ 9223372036854775807) <|
          some (((([109, 111, 100, 117, 108, 101, 46] : Bytes) ++ r_0.fName) ++ ([46] : Bytes)) ++ r_0.fType)
        else
         if r_0.fKind = 9 then
          some r_0.fName
         else
          some ([] : Bytes)

set_option maxHeartbeats 4000000 in
theorem reference_Text_ok (r_0 : TRef) (r : Bytes) (h0 : reference_Text r_0 = some r) : PCalls Try.prog 15 [.agg (TRef.cs r_0)] (· = .p (eS r)) := by
 unfold reference_Text at h0
 refine pbodyA good Try.func15 rfl rfl rfl fun w0 => ?_
 refine awp_seq (awp_reg ?_)
 refine ro rfl (ok_box rfl rfl rfl rfl rfl ?_)
 refine ro rfl (ok_assign rfl rfl rfl rfl ?_)
 refine rn ?_
 refine awp_seq (awp_seq (awp_reg ?_))
 refine ro rfl (ok_fieldAddrP rfl rfl rfl rfl rfl rfl rfl rfl rfl ?_)
 refine ro rfl (ok_loadP1 rfl rfl rfl rfl rfl rfl rfl rfl ?_)
 refine rn ?_
 refine awp_block (awp_seq (awp_reg ?_))
 refine ro rfl (ok_cmp rfl rfl rfl rfl rfl rfl ?_)
 refine ro rfl (ok_assign rfl rfl rfl rfl ?_)
 refine rn ?_
 refine wp_ifD rfl (fun c1 => ?_) (fun c1 => ?_)
 ·replace h0 := if_t c1 h0
  refine awp_seq (awp_reg ?_)
  refine ro rfl (ok_fieldAddrP rfl rfl rfl rfl rfl rfl rfl rfl rfl ?_)
  refine ro rfl (ok_loadP1 rfl rfl rfl rfl rfl rfl rfl rfl ?_)
  obtain ⟨h2, h0⟩ := ck_cut h0
  refine ro rfl (ok_concat rfl rfl rfl rfl rfl h2 ?_)
  refine ro rfl (ok_assign rfl rfl rfl rfl ?_)
  refine rn ?_
  refine awp_ret ?_
  (repeat (first | refine uw ?_ | refine uo rfl ?_))
  have e0 := oi h0
  subst e0
  refine reta_mk rfl ?_
  exact sr
 ·replace h0 := if_f c1 h0
  refine awp_seq (awp_reg ?_)
  refine ro rfl (ok_cmp rfl rfl rfl rfl rfl rfl ?_)
  refine ro rfl (ok_assign rfl rfl rfl rfl ?_)
  refine rn ?_
  refine wp_ifD rfl (fun c3 => ?_) (fun c3 => ?_)
  ·replace h0 := if_t c3 h0
   refine awp_seq (awp_reg ?_)
   refine ro rfl (ok_fieldAddrP rfl rfl rfl rfl rfl rfl rfl rfl rfl ?_)
   refine ro rfl (ok_loadP1 rfl rfl rfl rfl rfl rfl rfl rfl ?_)
   obtain ⟨h4, h0⟩ := ck_cut h0
   refine ro rfl (ok_concat rfl rfl rfl rfl rfl h4 ?_)
   refine ro rfl (ok_assign rfl rfl rfl rfl ?_)
   refine rn ?_
   refine awp_ret ?_
   (repeat (first | refine uw ?_ | refine uo rfl ?_))
   have e0 := oi h0
   subst e0
   refine reta_mk rfl ?_
   exact sr
  ·replace h0 := if_f c3 h0
   refine awp_seq (awp_reg ?_)
   refine ro rfl (ok_cmp rfl rfl rfl rfl rfl rfl ?_)
   refine ro rfl (ok_assign rfl rfl rfl rfl ?_)
   refine rn ?_
   refine wp_ifD rfl (fun c5 => ?_) (fun c5 => ?_)
   ·replace h0 := if_t c5 h0
    refine awp_seq (awp_reg ?_)
    refine ro rfl (ok_fieldAddrP rfl rfl rfl rfl rfl rfl rfl rfl rfl ?_)
    refine ro rfl (ok_loadP1 rfl rfl rfl rfl rfl rfl rfl rfl ?_)
    obtain ⟨h6, h0⟩ := ck_cut h0
    refine ro rfl (ok_concat rfl rfl rfl rfl rfl h6 ?_)
    refine ro rfl (ok_assign rfl rfl rfl rfl ?_)
    refine rn ?_
    refine awp_ret ?_
    (repeat (first | refine uw ?_ | refine uo rfl ?_))
    have e0 := oi h0
    subst e0
    refine reta_mk rfl ?_
    exact sr
   ·replace h0 := if_f c5 h0
    refine awp_seq (awp_reg ?_)
    refine ro rfl (ok_cmp rfl rfl rfl rfl rfl rfl ?_)
    refine ro rfl (ok_assign rfl rfl rfl rfl ?_)
    refine rn ?_
    refine wp_ifD rfl (fun c7 => ?_) (fun c7 => ?_)
    ·replace h0 := if_t c7 h0
     refine awp_seq (awp_reg ?_)
     refine ro rfl (ok_fieldAddrP rfl rfl rfl rfl rfl rfl rfl rfl rfl ?_)
     refine ro rfl (ok_loadP1 rfl rfl rfl rfl rfl rfl rfl rfl ?_)
     obtain ⟨h8, h0⟩ := ck_cut h0
     refine ro rfl (ok_concat rfl rfl rfl rfl rfl h8 ?_)
     refine ro rfl (ok_assign rfl rfl rfl rfl ?_)
     refine rn ?_
     refine awp_ret ?_
     (repeat (first | refine uw ?_ | refine uo rfl ?_))
     have e0 := oi h0
     subst e0
     refine reta_mk rfl ?_
     exact sr
    ·replace h0 := if_f c7 h0
     refine awp_seq (awp_reg ?_)
     refine ro rfl (ok_cmp rfl rfl rfl rfl rfl rfl ?_)
     refine ro rfl (ok_assign rfl rfl rfl rfl ?_)
     refine rn ?_
     refine wp_ifD rfl (fun c9 => ?_) (fun c9 => ?_)
     ·replace h0 := if_t c9 h0
      refine awp_seq (awp_reg ?_)
      refine ro rfl (ok_fieldAddrP rfl rfl rfl rfl rfl rfl rfl rfl rfl ?_)
      refine ro rfl (ok_loadP1 rfl rfl rfl rfl rfl rfl rfl rfl ?_)
      obtain ⟨h10, h0⟩ := ck_cut h0
      refine ro rfl (ok_concat rfl rfl rfl rfl rfl h10 ?_)
      refine ro rfl (ok_assign rfl rfl rfl rfl ?_)
      refine rn ?_
      refine awp_ret ?_
      (repeat (first | refine uw ?_ | refine uo rfl ?_))
      have e0 := oi h0
      subst e0
      refine reta_mk rfl ?_
      exact sr
     ·replace h0 := if_f c9 h0
      refine awp_seq (awp_reg ?_)
      refine ro rfl (ok_cmp rfl rfl rfl rfl rfl rfl ?_)
      refine ro rfl (ok_assign rfl rfl rfl rfl ?_)
      refine rn ?_
      refine wp_ifD rfl (fun c11 => ?_) (fun c11 => ?_)
      ·replace h0 := if_t c11 h0
       refine awp_seq (awp_reg ?_)
       refine ro rfl (ok_fieldAddrP rfl rfl rfl rfl rfl rfl rfl rfl rfl ?_)
       refine ro rfl (ok_loadP1 rfl rfl rfl rfl rfl rfl rfl rfl ?_)
       obtain ⟨h12, h0⟩ := ck_cut h0
       refine ro rfl (ok_concat rfl rfl rfl rfl rfl h12 ?_)
       refine ro rfl (ok_fieldAddrP rfl rfl rfl rfl rfl rfl rfl rfl rfl ?_)
       refine ro rfl (ok_loadP1 rfl rfl rfl rfl rfl rfl rfl rfl ?_)
       obtain ⟨h13, h0⟩ := ck_cut h0
       refine ro rfl (ok_concat rfl rfl rfl rfl rfl h13 ?_)
       refine ro rfl (ok_assign rfl rfl rfl rfl ?_)
       refine rn ?_
       refine awp_ret ?_
       (repeat (first | refine uw ?_ | refine uo rfl ?_))
       have e0 := oi h0
       subst e0
       refine reta_mk rfl ?_
       exact sr
      ·replace h0 := if_f c11 h0
       refine awp_seq (awp_reg ?_)
       refine ro rfl (ok_cmp rfl rfl rfl rfl rfl rfl ?_)
       refine ro rfl (ok_assign rfl rfl rfl rfl ?_)
       refine rn ?_
       refine wp_ifD rfl (fun c14 => ?_) (fun c14 => ?_)
       ·replace h0 := if_t c14 h0
        refine awp_seq (awp_reg ?_)
        refine ro rfl (ok_fieldAddrP rfl rfl rfl rfl rfl rfl rfl rfl rfl ?_)
        refine ro rfl (ok_loadP1 rfl rfl rfl rfl rfl rfl rfl rfl ?_)
        obtain ⟨h15, h0⟩ := ck_cut h0
        refine ro rfl (ok_concat rfl rfl rfl rfl rfl h15 ?_)
        obtain ⟨h16, h0⟩ := ck_cut h0
        refine ro rfl (ok_concat rfl rfl rfl rfl rfl h16 ?_)
        refine ro rfl (ok_fieldAddrP rfl rfl rfl rfl rfl rfl rfl rfl rfl ?_)
        refine ro rfl (ok_loadP1 rfl rfl rfl rfl rfl rfl rfl rfl ?_)
        obtain ⟨h17, h0⟩ := ck_cut h0
        refine ro rfl (ok_concat rfl rfl rfl rfl rfl h17 ?_)
        refine ro rfl (ok_assign rfl rfl rfl rfl ?_)
        refine rn ?_
        refine awp_ghost (ghost_le (t := ⟨[(2, .p (eS (((([100, 97, 116, 97, 46] : Bytes) ++ r_0.fType) ++ ([46] : Bytes)) ++ r_0.fName)))], []⟩) (le_mk ⟨er rfl, trivial⟩ trivial)) ?_
        refine awp_ret ?_
        (repeat (first | refine uw ?_ | refine uo rfl ?_))
        have e0 := oi h0
        subst e0
        refine reta_mk rfl ?_
        exact sr
       ·replace h0 := if_f c14 h0
        refine awp_seq (awp_reg ?_)
        refine ro rfl (ok_cmp rfl rfl rfl rfl rfl rfl ?_)
        refine ro rfl (ok_assign rfl rfl rfl rfl ?_)
        refine rn ?_
        refine wp_ifD rfl (fun c18 => ?_) (fun c18 => ?_)
        ·replace h0 := if_t c18 h0
         refine awp_seq (awp_seq (awp_reg ?_))
         refine ro rfl (ok_fieldAddrP rfl rfl rfl rfl rfl rfl rfl rfl rfl ?_)
         refine ro rfl (ok_loadP1 rfl rfl rfl rfl rfl rfl rfl rfl ?_)
         refine ro rfl (ok_cmpS rfl rfl rfl rfl rfl rfl ?_)
         refine rn ?_
         refine wp_ifD rfl (fun c19 => ?_) (fun c19 => ?_)
         ·replace h0 := if_t c19 h0
          refine awp_seq (awp_reg ?_)
          refine ro rfl (ok_fieldAddrP rfl rfl rfl rfl rfl rfl rfl rfl rfl ?_)
          refine ro rfl (ok_loadP1 rfl rfl rfl rfl rfl rfl rfl rfl ?_)
          obtain ⟨h20, h0⟩ := ck_cut h0
          refine ro rfl (ok_concat rfl rfl rfl rfl rfl h20 ?_)
          refine ro rfl (ok_assign rfl rfl rfl rfl ?_)
          refine rn ?_
          refine awp_ghost (ghost_le (t := ⟨[(2, .p (eS (([109, 111, 100, 117, 108, 101, 46] : Bytes) ++ r_0.fName)))], []⟩) (le_mk ⟨er rfl, trivial⟩ trivial)) ?_
          refine awp_ret ?_
          (repeat (first | refine uw ?_ | refine uo rfl ?_))
          have e0 := oi h0
          subst e0
          refine reta_mk rfl ?_
          exact sr
         ·replace h0 := if_f c19 h0
          refine awp_skip (awp_seq (awp_reg ?_))
          refine ro rfl (ok_fieldAddrP rfl rfl rfl rfl rfl rfl rfl rfl rfl ?_)
          refine ro rfl (ok_loadP1 rfl rfl rfl rfl rfl rfl rfl rfl ?_)
          obtain ⟨h21, h0⟩ := ck_cut h0
          refine ro rfl (ok_concat rfl rfl rfl rfl rfl h21 ?_)
          obtain ⟨h22, h0⟩ := ck_cut h0
          refine ro rfl (ok_concat rfl rfl rfl rfl rfl h22 ?_)
          refine ro rfl (ok_fieldAddrP rfl rfl rfl rfl rfl rfl rfl rfl rfl ?_)
          refine ro rfl (ok_loadP1 rfl rfl rfl rfl rfl rfl rfl rfl ?_)
          obtain ⟨h23, h0⟩ := ck_cut h0
          refine ro rfl (ok_concat rfl rfl rfl rfl rfl h23 ?_)
          refine ro rfl (ok_assign rfl rfl rfl rfl ?_)
          refine rn ?_
          refine awp_ghost (ghost_le (t := ⟨[(2, .p (eS (((([109, 111, 100, 117, 108, 101, 46] : Bytes) ++ r_0.fName) ++ ([46] : Bytes)) ++ r_0.fType)))], []⟩) (le_mk ⟨er rfl, trivial⟩ trivial)) ?_
          refine awp_ret ?_
          (repeat (first | refine uw ?_ | refine uo rfl ?_))
          have e0 := oi h0
          subst e0
          refine reta_mk rfl ?_
          exact sr
        ·replace h0 := if_f c18 h0
         refine awp_seq (awp_reg ?_)
         refine ro rfl (ok_cmp rfl rfl rfl rfl rfl rfl ?_)
         refine ro rfl (ok_assign rfl rfl rfl rfl ?_)
         refine rn ?_
         refine wp_ifD rfl (fun c24 => ?_) (fun c24 => ?_)
         ·replace h0 := if_t c24 h0
          refine awp_seq (awp_reg ?_)
          refine ro rfl (ok_fieldAddrP rfl rfl rfl rfl rfl rfl rfl rfl rfl ?_)
          refine ro rfl (ok_loadP1 rfl rfl rfl rfl rfl rfl rfl rfl ?_)
          refine ro rfl (ok_assign rfl rfl rfl rfl ?_)
          refine rn ?_
          refine awp_ret ?_
          (repeat (first | refine uw ?_ | refine uo rfl ?_))
          have e0 := oi h0
          subst e0
          refine reta_mk rfl ?_
          exact sr
         ·replace h0 := if_f c24 h0
          refine awp_skip ?_
          (repeat (first | refine uw ?_ | refine uo rfl ?_))
          refine awp_seq (awp_reg ?_)
          refine ro rfl (ok_assign rfl rfl rfl rfl ?_)
          refine rn ?_
          refine awp_ret ?_
          (repeat (first | refine uw ?_ | refine uo rfl ?_))
          have e0 := oi h0
          subst e0
          refine reta_mk rfl ?_
          exact sr

def law17_attr (e_0 : TExpr) (s_1 : Bytes) : Option TExpr :=
 some (TExpr.mk 4 0 s_1 ([] : Bytes) (TValue.mk 0 0 ([] : Bytes) [] []) [e_0] 0)

set_option maxHeartbeats 4000000 in
theorem law17_attr_ok (e_0 : TExpr) (s_1 : Bytes) (r : TExpr) (h0 : law17_attr e_0 s_1 = some r) : PCalls Try.prog 29 [.agg (TExpr.cs e_0), eS s_1] (· = .p (.agg (TExpr.cs r))) := by
 unfold law17_attr at h0
 refine pbodyA good Try.func29 rfl rfl rfl fun w0 => ?_
 refine awp_seq (awp_reg ?_)
 refine ro rfl (ok_box rfl rfl rfl rfl rfl ?_)
 refine ro rfl (ok_alloc rfl rfl rfl rfl rfl ?_)
 refine rn ?_
 refine awp_seq (awp_reg ?_)
 refine ro rfl (ok_move rfl rfl rfl rfl ?_)
 refine ro rfl (ok_loadPA rfl rfl rfl rfl rfl rfl rfl rfl rfl ?_)
 refine ro rfl (op_bslice eTExpr [e_0] rfl rfl rfl rfl rfl rfl rfl rfl rfl rfl rfl rfl rfl (by first | rfl | (simp only [List.map_cons, List.map_nil, TExpr.agg_eq]; done) | (simp only [List.map_cons, List.map_nil, TExpr.agg_eq]; rfl)) ?_)
 refine ro rfl (ok_build rfl rfl rfl rfl rfl rfl rfl rfl rfl ?_)
 refine ro rfl (ok_store rfl rfl rfl rfl rfl rfl rfl rfl (Nat.le_of_ble_eq_true rfl) ?_)
 refine rn ?_
 refine awp_ret ?_
 (repeat (first | refine uw ?_ | refine uo rfl ?_))
 have e0 := oi h0
 subst e0
 refine reta_mk rfl ?_
 exact sub_cells ⟨.inl rfl, .inl rfl, .inl rfl, .inl rfl, .inl rfl, .inl rfl, .inl rfl, .inr ⟨rfl, rfl⟩, .inr ⟨rfl, rfl⟩, .inl rfl, .inl rfl, trivial⟩

def law17_name (s_0 : Bytes) : Option TExpr :=
 some (TExpr.mk 3 0 s_0 ([] : Bytes) (TValue.mk 0 0 ([] : Bytes) [] []) [] 0)

set_option maxHeartbeats 4000000 in
theorem law17_name_ok (s_0 : Bytes) (r : TExpr) (h0 : law17_name s_0 = some r) : PCalls Try.prog 30 [eS s_0] (· = .p (.agg (TExpr.cs r))) := by
 unfold law17_name at h0
 refine pbodyA good Try.func30 rfl rfl rfl fun w0 => ?_
 refine awp_seq (awp_reg ?_)
 refine ro rfl (ok_alloc rfl rfl rfl rfl rfl ?_)
 refine rn ?_
 refine awp_seq (awp_reg ?_)
 refine ro rfl (ok_move rfl rfl rfl rfl ?_)
 refine ro rfl (ok_build rfl rfl rfl rfl rfl rfl rfl rfl rfl ?_)
 refine ro rfl (ok_store rfl rfl rfl rfl rfl rfl rfl rfl (Nat.le_of_ble_eq_true rfl) ?_)
 refine rn ?_
 refine awp_ret ?_
 (repeat (first | refine uw ?_ | refine uo rfl ?_))
 have e0 := oi h0
 subst e0
 refine reta_mk rfl ?_
 exact sub_cells ⟨.inl rfl, .inl rfl, .inl rfl, .inl rfl, .inl rfl, .inl rfl, .inl rfl, .inr ⟨rfl, rfl⟩, .inr ⟨rfl, rfl⟩, .inr ⟨rfl, rfl⟩, .inl rfl, trivial⟩

def law17_awake (n : Nat) : Option Bool :=
 (law17_name ([118, 97, 114] : Bytes)).bind fun r1 =>
 (law17_attr r1 ([108] : Bytes)).bind fun r3 =>
 (law17_name ([120] : Bytes)).bind fun r5 =>
 (law17_attr r5 ([105, 100] : Bytes)).bind fun r7 =>
 (reference_Of n (TExpr.mk 12 0 ([120] : Bytes) ([] : Bytes) (TValue.mk 0 0 ([] : Bytes) [] []) [r3, r7] 0)).bind fun r9 =>
 (law17_name ([109, 111, 100, 117, 108, 101] : Bytes)).bind fun r11 =>
 (law17_attr r11 ([109] : Bytes)).bind fun r13 =>
 (law17_attr r13 ([111] : Bytes)).bind fun r15 =>
 (reference_Parse n r15).bind fun r17 =>
 (law17_name ([110, 101, 116] : Bytes)).bind fun r19 =>
 (law17_attr r19 ([97] : Bytes)).bind fun r21 =>
 (law17_attr r21 ([105, 100] : Bytes)).bind fun r23 =>
 (reference_Parse n r23).bind fun r25 =>
 (
   if (r9.length : Int) = 1 then
    ck ((0 : Int) ≤ 0 ∧ 0 < (r9.length : Int)) <|
    if (lat r9 0).fKind = 1 then
     ck ((0 : Int) ≤ 0 ∧ 0 < (r9.length : Int)) <|
     if (lat r9 0).fName = ([108] : Bytes) then
      if r17.2 = true then
       if (!r25.2) = true then
        (reference_Text r17.1).bind fun r34 =>
        if r34 = ([109, 111, 100, 117, 108, 101, 46, 109, 46, 111] : Bytes) then
         (reference_Same (TRef.mk 0 ([] : Bytes) ([] : Bytes) 1) (TRef.mk 0 ([] : Bytes) ([] : Bytes) 2)).bind fun r37 =>
         some r37
        else
         some false
       else
        some false
      else
       some false
     else
      some false
    else
     some false
   else
    some false
  : Option Bool).bind fun t39 =>
 some t39

set_option maxHeartbeats 4000000 in
theorem law17_awake_ok (n : Nat) (r : Bool) (h0 : law17_awake n = some r) : PCalls Try.prog 9 [] (· = .p (eB r)) := by
 unfold law17_awake at h0
 refine pbodyA good Try.func9 rfl rfl rfl fun w0 => ?_
 refine awp_seq (awp_reg ?_)
 refine ro rfl (ok_assign rfl rfl rfl rfl ?_)
 refine rn ?_
 refine awp_seq (awp_reg ?_)
 obtain ⟨r1, e2, h0⟩ := bd_cut h0
 refine ro rfl (ok_callP (law17_name_ok ([118, 97, 114] : Bytes) _ e2) rfl rfl rfl rfl ⟨sr, trivial⟩ Try.call30 rfl ?_)
 obtain ⟨r3, e4, h0⟩ := bd_cut h0
 refine ro rfl (ok_callP (law17_attr_ok r1 ([108] : Bytes) _ e4) rfl rfl rfl rfl ⟨sr, sr, trivial⟩ Try.call29 rfl ?_)
 obtain ⟨r5, e6, h0⟩ := bd_cut h0
 refine ro rfl (ok_callP (law17_name_ok ([120] : Bytes) _ e6) rfl rfl rfl rfl ⟨sr, trivial⟩ Try.call30 rfl ?_)
 obtain ⟨r7, e8, h0⟩ := bd_cut h0
 refine ro rfl (ok_callP (law17_attr_ok r5 ([105, 100] : Bytes) _ e8) rfl rfl rfl rfl ⟨sr, sr, trivial⟩ Try.call29 rfl ?_)
 refine ro rfl (op_bslice eTExpr [r3, r7] rfl rfl rfl rfl rfl rfl rfl rfl rfl rfl rfl rfl rfl (by first | rfl | (simp only [List.map_cons, List.map_nil, TExpr.agg_eq]; done) | (simp only [List.map_cons, List.map_nil, TExpr.agg_eq]; rfl)) ?_)
 refine ro rfl (ok_build rfl rfl rfl rfl rfl rfl rfl rfl rfl ?_)
 refine ro rfl (ok_alloc rfl rfl rfl rfl rfl ?_)
 refine ro rfl (ok_store rfl rfl rfl rfl rfl rfl rfl rfl (Nat.le_of_ble_eq_true rfl) ?_)
 refine rn ?_
 refine awp_seq (awp_reg ?_)
 refine ro rfl (ok_loadPA rfl rfl rfl rfl rfl rfl rfl rfl rfl ?_)
 obtain ⟨r9, e10, h0⟩ := bd_cut h0
 refine ro rfl (ok_callP (reference_Of_ok _ (TExpr.mk 12 0 ([120] : Bytes) ([] : Bytes) (TValue.mk 0 0 ([] : Bytes) [] []) [r3, r7] 0) _ e10) rfl rfl rfl rfl ⟨sub_cells ⟨.inl rfl, .inl rfl, .inl rfl, .inl rfl, .inl rfl, .inl rfl, .inl rfl, .inr ⟨rfl, rfl⟩, .inr ⟨rfl, rfl⟩, .inl rfl, .inl rfl, trivial⟩, trivial⟩ Try.call13 rfl ?_)
 refine ro rfl (ok_assign rfl rfl rfl rfl ?_)
 refine rn ?_
 refine awp_seq (awp_reg ?_)
 obtain ⟨r11, e12, h0⟩ := bd_cut h0
 refine ro rfl (ok_callP (law17_name_ok ([109, 111, 100, 117, 108, 101] : Bytes) _ e12) rfl rfl rfl rfl ⟨sr, trivial⟩ Try.call30 rfl ?_)
 obtain ⟨r13, e14, h0⟩ := bd_cut h0
 refine ro rfl (ok_callP (law17_attr_ok r11 ([109] : Bytes) _ e14) rfl rfl rfl rfl ⟨sr, sr, trivial⟩ Try.call29 rfl ?_)
 obtain ⟨r15, e16, h0⟩ := bd_cut h0
 refine ro rfl (ok_callP (law17_attr_ok r13 ([111] : Bytes) _ e16) rfl rfl rfl rfl ⟨sr, sr, trivial⟩ Try.call29 rfl ?_)
 obtain ⟨r17, e18, h0⟩ := bd_cut h0
 refine ro rfl (ok_callP (reference_Parse_ok _ r15 _ e18) rfl rfl rfl rfl ⟨sr, trivial⟩ Try.call10 rfl ?_)
 refine ro rfl (ok_move rfl rfl rfl rfl ?_)
 refine ro rfl (ok_extract rfl rfl rfl rfl rfl ?_)
 refine ro rfl (ok_extract rfl rfl rfl rfl rfl ?_)
 refine ro rfl (ok_alloc rfl rfl rfl rfl rfl ?_)
 refine ro rfl (ok_store rfl rfl rfl rfl rfl rfl rfl rfl (Nat.le_of_ble_eq_true rfl) ?_)
 refine ro rfl (ok_assign rfl rfl rfl rfl ?_)
 refine rn ?_
 refine awp_seq (awp_reg ?_)
 obtain ⟨r19, e20, h0⟩ := bd_cut h0
 refine ro rfl (ok_callP (law17_name_ok ([110, 101, 116] : Bytes) _ e20) rfl rfl rfl rfl ⟨sr, trivial⟩ Try.call30 rfl ?_)
 obtain ⟨r21, e22, h0⟩ := bd_cut h0
 refine ro rfl (ok_callP (law17_attr_ok r19 ([97] : Bytes) _ e22) rfl rfl rfl rfl ⟨sr, sr, trivial⟩ Try.call29 rfl ?_)
 obtain ⟨r23, e24, h0⟩ := bd_cut h0
 refine ro rfl (ok_callP (law17_attr_ok r21 ([105, 100] : Bytes) _ e24) rfl rfl rfl rfl ⟨sr, sr, trivial⟩ Try.call29 rfl ?_)
 obtain ⟨r25, e26, h0⟩ := bd_cut h0
 refine ro rfl (ok_callP (reference_Parse_ok _ r23 _ e26) rfl rfl rfl rfl ⟨sr, trivial⟩ Try.call10 rfl ?_)
 refine ro rfl (ok_move rfl rfl rfl rfl ?_)
 refine ro rfl (ok_extract rfl rfl rfl rfl rfl ?_)
 refine ro rfl (ok_extract rfl rfl rfl rfl rfl ?_)
 refine ro rfl (ok_alloc rfl rfl rfl rfl rfl ?_)
 refine ro rfl (ok_store rfl rfl rfl rfl rfl rfl rfl rfl (Nat.le_of_ble_eq_true rfl) ?_)
 refine ro rfl (ok_assign rfl rfl rfl rfl ?_)
 refine rn ?_
 refine awp_ghost (ghost_le (t := ⟨[(2, .p (eL eTRef r9)), (3, .ptr 3 0), (4, .p (eB r17.2)), (6, .p (eB r25.2))], [(3, [.p (eI r17.1.fKind), .p (eS r17.1.fType), .p (eS r17.1.fName), .p (eI r17.1.fAt)])]⟩) (le_mk ⟨er rfl, er rfl, er rfl, er rfl, trivial⟩ ⟨⟨_, rfl, ⟨sr, sr, sr, sr, trivial⟩⟩, trivial⟩)) ?_
 refine awp_seq ?_
 obtain ⟨o41, h1, h0⟩ := bd_cut h0
 refine awp_joinN ⟨[(0, .p (eB o41))], []⟩ ?_ ?_
 ·intro s' hle
  (repeat (first | refine uw ?_ | refine uo rfl ?_))
  refine awp_ghost hle ?_
  refine awp_ret ?_
  (repeat (first | refine uw ?_ | refine uo rfl ?_))
  have e0 := oi h0
  subst e0
  refine reta_mk rfl ?_
  exact sr
 ·skip
  refine awp_reg ?_
  refine ro rfl (ok_move rfl rfl rfl rfl ?_)
  refine ro rfl (op_lenL (f := eTRef) (l := r9) rfl rfl rfl rfl rfl rfl rfl ?_)
  refine ro rfl (ok_cmp rfl rfl rfl rfl rfl rfl ?_)
  refine ro rfl (ok_move rfl rfl rfl rfl ?_)
  refine gd_D rfl rfl rfl (fun c27 => ?_) (fun c27 => ?_)
  ·replace h1 := if_t c27 h1
   refine gd_tt rfl rfl rfl (dt c27) (ok_move rfl rfl rfl rfl ?_)
   obtain ⟨h28, h1⟩ := ck_cut h1
   refine gd_tt rfl rfl rfl (dt c27) (op_at (f := eTRef) (l := r9) TRef.cs rfl rfl rfl rfl rfl rfl rfl rfl rfl h28 TRef.cells_eq (fun _ => rfl) ?_)
   refine gd_tt rfl rfl rfl (dt c27) (ok_fieldAddrR rfl rfl rfl rfl rfl rfl rfl rfl rfl ?_)
   refine gd_tt rfl rfl rfl (dt c27) (ok_loadR1 rfl rfl rfl rfl rfl rfl rfl ?_)
   refine gd_tt rfl rfl rfl (dt c27) (ok_cmp rfl rfl rfl rfl rfl rfl ?_)
   refine ro rfl (ok_pick_true rfl rfl rfl rfl (dt c27) rfl ?_)
   refine ro rfl (ok_move rfl rfl rfl rfl ?_)
   refine gd_D rfl rfl rfl (fun c29 => ?_) (fun c29 => ?_)
   ·replace h1 := if_t c29 h1
    refine gd_tt rfl rfl rfl (dt c29) (ok_move rfl rfl rfl rfl ?_)
    obtain ⟨h30, h1⟩ := ck_cut h1
    refine gd_tt rfl rfl rfl (dt c29) (op_at (f := eTRef) (l := r9) TRef.cs rfl rfl rfl rfl rfl rfl rfl rfl rfl h30 TRef.cells_eq (fun _ => rfl) ?_)
    refine gd_tt rfl rfl rfl (dt c29) (ok_fieldAddrR rfl rfl rfl rfl rfl rfl rfl rfl rfl ?_)
    refine gd_tt rfl rfl rfl (dt c29) (ok_loadR1 rfl rfl rfl rfl rfl rfl rfl ?_)
    refine gd_tt rfl rfl rfl (dt c29) (ok_cmpS rfl rfl rfl rfl rfl rfl ?_)
    refine ro rfl (ok_pick_true rfl rfl rfl rfl (dt c29) rfl ?_)
    refine ro rfl (ok_move rfl rfl rfl rfl ?_)
    refine gd_D rfl rfl rfl (fun c31 => ?_) (fun c31 => ?_)
    ·replace h1 := if_t c31 h1
     refine gd_tt rfl rfl rfl (dt c31) (ok_move rfl rfl rfl rfl ?_)
     refine ro rfl (ok_pick_true rfl rfl rfl rfl (dt c31) rfl ?_)
     refine ro rfl (ok_move rfl rfl rfl rfl ?_)
     refine gd_B rfl rfl rfl (fun c32 => ?_) (fun c32 => ?_)
     ·replace h1 := if_t c32 h1
      refine gd_tt rfl rfl rfl (c32) (ok_move rfl rfl rfl rfl ?_)
      refine gd_tt rfl rfl rfl (c32) (ok_not rfl rfl rfl rfl ?_)
      refine ro rfl (ok_pick_true rfl rfl rfl rfl (c32) rfl ?_)
      refine ro rfl (ok_move rfl rfl rfl rfl ?_)
      refine gd_B rfl rfl rfl (fun c33 => ?_) (fun c33 => ?_)
      ·replace h1 := if_t c33 h1
       refine gd_tt rfl rfl rfl (c33) (ok_loadPA rfl rfl rfl rfl rfl rfl rfl rfl rfl ?_)
       obtain ⟨r34, e35, h1⟩ := bd_cut h1
       refine gd_tt rfl rfl rfl (c33) (ok_callP (reference_Text_ok r17.1 _ e35) rfl rfl rfl rfl ⟨sr, trivial⟩ Try.call15 rfl ?_)
       refine gd_tt rfl rfl rfl (c33) (ok_cmpS rfl rfl rfl rfl rfl rfl ?_)
       refine ro rfl (ok_pick_true rfl rfl rfl rfl (c33) rfl ?_)
       refine ro rfl (ok_move rfl rfl rfl rfl ?_)
       refine gd_D rfl rfl rfl (fun c36 => ?_) (fun c36 => ?_)
       ·replace h1 := if_t c36 h1
        refine gd_tt rfl rfl rfl (dt c36) (ok_build rfl rfl rfl rfl rfl rfl rfl rfl rfl ?_)
        refine gd_tt rfl rfl rfl (dt c36) (ok_build rfl rfl rfl rfl rfl rfl rfl rfl rfl ?_)
        obtain ⟨r37, e38, h1⟩ := bd_cut h1
        refine gd_tt rfl rfl rfl (dt c36) (ok_callP (reference_Same_ok (TRef.mk 0 ([] : Bytes) ([] : Bytes) 1) (TRef.mk 0 ([] : Bytes) ([] : Bytes) 2) _ e38) rfl rfl rfl rfl ⟨sr, sr, trivial⟩ Try.call17 rfl ?_)
        refine ro rfl (ok_pick_true rfl rfl rfl rfl (dt c36) rfl ?_)
        refine ro rfl (ok_assign rfl rfl rfl rfl ?_)
        refine rn ?_
        (repeat (first | refine uw ?_ | refine uo rfl ?_))
        have e1 := oi h1
        subst e1
        exact ghost_le (le_mk ⟨er rfl, trivial⟩ trivial)
       ·replace h1 := if_f c36 h1
        refine gd_tf rfl rfl rfl (df c36) rfl rfl ?_
        refine gd_tf rfl rfl rfl (df c36) rfl rfl ?_
        refine gd_tf rfl rfl rfl (df c36) rfl rfl ?_
        refine ro rfl (ok_pick_false rfl rfl rfl rfl (df c36) rfl ?_)
        refine ro rfl (ok_assign rfl rfl rfl rfl ?_)
        refine rn ?_
        (repeat (first | refine uw ?_ | refine uo rfl ?_))
        have e1 := oi h1
        subst e1
        exact ghost_le (le_mk ⟨er rfl, trivial⟩ trivial)
      ·replace h1 := if_bf c33 h1
       refine gd_tf rfl rfl rfl (c33) rfl rfl ?_
       refine gd_tf rfl rfl rfl (c33) rfl rfl ?_
       refine gd_tf rfl rfl rfl (c33) rfl rfl ?_
       refine ro rfl (ok_pick_false rfl rfl rfl rfl (c33) rfl ?_)
       refine ro rfl (ok_move rfl rfl rfl rfl ?_)
       refine gd_tf rfl rfl rfl (rfl) rfl rfl ?_
       refine gd_tf rfl rfl rfl (rfl) rfl rfl ?_
       refine gd_tf rfl rfl rfl (rfl) rfl rfl ?_
       refine ro rfl (ok_pick_false rfl rfl rfl rfl (rfl) rfl ?_)
       refine ro rfl (ok_assign rfl rfl rfl rfl ?_)
       refine rn ?_
       (repeat (first | refine uw ?_ | refine uo rfl ?_))
       have e1 := oi h1
       subst e1
       exact ghost_le (le_mk ⟨er rfl, trivial⟩ trivial)
     ·replace h1 := if_bf c32 h1
      refine gd_tf rfl rfl rfl (c32) rfl rfl ?_
      refine gd_tf rfl rfl rfl (c32) rfl rfl ?_
      refine ro rfl (ok_pick_false rfl rfl rfl rfl (c32) rfl ?_)
      refine ro rfl (ok_move rfl rfl rfl rfl ?_)
      refine gd_tf rfl rfl rfl (rfl) rfl rfl ?_
      refine gd_tf rfl rfl rfl (rfl) rfl rfl ?_
      refine gd_tf rfl rfl rfl (rfl) rfl rfl ?_
      refine ro rfl (ok_pick_false rfl rfl rfl rfl (rfl) rfl ?_)
      refine ro rfl (ok_move rfl rfl rfl rfl ?_)
      refine gd_tf rfl rfl rfl (rfl) rfl rfl ?_
      refine gd_tf rfl rfl rfl (rfl) rfl rfl ?_
      refine gd_tf rfl rfl rfl (rfl) rfl rfl ?_
      refine ro rfl (ok_pick_false rfl rfl rfl rfl (rfl) rfl ?_)
      refine ro rfl (ok_assign rfl rfl rfl rfl ?_)
      refine rn ?_
      (repeat (first | refine uw ?_ | refine uo rfl ?_))
      have e1 := oi h1
      subst e1
      exact ghost_le (le_mk ⟨er rfl, trivial⟩ trivial)
    ·replace h1 := if_f c31 h1
     refine gd_tf rfl rfl rfl (df c31) rfl rfl ?_
     refine ro rfl (ok_pick_false rfl rfl rfl rfl (df c31) rfl ?_)
     refine ro rfl (ok_move rfl rfl rfl rfl ?_)
     refine gd_tf rfl rfl rfl (rfl) rfl rfl ?_
     refine gd_tf rfl rfl rfl (rfl) rfl rfl ?_
     refine ro rfl (ok_pick_false rfl rfl rfl rfl (rfl) rfl ?_)
     refine ro rfl (ok_move rfl rfl rfl rfl ?_)
     refine gd_tf rfl rfl rfl (rfl) rfl rfl ?_
     refine gd_tf rfl rfl rfl (rfl) rfl rfl ?_
     refine gd_tf rfl rfl rfl (rfl) rfl rfl ?_
     refine ro rfl (ok_pick_false rfl rfl rfl rfl (rfl) rfl ?_)
     refine ro rfl (ok_move rfl rfl rfl rfl ?_)
     refine gd_tf rfl rfl rfl (rfl) rfl rfl ?_
     refine gd_tf rfl rfl rfl (rfl) rfl rfl ?_
     refine gd_tf rfl rfl rfl (rfl) rfl rfl ?_
     refine ro rfl (ok_pick_false rfl rfl rfl rfl (rfl) rfl ?_)
     refine ro rfl (ok_assign rfl rfl rfl rfl ?_)
     refine rn ?_
     (repeat (first | refine uw ?_ | refine uo rfl ?_))
     have e1 := oi h1
     subst e1
     exact ghost_le (le_mk ⟨er rfl, trivial⟩ trivial)
   ·replace h1 := if_f c29 h1
    refine gd_tf rfl rfl rfl (df c29) rfl rfl ?_
    refine gd_tf rfl rfl rfl (df c29) rfl rfl ?_
    refine gd_tf rfl rfl rfl (df c29) rfl rfl ?_
    refine gd_tf rfl rfl rfl (df c29) rfl rfl ?_
    refine gd_tf rfl rfl rfl (df c29) rfl rfl ?_
    refine ro rfl (ok_pick_false rfl rfl rfl rfl (df c29) rfl ?_)
    refine ro rfl (ok_move rfl rfl rfl rfl ?_)
    refine gd_tf rfl rfl rfl (rfl) rfl rfl ?_
    refine ro rfl (ok_pick_false rfl rfl rfl rfl (rfl) rfl ?_)
    refine ro rfl (ok_move rfl rfl rfl rfl ?_)
    refine gd_tf rfl rfl rfl (rfl) rfl rfl ?_
    refine gd_tf rfl rfl rfl (rfl) rfl rfl ?_
    refine ro rfl (ok_pick_false rfl rfl rfl rfl (rfl) rfl ?_)
    refine ro rfl (ok_move rfl rfl rfl rfl ?_)
    refine gd_tf rfl rfl rfl (rfl) rfl rfl ?_
    refine gd_tf rfl rfl rfl (rfl) rfl rfl ?_
    refine gd_tf rfl rfl rfl (rfl) rfl rfl ?_
    refine ro rfl (ok_pick_false rfl rfl rfl rfl (rfl) rfl ?_)
    refine ro rfl (ok_move rfl rfl rfl rfl ?_)
    refine gd_tf rfl rfl rfl (rfl) rfl rfl ?_
    refine gd_tf rfl rfl rfl (rfl) rfl rfl ?_
    refine gd_tf rfl rfl rfl (rfl) rfl rfl ?_
    refine ro rfl (ok_pick_false rfl rfl rfl rfl (rfl) rfl ?_)
    refine ro rfl (ok_assign rfl rfl rfl rfl ?_)
    refine rn ?_
    (repeat (first | refine uw ?_ | refine uo rfl ?_))
    have e1 := oi h1
    subst e1
    exact ghost_le (le_mk ⟨er rfl, trivial⟩ trivial)
  ·replace h1 := if_f c27 h1
   refine gd_tf rfl rfl rfl (df c27) rfl rfl ?_
   refine gd_tf rfl rfl rfl (df c27) rfl rfl ?_
   refine gd_tf rfl rfl rfl (df c27) rfl rfl ?_
   refine gd_tf rfl rfl rfl (df c27) rfl rfl ?_
   refine gd_tf rfl rfl rfl (df c27) rfl rfl ?_
   refine ro rfl (ok_pick_false rfl rfl rfl rfl (df c27) rfl ?_)
   refine ro rfl (ok_move rfl rfl rfl rfl ?_)
   refine gd_tf rfl rfl rfl (rfl) rfl rfl ?_
   refine gd_tf rfl rfl rfl (rfl) rfl rfl ?_
   refine gd_tf rfl rfl rfl (rfl) rfl rfl ?_
   refine gd_tf rfl rfl rfl (rfl) rfl rfl ?_
   refine gd_tf rfl rfl rfl (rfl) rfl rfl ?_
   refine ro rfl (ok_pick_false rfl rfl rfl rfl (rfl) rfl ?_)
   refine ro rfl (ok_move rfl rfl rfl rfl ?_)
   refine gd_tf rfl rfl rfl (rfl) rfl rfl ?_
   refine ro rfl (ok_pick_false rfl rfl rfl rfl (rfl) rfl ?_)
   refine ro rfl (ok_move rfl rfl rfl rfl ?_)
   refine gd_tf rfl rfl rfl (rfl) rfl rfl ?_
   refine gd_tf rfl rfl rfl (rfl) rfl rfl ?_
   refine ro rfl (ok_pick_false rfl rfl rfl rfl (rfl) rfl ?_)
   refine ro rfl (ok_move rfl rfl rfl rfl ?_)
   refine gd_tf rfl rfl rfl (rfl) rfl rfl ?_
   refine gd_tf rfl rfl rfl (rfl) rfl rfl ?_
   refine gd_tf rfl rfl rfl (rfl) rfl rfl ?_
   refine ro rfl (ok_pick_false rfl rfl rfl rfl (rfl) rfl ?_)
   refine ro rfl (ok_move rfl rfl rfl rfl ?_)
   refine gd_tf rfl rfl rfl (rfl) rfl rfl ?_
   refine gd_tf rfl rfl rfl (rfl) rfl rfl ?_
   refine gd_tf rfl rfl rfl (rfl) rfl rfl ?_
   refine ro rfl (ok_pick_false rfl rfl rfl rfl (rfl) rfl ?_)
   refine ro rfl (ok_assign rfl rfl rfl rfl ?_)
   refine rn ?_
   (repeat (first | refine uw ?_ | refine uo rfl ?_))
   have e1 := oi h1
   subst e1
   exact ghost_le (le_mk ⟨er rfl, trivial⟩ trivial)

def ref17_Text (r_0 : TRef) : Option Bytes :=
 if r_0.fKind = 1 then
  ck (([118, 97, 114, 46] : Bytes).length + r_0.fName.length ≤ 9223372036854775807) <|
  some (([118, 97, 114, 46] : Bytes) ++ r_0.fName)
 else
  if r_0.fKind = 2 then
   ck (([108, 111, 99, 97, 108, 46] : Bytes).length + r_0.fName.length ≤ 9223372036854775807) <|
   some (([108, 111, 99, 97, 108, 46] : Bytes) ++ r_0.fName)
  else
   if r_0.fKind = 3 then
    ck (r_0.fType.length + ([46] : Bytes).length ≤ 9223372036854775807) <|
    ck ((r_0.fType ++ ([46] : Bytes)).length + r_0.fName.length ≤ 9223372036854775807) <|
    some ((r_0.fType ++ ([46] : Bytes)) ++ r_0.fName)
   else
    if r_0.fKind = 4 then
     ck (([100, 97, 116, 97, 46] : Bytes).length + r_0.fType.length ≤ 9223372036854775807) <|
     ck ((([100, 97, 116, 97, 46] : Bytes) ++ r_0.fType).length + ([46] : Bytes).length ≤ 9223372036854775807) <|
     ck (((([100, 97, 116, 97, 46] : Bytes) ++ r_0.fType) ++ ([46] : Bytes)).length + r_0.fName.length ≤ 9223372036854775807) <|
     some (((([100, 97, 116, 97, 46] : Bytes) ++ r_0.fType) ++ ([46] : Bytes)) ++ r_0.fName)
    else
     if r_0.fKind = 5 then
      if r_0.fType = ([] : Bytes) then
       ck (([109, 111, 100, 117, 108, 101, 46] : Bytes).length + r_0.fName.length ≤ 9223372036854775807) <|
       some (([109, 111, 100, 117, 108, 101, 46] : Bytes) ++ r_0.fName)
      else
       ck (([109, 111, 100, 117, 108, 101, 46] : Bytes).length + r_0.fName.length ≤ 9223372036854775807) <|
       ck ((([109, 111, 100, 117, 108, 101, 46] : Bytes) ++ r_0.fName).length + ([46] : Bytes).length ≤ 9223372036854775807) <|
       ck (((([109, 111, 100, 117, 108, 101, 46] : Bytes) ++ r_0.fName) ++ ([46] : Bytes)).length + r_0.fType.length ≤ 9223372036854775807) <|
       some (((([109, 111, 100, 117, 108, 101, 46] : Bytes) ++ r_0.fName) ++ ([46] : Bytes)) ++ r_0.fType)
     else
      if r_0.fKind = 6 then
       ck (([101, 97, 99, 104, 46] : Bytes).length + r_0.fName.length ≤ 9223372036854775807) <|
       some (([101, 97, 99, 104, 46] : Bytes) ++ r_0.fName)
      else
       if r_0.fKind = 7 then
        ck (([99, 111, 117, 110, 116, 46] : Bytes).length + r_0.fName.length ≤ 9223372036854775807) <|
        some (([99, 111, 117, 110, 116, 46] : Bytes) ++ r_0.fName)
       else
        if r_0.fKind = 8 then
         ck (([114, 101, 109, 111, 116, 101, 46] : Bytes).length + r_0.fName.length ≤ 9223372036854775807) <|
         some (([114, 101, 109, 111, 116, 101, 46] : Bytes) ++ r_0.fName)
        else
         if r_0.fKind = 9 then
          some r_0.fName
         else
          some ([] : Bytes)

set_option maxHeartbeats 4000000 in
theorem ref17_Text_ok (r_0 : TRef) (r : Bytes) (h0 : ref17_Text r_0 = some r) : PCalls Try.prog 16 [.agg (TRef.cs r_0)] (· = .p (eS r)) := by
 unfold ref17_Text at h0
 refine pbodyA good Try.func16 rfl rfl rfl fun w0 => ?_
 refine awp_seq (awp_reg ?_)
 refine ro rfl (ok_box rfl rfl rfl rfl rfl ?_)
 refine ro rfl (ok_assign rfl rfl rfl rfl ?_)
 refine rn ?_
 refine awp_seq (awp_seq (awp_reg ?_))
 refine ro rfl (ok_fieldAddrP rfl rfl rfl rfl rfl rfl rfl rfl rfl ?_)
 refine ro rfl (ok_loadP1 rfl rfl rfl rfl rfl rfl rfl rfl ?_)
 refine rn ?_
 refine awp_block (awp_seq (awp_reg ?_))
 refine ro rfl (ok_cmp rfl rfl rfl rfl rfl rfl ?_)
 refine ro rfl (ok_assign rfl rfl rfl rfl ?_)
 refine rn ?_
 refine wp_ifD rfl (fun c1 => ?_) (fun c1 => ?_)
 ·replace h0 := if_t c1 h0
  refine awp_seq (awp_reg ?_)
  refine ro rfl (ok_fieldAddrP rfl rfl rfl rfl rfl rfl rfl rfl rfl ?_)
  refine ro rfl (ok_loadP1 rfl rfl rfl rfl rfl rfl rfl rfl ?_)
  obtain ⟨h2, h0⟩ := ck_cut h0
  refine ro rfl (ok_concat rfl rfl rfl rfl rfl h2 ?_)
  refine ro rfl (ok_assign rfl rfl rfl rfl ?_)
  refine rn ?_
  refine awp_ret ?_
  (repeat (first | refine uw ?_ | refine uo rfl ?_))
  have e0 := oi h0
  subst e0
  refine reta_mk rfl ?_
  exact sr
 ·replace h0 := if_f c1 h0
  refine awp_seq (awp_reg ?_)
  refine ro rfl (ok_cmp rfl rfl rfl rfl rfl rfl ?_)
  refine ro rfl (ok_assign rfl rfl rfl rfl ?_)
  refine rn ?_
  refine wp_ifD rfl (fun c3 => ?_) (fun c3 => ?_)
  ·replace h0 := if_t c3 h0
   refine awp_seq (awp_reg ?_)
   refine ro rfl (ok_fieldAddrP rfl rfl rfl rfl rfl rfl rfl rfl rfl ?_)
   refine ro rfl (ok_loadP1 rfl rfl rfl rfl rfl rfl rfl rfl ?_)
   obtain ⟨h4, h0⟩ := ck_cut h0
   refine ro rfl (ok_concat rfl rfl rfl rfl rfl h4 ?_)
   refine ro rfl (ok_assign rfl rfl rfl rfl ?_)
   refine rn ?_
   refine awp_ret ?_
   (repeat (first | refine uw ?_ | refine uo rfl ?_))
   have e0 := oi h0
   subst e0
   refine reta_mk rfl ?_
   exact sr
  ·replace h0 := if_f c3 h0
   refine awp_seq (awp_reg ?_)
   refine ro rfl (ok_cmp rfl rfl rfl rfl rfl rfl ?_)
   refine ro rfl (ok_assign rfl rfl rfl rfl ?_)
   refine rn ?_
   refine wp_ifD rfl (fun c5 => ?_) (fun c5 => ?_)
   ·replace h0 := if_t c5 h0
    refine awp_seq (awp_reg ?_)
    refine ro rfl (ok_fieldAddrP rfl rfl rfl rfl rfl rfl rfl rfl rfl ?_)
    refine ro rfl (ok_loadP1 rfl rfl rfl rfl rfl rfl rfl rfl ?_)
    obtain ⟨h6, h0⟩ := ck_cut h0
    refine ro rfl (ok_concat rfl rfl rfl rfl rfl h6 ?_)
    refine ro rfl (ok_fieldAddrP rfl rfl rfl rfl rfl rfl rfl rfl rfl ?_)
    refine ro rfl (ok_loadP1 rfl rfl rfl rfl rfl rfl rfl rfl ?_)
    obtain ⟨h7, h0⟩ := ck_cut h0
    refine ro rfl (ok_concat rfl rfl rfl rfl rfl h7 ?_)
    refine ro rfl (ok_assign rfl rfl rfl rfl ?_)
    refine rn ?_
    refine awp_ret ?_
    (repeat (first | refine uw ?_ | refine uo rfl ?_))
    have e0 := oi h0
    subst e0
    refine reta_mk rfl ?_
    exact sr
   ·replace h0 := if_f c5 h0
    refine awp_seq (awp_reg ?_)
    refine ro rfl (ok_cmp rfl rfl rfl rfl rfl rfl ?_)
    refine ro rfl (ok_assign rfl rfl rfl rfl ?_)
    refine rn ?_
    refine wp_ifD rfl (fun c8 => ?_) (fun c8 => ?_)
    ·replace h0 := if_t c8 h0
     refine awp_seq (awp_reg ?_)
     refine ro rfl (ok_fieldAddrP rfl rfl rfl rfl rfl rfl rfl rfl rfl ?_)
     refine ro rfl (ok_loadP1 rfl rfl rfl rfl rfl rfl rfl rfl ?_)
     obtain ⟨h9, h0⟩ := ck_cut h0
     refine ro rfl (ok_concat rfl rfl rfl rfl rfl h9 ?_)
     obtain ⟨h10, h0⟩ := ck_cut h0
     refine ro rfl (ok_concat rfl rfl rfl rfl rfl h10 ?_)
     refine ro rfl (ok_fieldAddrP rfl rfl rfl rfl rfl rfl rfl rfl rfl ?_)
     refine ro rfl (ok_loadP1 rfl rfl rfl rfl rfl rfl rfl rfl ?_)
     obtain ⟨h11, h0⟩ := ck_cut h0
     refine ro rfl (ok_concat rfl rfl rfl rfl rfl h11 ?_)
     refine ro rfl (ok_assign rfl rfl rfl rfl ?_)
     refine rn ?_
     refine awp_ret ?_
     (repeat (first | refine uw ?_ | refine uo rfl ?_))
     have e0 := oi h0
     subst e0
     refine reta_mk rfl ?_
     exact sr
    ·replace h0 := if_f c8 h0
     refine awp_seq (awp_reg ?_)
     refine ro rfl (ok_cmp rfl rfl rfl rfl rfl rfl ?_)
     refine ro rfl (ok_assign rfl rfl rfl rfl ?_)
     refine rn ?_
     refine wp_ifD rfl (fun c12 => ?_) (fun c12 => ?_)
     ·replace h0 := if_t c12 h0
      refine awp_seq (awp_seq (awp_reg ?_))
      refine ro rfl (ok_fieldAddrP rfl rfl rfl rfl rfl rfl rfl rfl rfl ?_)
      refine ro rfl (ok_loadP1 rfl rfl rfl rfl rfl rfl rfl rfl ?_)
      refine ro rfl (ok_cmpS rfl rfl rfl rfl rfl rfl ?_)
      refine rn ?_
      refine wp_ifN rfl (fun c13 => ?_) (fun c13 => ?_)
      ·replace h0 := if_f c13 h0
       refine awp_seq (awp_reg ?_)
       refine ro rfl (ok_fieldAddrP rfl rfl rfl rfl rfl rfl rfl rfl rfl ?_)
       refine ro rfl (ok_loadP1 rfl rfl rfl rfl rfl rfl rfl rfl ?_)
       obtain ⟨h14, h0⟩ := ck_cut h0
       refine ro rfl (ok_concat rfl rfl rfl rfl rfl h14 ?_)
       obtain ⟨h15, h0⟩ := ck_cut h0
       refine ro rfl (ok_concat rfl rfl rfl rfl rfl h15 ?_)
       refine ro rfl (ok_fieldAddrP rfl rfl rfl rfl rfl rfl rfl rfl rfl ?_)
       refine ro rfl (ok_loadP1 rfl rfl rfl rfl rfl rfl rfl rfl ?_)
       obtain ⟨h16, h0⟩ := ck_cut h0
       refine ro rfl (ok_concat rfl rfl rfl rfl rfl h16 ?_)
       refine ro rfl (ok_assign rfl rfl rfl rfl ?_)
       refine rn ?_
       refine awp_ret ?_
       (repeat (first | refine uw ?_ | refine uo rfl ?_))
       have e0 := oi h0
       subst e0
       refine reta_mk rfl ?_
       exact sr
      ·replace h0 := if_t c13 h0
       refine awp_skip (awp_seq (awp_reg ?_))
       refine ro rfl (ok_fieldAddrP rfl rfl rfl rfl rfl rfl rfl rfl rfl ?_)
       refine ro rfl (ok_loadP1 rfl rfl rfl rfl rfl rfl rfl rfl ?_)
       obtain ⟨h17, h0⟩ := ck_cut h0
       refine ro rfl (ok_concat rfl rfl rfl rfl rfl h17 ?_)
       refine ro rfl (ok_assign rfl rfl rfl rfl ?_)
       refine rn ?_
       refine awp_ret ?_
       (repeat (first | refine uw ?_ | refine uo rfl ?_))
       have e0 := oi h0
       subst e0
       refine reta_mk rfl ?_
       exact sr
     ·replace h0 := if_f c12 h0
      refine awp_seq (awp_reg ?_)
      refine ro rfl (ok_cmp rfl rfl rfl rfl rfl rfl ?_)
      refine ro rfl (ok_assign rfl rfl rfl rfl ?_)
      refine rn ?_
      refine wp_ifD rfl (fun c18 => ?_) (fun c18 => ?_)
      ·replace h0 := if_t c18 h0
       refine awp_seq (awp_reg ?_)
       refine ro rfl (ok_fieldAddrP rfl rfl rfl rfl rfl rfl rfl rfl rfl ?_)
       refine ro rfl (ok_loadP1 rfl rfl rfl rfl rfl rfl rfl rfl ?_)
       obtain ⟨h19, h0⟩ := ck_cut h0
       refine ro rfl (ok_concat rfl rfl rfl rfl rfl h19 ?_)
       refine ro rfl (ok_assign rfl rfl rfl rfl ?_)
       refine rn ?_
       refine awp_ret ?_
       (repeat (first | refine uw ?_ | refine uo rfl ?_))
       have e0 := oi h0
       subst e0
       refine reta_mk rfl ?_
       exact sr
      ·replace h0 := if_f c18 h0
       refine awp_seq (awp_reg ?_)
       refine ro rfl (ok_cmp rfl rfl rfl rfl rfl rfl ?_)
       refine ro rfl (ok_assign rfl rfl rfl rfl ?_)
       refine rn ?_
       refine wp_ifD rfl (fun c20 => ?_) (fun c20 => ?_)
       ·replace h0 := if_t c20 h0
        refine awp_seq (awp_reg ?_)
        refine ro rfl (ok_fieldAddrP rfl rfl rfl rfl rfl rfl rfl rfl rfl ?_)
        refine ro rfl (ok_loadP1 rfl rfl rfl rfl rfl rfl rfl rfl ?_)
        obtain ⟨h21, h0⟩ := ck_cut h0
        refine ro rfl (ok_concat rfl rfl rfl rfl rfl h21 ?_)
        refine ro rfl (ok_assign rfl rfl rfl rfl ?_)
        refine rn ?_
        refine awp_ret ?_
        (repeat (first | refine uw ?_ | refine uo rfl ?_))
        have e0 := oi h0
        subst e0
        refine reta_mk rfl ?_
        exact sr
       ·replace h0 := if_f c20 h0
        refine awp_seq (awp_reg ?_)
        refine ro rfl (ok_cmp rfl rfl rfl rfl rfl rfl ?_)
        refine ro rfl (ok_assign rfl rfl rfl rfl ?_)
        refine rn ?_
        refine wp_ifD rfl (fun c22 => ?_) (fun c22 => ?_)
        ·replace h0 := if_t c22 h0
         refine awp_seq (awp_reg ?_)
         refine ro rfl (ok_fieldAddrP rfl rfl rfl rfl rfl rfl rfl rfl rfl ?_)
         refine ro rfl (ok_loadP1 rfl rfl rfl rfl rfl rfl rfl rfl ?_)
         obtain ⟨h23, h0⟩ := ck_cut h0
         refine ro rfl (ok_concat rfl rfl rfl rfl rfl h23 ?_)
         refine ro rfl (ok_assign rfl rfl rfl rfl ?_)
         refine rn ?_
         refine awp_ret ?_
         (repeat (first | refine uw ?_ | refine uo rfl ?_))
         have e0 := oi h0
         subst e0
         refine reta_mk rfl ?_
         exact sr
        ·replace h0 := if_f c22 h0
         refine awp_seq (awp_reg ?_)
         refine ro rfl (ok_cmp rfl rfl rfl rfl rfl rfl ?_)
         refine ro rfl (ok_assign rfl rfl rfl rfl ?_)
         refine rn ?_
         refine wp_ifD rfl (fun c24 => ?_) (fun c24 => ?_)
         ·replace h0 := if_t c24 h0
          refine awp_seq (awp_reg ?_)
          refine ro rfl (ok_fieldAddrP rfl rfl rfl rfl rfl rfl rfl rfl rfl ?_)
          refine ro rfl (ok_loadP1 rfl rfl rfl rfl rfl rfl rfl rfl ?_)
          refine ro rfl (ok_assign rfl rfl rfl rfl ?_)
          refine rn ?_
          refine awp_ret ?_
          (repeat (first | refine uw ?_ | refine uo rfl ?_))
          have e0 := oi h0
          subst e0
          refine reta_mk rfl ?_
          exact sr
         ·replace h0 := if_f c24 h0
          refine awp_skip ?_
          (repeat (first | refine uw ?_ | refine uo rfl ?_))
          refine awp_seq (awp_reg ?_)
          refine ro rfl (ok_assign rfl rfl rfl rfl ?_)
          refine rn ?_
          refine awp_ret ?_
          (repeat (first | refine uw ?_ | refine uo rfl ?_))
          have e0 := oi h0
          subst e0
          refine reta_mk rfl ?_
          exact sr

def ref17_Same (a_0 : TRef) (b_1 : TRef) : Option Bool :=
 (
   if a_0.fKind = b_1.fKind then
    if a_0.fType = b_1.fType then
     some (decide (a_0.fName = b_1.fName))
    else
     some false
   else
    some false
  : Option Bool).bind fun t3 =>
 some t3

set_option maxHeartbeats 4000000 in
theorem ref17_Same_ok (a_0 : TRef) (b_1 : TRef) (r : Bool) (h0 : ref17_Same a_0 b_1 = some r) : PCalls Try.prog 18 [.agg (TRef.cs a_0), .agg (TRef.cs b_1)] (· = .p (eB r)) := by
 unfold ref17_Same at h0
 refine pbodyA good Try.func18 rfl rfl rfl fun w0 => ?_
 refine awp_seq (awp_reg ?_)
 refine ro rfl (ok_box rfl rfl rfl rfl rfl ?_)
 refine ro rfl (ok_box rfl rfl rfl rfl rfl ?_)
 refine ro rfl (ok_assign rfl rfl rfl rfl ?_)
 refine rn ?_
 refine awp_seq ?_
 obtain ⟨o5, h1, h0⟩ := bd_cut h0
 refine awp_joinN ⟨[(4, .p (eB o5))], []⟩ ?_ ?_
 ·intro s' hle
  (repeat (first | refine uw ?_ | refine uo rfl ?_))
  refine awp_ghost hle ?_
  refine awp_ret ?_
  (repeat (first | refine uw ?_ | refine uo rfl ?_))
  have e0 := oi h0
  subst e0
  refine reta_mk rfl ?_
  exact sr
 ·skip
  refine awp_reg ?_
  refine ro rfl (ok_fieldAddrP rfl rfl rfl rfl rfl rfl rfl rfl rfl ?_)
  refine ro rfl (ok_loadP1 rfl rfl rfl rfl rfl rfl rfl rfl ?_)
  refine ro rfl (ok_fieldAddrP rfl rfl rfl rfl rfl rfl rfl rfl rfl ?_)
  refine ro rfl (ok_loadP1 rfl rfl rfl rfl rfl rfl rfl rfl ?_)
  refine ro rfl (ok_cmp rfl rfl rfl rfl rfl rfl ?_)
  refine ro rfl (ok_move rfl rfl rfl rfl ?_)
  refine gd_D rfl rfl rfl (fun c1 => ?_) (fun c1 => ?_)
  ·replace h1 := if_t c1 h1
   refine gd_tt rfl rfl rfl (dt c1) (ok_fieldAddrP rfl rfl rfl rfl rfl rfl rfl rfl rfl ?_)
   refine gd_tt rfl rfl rfl (dt c1) (ok_loadP1 rfl rfl rfl rfl rfl rfl rfl rfl ?_)
   refine gd_tt rfl rfl rfl (dt c1) (ok_fieldAddrP rfl rfl rfl rfl rfl rfl rfl rfl rfl ?_)
   refine gd_tt rfl rfl rfl (dt c1) (ok_loadP1 rfl rfl rfl rfl rfl rfl rfl rfl ?_)
   refine gd_tt rfl rfl rfl (dt c1) (ok_cmpS rfl rfl rfl rfl rfl rfl ?_)
   refine ro rfl (ok_pick_true rfl rfl rfl rfl (dt c1) rfl ?_)
   refine ro rfl (ok_move rfl rfl rfl rfl ?_)
   refine gd_D rfl rfl rfl (fun c2 => ?_) (fun c2 => ?_)
   ·replace h1 := if_t c2 h1
    refine gd_tt rfl rfl rfl (dt c2) (ok_fieldAddrP rfl rfl rfl rfl rfl rfl rfl rfl rfl ?_)
    refine gd_tt rfl rfl rfl (dt c2) (ok_loadP1 rfl rfl rfl rfl rfl rfl rfl rfl ?_)
    refine gd_tt rfl rfl rfl (dt c2) (ok_fieldAddrP rfl rfl rfl rfl rfl rfl rfl rfl rfl ?_)
    refine gd_tt rfl rfl rfl (dt c2) (ok_loadP1 rfl rfl rfl rfl rfl rfl rfl rfl ?_)
    refine gd_tt rfl rfl rfl (dt c2) (ok_cmpS rfl rfl rfl rfl rfl rfl ?_)
    refine ro rfl (ok_pick_true rfl rfl rfl rfl (dt c2) rfl ?_)
    refine ro rfl (ok_assign rfl rfl rfl rfl ?_)
    refine rn ?_
    (repeat (first | refine uw ?_ | refine uo rfl ?_))
    have e1 := oi h1
    subst e1
    exact ghost_le (le_mk ⟨er rfl, trivial⟩ trivial)
   ·replace h1 := if_f c2 h1
    refine gd_tf rfl rfl rfl (df c2) rfl rfl ?_
    refine gd_tf rfl rfl rfl (df c2) rfl rfl ?_
    refine gd_tf rfl rfl rfl (df c2) rfl rfl ?_
    refine gd_tf rfl rfl rfl (df c2) rfl rfl ?_
    refine gd_tf rfl rfl rfl (df c2) rfl rfl ?_
    refine ro rfl (ok_pick_false rfl rfl rfl rfl (df c2) rfl ?_)
    refine ro rfl (ok_assign rfl rfl rfl rfl ?_)
    refine rn ?_
    (repeat (first | refine uw ?_ | refine uo rfl ?_))
    have e1 := oi h1
    subst e1
    exact ghost_le (le_mk ⟨er rfl, trivial⟩ trivial)
  ·replace h1 := if_f c1 h1
   refine gd_tf rfl rfl rfl (df c1) rfl rfl ?_
   refine gd_tf rfl rfl rfl (df c1) rfl rfl ?_
   refine gd_tf rfl rfl rfl (df c1) rfl rfl ?_
   refine gd_tf rfl rfl rfl (df c1) rfl rfl ?_
   refine gd_tf rfl rfl rfl (df c1) rfl rfl ?_
   refine ro rfl (ok_pick_false rfl rfl rfl rfl (df c1) rfl ?_)
   refine ro rfl (ok_move rfl rfl rfl rfl ?_)
   refine gd_tf rfl rfl rfl (rfl) rfl rfl ?_
   refine gd_tf rfl rfl rfl (rfl) rfl rfl ?_
   refine gd_tf rfl rfl rfl (rfl) rfl rfl ?_
   refine gd_tf rfl rfl rfl (rfl) rfl rfl ?_
   refine gd_tf rfl rfl rfl (rfl) rfl rfl ?_
   refine ro rfl (ok_pick_false rfl rfl rfl rfl (rfl) rfl ?_)
   refine ro rfl (ok_assign rfl rfl rfl rfl ?_)
   refine rn ?_
   (repeat (first | refine uw ?_ | refine uo rfl ?_))
   have e1 := oi h1
   subst e1
   exact ghost_le (le_mk ⟨er rfl, trivial⟩ trivial)

def law17_ReferenceTexts (n : Nat) (a_0 : TRef) (b_1 : TRef) : Option Bool :=
 ck (inR ((a_0.fType.length : Int) + (a_0.fName.length : Int))) <|
 ck (inR (((a_0.fType.length : Int) + (a_0.fName.length : Int)) + (b_1.fType.length : Int))) <|
 ck (inR ((((a_0.fType.length : Int) + (a_0.fName.length : Int)) + (b_1.fType.length : Int)) + (b_1.fName.length : Int))) <|
 if 1000 < (((a_0.fType.length : Int) + (a_0.fName.length : Int)) + (b_1.fType.length : Int)) + (b_1.fName.length : Int) then
  (law17_awake n).bind fun r5 =>
  some r5
 else
  (
    (reference_Text a_0).bind fun r7 =>
    (ref17_Text a_0).bind fun r9 =>
    if r7 = r9 then
     (reference_Same a_0 b_1).bind fun r12 =>
     (ref17_Same a_0 b_1).bind fun r14 =>
     if (r12 == r14) = true then
      (reference_Same a_0 a_0).bind fun r17 =>
      if r17 = true then
       (law17_awake n).bind fun r20 =>
       some r20
      else
       some false
     else
      some false
    else
     some false
   : Option Bool).bind fun t22 =>
  some t22

set_option maxHeartbeats 4000000 in
theorem law17_ReferenceTexts_ok (n : Nat) (a_0 : TRef) (b_1 : TRef) (r : Bool) (h0 : law17_ReferenceTexts n a_0 b_1 = some r) : PCalls Try.prog 4 [.agg (TRef.cs a_0), .agg (TRef.cs b_1)] (· = .p (eB r)) := by
 unfold law17_ReferenceTexts at h0
 refine pbodyA good Try.func4 rfl rfl rfl fun w0 => ?_
 refine awp_seq (awp_reg ?_)
 refine ro rfl (ok_box rfl rfl rfl rfl rfl ?_)
 refine ro rfl (ok_box rfl rfl rfl rfl rfl ?_)
 refine ro rfl (ok_assign rfl rfl rfl rfl ?_)
 refine rn ?_
 refine awp_seq (awp_seq (awp_reg ?_))
 refine ro rfl (ok_fieldAddrP rfl rfl rfl rfl rfl rfl rfl rfl rfl ?_)
 refine ro rfl (ok_loadP1 rfl rfl rfl rfl rfl rfl rfl rfl ?_)
 refine ro rfl (ok_lenS rfl rfl rfl rfl rfl rfl ?_)
 refine ro rfl (ok_fieldAddrP rfl rfl rfl rfl rfl rfl rfl rfl rfl ?_)
 refine ro rfl (ok_loadP1 rfl rfl rfl rfl rfl rfl rfl rfl ?_)
 refine ro rfl (ok_lenS rfl rfl rfl rfl rfl rfl ?_)
 obtain ⟨h1, h0⟩ := ck_cut h0
 refine ro rfl (ok_ar rfl rfl rfl rfl rfl rfl h1 ?_)
 refine ro rfl (ok_fieldAddrP rfl rfl rfl rfl rfl rfl rfl rfl rfl ?_)
 refine ro rfl (ok_loadP1 rfl rfl rfl rfl rfl rfl rfl rfl ?_)
 refine ro rfl (ok_lenS rfl rfl rfl rfl rfl rfl ?_)
 obtain ⟨h2, h0⟩ := ck_cut h0
 refine ro rfl (ok_ar rfl rfl rfl rfl rfl rfl h2 ?_)
 refine ro rfl (ok_fieldAddrP rfl rfl rfl rfl rfl rfl rfl rfl rfl ?_)
 refine ro rfl (ok_loadP1 rfl rfl rfl rfl rfl rfl rfl rfl ?_)
 refine ro rfl (ok_lenS rfl rfl rfl rfl rfl rfl ?_)
 obtain ⟨h3, h0⟩ := ck_cut h0
 refine ro rfl (ok_ar rfl rfl rfl rfl rfl rfl h3 ?_)
 refine ro rfl (ok_cmp rfl rfl rfl rfl rfl rfl ?_)
 refine rn ?_
 refine wp_ifD rfl (fun c4 => ?_) (fun c4 => ?_)
 ·replace h0 := if_t c4 h0
  refine awp_seq (awp_reg ?_)
  obtain ⟨r5, e6, h0⟩ := bd_cut h0
  refine ro rfl (ok_callP (law17_awake_ok _  _ e6) rfl rfl rfl rfl trivial Try.call9 rfl ?_)
  refine ro rfl (ok_assign rfl rfl rfl rfl ?_)
  refine rn ?_
  refine awp_ret ?_
  (repeat (first | refine uw ?_ | refine uo rfl ?_))
  have e0 := oi h0
  subst e0
  refine reta_mk rfl ?_
  exact sr
 ·replace h0 := if_f c4 h0
  refine awp_skip (awp_seq ?_)
  obtain ⟨o24, h1, h0⟩ := bd_cut h0
  refine awp_joinN ⟨[(4, .p (eB o24))], []⟩ ?_ ?_
  ·intro s' hle
   (repeat (first | refine uw ?_ | refine uo rfl ?_))
   refine awp_ghost hle ?_
   refine awp_ret ?_
   (repeat (first | refine uw ?_ | refine uo rfl ?_))
   have e0 := oi h0
   subst e0
   refine reta_mk rfl ?_
   exact sr
  ·skip
   obtain ⟨r7, e8, h1⟩ := bd_cut h1
   obtain ⟨r9, e10, h1⟩ := bd_cut h1
   refine awp_byD (p := r7 = r9) (fun c11 => ?_) (fun c11 => ?_)
   ·replace h1 := if_t c11 h1
    obtain ⟨r12, e13, h1⟩ := bd_cut h1
    obtain ⟨r14, e15, h1⟩ := bd_cut h1
    refine awp_byB (b := r12 == r14) (fun c16 => ?_) (fun c16 => ?_)
    ·replace h1 := if_t c16 h1
     obtain ⟨r17, e18, h1⟩ := bd_cut h1
     refine awp_byB (b := r17) (fun c19 => ?_) (fun c19 => ?_)
     ·replace h1 := if_t c19 h1
      obtain ⟨r20, e21, h1⟩ := bd_cut h1
      refine awp_drawQ [(2, .ptr 2 0), (3, .ptr 3 0)] rfl ⟨rfl, rfl, trivial⟩ rfl ?_
      refine dq_cons (.p (.agg (TRef.cs a_0))) [(2, _)] ⟨.inl rfl, trivial⟩ (fun sl hsl K hK => one_op rfl (ok_loadPA rfl rfl rfl rfl rfl (hsl _ _ rfl) rfl rfl rfl hK)) rfl rfl rfl ?_
      refine dq_cons (.p (eS r7)) [(22, _)] ⟨.inr ⟨0, rfl, rfl⟩, trivial⟩ (fun sl hsl K hK => one_op rfl (ok_callP (reference_Text_ok a_0 _ e8) rfl rfl rfl (args_cons (hsl _ _ rfl) args_nil) ⟨sr, trivial⟩ Try.call15 rfl hK)) rfl rfl rfl ?_
      refine dq_cons (.p (.agg (TRef.cs a_0))) [(2, _)] ⟨.inl rfl, trivial⟩ (fun sl hsl K hK => one_op rfl (ok_loadPA rfl rfl rfl rfl rfl (hsl _ _ rfl) rfl rfl rfl hK)) rfl rfl rfl ?_
      refine dq_cons (.p (eS r9)) [(24, _)] ⟨.inr ⟨2, rfl, rfl⟩, trivial⟩ (fun sl hsl K hK => one_op rfl (ok_callP (ref17_Text_ok a_0 _ e10) rfl rfl rfl (args_cons (hsl _ _ rfl) args_nil) ⟨sr, trivial⟩ Try.call16 rfl hK)) rfl rfl rfl ?_
      refine dq_cons (.p (eB (decide (r7 = r9)))) [(23, _), (25, _)] ⟨.inr ⟨1, rfl, rfl⟩, .inr ⟨3, rfl, rfl⟩, trivial⟩ (fun sl hsl K hK => one_op rfl (ok_cmpS rfl rfl rfl (hsl _ _ rfl) (hsl _ _ rfl) rfl hK)) rfl rfl rfl ?_
      refine dq_cons (.p (eB (decide (r7 = r9)))) [(26, _)] ⟨.inr ⟨4, rfl, rfl⟩, trivial⟩ (fun sl hsl K hK => one_op rfl (ok_move rfl rfl rfl (hsl _ _ rfl) hK)) rfl rfl rfl ?_
      refine dq_cons (.p (.agg (TRef.cs a_0))) [(2, _), (27, _)] ⟨.inl rfl, .inr ⟨5, rfl, rfl⟩, trivial⟩ (fun sl hsl K hK => one_yes (ok_loadPA rfl rfl rfl rfl rfl (hsl _ _ rfl) rfl rfl rfl hK) rfl rfl (hsl _ _ rfl) (dt c11)) rfl rfl rfl ?_
      refine dq_cons (.p (.agg (TRef.cs b_1))) [(3, _), (27, _)] ⟨.inl rfl, .inr ⟨5, rfl, rfl⟩, trivial⟩ (fun sl hsl K hK => one_yes (ok_loadPA rfl rfl rfl rfl rfl (hsl _ _ rfl) rfl rfl rfl hK) rfl rfl (hsl _ _ rfl) (dt c11)) rfl rfl rfl ?_
      refine dq_cons (.p (eB r12)) [(27, _), (28, _), (29, _)] ⟨.inr ⟨5, rfl, rfl⟩, .inr ⟨6, rfl, rfl⟩, .inr ⟨7, rfl, rfl⟩, trivial⟩ (fun sl hsl K hK => one_yes (ok_callP (reference_Same_ok a_0 b_1 _ e13) rfl rfl rfl (args_cons (hsl _ _ rfl) (args_cons (hsl _ _ rfl) args_nil)) ⟨sr, sr, trivial⟩ Try.call17 rfl hK) rfl rfl (hsl _ _ rfl) (dt c11)) rfl rfl rfl ?_
      refine dq_cons (.p (.agg (TRef.cs a_0))) [(2, _), (27, _)] ⟨.inl rfl, .inr ⟨5, rfl, rfl⟩, trivial⟩ (fun sl hsl K hK => one_yes (ok_loadPA rfl rfl rfl rfl rfl (hsl _ _ rfl) rfl rfl rfl hK) rfl rfl (hsl _ _ rfl) (dt c11)) rfl rfl rfl ?_
      refine dq_cons (.p (.agg (TRef.cs b_1))) [(3, _), (27, _)] ⟨.inl rfl, .inr ⟨5, rfl, rfl⟩, trivial⟩ (fun sl hsl K hK => one_yes (ok_loadPA rfl rfl rfl rfl rfl (hsl _ _ rfl) rfl rfl rfl hK) rfl rfl (hsl _ _ rfl) (dt c11)) rfl rfl rfl ?_
      refine dq_cons (.p (eB r14)) [(27, _), (31, _), (32, _)] ⟨.inr ⟨5, rfl, rfl⟩, .inr ⟨9, rfl, rfl⟩, .inr ⟨10, rfl, rfl⟩, trivial⟩ (fun sl hsl K hK => one_yes (ok_callP (ref17_Same_ok a_0 b_1 _ e15) rfl rfl rfl (args_cons (hsl _ _ rfl) (args_cons (hsl _ _ rfl) args_nil)) ⟨sr, sr, trivial⟩ Try.call18 rfl hK) rfl rfl (hsl _ _ rfl) (dt c11)) rfl rfl rfl ?_
      refine dq_cons (.p (eB (r12 == r14))) [(27, _), (30, _), (33, _)] ⟨.inr ⟨5, rfl, rfl⟩, .inr ⟨8, rfl, rfl⟩, .inr ⟨11, rfl, rfl⟩, trivial⟩ (fun sl hsl K hK => one_yes (ok_cmpB rfl rfl rfl rfl rfl (hsl _ _ rfl) (hsl _ _ rfl) rfl hK) rfl rfl (hsl _ _ rfl) (dt c11)) rfl rfl rfl ?_
      refine dq_cons (.p (eB (r12 == r14))) [(27, _), (34, _)] ⟨.inr ⟨5, rfl, rfl⟩, .inr ⟨12, rfl, rfl⟩, trivial⟩ (fun sl hsl K hK => one_op rfl (ok_pick_true rfl rfl rfl (hsl _ _ rfl) (dt c11) (hsl _ _ rfl) hK)) rfl rfl rfl ?_
      refine dq_cons (.p (eB (r12 == r14))) [(35, _)] ⟨.inr ⟨13, rfl, rfl⟩, trivial⟩ (fun sl hsl K hK => one_op rfl (ok_move rfl rfl rfl (hsl _ _ rfl) hK)) rfl rfl rfl ?_
      refine dq_cons (.p (.agg (TRef.cs a_0))) [(2, _), (36, _)] ⟨.inl rfl, .inr ⟨14, rfl, rfl⟩, trivial⟩ (fun sl hsl K hK => one_yes (ok_loadPA rfl rfl rfl rfl rfl (hsl _ _ rfl) rfl rfl rfl hK) rfl rfl (hsl _ _ rfl) (c16)) rfl rfl rfl ?_
      refine dq_cons (.p (.agg (TRef.cs a_0))) [(2, _), (36, _)] ⟨.inl rfl, .inr ⟨14, rfl, rfl⟩, trivial⟩ (fun sl hsl K hK => one_yes (ok_loadPA rfl rfl rfl rfl rfl (hsl _ _ rfl) rfl rfl rfl hK) rfl rfl (hsl _ _ rfl) (c16)) rfl rfl rfl ?_
      refine dq_cons (.p (eB r17)) [(36, _), (37, _), (38, _)] ⟨.inr ⟨14, rfl, rfl⟩, .inr ⟨15, rfl, rfl⟩, .inr ⟨16, rfl, rfl⟩, trivial⟩ (fun sl hsl K hK => one_yes (ok_callP (reference_Same_ok a_0 a_0 _ e18) rfl rfl rfl (args_cons (hsl _ _ rfl) (args_cons (hsl _ _ rfl) args_nil)) ⟨sr, sr, trivial⟩ Try.call17 rfl hK) rfl rfl (hsl _ _ rfl) (c16)) rfl rfl rfl ?_
      refine dq_cons (.p (eB r17)) [(36, _), (39, _)] ⟨.inr ⟨14, rfl, rfl⟩, .inr ⟨17, rfl, rfl⟩, trivial⟩ (fun sl hsl K hK => one_op rfl (ok_pick_true rfl rfl rfl (hsl _ _ rfl) (c16) (hsl _ _ rfl) hK)) rfl rfl rfl ?_
      refine dq_cons (.p (eB r17)) [(40, _)] ⟨.inr ⟨18, rfl, rfl⟩, trivial⟩ (fun sl hsl K hK => one_op rfl (ok_move rfl rfl rfl (hsl _ _ rfl) hK)) rfl rfl rfl ?_
      refine dq_cons (.p (eB r20)) [(41, _)] ⟨.inr ⟨19, rfl, rfl⟩, trivial⟩ (fun sl hsl K hK => one_yes (ok_callP (law17_awake_ok _  _ e21) rfl rfl rfl args_nil trivial Try.call9 rfl hK) rfl rfl (hsl _ _ rfl) (c19)) rfl rfl rfl ?_
      refine dq_cons (.p (eB r20)) [(41, _), (42, _)] ⟨.inr ⟨19, rfl, rfl⟩, .inr ⟨20, rfl, rfl⟩, trivial⟩ (fun sl hsl K hK => one_op rfl (ok_pick_true rfl rfl rfl (hsl _ _ rfl) (c19) (hsl _ _ rfl) hK)) rfl rfl rfl ?_
      refine dq_cons (.p (eB r20)) [(43, _)] ⟨.inr ⟨21, rfl, rfl⟩, trivial⟩ (fun sl hsl K hK => one_op rfl (ok_assign rfl rfl rfl (hsl _ _ rfl) hK)) rfl rfl rfl ?_
      refine dq_nil ?_
      (repeat (first | refine uw ?_ | refine uo rfl ?_))
      have e1 := oi h1
      subst e1
      exact ghost_le (le_mk ⟨er rfl, trivial⟩ trivial)
     ·replace h1 := if_bf c19 h1
      refine awp_drawQ [(2, .ptr 2 0), (3, .ptr 3 0)] rfl ⟨rfl, rfl, trivial⟩ rfl ?_
      refine dq_cons (.p (.agg (TRef.cs a_0))) [(2, _)] ⟨.inl rfl, trivial⟩ (fun sl hsl K hK => one_op rfl (ok_loadPA rfl rfl rfl rfl rfl (hsl _ _ rfl) rfl rfl rfl hK)) rfl rfl rfl ?_
      refine dq_cons (.p (eS r7)) [(22, _)] ⟨.inr ⟨0, rfl, rfl⟩, trivial⟩ (fun sl hsl K hK => one_op rfl (ok_callP (reference_Text_ok a_0 _ e8) rfl rfl rfl (args_cons (hsl _ _ rfl) args_nil) ⟨sr, trivial⟩ Try.call15 rfl hK)) rfl rfl rfl ?_
      refine dq_cons (.p (.agg (TRef.cs a_0))) [(2, _)] ⟨.inl rfl, trivial⟩ (fun sl hsl K hK => one_op rfl (ok_loadPA rfl rfl rfl rfl rfl (hsl _ _ rfl) rfl rfl rfl hK)) rfl rfl rfl ?_
      refine dq_cons (.p (eS r9)) [(24, _)] ⟨.inr ⟨2, rfl, rfl⟩, trivial⟩ (fun sl hsl K hK => one_op rfl (ok_callP (ref17_Text_ok a_0 _ e10) rfl rfl rfl (args_cons (hsl _ _ rfl) args_nil) ⟨sr, trivial⟩ Try.call16 rfl hK)) rfl rfl rfl ?_
      refine dq_cons (.p (eB (decide (r7 = r9)))) [(23, _), (25, _)] ⟨.inr ⟨1, rfl, rfl⟩, .inr ⟨3, rfl, rfl⟩, trivial⟩ (fun sl hsl K hK => one_op rfl (ok_cmpS rfl rfl rfl (hsl _ _ rfl) (hsl _ _ rfl) rfl hK)) rfl rfl rfl ?_
      refine dq_cons (.p (eB (decide (r7 = r9)))) [(26, _)] ⟨.inr ⟨4, rfl, rfl⟩, trivial⟩ (fun sl hsl K hK => one_op rfl (ok_move rfl rfl rfl (hsl _ _ rfl) hK)) rfl rfl rfl ?_
      refine dq_cons (.p (.agg (TRef.cs a_0))) [(2, _), (27, _)] ⟨.inl rfl, .inr ⟨5, rfl, rfl⟩, trivial⟩ (fun sl hsl K hK => one_yes (ok_loadPA rfl rfl rfl rfl rfl (hsl _ _ rfl) rfl rfl rfl hK) rfl rfl (hsl _ _ rfl) (dt c11)) rfl rfl rfl ?_
      refine dq_cons (.p (.agg (TRef.cs b_1))) [(3, _), (27, _)] ⟨.inl rfl, .inr ⟨5, rfl, rfl⟩, trivial⟩ (fun sl hsl K hK => one_yes (ok_loadPA rfl rfl rfl rfl rfl (hsl _ _ rfl) rfl rfl rfl hK) rfl rfl (hsl _ _ rfl) (dt c11)) rfl rfl rfl ?_
      refine dq_cons (.p (eB r12)) [(27, _), (28, _), (29, _)] ⟨.inr ⟨5, rfl, rfl⟩, .inr ⟨6, rfl, rfl⟩, .inr ⟨7, rfl, rfl⟩, trivial⟩ (fun sl hsl K hK => one_yes (ok_callP (reference_Same_ok a_0 b_1 _ e13) rfl rfl rfl (args_cons (hsl _ _ rfl) (args_cons (hsl _ _ rfl) args_nil)) ⟨sr, sr, trivial⟩ Try.call17 rfl hK) rfl rfl (hsl _ _ rfl) (dt c11)) rfl rfl rfl ?_
      refine dq_cons (.p (.agg (TRef.cs a_0))) [(2, _), (27, _)] ⟨.inl rfl, .inr ⟨5, rfl, rfl⟩, trivial⟩ (fun sl hsl K hK => one_yes (ok_loadPA rfl rfl rfl rfl rfl (hsl _ _ rfl) rfl rfl rfl hK) rfl rfl (hsl _ _ rfl) (dt c11)) rfl rfl rfl ?_
      refine dq_cons (.p (.agg (TRef.cs b_1))) [(3, _), (27, _)] ⟨.inl rfl, .inr ⟨5, rfl, rfl⟩, trivial⟩ (fun sl hsl K hK => one_yes (ok_loadPA rfl rfl rfl rfl rfl (hsl _ _ rfl) rfl rfl rfl hK) rfl rfl (hsl _ _ rfl) (dt c11)) rfl rfl rfl ?_
      refine dq_cons (.p (eB r14)) [(27, _), (31, _), (32, _)] ⟨.inr ⟨5, rfl, rfl⟩, .inr ⟨9, rfl, rfl⟩, .inr ⟨10, rfl, rfl⟩, trivial⟩ (fun sl hsl K hK => one_yes (ok_callP (ref17_Same_ok a_0 b_1 _ e15) rfl rfl rfl (args_cons (hsl _ _ rfl) (args_cons (hsl _ _ rfl) args_nil)) ⟨sr, sr, trivial⟩ Try.call18 rfl hK) rfl rfl (hsl _ _ rfl) (dt c11)) rfl rfl rfl ?_
      refine dq_cons (.p (eB (r12 == r14))) [(27, _), (30, _), (33, _)] ⟨.inr ⟨5, rfl, rfl⟩, .inr ⟨8, rfl, rfl⟩, .inr ⟨11, rfl, rfl⟩, trivial⟩ (fun sl hsl K hK => one_yes (ok_cmpB rfl rfl rfl rfl rfl (hsl _ _ rfl) (hsl _ _ rfl) rfl hK) rfl rfl (hsl _ _ rfl) (dt c11)) rfl rfl rfl ?_
      refine dq_cons (.p (eB (r12 == r14))) [(27, _), (34, _)] ⟨.inr ⟨5, rfl, rfl⟩, .inr ⟨12, rfl, rfl⟩, trivial⟩ (fun sl hsl K hK => one_op rfl (ok_pick_true rfl rfl rfl (hsl _ _ rfl) (dt c11) (hsl _ _ rfl) hK)) rfl rfl rfl ?_
      refine dq_cons (.p (eB (r12 == r14))) [(35, _)] ⟨.inr ⟨13, rfl, rfl⟩, trivial⟩ (fun sl hsl K hK => one_op rfl (ok_move rfl rfl rfl (hsl _ _ rfl) hK)) rfl rfl rfl ?_
      refine dq_cons (.p (.agg (TRef.cs a_0))) [(2, _), (36, _)] ⟨.inl rfl, .inr ⟨14, rfl, rfl⟩, trivial⟩ (fun sl hsl K hK => one_yes (ok_loadPA rfl rfl rfl rfl rfl (hsl _ _ rfl) rfl rfl rfl hK) rfl rfl (hsl _ _ rfl) (c16)) rfl rfl rfl ?_
      refine dq_cons (.p (.agg (TRef.cs a_0))) [(2, _), (36, _)] ⟨.inl rfl, .inr ⟨14, rfl, rfl⟩, trivial⟩ (fun sl hsl K hK => one_yes (ok_loadPA rfl rfl rfl rfl rfl (hsl _ _ rfl) rfl rfl rfl hK) rfl rfl (hsl _ _ rfl) (c16)) rfl rfl rfl ?_
      refine dq_cons (.p (eB r17)) [(36, _), (37, _), (38, _)] ⟨.inr ⟨14, rfl, rfl⟩, .inr ⟨15, rfl, rfl⟩, .inr ⟨16, rfl, rfl⟩, trivial⟩ (fun sl hsl K hK => one_yes (ok_callP (reference_Same_ok a_0 a_0 _ e18) rfl rfl rfl (args_cons (hsl _ _ rfl) (args_cons (hsl _ _ rfl) args_nil)) ⟨sr, sr, trivial⟩ Try.call17 rfl hK) rfl rfl (hsl _ _ rfl) (c16)) rfl rfl rfl ?_
      refine dq_cons (.p (eB r17)) [(36, _), (39, _)] ⟨.inr ⟨14, rfl, rfl⟩, .inr ⟨17, rfl, rfl⟩, trivial⟩ (fun sl hsl K hK => one_op rfl (ok_pick_true rfl rfl rfl (hsl _ _ rfl) (c16) (hsl _ _ rfl) hK)) rfl rfl rfl ?_
      refine dq_cons (.p (eB r17)) [(40, _)] ⟨.inr ⟨18, rfl, rfl⟩, trivial⟩ (fun sl hsl K hK => one_op rfl (ok_move rfl rfl rfl (hsl _ _ rfl) hK)) rfl rfl rfl ?_
      refine dq_cons (.p (.val Go.undef)) [(41, _)] ⟨.inr ⟨19, rfl, rfl⟩, trivial⟩ (fun sl hsl K hK => one_no rfl rfl (hsl _ _ rfl) (c19) rfl rfl hK) rfl rfl rfl ?_
      refine dq_cons (.p (eB false)) [(41, _), (42, _)] ⟨.inr ⟨19, rfl, rfl⟩, .inr ⟨20, rfl, rfl⟩, trivial⟩ (fun sl hsl K hK => one_op rfl (ok_pick_false rfl rfl rfl (hsl _ _ rfl) (c19) rfl hK)) rfl rfl rfl ?_
      refine dq_cons (.p (eB false)) [(43, _)] ⟨.inr ⟨21, rfl, rfl⟩, trivial⟩ (fun sl hsl K hK => one_op rfl (ok_assign rfl rfl rfl (hsl _ _ rfl) hK)) rfl rfl rfl ?_
      refine dq_nil ?_
      (repeat (first | refine uw ?_ | refine uo rfl ?_))
      have e1 := oi h1
      subst e1
      exact ghost_le (le_mk ⟨er rfl, trivial⟩ trivial)
    ·replace h1 := if_bf c16 h1
     refine awp_drawQ [(2, .ptr 2 0), (3, .ptr 3 0)] rfl ⟨rfl, rfl, trivial⟩ rfl ?_
     refine dq_cons (.p (.agg (TRef.cs a_0))) [(2, _)] ⟨.inl rfl, trivial⟩ (fun sl hsl K hK => one_op rfl (ok_loadPA rfl rfl rfl rfl rfl (hsl _ _ rfl) rfl rfl rfl hK)) rfl rfl rfl ?_
     refine dq_cons (.p (eS r7)) [(22, _)] ⟨.inr ⟨0, rfl, rfl⟩, trivial⟩ (fun sl hsl K hK => one_op rfl (ok_callP (reference_Text_ok a_0 _ e8) rfl rfl rfl (args_cons (hsl _ _ rfl) args_nil) ⟨sr, trivial⟩ Try.call15 rfl hK)) rfl rfl rfl ?_
     refine dq_cons (.p (.agg (TRef.cs a_0))) [(2, _)] ⟨.inl rfl, trivial⟩ (fun sl hsl K hK => one_op rfl (ok_loadPA rfl rfl rfl rfl rfl (hsl _ _ rfl) rfl rfl rfl hK)) rfl rfl rfl ?_
     refine dq_cons (.p (eS r9)) [(24, _)] ⟨.inr ⟨2, rfl, rfl⟩, trivial⟩ (fun sl hsl K hK => one_op rfl (ok_callP (ref17_Text_ok a_0 _ e10) rfl rfl rfl (args_cons (hsl _ _ rfl) args_nil) ⟨sr, trivial⟩ Try.call16 rfl hK)) rfl rfl rfl ?_
     refine dq_cons (.p (eB (decide (r7 = r9)))) [(23, _), (25, _)] ⟨.inr ⟨1, rfl, rfl⟩, .inr ⟨3, rfl, rfl⟩, trivial⟩ (fun sl hsl K hK => one_op rfl (ok_cmpS rfl rfl rfl (hsl _ _ rfl) (hsl _ _ rfl) rfl hK)) rfl rfl rfl ?_
     refine dq_cons (.p (eB (decide (r7 = r9)))) [(26, _)] ⟨.inr ⟨4, rfl, rfl⟩, trivial⟩ (fun sl hsl K hK => one_op rfl (ok_move rfl rfl rfl (hsl _ _ rfl) hK)) rfl rfl rfl ?_
     refine dq_cons (.p (.agg (TRef.cs a_0))) [(2, _), (27, _)] ⟨.inl rfl, .inr ⟨5, rfl, rfl⟩, trivial⟩ (fun sl hsl K hK => one_yes (ok_loadPA rfl rfl rfl rfl rfl (hsl _ _ rfl) rfl rfl rfl hK) rfl rfl (hsl _ _ rfl) (dt c11)) rfl rfl rfl ?_
     refine dq_cons (.p (.agg (TRef.cs b_1))) [(3, _), (27, _)] ⟨.inl rfl, .inr ⟨5, rfl, rfl⟩, trivial⟩ (fun sl hsl K hK => one_yes (ok_loadPA rfl rfl rfl rfl rfl (hsl _ _ rfl) rfl rfl rfl hK) rfl rfl (hsl _ _ rfl) (dt c11)) rfl rfl rfl ?_
     refine dq_cons (.p (eB r12)) [(27, _), (28, _), (29, _)] ⟨.inr ⟨5, rfl, rfl⟩, .inr ⟨6, rfl, rfl⟩, .inr ⟨7, rfl, rfl⟩, trivial⟩ (fun sl hsl K hK => one_yes (ok_callP (reference_Same_ok a_0 b_1 _ e13) rfl rfl rfl (args_cons (hsl _ _ rfl) (args_cons (hsl _ _ rfl) args_nil)) ⟨sr, sr, trivial⟩ Try.call17 rfl hK) rfl rfl (hsl _ _ rfl) (dt c11)) rfl rfl rfl ?_
     refine dq_cons (.p (.agg (TRef.cs a_0))) [(2, _), (27, _)] ⟨.inl rfl, .inr ⟨5, rfl, rfl⟩, trivial⟩ (fun sl hsl K hK => one_yes (ok_loadPA rfl rfl rfl rfl rfl (hsl _ _ rfl) rfl rfl rfl hK) rfl rfl (hsl _ _ rfl) (dt c11)) rfl rfl rfl ?_
     refine dq_cons (.p (.agg (TRef.cs b_1))) [(3, _), (27, _)] ⟨.inl rfl, .inr ⟨5, rfl, rfl⟩, trivial⟩ (fun sl hsl K hK => one_yes (ok_loadPA rfl rfl rfl rfl rfl (hsl _ _ rfl) rfl rfl rfl hK) rfl rfl (hsl _ _ rfl) (dt c11)) rfl rfl rfl ?_
     refine dq_cons (.p (eB r14)) [(27, _), (31, _), (32, _)] ⟨.inr ⟨5, rfl, rfl⟩, .inr ⟨9, rfl, rfl⟩, .inr ⟨10, rfl, rfl⟩, trivial⟩ (fun sl hsl K hK => one_yes (ok_callP (ref17_Same_ok a_0 b_1 _ e15) rfl rfl rfl (args_cons (hsl _ _ rfl) (args_cons (hsl _ _ rfl) args_nil)) ⟨sr, sr, trivial⟩ Try.call18 rfl hK) rfl rfl (hsl _ _ rfl) (dt c11)) rfl rfl rfl ?_
     refine dq_cons (.p (eB (r12 == r14))) [(27, _), (30, _), (33, _)] ⟨.inr ⟨5, rfl, rfl⟩, .inr ⟨8, rfl, rfl⟩, .inr ⟨11, rfl, rfl⟩, trivial⟩ (fun sl hsl K hK => one_yes (ok_cmpB rfl rfl rfl rfl rfl (hsl _ _ rfl) (hsl _ _ rfl) rfl hK) rfl rfl (hsl _ _ rfl) (dt c11)) rfl rfl rfl ?_
     refine dq_cons (.p (eB (r12 == r14))) [(27, _), (34, _)] ⟨.inr ⟨5, rfl, rfl⟩, .inr ⟨12, rfl, rfl⟩, trivial⟩ (fun sl hsl K hK => one_op rfl (ok_pick_true rfl rfl rfl (hsl _ _ rfl) (dt c11) (hsl _ _ rfl) hK)) rfl rfl rfl ?_
     refine dq_cons (.p (eB (r12 == r14))) [(35, _)] ⟨.inr ⟨13, rfl, rfl⟩, trivial⟩ (fun sl hsl K hK => one_op rfl (ok_move rfl rfl rfl (hsl _ _ rfl) hK)) rfl rfl rfl ?_
     refine dq_cons (.p (.val Go.undef)) [(2, _), (36, _)] ⟨.inl rfl, .inr ⟨14, rfl, rfl⟩, trivial⟩ (fun sl hsl K hK => one_no rfl rfl (hsl _ _ rfl) (c16) rfl rfl hK) rfl rfl rfl ?_
     refine dq_cons (.p (.val Go.undef)) [(2, _), (36, _)] ⟨.inl rfl, .inr ⟨14, rfl, rfl⟩, trivial⟩ (fun sl hsl K hK => one_no rfl rfl (hsl _ _ rfl) (c16) rfl rfl hK) rfl rfl rfl ?_
     refine dq_cons (.p (.val Go.undef)) [(36, _), (37, _), (38, _)] ⟨.inr ⟨14, rfl, rfl⟩, .inr ⟨15, rfl, rfl⟩, .inr ⟨16, rfl, rfl⟩, trivial⟩ (fun sl hsl K hK => one_no rfl rfl (hsl _ _ rfl) (c16) rfl rfl hK) rfl rfl rfl ?_
     refine dq_cons (.p (eB false)) [(36, _), (39, _)] ⟨.inr ⟨14, rfl, rfl⟩, .inr ⟨17, rfl, rfl⟩, trivial⟩ (fun sl hsl K hK => one_op rfl (ok_pick_false rfl rfl rfl (hsl _ _ rfl) (c16) rfl hK)) rfl rfl rfl ?_
     refine dq_cons (.p (eB false)) [(40, _)] ⟨.inr ⟨18, rfl, rfl⟩, trivial⟩ (fun sl hsl K hK => one_op rfl (ok_move rfl rfl rfl (hsl _ _ rfl) hK)) rfl rfl rfl ?_
     refine dq_cons (.p (.val Go.undef)) [(41, _)] ⟨.inr ⟨19, rfl, rfl⟩, trivial⟩ (fun sl hsl K hK => one_no rfl rfl (hsl _ _ rfl) (rfl) rfl rfl hK) rfl rfl rfl ?_
     refine dq_cons (.p (eB false)) [(41, _), (42, _)] ⟨.inr ⟨19, rfl, rfl⟩, .inr ⟨20, rfl, rfl⟩, trivial⟩ (fun sl hsl K hK => one_op rfl (ok_pick_false rfl rfl rfl (hsl _ _ rfl) (rfl) rfl hK)) rfl rfl rfl ?_
     refine dq_cons (.p (eB false)) [(43, _)] ⟨.inr ⟨21, rfl, rfl⟩, trivial⟩ (fun sl hsl K hK => one_op rfl (ok_assign rfl rfl rfl (hsl _ _ rfl) hK)) rfl rfl rfl ?_
     refine dq_nil ?_
     (repeat (first | refine uw ?_ | refine uo rfl ?_))
     have e1 := oi h1
     subst e1
     exact ghost_le (le_mk ⟨er rfl, trivial⟩ trivial)
   ·replace h1 := if_f c11 h1
    refine awp_drawQ [(2, .ptr 2 0), (3, .ptr 3 0)] rfl ⟨rfl, rfl, trivial⟩ rfl ?_
    refine dq_cons (.p (.agg (TRef.cs a_0))) [(2, _)] ⟨.inl rfl, trivial⟩ (fun sl hsl K hK => one_op rfl (ok_loadPA rfl rfl rfl rfl rfl (hsl _ _ rfl) rfl rfl rfl hK)) rfl rfl rfl ?_
    refine dq_cons (.p (eS r7)) [(22, _)] ⟨.inr ⟨0, rfl, rfl⟩, trivial⟩ (fun sl hsl K hK => one_op rfl (ok_callP (reference_Text_ok a_0 _ e8) rfl rfl rfl (args_cons (hsl _ _ rfl) args_nil) ⟨sr, trivial⟩ Try.call15 rfl hK)) rfl rfl rfl ?_
    refine dq_cons (.p (.agg (TRef.cs a_0))) [(2, _)] ⟨.inl rfl, trivial⟩ (fun sl hsl K hK => one_op rfl (ok_loadPA rfl rfl rfl rfl rfl (hsl _ _ rfl) rfl rfl rfl hK)) rfl rfl rfl ?_
    refine dq_cons (.p (eS r9)) [(24, _)] ⟨.inr ⟨2, rfl, rfl⟩, trivial⟩ (fun sl hsl K hK => one_op rfl (ok_callP (ref17_Text_ok a_0 _ e10) rfl rfl rfl (args_cons (hsl _ _ rfl) args_nil) ⟨sr, trivial⟩ Try.call16 rfl hK)) rfl rfl rfl ?_
    refine dq_cons (.p (eB (decide (r7 = r9)))) [(23, _), (25, _)] ⟨.inr ⟨1, rfl, rfl⟩, .inr ⟨3, rfl, rfl⟩, trivial⟩ (fun sl hsl K hK => one_op rfl (ok_cmpS rfl rfl rfl (hsl _ _ rfl) (hsl _ _ rfl) rfl hK)) rfl rfl rfl ?_
    refine dq_cons (.p (eB (decide (r7 = r9)))) [(26, _)] ⟨.inr ⟨4, rfl, rfl⟩, trivial⟩ (fun sl hsl K hK => one_op rfl (ok_move rfl rfl rfl (hsl _ _ rfl) hK)) rfl rfl rfl ?_
    refine dq_cons (.p (.val Go.undef)) [(2, _), (27, _)] ⟨.inl rfl, .inr ⟨5, rfl, rfl⟩, trivial⟩ (fun sl hsl K hK => one_no rfl rfl (hsl _ _ rfl) (df c11) rfl rfl hK) rfl rfl rfl ?_
    refine dq_cons (.p (.val Go.undef)) [(3, _), (27, _)] ⟨.inl rfl, .inr ⟨5, rfl, rfl⟩, trivial⟩ (fun sl hsl K hK => one_no rfl rfl (hsl _ _ rfl) (df c11) rfl rfl hK) rfl rfl rfl ?_
    refine dq_cons (.p (.val Go.undef)) [(27, _), (28, _), (29, _)] ⟨.inr ⟨5, rfl, rfl⟩, .inr ⟨6, rfl, rfl⟩, .inr ⟨7, rfl, rfl⟩, trivial⟩ (fun sl hsl K hK => one_no rfl rfl (hsl _ _ rfl) (df c11) rfl rfl hK) rfl rfl rfl ?_
    refine dq_cons (.p (.val Go.undef)) [(2, _), (27, _)] ⟨.inl rfl, .inr ⟨5, rfl, rfl⟩, trivial⟩ (fun sl hsl K hK => one_no rfl rfl (hsl _ _ rfl) (df c11) rfl rfl hK) rfl rfl rfl ?_
    refine dq_cons (.p (.val Go.undef)) [(3, _), (27, _)] ⟨.inl rfl, .inr ⟨5, rfl, rfl⟩, trivial⟩ (fun sl hsl K hK => one_no rfl rfl (hsl _ _ rfl) (df c11) rfl rfl hK) rfl rfl rfl ?_
    refine dq_cons (.p (.val Go.undef)) [(27, _), (31, _), (32, _)] ⟨.inr ⟨5, rfl, rfl⟩, .inr ⟨9, rfl, rfl⟩, .inr ⟨10, rfl, rfl⟩, trivial⟩ (fun sl hsl K hK => one_no rfl rfl (hsl _ _ rfl) (df c11) rfl rfl hK) rfl rfl rfl ?_
    refine dq_cons (.p (.val Go.undef)) [(27, _), (30, _), (33, _)] ⟨.inr ⟨5, rfl, rfl⟩, .inr ⟨8, rfl, rfl⟩, .inr ⟨11, rfl, rfl⟩, trivial⟩ (fun sl hsl K hK => one_no rfl rfl (hsl _ _ rfl) (df c11) rfl rfl hK) rfl rfl rfl ?_
    refine dq_cons (.p (eB false)) [(27, _), (34, _)] ⟨.inr ⟨5, rfl, rfl⟩, .inr ⟨12, rfl, rfl⟩, trivial⟩ (fun sl hsl K hK => one_op rfl (ok_pick_false rfl rfl rfl (hsl _ _ rfl) (df c11) rfl hK)) rfl rfl rfl ?_
    refine dq_cons (.p (eB false)) [(35, _)] ⟨.inr ⟨13, rfl, rfl⟩, trivial⟩ (fun sl hsl K hK => one_op rfl (ok_move rfl rfl rfl (hsl _ _ rfl) hK)) rfl rfl rfl ?_
    refine dq_cons (.p (.val Go.undef)) [(2, _), (36, _)] ⟨.inl rfl, .inr ⟨14, rfl, rfl⟩, trivial⟩ (fun sl hsl K hK => one_no rfl rfl (hsl _ _ rfl) (rfl) rfl rfl hK) rfl rfl rfl ?_
    refine dq_cons (.p (.val Go.undef)) [(2, _), (36, _)] ⟨.inl rfl, .inr ⟨14, rfl, rfl⟩, trivial⟩ (fun sl hsl K hK => one_no rfl rfl (hsl _ _ rfl) (rfl) rfl rfl hK) rfl rfl rfl ?_
    refine dq_cons (.p (.val Go.undef)) [(36, _), (37, _), (38, _)] ⟨.inr ⟨14, rfl, rfl⟩, .inr ⟨15, rfl, rfl⟩, .inr ⟨16, rfl, rfl⟩, trivial⟩ (fun sl hsl K hK => one_no rfl rfl (hsl _ _ rfl) (rfl) rfl rfl hK) rfl rfl rfl ?_
    refine dq_cons (.p (eB false)) [(36, _), (39, _)] ⟨.inr ⟨14, rfl, rfl⟩, .inr ⟨17, rfl, rfl⟩, trivial⟩ (fun sl hsl K hK => one_op rfl (ok_pick_false rfl rfl rfl (hsl _ _ rfl) (rfl) rfl hK)) rfl rfl rfl ?_
    refine dq_cons (.p (eB false)) [(40, _)] ⟨.inr ⟨18, rfl, rfl⟩, trivial⟩ (fun sl hsl K hK => one_op rfl (ok_move rfl rfl rfl (hsl _ _ rfl) hK)) rfl rfl rfl ?_
    refine dq_cons (.p (.val Go.undef)) [(41, _)] ⟨.inr ⟨19, rfl, rfl⟩, trivial⟩ (fun sl hsl K hK => one_no rfl rfl (hsl _ _ rfl) (rfl) rfl rfl hK) rfl rfl rfl ?_
    refine dq_cons (.p (eB false)) [(41, _), (42, _)] ⟨.inr ⟨19, rfl, rfl⟩, .inr ⟨20, rfl, rfl⟩, trivial⟩ (fun sl hsl K hK => one_op rfl (ok_pick_false rfl rfl rfl (hsl _ _ rfl) (rfl) rfl hK)) rfl rfl rfl ?_
    refine dq_cons (.p (eB false)) [(43, _)] ⟨.inr ⟨21, rfl, rfl⟩, trivial⟩ (fun sl hsl K hK => one_op rfl (ok_assign rfl rfl rfl (hsl _ _ rfl) hK)) rfl rfl rfl ?_
    refine dq_nil ?_
    (repeat (first | refine uw ?_ | refine uo rfl ?_))
    have e1 := oi h1
    subst e1
    exact ghost_le (le_mk ⟨er rfl, trivial⟩ trivial)

end Go.Ab.R17
