/- Chapter 06. -/
import Derived.Test.YtijgdpmadidpaaaGreatDoorR06f
set_option linter.unusedVariables false
set_option linter.unusedSimpArgs false
set_option linter.unnecessarySimpa false
namespace Go.Ab.R06
open Go.Proofs Go.Ab Go.Ab.RB
attribute [local irreducible] awp rwpL OpOk PCalls OCalls AV.sub

def ref02_cont (s_0 : Bytes) (i_1 : Int) (lo_2 : Int) (hi_3 : Int) : Option Bool :=
 (
   if i_1 < (s_0.length : Int) then
    ck ((0 : Int) ≤ i_1 ∧ i_1 < (s_0.length : Int)) <|
    if lo_2 ≤ byt s_0 i_1 then
     ck ((0 : Int) ≤ i_1 ∧ i_1 < (s_0.length : Int)) <|
     some (decide (byt s_0 i_1 ≤ hi_3))
    else
     some false
   else
    some false
  : Option Bool).bind fun t5 =>
 some t5

set_option maxHeartbeats 4000000 in
theorem ref02_cont_ok (s_0 : Bytes) (i_1 : Int) (lo_2 : Int) (hi_3 : Int) (r : Bool) (h0 : ref02_cont s_0 i_1 lo_2 hi_3 = some r) : PCalls Tryz.prog 108 [eS s_0, eI i_1, eK .u8 lo_2, eK .u8 hi_3] (· = .p (eB r)) := by
 unfold ref02_cont at h0
 refine pbodyA good Tryz.func108 rfl rfl rfl fun w0 => ?_
 refine awp_seq (awp_reg ?_)
 refine ro rfl (ok_assign rfl rfl rfl rfl ?_)
 refine rn ?_
 refine awp_seq ?_
 obtain ⟨o7, h1, h0⟩ := bd_cut h0
 refine awp_joinN ⟨[(8, .p (eB o7))], []⟩ ?_ ?_
 ·intro s' hle
  (repeat (first | refine uw ?_ | refine uo rfl ?_))
  refine awp_ghost hle ?_
  refine awp_ret ?_
  (repeat (first | refine uw ?_ | refine uo rfl ?_))
  have e0 := oi h0
  subst e0
  refine reta_mk rfl ?_
  exact sr
 ·skip
  refine awp_reg ?_
  refine ro rfl (ok_move rfl rfl rfl rfl ?_)
  refine ro rfl (ok_move rfl rfl rfl rfl ?_)
  refine ro rfl (ok_lenS rfl rfl rfl rfl rfl rfl ?_)
  refine ro rfl (ok_cmp rfl rfl rfl rfl rfl rfl ?_)
  refine ro rfl (ok_move rfl rfl rfl rfl ?_)
  refine gd_D rfl rfl rfl (fun c1 => ?_) (fun c1 => ?_)
  ·replace h1 := if_t c1 h1
   refine gd_tt rfl rfl rfl (dt c1) (ok_move rfl rfl rfl rfl ?_)
   refine gd_tt rfl rfl rfl (dt c1) (ok_move rfl rfl rfl rfl ?_)
   obtain ⟨hk2, h1⟩ := ck_cut h1
   refine gd_tt rfl rfl rfl (dt c1) (op_indexS rfl rfl rfl rfl rfl rfl rfl hk2 ?_)
   refine gd_tt rfl rfl rfl (dt c1) (ok_move rfl rfl rfl rfl ?_)
   refine gd_tt rfl rfl rfl (dt c1) (ok_cmp rfl rfl rfl rfl rfl rfl ?_)
   refine ro rfl (ok_pick_true rfl rfl rfl rfl (dt c1) rfl ?_)
   refine ro rfl (ok_move rfl rfl rfl rfl ?_)
   refine gd_D rfl rfl rfl (fun c3 => ?_) (fun c3 => ?_)
   ·replace h1 := if_t c3 h1
    refine gd_tt rfl rfl rfl (dt c3) (ok_move rfl rfl rfl rfl ?_)
    refine gd_tt rfl rfl rfl (dt c3) (ok_move rfl rfl rfl rfl ?_)
    obtain ⟨hk4, h1⟩ := ck_cut h1
    refine gd_tt rfl rfl rfl (dt c3) (op_indexS rfl rfl rfl rfl rfl rfl rfl hk4 ?_)
    refine gd_tt rfl rfl rfl (dt c3) (ok_move rfl rfl rfl rfl ?_)
    refine gd_tt rfl rfl rfl (dt c3) (ok_cmp rfl rfl rfl rfl rfl rfl ?_)
    refine ro rfl (ok_pick_true rfl rfl rfl rfl (dt c3) rfl ?_)
    refine ro rfl (ok_assign rfl rfl rfl rfl ?_)
    refine rn ?_
    (repeat (first | refine uw ?_ | refine uo rfl ?_))
    have e1 := oi h1
    subst e1
    exact ghost_le (le_mk ⟨er rfl, trivial⟩ trivial)
   ·replace h1 := if_f c3 h1
    refine gd_tf rfl rfl rfl (df c3) rfl rfl ?_
    refine gd_tf rfl rfl rfl (df c3) rfl rfl ?_
    refine gd_tf rfl rfl rfl (df c3) rfl rfl ?_
    refine gd_tf rfl rfl rfl (df c3) rfl rfl ?_
    refine gd_tf rfl rfl rfl (df c3) rfl rfl ?_
    refine ro rfl (ok_pick_false rfl rfl rfl rfl (df c3) rfl ?_)
    refine ro rfl (ok_assign rfl rfl rfl rfl ?_)
    refine rn ?_
    (repeat (first | refine uw ?_ | refine uo rfl ?_))
    have e1 := oi h1
    subst e1
    exact ghost_le (le_mk ⟨er rfl, trivial⟩ trivial)
  ·replace h1 := if_f c1 h1
   refine gd_tf rfl rfl rfl (df c1) rfl rfl ?_
   refine gd_tf rfl rfl rfl (df c1) rfl rfl ?_
   refine gd_tf rfl rfl rfl (df c1) rfl rfl ?_
   refine gd_tf rfl rfl rfl (df c1) rfl rfl ?_
   refine gd_tf rfl rfl rfl (df c1) rfl rfl ?_
   refine ro rfl (ok_pick_false rfl rfl rfl rfl (df c1) rfl ?_)
   refine ro rfl (ok_move rfl rfl rfl rfl ?_)
   refine gd_tf rfl rfl rfl (rfl) rfl rfl ?_
   refine gd_tf rfl rfl rfl (rfl) rfl rfl ?_
   refine gd_tf rfl rfl rfl (rfl) rfl rfl ?_
   refine gd_tf rfl rfl rfl (rfl) rfl rfl ?_
   refine gd_tf rfl rfl rfl (rfl) rfl rfl ?_
   refine ro rfl (ok_pick_false rfl rfl rfl rfl (rfl) rfl ?_)
   refine ro rfl (ok_assign rfl rfl rfl rfl ?_)
   refine rn ?_
   (repeat (first | refine uw ?_ | refine uo rfl ?_))
   have e1 := oi h1
   subst e1
   exact ghost_le (le_mk ⟨er rfl, trivial⟩ trivial)

def ref02_Decode (s_0 : Bytes) (i_1 : Int) : Option (Int × Int) :=
 (
   if i_1 < 0 then
    some true
   else
    some (decide ((s_0.length : Int) ≤ i_1))
  : Option Bool).bind fun t2 =>
 if t2 = true then
  some (0, 0)
 else
  ck ((0 : Int) ≤ i_1 ∧ i_1 < (s_0.length : Int)) <|
  if byt s_0 i_1 < 128 then
   ck (inR (byt s_0 i_1)) <|
   some (byt s_0 i_1, 1)
  else
   (
     if 194 ≤ byt s_0 i_1 then
      if byt s_0 i_1 ≤ 223 then
       ck (inR (i_1 + 1)) <|
       (ref02_cont s_0 (i_1 + 1) 128 191).bind fun r10 =>
       some r10
      else
       some false
     else
      some false
    : Option Bool).bind fun t12 =>
   if t12 = true then
    ck (inR (iAnd .u8 (byt s_0 i_1) 31)) <|
    ck ((0 : Int) ≤ 6) <|
    ck (inR (i_1 + 1)) <|
    ck ((0 : Int) ≤ i_1 + 1 ∧ i_1 + 1 < (s_0.length : Int)) <|
    ck (inR (iAnd .u8 (byt s_0 (i_1 + 1)) 63)) <|
    some (iOr .i64 (iShl .i64 (iAnd .u8 (byt s_0 i_1) 31) 6) (iAnd .u8 (byt s_0 (i_1 + 1)) 63), 2)
   else
    (
      if byt s_0 i_1 = 224 then
       some 160
      else
       some 128
     : Option Int).bind fun lo20 =>
    (
      if byt s_0 i_1 = 237 then
       some 159
      else
       some 191
     : Option Int).bind fun hi22 =>
    (
      if 224 ≤ byt s_0 i_1 then
       if byt s_0 i_1 ≤ 239 then
        ck (inR (i_1 + 1)) <|
        (ref02_cont s_0 (i_1 + 1) lo20 hi22).bind fun r26 =>
        if r26 = true then
         ck (inR (i_1 + 2)) <|
         (ref02_cont s_0 (i_1 + 2) 128 191).bind fun r30 =>
         some r30
        else
         some false
       else
        some false
      else
       some false
     : Option Bool).bind fun t32 =>
    if t32 = true then
     ck (inR (iAnd .u8 (byt s_0 i_1) 15)) <|
     ck ((0 : Int) ≤ 12) <|
     ck (inR (i_1 + 1)) <|
     ck ((0 : Int) ≤ i_1 + 1 ∧ i_1 + 1 < (s_0.length : Int)) <|
     ck (inR (iAnd .u8 (byt s_0 (i_1 + 1)) 63)) <|
     ck ((0 : Int) ≤ 6) <|
     ck (inR (i_1 + 2)) <|
     ck ((0 : Int) ≤ i_1 + 2 ∧ i_1 + 2 < (s_0.length : Int)) <|
     ck (inR (iAnd .u8 (byt s_0 (i_1 + 2)) 63)) <|
     some (iOr .i64 (iOr .i64 (iShl .i64 (iAnd .u8 (byt s_0 i_1) 15) 12) (iShl .i64 (iAnd .u8 (byt s_0 (i_1 + 1)) 63) 6)) (iAnd .u8 (byt s_0 (i_1 + 2)) 63), 3)
    else
     (
       if byt s_0 i_1 = 240 then
        some 144
       else
        some 128
      : Option Int).bind fun lo44 =>
     (
       if byt s_0 i_1 = 244 then
        some 143
       else
        some 191
      : Option Int).bind fun hi46 =>
     (
       if 240 ≤ byt s_0 i_1 then
        if byt s_0 i_1 ≤ 244 then
         ck (inR (i_1 + 1)) <|
         (ref02_cont s_0 (i_1 + 1) lo44 hi46).bind fun r50 =>
         if r50 = true then
          ck (inR (i_1 + 2)) <|
          (ref02_cont s_0 (i_1 + 2) 128 191).bind fun r54 =>
          if r54 = true then
           ck (inR (i_1 + 3)) <|
           (ref02_cont s_0 (i_1 + 3) 128 191).bind fun r58 =>
           some r58
          else
           some false
         else
          some false
        else
         some false
       else
        some false
      : Option Bool).bind fun t60 =>
     if t60 = true then
      ck (inR (iAnd .u8 (byt s_0 i_1) 7)) <|
      ck ((0 : Int) ≤ 18) <|
      ck (inR (i_1 + 1)) <|
      ck ((0 : Int) ≤ i_1 + 1 ∧ i_1 + 1 < (s_0.length : Int)) <|
      ck (inR (iAnd .u8 (byt s_0 (i_1 + 1)) 63)) <|
      ck ((0 : Int) ≤ 12) <|
      ck (inR (i_1 + 2)) <|
      ck ((0 : Int) ≤ i_1 + 2 ∧ i_1 + 2 < (s_0.length : Int)) <|
      ck (inR (iAnd .u8 (byt s_0 (i_1 + 2)) 63)) <|
      ck ((0 : Int) ≤ 6) <|
      ck (inR (i_1 + 3)) <|
      ck ((0 : Int) ≤ i_1 + 3 ∧ i_1 + 3 < (s_0.length : Int)) <|
      ck (inR (iAnd .u8 (byt s_0 (i_1 + 3)) 63)) <|
      some (iOr .i64 (iOr .i64 (iOr .i64 (iShl .i64 (iAnd .u8 (byt s_0 i_1) 7) 18) (iShl .i64 (iAnd .u8 (byt s_0 (i_1 + 1)) 63) 12)) (iShl .i64 (iAnd .u8 (byt s_0 (i_1 + 2)) 63) 6)) (iAnd .u8 (byt s_0 (i_1 + 3)) 63), 4)
     else
      some (0, 0)

set_option maxHeartbeats 4000000 in
theorem ref02_Decode_ok (s_0 : Bytes) (i_1 : Int) (r : Int × Int) (h0 : ref02_Decode s_0 i_1 = some r) : PCalls Tryz.prog 84 [eS s_0, eI i_1] (· = .tuple [.p (eI r.1), .p (eI r.2)]) := by
 unfold ref02_Decode at h0
 refine pbodyA good Tryz.func84 rfl rfl rfl fun w0 => ?_
 refine awp_seq (awp_reg ?_)
 refine ro rfl (ok_assign rfl rfl rfl rfl ?_)
 refine ro rfl (ok_assign rfl rfl rfl rfl ?_)
 refine rn ?_
 refine awp_seq (awp_seq ?_)
 obtain ⟨o83, h1, h0⟩ := bd_cut h0
 refine awp_joinN ⟨[(0, .p (eS s_0)), (1, .p (eI i_1)), (16, .p (eB o83))], []⟩ ?_ ?_
 ·intro s' hle
  (repeat (first | refine uw ?_ | refine uo rfl ?_))
  refine awp_ghost hle ?_
  refine wp_if rfl (fun c3 => ?_) (fun c3 => ?_)
  ·replace h0 := if_t c3 h0
   refine awp_seq (awp_reg ?_)
   refine ro rfl (ok_assign rfl rfl rfl rfl ?_)
   refine ro rfl (ok_assign rfl rfl rfl rfl ?_)
   refine rn ?_
   refine awp_ret ?_
   (repeat (first | refine uw ?_ | refine uo rfl ?_))
   have e0 := oi h0
   subst e0
   refine reta_mk rfl ?_
   exact sub_tuple ⟨sr, sr, trivial⟩
  ·replace h0 := if_bf c3 h0
   refine awp_skip (awp_seq (awp_reg ?_))
   refine ro rfl (ok_move rfl rfl rfl rfl ?_)
   refine ro rfl (ok_move rfl rfl rfl rfl ?_)
   obtain ⟨hk4, h0⟩ := ck_cut h0
   refine ro rfl (op_indexS rfl rfl rfl rfl rfl rfl rfl hk4 ?_)
   refine ro rfl (ok_assign rfl rfl rfl rfl ?_)
   refine rn ?_
   refine awp_seq (awp_seq (awp_reg ?_))
   refine ro rfl (ok_move rfl rfl rfl rfl ?_)
   refine ro rfl (ok_cmp rfl rfl rfl rfl rfl rfl ?_)
   refine rn ?_
   refine wp_ifD rfl (fun c5 => ?_) (fun c5 => ?_)
   ·replace h0 := if_t c5 h0
    refine awp_seq (awp_reg ?_)
    refine ro rfl (ok_move rfl rfl rfl rfl ?_)
    obtain ⟨hk6, h0⟩ := ck_cut h0
    refine ro rfl (ok_convInt rfl rfl rfl rfl rfl rfl rfl rfl (wrap_in hk6) ?_)
    refine ro rfl (ok_assign rfl rfl rfl rfl ?_)
    refine ro rfl (ok_assign rfl rfl rfl rfl ?_)
    refine rn ?_
    refine awp_ret ?_
    (repeat (first | refine uw ?_ | refine uo rfl ?_))
    have e0 := oi h0
    subst e0
    refine reta_mk rfl ?_
    exact sub_tuple ⟨sr, sr, trivial⟩
   ·replace h0 := if_f c5 h0
    refine awp_skip (awp_seq (awp_seq ?_))
    obtain ⟨o85, h1, h0⟩ := bd_cut h0
    refine awp_joinN ⟨[(0, .p (eS s_0)), (1, .p (eI i_1)), (6, .p (eK .u8 (byt s_0 i_1))), (35, .p (eB o85))], []⟩ ?_ ?_
    ·intro s' hle
     (repeat (first | refine uw ?_ | refine uo rfl ?_))
     refine awp_ghost hle ?_
     refine wp_if rfl (fun c13 => ?_) (fun c13 => ?_)
     ·replace h0 := if_t c13 h0
      refine awp_seq (awp_reg ?_)
      refine ro rfl (ok_move rfl rfl rfl rfl ?_)
      refine ro rfl (ok_bit rfl rfl rfl rfl rfl rfl ?_)
      obtain ⟨hk14, h0⟩ := ck_cut h0
      refine ro rfl (ok_convInt rfl rfl rfl rfl rfl rfl rfl rfl (wrap_in hk14) ?_)
      obtain ⟨hk15, h0⟩ := ck_cut h0
      refine ro rfl (ok_sh rfl rfl rfl rfl rfl rfl hk15 ?_)
      refine ro rfl (ok_move rfl rfl rfl rfl ?_)
      refine ro rfl (ok_move rfl rfl rfl rfl ?_)
      obtain ⟨hk16, h0⟩ := ck_cut h0
      refine ro rfl (ok_ar rfl rfl rfl rfl rfl rfl hk16 ?_)
      obtain ⟨hk17, h0⟩ := ck_cut h0
      refine ro rfl (op_indexS rfl rfl rfl rfl rfl rfl rfl hk17 ?_)
      refine ro rfl (ok_bit rfl rfl rfl rfl rfl rfl ?_)
      obtain ⟨hk18, h0⟩ := ck_cut h0
      refine ro rfl (ok_convInt rfl rfl rfl rfl rfl rfl rfl rfl (wrap_in hk18) ?_)
      refine ro rfl (ok_bit rfl rfl rfl rfl rfl rfl ?_)
      refine ro rfl (ok_assign rfl rfl rfl rfl ?_)
      refine ro rfl (ok_assign rfl rfl rfl rfl ?_)
      refine rn ?_
      refine awp_ret ?_
      (repeat (first | refine uw ?_ | refine uo rfl ?_))
      have e0 := oi h0
      subst e0
      refine reta_mk rfl ?_
      exact sub_tuple ⟨sr, sr, trivial⟩
     ·replace h0 := if_bf c13 h0
      refine awp_skip (awp_seq (awp_reg ?_))
      refine ro rfl (ok_assign rfl rfl rfl rfl ?_)
      refine ro rfl (ok_assign rfl rfl rfl rfl ?_)
      refine rn ?_
      refine awp_seq ?_
      obtain ⟨o87, h1, h0⟩ := bd_cut h0
      refine awp_joinN ⟨[(0, .p (eS s_0)), (1, .p (eI i_1)), (6, .p (eK .u8 (byt s_0 i_1))), (7, .p (eK .u8 o87)), (8, .p (eK .u8 191))], []⟩ ?_ ?_
      ·intro s' hle
       (repeat (first | refine uw ?_ | refine uo rfl ?_))
       refine awp_ghost hle ?_
       refine awp_seq ?_
       obtain ⟨o89, h1, h0⟩ := bd_cut h0
       refine awp_joinN ⟨[(0, .p (eS s_0)), (1, .p (eI i_1)), (6, .p (eK .u8 (byt s_0 i_1))), (7, .p (eK .u8 o87)), (8, .p (eK .u8 o89))], []⟩ ?_ ?_
       ·intro s' hle
        (repeat (first | refine uw ?_ | refine uo rfl ?_))
        refine awp_ghost hle ?_
        refine awp_seq (awp_seq ?_)
        obtain ⟨o91, h1, h0⟩ := bd_cut h0
        refine awp_joinN ⟨[(0, .p (eS s_0)), (1, .p (eI i_1)), (6, .p (eK .u8 (byt s_0 i_1))), (70, .p (eB o91))], []⟩ ?_ ?_
        ·intro s' hle
         (repeat (first | refine uw ?_ | refine uo rfl ?_))
         refine awp_ghost hle ?_
         refine wp_if rfl (fun c33 => ?_) (fun c33 => ?_)
         ·replace h0 := if_t c33 h0
          refine awp_seq ?_
          obtain ⟨hk34, h0⟩ := ck_cut h0
          obtain ⟨hk35, h0⟩ := ck_cut h0
          obtain ⟨hk36, h0⟩ := ck_cut h0
          obtain ⟨hk37, h0⟩ := ck_cut h0
          obtain ⟨hk38, h0⟩ := ck_cut h0
          obtain ⟨hk39, h0⟩ := ck_cut h0
          obtain ⟨hk40, h0⟩ := ck_cut h0
          obtain ⟨hk41, h0⟩ := ck_cut h0
          obtain ⟨hk42, h0⟩ := ck_cut h0
          refine awp_drawQ [(0, .p (eS s_0)), (1, .p (eI i_1)), (6, .p (eK .u8 (byt s_0 i_1)))] rfl ⟨rfl, rfl, rfl, trivial⟩ rfl ?_
          refine dq_cons (.p (eK .u8 (byt s_0 i_1))) [(6, _)] ⟨.inl rfl, trivial⟩ (fun sl hsl K hK => one_op rfl (ok_move rfl rfl rfl (hsl _ _ rfl) hK)) rfl rfl rfl ?_
          refine dq_cons (.p (eK .u8 (iAnd .u8 (byt s_0 i_1) 15))) [(71, _)] ⟨.inr ⟨0, rfl, rfl⟩, trivial⟩ (fun sl hsl K hK => one_op rfl (ok_bit rfl rfl rfl (hsl _ _ rfl) rfl rfl hK)) rfl rfl rfl ?_
          refine dq_cons (.p (eI (iAnd .u8 (byt s_0 i_1) 15))) [(72, _)] ⟨.inr ⟨1, rfl, rfl⟩, trivial⟩ (fun sl hsl K hK => one_op rfl (ok_convInt rfl rfl rfl rfl rfl rfl rfl (hsl _ _ rfl) (wrap_in hk34) hK)) rfl rfl rfl ?_
          refine dq_cons (.p (eI (iShl .i64 (iAnd .u8 (byt s_0 i_1) 15) 12))) [(73, _)] ⟨.inr ⟨2, rfl, rfl⟩, trivial⟩ (fun sl hsl K hK => one_op rfl (ok_sh rfl rfl rfl (hsl _ _ rfl) rfl rfl hk35 hK)) rfl rfl rfl ?_
          refine dq_cons (.p (eS s_0)) [(0, _)] ⟨.inl rfl, trivial⟩ (fun sl hsl K hK => one_op rfl (ok_move rfl rfl rfl (hsl _ _ rfl) hK)) rfl rfl rfl ?_
          refine dq_cons (.p (eI i_1)) [(1, _)] ⟨.inl rfl, trivial⟩ (fun sl hsl K hK => one_op rfl (ok_move rfl rfl rfl (hsl _ _ rfl) hK)) rfl rfl rfl ?_
          refine dq_cons (.p (eI (i_1 + 1))) [(76, _)] ⟨.inr ⟨5, rfl, rfl⟩, trivial⟩ (fun sl hsl K hK => one_op rfl (ok_ar rfl rfl rfl (hsl _ _ rfl) rfl rfl hk36 hK)) rfl rfl rfl ?_
          refine dq_cons (.p (eK .u8 (byt s_0 (i_1 + 1)))) [(75, _), (77, _)] ⟨.inr ⟨4, rfl, rfl⟩, .inr ⟨6, rfl, rfl⟩, trivial⟩ (fun sl hsl K hK => one_op rfl (op_indexS rfl rfl rfl rfl rfl (hsl _ _ rfl) (hsl _ _ rfl) hk37 hK)) rfl rfl rfl ?_
          refine dq_cons (.p (eK .u8 (iAnd .u8 (byt s_0 (i_1 + 1)) 63))) [(78, _)] ⟨.inr ⟨7, rfl, rfl⟩, trivial⟩ (fun sl hsl K hK => one_op rfl (ok_bit rfl rfl rfl (hsl _ _ rfl) rfl rfl hK)) rfl rfl rfl ?_
          refine dq_cons (.p (eI (iAnd .u8 (byt s_0 (i_1 + 1)) 63))) [(79, _)] ⟨.inr ⟨8, rfl, rfl⟩, trivial⟩ (fun sl hsl K hK => one_op rfl (ok_convInt rfl rfl rfl rfl rfl rfl rfl (hsl _ _ rfl) (wrap_in hk38) hK)) rfl rfl rfl ?_
          refine dq_cons (.p (eI (iShl .i64 (iAnd .u8 (byt s_0 (i_1 + 1)) 63) 6))) [(80, _)] ⟨.inr ⟨9, rfl, rfl⟩, trivial⟩ (fun sl hsl K hK => one_op rfl (ok_sh rfl rfl rfl (hsl _ _ rfl) rfl rfl hk39 hK)) rfl rfl rfl ?_
          refine dq_cons (.p (eI (iOr .i64 (iShl .i64 (iAnd .u8 (byt s_0 i_1) 15) 12) (iShl .i64 (iAnd .u8 (byt s_0 (i_1 + 1)) 63) 6)))) [(74, _), (81, _)] ⟨.inr ⟨3, rfl, rfl⟩, .inr ⟨10, rfl, rfl⟩, trivial⟩ (fun sl hsl K hK => one_op rfl (ok_bit rfl rfl rfl (hsl _ _ rfl) (hsl _ _ rfl) rfl hK)) rfl rfl rfl ?_
          refine dq_cons (.p (eS s_0)) [(0, _)] ⟨.inl rfl, trivial⟩ (fun sl hsl K hK => one_op rfl (ok_move rfl rfl rfl (hsl _ _ rfl) hK)) rfl rfl rfl ?_
          refine dq_cons (.p (eI i_1)) [(1, _)] ⟨.inl rfl, trivial⟩ (fun sl hsl K hK => one_op rfl (ok_move rfl rfl rfl (hsl _ _ rfl) hK)) rfl rfl rfl ?_
          refine dq_cons (.p (eI (i_1 + 2))) [(84, _)] ⟨.inr ⟨13, rfl, rfl⟩, trivial⟩ (fun sl hsl K hK => one_op rfl (ok_ar rfl rfl rfl (hsl _ _ rfl) rfl rfl hk40 hK)) rfl rfl rfl ?_
          refine dq_cons (.p (eK .u8 (byt s_0 (i_1 + 2)))) [(83, _), (85, _)] ⟨.inr ⟨12, rfl, rfl⟩, .inr ⟨14, rfl, rfl⟩, trivial⟩ (fun sl hsl K hK => one_op rfl (op_indexS rfl rfl rfl rfl rfl (hsl _ _ rfl) (hsl _ _ rfl) hk41 hK)) rfl rfl rfl ?_
          refine dq_cons (.p (eK .u8 (iAnd .u8 (byt s_0 (i_1 + 2)) 63))) [(86, _)] ⟨.inr ⟨15, rfl, rfl⟩, trivial⟩ (fun sl hsl K hK => one_op rfl (ok_bit rfl rfl rfl (hsl _ _ rfl) rfl rfl hK)) rfl rfl rfl ?_
          refine dq_cons (.p (eI (iAnd .u8 (byt s_0 (i_1 + 2)) 63))) [(87, _)] ⟨.inr ⟨16, rfl, rfl⟩, trivial⟩ (fun sl hsl K hK => one_op rfl (ok_convInt rfl rfl rfl rfl rfl rfl rfl (hsl _ _ rfl) (wrap_in hk42) hK)) rfl rfl rfl ?_
          refine dq_cons (.p (eI (iOr .i64 (iOr .i64 (iShl .i64 (iAnd .u8 (byt s_0 i_1) 15) 12) (iShl .i64 (iAnd .u8 (byt s_0 (i_1 + 1)) 63) 6)) (iAnd .u8 (byt s_0 (i_1 + 2)) 63)))) [(82, _), (88, _)] ⟨.inr ⟨11, rfl, rfl⟩, .inr ⟨17, rfl, rfl⟩, trivial⟩ (fun sl hsl K hK => one_op rfl (ok_bit rfl rfl rfl (hsl _ _ rfl) (hsl _ _ rfl) rfl hK)) rfl rfl rfl ?_
          refine dq_cons (.p (eI (iOr .i64 (iOr .i64 (iShl .i64 (iAnd .u8 (byt s_0 i_1) 15) 12) (iShl .i64 (iAnd .u8 (byt s_0 (i_1 + 1)) 63) 6)) (iAnd .u8 (byt s_0 (i_1 + 2)) 63)))) [(89, _)] ⟨.inr ⟨18, rfl, rfl⟩, trivial⟩ (fun sl hsl K hK => one_op rfl (ok_assign rfl rfl rfl (hsl _ _ rfl) hK)) rfl rfl rfl ?_
          refine dq_cons (.p (eI 3)) [] trivial (fun sl hsl K hK => one_op rfl (ok_assign rfl rfl rfl rfl hK)) rfl rfl rfl ?_
          refine dq_nil ?_
          refine awp_ret ?_
          (repeat (first | refine uw ?_ | refine uo rfl ?_))
          have e0 := oi h0
          subst e0
          refine reta_mk rfl ?_
          exact sub_tuple ⟨sr, sr, trivial⟩
         ·replace h0 := if_bf c33 h0
          refine awp_skip (awp_seq (awp_reg ?_))
          refine ro rfl (ok_assign rfl rfl rfl rfl ?_)
          refine ro rfl (ok_assign rfl rfl rfl rfl ?_)
          refine rn ?_
          refine awp_seq ?_
          obtain ⟨o93, h1, h0⟩ := bd_cut h0
          refine awp_joinN ⟨[(0, .p (eS s_0)), (1, .p (eI i_1)), (6, .p (eK .u8 (byt s_0 i_1))), (7, .p (eK .u8 o93)), (8, .p (eK .u8 191))], []⟩ ?_ ?_
          ·intro s' hle
           (repeat (first | refine uw ?_ | refine uo rfl ?_))
           refine awp_ghost hle ?_
           refine awp_seq ?_
           obtain ⟨o95, h1, h0⟩ := bd_cut h0
           refine awp_joinN ⟨[(0, .p (eS s_0)), (1, .p (eI i_1)), (6, .p (eK .u8 (byt s_0 i_1))), (7, .p (eK .u8 o93)), (8, .p (eK .u8 o95))], []⟩ ?_ ?_
           ·intro s' hle
            (repeat (first | refine uw ?_ | refine uo rfl ?_))
            refine awp_ghost hle ?_
            refine awp_seq (awp_seq ?_)
            obtain ⟨o97, h1, h0⟩ := bd_cut h0
            refine awp_joinN ⟨[(0, .p (eS s_0)), (1, .p (eI i_1)), (6, .p (eK .u8 (byt s_0 i_1))), (119, .p (eB o97))], []⟩ ?_ ?_
            ·intro s' hle
             (repeat (first | refine uw ?_ | refine uo rfl ?_))
             refine awp_ghost hle ?_
             refine wp_if rfl (fun c61 => ?_) (fun c61 => ?_)
             ·replace h0 := if_t c61 h0
              refine awp_seq ?_
              obtain ⟨hk62, h0⟩ := ck_cut h0
              obtain ⟨hk63, h0⟩ := ck_cut h0
              obtain ⟨hk64, h0⟩ := ck_cut h0
              obtain ⟨hk65, h0⟩ := ck_cut h0
              obtain ⟨hk66, h0⟩ := ck_cut h0
              obtain ⟨hk67, h0⟩ := ck_cut h0
              obtain ⟨hk68, h0⟩ := ck_cut h0
              obtain ⟨hk69, h0⟩ := ck_cut h0
              obtain ⟨hk70, h0⟩ := ck_cut h0
              obtain ⟨hk71, h0⟩ := ck_cut h0
              obtain ⟨hk72, h0⟩ := ck_cut h0
              obtain ⟨hk73, h0⟩ := ck_cut h0
              obtain ⟨hk74, h0⟩ := ck_cut h0
              refine awp_drawQ [(0, .p (eS s_0)), (1, .p (eI i_1)), (6, .p (eK .u8 (byt s_0 i_1)))] rfl ⟨rfl, rfl, rfl, trivial⟩ rfl ?_
              refine dq_cons (.p (eK .u8 (byt s_0 i_1))) [(6, _)] ⟨.inl rfl, trivial⟩ (fun sl hsl K hK => one_op rfl (ok_move rfl rfl rfl (hsl _ _ rfl) hK)) rfl rfl rfl ?_
              refine dq_cons (.p (eK .u8 (iAnd .u8 (byt s_0 i_1) 7))) [(120, _)] ⟨.inr ⟨0, rfl, rfl⟩, trivial⟩ (fun sl hsl K hK => one_op rfl (ok_bit rfl rfl rfl (hsl _ _ rfl) rfl rfl hK)) rfl rfl rfl ?_
              refine dq_cons (.p (eI (iAnd .u8 (byt s_0 i_1) 7))) [(121, _)] ⟨.inr ⟨1, rfl, rfl⟩, trivial⟩ (fun sl hsl K hK => one_op rfl (ok_convInt rfl rfl rfl rfl rfl rfl rfl (hsl _ _ rfl) (wrap_in hk62) hK)) rfl rfl rfl ?_
              refine dq_cons (.p (eI (iShl .i64 (iAnd .u8 (byt s_0 i_1) 7) 18))) [(122, _)] ⟨.inr ⟨2, rfl, rfl⟩, trivial⟩ (fun sl hsl K hK => one_op rfl (ok_sh rfl rfl rfl (hsl _ _ rfl) rfl rfl hk63 hK)) rfl rfl rfl ?_
              refine dq_cons (.p (eS s_0)) [(0, _)] ⟨.inl rfl, trivial⟩ (fun sl hsl K hK => one_op rfl (ok_move rfl rfl rfl (hsl _ _ rfl) hK)) rfl rfl rfl ?_
              refine dq_cons (.p (eI i_1)) [(1, _)] ⟨.inl rfl, trivial⟩ (fun sl hsl K hK => one_op rfl (ok_move rfl rfl rfl (hsl _ _ rfl) hK)) rfl rfl rfl ?_
              refine dq_cons (.p (eI (i_1 + 1))) [(125, _)] ⟨.inr ⟨5, rfl, rfl⟩, trivial⟩ (fun sl hsl K hK => one_op rfl (ok_ar rfl rfl rfl (hsl _ _ rfl) rfl rfl hk64 hK)) rfl rfl rfl ?_
              refine dq_cons (.p (eK .u8 (byt s_0 (i_1 + 1)))) [(124, _), (126, _)] ⟨.inr ⟨4, rfl, rfl⟩, .inr ⟨6, rfl, rfl⟩, trivial⟩ (fun sl hsl K hK => one_op rfl (op_indexS rfl rfl rfl rfl rfl (hsl _ _ rfl) (hsl _ _ rfl) hk65 hK)) rfl rfl rfl ?_
              refine dq_cons (.p (eK .u8 (iAnd .u8 (byt s_0 (i_1 + 1)) 63))) [(127, _)] ⟨.inr ⟨7, rfl, rfl⟩, trivial⟩ (fun sl hsl K hK => one_op rfl (ok_bit rfl rfl rfl (hsl _ _ rfl) rfl rfl hK)) rfl rfl rfl ?_
              refine dq_cons (.p (eI (iAnd .u8 (byt s_0 (i_1 + 1)) 63))) [(128, _)] ⟨.inr ⟨8, rfl, rfl⟩, trivial⟩ (fun sl hsl K hK => one_op rfl (ok_convInt rfl rfl rfl rfl rfl rfl rfl (hsl _ _ rfl) (wrap_in hk66) hK)) rfl rfl rfl ?_
              refine dq_cons (.p (eI (iShl .i64 (iAnd .u8 (byt s_0 (i_1 + 1)) 63) 12))) [(129, _)] ⟨.inr ⟨9, rfl, rfl⟩, trivial⟩ (fun sl hsl K hK => one_op rfl (ok_sh rfl rfl rfl (hsl _ _ rfl) rfl rfl hk67 hK)) rfl rfl rfl ?_
              refine dq_cons (.p (eI (iOr .i64 (iShl .i64 (iAnd .u8 (byt s_0 i_1) 7) 18) (iShl .i64 (iAnd .u8 (byt s_0 (i_1 + 1)) 63) 12)))) [(123, _), (130, _)] ⟨.inr ⟨3, rfl, rfl⟩, .inr ⟨10, rfl, rfl⟩, trivial⟩ (fun sl hsl K hK => one_op rfl (ok_bit rfl rfl rfl (hsl _ _ rfl) (hsl _ _ rfl) rfl hK)) rfl rfl rfl ?_
              refine dq_cons (.p (eS s_0)) [(0, _)] ⟨.inl rfl, trivial⟩ (fun sl hsl K hK => one_op rfl (ok_move rfl rfl rfl (hsl _ _ rfl) hK)) rfl rfl rfl ?_
              refine dq_cons (.p (eI i_1)) [(1, _)] ⟨.inl rfl, trivial⟩ (fun sl hsl K hK => one_op rfl (ok_move rfl rfl rfl (hsl _ _ rfl) hK)) rfl rfl rfl ?_
              refine dq_cons (.p (eI (i_1 + 2))) [(133, _)] ⟨.inr ⟨13, rfl, rfl⟩, trivial⟩ (fun sl hsl K hK => one_op rfl (ok_ar rfl rfl rfl (hsl _ _ rfl) rfl rfl hk68 hK)) rfl rfl rfl ?_
              refine dq_cons (.p (eK .u8 (byt s_0 (i_1 + 2)))) [(132, _), (134, _)] ⟨.inr ⟨12, rfl, rfl⟩, .inr ⟨14, rfl, rfl⟩, trivial⟩ (fun sl hsl K hK => one_op rfl (op_indexS rfl rfl rfl rfl rfl (hsl _ _ rfl) (hsl _ _ rfl) hk69 hK)) rfl rfl rfl ?_
              refine dq_cons (.p (eK .u8 (iAnd .u8 (byt s_0 (i_1 + 2)) 63))) [(135, _)] ⟨.inr ⟨15, rfl, rfl⟩, trivial⟩ (fun sl hsl K hK => one_op rfl (ok_bit rfl rfl rfl (hsl _ _ rfl) rfl rfl hK)) rfl rfl rfl ?_
              refine dq_cons (.p (eI (iAnd .u8 (byt s_0 (i_1 + 2)) 63))) [(136, _)] ⟨.inr ⟨16, rfl, rfl⟩, trivial⟩ (fun sl hsl K hK => one_op rfl (ok_convInt rfl rfl rfl rfl rfl rfl rfl (hsl _ _ rfl) (wrap_in hk70) hK)) rfl rfl rfl ?_
              refine dq_cons (.p (eI (iShl .i64 (iAnd .u8 (byt s_0 (i_1 + 2)) 63) 6))) [(137, _)] ⟨.inr ⟨17, rfl, rfl⟩, trivial⟩ (fun sl hsl K hK => one_op rfl (ok_sh rfl rfl rfl (hsl _ _ rfl) rfl rfl hk71 hK)) rfl rfl rfl ?_
              refine dq_cons (.p (eI (iOr .i64 (iOr .i64 (iShl .i64 (iAnd .u8 (byt s_0 i_1) 7) 18) (iShl .i64 (iAnd .u8 (byt s_0 (i_1 + 1)) 63) 12)) (iShl .i64 (iAnd .u8 (byt s_0 (i_1 + 2)) 63) 6)))) [(131, _), (138, _)] ⟨.inr ⟨11, rfl, rfl⟩, .inr ⟨18, rfl, rfl⟩, trivial⟩ (fun sl hsl K hK => one_op rfl (ok_bit rfl rfl rfl (hsl _ _ rfl) (hsl _ _ rfl) rfl hK)) rfl rfl rfl ?_
              refine dq_cons (.p (eS s_0)) [(0, _)] ⟨.inl rfl, trivial⟩ (fun sl hsl K hK => one_op rfl (ok_move rfl rfl rfl (hsl _ _ rfl) hK)) rfl rfl rfl ?_
              refine dq_cons (.p (eI i_1)) [(1, _)] ⟨.inl rfl, trivial⟩ (fun sl hsl K hK => one_op rfl (ok_move rfl rfl rfl (hsl _ _ rfl) hK)) rfl rfl rfl ?_
              refine dq_cons (.p (eI (i_1 + 3))) [(141, _)] ⟨.inr ⟨21, rfl, rfl⟩, trivial⟩ (fun sl hsl K hK => one_op rfl (ok_ar rfl rfl rfl (hsl _ _ rfl) rfl rfl hk72 hK)) rfl rfl rfl ?_
              refine dq_cons (.p (eK .u8 (byt s_0 (i_1 + 3)))) [(140, _), (142, _)] ⟨.inr ⟨20, rfl, rfl⟩, .inr ⟨22, rfl, rfl⟩, trivial⟩ (fun sl hsl K hK => one_op rfl (op_indexS rfl rfl rfl rfl rfl (hsl _ _ rfl) (hsl _ _ rfl) hk73 hK)) rfl rfl rfl ?_
              refine dq_cons (.p (eK .u8 (iAnd .u8 (byt s_0 (i_1 + 3)) 63))) [(143, _)] ⟨.inr ⟨23, rfl, rfl⟩, trivial⟩ (fun sl hsl K hK => one_op rfl (ok_bit rfl rfl rfl (hsl _ _ rfl) rfl rfl hK)) rfl rfl rfl ?_
              refine dq_cons (.p (eI (iAnd .u8 (byt s_0 (i_1 + 3)) 63))) [(144, _)] ⟨.inr ⟨24, rfl, rfl⟩, trivial⟩ (fun sl hsl K hK => one_op rfl (ok_convInt rfl rfl rfl rfl rfl rfl rfl (hsl _ _ rfl) (wrap_in hk74) hK)) rfl rfl rfl ?_
              refine dq_cons (.p (eI (iOr .i64 (iOr .i64 (iOr .i64 (iShl .i64 (iAnd .u8 (byt s_0 i_1) 7) 18) (iShl .i64 (iAnd .u8 (byt s_0 (i_1 + 1)) 63) 12)) (iShl .i64 (iAnd .u8 (byt s_0 (i_1 + 2)) 63) 6)) (iAnd .u8 (byt s_0 (i_1 + 3)) 63)))) [(139, _), (145, _)] ⟨.inr ⟨19, rfl, rfl⟩, .inr ⟨25, rfl, rfl⟩, trivial⟩ (fun sl hsl K hK => one_op rfl (ok_bit rfl rfl rfl (hsl _ _ rfl) (hsl _ _ rfl) rfl hK)) rfl rfl rfl ?_
              refine dq_cons (.p (eI (iOr .i64 (iOr .i64 (iOr .i64 (iShl .i64 (iAnd .u8 (byt s_0 i_1) 7) 18) (iShl .i64 (iAnd .u8 (byt s_0 (i_1 + 1)) 63) 12)) (iShl .i64 (iAnd .u8 (byt s_0 (i_1 + 2)) 63) 6)) (iAnd .u8 (byt s_0 (i_1 + 3)) 63)))) [(146, _)] ⟨.inr ⟨26, rfl, rfl⟩, trivial⟩ (fun sl hsl K hK => one_op rfl (ok_assign rfl rfl rfl (hsl _ _ rfl) hK)) rfl rfl rfl ?_
              refine dq_cons (.p (eI 4)) [] trivial (fun sl hsl K hK => one_op rfl (ok_assign rfl rfl rfl rfl hK)) rfl rfl rfl ?_
              refine dq_nil ?_
              refine awp_ghost (ghost_le (t := ⟨[(4, .p (eI (iOr .i64 (iOr .i64 (iOr .i64 (iShl .i64 (iAnd .u8 (byt s_0 i_1) 7) 18) (iShl .i64 (iAnd .u8 (byt s_0 (i_1 + 1)) 63) 12)) (iShl .i64 (iAnd .u8 (byt s_0 (i_1 + 2)) 63) 6)) (iAnd .u8 (byt s_0 (i_1 + 3)) 63)))), (5, .p (eI 4))], []⟩) (le_mk ⟨er rfl, er rfl, trivial⟩ trivial)) ?_
              refine awp_ret ?_
              (repeat (first | refine uw ?_ | refine uo rfl ?_))
              have e0 := oi h0
              subst e0
              refine reta_mk rfl ?_
              exact sub_tuple ⟨sr, sr, trivial⟩
             ·replace h0 := if_bf c61 h0
              refine awp_skip (awp_seq (awp_reg ?_))
              refine ro rfl (ok_assign rfl rfl rfl rfl ?_)
              refine ro rfl (ok_assign rfl rfl rfl rfl ?_)
              refine rn ?_
              refine awp_ret ?_
              (repeat (first | refine uw ?_ | refine uo rfl ?_))
              have e0 := oi h0
              subst e0
              refine reta_mk rfl ?_
              exact sub_tuple ⟨sr, sr, trivial⟩
            ·skip
             refine awp_reg ?_
             refine ro rfl (ok_move rfl rfl rfl rfl ?_)
             refine ro rfl (ok_cmp rfl rfl rfl rfl rfl rfl ?_)
             refine ro rfl (ok_move rfl rfl rfl rfl ?_)
             refine gd_D rfl rfl rfl (fun c47 => ?_) (fun c47 => ?_)
             ·replace h1 := if_t c47 h1
              refine gd_tt rfl rfl rfl (dt c47) (ok_move rfl rfl rfl rfl ?_)
              refine gd_tt rfl rfl rfl (dt c47) (ok_cmp rfl rfl rfl rfl rfl rfl ?_)
              refine ro rfl (ok_pick_true rfl rfl rfl rfl (dt c47) rfl ?_)
              refine ro rfl (ok_move rfl rfl rfl rfl ?_)
              refine gd_D rfl rfl rfl (fun c48 => ?_) (fun c48 => ?_)
              ·replace h1 := if_t c48 h1
               refine gd_tt rfl rfl rfl (dt c48) (ok_move rfl rfl rfl rfl ?_)
               refine gd_tt rfl rfl rfl (dt c48) (ok_move rfl rfl rfl rfl ?_)
               obtain ⟨hk49, h1⟩ := ck_cut h1
               refine gd_tt rfl rfl rfl (dt c48) (ok_ar rfl rfl rfl rfl rfl rfl hk49 ?_)
               refine gd_tt rfl rfl rfl (dt c48) (ok_move rfl rfl rfl rfl ?_)
               refine gd_tt rfl rfl rfl (dt c48) (ok_move rfl rfl rfl rfl ?_)
               obtain ⟨r50, e51, h1⟩ := bd_cut h1
               refine gd_tt rfl rfl rfl (dt c48) (ok_callP (ref02_cont_ok s_0 (i_1 + 1) o93 o95 _ e51) rfl rfl rfl rfl ⟨sr, sr, sr, sr, trivial⟩ Tryz.call108 rfl ?_)
               refine ro rfl (ok_pick_true rfl rfl rfl rfl (dt c48) rfl ?_)
               refine ro rfl (ok_move rfl rfl rfl rfl ?_)
               refine gd_B rfl rfl rfl (fun c52 => ?_) (fun c52 => ?_)
               ·replace h1 := if_t c52 h1
                refine gd_tt rfl rfl rfl (c52) (ok_move rfl rfl rfl rfl ?_)
                refine gd_tt rfl rfl rfl (c52) (ok_move rfl rfl rfl rfl ?_)
                obtain ⟨hk53, h1⟩ := ck_cut h1
                refine gd_tt rfl rfl rfl (c52) (ok_ar rfl rfl rfl rfl rfl rfl hk53 ?_)
                obtain ⟨r54, e55, h1⟩ := bd_cut h1
                refine gd_tt rfl rfl rfl (c52) (ok_callP (ref02_cont_ok s_0 (i_1 + 2) 128 191 _ e55) rfl rfl rfl rfl ⟨sr, sr, sr, sr, trivial⟩ Tryz.call108 rfl ?_)
                refine ro rfl (ok_pick_true rfl rfl rfl rfl (c52) rfl ?_)
                refine ro rfl (ok_move rfl rfl rfl rfl ?_)
                refine gd_B rfl rfl rfl (fun c56 => ?_) (fun c56 => ?_)
                ·replace h1 := if_t c56 h1
                 refine gd_tt rfl rfl rfl (c56) (ok_move rfl rfl rfl rfl ?_)
                 refine gd_tt rfl rfl rfl (c56) (ok_move rfl rfl rfl rfl ?_)
                 obtain ⟨hk57, h1⟩ := ck_cut h1
                 refine gd_tt rfl rfl rfl (c56) (ok_ar rfl rfl rfl rfl rfl rfl hk57 ?_)
                 obtain ⟨r58, e59, h1⟩ := bd_cut h1
                 refine gd_tt rfl rfl rfl (c56) (ok_callP (ref02_cont_ok s_0 (i_1 + 3) 128 191 _ e59) rfl rfl rfl rfl ⟨sr, sr, sr, sr, trivial⟩ Tryz.call108 rfl ?_)
                 refine ro rfl (ok_pick_true rfl rfl rfl rfl (c56) rfl ?_)
                 refine rn ?_
                 (repeat (first | refine uw ?_ | refine uo rfl ?_))
                 have e1 := oi h1
                 subst e1
                 exact ghost_le (le_mk ⟨er rfl, er rfl, er rfl, er rfl, trivial⟩ trivial)
                ·replace h1 := if_bf c56 h1
                 refine gd_tf rfl rfl rfl (c56) rfl rfl ?_
                 refine gd_tf rfl rfl rfl (c56) rfl rfl ?_
                 refine gd_tf rfl rfl rfl (c56) rfl rfl ?_
                 refine gd_tf rfl rfl rfl (c56) rfl rfl ?_
                 refine ro rfl (ok_pick_false rfl rfl rfl rfl (c56) rfl ?_)
                 refine rn ?_
                 (repeat (first | refine uw ?_ | refine uo rfl ?_))
                 have e1 := oi h1
                 subst e1
                 exact ghost_le (le_mk ⟨er rfl, er rfl, er rfl, er rfl, trivial⟩ trivial)
               ·replace h1 := if_bf c52 h1
                refine gd_tf rfl rfl rfl (c52) rfl rfl ?_
                refine gd_tf rfl rfl rfl (c52) rfl rfl ?_
                refine gd_tf rfl rfl rfl (c52) rfl rfl ?_
                refine gd_tf rfl rfl rfl (c52) rfl rfl ?_
                refine ro rfl (ok_pick_false rfl rfl rfl rfl (c52) rfl ?_)
                refine ro rfl (ok_move rfl rfl rfl rfl ?_)
                refine gd_tf rfl rfl rfl (rfl) rfl rfl ?_
                refine gd_tf rfl rfl rfl (rfl) rfl rfl ?_
                refine gd_tf rfl rfl rfl (rfl) rfl rfl ?_
                refine gd_tf rfl rfl rfl (rfl) rfl rfl ?_
                refine ro rfl (ok_pick_false rfl rfl rfl rfl (rfl) rfl ?_)
                refine rn ?_
                (repeat (first | refine uw ?_ | refine uo rfl ?_))
                have e1 := oi h1
                subst e1
                exact ghost_le (le_mk ⟨er rfl, er rfl, er rfl, er rfl, trivial⟩ trivial)
              ·replace h1 := if_f c48 h1
               refine gd_tf rfl rfl rfl (df c48) rfl rfl ?_
               refine gd_tf rfl rfl rfl (df c48) rfl rfl ?_
               refine gd_tf rfl rfl rfl (df c48) rfl rfl ?_
               refine gd_tf rfl rfl rfl (df c48) rfl rfl ?_
               refine gd_tf rfl rfl rfl (df c48) rfl rfl ?_
               refine gd_tf rfl rfl rfl (df c48) rfl rfl ?_
               refine ro rfl (ok_pick_false rfl rfl rfl rfl (df c48) rfl ?_)
               refine ro rfl (ok_move rfl rfl rfl rfl ?_)
               refine gd_tf rfl rfl rfl (rfl) rfl rfl ?_
               refine gd_tf rfl rfl rfl (rfl) rfl rfl ?_
               refine gd_tf rfl rfl rfl (rfl) rfl rfl ?_
               refine gd_tf rfl rfl rfl (rfl) rfl rfl ?_
               refine ro rfl (ok_pick_false rfl rfl rfl rfl (rfl) rfl ?_)
               refine ro rfl (ok_move rfl rfl rfl rfl ?_)
               refine gd_tf rfl rfl rfl (rfl) rfl rfl ?_
               refine gd_tf rfl rfl rfl (rfl) rfl rfl ?_
               refine gd_tf rfl rfl rfl (rfl) rfl rfl ?_
               refine gd_tf rfl rfl rfl (rfl) rfl rfl ?_
               refine ro rfl (ok_pick_false rfl rfl rfl rfl (rfl) rfl ?_)
               refine rn ?_
               (repeat (first | refine uw ?_ | refine uo rfl ?_))
               have e1 := oi h1
               subst e1
               exact ghost_le (le_mk ⟨er rfl, er rfl, er rfl, er rfl, trivial⟩ trivial)
             ·replace h1 := if_f c47 h1
              refine gd_tf rfl rfl rfl (df c47) rfl rfl ?_
              refine gd_tf rfl rfl rfl (df c47) rfl rfl ?_
              refine ro rfl (ok_pick_false rfl rfl rfl rfl (df c47) rfl ?_)
              refine ro rfl (ok_move rfl rfl rfl rfl ?_)
              refine gd_tf rfl rfl rfl (rfl) rfl rfl ?_
              refine gd_tf rfl rfl rfl (rfl) rfl rfl ?_
              refine gd_tf rfl rfl rfl (rfl) rfl rfl ?_
              refine gd_tf rfl rfl rfl (rfl) rfl rfl ?_
              refine gd_tf rfl rfl rfl (rfl) rfl rfl ?_
              refine gd_tf rfl rfl rfl (rfl) rfl rfl ?_
              refine ro rfl (ok_pick_false rfl rfl rfl rfl (rfl) rfl ?_)
              refine ro rfl (ok_move rfl rfl rfl rfl ?_)
              refine gd_tf rfl rfl rfl (rfl) rfl rfl ?_
              refine gd_tf rfl rfl rfl (rfl) rfl rfl ?_
              refine gd_tf rfl rfl rfl (rfl) rfl rfl ?_
              refine gd_tf rfl rfl rfl (rfl) rfl rfl ?_
              refine ro rfl (ok_pick_false rfl rfl rfl rfl (rfl) rfl ?_)
              refine ro rfl (ok_move rfl rfl rfl rfl ?_)
              refine gd_tf rfl rfl rfl (rfl) rfl rfl ?_
              refine gd_tf rfl rfl rfl (rfl) rfl rfl ?_
              refine gd_tf rfl rfl rfl (rfl) rfl rfl ?_
              refine gd_tf rfl rfl rfl (rfl) rfl rfl ?_
              refine ro rfl (ok_pick_false rfl rfl rfl rfl (rfl) rfl ?_)
              refine rn ?_
              (repeat (first | refine uw ?_ | refine uo rfl ?_))
              have e1 := oi h1
              subst e1
              exact ghost_le (le_mk ⟨er rfl, er rfl, er rfl, er rfl, trivial⟩ trivial)
           ·skip
            refine awp_seq (awp_reg ?_)
            refine ro rfl (ok_move rfl rfl rfl rfl ?_)
            refine ro rfl (ok_cmp rfl rfl rfl rfl rfl rfl ?_)
            refine rn ?_
            refine wp_ifD rfl (fun c45 => ?_) (fun c45 => ?_)
            ·replace h1 := if_t c45 h1
             refine awp_reg ?_
             refine ro rfl (ok_assign rfl rfl rfl rfl ?_)
             refine rn ?_
             (repeat (first | refine uw ?_ | refine uo rfl ?_))
             have e1 := oi h1
             subst e1
             exact ghost_le (le_mk ⟨er rfl, er rfl, er rfl, er rfl, er rfl, trivial⟩ trivial)
            ·replace h1 := if_f c45 h1
             refine awp_skip ?_
             (repeat (first | refine uw ?_ | refine uo rfl ?_))
             have e1 := oi h1
             subst e1
             exact ghost_le (le_mk ⟨er rfl, er rfl, er rfl, er rfl, er rfl, trivial⟩ trivial)
          ·skip
           refine awp_seq (awp_reg ?_)
           refine ro rfl (ok_move rfl rfl rfl rfl ?_)
           refine ro rfl (ok_cmp rfl rfl rfl rfl rfl rfl ?_)
           refine rn ?_
           refine wp_ifD rfl (fun c43 => ?_) (fun c43 => ?_)
           ·replace h1 := if_t c43 h1
            refine awp_reg ?_
            refine ro rfl (ok_assign rfl rfl rfl rfl ?_)
            refine rn ?_
            (repeat (first | refine uw ?_ | refine uo rfl ?_))
            have e1 := oi h1
            subst e1
            exact ghost_le (le_mk ⟨er rfl, er rfl, er rfl, er rfl, er rfl, trivial⟩ trivial)
           ·replace h1 := if_f c43 h1
            refine awp_skip ?_
            (repeat (first | refine uw ?_ | refine uo rfl ?_))
            have e1 := oi h1
            subst e1
            exact ghost_le (le_mk ⟨er rfl, er rfl, er rfl, er rfl, er rfl, trivial⟩ trivial)
        ·skip
         refine awp_reg ?_
         refine ro rfl (ok_move rfl rfl rfl rfl ?_)
         refine ro rfl (ok_cmp rfl rfl rfl rfl rfl rfl ?_)
         refine ro rfl (ok_move rfl rfl rfl rfl ?_)
         refine gd_D rfl rfl rfl (fun c23 => ?_) (fun c23 => ?_)
         ·replace h1 := if_t c23 h1
          refine gd_tt rfl rfl rfl (dt c23) (ok_move rfl rfl rfl rfl ?_)
          refine gd_tt rfl rfl rfl (dt c23) (ok_cmp rfl rfl rfl rfl rfl rfl ?_)
          refine ro rfl (ok_pick_true rfl rfl rfl rfl (dt c23) rfl ?_)
          refine ro rfl (ok_move rfl rfl rfl rfl ?_)
          refine gd_D rfl rfl rfl (fun c24 => ?_) (fun c24 => ?_)
          ·replace h1 := if_t c24 h1
           refine gd_tt rfl rfl rfl (dt c24) (ok_move rfl rfl rfl rfl ?_)
           refine gd_tt rfl rfl rfl (dt c24) (ok_move rfl rfl rfl rfl ?_)
           obtain ⟨hk25, h1⟩ := ck_cut h1
           refine gd_tt rfl rfl rfl (dt c24) (ok_ar rfl rfl rfl rfl rfl rfl hk25 ?_)
           refine gd_tt rfl rfl rfl (dt c24) (ok_move rfl rfl rfl rfl ?_)
           refine gd_tt rfl rfl rfl (dt c24) (ok_move rfl rfl rfl rfl ?_)
           obtain ⟨r26, e27, h1⟩ := bd_cut h1
           refine gd_tt rfl rfl rfl (dt c24) (ok_callP (ref02_cont_ok s_0 (i_1 + 1) o87 o89 _ e27) rfl rfl rfl rfl ⟨sr, sr, sr, sr, trivial⟩ Tryz.call108 rfl ?_)
           refine ro rfl (ok_pick_true rfl rfl rfl rfl (dt c24) rfl ?_)
           refine ro rfl (ok_move rfl rfl rfl rfl ?_)
           refine gd_B rfl rfl rfl (fun c28 => ?_) (fun c28 => ?_)
           ·replace h1 := if_t c28 h1
            refine gd_tt rfl rfl rfl (c28) (ok_move rfl rfl rfl rfl ?_)
            refine gd_tt rfl rfl rfl (c28) (ok_move rfl rfl rfl rfl ?_)
            obtain ⟨hk29, h1⟩ := ck_cut h1
            refine gd_tt rfl rfl rfl (c28) (ok_ar rfl rfl rfl rfl rfl rfl hk29 ?_)
            obtain ⟨r30, e31, h1⟩ := bd_cut h1
            refine gd_tt rfl rfl rfl (c28) (ok_callP (ref02_cont_ok s_0 (i_1 + 2) 128 191 _ e31) rfl rfl rfl rfl ⟨sr, sr, sr, sr, trivial⟩ Tryz.call108 rfl ?_)
            refine ro rfl (ok_pick_true rfl rfl rfl rfl (c28) rfl ?_)
            refine rn ?_
            (repeat (first | refine uw ?_ | refine uo rfl ?_))
            have e1 := oi h1
            subst e1
            exact ghost_le (le_mk ⟨er rfl, er rfl, er rfl, er rfl, trivial⟩ trivial)
           ·replace h1 := if_bf c28 h1
            refine gd_tf rfl rfl rfl (c28) rfl rfl ?_
            refine gd_tf rfl rfl rfl (c28) rfl rfl ?_
            refine gd_tf rfl rfl rfl (c28) rfl rfl ?_
            refine gd_tf rfl rfl rfl (c28) rfl rfl ?_
            refine ro rfl (ok_pick_false rfl rfl rfl rfl (c28) rfl ?_)
            refine rn ?_
            (repeat (first | refine uw ?_ | refine uo rfl ?_))
            have e1 := oi h1
            subst e1
            exact ghost_le (le_mk ⟨er rfl, er rfl, er rfl, er rfl, trivial⟩ trivial)
          ·replace h1 := if_f c24 h1
           refine gd_tf rfl rfl rfl (df c24) rfl rfl ?_
           refine gd_tf rfl rfl rfl (df c24) rfl rfl ?_
           refine gd_tf rfl rfl rfl (df c24) rfl rfl ?_
           refine gd_tf rfl rfl rfl (df c24) rfl rfl ?_
           refine gd_tf rfl rfl rfl (df c24) rfl rfl ?_
           refine gd_tf rfl rfl rfl (df c24) rfl rfl ?_
           refine ro rfl (ok_pick_false rfl rfl rfl rfl (df c24) rfl ?_)
           refine ro rfl (ok_move rfl rfl rfl rfl ?_)
           refine gd_tf rfl rfl rfl (rfl) rfl rfl ?_
           refine gd_tf rfl rfl rfl (rfl) rfl rfl ?_
           refine gd_tf rfl rfl rfl (rfl) rfl rfl ?_
           refine gd_tf rfl rfl rfl (rfl) rfl rfl ?_
           refine ro rfl (ok_pick_false rfl rfl rfl rfl (rfl) rfl ?_)
           refine rn ?_
           (repeat (first | refine uw ?_ | refine uo rfl ?_))
           have e1 := oi h1
           subst e1
           exact ghost_le (le_mk ⟨er rfl, er rfl, er rfl, er rfl, trivial⟩ trivial)
         ·replace h1 := if_f c23 h1
          refine gd_tf rfl rfl rfl (df c23) rfl rfl ?_
          refine gd_tf rfl rfl rfl (df c23) rfl rfl ?_
          refine ro rfl (ok_pick_false rfl rfl rfl rfl (df c23) rfl ?_)
          refine ro rfl (ok_move rfl rfl rfl rfl ?_)
          refine gd_tf rfl rfl rfl (rfl) rfl rfl ?_
          refine gd_tf rfl rfl rfl (rfl) rfl rfl ?_
          refine gd_tf rfl rfl rfl (rfl) rfl rfl ?_
          refine gd_tf rfl rfl rfl (rfl) rfl rfl ?_
          refine gd_tf rfl rfl rfl (rfl) rfl rfl ?_
          refine gd_tf rfl rfl rfl (rfl) rfl rfl ?_
          refine ro rfl (ok_pick_false rfl rfl rfl rfl (rfl) rfl ?_)
          refine ro rfl (ok_move rfl rfl rfl rfl ?_)
          refine gd_tf rfl rfl rfl (rfl) rfl rfl ?_
          refine gd_tf rfl rfl rfl (rfl) rfl rfl ?_
          refine gd_tf rfl rfl rfl (rfl) rfl rfl ?_
          refine gd_tf rfl rfl rfl (rfl) rfl rfl ?_
          refine ro rfl (ok_pick_false rfl rfl rfl rfl (rfl) rfl ?_)
          refine rn ?_
          (repeat (first | refine uw ?_ | refine uo rfl ?_))
          have e1 := oi h1
          subst e1
          exact ghost_le (le_mk ⟨er rfl, er rfl, er rfl, er rfl, trivial⟩ trivial)
       ·skip
        refine awp_seq (awp_reg ?_)
        refine ro rfl (ok_move rfl rfl rfl rfl ?_)
        refine ro rfl (ok_cmp rfl rfl rfl rfl rfl rfl ?_)
        refine rn ?_
        refine wp_ifD rfl (fun c21 => ?_) (fun c21 => ?_)
        ·replace h1 := if_t c21 h1
         refine awp_reg ?_
         refine ro rfl (ok_assign rfl rfl rfl rfl ?_)
         refine rn ?_
         (repeat (first | refine uw ?_ | refine uo rfl ?_))
         have e1 := oi h1
         subst e1
         exact ghost_le (le_mk ⟨er rfl, er rfl, er rfl, er rfl, er rfl, trivial⟩ trivial)
        ·replace h1 := if_f c21 h1
         refine awp_skip ?_
         (repeat (first | refine uw ?_ | refine uo rfl ?_))
         have e1 := oi h1
         subst e1
         exact ghost_le (le_mk ⟨er rfl, er rfl, er rfl, er rfl, er rfl, trivial⟩ trivial)
      ·skip
       refine awp_seq (awp_reg ?_)
       refine ro rfl (ok_move rfl rfl rfl rfl ?_)
       refine ro rfl (ok_cmp rfl rfl rfl rfl rfl rfl ?_)
       refine rn ?_
       refine wp_ifD rfl (fun c19 => ?_) (fun c19 => ?_)
       ·replace h1 := if_t c19 h1
        refine awp_reg ?_
        refine ro rfl (ok_assign rfl rfl rfl rfl ?_)
        refine rn ?_
        (repeat (first | refine uw ?_ | refine uo rfl ?_))
        have e1 := oi h1
        subst e1
        exact ghost_le (le_mk ⟨er rfl, er rfl, er rfl, er rfl, er rfl, trivial⟩ trivial)
       ·replace h1 := if_f c19 h1
        refine awp_skip ?_
        (repeat (first | refine uw ?_ | refine uo rfl ?_))
        have e1 := oi h1
        subst e1
        exact ghost_le (le_mk ⟨er rfl, er rfl, er rfl, er rfl, er rfl, trivial⟩ trivial)
    ·skip
     refine awp_reg ?_
     refine ro rfl (ok_move rfl rfl rfl rfl ?_)
     refine ro rfl (ok_cmp rfl rfl rfl rfl rfl rfl ?_)
     refine ro rfl (ok_move rfl rfl rfl rfl ?_)
     refine gd_D rfl rfl rfl (fun c7 => ?_) (fun c7 => ?_)
     ·replace h1 := if_t c7 h1
      refine gd_tt rfl rfl rfl (dt c7) (ok_move rfl rfl rfl rfl ?_)
      refine gd_tt rfl rfl rfl (dt c7) (ok_cmp rfl rfl rfl rfl rfl rfl ?_)
      refine ro rfl (ok_pick_true rfl rfl rfl rfl (dt c7) rfl ?_)
      refine ro rfl (ok_move rfl rfl rfl rfl ?_)
      refine gd_D rfl rfl rfl (fun c8 => ?_) (fun c8 => ?_)
      ·replace h1 := if_t c8 h1
       refine gd_tt rfl rfl rfl (dt c8) (ok_move rfl rfl rfl rfl ?_)
       refine gd_tt rfl rfl rfl (dt c8) (ok_move rfl rfl rfl rfl ?_)
       obtain ⟨hk9, h1⟩ := ck_cut h1
       refine gd_tt rfl rfl rfl (dt c8) (ok_ar rfl rfl rfl rfl rfl rfl hk9 ?_)
       obtain ⟨r10, e11, h1⟩ := bd_cut h1
       refine gd_tt rfl rfl rfl (dt c8) (ok_callP (ref02_cont_ok s_0 (i_1 + 1) 128 191 _ e11) rfl rfl rfl rfl ⟨sr, sr, sr, sr, trivial⟩ Tryz.call108 rfl ?_)
       refine ro rfl (ok_pick_true rfl rfl rfl rfl (dt c8) rfl ?_)
       refine rn ?_
       (repeat (first | refine uw ?_ | refine uo rfl ?_))
       have e1 := oi h1
       subst e1
       exact ghost_le (le_mk ⟨er rfl, er rfl, er rfl, er rfl, trivial⟩ trivial)
      ·replace h1 := if_f c8 h1
       refine gd_tf rfl rfl rfl (df c8) rfl rfl ?_
       refine gd_tf rfl rfl rfl (df c8) rfl rfl ?_
       refine gd_tf rfl rfl rfl (df c8) rfl rfl ?_
       refine gd_tf rfl rfl rfl (df c8) rfl rfl ?_
       refine ro rfl (ok_pick_false rfl rfl rfl rfl (df c8) rfl ?_)
       refine rn ?_
       (repeat (first | refine uw ?_ | refine uo rfl ?_))
       have e1 := oi h1
       subst e1
       exact ghost_le (le_mk ⟨er rfl, er rfl, er rfl, er rfl, trivial⟩ trivial)
     ·replace h1 := if_f c7 h1
      refine gd_tf rfl rfl rfl (df c7) rfl rfl ?_
      refine gd_tf rfl rfl rfl (df c7) rfl rfl ?_
      refine ro rfl (ok_pick_false rfl rfl rfl rfl (df c7) rfl ?_)
      refine ro rfl (ok_move rfl rfl rfl rfl ?_)
      refine gd_tf rfl rfl rfl (rfl) rfl rfl ?_
      refine gd_tf rfl rfl rfl (rfl) rfl rfl ?_
      refine gd_tf rfl rfl rfl (rfl) rfl rfl ?_
      refine gd_tf rfl rfl rfl (rfl) rfl rfl ?_
      refine ro rfl (ok_pick_false rfl rfl rfl rfl (rfl) rfl ?_)
      refine rn ?_
      (repeat (first | refine uw ?_ | refine uo rfl ?_))
      have e1 := oi h1
      subst e1
      exact ghost_le (le_mk ⟨er rfl, er rfl, er rfl, er rfl, trivial⟩ trivial)
 ·skip
  refine awp_reg ?_
  refine ro rfl (ok_move rfl rfl rfl rfl ?_)
  refine ro rfl (ok_cmp rfl rfl rfl rfl rfl rfl ?_)
  refine ro rfl (ok_move rfl rfl rfl rfl ?_)
  refine gd_D rfl rfl rfl (fun c1 => ?_) (fun c1 => ?_)
  ·replace h1 := if_t c1 h1
   refine gd_ft rfl rfl rfl (dt c1) rfl rfl ?_
   refine gd_ft rfl rfl rfl (dt c1) rfl rfl ?_
   refine gd_ft rfl rfl rfl (dt c1) rfl rfl ?_
   refine gd_ft rfl rfl rfl (dt c1) rfl rfl ?_
   refine ro rfl (ok_pick_true rfl rfl rfl rfl (dt c1) rfl ?_)
   refine rn ?_
   (repeat (first | refine uw ?_ | refine uo rfl ?_))
   have e1 := oi h1
   subst e1
   exact ghost_le (le_mk ⟨er rfl, er rfl, er rfl, trivial⟩ trivial)
  ·replace h1 := if_f c1 h1
   refine gd_ff rfl rfl rfl (df c1) (ok_move rfl rfl rfl rfl ?_)
   refine gd_ff rfl rfl rfl (df c1) (ok_move rfl rfl rfl rfl ?_)
   refine gd_ff rfl rfl rfl (df c1) (ok_lenS rfl rfl rfl rfl rfl rfl ?_)
   refine gd_ff rfl rfl rfl (df c1) (ok_cmp rfl rfl rfl rfl rfl rfl ?_)
   refine ro rfl (ok_pick_false rfl rfl rfl rfl (df c1) rfl ?_)
   refine rn ?_
   (repeat (first | refine uw ?_ | refine uo rfl ?_))
   have e1 := oi h1
   subst e1
   exact ghost_le (le_mk ⟨er rfl, er rfl, er rfl, trivial⟩ trivial)

def ref02_Valid_l1 (s_0 : Bytes) : Nat → Int → Option (Unit ⊕ Bool)
 | 0, _ => none
 | m + 1, i8 =>
 if i8 < (s_0.length : Int) then
  (ref02_Decode s_0 i8).bind fun r10 =>
  if r10.2 = 0 then
   some (.inr false)
  else
   ck (inR (i8 + r10.2)) <|
   ref02_Valid_l1 s_0 m (i8 + r10.2)
 else
  some (.inl ())

def ref02_Valid (n : Nat) (s_0 : Bytes) : Option Bool :=
 if 4096 < (s_0.length : Int) then
  some false
 else
  jn (ref02_Valid_l1 s_0 n 0) fun q15 =>
  some true

set_option maxHeartbeats 4000000 in
theorem ref02_Valid_ok (n : Nat) (s_0 : Bytes) (r : Bool) (h0 : ref02_Valid n s_0 = some r) : PCalls Tryz.prog 63 [eS s_0] (· = .p (eB r)) := by
 unfold ref02_Valid at h0
 refine pbodyA good Tryz.func63 rfl rfl rfl fun w0 => ?_
 refine awp_seq (awp_reg ?_)
 refine ro rfl (ok_assign rfl rfl rfl rfl ?_)
 refine rn ?_
 refine awp_seq (awp_seq (awp_reg ?_))
 refine ro rfl (ok_move rfl rfl rfl rfl ?_)
 refine ro rfl (ok_lenS rfl rfl rfl rfl rfl rfl ?_)
 refine ro rfl (ok_cmp rfl rfl rfl rfl rfl rfl ?_)
 refine rn ?_
 refine wp_ifD rfl (fun c1 => ?_) (fun c1 => ?_)
 ·replace h0 := if_t c1 h0
  refine awp_seq (awp_reg ?_)
  refine ro rfl (ok_assign rfl rfl rfl rfl ?_)
  refine rn ?_
  refine awp_ret ?_
  (repeat (first | refine uw ?_ | refine uo rfl ?_))
  have e0 := oi h0
  subst e0
  refine reta_mk rfl ?_
  exact sr
 ·replace h0 := if_f c1 h0
  refine awp_skip (awp_seq (awp_seq (awp_reg ?_)))
  refine ro rfl (ok_assign rfl rfl rfl rfl ?_)
  refine rn ?_
  refine awp_block ?_
  obtain ⟨o16, h1, hL0, hR0⟩ := jn_cut h0
  refine awp_joinEx 0 (fun v17 : Unit => o16 = .inl v17) (fun v17 => ⟨[], []⟩) ?_ ?_
  ·rintro s' ⟨v17, hv, hle⟩
   have h0 := hL0 _ hv
   (repeat (first | refine uw ?_ | refine uo rfl ?_))
   refine awp_ghost hle ?_
   (repeat (first | refine uw ?_ | refine uo rfl ?_))
   refine awp_seq (awp_reg ?_)
   refine ro rfl (ok_assign rfl rfl rfl rfl ?_)
   refine rn ?_
   refine awp_ret ?_
   (repeat (first | refine uw ?_ | refine uo rfl ?_))
   have e0 := oi h0
   subst e0
   refine reta_mk rfl ?_
   exact sr
  ·skip
   refine awp_loopG (fun (q18 : Int) => ⟨[(0, .p (eS s_0)), (3, .p (eI q18))], []⟩) (fun m (q18 : Int) => ref02_Valid_l1 s_0 m q18) (fun _ => rfl) 0 h1 (ghost_le (le_mk ⟨er rfl, er rfl, trivial⟩ trivial)) ?_
   rintro m i8 h1
   replace h1 : ref02_Valid_l1 s_0 (m + 1) i8 = some o16 := h1
   rw [ref02_Valid_l1] at h1
   refine awp_seq (awp_seq (awp_reg ?_))
   refine ro rfl (ok_move rfl rfl rfl rfl ?_)
   refine ro rfl (ok_move rfl rfl rfl rfl ?_)
   refine ro rfl (ok_lenS rfl rfl rfl rfl rfl rfl ?_)
   refine ro rfl (ok_cmp rfl rfl rfl rfl rfl rfl ?_)
   refine rn ?_
   refine wp_ifD rfl (fun c9 => ?_) (fun c9 => ?_)
   ·replace h1 := if_t c9 h1
    refine awp_skip (awp_block (awp_seq (awp_reg ?_)))
    refine ro rfl (ok_move rfl rfl rfl rfl ?_)
    refine ro rfl (ok_move rfl rfl rfl rfl ?_)
    obtain ⟨r10, e11, h1⟩ := bd_cut h1
    refine ro rfl (ok_callP (ref02_Decode_ok s_0 i8 _ e11) rfl rfl rfl rfl ⟨sr, sr, trivial⟩ Tryz.call84 rfl ?_)
    refine ro rfl (ok_move rfl rfl rfl rfl ?_)
    refine ro rfl (ok_extract rfl rfl rfl rfl rfl ?_)
    refine ro rfl (ok_extract rfl rfl rfl rfl rfl ?_)
    refine ro rfl (ok_assign rfl rfl rfl rfl ?_)
    refine ro rfl (ok_assign rfl rfl rfl rfl ?_)
    refine rn ?_
    refine awp_seq (awp_seq (awp_reg ?_))
    refine ro rfl (ok_move rfl rfl rfl rfl ?_)
    refine ro rfl (ok_cmp rfl rfl rfl rfl rfl rfl ?_)
    refine rn ?_
    refine wp_ifD rfl (fun c12 => ?_) (fun c12 => ?_)
    ·replace h1 := if_t c12 h1
     refine awp_seq (awp_reg ?_)
     refine ro rfl (ok_assign rfl rfl rfl rfl ?_)
     refine rn ?_
     refine awp_ret ?_
     (repeat (first | refine uw ?_ | refine uo rfl ?_))
     have e1 := oi h1
     have e0 := hR0 _ e1.symm
     subst e0
     refine reta_mk rfl ?_
     exact sr
    ·replace h1 := if_f c12 h1
     refine awp_skip (awp_reg ?_)
     refine ro rfl (ok_move rfl rfl rfl rfl ?_)
     refine ro rfl (ok_move rfl rfl rfl rfl ?_)
     obtain ⟨hk13, h1⟩ := ck_cut h1
     refine ro rfl (ok_ar rfl rfl rfl rfl rfl rfl hk13 ?_)
     refine ro rfl (ok_assign rfl rfl rfl rfl ?_)
     refine rn ?_
     (repeat (first | refine uw ?_ | refine uo rfl ?_))
     (repeat (first | refine uw ?_ | refine uo rfl ?_))
     exact ⟨(i8 + r10.2), h1, ghost_le (le_mk ⟨er rfl, er rfl, trivial⟩ trivial)⟩
   ·replace h1 := if_f c9 h1
    refine awp_exit ?_
    (repeat (first | refine uw ?_ | refine uo rfl ?_))
    have e1 := oi h1
    exact ⟨_, e1.symm, ghost_le (le_mk trivial trivial)⟩

def ref06_Key (n : Nat) (k_0 : TKey) : Option Bool :=
 if k_0.fKind = 1 then
  (
    if 0 ≤ k_0.fNum then
     if k_0.fNum ≤ 9007199254740992 then
      some (decide (k_0.fStr = ([] : Bytes)))
     else
      some false
    else
     some false
   : Option Bool).bind fun t4 =>
  some t4
 else
  if k_0.fKind = 2 then
   (
     if k_0.fNum = 0 then
      (ref02_Valid n k_0.fStr).bind fun r7 =>
      some r7
     else
      some false
    : Option Bool).bind fun t9 =>
   some t9
  else
   some (decide (k_0.fKind = 0 ∧ k_0.fNum = 0 ∧ k_0.fStr = ([] : Bytes)))

set_option maxHeartbeats 4000000 in
theorem ref06_Key_ok (n : Nat) (k_0 : TKey) (r : Bool) (h0 : ref06_Key n k_0 = some r) : PCalls Tryz.prog 29 [.agg (TKey.cs k_0)] (· = .p (eB r)) := by
 unfold ref06_Key at h0
 refine pbodyA good Tryz.func29 rfl rfl rfl fun w0 => ?_
 refine awp_seq (awp_reg ?_)
 refine ro rfl (ok_box rfl rfl rfl rfl rfl ?_)
 refine ro rfl (ok_assign rfl rfl rfl rfl ?_)
 refine rn ?_
 refine awp_seq (awp_seq (awp_reg ?_))
 refine ro rfl (ok_fieldAddrP rfl rfl rfl rfl rfl rfl rfl rfl rfl ?_)
 refine ro rfl (ok_loadP1 rfl rfl rfl rfl rfl rfl rfl rfl ?_)
 refine ro rfl (ok_cmp rfl rfl rfl rfl rfl rfl ?_)
 refine rn ?_
 refine wp_ifD rfl (fun c1 => ?_) (fun c1 => ?_)
 ·replace h0 := if_t c1 h0
  refine awp_seq ?_
  obtain ⟨o12, h1, h0⟩ := bd_cut h0
  refine awp_joinN ⟨[(2, .p (eB o12))], []⟩ ?_ ?_
  ·intro s' hle
   (repeat (first | refine uw ?_ | refine uo rfl ?_))
   refine awp_ghost hle ?_
   refine awp_ret ?_
   (repeat (first | refine uw ?_ | refine uo rfl ?_))
   have e0 := oi h0
   subst e0
   refine reta_mk rfl ?_
   exact sr
  ·skip
   refine awp_reg ?_
   refine ro rfl (ok_fieldAddrP rfl rfl rfl rfl rfl rfl rfl rfl rfl ?_)
   refine ro rfl (ok_loadP1 rfl rfl rfl rfl rfl rfl rfl rfl ?_)
   refine ro rfl (ok_cmp rfl rfl rfl rfl rfl rfl ?_)
   refine ro rfl (ok_move rfl rfl rfl rfl ?_)
   refine gd_D rfl rfl rfl (fun c2 => ?_) (fun c2 => ?_)
   ·replace h1 := if_t c2 h1
    refine gd_tt rfl rfl rfl (dt c2) (ok_fieldAddrP rfl rfl rfl rfl rfl rfl rfl rfl rfl ?_)
    refine gd_tt rfl rfl rfl (dt c2) (ok_loadP1 rfl rfl rfl rfl rfl rfl rfl rfl ?_)
    refine gd_tt rfl rfl rfl (dt c2) (ok_cmp rfl rfl rfl rfl rfl rfl ?_)
    refine ro rfl (ok_pick_true rfl rfl rfl rfl (dt c2) rfl ?_)
    refine ro rfl (ok_move rfl rfl rfl rfl ?_)
    refine gd_D rfl rfl rfl (fun c3 => ?_) (fun c3 => ?_)
    ·replace h1 := if_t c3 h1
     refine gd_tt rfl rfl rfl (dt c3) (ok_fieldAddrP rfl rfl rfl rfl rfl rfl rfl rfl rfl ?_)
     refine gd_tt rfl rfl rfl (dt c3) (ok_loadP1 rfl rfl rfl rfl rfl rfl rfl rfl ?_)
     refine gd_tt rfl rfl rfl (dt c3) (ok_cmpS rfl rfl rfl rfl rfl rfl ?_)
     refine ro rfl (ok_pick_true rfl rfl rfl rfl (dt c3) rfl ?_)
     refine ro rfl (ok_assign rfl rfl rfl rfl ?_)
     refine rn ?_
     (repeat (first | refine uw ?_ | refine uo rfl ?_))
     have e1 := oi h1
     subst e1
     exact ghost_le (le_mk ⟨er rfl, trivial⟩ trivial)
    ·replace h1 := if_f c3 h1
     refine gd_tf rfl rfl rfl (df c3) rfl rfl ?_
     refine gd_tf rfl rfl rfl (df c3) rfl rfl ?_
     refine gd_tf rfl rfl rfl (df c3) rfl rfl ?_
     refine ro rfl (ok_pick_false rfl rfl rfl rfl (df c3) rfl ?_)
     refine ro rfl (ok_assign rfl rfl rfl rfl ?_)
     refine rn ?_
     (repeat (first | refine uw ?_ | refine uo rfl ?_))
     have e1 := oi h1
     subst e1
     exact ghost_le (le_mk ⟨er rfl, trivial⟩ trivial)
   ·replace h1 := if_f c2 h1
    refine gd_tf rfl rfl rfl (df c2) rfl rfl ?_
    refine gd_tf rfl rfl rfl (df c2) rfl rfl ?_
    refine gd_tf rfl rfl rfl (df c2) rfl rfl ?_
    refine ro rfl (ok_pick_false rfl rfl rfl rfl (df c2) rfl ?_)
    refine ro rfl (ok_move rfl rfl rfl rfl ?_)
    refine gd_tf rfl rfl rfl (rfl) rfl rfl ?_
    refine gd_tf rfl rfl rfl (rfl) rfl rfl ?_
    refine gd_tf rfl rfl rfl (rfl) rfl rfl ?_
    refine ro rfl (ok_pick_false rfl rfl rfl rfl (rfl) rfl ?_)
    refine ro rfl (ok_assign rfl rfl rfl rfl ?_)
    refine rn ?_
    (repeat (first | refine uw ?_ | refine uo rfl ?_))
    have e1 := oi h1
    subst e1
    exact ghost_le (le_mk ⟨er rfl, trivial⟩ trivial)
 ·replace h0 := if_f c1 h0
  refine awp_skip (awp_seq (awp_seq (awp_reg ?_)))
  refine ro rfl (ok_fieldAddrP rfl rfl rfl rfl rfl rfl rfl rfl rfl ?_)
  refine ro rfl (ok_loadP1 rfl rfl rfl rfl rfl rfl rfl rfl ?_)
  refine ro rfl (ok_cmp rfl rfl rfl rfl rfl rfl ?_)
  refine rn ?_
  refine wp_ifD rfl (fun c5 => ?_) (fun c5 => ?_)
  ·replace h0 := if_t c5 h0
   refine awp_seq ?_
   obtain ⟨o14, h1, h0⟩ := bd_cut h0
   refine awp_joinN ⟨[(2, .p (eB o14))], []⟩ ?_ ?_
   ·intro s' hle
    (repeat (first | refine uw ?_ | refine uo rfl ?_))
    refine awp_ghost hle ?_
    refine awp_ret ?_
    (repeat (first | refine uw ?_ | refine uo rfl ?_))
    have e0 := oi h0
    subst e0
    refine reta_mk rfl ?_
    exact sr
   ·skip
    refine awp_reg ?_
    refine ro rfl (ok_fieldAddrP rfl rfl rfl rfl rfl rfl rfl rfl rfl ?_)
    refine ro rfl (ok_loadP1 rfl rfl rfl rfl rfl rfl rfl rfl ?_)
    refine ro rfl (ok_cmp rfl rfl rfl rfl rfl rfl ?_)
    refine ro rfl (ok_move rfl rfl rfl rfl ?_)
    refine gd_D rfl rfl rfl (fun c6 => ?_) (fun c6 => ?_)
    ·replace h1 := if_t c6 h1
     refine gd_tt rfl rfl rfl (dt c6) (ok_fieldAddrP rfl rfl rfl rfl rfl rfl rfl rfl rfl ?_)
     refine gd_tt rfl rfl rfl (dt c6) (ok_loadP1 rfl rfl rfl rfl rfl rfl rfl rfl ?_)
     obtain ⟨r7, e8, h1⟩ := bd_cut h1
     refine gd_tt rfl rfl rfl (dt c6) (ok_callP (ref02_Valid_ok _ k_0.fStr _ e8) rfl rfl rfl rfl ⟨sr, trivial⟩ Tryz.call63 rfl ?_)
     refine ro rfl (ok_pick_true rfl rfl rfl rfl (dt c6) rfl ?_)
     refine ro rfl (ok_assign rfl rfl rfl rfl ?_)
     refine rn ?_
     (repeat (first | refine uw ?_ | refine uo rfl ?_))
     have e1 := oi h1
     subst e1
     exact ghost_le (le_mk ⟨er rfl, trivial⟩ trivial)
    ·replace h1 := if_f c6 h1
     refine gd_tf rfl rfl rfl (df c6) rfl rfl ?_
     refine gd_tf rfl rfl rfl (df c6) rfl rfl ?_
     refine gd_tf rfl rfl rfl (df c6) rfl rfl ?_
     refine ro rfl (ok_pick_false rfl rfl rfl rfl (df c6) rfl ?_)
     refine ro rfl (ok_assign rfl rfl rfl rfl ?_)
     refine rn ?_
     (repeat (first | refine uw ?_ | refine uo rfl ?_))
     have e1 := oi h1
     subst e1
     exact ghost_le (le_mk ⟨er rfl, trivial⟩ trivial)
  ·replace h0 := if_f c5 h0
   refine awp_skip (awp_seq (awp_reg ?_))
   refine ro rfl (ok_loadPA rfl rfl rfl rfl rfl rfl rfl rfl rfl ?_)
   refine ro rfl (ok_build rfl rfl rfl rfl rfl rfl rfl rfl rfl ?_)
   refine ro rfl (op_eqS (k_0.fKind = 0 ∧ k_0.fNum = 0 ∧ k_0.fStr = ([] : Bytes)) rfl rfl rfl rfl rfl rfl rfl (by kernel_rfl) rfl rfl (.inl ⟨rfl, rfl⟩) ?_)
   refine ro rfl (ok_assign rfl rfl rfl rfl ?_)
   refine rn ?_
   refine awp_ret ?_
   (repeat (first | refine uw ?_ | refine uo rfl ?_))
   have e0 := oi h0
   subst e0
   refine reta_mk rfl ?_
   exact sr

def ref06_Reserved_l1 (s_0 : Bytes) : Nat → Int → Option (Unit ⊕ Bool)
 | 0, _ => none
 | m + 1, i6 =>
 if i6 < (([([109, 111, 100, 117, 108, 101] : Bytes), ([100, 97, 116, 97] : Bytes), ([118, 97, 114] : Bytes), ([108, 111, 99, 97, 108] : Bytes), ([111, 117, 116, 112, 117, 116] : Bytes), ([101, 97, 99, 104] : Bytes), ([99, 111, 117, 110, 116] : Bytes), ([114, 101, 109, 111, 116, 101] : Bytes), ([112, 97, 116, 104] : Bytes), ([115, 101, 108, 102] : Bytes), ([99, 104, 97, 110, 103, 101] : Bytes)]).length : Int) then
  ck ((0 : Int) ≤ i6 ∧ i6 < (([([109, 111, 100, 117, 108, 101] : Bytes), ([100, 97, 116, 97] : Bytes), ([118, 97, 114] : Bytes), ([108, 111, 99, 97, 108] : Bytes), ([111, 117, 116, 112, 117, 116] : Bytes), ([101, 97, 99, 104] : Bytes), ([99, 111, 117, 110, 116] : Bytes), ([114, 101, 109, 111, 116, 101] : Bytes), ([112, 97, 116, 104] : Bytes), ([115, 101, 108, 102] : Bytes), ([99, 104, 97, 110, 103, 101] : Bytes)]).length : Int)) <|
  if lat ([([109, 111, 100, 117, 108, 101] : Bytes), ([100, 97, 116, 97] : Bytes), ([118, 97, 114] : Bytes), ([108, 111, 99, 97, 108] : Bytes), ([111, 117, 116, 112, 117, 116] : Bytes), ([101, 97, 99, 104] : Bytes), ([99, 111, 117, 110, 116] : Bytes), ([114, 101, 109, 111, 116, 101] : Bytes), ([112, 97, 116, 104] : Bytes), ([115, 101, 108, 102] : Bytes), ([99, 104, 97, 110, 103, 101] : Bytes)]) i6 = s_0 then
   some (.inr true)
  else
   ck (inR (i6 + 1)) <|
   ref06_Reserved_l1 s_0 m (i6 + 1)
 else
  some (.inl ())

def ref06_Reserved (n : Nat) (s_0 : Bytes) : Option Bool :=
 jn (ref06_Reserved_l1 s_0 n 0) fun q12 =>
 some false

set_option maxHeartbeats 4000000 in
theorem ref06_Reserved_ok (n : Nat) (s_0 : Bytes) (r : Bool) (h0 : ref06_Reserved n s_0 = some r) : PCalls Tryz.prog 30 [eS s_0] (· = .p (eB r)) := by
 unfold ref06_Reserved at h0
 refine pbodyA good Tryz.func30 rfl rfl rfl fun w0 => ?_
 refine awp_seq (awp_reg ?_)
 refine ro rfl (ok_assign rfl rfl rfl rfl ?_)
 refine rn ?_
 refine awp_seq (awp_reg ?_)
 refine ro rfl (op_bslice eS [([109, 111, 100, 117, 108, 101] : Bytes), ([100, 97, 116, 97] : Bytes), ([118, 97, 114] : Bytes), ([108, 111, 99, 97, 108] : Bytes), ([111, 117, 116, 112, 117, 116] : Bytes), ([101, 97, 99, 104] : Bytes), ([99, 111, 117, 110, 116] : Bytes), ([114, 101, 109, 111, 116, 101] : Bytes), ([112, 97, 116, 104] : Bytes), ([115, 101, 108, 102] : Bytes), ([99, 104, 97, 110, 103, 101] : Bytes)] rfl rfl rfl rfl rfl rfl rfl rfl rfl rfl rfl rfl rfl rfl ?_)
 refine ro rfl (ok_assign rfl rfl rfl rfl ?_)
 refine rn ?_
 refine awp_seq (awp_seq (awp_reg ?_))
 refine ro rfl (ok_assign rfl rfl rfl rfl ?_)
 refine rn ?_
 refine awp_block ?_
 obtain ⟨o13, h1, hL0, hR0⟩ := jn_cut h0
 refine awp_joinEx 0 (fun v14 : Unit => o13 = .inl v14) (fun v14 => ⟨[], []⟩) ?_ ?_
 ·rintro s' ⟨v14, hv, hle⟩
  have h0 := hL0 _ hv
  (repeat (first | refine uw ?_ | refine uo rfl ?_))
  refine awp_ghost hle ?_
  (repeat (first | refine uw ?_ | refine uo rfl ?_))
  refine awp_seq (awp_reg ?_)
  refine ro rfl (ok_assign rfl rfl rfl rfl ?_)
  refine rn ?_
  refine awp_ret ?_
  (repeat (first | refine uw ?_ | refine uo rfl ?_))
  have e0 := oi h0
  subst e0
  refine reta_mk rfl ?_
  exact sr
 ·skip
  refine awp_loopG (fun (q15 : Int) => ⟨[(0, .p (eS s_0)), (3, .p (eL eS ([([109, 111, 100, 117, 108, 101] : Bytes), ([100, 97, 116, 97] : Bytes), ([118, 97, 114] : Bytes), ([108, 111, 99, 97, 108] : Bytes), ([111, 117, 116, 112, 117, 116] : Bytes), ([101, 97, 99, 104] : Bytes), ([99, 111, 117, 110, 116] : Bytes), ([114, 101, 109, 111, 116, 101] : Bytes), ([112, 97, 116, 104] : Bytes), ([115, 101, 108, 102] : Bytes), ([99, 104, 97, 110, 103, 101] : Bytes)]))), (4, .p (eI q15))], []⟩) (fun m (q15 : Int) => ref06_Reserved_l1 s_0 m q15) (fun _ => rfl) 0 h1 (ghost_le (le_mk ⟨er rfl, er rfl, er rfl, trivial⟩ trivial)) ?_
  rintro m i6 h1
  replace h1 : ref06_Reserved_l1 s_0 (m + 1) i6 = some o13 := h1
  rw [ref06_Reserved_l1] at h1
  refine awp_seq (awp_seq (awp_reg ?_))
  refine ro rfl (ok_move rfl rfl rfl rfl ?_)
  refine ro rfl (ok_move rfl rfl rfl rfl ?_)
  refine ro rfl (op_lenL (f := eS) (l := [([109, 111, 100, 117, 108, 101] : Bytes), ([100, 97, 116, 97] : Bytes), ([118, 97, 114] : Bytes), ([108, 111, 99, 97, 108] : Bytes), ([111, 117, 116, 112, 117, 116] : Bytes), ([101, 97, 99, 104] : Bytes), ([99, 111, 117, 110, 116] : Bytes), ([114, 101, 109, 111, 116, 101] : Bytes), ([112, 97, 116, 104] : Bytes), ([115, 101, 108, 102] : Bytes), ([99, 104, 97, 110, 103, 101] : Bytes)]) rfl rfl rfl rfl rfl rfl rfl ?_)
  refine ro rfl (ok_cmp rfl rfl rfl rfl rfl rfl ?_)
  refine rn ?_
  refine wp_ifD rfl (fun c7 => ?_) (fun c7 => ?_)
  ·replace h1 := if_t c7 h1
   refine awp_skip (awp_seq (awp_block (awp_seq (awp_reg ?_))))
   refine ro rfl (ok_move rfl rfl rfl rfl ?_)
   refine ro rfl (ok_move rfl rfl rfl rfl ?_)
   obtain ⟨hk8, h1⟩ := ck_cut h1
   refine ro rfl (op_at (f := eS) (l := [([109, 111, 100, 117, 108, 101] : Bytes), ([100, 97, 116, 97] : Bytes), ([118, 97, 114] : Bytes), ([108, 111, 99, 97, 108] : Bytes), ([111, 117, 116, 112, 117, 116] : Bytes), ([101, 97, 99, 104] : Bytes), ([99, 111, 117, 110, 116] : Bytes), ([114, 101, 109, 111, 116, 101] : Bytes), ([112, 97, 116, 104] : Bytes), ([115, 101, 108, 102] : Bytes), ([99, 104, 97, 110, 103, 101] : Bytes)]) (fun x => [eS x]) rfl rfl rfl rfl rfl rfl rfl rfl rfl hk8 (fun _ => rfl) (fun _ => rfl) ?_)
   refine ro rfl (ok_loadR1 rfl rfl rfl rfl rfl rfl rfl ?_)
   refine ro rfl (ok_move rfl rfl rfl rfl ?_)
   refine ro rfl (ok_cmpS rfl rfl rfl rfl rfl rfl ?_)
   refine rn ?_
   refine wp_ifD rfl (fun c9 => ?_) (fun c9 => ?_)
   ·replace h1 := if_t c9 h1
    refine awp_seq (awp_reg ?_)
    refine ro rfl (ok_assign rfl rfl rfl rfl ?_)
    refine rn ?_
    refine awp_ret ?_
    (repeat (first | refine uw ?_ | refine uo rfl ?_))
    have e1 := oi h1
    have e0 := hR0 _ e1.symm
    subst e0
    refine reta_mk rfl ?_
    exact sr
   ·replace h1 := if_f c9 h1
    refine awp_skip ?_
    (repeat (first | refine uw ?_ | refine uo rfl ?_))
    refine awp_reg ?_
    refine ro rfl (ok_move rfl rfl rfl rfl ?_)
    obtain ⟨hk10, h1⟩ := ck_cut h1
    refine ro rfl (ok_ar rfl rfl rfl rfl rfl rfl hk10 ?_)
    refine ro rfl (ok_assign rfl rfl rfl rfl ?_)
    refine rn ?_
    (repeat (first | refine uw ?_ | refine uo rfl ?_))
    exact ⟨(i6 + 1), h1, ghost_le (le_mk ⟨er rfl, er rfl, er rfl, trivial⟩ trivial)⟩
  ·replace h1 := if_f c7 h1
   refine awp_exit ?_
   (repeat (first | refine uw ?_ | refine uo rfl ?_))
   have e1 := oi h1
   exact ⟨_, e1.symm, ghost_le (le_mk trivial trivial)⟩

def ref06_Check_l1 (n : Nat) (a_0 : TAddress) : Nat → Int → Option (Unit ⊕ Int)
 | 0, _ => none
 | m + 1, i13 =>
 if i13 < (a_0.fModule.length : Int) then
  ck ((0 : Int) ≤ i13 ∧ i13 < (a_0.fModule.length : Int)) <|
  (ref06_Identifier n ((lat a_0.fModule i13).fName)).bind fun r16 =>
  if (!r16) = true then
   some (.inr 7)
  else
   ck ((0 : Int) ≤ i13 ∧ i13 < (a_0.fModule.length : Int)) <|
   (ref06_Key n ((lat a_0.fModule i13).fKey)).bind fun r20 =>
   if (!r20) = true then
    some (.inr 1)
   else
    ck (inR (i13 + 1)) <|
    ref06_Check_l1 n a_0 m (i13 + 1)
 else
  some (.inl ())

def ref06_Check (n : Nat) (a_0 : TAddress) : Option Int :=
 if 16 < (a_0.fModule.length : Int) then
  some 4
 else
  jn (ref06_Check_l1 n a_0 n 0) fun q38 =>
  (
    (ref06_Identifier n a_0.fType).bind fun r25 =>
    if (!r25) = true then
     some true
    else
     (ref06_Reserved n a_0.fType).bind fun r28 =>
     if r28 = true then
      some true
     else
      (ref06_Identifier n a_0.fName).bind fun r31 =>
      some (!r31)
   : Option Bool).bind fun t33 =>
  if t33 = true then
   some 7
  else
   (ref06_Key n a_0.fKey).bind fun r35 =>
   if (!r35) = true then
    some 1
   else
    some 0

set_option maxHeartbeats 4000000 in
theorem ref06_Check_ok (n : Nat) (a_0 : TAddress) (r : Int) (h0 : ref06_Check n a_0 = some r) : PCalls Tryz.prog 10 [.agg (TAddress.cs a_0)] (· = .p (eI r)) := by
 unfold ref06_Check at h0
 refine pbodyA good Tryz.func10 rfl rfl rfl fun w0 => ?_
 refine awp_seq (awp_reg ?_)
 refine ro rfl (ok_box rfl rfl rfl rfl rfl ?_)
 refine ro rfl (ok_assign rfl rfl rfl rfl ?_)
 refine rn ?_
 refine awp_seq (awp_seq (awp_reg ?_))
 refine ro rfl (ok_fieldAddrP rfl rfl rfl rfl rfl rfl rfl rfl rfl ?_)
 refine ro rfl (ok_loadP1 rfl rfl rfl rfl rfl rfl rfl rfl ?_)
 refine ro rfl (op_lenL (f := eTModuleStep) (l := a_0.fModule) rfl rfl rfl rfl rfl rfl rfl ?_)
 refine ro rfl (ok_cmp rfl rfl rfl rfl rfl rfl ?_)
 refine rn ?_
 refine wp_ifD rfl (fun c1 => ?_) (fun c1 => ?_)
 ·replace h0 := if_t c1 h0
  refine awp_seq (awp_reg ?_)
  refine ro rfl (ok_assign rfl rfl rfl rfl ?_)
  refine rn ?_
  refine awp_ret ?_
  (repeat (first | refine uw ?_ | refine uo rfl ?_))
  have e0 := oi h0
  subst e0
  refine reta_mk rfl ?_
  exact sr
 ·replace h0 := if_f c1 h0
  refine awp_skip (awp_seq (awp_seq (awp_reg ?_)))
  refine ro rfl (ok_assign rfl rfl rfl rfl ?_)
  refine rn ?_
  refine awp_block ?_
  obtain ⟨o40, h1, hL0, hR0⟩ := jn_cut h0
  refine awp_joinEx 0 (fun v41 : Unit => o40 = .inl v41) (fun v41 => ⟨[(1, .ptr 1 0)], [(1, [.p (eL eTModuleStep a_0.fModule), .p (eB a_0.fData), .p (eS a_0.fType), .p (eS a_0.fName), .p (eI a_0.fKey.fKind), .p (eI a_0.fKey.fNum), .p (eS a_0.fKey.fStr)])]⟩) ?_ ?_
  ·rintro s' ⟨v41, hv, hle⟩
   have h0 := hL0 _ hv
   (repeat (first | refine uw ?_ | refine uo rfl ?_))
   refine awp_ghost hle ?_
   (repeat (first | refine uw ?_ | refine uo rfl ?_))
   refine awp_seq (awp_seq ?_)
   obtain ⟨o42, h1, h0⟩ := bd_cut h0
   refine awp_joinN ⟨[(1, .ptr 1 0), (45, .p (eB o42))], [(1, [.p (eL eTModuleStep a_0.fModule), .p (eB a_0.fData), .p (eS a_0.fType), .p (eS a_0.fName), .p (eI a_0.fKey.fKind), .p (eI a_0.fKey.fNum), .p (eS a_0.fKey.fStr)])]⟩ ?_ ?_
   ·intro s' hle
    (repeat (first | refine uw ?_ | refine uo rfl ?_))
    refine awp_ghost hle ?_
    refine wp_if rfl (fun c34 => ?_) (fun c34 => ?_)
    ·replace h0 := if_t c34 h0
     refine awp_seq (awp_reg ?_)
     refine ro rfl (ok_assign rfl rfl rfl rfl ?_)
     refine rn ?_
     refine awp_ret ?_
     (repeat (first | refine uw ?_ | refine uo rfl ?_))
     have e0 := oi h0
     subst e0
     refine reta_mk rfl ?_
     exact sr
    ·replace h0 := if_bf c34 h0
     refine awp_skip (awp_seq (awp_seq (awp_reg ?_)))
     refine ro rfl (ok_fieldAddrP rfl rfl rfl rfl rfl rfl rfl rfl rfl ?_)
     refine ro rfl (ok_loadPA rfl rfl rfl rfl rfl rfl rfl rfl rfl ?_)
     obtain ⟨r35, e36, h0⟩ := bd_cut h0
     refine ro rfl (ok_callP (ref06_Key_ok _ a_0.fKey _ e36) rfl rfl rfl rfl ⟨sr, trivial⟩ Tryz.call29 rfl ?_)
     refine ro rfl (ok_not rfl rfl rfl rfl ?_)
     refine rn ?_
     refine wp_if rfl (fun c37 => ?_) (fun c37 => ?_)
     ·replace h0 := if_t c37 h0
      refine awp_seq (awp_reg ?_)
      refine ro rfl (ok_assign rfl rfl rfl rfl ?_)
      refine rn ?_
      refine awp_ret ?_
      (repeat (first | refine uw ?_ | refine uo rfl ?_))
      have e0 := oi h0
      subst e0
      refine reta_mk rfl ?_
      exact sr
     ·replace h0 := if_bf c37 h0
      refine awp_skip (awp_seq (awp_reg ?_))
      refine ro rfl (ok_assign rfl rfl rfl rfl ?_)
      refine rn ?_
      refine awp_ret ?_
      (repeat (first | refine uw ?_ | refine uo rfl ?_))
      have e0 := oi h0
      subst e0
      refine reta_mk rfl ?_
      exact sr
   ·skip
    refine awp_reg ?_
    refine ro rfl (ok_fieldAddrP rfl rfl rfl rfl rfl rfl rfl rfl rfl ?_)
    refine ro rfl (ok_loadP1 rfl rfl rfl rfl rfl rfl rfl rfl ?_)
    obtain ⟨r25, e26, h1⟩ := bd_cut h1
    refine ro rfl (ok_callP (ref06_Identifier_ok _ a_0.fType _ e26) rfl rfl rfl rfl ⟨sr, trivial⟩ Tryz.call28 rfl ?_)
    refine ro rfl (ok_not rfl rfl rfl rfl ?_)
    refine ro rfl (ok_move rfl rfl rfl rfl ?_)
    refine gd_B rfl rfl rfl (fun c27 => ?_) (fun c27 => ?_)
    ·replace h1 := if_t c27 h1
     refine gd_ft rfl rfl rfl (c27) rfl rfl ?_
     refine gd_ft rfl rfl rfl (c27) rfl rfl ?_
     refine gd_ft rfl rfl rfl (c27) rfl rfl ?_
     refine ro rfl (ok_pick_true rfl rfl rfl rfl (c27) rfl ?_)
     refine ro rfl (ok_move rfl rfl rfl rfl ?_)
     refine gd_ft rfl rfl rfl (rfl) rfl rfl ?_
     refine gd_ft rfl rfl rfl (rfl) rfl rfl ?_
     refine gd_ft rfl rfl rfl (rfl) rfl rfl ?_
     refine gd_ft rfl rfl rfl (rfl) rfl rfl ?_
     refine ro rfl (ok_pick_true rfl rfl rfl rfl (rfl) rfl ?_)
     refine rn ?_
     (repeat (first | refine uw ?_ | refine uo rfl ?_))
     have e1 := oi h1
     subst e1
     exact ghost_le (le_mk ⟨er rfl, er rfl, trivial⟩ ⟨⟨_, rfl, ⟨sr, sr, sr, sr, sr, sr, sr, trivial⟩⟩, trivial⟩)
    ·replace h1 := if_bf c27 h1
     refine gd_ff rfl rfl rfl (c27) (ok_fieldAddrP rfl rfl rfl rfl rfl rfl rfl rfl rfl ?_)
     refine gd_ff rfl rfl rfl (c27) (ok_loadP1 rfl rfl rfl rfl rfl rfl rfl rfl ?_)
     obtain ⟨r28, e29, h1⟩ := bd_cut h1
     refine gd_ff rfl rfl rfl (c27) (ok_callP (ref06_Reserved_ok _ a_0.fType _ e29) rfl rfl rfl rfl ⟨sr, trivial⟩ Tryz.call30 rfl ?_)
     refine ro rfl (ok_pick_false rfl rfl rfl rfl (c27) rfl ?_)
     refine ro rfl (ok_move rfl rfl rfl rfl ?_)
     refine gd_B rfl rfl rfl (fun c30 => ?_) (fun c30 => ?_)
     ·replace h1 := if_t c30 h1
      refine gd_ft rfl rfl rfl (c30) rfl rfl ?_
      refine gd_ft rfl rfl rfl (c30) rfl rfl ?_
      refine gd_ft rfl rfl rfl (c30) rfl rfl ?_
      refine gd_ft rfl rfl rfl (c30) rfl rfl ?_
      refine ro rfl (ok_pick_true rfl rfl rfl rfl (c30) rfl ?_)
      refine rn ?_
      (repeat (first | refine uw ?_ | refine uo rfl ?_))
      have e1 := oi h1
      subst e1
      exact ghost_le (le_mk ⟨er rfl, er rfl, trivial⟩ ⟨⟨_, rfl, ⟨sr, sr, sr, sr, sr, sr, sr, trivial⟩⟩, trivial⟩)
     ·replace h1 := if_bf c30 h1
      refine gd_ff rfl rfl rfl (c30) (ok_fieldAddrP rfl rfl rfl rfl rfl rfl rfl rfl rfl ?_)
      refine gd_ff rfl rfl rfl (c30) (ok_loadP1 rfl rfl rfl rfl rfl rfl rfl rfl ?_)
      obtain ⟨r31, e32, h1⟩ := bd_cut h1
      refine gd_ff rfl rfl rfl (c30) (ok_callP (ref06_Identifier_ok _ a_0.fName _ e32) rfl rfl rfl rfl ⟨sr, trivial⟩ Tryz.call28 rfl ?_)
      refine gd_ff rfl rfl rfl (c30) (ok_not rfl rfl rfl rfl ?_)
      refine ro rfl (ok_pick_false rfl rfl rfl rfl (c30) rfl ?_)
      refine rn ?_
      (repeat (first | refine uw ?_ | refine uo rfl ?_))
      have e1 := oi h1
      subst e1
      exact ghost_le (le_mk ⟨er rfl, er rfl, trivial⟩ ⟨⟨_, rfl, ⟨sr, sr, sr, sr, sr, sr, sr, trivial⟩⟩, trivial⟩)
  ·skip
   refine awp_loopG (fun (q44 : Int) => ⟨[(1, .ptr 1 0), (3, .p (eI q44))], [(1, [.p (eL eTModuleStep a_0.fModule), .p (eB a_0.fData), .p (eS a_0.fType), .p (eS a_0.fName), .p (eI a_0.fKey.fKind), .p (eI a_0.fKey.fNum), .p (eS a_0.fKey.fStr)])]⟩) (fun m (q44 : Int) => ref06_Check_l1 n a_0 m q44) (fun _ => rfl) 0 h1 (ghost_le (le_mk ⟨er rfl, er rfl, trivial⟩ ⟨⟨_, rfl, ⟨sr, sr, sr, sr, sr, sr, sr, trivial⟩⟩, trivial⟩)) ?_
   rintro m i13 h1
   replace h1 : ref06_Check_l1 n a_0 (m + 1) i13 = some o40 := h1
   rw [ref06_Check_l1] at h1
   refine awp_seq (awp_seq (awp_reg ?_))
   refine ro rfl (ok_move rfl rfl rfl rfl ?_)
   refine ro rfl (ok_fieldAddrP rfl rfl rfl rfl rfl rfl rfl rfl rfl ?_)
   refine ro rfl (ok_loadP1 rfl rfl rfl rfl rfl rfl rfl rfl ?_)
   refine ro rfl (op_lenL (f := eTModuleStep) (l := a_0.fModule) rfl rfl rfl rfl rfl rfl rfl ?_)
   refine ro rfl (ok_cmp rfl rfl rfl rfl rfl rfl ?_)
   refine rn ?_
   refine wp_ifD rfl (fun c14 => ?_) (fun c14 => ?_)
   ·replace h1 := if_t c14 h1
    refine awp_skip (awp_seq (awp_block (awp_seq (awp_seq (awp_reg ?_)))))
    refine ro rfl (ok_fieldAddrP rfl rfl rfl rfl rfl rfl rfl rfl rfl ?_)
    refine ro rfl (ok_loadP1 rfl rfl rfl rfl rfl rfl rfl rfl ?_)
    refine ro rfl (ok_move rfl rfl rfl rfl ?_)
    obtain ⟨hk15, h1⟩ := ck_cut h1
    refine ro rfl (op_at (f := eTModuleStep) (l := a_0.fModule) TModuleStep.cs rfl rfl rfl rfl rfl rfl rfl rfl rfl hk15 TModuleStep.cells_eq (fun _ => rfl) ?_)
    refine ro rfl (ok_fieldAddrR rfl rfl rfl rfl rfl rfl rfl rfl rfl ?_)
    refine ro rfl (ok_loadR1 rfl rfl rfl rfl rfl rfl rfl ?_)
    obtain ⟨r16, e17, h1⟩ := bd_cut h1
    refine ro rfl (ok_callP (ref06_Identifier_ok _ ((lat a_0.fModule i13).fName) _ e17) rfl rfl rfl rfl ⟨sr, trivial⟩ Tryz.call28 rfl ?_)
    refine ro rfl (ok_not rfl rfl rfl rfl ?_)
    refine rn ?_
    refine wp_if rfl (fun c18 => ?_) (fun c18 => ?_)
    ·replace h1 := if_t c18 h1
     refine awp_seq (awp_reg ?_)
     refine ro rfl (ok_assign rfl rfl rfl rfl ?_)
     refine rn ?_
     refine awp_ret ?_
     (repeat (first | refine uw ?_ | refine uo rfl ?_))
     have e1 := oi h1
     have e0 := hR0 _ e1.symm
     subst e0
     refine reta_mk rfl ?_
     exact sr
    ·replace h1 := if_bf c18 h1
     refine awp_skip (awp_seq (awp_reg ?_))
     refine ro rfl (ok_fieldAddrP rfl rfl rfl rfl rfl rfl rfl rfl rfl ?_)
     refine ro rfl (ok_loadP1 rfl rfl rfl rfl rfl rfl rfl rfl ?_)
     refine ro rfl (ok_move rfl rfl rfl rfl ?_)
     obtain ⟨hk19, h1⟩ := ck_cut h1
     refine ro rfl (op_at (f := eTModuleStep) (l := a_0.fModule) TModuleStep.cs rfl rfl rfl rfl rfl rfl rfl rfl rfl hk19 TModuleStep.cells_eq (fun _ => rfl) ?_)
     refine ro rfl (ok_fieldAddrR rfl rfl rfl rfl rfl rfl rfl rfl rfl ?_)
     refine ro rfl (ok_loadRA rfl rfl rfl rfl rfl rfl rfl ?_)
     obtain ⟨r20, e21, h1⟩ := bd_cut h1
     refine ro rfl (ok_callP (ref06_Key_ok _ ((lat a_0.fModule i13).fKey) _ e21) rfl rfl rfl rfl ⟨sr, trivial⟩ Tryz.call29 rfl ?_)
     refine ro rfl (ok_not rfl rfl rfl rfl ?_)
     refine rn ?_
     refine wp_if rfl (fun c22 => ?_) (fun c22 => ?_)
     ·replace h1 := if_t c22 h1
      refine awp_seq (awp_reg ?_)
      refine ro rfl (ok_assign rfl rfl rfl rfl ?_)
      refine rn ?_
      refine awp_ret ?_
      (repeat (first | refine uw ?_ | refine uo rfl ?_))
      have e1 := oi h1
      have e0 := hR0 _ e1.symm
      subst e0
      refine reta_mk rfl ?_
      exact sr
     ·replace h1 := if_bf c22 h1
      refine awp_skip ?_
      (repeat (first | refine uw ?_ | refine uo rfl ?_))
      refine awp_reg ?_
      refine ro rfl (ok_move rfl rfl rfl rfl ?_)
      obtain ⟨hk23, h1⟩ := ck_cut h1
      refine ro rfl (ok_ar rfl rfl rfl rfl rfl rfl hk23 ?_)
      refine ro rfl (ok_assign rfl rfl rfl rfl ?_)
      refine rn ?_
      (repeat (first | refine uw ?_ | refine uo rfl ?_))
      exact ⟨(i13 + 1), h1, ghost_le (le_mk ⟨er rfl, er rfl, trivial⟩ ⟨⟨_, rfl, ⟨sr, sr, sr, sr, sr, sr, sr, trivial⟩⟩, trivial⟩)⟩
   ·replace h1 := if_f c14 h1
    refine awp_exit ?_
    (repeat (first | refine uw ?_ | refine uo rfl ?_))
    have e1 := oi h1
    exact ⟨_, e1.symm, ghost_le (le_mk ⟨er rfl, trivial⟩ ⟨⟨_, rfl, ⟨sr, sr, sr, sr, sr, sr, sr, trivial⟩⟩, trivial⟩)⟩

def ref01_Format : Nat → Int → Option Bytes
 | 0, _ => none
 | n + 1, n_0 =>
 (
   if 0 ≤ n_0 then
    some (decide (n_0 ≤ 9))
   else
    some false
  : Option Bool).bind fun t2 =>
 if t2 = true then
  ck (inR (48 + n_0)) <|
  ck ((0 : Int) ≤ IntKind.wrap .u8 (48 + n_0) ∧ IntKind.wrap .u8 (48 + n_0) < 256) <|
  some [u8 (IntKind.wrap .u8 (48 + n_0))]
 else
  (
    if n_0 < 0 then
     some (decide ((-10) < n_0))
    else
     some false
   : Option Bool).bind fun t7 =>
  if t7 = true then
   ck (inR (0 - n_0)) <|
   ((ref01_Format n) (0 - n_0)).bind fun r10 =>
   ck (([45] : Bytes).length + r10.length ≤ 9223372036854775807) <|
   some (([45] : Bytes) ++ r10)
  else
   if n_0 < 0 then
    ck ((10 : Int) ≠ 0) <|
    ((ref01_Format n) (IntKind.wrap .i64 (n_0.tdiv 10))).bind fun r15 =>
    ck ((10 : Int) ≠ 0) <|
    ck (inR (0 - (n_0.tmod 10))) <|
    ((ref01_Format n) (0 - (n_0.tmod 10))).bind fun r19 =>
    ck (r15.length + r19.length ≤ 9223372036854775807) <|
    some (r15 ++ r19)
   else
    ck ((10 : Int) ≠ 0) <|
    ((ref01_Format n) (IntKind.wrap .i64 (n_0.tdiv 10))).bind fun r23 =>
    ck ((10 : Int) ≠ 0) <|
    ((ref01_Format n) (n_0.tmod 10)).bind fun r26 =>
    ck (r23.length + r26.length ≤ 9223372036854775807) <|
    some (r23 ++ r26)

set_option maxHeartbeats 4000000 in
theorem ref01_Format_ok (n : Nat) : ∀ (n_0 : Int) (r : Bytes), ref01_Format n n_0 = some r → PCalls Tryz.prog 36 [eI n_0] (· = .p (eS r)) := by
 induction n with
 | zero => intro n_0 r h0; cases h0
 | succ n ih =>
 have ih_ref01_Format_ok := ih
 intro n_0 r h0
 rw [ref01_Format] at h0
 refine pbodyA good Tryz.func36 rfl rfl rfl fun w0 => ?_
 refine awp_seq (awp_reg ?_)
 refine ro rfl (ok_assign rfl rfl rfl rfl ?_)
 refine rn ?_
 refine awp_seq (awp_seq ?_)
 obtain ⟨o31, h1, h0⟩ := bd_cut h0
 refine awp_joinN ⟨[(0, .p (eI n_0)), (8, .p (eB o31))], []⟩ ?_ ?_
 ·intro s' hle
  (repeat (first | refine uw ?_ | refine uo rfl ?_))
  refine awp_ghost hle ?_
  refine wp_if rfl (fun c3 => ?_) (fun c3 => ?_)
  ·replace h0 := if_t c3 h0
   refine awp_seq (awp_reg ?_)
   refine ro rfl (ok_move rfl rfl rfl rfl ?_)
   obtain ⟨hk4, h0⟩ := ck_cut h0
   refine ro rfl (ok_ar rfl rfl rfl rfl rfl rfl hk4 ?_)
   refine ro rfl (ok_convW rfl rfl rfl rfl rfl rfl rfl rfl ?_)
   obtain ⟨hk5, h0⟩ := ck_cut h0
   refine ro rfl (op_bslice eU [u8 (IntKind.wrap .u8 (48 + n_0))] rfl rfl rfl rfl rfl rfl rfl rfl rfl rfl rfl rfl rfl (congr (congrArg List.cons (u8_of hk5)) rfl) ?_)
   refine ro rfl (op_convBS [u8 (IntKind.wrap .u8 (48 + n_0))] rfl rfl rfl rfl rfl rfl rfl rfl rfl rfl rfl ?_)
   refine ro rfl (ok_assign rfl rfl rfl rfl ?_)
   refine rn ?_
   refine awp_ret ?_
   (repeat (first | refine uw ?_ | refine uo rfl ?_))
   have e0 := oi h0
   subst e0
   refine reta_mk rfl ?_
   exact sr
  ·replace h0 := if_bf c3 h0
   refine awp_skip (awp_seq (awp_seq ?_))
   obtain ⟨o33, h1, h0⟩ := bd_cut h0
   refine awp_joinN ⟨[(0, .p (eI n_0)), (19, .p (eB o33))], []⟩ ?_ ?_
   ·intro s' hle
    (repeat (first | refine uw ?_ | refine uo rfl ?_))
    refine awp_ghost hle ?_
    refine wp_if rfl (fun c8 => ?_) (fun c8 => ?_)
    ·replace h0 := if_t c8 h0
     refine awp_seq (awp_reg ?_)
     refine ro rfl (ok_move rfl rfl rfl rfl ?_)
     obtain ⟨hk9, h0⟩ := ck_cut h0
     refine ro rfl (ok_neg rfl rfl rfl rfl hk9 ?_)
     obtain ⟨r10, e11, h0⟩ := bd_cut h0
     refine ro rfl (ok_callP (ih_ref01_Format_ok (0 - n_0) _ e11) rfl rfl rfl rfl ⟨sr, trivial⟩ Tryz.call36 rfl ?_)
     obtain ⟨hk12, h0⟩ := ck_cut h0
     refine ro rfl (ok_concat rfl rfl rfl rfl rfl hk12 ?_)
     refine ro rfl (ok_assign rfl rfl rfl rfl ?_)
     refine rn ?_
     refine awp_ret ?_
     (repeat (first | refine uw ?_ | refine uo rfl ?_))
     have e0 := oi h0
     subst e0
     refine reta_mk rfl ?_
     exact sr
    ·replace h0 := if_bf c8 h0
     refine awp_skip (awp_seq (awp_seq (awp_reg ?_)))
     refine ro rfl (ok_move rfl rfl rfl rfl ?_)
     refine ro rfl (ok_cmp rfl rfl rfl rfl rfl rfl ?_)
     refine rn ?_
     refine wp_ifD rfl (fun c13 => ?_) (fun c13 => ?_)
     ·replace h0 := if_t c13 h0
      refine awp_seq (awp_reg ?_)
      refine ro rfl (ok_move rfl rfl rfl rfl ?_)
      obtain ⟨hk14, h0⟩ := ck_cut h0
      refine ro rfl (ok_dv rfl rfl rfl rfl rfl rfl hk14 ?_)
      obtain ⟨r15, e16, h0⟩ := bd_cut h0
      refine ro rfl (ok_callP (ih_ref01_Format_ok (IntKind.wrap .i64 (n_0.tdiv 10)) _ e16) rfl rfl rfl rfl ⟨sr, trivial⟩ Tryz.call36 rfl ?_)
      refine ro rfl (ok_move rfl rfl rfl rfl ?_)
      obtain ⟨hk17, h0⟩ := ck_cut h0
      refine ro rfl (ok_dv rfl rfl rfl rfl rfl rfl hk17 ?_)
      obtain ⟨hk18, h0⟩ := ck_cut h0
      refine ro rfl (ok_neg rfl rfl rfl rfl hk18 ?_)
      obtain ⟨r19, e20, h0⟩ := bd_cut h0
      refine ro rfl (ok_callP (ih_ref01_Format_ok (0 - (n_0.tmod 10)) _ e20) rfl rfl rfl rfl ⟨sr, trivial⟩ Tryz.call36 rfl ?_)
      obtain ⟨hk21, h0⟩ := ck_cut h0
      refine ro rfl (ok_concat rfl rfl rfl rfl rfl hk21 ?_)
      refine ro rfl (ok_assign rfl rfl rfl rfl ?_)
      refine rn ?_
      refine awp_ret ?_
      (repeat (first | refine uw ?_ | refine uo rfl ?_))
      have e0 := oi h0
      subst e0
      refine reta_mk rfl ?_
      exact sr
     ·replace h0 := if_f c13 h0
      refine awp_skip (awp_seq (awp_reg ?_))
      refine ro rfl (ok_move rfl rfl rfl rfl ?_)
      obtain ⟨hk22, h0⟩ := ck_cut h0
      refine ro rfl (ok_dv rfl rfl rfl rfl rfl rfl hk22 ?_)
      obtain ⟨r23, e24, h0⟩ := bd_cut h0
      refine ro rfl (ok_callP (ih_ref01_Format_ok (IntKind.wrap .i64 (n_0.tdiv 10)) _ e24) rfl rfl rfl rfl ⟨sr, trivial⟩ Tryz.call36 rfl ?_)
      refine ro rfl (ok_move rfl rfl rfl rfl ?_)
      obtain ⟨hk25, h0⟩ := ck_cut h0
      refine ro rfl (ok_dv rfl rfl rfl rfl rfl rfl hk25 ?_)
      obtain ⟨r26, e27, h0⟩ := bd_cut h0
      refine ro rfl (ok_callP (ih_ref01_Format_ok (n_0.tmod 10) _ e27) rfl rfl rfl rfl ⟨sr, trivial⟩ Tryz.call36 rfl ?_)
      obtain ⟨hk28, h0⟩ := ck_cut h0
      refine ro rfl (ok_concat rfl rfl rfl rfl rfl hk28 ?_)
      refine ro rfl (ok_assign rfl rfl rfl rfl ?_)
      refine rn ?_
      refine awp_ret ?_
      (repeat (first | refine uw ?_ | refine uo rfl ?_))
      have e0 := oi h0
      subst e0
      refine reta_mk rfl ?_
      exact sr
   ·skip
    refine awp_reg ?_
    refine ro rfl (ok_move rfl rfl rfl rfl ?_)
    refine ro rfl (ok_cmp rfl rfl rfl rfl rfl rfl ?_)
    refine ro rfl (ok_move rfl rfl rfl rfl ?_)
    refine gd_D rfl rfl rfl (fun c6 => ?_) (fun c6 => ?_)
    ·replace h1 := if_t c6 h1
     refine gd_tt rfl rfl rfl (dt c6) (ok_move rfl rfl rfl rfl ?_)
     refine gd_tt rfl rfl rfl (dt c6) (ok_cmp rfl rfl rfl rfl rfl rfl ?_)
     refine ro rfl (ok_pick_true rfl rfl rfl rfl (dt c6) rfl ?_)
     refine rn ?_
     (repeat (first | refine uw ?_ | refine uo rfl ?_))
     have e1 := oi h1
     subst e1
     exact ghost_le (le_mk ⟨er rfl, er rfl, trivial⟩ trivial)
    ·replace h1 := if_f c6 h1
     refine gd_tf rfl rfl rfl (df c6) rfl rfl ?_
     refine gd_tf rfl rfl rfl (df c6) rfl rfl ?_
     refine ro rfl (ok_pick_false rfl rfl rfl rfl (df c6) rfl ?_)
     refine rn ?_
     (repeat (first | refine uw ?_ | refine uo rfl ?_))
     have e1 := oi h1
     subst e1
     exact ghost_le (le_mk ⟨er rfl, er rfl, trivial⟩ trivial)
 ·skip
  refine awp_reg ?_
  refine ro rfl (ok_move rfl rfl rfl rfl ?_)
  refine ro rfl (ok_cmp rfl rfl rfl rfl rfl rfl ?_)
  refine ro rfl (ok_move rfl rfl rfl rfl ?_)
  refine gd_D rfl rfl rfl (fun c1 => ?_) (fun c1 => ?_)
  ·replace h1 := if_t c1 h1
   refine gd_tt rfl rfl rfl (dt c1) (ok_move rfl rfl rfl rfl ?_)
   refine gd_tt rfl rfl rfl (dt c1) (ok_cmp rfl rfl rfl rfl rfl rfl ?_)
   refine ro rfl (ok_pick_true rfl rfl rfl rfl (dt c1) rfl ?_)
   refine rn ?_
   (repeat (first | refine uw ?_ | refine uo rfl ?_))
   have e1 := oi h1
   subst e1
   exact ghost_le (le_mk ⟨er rfl, er rfl, trivial⟩ trivial)
  ·replace h1 := if_f c1 h1
   refine gd_tf rfl rfl rfl (df c1) rfl rfl ?_
   refine gd_tf rfl rfl rfl (df c1) rfl rfl ?_
   refine ro rfl (ok_pick_false rfl rfl rfl rfl (df c1) rfl ?_)
   refine rn ?_
   (repeat (first | refine uw ?_ | refine uo rfl ?_))
   have e1 := oi h1
   subst e1
   exact ghost_le (le_mk ⟨er rfl, er rfl, trivial⟩ trivial)

def ref02_digits : Nat → Int → Option Bytes
 | 0, _ => none
 | n + 1, c_0 =>
 ck ((16 : Int) ≠ 0) <|
 ck ((16 : Int) ≠ 0) <|
 ck (inR ((c_0.tmod 16) + 1)) <|
 ck ((0 : Int) ≤ c_0.tmod 16 ∧ c_0.tmod 16 ≤ (c_0.tmod 16) + 1 ∧ (c_0.tmod 16) + 1 ≤ (([48, 49, 50, 51, 52, 53, 54, 55, 56, 57, 97, 98, 99, 100, 101, 102] : Bytes).length : Int)) <|
 if c_0 < 16 then
  some (sub ([48, 49, 50, 51, 52, 53, 54, 55, 56, 57, 97, 98, 99, 100, 101, 102] : Bytes) (c_0.tmod 16) ((c_0.tmod 16) + 1))
 else
  ck ((16 : Int) ≠ 0) <|
  ((ref02_digits n) (IntKind.wrap .i64 (c_0.tdiv 16))).bind fun r7 =>
  ck (r7.length + (sub ([48, 49, 50, 51, 52, 53, 54, 55, 56, 57, 97, 98, 99, 100, 101, 102] : Bytes) (c_0.tmod 16) ((c_0.tmod 16) + 1)).length ≤ 9223372036854775807) <|
  some (r7 ++ (sub ([48, 49, 50, 51, 52, 53, 54, 55, 56, 57, 97, 98, 99, 100, 101, 102] : Bytes) (c_0.tmod 16) ((c_0.tmod 16) + 1)))

set_option maxHeartbeats 4000000 in
theorem ref02_digits_ok (n : Nat) : ∀ (c_0 : Int) (r : Bytes), ref02_digits n c_0 = some r → PCalls Tryz.prog 88 [eI c_0] (· = .p (eS r)) := by
 induction n with
 | zero => intro c_0 r h0; cases h0
 | succ n ih =>
 have ih_ref02_digits_ok := ih
 intro c_0 r h0
 rw [ref02_digits] at h0
 refine pbodyA good Tryz.func88 rfl rfl rfl fun w0 => ?_
 refine awp_seq (awp_reg ?_)
 refine ro rfl (ok_assign rfl rfl rfl rfl ?_)
 refine rn ?_
 refine awp_seq (awp_reg ?_)
 refine ro rfl (ok_move rfl rfl rfl rfl ?_)
 obtain ⟨hk1, h0⟩ := ck_cut h0
 refine ro rfl (ok_dv rfl rfl rfl rfl rfl rfl hk1 ?_)
 refine ro rfl (ok_move rfl rfl rfl rfl ?_)
 obtain ⟨hk2, h0⟩ := ck_cut h0
 refine ro rfl (ok_dv rfl rfl rfl rfl rfl rfl hk2 ?_)
 obtain ⟨hk3, h0⟩ := ck_cut h0
 refine ro rfl (ok_ar rfl rfl rfl rfl rfl rfl hk3 ?_)
 obtain ⟨hk4, h0⟩ := ck_cut h0
 refine ro rfl (op_sliceS rfl rfl rfl rfl rfl rfl rfl rfl hk4 ?_)
 refine ro rfl (ok_assign rfl rfl rfl rfl ?_)
 refine rn ?_
 refine awp_seq (awp_seq (awp_reg ?_))
 refine ro rfl (ok_move rfl rfl rfl rfl ?_)
 refine ro rfl (ok_cmp rfl rfl rfl rfl rfl rfl ?_)
 refine rn ?_
 refine wp_ifD rfl (fun c5 => ?_) (fun c5 => ?_)
 ·replace h0 := if_t c5 h0
  refine awp_seq (awp_reg ?_)
  refine ro rfl (ok_move rfl rfl rfl rfl ?_)
  refine ro rfl (ok_assign rfl rfl rfl rfl ?_)
  refine rn ?_
  refine awp_ret ?_
  (repeat (first | refine uw ?_ | refine uo rfl ?_))
  have e0 := oi h0
  subst e0
  refine reta_mk rfl ?_
  exact sr
 ·replace h0 := if_f c5 h0
  refine awp_skip (awp_seq (awp_reg ?_))
  refine ro rfl (ok_move rfl rfl rfl rfl ?_)
  obtain ⟨hk6, h0⟩ := ck_cut h0
  refine ro rfl (ok_dv rfl rfl rfl rfl rfl rfl hk6 ?_)
  obtain ⟨r7, e8, h0⟩ := bd_cut h0
  refine ro rfl (ok_callP (ih_ref02_digits_ok (IntKind.wrap .i64 (c_0.tdiv 16)) _ e8) rfl rfl rfl rfl ⟨sr, trivial⟩ Tryz.call88 rfl ?_)
  refine ro rfl (ok_move rfl rfl rfl rfl ?_)
  obtain ⟨hk9, h0⟩ := ck_cut h0
  refine ro rfl (ok_concat rfl rfl rfl rfl rfl hk9 ?_)
  refine ro rfl (ok_assign rfl rfl rfl rfl ?_)
  refine rn ?_
  refine awp_ret ?_
  (repeat (first | refine uw ?_ | refine uo rfl ?_))
  have e0 := oi h0
  subst e0
  refine reta_mk rfl ?_
  exact sr

def ref02_escaped (n : Nat) (b_0 : Int) : Option Bytes :=
 if b_0 = 10 then
  some ([92, 110] : Bytes)
 else
  if b_0 = 13 then
   some ([92, 114] : Bytes)
  else
   if b_0 = 9 then
    some ([92, 116] : Bytes)
   else
    if b_0 = 34 then
     some ([92, 34] : Bytes)
    else
     if b_0 = 92 then
      some ([92, 92] : Bytes)
     else
      (
        if b_0 < 32 then
         some true
        else
         some (decide (b_0 = 127))
       : Option Bool).bind fun t7 =>
      if t7 = true then
       ck (inR (b_0)) <|
       (ref02_digits n b_0).bind fun r10 =>
       ck (([92, 117, 123] : Bytes).length + r10.length ≤ 9223372036854775807) <|
       ck ((([92, 117, 123] : Bytes) ++ r10).length + ([125] : Bytes).length ≤ 9223372036854775807) <|
       some ((([92, 117, 123] : Bytes) ++ r10) ++ ([125] : Bytes))
      else
       ck ((0 : Int) ≤ b_0 ∧ b_0 < 256) <|
       some [u8 b_0]

set_option maxHeartbeats 4000000 in
theorem ref02_escaped_ok (n : Nat) (b_0 : Int) (r : Bytes) (h0 : ref02_escaped n b_0 = some r) : PCalls Tryz.prog 68 [eK .u8 b_0] (· = .p (eS r)) := by
 unfold ref02_escaped at h0
 refine pbodyA good Tryz.func68 rfl rfl rfl fun w0 => ?_
 refine awp_seq (awp_reg ?_)
 refine ro rfl (ok_assign rfl rfl rfl rfl ?_)
 refine rn ?_
 refine awp_seq (awp_seq (awp_reg ?_))
 refine ro rfl (ok_move rfl rfl rfl rfl ?_)
 refine rn ?_
 refine awp_block (awp_seq (awp_reg ?_))
 refine ro rfl (ok_cmp rfl rfl rfl rfl rfl rfl ?_)
 refine ro rfl (ok_assign rfl rfl rfl rfl ?_)
 refine rn ?_
 refine wp_ifD rfl (fun c1 => ?_) (fun c1 => ?_)
 ·replace h0 := if_t c1 h0
  refine awp_seq (awp_reg ?_)
  refine ro rfl (ok_assign rfl rfl rfl rfl ?_)
  refine rn ?_
  refine awp_ret ?_
  (repeat (first | refine uw ?_ | refine uo rfl ?_))
  have e0 := oi h0
  subst e0
  refine reta_mk rfl ?_
  exact sr
 ·replace h0 := if_f c1 h0
  refine awp_seq (awp_reg ?_)
  refine ro rfl (ok_cmp rfl rfl rfl rfl rfl rfl ?_)
  refine ro rfl (ok_assign rfl rfl rfl rfl ?_)
  refine rn ?_
  refine wp_ifD rfl (fun c2 => ?_) (fun c2 => ?_)
  ·replace h0 := if_t c2 h0
   refine awp_seq (awp_reg ?_)
   refine ro rfl (ok_assign rfl rfl rfl rfl ?_)
   refine rn ?_
   refine awp_ret ?_
   (repeat (first | refine uw ?_ | refine uo rfl ?_))
   have e0 := oi h0
   subst e0
   refine reta_mk rfl ?_
   exact sr
  ·replace h0 := if_f c2 h0
   refine awp_seq (awp_reg ?_)
   refine ro rfl (ok_cmp rfl rfl rfl rfl rfl rfl ?_)
   refine ro rfl (ok_assign rfl rfl rfl rfl ?_)
   refine rn ?_
   refine wp_ifD rfl (fun c3 => ?_) (fun c3 => ?_)
   ·replace h0 := if_t c3 h0
    refine awp_seq (awp_reg ?_)
    refine ro rfl (ok_assign rfl rfl rfl rfl ?_)
    refine rn ?_
    refine awp_ret ?_
    (repeat (first | refine uw ?_ | refine uo rfl ?_))
    have e0 := oi h0
    subst e0
    refine reta_mk rfl ?_
    exact sr
   ·replace h0 := if_f c3 h0
    refine awp_seq (awp_reg ?_)
    refine ro rfl (ok_cmp rfl rfl rfl rfl rfl rfl ?_)
    refine ro rfl (ok_assign rfl rfl rfl rfl ?_)
    refine rn ?_
    refine wp_ifD rfl (fun c4 => ?_) (fun c4 => ?_)
    ·replace h0 := if_t c4 h0
     refine awp_seq (awp_reg ?_)
     refine ro rfl (ok_assign rfl rfl rfl rfl ?_)
     refine rn ?_
     refine awp_ret ?_
     (repeat (first | refine uw ?_ | refine uo rfl ?_))
     have e0 := oi h0
     subst e0
     refine reta_mk rfl ?_
     exact sr
    ·replace h0 := if_f c4 h0
     refine awp_seq (awp_reg ?_)
     refine ro rfl (ok_cmp rfl rfl rfl rfl rfl rfl ?_)
     refine ro rfl (ok_assign rfl rfl rfl rfl ?_)
     refine rn ?_
     refine wp_ifD rfl (fun c5 => ?_) (fun c5 => ?_)
     ·replace h0 := if_t c5 h0
      refine awp_seq (awp_reg ?_)
      refine ro rfl (ok_assign rfl rfl rfl rfl ?_)
      refine rn ?_
      refine awp_ret ?_
      (repeat (first | refine uw ?_ | refine uo rfl ?_))
      have e0 := oi h0
      subst e0
      refine reta_mk rfl ?_
      exact sr
     ·replace h0 := if_f c5 h0
      refine awp_skip ?_
      (repeat (first | refine uw ?_ | refine uo rfl ?_))
      refine awp_seq (awp_seq ?_)
      obtain ⟨o16, h1, h0⟩ := bd_cut h0
      refine awp_joinN ⟨[(0, .p (eK .u8 b_0)), (19, .p (eB o16))], []⟩ ?_ ?_
      ·intro s' hle
       (repeat (first | refine uw ?_ | refine uo rfl ?_))
       refine awp_ghost hle ?_
       refine wp_if rfl (fun c8 => ?_) (fun c8 => ?_)
       ·replace h0 := if_t c8 h0
        refine awp_seq (awp_reg ?_)
        refine ro rfl (ok_move rfl rfl rfl rfl ?_)
        obtain ⟨hk9, h0⟩ := ck_cut h0
        refine ro rfl (ok_convInt rfl rfl rfl rfl rfl rfl rfl rfl (wrap_in hk9) ?_)
        obtain ⟨r10, e11, h0⟩ := bd_cut h0
        refine ro rfl (ok_callP (ref02_digits_ok _ b_0 _ e11) rfl rfl rfl rfl ⟨sr, trivial⟩ Tryz.call88 rfl ?_)
        obtain ⟨hk12, h0⟩ := ck_cut h0
        refine ro rfl (ok_concat rfl rfl rfl rfl rfl hk12 ?_)
        obtain ⟨hk13, h0⟩ := ck_cut h0
        refine ro rfl (ok_concat rfl rfl rfl rfl rfl hk13 ?_)
        refine ro rfl (ok_assign rfl rfl rfl rfl ?_)
        refine rn ?_
        refine awp_ret ?_
        (repeat (first | refine uw ?_ | refine uo rfl ?_))
        have e0 := oi h0
        subst e0
        refine reta_mk rfl ?_
        exact sr
       ·replace h0 := if_bf c8 h0
        refine awp_skip (awp_seq (awp_reg ?_))
        refine ro rfl (ok_move rfl rfl rfl rfl ?_)
        obtain ⟨hk14, h0⟩ := ck_cut h0
        refine ro rfl (op_bslice eU [u8 b_0] rfl rfl rfl rfl rfl rfl rfl rfl rfl rfl rfl rfl rfl (congr (congrArg List.cons (u8_of hk14)) rfl) ?_)
        refine ro rfl (op_convBS [u8 b_0] rfl rfl rfl rfl rfl rfl rfl rfl rfl rfl rfl ?_)
        refine ro rfl (ok_assign rfl rfl rfl rfl ?_)
        refine rn ?_
        refine awp_ret ?_
        (repeat (first | refine uw ?_ | refine uo rfl ?_))
        have e0 := oi h0
        subst e0
        refine reta_mk rfl ?_
        exact sr
      ·skip
       refine awp_reg ?_
       refine ro rfl (ok_move rfl rfl rfl rfl ?_)
       refine ro rfl (ok_cmp rfl rfl rfl rfl rfl rfl ?_)
       refine ro rfl (ok_move rfl rfl rfl rfl ?_)
       refine gd_D rfl rfl rfl (fun c6 => ?_) (fun c6 => ?_)
       ·replace h1 := if_t c6 h1
        refine gd_ft rfl rfl rfl (dt c6) rfl rfl ?_
        refine gd_ft rfl rfl rfl (dt c6) rfl rfl ?_
        refine ro rfl (ok_pick_true rfl rfl rfl rfl (dt c6) rfl ?_)
        refine rn ?_
        (repeat (first | refine uw ?_ | refine uo rfl ?_))
        have e1 := oi h1
        subst e1
        exact ghost_le (le_mk ⟨er rfl, er rfl, trivial⟩ trivial)
       ·replace h1 := if_f c6 h1
        refine gd_ff rfl rfl rfl (df c6) (ok_move rfl rfl rfl rfl ?_)
        refine gd_ff rfl rfl rfl (df c6) (ok_cmp rfl rfl rfl rfl rfl rfl ?_)
        refine ro rfl (ok_pick_false rfl rfl rfl rfl (df c6) rfl ?_)
        refine rn ?_
        (repeat (first | refine uw ?_ | refine uo rfl ?_))
        have e1 := oi h1
        subst e1
        exact ghost_le (le_mk ⟨er rfl, er rfl, trivial⟩ trivial)

def ref02_Quote_l1 (n : Nat) (s_0 : Bytes) : Nat → Bytes → Int → Option Bytes
 | 0, _, _ => none
 | m + 1, out9, i10 =>
 if i10 < (s_0.length : Int) then
  ck ((0 : Int) ≤ i10 ∧ i10 < (s_0.length : Int)) <|
  (ref02_escaped n (byt s_0 i10)).bind fun r13 =>
  ck (out9.length + r13.length ≤ 9223372036854775807) <|
  ck (inR (i10 + 1)) <|
  ref02_Quote_l1 n s_0 m (out9 ++ r13) (i10 + 1)
 else
  some out9

def ref02_Quote (n : Nat) (s_0 : Bytes) : Option Bytes :=
 (ref02_Quote_l1 n s_0 n ([34] : Bytes) 0).bind fun out19 =>
 ck (out19.length + ([34] : Bytes).length ≤ 9223372036854775807) <|
 some (out19 ++ ([34] : Bytes))

set_option maxHeartbeats 4000000 in
theorem ref02_Quote_ok (n : Nat) (s_0 : Bytes) (r : Bytes) (h0 : ref02_Quote n s_0 = some r) : PCalls Tryz.prog 37 [eS s_0] (· = .p (eS r)) := by
 unfold ref02_Quote at h0
 refine pbodyA good Tryz.func37 rfl rfl rfl fun w0 => ?_
 refine awp_seq (awp_reg ?_)
 refine ro rfl (ok_assign rfl rfl rfl rfl ?_)
 refine rn ?_
 refine awp_seq (awp_reg ?_)
 refine ro rfl (ok_assign rfl rfl rfl rfl ?_)
 refine rn ?_
 refine awp_seq (awp_seq (awp_reg ?_))
 refine ro rfl (ok_assign rfl rfl rfl rfl ?_)
 refine rn ?_
 refine awp_block ?_
 obtain ⟨o22, h1, h0⟩ := bd_cut h0
 refine awp_joinE 0 ⟨[(3, .p (eS o22))], []⟩ ?_ ?_
 ·intro s' hle
  (repeat (first | refine uw ?_ | refine uo rfl ?_))
  refine awp_ghost hle ?_
  (repeat (first | refine uw ?_ | refine uo rfl ?_))
  refine awp_seq (awp_reg ?_)
  refine ro rfl (ok_move rfl rfl rfl rfl ?_)
  obtain ⟨hk20, h0⟩ := ck_cut h0
  refine ro rfl (ok_concat rfl rfl rfl rfl rfl hk20 ?_)
  refine ro rfl (ok_assign rfl rfl rfl rfl ?_)
  refine rn ?_
  refine awp_ret ?_
  (repeat (first | refine uw ?_ | refine uo rfl ?_))
  have e0 := oi h0
  subst e0
  refine reta_mk rfl ?_
  exact sr
 ·skip
  refine awp_loopG (fun (q24 : Bytes × Int) => ⟨[(0, .p (eS s_0)), (3, .p (eS q24.1)), (4, .p (eI q24.2))], []⟩) (fun m (q24 : Bytes × Int) => ref02_Quote_l1 n s_0 m q24.1 q24.2) (fun _ => rfl) (([34] : Bytes), 0) h1 (ghost_le (le_mk ⟨er rfl, er rfl, er rfl, trivial⟩ trivial)) ?_
  rintro m ⟨out9, i10⟩ h1
  replace h1 : ref02_Quote_l1 n s_0 (m + 1) out9 i10 = some o22 := h1
  rw [ref02_Quote_l1] at h1
  refine awp_seq (awp_seq (awp_reg ?_))
  refine ro rfl (ok_move rfl rfl rfl rfl ?_)
  refine ro rfl (ok_move rfl rfl rfl rfl ?_)
  refine ro rfl (ok_lenS rfl rfl rfl rfl rfl rfl ?_)
  refine ro rfl (ok_cmp rfl rfl rfl rfl rfl rfl ?_)
  refine rn ?_
  refine wp_ifD rfl (fun c11 => ?_) (fun c11 => ?_)
  ·replace h1 := if_t c11 h1
   refine awp_skip (awp_seq (awp_block (awp_reg ?_)))
   refine ro rfl (ok_move rfl rfl rfl rfl ?_)
   refine ro rfl (ok_move rfl rfl rfl rfl ?_)
   refine ro rfl (ok_move rfl rfl rfl rfl ?_)
   obtain ⟨hk12, h1⟩ := ck_cut h1
   refine ro rfl (op_indexS rfl rfl rfl rfl rfl rfl rfl hk12 ?_)
   obtain ⟨r13, e14, h1⟩ := bd_cut h1
   refine ro rfl (ok_callP (ref02_escaped_ok _ (byt s_0 i10) _ e14) rfl rfl rfl rfl ⟨sr, trivial⟩ Tryz.call68 rfl ?_)
   obtain ⟨hk15, h1⟩ := ck_cut h1
   refine ro rfl (ok_concat rfl rfl rfl rfl rfl hk15 ?_)
   refine ro rfl (ok_assign rfl rfl rfl rfl ?_)
   refine rn ?_
   (repeat (first | refine uw ?_ | refine uo rfl ?_))
   refine awp_reg ?_
   refine ro rfl (ok_move rfl rfl rfl rfl ?_)
   obtain ⟨hk16, h1⟩ := ck_cut h1
   refine ro rfl (ok_ar rfl rfl rfl rfl rfl rfl hk16 ?_)
   refine ro rfl (ok_assign rfl rfl rfl rfl ?_)
   refine rn ?_
   (repeat (first | refine uw ?_ | refine uo rfl ?_))
   exact ⟨(out9 ++ r13, i10 + 1), h1, ghost_le (le_mk ⟨er rfl, er rfl, er rfl, trivial⟩ trivial)⟩
  ·replace h1 := if_f c11 h1
   refine awp_exit ?_
   (repeat (first | refine uw ?_ | refine uo rfl ?_))
   have e1 := oi h1
   subst e1
   exact ghost_le (le_mk ⟨er rfl, trivial⟩ trivial)

def ref06_FormatKey (n : Nat) (k_0 : TKey) : Option Bytes :=
 (
   (ref06_Key n k_0).bind fun r1 =>
   if (!r1) = true then
    some true
   else
    some (decide (k_0.fKind = 0))
  : Option Bool).bind fun t4 =>
 if t4 = true then
  some ([] : Bytes)
 else
  if k_0.fKind = 1 then
   (ref01_Format n k_0.fNum).bind fun r7 =>
   ck (([91] : Bytes).length + r7.length ≤ 9223372036854775807) <|
   ck ((([91] : Bytes) ++ r7).length + ([93] : Bytes).length ≤ 9223372036854775807) <|
   some ((([91] : Bytes) ++ r7) ++ ([93] : Bytes))
  else
   (ref02_Quote n k_0.fStr).bind fun r11 =>
   ck (([91] : Bytes).length + r11.length ≤ 9223372036854775807) <|
   ck ((([91] : Bytes) ++ r11).length + ([93] : Bytes).length ≤ 9223372036854775807) <|
   some ((([91] : Bytes) ++ r11) ++ ([93] : Bytes))

set_option maxHeartbeats 4000000 in
theorem ref06_FormatKey_ok (n : Nat) (k_0 : TKey) (r : Bytes) (h0 : ref06_FormatKey n k_0 = some r) : PCalls Tryz.prog 14 [.agg (TKey.cs k_0)] (· = .p (eS r)) := by
 unfold ref06_FormatKey at h0
 refine pbodyA good Tryz.func14 rfl rfl rfl fun w0 => ?_
 refine awp_seq (awp_reg ?_)
 refine ro rfl (ok_box rfl rfl rfl rfl rfl ?_)
 refine ro rfl (ok_assign rfl rfl rfl rfl ?_)
 refine rn ?_
 refine awp_seq (awp_seq ?_)
 obtain ⟨o16, h1, h0⟩ := bd_cut h0
 refine awp_joinN ⟨[(1, .ptr 1 0), (10, .p (eB o16))], [(1, [.p (eI k_0.fKind), .p (eI k_0.fNum), .p (eS k_0.fStr)])]⟩ ?_ ?_
 ·intro s' hle
  (repeat (first | refine uw ?_ | refine uo rfl ?_))
  refine awp_ghost hle ?_
  refine wp_if rfl (fun c5 => ?_) (fun c5 => ?_)
  ·replace h0 := if_t c5 h0
   refine awp_seq (awp_reg ?_)
   refine ro rfl (ok_assign rfl rfl rfl rfl ?_)
   refine rn ?_
   refine awp_ret ?_
   (repeat (first | refine uw ?_ | refine uo rfl ?_))
   have e0 := oi h0
   subst e0
   refine reta_mk rfl ?_
   exact sr
  ·replace h0 := if_bf c5 h0
   refine awp_skip (awp_seq (awp_seq (awp_reg ?_)))
   refine ro rfl (ok_fieldAddrP rfl rfl rfl rfl rfl rfl rfl rfl rfl ?_)
   refine ro rfl (ok_loadP1 rfl rfl rfl rfl rfl rfl rfl rfl ?_)
   refine ro rfl (ok_cmp rfl rfl rfl rfl rfl rfl ?_)
   refine rn ?_
   refine wp_ifD rfl (fun c6 => ?_) (fun c6 => ?_)
   ·replace h0 := if_t c6 h0
    refine awp_seq (awp_reg ?_)
    refine ro rfl (ok_fieldAddrP rfl rfl rfl rfl rfl rfl rfl rfl rfl ?_)
    refine ro rfl (ok_loadP1 rfl rfl rfl rfl rfl rfl rfl rfl ?_)
    obtain ⟨r7, e8, h0⟩ := bd_cut h0
    refine ro rfl (ok_callP (ref01_Format_ok _ k_0.fNum _ e8) rfl rfl rfl rfl ⟨sr, trivial⟩ Tryz.call36 rfl ?_)
    obtain ⟨hk9, h0⟩ := ck_cut h0
    refine ro rfl (ok_concat rfl rfl rfl rfl rfl hk9 ?_)
    obtain ⟨hk10, h0⟩ := ck_cut h0
    refine ro rfl (ok_concat rfl rfl rfl rfl rfl hk10 ?_)
    refine ro rfl (ok_assign rfl rfl rfl rfl ?_)
    refine rn ?_
    refine awp_ret ?_
    (repeat (first | refine uw ?_ | refine uo rfl ?_))
    have e0 := oi h0
    subst e0
    refine reta_mk rfl ?_
    exact sr
   ·replace h0 := if_f c6 h0
    refine awp_skip (awp_seq (awp_reg ?_))
    refine ro rfl (ok_fieldAddrP rfl rfl rfl rfl rfl rfl rfl rfl rfl ?_)
    refine ro rfl (ok_loadP1 rfl rfl rfl rfl rfl rfl rfl rfl ?_)
    obtain ⟨r11, e12, h0⟩ := bd_cut h0
    refine ro rfl (ok_callP (ref02_Quote_ok _ k_0.fStr _ e12) rfl rfl rfl rfl ⟨sr, trivial⟩ Tryz.call37 rfl ?_)
    obtain ⟨hk13, h0⟩ := ck_cut h0
    refine ro rfl (ok_concat rfl rfl rfl rfl rfl hk13 ?_)
    obtain ⟨hk14, h0⟩ := ck_cut h0
    refine ro rfl (ok_concat rfl rfl rfl rfl rfl hk14 ?_)
    refine ro rfl (ok_assign rfl rfl rfl rfl ?_)
    refine rn ?_
    refine awp_ret ?_
    (repeat (first | refine uw ?_ | refine uo rfl ?_))
    have e0 := oi h0
    subst e0
    refine reta_mk rfl ?_
    exact sr
 ·skip
  refine awp_reg ?_
  refine ro rfl (ok_loadPA rfl rfl rfl rfl rfl rfl rfl rfl rfl ?_)
  obtain ⟨r1, e2, h1⟩ := bd_cut h1
  refine ro rfl (ok_callP (ref06_Key_ok _ k_0 _ e2) rfl rfl rfl rfl ⟨sr, trivial⟩ Tryz.call29 rfl ?_)
  refine ro rfl (ok_not rfl rfl rfl rfl ?_)
  refine ro rfl (ok_move rfl rfl rfl rfl ?_)
  refine gd_B rfl rfl rfl (fun c3 => ?_) (fun c3 => ?_)
  ·replace h1 := if_t c3 h1
   refine gd_ft rfl rfl rfl (c3) rfl rfl ?_
   refine gd_ft rfl rfl rfl (c3) rfl rfl ?_
   refine gd_ft rfl rfl rfl (c3) rfl rfl ?_
   refine ro rfl (ok_pick_true rfl rfl rfl rfl (c3) rfl ?_)
   refine rn ?_
   (repeat (first | refine uw ?_ | refine uo rfl ?_))
   have e1 := oi h1
   subst e1
   exact ghost_le (le_mk ⟨er rfl, er rfl, trivial⟩ ⟨⟨_, rfl, ⟨sr, sr, sr, trivial⟩⟩, trivial⟩)
  ·replace h1 := if_bf c3 h1
   refine gd_ff rfl rfl rfl (c3) (ok_fieldAddrP rfl rfl rfl rfl rfl rfl rfl rfl rfl ?_)
   refine gd_ff rfl rfl rfl (c3) (ok_loadP1 rfl rfl rfl rfl rfl rfl rfl rfl ?_)
   refine gd_ff rfl rfl rfl (c3) (ok_cmp rfl rfl rfl rfl rfl rfl ?_)
   refine ro rfl (ok_pick_false rfl rfl rfl rfl (c3) rfl ?_)
   refine rn ?_
   (repeat (first | refine uw ?_ | refine uo rfl ?_))
   have e1 := oi h1
   subst e1
   exact ghost_le (le_mk ⟨er rfl, er rfl, trivial⟩ ⟨⟨_, rfl, ⟨sr, sr, sr, trivial⟩⟩, trivial⟩)

def ref06_Steps_l1 (n : Nat) (l_0 : List TModuleStep) : Nat → Bytes → Int → Option Bytes
 | 0, _, _ => none
 | m + 1, s13, i14 =>
 if i14 < (l_0.length : Int) then
  ck (s13.length + ([109, 111, 100, 117, 108, 101, 46] : Bytes).length ≤ 9223372036854775807) <|
  ck ((0 : Int) ≤ i14 ∧ i14 < (l_0.length : Int)) <|
  ck ((s13 ++ ([109, 111, 100, 117, 108, 101, 46] : Bytes)).length + ((lat l_0 i14).fName).length ≤ 9223372036854775807) <|
  ck ((0 : Int) ≤ i14 ∧ i14 < (l_0.length : Int)) <|
  (ref06_FormatKey n ((lat l_0 i14).fKey)).bind fun r20 =>
  ck (((s13 ++ ([109, 111, 100, 117, 108, 101, 46] : Bytes)) ++ ((lat l_0 i14).fName)).length + r20.length ≤ 9223372036854775807) <|
  ck ((((s13 ++ ([109, 111, 100, 117, 108, 101, 46] : Bytes)) ++ ((lat l_0 i14).fName)) ++ r20).length + ([46] : Bytes).length ≤ 9223372036854775807) <|
  ck (inR (i14 + 1)) <|
  ref06_Steps_l1 n l_0 m ((((s13 ++ ([109, 111, 100, 117, 108, 101, 46] : Bytes)) ++ ((lat l_0 i14).fName)) ++ r20) ++ ([46] : Bytes)) (i14 + 1)
 else
  some s13

def ref06_Steps (n : Nat) (l_0 : List TModuleStep) : Option Bytes :=
 (ref06_Steps_l1 n l_0 n ([] : Bytes) 0).bind fun s27 =>
 some s27

set_option maxHeartbeats 4000000 in
theorem ref06_Steps_ok (n : Nat) (l_0 : List TModuleStep) (r : Bytes) (h0 : ref06_Steps n l_0 = some r) : PCalls Tryz.prog 33 [eL eTModuleStep l_0] (· = .p (eS r)) := by
 unfold ref06_Steps at h0
 refine pbodyA good Tryz.func33 rfl rfl rfl fun w0 => ?_
 refine awp_seq (awp_reg ?_)
 refine ro rfl (ok_assign rfl rfl rfl rfl ?_)
 refine rn ?_
 refine awp_seq (awp_reg ?_)
 refine ro rfl (ok_assign rfl rfl rfl rfl ?_)
 refine rn ?_
 refine awp_seq (awp_seq (awp_reg ?_))
 refine ro rfl (ok_assign rfl rfl rfl rfl ?_)
 refine rn ?_
 refine awp_block ?_
 obtain ⟨o29, h1, h0⟩ := bd_cut h0
 refine awp_joinE 0 ⟨[(3, .p (eS o29))], []⟩ ?_ ?_
 ·intro s' hle
  (repeat (first | refine uw ?_ | refine uo rfl ?_))
  refine awp_ghost hle ?_
  (repeat (first | refine uw ?_ | refine uo rfl ?_))
  refine awp_seq (awp_reg ?_)
  refine ro rfl (ok_move rfl rfl rfl rfl ?_)
  refine ro rfl (ok_assign rfl rfl rfl rfl ?_)
  refine rn ?_
  refine awp_ret ?_
  (repeat (first | refine uw ?_ | refine uo rfl ?_))
  have e0 := oi h0
  subst e0
  refine reta_mk rfl ?_
  exact sr
 ·skip
  refine awp_loopG (fun (q31 : Bytes × Int) => ⟨[(0, .p (eL eTModuleStep l_0)), (3, .p (eS q31.1)), (4, .p (eI q31.2))], []⟩) (fun m (q31 : Bytes × Int) => ref06_Steps_l1 n l_0 m q31.1 q31.2) (fun _ => rfl) (([] : Bytes), 0) h1 (ghost_le (le_mk ⟨er rfl, er rfl, er rfl, trivial⟩ trivial)) ?_
  rintro m ⟨s13, i14⟩ h1
  replace h1 : ref06_Steps_l1 n l_0 (m + 1) s13 i14 = some o29 := h1
  rw [ref06_Steps_l1] at h1
  refine awp_seq (awp_seq (awp_reg ?_))
  refine ro rfl (ok_move rfl rfl rfl rfl ?_)
  refine ro rfl (ok_move rfl rfl rfl rfl ?_)
  refine ro rfl (op_lenL (f := eTModuleStep) (l := l_0) rfl rfl rfl rfl rfl rfl rfl ?_)
  refine ro rfl (ok_cmp rfl rfl rfl rfl rfl rfl ?_)
  refine rn ?_
  refine wp_ifD rfl (fun c15 => ?_) (fun c15 => ?_)
  ·replace h1 := if_t c15 h1
   refine awp_skip (awp_seq (awp_block ?_))
   obtain ⟨hk16, h1⟩ := ck_cut h1
   obtain ⟨hk17, h1⟩ := ck_cut h1
   obtain ⟨hk18, h1⟩ := ck_cut h1
   obtain ⟨hk19, h1⟩ := ck_cut h1
   obtain ⟨r20, e21, h1⟩ := bd_cut h1
   obtain ⟨hk22, h1⟩ := ck_cut h1
   obtain ⟨hk23, h1⟩ := ck_cut h1
   refine awp_ghost (ghost_le (t := ⟨[(0, .p (eL eTModuleStep l_0)), (3, .p (eS s13)), (4, .p (eI i14))], []⟩) (le_mk ⟨er rfl, er rfl, er rfl, trivial⟩ trivial)) ?_
   refine awp_drawS ⟨1, [16], (fun _ => none), (by2 [(0, .p (eL eTModuleStep l_0)), (3, .p (eS s13)), (4, .p (eI i14))] [(0, .p (eL eTModuleStep l_0)), (4, .p (eI i14))]), (fun _ => [])⟩ rfl rfl rfl ⟨rfl, rfl, rfl, trivial⟩ (lt1 ⟨rfl, rfl, trivial⟩) rfl rfl rfl rfl ?_
   refine ds_pure (fun _ => .p (eS s13)) rfl rfl rfl (all2 rfl (fun _ => rfl)) (lt1 rfl) (stg_no rfl (stg_yes [(3, _)] ⟨.inl rfl, trivial⟩ (fun sl hsl K hK => one_op rfl (ok_move rfl rfl rfl (hsl _ _ rfl) hK)) stg_nil)) ?_
   refine ds_pure (fun _ => .p (eS (s13 ++ ([109, 111, 100, 117, 108, 101, 46] : Bytes)))) rfl rfl rfl (all2 rfl (fun _ => rfl)) (lt1 rfl) (stg_no rfl (stg_yes [(11, _)] ⟨.inr ⟨0, _, rfl, rfl, rfl⟩, trivial⟩ (fun sl hsl K hK => one_op rfl (ok_concat rfl rfl rfl (hsl _ _ rfl) rfl hk16 hK)) stg_nil)) ?_
   refine ds_pure (fun _ => .p (eL eTModuleStep l_0)) rfl rfl rfl (all2 rfl (fun _ => rfl)) (lt1 rfl) (stg_no rfl (stg_yes [(0, _)] ⟨.inl rfl, trivial⟩ (fun sl hsl K hK => one_op rfl (ok_move rfl rfl rfl (hsl _ _ rfl) hK)) stg_nil)) ?_
   refine ds_pure (fun _ => .p (eI i14)) rfl rfl rfl (all2 rfl (fun _ => rfl)) (lt1 rfl) (stg_no rfl (stg_yes [(4, _)] ⟨.inl rfl, trivial⟩ (fun sl hsl K hK => one_op rfl (ok_move rfl rfl rfl (hsl _ _ rfl) hK)) stg_nil)) ?_
   refine ds_pure (fun _ => .rptr (TModuleStep.cs (lat l_0 i14))) rfl rfl rfl (all2 rfl (fun _ => rfl)) (lt1 rfl) (stg_no rfl (stg_yes [(13, _), (14, _)] ⟨.inr ⟨2, _, rfl, rfl, rfl⟩, .inr ⟨3, _, rfl, rfl, rfl⟩, trivial⟩ (fun sl hsl K hK => one_op rfl (op_at (f := eTModuleStep) (l := l_0) TModuleStep.cs rfl rfl rfl rfl rfl rfl (hsl _ _ rfl) rfl (hsl _ _ rfl) hk17 TModuleStep.cells_eq (fun _ => rfl) hK)) stg_nil)) ?_
   refine ds_pure (fun _ => .rptr (List.drop 0 (TModuleStep.cs (lat l_0 i14)))) rfl rfl rfl (all2 rfl (fun _ => rfl)) (lt1 rfl) (stg_no rfl (stg_yes [(15, _)] ⟨.inr ⟨4, _, rfl, rfl, rfl⟩, trivial⟩ (fun sl hsl K hK => one_op rfl (ok_fieldAddrR rfl rfl rfl rfl rfl rfl rfl rfl (hsl _ _ rfl) hK)) stg_nil)) ?_
   refine ds_pure (fun _ => .p (eS ((lat l_0 i14).fName))) rfl rfl rfl (all2 rfl (fun _ => rfl)) (lt1 rfl) (stg_no rfl (stg_yes [(16, _)] ⟨.inr ⟨5, _, rfl, rfl, rfl⟩, trivial⟩ (fun sl hsl K hK => one_op rfl (ok_loadR1 rfl rfl rfl rfl rfl (hsl _ _ rfl) rfl hK)) stg_nil)) ?_
   refine ds_pure (fun _ => .p (eS ((s13 ++ ([109, 111, 100, 117, 108, 101, 46] : Bytes)) ++ ((lat l_0 i14).fName)))) rfl rfl rfl (all2 rfl (fun _ => rfl)) (lt1 rfl) (stg_no rfl (stg_yes [(12, _), (17, _)] ⟨.inr ⟨1, _, rfl, rfl, rfl⟩, .inr ⟨6, _, rfl, rfl, rfl⟩, trivial⟩ (fun sl hsl K hK => one_op rfl (ok_concat rfl rfl rfl (hsl _ _ rfl) (hsl _ _ rfl) hk18 hK)) stg_nil)) ?_
   refine ds_pure (fun _ => .p (eL eTModuleStep l_0)) rfl rfl rfl (all2 rfl (fun _ => rfl)) (lt1 rfl) (stg_no rfl (stg_yes [(0, _)] ⟨.inl rfl, trivial⟩ (fun sl hsl K hK => one_op rfl (ok_move rfl rfl rfl (hsl _ _ rfl) hK)) stg_nil)) ?_
   refine ds_pure (fun _ => .p (eI i14)) rfl rfl rfl (all2 rfl (fun _ => rfl)) (lt1 rfl) (stg_no rfl (stg_yes [(4, _)] ⟨.inl rfl, trivial⟩ (fun sl hsl K hK => one_op rfl (ok_move rfl rfl rfl (hsl _ _ rfl) hK)) stg_nil)) ?_
   refine ds_pure (fun _ => .rptr (TModuleStep.cs (lat l_0 i14))) rfl rfl rfl (all2 rfl (fun _ => rfl)) (lt1 rfl) (stg_no rfl (stg_yes [(19, _), (20, _)] ⟨.inr ⟨8, _, rfl, rfl, rfl⟩, .inr ⟨9, _, rfl, rfl, rfl⟩, trivial⟩ (fun sl hsl K hK => one_op rfl (op_at (f := eTModuleStep) (l := l_0) TModuleStep.cs rfl rfl rfl rfl rfl rfl (hsl _ _ rfl) rfl (hsl _ _ rfl) hk19 TModuleStep.cells_eq (fun _ => rfl) hK)) stg_nil)) ?_
   refine ds_pure (fun _ => .rptr (List.drop 1 (TModuleStep.cs (lat l_0 i14)))) rfl rfl rfl (all2 rfl (fun _ => rfl)) (lt1 rfl) (stg_no rfl (stg_yes [(21, _)] ⟨.inr ⟨10, _, rfl, rfl, rfl⟩, trivial⟩ (fun sl hsl K hK => one_op rfl (ok_fieldAddrR rfl rfl rfl rfl rfl rfl rfl rfl (hsl _ _ rfl) hK)) stg_nil)) ?_
   refine ds_pure (fun _ => .p (.agg (TKey.cs ((lat l_0 i14).fKey)))) rfl rfl rfl (all2 rfl (fun _ => rfl)) (lt1 rfl) (stg_no rfl (stg_yes [(22, _)] ⟨.inr ⟨11, _, rfl, rfl, rfl⟩, trivial⟩ (fun sl hsl K hK => one_op rfl (ok_loadRA rfl rfl rfl rfl rfl (hsl _ _ rfl) rfl hK)) stg_nil)) ?_
   refine ds_pure (fun _ => .p (eS r20)) rfl rfl rfl (all2 rfl (fun _ => rfl)) (lt1 rfl) (stg_no rfl (stg_yes [(23, _)] ⟨.inr ⟨12, _, rfl, rfl, rfl⟩, trivial⟩ (fun sl hsl K hK => one_op rfl (ok_callP (ref06_FormatKey_ok _ ((lat l_0 i14).fKey) _ e21) rfl rfl rfl (args_cons (hsl _ _ rfl) args_nil) ⟨sr, trivial⟩ Tryz.call14 rfl hK)) stg_nil)) ?_
   refine ds_pure (fun _ => .p (eS (((s13 ++ ([109, 111, 100, 117, 108, 101, 46] : Bytes)) ++ ((lat l_0 i14).fName)) ++ r20))) rfl rfl rfl (all2 rfl (fun _ => rfl)) (lt1 rfl) (stg_no rfl (stg_yes [(18, _), (24, _)] ⟨.inr ⟨7, _, rfl, rfl, rfl⟩, .inr ⟨13, _, rfl, rfl, rfl⟩, trivial⟩ (fun sl hsl K hK => one_op rfl (ok_concat rfl rfl rfl (hsl _ _ rfl) (hsl _ _ rfl) hk22 hK)) stg_nil)) ?_
   refine ds_pure (fun _ => .p (eS ((((s13 ++ ([109, 111, 100, 117, 108, 101, 46] : Bytes)) ++ ((lat l_0 i14).fName)) ++ r20) ++ ([46] : Bytes)))) rfl rfl rfl (all2 rfl (fun _ => rfl)) (lt1 rfl) (stg_no rfl (stg_yes [(25, _)] ⟨.inr ⟨14, _, rfl, rfl, rfl⟩, trivial⟩ (fun sl hsl K hK => one_op rfl (ok_concat rfl rfl rfl (hsl _ _ rfl) rfl hk23 hK)) stg_nil)) ?_
   refine ds_imp (fun _ => .p (eS ((((s13 ++ ([109, 111, 100, 117, 108, 101, 46] : Bytes)) ++ ((lat l_0 i14).fName)) ++ r20) ++ ([46] : Bytes)))) [(26, _)] rfl ⟨.inr ⟨15, _, rfl, rfl, rfl⟩, trivial⟩ rfl rfl (fun _ => rfl) (lt1 (fun h => absurd h (by decide))) (fun sl hsl K hK => one_op rfl (ok_assign rfl rfl rfl (hsl _ _ rfl) hK)) ?_
   refine ds_nil ?_
   (repeat (first | refine uw ?_ | refine uo rfl ?_))
   refine awp_reg ?_
   refine ro rfl (ok_move rfl rfl rfl rfl ?_)
   obtain ⟨hk24, h1⟩ := ck_cut h1
   refine ro rfl (ok_ar rfl rfl rfl rfl rfl rfl hk24 ?_)
   refine ro rfl (ok_assign rfl rfl rfl rfl ?_)
   refine rn ?_
   (repeat (first | refine uw ?_ | refine uo rfl ?_))
   exact ⟨((((s13 ++ ([109, 111, 100, 117, 108, 101, 46] : Bytes)) ++ ((lat l_0 i14).fName)) ++ r20) ++ ([46] : Bytes), i14 + 1), h1, ghost_le (le_mk ⟨er rfl, er rfl, er rfl, trivial⟩ trivial)⟩
  ·replace h1 := if_f c15 h1
   refine awp_exit ?_
   (repeat (first | refine uw ?_ | refine uo rfl ?_))
   have e1 := oi h1
   subst e1
   exact ghost_le (le_mk ⟨er rfl, trivial⟩ trivial)

def ref06_Format (n : Nat) (a_0 : TAddress) : Option Bytes :=
 (ref06_Check n a_0).bind fun r1 =>
 if r1 = 0 then
  (ref06_Steps n a_0.fModule).bind fun r4 =>
  (
    if a_0.fData = true then
     ck (r4.length + ([100, 97, 116, 97, 46] : Bytes).length ≤ 9223372036854775807) <|
     some (r4 ++ ([100, 97, 116, 97, 46] : Bytes))
    else
     some r4
   : Option Bytes).bind fun s8 =>
  ck (s8.length + a_0.fType.length ≤ 9223372036854775807) <|
  ck ((s8 ++ a_0.fType).length + ([46] : Bytes).length ≤ 9223372036854775807) <|
  ck (((s8 ++ a_0.fType) ++ ([46] : Bytes)).length + a_0.fName.length ≤ 9223372036854775807) <|
  (ref06_FormatKey n a_0.fKey).bind fun r12 =>
  ck ((((s8 ++ a_0.fType) ++ ([46] : Bytes)) ++ a_0.fName).length + r12.length ≤ 9223372036854775807) <|
  some ((((s8 ++ a_0.fType) ++ ([46] : Bytes)) ++ a_0.fName) ++ r12)
 else
  some ([] : Bytes)

set_option maxHeartbeats 4000000 in
theorem ref06_Format_ok (n : Nat) (a_0 : TAddress) (r : Bytes) (h0 : ref06_Format n a_0 = some r) : PCalls Tryz.prog 12 [.agg (TAddress.cs a_0)] (· = .p (eS r)) := by
 unfold ref06_Format at h0
 refine pbodyA good Tryz.func12 rfl rfl rfl fun w0 => ?_
 refine awp_seq (awp_reg ?_)
 refine ro rfl (ok_box rfl rfl rfl rfl rfl ?_)
 refine ro rfl (ok_assign rfl rfl rfl rfl ?_)
 refine rn ?_
 refine awp_seq (awp_seq (awp_reg ?_))
 refine ro rfl (ok_loadPA rfl rfl rfl rfl rfl rfl rfl rfl rfl ?_)
 obtain ⟨r1, e2, h0⟩ := bd_cut h0
 refine ro rfl (ok_callP (ref06_Check_ok _ a_0 _ e2) rfl rfl rfl rfl ⟨sr, trivial⟩ Tryz.call10 rfl ?_)
 refine ro rfl (ok_cmp rfl rfl rfl rfl rfl rfl ?_)
 refine rn ?_
 refine wp_ifN rfl (fun c3 => ?_) (fun c3 => ?_)
 ·replace h0 := if_f c3 h0
  refine awp_seq (awp_reg ?_)
  refine ro rfl (ok_assign rfl rfl rfl rfl ?_)
  refine rn ?_
  refine awp_ret ?_
  (repeat (first | refine uw ?_ | refine uo rfl ?_))
  have e0 := oi h0
  subst e0
  refine reta_mk rfl ?_
  exact sr
 ·replace h0 := if_t c3 h0
  refine awp_skip (awp_seq (awp_reg ?_))
  refine ro rfl (ok_fieldAddrP rfl rfl rfl rfl rfl rfl rfl rfl rfl ?_)
  refine ro rfl (ok_loadP1 rfl rfl rfl rfl rfl rfl rfl rfl ?_)
  obtain ⟨r4, e5, h0⟩ := bd_cut h0
  refine ro rfl (ok_callP (ref06_Steps_ok _ a_0.fModule _ e5) rfl rfl rfl rfl ⟨sr, trivial⟩ Tryz.call33 rfl ?_)
  refine ro rfl (ok_assign rfl rfl rfl rfl ?_)
  refine rn ?_
  refine awp_seq ?_
  obtain ⟨o16, h1, h0⟩ := bd_cut h0
  refine awp_joinN ⟨[(1, .ptr 1 0), (3, .p (eS o16))], [(1, [.p (eL eTModuleStep a_0.fModule), .p (eB a_0.fData), .p (eS a_0.fType), .p (eS a_0.fName), .p (eI a_0.fKey.fKind), .p (eI a_0.fKey.fNum), .p (eS a_0.fKey.fStr)])]⟩ ?_ ?_
  ·intro s' hle
   (repeat (first | refine uw ?_ | refine uo rfl ?_))
   refine awp_ghost hle ?_
   refine awp_seq ?_
   obtain ⟨hk9, h0⟩ := ck_cut h0
   obtain ⟨hk10, h0⟩ := ck_cut h0
   obtain ⟨hk11, h0⟩ := ck_cut h0
   obtain ⟨r12, e13, h0⟩ := bd_cut h0
   obtain ⟨hk14, h0⟩ := ck_cut h0
   refine awp_drawQ [(1, .ptr 1 0), (3, .p (eS o16))] rfl ⟨rfl, rfl, trivial⟩ rfl ?_
   refine dq_cons (.p (eS o16)) [(3, _)] ⟨.inl rfl, trivial⟩ (fun sl hsl K hK => one_op rfl (ok_move rfl rfl rfl (hsl _ _ rfl) hK)) rfl rfl rfl ?_
   refine dq_cons (.ptr 1 2) [(1, _)] ⟨.inl rfl, trivial⟩ (fun sl hsl K hK => one_op rfl (ok_fieldAddrP rfl rfl rfl rfl rfl rfl rfl rfl (hsl _ _ rfl) hK)) rfl rfl rfl ?_
   refine dq_cons (.p (eS a_0.fType)) [(15, _)] ⟨.inr ⟨1, rfl, rfl⟩, trivial⟩ (fun sl hsl K hK => one_op rfl (ok_loadP1 rfl rfl rfl rfl rfl (hsl _ _ rfl) rfl rfl hK)) rfl rfl rfl ?_
   refine dq_cons (.p (eS (o16 ++ a_0.fType))) [(14, _), (16, _)] ⟨.inr ⟨0, rfl, rfl⟩, .inr ⟨2, rfl, rfl⟩, trivial⟩ (fun sl hsl K hK => one_op rfl (ok_concat rfl rfl rfl (hsl _ _ rfl) (hsl _ _ rfl) hk9 hK)) rfl rfl rfl ?_
   refine dq_cons (.p (eS ((o16 ++ a_0.fType) ++ ([46] : Bytes)))) [(17, _)] ⟨.inr ⟨3, rfl, rfl⟩, trivial⟩ (fun sl hsl K hK => one_op rfl (ok_concat rfl rfl rfl (hsl _ _ rfl) rfl hk10 hK)) rfl rfl rfl ?_
   refine dq_cons (.ptr 1 3) [(1, _)] ⟨.inl rfl, trivial⟩ (fun sl hsl K hK => one_op rfl (ok_fieldAddrP rfl rfl rfl rfl rfl rfl rfl rfl (hsl _ _ rfl) hK)) rfl rfl rfl ?_
   refine dq_cons (.p (eS a_0.fName)) [(19, _)] ⟨.inr ⟨5, rfl, rfl⟩, trivial⟩ (fun sl hsl K hK => one_op rfl (ok_loadP1 rfl rfl rfl rfl rfl (hsl _ _ rfl) rfl rfl hK)) rfl rfl rfl ?_
   refine dq_cons (.p (eS (((o16 ++ a_0.fType) ++ ([46] : Bytes)) ++ a_0.fName))) [(18, _), (20, _)] ⟨.inr ⟨4, rfl, rfl⟩, .inr ⟨6, rfl, rfl⟩, trivial⟩ (fun sl hsl K hK => one_op rfl (ok_concat rfl rfl rfl (hsl _ _ rfl) (hsl _ _ rfl) hk11 hK)) rfl rfl rfl ?_
   refine dq_cons (.ptr 1 4) [(1, _)] ⟨.inl rfl, trivial⟩ (fun sl hsl K hK => one_op rfl (ok_fieldAddrP rfl rfl rfl rfl rfl rfl rfl rfl (hsl _ _ rfl) hK)) rfl rfl rfl ?_
   refine dq_cons (.p (.agg (TKey.cs a_0.fKey))) [(22, _)] ⟨.inr ⟨8, rfl, rfl⟩, trivial⟩ (fun sl hsl K hK => one_op rfl (ok_loadPA rfl rfl rfl rfl rfl (hsl _ _ rfl) rfl rfl rfl hK)) rfl rfl rfl ?_
   refine dq_cons (.p (eS r12)) [(23, _)] ⟨.inr ⟨9, rfl, rfl⟩, trivial⟩ (fun sl hsl K hK => one_op rfl (ok_callP (ref06_FormatKey_ok _ a_0.fKey _ e13) rfl rfl rfl (args_cons (hsl _ _ rfl) args_nil) ⟨sr, trivial⟩ Tryz.call14 rfl hK)) rfl rfl rfl ?_
   refine dq_cons (.p (eS ((((o16 ++ a_0.fType) ++ ([46] : Bytes)) ++ a_0.fName) ++ r12))) [(21, _), (24, _)] ⟨.inr ⟨7, rfl, rfl⟩, .inr ⟨10, rfl, rfl⟩, trivial⟩ (fun sl hsl K hK => one_op rfl (ok_concat rfl rfl rfl (hsl _ _ rfl) (hsl _ _ rfl) hk14 hK)) rfl rfl rfl ?_
   refine dq_cons (.p (eS ((((o16 ++ a_0.fType) ++ ([46] : Bytes)) ++ a_0.fName) ++ r12))) [(25, _)] ⟨.inr ⟨11, rfl, rfl⟩, trivial⟩ (fun sl hsl K hK => one_op rfl (ok_assign rfl rfl rfl (hsl _ _ rfl) hK)) rfl rfl rfl ?_
   refine dq_nil ?_
   refine awp_ret ?_
   (repeat (first | refine uw ?_ | refine uo rfl ?_))
   have e0 := oi h0
   subst e0
   refine reta_mk rfl ?_
   exact sr
  ·skip
   refine awp_seq (awp_reg ?_)
   refine ro rfl (ok_fieldAddrP rfl rfl rfl rfl rfl rfl rfl rfl rfl ?_)
   refine ro rfl (ok_loadP1 rfl rfl rfl rfl rfl rfl rfl rfl ?_)
   refine rn ?_
   refine wp_if rfl (fun c6 => ?_) (fun c6 => ?_)
   ·replace h1 := if_t c6 h1
    refine awp_reg ?_
    refine ro rfl (ok_move rfl rfl rfl rfl ?_)
    obtain ⟨hk7, h1⟩ := ck_cut h1
    refine ro rfl (ok_concat rfl rfl rfl rfl rfl hk7 ?_)
    refine ro rfl (ok_assign rfl rfl rfl rfl ?_)
    refine rn ?_
    (repeat (first | refine uw ?_ | refine uo rfl ?_))
    have e1 := oi h1
    subst e1
    exact ghost_le (le_mk ⟨er rfl, er rfl, trivial⟩ ⟨⟨_, rfl, ⟨sr, sr, sr, sr, sr, sr, sr, trivial⟩⟩, trivial⟩)
   ·replace h1 := if_bf c6 h1
    refine awp_skip ?_
    (repeat (first | refine uw ?_ | refine uo rfl ?_))
    have e1 := oi h1
    subst e1
    exact ghost_le (le_mk ⟨er rfl, er rfl, trivial⟩ ⟨⟨_, rfl, ⟨sr, sr, sr, sr, sr, sr, sr, trivial⟩⟩, trivial⟩)

end Go.Ab.R06
