/- strings.Builder: what writes; utf8.AppendRune. -/
import Derived.Test.YtijgdpmadidpaaaGreatDoorBld
import Derived.Test.YtijgdpmadidpaaaGreatDoorAbSq
set_option linter.unusedVariables false
set_option linter.unusedSimpArgs false
set_option linter.unnecessarySimpa false
namespace Go.Ab.RB
open Go.Proofs Go.Ab
attribute [local irreducible] awp rwpL OpOk PCalls OCalls AV.sub

def unicode_utf8_appendRuneNonASCII (p_0 : List UInt8) (r_1 : Int) : Option (List UInt8) :=
 if IntKind.wrap .u32 (r_1) ≤ 2047 then
  ck ((0 : Int) ≤ 6) <|
  ck ((0 : Int) ≤ iOr .u8 192 (IntKind.wrap .u8 (iShr .i32 r_1 6)) ∧ iOr .u8 192 (IntKind.wrap .u8 (iShr .i32 r_1 6)) < 256) <|
  ck ((0 : Int) ≤ iOr .u8 128 (iAnd .u8 (IntKind.wrap .u8 (r_1)) 63) ∧ iOr .u8 128 (iAnd .u8 (IntKind.wrap .u8 (r_1)) 63) < 256) <|
  ck ((p_0.length + [u8 (iOr .u8 192 (IntKind.wrap .u8 (iShr .i32 r_1 6))), u8 (iOr .u8 128 (iAnd .u8 (IntKind.wrap .u8 (r_1)) 63))].length) * 1 ≤ 140737488355328) <|
  some (p_0 ++ [u8 (iOr .u8 192 (IntKind.wrap .u8 (iShr .i32 r_1 6))), u8 (iOr .u8 128 (iAnd .u8 (IntKind.wrap .u8 (r_1)) 63))])
 else
  (
    if IntKind.wrap .u32 (r_1) < 55296 then
     some (decide (IntKind.wrap .u32 (r_1) < 55296))
    else
     if 57343 < IntKind.wrap .u32 (r_1) then
      some (decide (IntKind.wrap .u32 (r_1) ≤ 65535))
     else
      some false
   : Option Bool).bind fun t8 =>
  if t8 = true then
   ck ((0 : Int) ≤ 12) <|
   ck ((0 : Int) ≤ 6) <|
   ck ((0 : Int) ≤ iOr .u8 224 (IntKind.wrap .u8 (iShr .i32 r_1 12)) ∧ iOr .u8 224 (IntKind.wrap .u8 (iShr .i32 r_1 12)) < 256) <|
   ck ((0 : Int) ≤ iOr .u8 128 (iAnd .u8 (IntKind.wrap .u8 (iShr .i32 r_1 6)) 63) ∧ iOr .u8 128 (iAnd .u8 (IntKind.wrap .u8 (iShr .i32 r_1 6)) 63) < 256) <|
   ck ((0 : Int) ≤ iOr .u8 128 (iAnd .u8 (IntKind.wrap .u8 (r_1)) 63) ∧ iOr .u8 128 (iAnd .u8 (IntKind.wrap .u8 (r_1)) 63) < 256) <|
   ck ((p_0.length + [u8 (iOr .u8 224 (IntKind.wrap .u8 (iShr .i32 r_1 12))), u8 (iOr .u8 128 (iAnd .u8 (IntKind.wrap .u8 (iShr .i32 r_1 6)) 63)), u8 (iOr .u8 128 (iAnd .u8 (IntKind.wrap .u8 (r_1)) 63))].length) * 1 ≤ 140737488355328) <|
   some (p_0 ++ [u8 (iOr .u8 224 (IntKind.wrap .u8 (iShr .i32 r_1 12))), u8 (iOr .u8 128 (iAnd .u8 (IntKind.wrap .u8 (iShr .i32 r_1 6)) 63)), u8 (iOr .u8 128 (iAnd .u8 (IntKind.wrap .u8 (r_1)) 63))])
  else
   (
     if 65535 < IntKind.wrap .u32 (r_1) then
      some (decide (IntKind.wrap .u32 (r_1) ≤ 1114111))
     else
      some false
    : Option Bool).bind fun t17 =>
   if t17 = true then
    ck ((0 : Int) ≤ 18) <|
    ck ((0 : Int) ≤ 12) <|
    ck ((0 : Int) ≤ 6) <|
    ck ((0 : Int) ≤ iOr .u8 240 (IntKind.wrap .u8 (iShr .i32 r_1 18)) ∧ iOr .u8 240 (IntKind.wrap .u8 (iShr .i32 r_1 18)) < 256) <|
    ck ((0 : Int) ≤ iOr .u8 128 (iAnd .u8 (IntKind.wrap .u8 (iShr .i32 r_1 12)) 63) ∧ iOr .u8 128 (iAnd .u8 (IntKind.wrap .u8 (iShr .i32 r_1 12)) 63) < 256) <|
    ck ((0 : Int) ≤ iOr .u8 128 (iAnd .u8 (IntKind.wrap .u8 (iShr .i32 r_1 6)) 63) ∧ iOr .u8 128 (iAnd .u8 (IntKind.wrap .u8 (iShr .i32 r_1 6)) 63) < 256) <|
    ck ((0 : Int) ≤ iOr .u8 128 (iAnd .u8 (IntKind.wrap .u8 (r_1)) 63) ∧ iOr .u8 128 (iAnd .u8 (IntKind.wrap .u8 (r_1)) 63) < 256) <|
    ck ((p_0.length + [u8 (iOr .u8 240 (IntKind.wrap .u8 (iShr .i32 r_1 18))), u8 (iOr .u8 128 (iAnd .u8 (IntKind.wrap .u8 (iShr .i32 r_1 12)) 63)), u8 (iOr .u8 128 (iAnd .u8 (IntKind.wrap .u8 (iShr .i32 r_1 6)) 63)), u8 (iOr .u8 128 (iAnd .u8 (IntKind.wrap .u8 (r_1)) 63))].length) * 1 ≤ 140737488355328) <|
    some (p_0 ++ [u8 (iOr .u8 240 (IntKind.wrap .u8 (iShr .i32 r_1 18))), u8 (iOr .u8 128 (iAnd .u8 (IntKind.wrap .u8 (iShr .i32 r_1 12)) 63)), u8 (iOr .u8 128 (iAnd .u8 (IntKind.wrap .u8 (iShr .i32 r_1 6)) 63)), u8 (iOr .u8 128 (iAnd .u8 (IntKind.wrap .u8 (r_1)) 63))])
   else
    ck ((p_0.length + [(239 : UInt8), (191 : UInt8), (189 : UInt8)].length) * 1 ≤ 140737488355328) <|
    some (p_0 ++ [(239 : UInt8), (191 : UInt8), (189 : UInt8)])

set_option maxHeartbeats 4000000 in
theorem unicode_utf8_appendRuneNonASCII_ok (p_0 : List UInt8) (r_1 : Int) (r : (List UInt8)) (h0 : unicode_utf8_appendRuneNonASCII p_0 r_1 = some r) : OCalls Tryz.prog 130 [.vec 900000 1 (5 + 1) (p_0.map eU), .p (eK .i32 r_1)] [] (fun x y => x = .vec 2000000 1 (5 + 1) (r.map eU) ∧ y = []) := by
 unfold unicode_utf8_appendRuneNonASCII at h0
 refine obodyG good [800000] [] Tryz.func130 rfl rfl rfl rfl rfl fun w0 F => ?_
 refine awp_seq (awp_reg ?_)
 refine ro rfl (ok_assign rfl rfl rfl rfl ?_)
 refine rn ?_
 refine awp_seq (awp_reg ?_)
 refine ro rfl (ok_move rfl rfl rfl rfl ?_)
 refine ro rfl (ok_convW rfl rfl rfl rfl rfl rfl rfl rfl ?_)
 refine ro rfl (ok_assign rfl rfl rfl rfl ?_)
 refine rn ?_
 refine awp_block (awp_seq (awp_reg ?_))
 refine ro rfl (ok_move rfl rfl rfl rfl ?_)
 refine ro rfl (ok_cmp rfl rfl rfl rfl rfl rfl ?_)
 refine ro rfl (ok_assign rfl rfl rfl rfl ?_)
 refine rn ?_
 refine wp_ifD rfl (fun c1 => ?_) (fun c1 => ?_)
 ·replace h0 := if_t c1 h0
  refine awp_seq (awp_reg ?_)
  refine ro rfl (ok_move rfl rfl rfl rfl ?_)
  refine ro rfl (ok_move rfl rfl rfl rfl ?_)
  obtain ⟨h2, h0⟩ := ck_cut h0
  refine ro rfl (ok_sh rfl rfl rfl rfl rfl rfl h2 ?_)
  refine ro rfl (ok_convW rfl rfl rfl rfl rfl rfl rfl rfl ?_)
  refine ro rfl (ok_bit rfl rfl rfl rfl rfl rfl ?_)
  refine ro rfl (ok_move rfl rfl rfl rfl ?_)
  refine ro rfl (ok_convW rfl rfl rfl rfl rfl rfl rfl rfl ?_)
  refine ro rfl (ok_bit rfl rfl rfl rfl rfl rfl ?_)
  refine ro rfl (ok_bit rfl rfl rfl rfl rfl rfl ?_)
  obtain ⟨h4, h0⟩ := ck_cut h0
  obtain ⟨h3, h0⟩ := ck_cut h0
  refine ro rfl (op_bslice eU [u8 (iOr .u8 192 (IntKind.wrap .u8 (iShr .i32 r_1 6))), u8 (iOr .u8 128 (iAnd .u8 (IntKind.wrap .u8 (r_1)) 63))] rfl rfl rfl rfl rfl rfl rfl rfl rfl rfl rfl rfl rfl (congr (congrArg List.cons (u8_of h4)) (congr (congrArg List.cons (u8_of h3)) rfl)) ?_)
  obtain ⟨h5, h0⟩ := ck_cut h0
  refine ro rfl (op_appV eU p_0 [u8 (iOr .u8 192 (IntKind.wrap .u8 (iShr .i32 r_1 6))), u8 (iOr .u8 128 (iAnd .u8 (IntKind.wrap .u8 (r_1)) 63))] rfl rfl rfl rfl rfl rfl rfl rfl rfl rfl rfl rfl rfl (fun _ => rfl) rfl rfl rfl rfl h5 ?_)
  refine ro rfl (ok_assign rfl rfl rfl rfl ?_)
  refine rn ?_
  refine awp_ret ?_
  (repeat (first | refine uw ?_ | refine uo rfl ?_))
  have e0 := oi h0
  subst e0
  exact retg_mk (ghost_trans (ghost_ren 24 800000 rfl rfl rfl rfl rfl) (ghost_refl _)) rfl rfl rfl rfl (sr) trivial
 ·replace h0 := if_f c1 h0
  refine awp_seq ?_
  obtain ⟨o30, h1, h0⟩ := bd_cut h0
  refine awp_joinN ⟨[(0, .vec 900000 1 (5 + 1) (p_0.map eU)), (1, .p (eK .i32 r_1)), (5, .p (eK .u32 (IntKind.wrap .u32 (r_1)))), (25, .p (eB o30))], []⟩ ?_ ?_
  ·intro s' hle
   (repeat (first | refine uw ?_ | refine uo rfl ?_))
   refine awp_ghost hle ?_
   refine wp_if rfl (fun c9 => ?_) (fun c9 => ?_)
   ·replace h0 := if_t c9 h0
    refine awp_seq (awp_reg ?_)
    refine ro rfl (ok_move rfl rfl rfl rfl ?_)
    refine ro rfl (ok_move rfl rfl rfl rfl ?_)
    obtain ⟨h10, h0⟩ := ck_cut h0
    refine ro rfl (ok_sh rfl rfl rfl rfl rfl rfl h10 ?_)
    refine ro rfl (ok_convW rfl rfl rfl rfl rfl rfl rfl rfl ?_)
    refine ro rfl (ok_bit rfl rfl rfl rfl rfl rfl ?_)
    refine ro rfl (ok_move rfl rfl rfl rfl ?_)
    obtain ⟨h11, h0⟩ := ck_cut h0
    refine ro rfl (ok_sh rfl rfl rfl rfl rfl rfl h11 ?_)
    refine ro rfl (ok_convW rfl rfl rfl rfl rfl rfl rfl rfl ?_)
    refine ro rfl (ok_bit rfl rfl rfl rfl rfl rfl ?_)
    refine ro rfl (ok_bit rfl rfl rfl rfl rfl rfl ?_)
    refine ro rfl (ok_move rfl rfl rfl rfl ?_)
    refine ro rfl (ok_convW rfl rfl rfl rfl rfl rfl rfl rfl ?_)
    refine ro rfl (ok_bit rfl rfl rfl rfl rfl rfl ?_)
    refine ro rfl (ok_bit rfl rfl rfl rfl rfl rfl ?_)
    obtain ⟨h14, h0⟩ := ck_cut h0
    obtain ⟨h13, h0⟩ := ck_cut h0
    obtain ⟨h12, h0⟩ := ck_cut h0
    refine ro rfl (op_bslice eU [u8 (iOr .u8 224 (IntKind.wrap .u8 (iShr .i32 r_1 12))), u8 (iOr .u8 128 (iAnd .u8 (IntKind.wrap .u8 (iShr .i32 r_1 6)) 63)), u8 (iOr .u8 128 (iAnd .u8 (IntKind.wrap .u8 (r_1)) 63))] rfl rfl rfl rfl rfl rfl rfl rfl rfl rfl rfl rfl rfl (congr (congrArg List.cons (u8_of h14)) (congr (congrArg List.cons (u8_of h13)) (congr (congrArg List.cons (u8_of h12)) rfl))) ?_)
    obtain ⟨h15, h0⟩ := ck_cut h0
    refine ro rfl (op_appV eU p_0 [u8 (iOr .u8 224 (IntKind.wrap .u8 (iShr .i32 r_1 12))), u8 (iOr .u8 128 (iAnd .u8 (IntKind.wrap .u8 (iShr .i32 r_1 6)) 63)), u8 (iOr .u8 128 (iAnd .u8 (IntKind.wrap .u8 (r_1)) 63))] rfl rfl rfl rfl rfl rfl rfl rfl rfl rfl rfl rfl rfl (fun _ => rfl) rfl rfl rfl rfl h15 ?_)
    refine ro rfl (ok_assign rfl rfl rfl rfl ?_)
    refine rn ?_
    refine awp_ret ?_
    (repeat (first | refine uw ?_ | refine uo rfl ?_))
    have e0 := oi h0
    subst e0
    exact retg_mk (ghost_trans (ghost_ren 49 800000 rfl rfl rfl rfl rfl) (ghost_refl _)) rfl rfl rfl rfl (sr) trivial
   ·replace h0 := if_bf c9 h0
    refine awp_seq ?_
    obtain ⟨o32, h1, h0⟩ := bd_cut h0
    refine awp_joinN ⟨[(0, .vec 900000 1 (5 + 1) (p_0.map eU)), (1, .p (eK .i32 r_1)), (50, .p (eB o32))], []⟩ ?_ ?_
    ·intro s' hle
     (repeat (first | refine uw ?_ | refine uo rfl ?_))
     refine awp_ghost hle ?_
     refine wp_if rfl (fun c18 => ?_) (fun c18 => ?_)
     ·replace h0 := if_t c18 h0
      refine awp_seq (awp_reg ?_)
      refine ro rfl (ok_move rfl rfl rfl rfl ?_)
      refine ro rfl (ok_move rfl rfl rfl rfl ?_)
      obtain ⟨h19, h0⟩ := ck_cut h0
      refine ro rfl (ok_sh rfl rfl rfl rfl rfl rfl h19 ?_)
      refine ro rfl (ok_convW rfl rfl rfl rfl rfl rfl rfl rfl ?_)
      refine ro rfl (ok_bit rfl rfl rfl rfl rfl rfl ?_)
      refine ro rfl (ok_move rfl rfl rfl rfl ?_)
      obtain ⟨h20, h0⟩ := ck_cut h0
      refine ro rfl (ok_sh rfl rfl rfl rfl rfl rfl h20 ?_)
      refine ro rfl (ok_convW rfl rfl rfl rfl rfl rfl rfl rfl ?_)
      refine ro rfl (ok_bit rfl rfl rfl rfl rfl rfl ?_)
      refine ro rfl (ok_bit rfl rfl rfl rfl rfl rfl ?_)
      refine ro rfl (ok_move rfl rfl rfl rfl ?_)
      obtain ⟨h21, h0⟩ := ck_cut h0
      refine ro rfl (ok_sh rfl rfl rfl rfl rfl rfl h21 ?_)
      refine ro rfl (ok_convW rfl rfl rfl rfl rfl rfl rfl rfl ?_)
      refine ro rfl (ok_bit rfl rfl rfl rfl rfl rfl ?_)
      refine ro rfl (ok_bit rfl rfl rfl rfl rfl rfl ?_)
      refine ro rfl (ok_move rfl rfl rfl rfl ?_)
      refine ro rfl (ok_convW rfl rfl rfl rfl rfl rfl rfl rfl ?_)
      refine ro rfl (ok_bit rfl rfl rfl rfl rfl rfl ?_)
      refine ro rfl (ok_bit rfl rfl rfl rfl rfl rfl ?_)
      obtain ⟨h25, h0⟩ := ck_cut h0
      obtain ⟨h24, h0⟩ := ck_cut h0
      obtain ⟨h23, h0⟩ := ck_cut h0
      obtain ⟨h22, h0⟩ := ck_cut h0
      refine ro rfl (op_bslice eU [u8 (iOr .u8 240 (IntKind.wrap .u8 (iShr .i32 r_1 18))), u8 (iOr .u8 128 (iAnd .u8 (IntKind.wrap .u8 (iShr .i32 r_1 12)) 63)), u8 (iOr .u8 128 (iAnd .u8 (IntKind.wrap .u8 (iShr .i32 r_1 6)) 63)), u8 (iOr .u8 128 (iAnd .u8 (IntKind.wrap .u8 (r_1)) 63))] rfl rfl rfl rfl rfl rfl rfl rfl rfl rfl rfl rfl rfl (congr (congrArg List.cons (u8_of h25)) (congr (congrArg List.cons (u8_of h24)) (congr (congrArg List.cons (u8_of h23)) (congr (congrArg List.cons (u8_of h22)) rfl)))) ?_)
      obtain ⟨h26, h0⟩ := ck_cut h0
      refine ro rfl (op_appV eU p_0 [u8 (iOr .u8 240 (IntKind.wrap .u8 (iShr .i32 r_1 18))), u8 (iOr .u8 128 (iAnd .u8 (IntKind.wrap .u8 (iShr .i32 r_1 12)) 63)), u8 (iOr .u8 128 (iAnd .u8 (IntKind.wrap .u8 (iShr .i32 r_1 6)) 63)), u8 (iOr .u8 128 (iAnd .u8 (IntKind.wrap .u8 (r_1)) 63))] rfl rfl rfl rfl rfl rfl rfl rfl rfl rfl rfl rfl rfl (fun _ => rfl) rfl rfl rfl rfl h26 ?_)
      refine ro rfl (ok_assign rfl rfl rfl rfl ?_)
      refine rn ?_
      refine awp_ret ?_
      (repeat (first | refine uw ?_ | refine uo rfl ?_))
      have e0 := oi h0
      subst e0
      exact retg_mk (ghost_trans (ghost_ren 77 800000 rfl rfl rfl rfl rfl) (ghost_refl _)) rfl rfl rfl rfl (sr) trivial
     ·replace h0 := if_bf c18 h0
      refine awp_seq (awp_reg ?_)
      refine ro rfl (ok_move rfl rfl rfl rfl ?_)
      refine ro rfl (op_bslice eU [(239 : UInt8), (191 : UInt8), (189 : UInt8)] rfl rfl rfl rfl rfl rfl rfl rfl rfl rfl rfl rfl rfl rfl ?_)
      obtain ⟨h27, h0⟩ := ck_cut h0
      refine ro rfl (op_appV eU p_0 [(239 : UInt8), (191 : UInt8), (189 : UInt8)] rfl rfl rfl rfl rfl rfl rfl rfl rfl rfl rfl rfl rfl (fun _ => rfl) rfl rfl rfl rfl h27 ?_)
      refine ro rfl (ok_assign rfl rfl rfl rfl ?_)
      refine rn ?_
      refine awp_ret ?_
      (repeat (first | refine uw ?_ | refine uo rfl ?_))
      have e0 := oi h0
      subst e0
      exact retg_mk (ghost_trans (ghost_ren 10 800000 rfl rfl rfl rfl rfl) (ghost_refl _)) rfl rfl rfl rfl (sr) trivial
    ·skip
     refine awp_reg ?_
     refine ro rfl (ok_move rfl rfl rfl rfl ?_)
     refine ro rfl (ok_cmp rfl rfl rfl rfl rfl rfl ?_)
     refine ro rfl (ok_move rfl rfl rfl rfl ?_)
     refine gd_D rfl rfl rfl (fun c16 => ?_) (fun c16 => ?_)
     ·replace h1 := if_t c16 h1
      refine gd_tt rfl rfl rfl (dt c16) (ok_move rfl rfl rfl rfl ?_)
      refine gd_tt rfl rfl rfl (dt c16) (ok_cmp rfl rfl rfl rfl rfl rfl ?_)
      refine ro rfl (ok_pick_true rfl rfl rfl rfl (dt c16) rfl ?_)
      refine ro rfl (ok_assign rfl rfl rfl rfl ?_)
      refine rn ?_
      (repeat (first | refine uw ?_ | refine uo rfl ?_))
      have e1 := oi h1
      subst e1
      exact ghost_le (le_mk ⟨er rfl, er rfl, er rfl, trivial⟩ trivial)
     ·replace h1 := if_f c16 h1
      refine gd_tf rfl rfl rfl (df c16) rfl rfl ?_
      refine gd_tf rfl rfl rfl (df c16) rfl rfl ?_
      refine ro rfl (ok_pick_false rfl rfl rfl rfl (df c16) rfl ?_)
      refine ro rfl (ok_assign rfl rfl rfl rfl ?_)
      refine rn ?_
      (repeat (first | refine uw ?_ | refine uo rfl ?_))
      have e1 := oi h1
      subst e1
      exact ghost_le (le_mk ⟨er rfl, er rfl, er rfl, trivial⟩ trivial)
  ·skip
   refine awp_seq (awp_reg ?_)
   refine ro rfl (ok_move rfl rfl rfl rfl ?_)
   refine ro rfl (ok_cmp rfl rfl rfl rfl rfl rfl ?_)
   refine ro rfl (ok_assign rfl rfl rfl rfl ?_)
   refine rn ?_
   refine wp_ifD rfl (fun c6 => ?_) (fun c6 => ?_)
   ·replace h1 := if_t c6 h1
    refine awp_skip ?_
    (repeat (first | refine uw ?_ | refine uo rfl ?_))
    have e1 := oi h1
    subst e1
    exact ghost_le (le_mk ⟨er rfl, er rfl, er rfl, er rfl, trivial⟩ trivial)
   ·replace h1 := if_f c6 h1
    refine awp_reg ?_
    refine ro rfl (ok_move rfl rfl rfl rfl ?_)
    refine ro rfl (ok_cmp rfl rfl rfl rfl rfl rfl ?_)
    refine ro rfl (ok_move rfl rfl rfl rfl ?_)
    refine gd_D rfl rfl rfl (fun c7 => ?_) (fun c7 => ?_)
    ·replace h1 := if_t c7 h1
     refine gd_tt rfl rfl rfl (dt c7) (ok_move rfl rfl rfl rfl ?_)
     refine gd_tt rfl rfl rfl (dt c7) (ok_cmp rfl rfl rfl rfl rfl rfl ?_)
     refine ro rfl (ok_pick_true rfl rfl rfl rfl (dt c7) rfl ?_)
     refine ro rfl (ok_assign rfl rfl rfl rfl ?_)
     refine rn ?_
     (repeat (first | refine uw ?_ | refine uo rfl ?_))
     have e1 := oi h1
     subst e1
     exact ghost_le (le_mk ⟨er rfl, er rfl, er rfl, er rfl, trivial⟩ trivial)
    ·replace h1 := if_f c7 h1
     refine gd_tf rfl rfl rfl (df c7) rfl rfl ?_
     refine gd_tf rfl rfl rfl (df c7) rfl rfl ?_
     refine ro rfl (ok_pick_false rfl rfl rfl rfl (df c7) rfl ?_)
     refine ro rfl (ok_assign rfl rfl rfl rfl ?_)
     refine rn ?_
     (repeat (first | refine uw ?_ | refine uo rfl ?_))
     have e1 := oi h1
     subst e1
     exact ghost_le (le_mk ⟨er rfl, er rfl, er rfl, er rfl, trivial⟩ trivial)

def unicode_utf8_AppendRune (p_0 : List UInt8) (r_1 : Int) : Option (List UInt8) :=
 if IntKind.wrap .u32 (r_1) ≤ 127 then
  ck ((0 : Int) ≤ IntKind.wrap .u8 (r_1) ∧ IntKind.wrap .u8 (r_1) < 256) <|
  ck ((p_0.length + [u8 (IntKind.wrap .u8 (r_1))].length) * 1 ≤ 140737488355328) <|
  some (p_0 ++ [u8 (IntKind.wrap .u8 (r_1))])
 else
  (unicode_utf8_appendRuneNonASCII p_0 r_1).bind fun r4 =>
  some r4

set_option maxHeartbeats 4000000 in
theorem unicode_utf8_AppendRune_ok (p_0 : List UInt8) (r_1 : Int) (r : (List UInt8)) (h0 : unicode_utf8_AppendRune p_0 r_1 = some r) : OCalls Tryz.prog 118 [.vec 900000 1 (5 + 1) (p_0.map eU), .p (eK .i32 r_1)] [] (fun x y => x = .vec 2000000 1 (5 + 1) (r.map eU) ∧ y = []) := by
 unfold unicode_utf8_AppendRune at h0
 refine obodyG good [800000] [] Tryz.func118 rfl rfl rfl rfl rfl fun w0 F => ?_
 refine awp_seq (awp_reg ?_)
 refine ro rfl (ok_assign rfl rfl rfl rfl ?_)
 refine rn ?_
 refine awp_seq (awp_seq (awp_reg ?_))
 refine ro rfl (ok_move rfl rfl rfl rfl ?_)
 refine ro rfl (ok_convW rfl rfl rfl rfl rfl rfl rfl rfl ?_)
 refine ro rfl (ok_cmp rfl rfl rfl rfl rfl rfl ?_)
 refine rn ?_
 refine wp_ifD rfl (fun c1 => ?_) (fun c1 => ?_)
 ·replace h0 := if_t c1 h0
  refine awp_seq (awp_reg ?_)
  refine ro rfl (ok_move rfl rfl rfl rfl ?_)
  refine ro rfl (ok_move rfl rfl rfl rfl ?_)
  refine ro rfl (ok_convW rfl rfl rfl rfl rfl rfl rfl rfl ?_)
  obtain ⟨h2, h0⟩ := ck_cut h0
  refine ro rfl (op_bslice eU [u8 (IntKind.wrap .u8 (r_1))] rfl rfl rfl rfl rfl rfl rfl rfl rfl rfl rfl rfl rfl (congr (congrArg List.cons (u8_of h2)) rfl) ?_)
  obtain ⟨h3, h0⟩ := ck_cut h0
  refine ro rfl (op_appV eU p_0 [u8 (IntKind.wrap .u8 (r_1))] rfl rfl rfl rfl rfl rfl rfl rfl rfl rfl rfl rfl rfl (fun _ => rfl) rfl rfl rfl rfl h3 ?_)
  refine ro rfl (ok_assign rfl rfl rfl rfl ?_)
  refine rn ?_
  refine awp_ret ?_
  (repeat (first | refine uw ?_ | refine uo rfl ?_))
  have e0 := oi h0
  subst e0
  exact retg_mk (ghost_trans (ghost_ren 12 800000 rfl rfl rfl rfl rfl) (ghost_refl _)) rfl rfl rfl rfl (sr) trivial
 ·replace h0 := if_f c1 h0
  refine awp_skip (awp_seq (awp_reg ?_))
  refine ro rfl (ok_move rfl rfl rfl rfl ?_)
  refine ro rfl (ok_move rfl rfl rfl rfl ?_)
  obtain ⟨r4, e5, h0⟩ := bd_cut h0
  refine ro rfl (op_callV [] [900000] 101000 101001 (unicode_utf8_appendRuneNonASCII_ok p_0 r_1 _ e5) rfl rfl rfl rfl rfl ⟨sr, sr, trivial⟩ rfl rfl trivial rfl rfl rfl rfl rfl rfl rfl rfl Tryz.call130 rfl rfl ?_)
  refine ro rfl (ok_assign rfl rfl rfl rfl ?_)
  refine rn ?_
  refine awp_ret ?_
  (repeat (first | refine uw ?_ | refine uo rfl ?_))
  have e0 := oi h0
  subst e0
  exact retg_mk (ghost_trans (ghost_ren 101000 800000 rfl rfl rfl rfl rfl) (ghost_refl _)) rfl rfl rfl rfl (sr) trivial

def strings_Builder_WriteString (b_0 : TBuilder) (s_1 : Bytes) : Option (Int × Bool × TBuilder) :=
 (strings_Builder_copyCheck (TBuilder.mk b_0.fbuf)).bind fun r1 =>
 ck ((r1.fbuf.length + s_1.length) * 1 ≤ 140737488355328) <|
 some ((s_1.length : Int), false, (TBuilder.mk (r1.fbuf ++ s_1)))

set_option maxHeartbeats 4000000 in
theorem strings_Builder_WriteString_ok (b_0 : TBuilder) (s_1 : Bytes) (r : Int × Bool × TBuilder) (h0 : strings_Builder_WriteString b_0 s_1 = some r) : OCalls Tryz.prog 31 [.ptr 1000000 0, .p (eS s_1)] [(1000000, [.bptr 50 2 1000000, .vec 900000 1 (5 + 1) (b_0.fbuf.map eU)])] (fun x y => x = .tuple [.p (eI r.1), .p (eE r.2.1)] ∧ y = [(1000000, [.bptr 50 2 1000000, .vec 2000000 1 (5 + 1) (r.2.2.fbuf.map eU)])]) := by
 unfold strings_Builder_WriteString at h0
 refine obodyG good [800000] [1000000] Tryz.func31 rfl rfl rfl rfl rfl fun w0 F => ?_
 refine awp_seq (awp_reg ?_)
 refine ro rfl (ok_assign rfl rfl rfl rfl ?_)
 refine ro rfl (ok_assign rfl rfl rfl rfl ?_)
 refine rn ?_
 refine awp_seq (awp_reg ?_)
 refine ro rfl (ok_move rfl rfl rfl rfl ?_)
 obtain ⟨r1, e2, h0⟩ := bd_cut h0
 refine ro rfl (op_callV [1000000] [900000] 101000 101001 (strings_Builder_copyCheck_ok (TBuilder.mk b_0.fbuf) _ e2) rfl rfl rfl rfl rfl ⟨sr, trivial⟩ rfl rfl ⟨⟨_, rfl, ⟨sr, sr, trivial⟩⟩, trivial⟩ rfl rfl rfl rfl rfl rfl rfl rfl Tryz.call64 rfl rfl ?_)
 refine rn ?_
 refine awp_seq (awp_reg ?_)
 refine ro rfl (ok_move rfl rfl rfl rfl ?_)
 refine ro rfl (ok_move rfl rfl rfl rfl ?_)
 refine ro rfl (ok_nilCheckP rfl rfl rfl rfl ?_)
 refine ro rfl (ok_fieldAddrP rfl rfl rfl rfl rfl rfl rfl rfl rfl ?_)
 refine ro rfl (ok_loadP1 rfl rfl rfl rfl rfl rfl rfl rfl ?_)
 refine ro rfl (ok_move rfl rfl rfl rfl ?_)
 obtain ⟨h3, h0⟩ := ck_cut h0
 refine ro rfl (op_appVT r1.fbuf s_1 rfl rfl rfl rfl rfl rfl rfl rfl rfl rfl rfl rfl rfl rfl rfl h3 ?_)
 refine ro rfl (ok_nilCheckP rfl rfl rfl rfl ?_)
 refine ro rfl (ok_fieldAddrP rfl rfl rfl rfl rfl rfl rfl rfl rfl ?_)
 refine ro rfl (ok_store rfl rfl rfl rfl rfl rfl rfl rfl (Nat.le_of_ble_eq_true rfl) ?_)
 refine rn ?_
 refine awp_seq (awp_reg ?_)
 refine ro rfl (ok_move rfl rfl rfl rfl ?_)
 refine ro rfl (ok_lenS rfl rfl rfl rfl rfl rfl ?_)
 refine ro rfl (ok_assign rfl rfl rfl rfl ?_)
 refine ro rfl (ok_assign rfl rfl rfl rfl ?_)
 refine rn ?_
 refine awp_ret ?_
 (repeat (first | refine uw ?_ | refine uo rfl ?_))
 have e0 := oi h0
 subst e0
 exact retg_mk (ghost_trans (ghost_ren 14 800000 rfl rfl rfl rfl rfl) (ghost_refl _)) rfl rfl rfl rfl (sub_tuple ⟨sr, sr, trivial⟩) ⟨⟨_, rfl, ⟨sr, sr, trivial⟩⟩, trivial⟩

def strings_Builder_WriteByte (b_0 : TBuilder) (c_1 : Int) : Option (Bool × TBuilder) :=
 (strings_Builder_copyCheck (TBuilder.mk b_0.fbuf)).bind fun r1 =>
 ck ((0 : Int) ≤ c_1 ∧ c_1 < 256) <|
 ck ((r1.fbuf.length + [u8 c_1].length) * 1 ≤ 140737488355328) <|
 some (false, (TBuilder.mk (r1.fbuf ++ [u8 c_1])))

set_option maxHeartbeats 4000000 in
theorem strings_Builder_WriteByte_ok (b_0 : TBuilder) (c_1 : Int) (r : Bool × TBuilder) (h0 : strings_Builder_WriteByte b_0 c_1 = some r) : OCalls Tryz.prog 66 [.ptr 1000000 0, .p (eK .u8 c_1)] [(1000000, [.bptr 50 2 1000000, .vec 900000 1 (5 + 1) (b_0.fbuf.map eU)])] (fun x y => x = .p (eE r.1) ∧ y = [(1000000, [.bptr 50 2 1000000, .vec 2000000 1 (5 + 1) (r.2.fbuf.map eU)])]) := by
 unfold strings_Builder_WriteByte at h0
 refine obodyG good [800000] [1000000] Tryz.func66 rfl rfl rfl rfl rfl fun w0 F => ?_
 refine awp_seq (awp_reg ?_)
 refine ro rfl (ok_assign rfl rfl rfl rfl ?_)
 refine rn ?_
 refine awp_seq (awp_reg ?_)
 refine ro rfl (ok_move rfl rfl rfl rfl ?_)
 obtain ⟨r1, e2, h0⟩ := bd_cut h0
 refine ro rfl (op_callV [1000000] [900000] 101000 101001 (strings_Builder_copyCheck_ok (TBuilder.mk b_0.fbuf) _ e2) rfl rfl rfl rfl rfl ⟨sr, trivial⟩ rfl rfl ⟨⟨_, rfl, ⟨sr, sr, trivial⟩⟩, trivial⟩ rfl rfl rfl rfl rfl rfl rfl rfl Tryz.call64 rfl rfl ?_)
 refine rn ?_
 refine awp_seq (awp_reg ?_)
 refine ro rfl (ok_move rfl rfl rfl rfl ?_)
 refine ro rfl (ok_move rfl rfl rfl rfl ?_)
 refine ro rfl (ok_nilCheckP rfl rfl rfl rfl ?_)
 refine ro rfl (ok_fieldAddrP rfl rfl rfl rfl rfl rfl rfl rfl rfl ?_)
 refine ro rfl (ok_loadP1 rfl rfl rfl rfl rfl rfl rfl rfl ?_)
 refine ro rfl (ok_move rfl rfl rfl rfl ?_)
 obtain ⟨h3, h0⟩ := ck_cut h0
 refine ro rfl (op_bslice eU [u8 c_1] rfl rfl rfl rfl rfl rfl rfl rfl rfl rfl rfl rfl rfl (congr (congrArg List.cons (u8_of h3)) rfl) ?_)
 obtain ⟨h4, h0⟩ := ck_cut h0
 refine ro rfl (op_appV eU r1.fbuf [u8 c_1] rfl rfl rfl rfl rfl rfl rfl rfl rfl rfl rfl rfl rfl (fun _ => rfl) rfl rfl rfl rfl h4 ?_)
 refine ro rfl (ok_nilCheckP rfl rfl rfl rfl ?_)
 refine ro rfl (ok_fieldAddrP rfl rfl rfl rfl rfl rfl rfl rfl rfl ?_)
 refine ro rfl (ok_store rfl rfl rfl rfl rfl rfl rfl rfl (Nat.le_of_ble_eq_true rfl) ?_)
 refine rn ?_
 refine awp_seq (awp_reg ?_)
 refine ro rfl (ok_assign rfl rfl rfl rfl ?_)
 refine rn ?_
 refine awp_ret ?_
 (repeat (first | refine uw ?_ | refine uo rfl ?_))
 have e0 := oi h0
 subst e0
 exact retg_mk (ghost_trans (ghost_ren 14 800000 rfl rfl rfl rfl rfl) (ghost_refl _)) rfl rfl rfl rfl (sr) ⟨⟨_, rfl, ⟨sr, sr, trivial⟩⟩, trivial⟩

def strings_Builder_WriteRune (b_0 : TBuilder) (r_1 : Int) : Option (Int × Bool × TBuilder) :=
 (strings_Builder_copyCheck (TBuilder.mk b_0.fbuf)).bind fun r1 =>
 (unicode_utf8_AppendRune r1.fbuf r_1).bind fun r3 =>
 ck (inR ((r3.length : Int) - (r1.fbuf.length : Int))) <|
 some ((r3.length : Int) - (r1.fbuf.length : Int), false, (TBuilder.mk r3))

set_option maxHeartbeats 4000000 in
theorem strings_Builder_WriteRune_ok (b_0 : TBuilder) (r_1 : Int) (r : Int × Bool × TBuilder) (h0 : strings_Builder_WriteRune b_0 r_1 = some r) : OCalls Tryz.prog 97 [.ptr 1000000 0, .p (eK .i32 r_1)] [(1000000, [.bptr 50 2 1000000, .vec 900000 1 (5 + 1) (b_0.fbuf.map eU)])] (fun x y => x = .tuple [.p (eI r.1), .p (eE r.2.1)] ∧ y = [(1000000, [.bptr 50 2 1000000, .vec 2000000 1 (5 + 1) (r.2.2.fbuf.map eU)])]) := by
 unfold strings_Builder_WriteRune at h0
 refine obodyG good [800000] [1000000] Tryz.func97 rfl rfl rfl rfl rfl fun w0 F => ?_
 refine awp_seq (awp_reg ?_)
 refine ro rfl (ok_assign rfl rfl rfl rfl ?_)
 refine ro rfl (ok_assign rfl rfl rfl rfl ?_)
 refine rn ?_
 refine awp_seq (awp_reg ?_)
 refine ro rfl (ok_move rfl rfl rfl rfl ?_)
 obtain ⟨r1, e2, h0⟩ := bd_cut h0
 refine ro rfl (op_callV [1000000] [900000] 101000 101001 (strings_Builder_copyCheck_ok (TBuilder.mk b_0.fbuf) _ e2) rfl rfl rfl rfl rfl ⟨sr, trivial⟩ rfl rfl ⟨⟨_, rfl, ⟨sr, sr, trivial⟩⟩, trivial⟩ rfl rfl rfl rfl rfl rfl rfl rfl Tryz.call64 rfl rfl ?_)
 refine rn ?_
 refine awp_seq (awp_reg ?_)
 refine ro rfl (ok_move rfl rfl rfl rfl ?_)
 refine ro rfl (ok_nilCheckP rfl rfl rfl rfl ?_)
 refine ro rfl (ok_fieldAddrP rfl rfl rfl rfl rfl rfl rfl rfl rfl ?_)
 refine ro rfl (ok_loadP1 rfl rfl rfl rfl rfl rfl rfl rfl ?_)
 refine ro rfl (op_lenL (f := eU) (l := r1.fbuf) rfl rfl rfl rfl rfl rfl rfl ?_)
 refine ro rfl (ok_assign rfl rfl rfl rfl ?_)
 refine rn ?_
 refine awp_seq (awp_reg ?_)
 refine ro rfl (ok_move rfl rfl rfl rfl ?_)
 refine ro rfl (ok_move rfl rfl rfl rfl ?_)
 refine ro rfl (ok_nilCheckP rfl rfl rfl rfl ?_)
 refine ro rfl (ok_fieldAddrP rfl rfl rfl rfl rfl rfl rfl rfl rfl ?_)
 refine ro rfl (ok_loadP1 rfl rfl rfl rfl rfl rfl rfl rfl ?_)
 refine ro rfl (ok_move rfl rfl rfl rfl ?_)
 obtain ⟨r3, e4, h0⟩ := bd_cut h0
 refine ro rfl (op_callV [] [101000] 102000 102001 (unicode_utf8_AppendRune_ok r1.fbuf r_1 _ e4) rfl rfl rfl rfl rfl ⟨sr, sr, trivial⟩ rfl rfl trivial rfl rfl rfl rfl rfl rfl rfl rfl Tryz.call118 rfl rfl ?_)
 refine ro rfl (ok_nilCheckP rfl rfl rfl rfl ?_)
 refine ro rfl (ok_fieldAddrP rfl rfl rfl rfl rfl rfl rfl rfl rfl ?_)
 refine ro rfl (ok_store rfl rfl rfl rfl rfl rfl rfl rfl (Nat.le_of_ble_eq_true rfl) ?_)
 refine rn ?_
 refine awp_seq (awp_reg ?_)
 refine ro rfl (ok_move rfl rfl rfl rfl ?_)
 refine ro rfl (ok_nilCheckP rfl rfl rfl rfl ?_)
 refine ro rfl (ok_fieldAddrP rfl rfl rfl rfl rfl rfl rfl rfl rfl ?_)
 refine ro rfl (ok_loadP1 rfl rfl rfl rfl rfl rfl rfl rfl ?_)
 refine ro rfl (op_lenL (f := eU) (l := r3) rfl rfl rfl rfl rfl rfl rfl ?_)
 refine ro rfl (ok_move rfl rfl rfl rfl ?_)
 obtain ⟨h5, h0⟩ := ck_cut h0
 refine ro rfl (ok_ar rfl rfl rfl rfl rfl rfl h5 ?_)
 refine ro rfl (ok_assign rfl rfl rfl rfl ?_)
 refine ro rfl (ok_assign rfl rfl rfl rfl ?_)
 refine rn ?_
 refine awp_ghost (ghost_le (t := ⟨[(4, .p (eI ((r3.length : Int) - (r1.fbuf.length : Int)))), (5, .p (eE false))], [(1000000, [.bptr 50 2 1000000, .vec 102000 1 (5 + 1) (r3.map eU)])]⟩) (le_mk ⟨er rfl, er rfl, trivial⟩ ⟨⟨_, rfl, ⟨sr, sr, trivial⟩⟩, trivial⟩)) ?_
 refine awp_ret ?_
 (repeat (first | refine uw ?_ | refine uo rfl ?_))
 have e0 := oi h0
 subst e0
 exact retg_mk (ghost_trans (ghost_ren 102000 800000 rfl rfl rfl rfl rfl) (ghost_refl _)) rfl rfl rfl rfl (sub_tuple ⟨sr, sr, trivial⟩) ⟨⟨_, rfl, ⟨sr, sr, trivial⟩⟩, trivial⟩

def strings_Builder_Len (b_0 : TBuilder) : Option (Int × TBuilder) :=
 some ((b_0.fbuf.length : Int), (TBuilder.mk b_0.fbuf))

set_option maxHeartbeats 4000000 in
theorem strings_Builder_Len_ok (b_0 : TBuilder) (r : Int × TBuilder) (h0 : strings_Builder_Len b_0 = some r) : OCalls Tryz.prog 98 [.ptr 1000000 0] [(1000000, [.bptr 50 2 1000000, .vec 900000 1 (5 + 1) (b_0.fbuf.map eU)])] (fun x y => x = .p (eI r.1) ∧ y = [(1000000, [.bptr 50 2 1000000, .vec 2000000 1 (5 + 1) (r.2.fbuf.map eU)])]) := by
 unfold strings_Builder_Len at h0
 refine obodyG good [800000] [1000000] Tryz.func98 rfl rfl rfl rfl rfl fun w0 F => ?_
 refine awp_seq (awp_reg ?_)
 refine ro rfl (ok_assign rfl rfl rfl rfl ?_)
 refine rn ?_
 refine awp_seq (awp_reg ?_)
 refine ro rfl (ok_move rfl rfl rfl rfl ?_)
 refine ro rfl (ok_nilCheckP rfl rfl rfl rfl ?_)
 refine ro rfl (ok_fieldAddrP rfl rfl rfl rfl rfl rfl rfl rfl rfl ?_)
 refine ro rfl (ok_loadP1 rfl rfl rfl rfl rfl rfl rfl rfl ?_)
 refine ro rfl (op_lenL (f := eU) (l := b_0.fbuf) rfl rfl rfl rfl rfl rfl rfl ?_)
 refine ro rfl (ok_assign rfl rfl rfl rfl ?_)
 refine rn ?_
 refine awp_ret ?_
 (repeat (first | refine uw ?_ | refine uo rfl ?_))
 have e0 := oi h0
 subst e0
 exact retg_mk (ghost_trans (ghost_ren 900000 800000 rfl rfl rfl rfl rfl) (ghost_refl _)) rfl rfl rfl rfl (sr) ⟨⟨_, rfl, ⟨sr, sr, trivial⟩⟩, trivial⟩

end Go.Ab.RB
