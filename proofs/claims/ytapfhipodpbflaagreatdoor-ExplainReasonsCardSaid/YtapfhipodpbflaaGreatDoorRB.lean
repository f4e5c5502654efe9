/- strings.Builder: what writes; utf8.AppendRune. -/
import Derived.Test.YtapfhipodpbflaaGreatDoorBld
import Derived.Test.YtapfhipodpbflaaGreatDoorAbMc
set_option linter.unusedVariables false
set_option linter.unusedSimpArgs false
set_option linter.unnecessarySimpa false
namespace Go.Ab.RB
open Go.Proofs Go.Ab
attribute [local irreducible] awp rwpL OpOk PCalls OCalls AV.sub M Ghost

def unicode_utf8_appendRuneNonASCII (p_0 : List UInt8) (r_1 : Int) : Option (List UInt8) :=
 if IntKind.wrap .u32 (r_1) ≤ 2047 then
  ck ((0 : Int) ≤ 6) <|
  ck ((0 : Int) ≤ iOr .u8 192 (IntKind.wrap .u8 (iShr .i32 r_1 6)) ∧ iOr .u8 192 (IntKind.wrap .u8 (iShr .i32 r_1 6)) < 256) <|
  ck ((0 : Int) ≤ iOr .u8 128 (iAnd .u8 (IntKind.wrap .u8 (r_1)) 63) ∧ iOr .u8 128 (iAnd .u8 (IntKind.wrap .u8 (r_1)) 63) < 256) <|
  ck ((p_0.length + [u8 (iOr .u8 192 (IntKind.wrap .u8 (iShr .i32 r_1 6))), u8 (iOr .u8 128 (iAnd .u8 (IntKind.wrap .u8 (r_1)) 63))].length) * 1 ≤ 140737488355328) <|
  some (p_0 ++ [u8 (iOr .u8 192 (IntKind.wrap .u8 (iShr .i32 r_1 6))), u8 (iOr .u8 128 (iAnd .u8 (IntKind.wrap .u8 (r_1)) 63))])
 else
  (
    if IntKind.wrap .u32 (r_1) < 55296 then
     some true
    else
     if 57343 < IntKind.wrap .u32 (r_1) then
      some (decide (IntKind.wrap .u32 (r_1) ≤ 65535))
     else
      some false
   : Option Bool).bind fun t8 =>
  if t8 = true then
   ck ((0 : Int) ≤ 12) <|
   ck ((0 : Int) ≤ 6) <|
   ck ((0 : Int) ≤ iOr .u8 224 (IntKind.wrap .u8 (iShr .i32 r_1 12)) ∧ iOr .u8 224 (IntKind.wrap .u8 (iShr .i32 r_1 12)) < 256) <|
   ck ((0 : Int) ≤ iOr .u8 128 (iAnd .u8 (IntKind.wrap .u8 (iShr .i32 r_1 6)) 63) ∧ iOr .u8 128 (iAnd .u8 (IntKind.wrap .u8 (iShr .i32 r_1 6)) 63) < 256) <|
   ck ((0 : Int) ≤ iOr .u8 128 (iAnd .u8 (IntKind.wrap .u8 (r_1)) 63) ∧ iOr .u8 128 (iAnd .u8 (IntKind.wrap .u8 (r_1)) 63) < 256) <|
   ck ((p_0.length + [u8 (iOr .u8 224 (IntKind.wrap .u8 (iShr .i32 r_1 12))), u8 (iOr .u8 128 (iAnd .u8 (IntKind.wrap .u8 (iShr .i32 r_1 6)) 63)), u8 (iOr .u8 128 (iAnd .u8 (IntKind.wrap .u8 (r_1)) 63))].length) * 1 ≤ 140737488355328) <|
   some (p_0 ++ [u8 (iOr .u8 224 (IntKind.wrap .u8 (iShr .i32 r_1 12))), u8 (iOr .u8 128 (iAnd .u8 (IntKind.wrap .u8 (iShr .i32 r_1 6)) 63)), u8 (iOr .u8 128 (iAnd .u8 (IntKind.wrap .u8 (r_1)) 63))])
  else
   (
     if 65535 < IntKind.wrap .u32 (r_1) then
      some (decide (IntKind.wrap .u32 (r_1) ≤ 1114111))
     else
      some false
    : Option Bool).bind fun t17 =>
   if t17 = true then
    ck ((0 : Int) ≤ 18) <|
    ck ((0 : Int) ≤ 12) <|
    ck ((0 : Int) ≤ 6) <|
    ck ((0 : Int) ≤ iOr .u8 240 (IntKind.wrap .u8 (iShr .i32 r_1 18)) ∧ iOr .u8 240 (IntKind.wrap .u8 (iShr .i32 r_1 18)) < 256) <|
    ck ((0 : Int) ≤ iOr .u8 128 (iAnd .u8 (IntKind.wrap .u8 (iShr .i32 r_1 12)) 63) ∧ iOr .u8 128 (iAnd .u8 (IntKind.wrap .u8 (iShr .i32 r_1 12)) 63) < 256) <|
    ck ((0 : Int) ≤ iOr .u8 128 (iAnd .u8 (IntKind.wrap .u8 (iShr .i32 r_1 6)) 63) ∧ iOr .u8 128 (iAnd .u8 (IntKind.wrap .u8 (iShr .i32 r_1 6)) 63) < 256) <|
    ck ((0 : Int) ≤ iOr .u8 128 (iAnd .u8 (IntKind.wrap .u8 (r_1)) 63) ∧ iOr .u8 128 (iAnd .u8 (IntKind.wrap .u8 (r_1)) 63) < 256) <|
    ck ((p_0.length + [u8 (iOr .u8 240 (IntKind.wrap .u8 (iShr .i32 r_1 18))), u8 (iOr .u8 128 (iAnd .u8 (IntKind.wrap .u8 (iShr .i32 r_1 12)) 63)), u8 (iOr .u8 128 (iAnd .u8 (IntKind.wrap .u8 (iShr .i32 r_1 6)) 63)), u8 (iOr .u8 128 (iAnd .u8 (IntKind.wrap .u8 (r_1)) 63))].length) * 1 ≤ 140737488355328) <|
    some (p_0 ++ [u8 (iOr .u8 240 (IntKind.wrap .u8 (iShr .i32 r_1 18))), u8 (iOr .u8 128 (iAnd .u8 (IntKind.wrap .u8 (iShr .i32 r_1 12)) 63)), u8 (iOr .u8 128 (iAnd .u8 (IntKind.wrap .u8 (iShr .i32 r_1 6)) 63)), u8 (iOr .u8 128 (iAnd .u8 (IntKind.wrap .u8 (r_1)) 63))])
   else
    ck ((p_0.length + [(239 : UInt8), (191 : UInt8), (189 : UInt8)].length) * 1 ≤ 140737488355328) <|
    some (p_0 ++ [(239 : UInt8), (191 : UInt8), (189 : UInt8)])

set_option maxHeartbeats 4000000 in
theorem unicode_utf8_appendRuneNonASCII_ok (p_0 : List UInt8) (r_1 : Int) (r : (List UInt8)) (h0 : unicode_utf8_appendRuneNonASCII p_0 r_1 = some r) : OCalls Tryz.prog 199 [.vec 900000 1 (5 + 1) (p_0.map eU), .p (eK .i32 r_1)] [] (fun x y => x = .vec 2000000 1 (5 + 1) (r.map eU) ∧ y = []) := by
 unfold unicode_utf8_appendRuneNonASCII at h0
 refine obodyG good [800000] [] Tryz.func199 rfl rfl rfl rfl rfl fun w0 F => mPo (fun v : (List UInt8) => .vec 2000000 1 (5 + 1) (v.map eU)) (fun v => []) ?_
 refine nx 17 rfl (fD [11, 13] h0 rfl (fun c1 h0 => ?_) fun c1 h0 => ?_)
 ·refine nx 5 rfl (cc' h0 fun hk2 h0 => ?_)
  refine mO rfl (ok_sh rfl rfl rfl rfl rfl rfl hk2 ?_)
  refine nx 6 rfl (cc' h0 fun hk4 h0 => ?_)
  refine cc' h0 fun hk3 h0 => mO rfl (op_bslice eU [u8 (iOr .u8 192 (IntKind.wrap .u8 (iShr .i32 r_1 6))), u8 (iOr .u8 128 (iAnd .u8 (IntKind.wrap .u8 (r_1)) 63))] rfl rfl rfl rfl rfl rfl rfl rfl rfl rfl rfl rfl rfl (congr (congrArg List.cons (u8_of hk4)) (congr (congrArg List.cons (u8_of hk3)) rfl)) ?_)
  refine cc' h0 fun hk5 h0 => mO rfl (op_appV eU p_0 [u8 (iOr .u8 192 (IntKind.wrap .u8 (iShr .i32 r_1 6))), u8 (iOr .u8 128 (iAnd .u8 (IntKind.wrap .u8 (r_1)) 63))] rfl rfl rfl rfl rfl rfl rfl rfl rfl rfl rfl rfl rfl (fun _ => rfl) rfl rfl rfl rfl hk5 ?_)
  exact nx 3 rfl (mQo (oi h0) (ghost_trans (ghost_ren 24 800000 rfl rfl rfl rfl rfl) (ghost_refl _)) rfl rfl rfl rfl (sr) trivial)
 refine nx 2 rfl (bd h0 fun o30 h1 h0 => ?_)
 refine kN o30 (fun v31 => ⟨[(0, .vec 900000 1 (5 + 1) (p_0.map eU)), (1, .p (eK .i32 r_1)), (5, .p (eK .u32 (IntKind.wrap .u32 (r_1)))), (25, .p (eB v31))], []⟩) ?_ ?_
 ·refine nx 1 rfl (fB [25] h0 rfl (fun c9 h0 => ?_) fun c9 h0 => ?_)
  ·refine nx 5 rfl (cc' h0 fun hk10 h0 => ?_)
   refine mO rfl (ok_sh rfl rfl rfl rfl rfl rfl hk10 ?_)
   refine nx 3 rfl (cc' h0 fun hk11 h0 => ?_)
   refine mO rfl (ok_sh rfl rfl rfl rfl rfl rfl hk11 ?_)
   refine nx 7 rfl (cc' h0 fun hk14 h0 => ?_)
   refine cc' h0 fun hk13 h0 => cc' h0 fun hk12 h0 => mO rfl (op_bslice eU [u8 (iOr .u8 224 (IntKind.wrap .u8 (iShr .i32 r_1 12))), u8 (iOr .u8 128 (iAnd .u8 (IntKind.wrap .u8 (iShr .i32 r_1 6)) 63)), u8 (iOr .u8 128 (iAnd .u8 (IntKind.wrap .u8 (r_1)) 63))] rfl rfl rfl rfl rfl rfl rfl rfl rfl rfl rfl rfl rfl (congr (congrArg List.cons (u8_of hk14)) (congr (congrArg List.cons (u8_of hk13)) (congr (congrArg List.cons (u8_of hk12)) rfl))) ?_)
   refine cc' h0 fun hk15 h0 => mO rfl (op_appV eU p_0 [u8 (iOr .u8 224 (IntKind.wrap .u8 (iShr .i32 r_1 12))), u8 (iOr .u8 128 (iAnd .u8 (IntKind.wrap .u8 (iShr .i32 r_1 6)) 63)), u8 (iOr .u8 128 (iAnd .u8 (IntKind.wrap .u8 (r_1)) 63))] rfl rfl rfl rfl rfl rfl rfl rfl rfl rfl rfl rfl rfl (fun _ => rfl) rfl rfl rfl rfl hk15 ?_)
   exact nx 3 rfl (mQo (oi h0) (ghost_trans (ghost_ren 49 800000 rfl rfl rfl rfl rfl) (ghost_refl _)) rfl rfl rfl rfl (sr) trivial)
  refine nx 2 rfl (bd h0 fun o32 h1 h0 => ?_)
  refine kN o32 (fun v33 => ⟨[(0, .vec 900000 1 (5 + 1) (p_0.map eU)), (1, .p (eK .i32 r_1)), (50, .p (eB v33))], []⟩) ?_ ?_
  ·refine nx 1 rfl (fB [50] h0 rfl (fun c18 h0 => ?_) fun c18 h0 => ?_)
   ·refine nx 5 rfl (cc' h0 fun hk19 h0 => ?_)
    refine mO rfl (ok_sh rfl rfl rfl rfl rfl rfl hk19 ?_)
    refine nx 3 rfl (cc' h0 fun hk20 h0 => ?_)
    refine mO rfl (ok_sh rfl rfl rfl rfl rfl rfl hk20 ?_)
    refine nx 4 rfl (cc' h0 fun hk21 h0 => ?_)
    refine mO rfl (ok_sh rfl rfl rfl rfl rfl rfl hk21 ?_)
    refine nx 7 rfl (cc' h0 fun hk25 h0 => ?_)
    refine cc' h0 fun hk24 h0 => cc' h0 fun hk23 h0 => cc' h0 fun hk22 h0 => mO rfl (op_bslice eU [u8 (iOr .u8 240 (IntKind.wrap .u8 (iShr .i32 r_1 18))), u8 (iOr .u8 128 (iAnd .u8 (IntKind.wrap .u8 (iShr .i32 r_1 12)) 63)), u8 (iOr .u8 128 (iAnd .u8 (IntKind.wrap .u8 (iShr .i32 r_1 6)) 63)), u8 (iOr .u8 128 (iAnd .u8 (IntKind.wrap .u8 (r_1)) 63))] rfl rfl rfl rfl rfl rfl rfl rfl rfl rfl rfl rfl rfl (congr (congrArg List.cons (u8_of hk25)) (congr (congrArg List.cons (u8_of hk24)) (congr (congrArg List.cons (u8_of hk23)) (congr (congrArg List.cons (u8_of hk22)) rfl)))) ?_)
    refine cc' h0 fun hk26 h0 => mO rfl (op_appV eU p_0 [u8 (iOr .u8 240 (IntKind.wrap .u8 (iShr .i32 r_1 18))), u8 (iOr .u8 128 (iAnd .u8 (IntKind.wrap .u8 (iShr .i32 r_1 12)) 63)), u8 (iOr .u8 128 (iAnd .u8 (IntKind.wrap .u8 (iShr .i32 r_1 6)) 63)), u8 (iOr .u8 128 (iAnd .u8 (IntKind.wrap .u8 (r_1)) 63))] rfl rfl rfl rfl rfl rfl rfl rfl rfl rfl rfl rfl rfl (fun _ => rfl) rfl rfl rfl rfl hk26 ?_)
    exact nx 3 rfl (mQo (oi h0) (ghost_trans (ghost_ren 77 800000 rfl rfl rfl rfl rfl) (ghost_refl _)) rfl rfl rfl rfl (sr) trivial)
   refine nx 4 rfl (mO rfl (op_bslice eU [(239 : UInt8), (191 : UInt8), (189 : UInt8)] rfl rfl rfl rfl rfl rfl rfl rfl rfl rfl rfl rfl rfl rfl ?_))
   refine cc' h0 fun hk27 h0 => mO rfl (op_appV eU p_0 [(239 : UInt8), (191 : UInt8), (189 : UInt8)] rfl rfl rfl rfl rfl rfl rfl rfl rfl rfl rfl rfl rfl (fun _ => rfl) rfl rfl rfl rfl hk27 ?_)
   exact nx 3 rfl (mQo (oi h0) (ghost_trans (ghost_ren 10 800000 rfl rfl rfl rfl rfl) (ghost_refl _)) rfl rfl rfl rfl (sr) trivial)
  refine nx 4 rfl (fD [52, 53] h1 rfl (fun c16 h1 => ?_) fun c16 h1 => ?_)
  ·exact nx 5 rfl (eX _ (oi h1).symm (gE rfl rfl))
  exact nx 5 rfl (eX _ (oi h1).symm (gE rfl rfl))
 refine nx 6 rfl (fD [25, 27] h1 rfl (fun c6 h1 => ?_) fun c6 h1 => ?_)
 ·exact nx 2 rfl (eX _ (oi h1).symm (gE rfl rfl))
 refine nx 5 rfl (fD [29, 30] h1 rfl (fun c7 h1 => ?_) fun c7 h1 => ?_)
 ·exact nx 5 rfl (eX _ (oi h1).symm (gE rfl rfl))
 exact nx 5 rfl (eX _ (oi h1).symm (gE rfl rfl))

def unicode_utf8_AppendRune (p_0 : List UInt8) (r_1 : Int) : Option (List UInt8) :=
 if IntKind.wrap .u32 (r_1) ≤ 127 then
  ck ((0 : Int) ≤ IntKind.wrap .u8 (r_1) ∧ IntKind.wrap .u8 (r_1) < 256) <|
  ck ((p_0.length + [u8 (IntKind.wrap .u8 (r_1))].length) * 1 ≤ 140737488355328) <|
  some (p_0 ++ [u8 (IntKind.wrap .u8 (r_1))])
 else
  (unicode_utf8_appendRuneNonASCII p_0 r_1).bind fun r4 =>
  some r4

set_option maxHeartbeats 4000000 in
theorem unicode_utf8_AppendRune_ok (p_0 : List UInt8) (r_1 : Int) (r : (List UInt8)) (h0 : unicode_utf8_AppendRune p_0 r_1 = some r) : OCalls Tryz.prog 191 [.vec 900000 1 (5 + 1) (p_0.map eU), .p (eK .i32 r_1)] [] (fun x y => x = .vec 2000000 1 (5 + 1) (r.map eU) ∧ y = []) := by
 unfold unicode_utf8_AppendRune at h0
 refine obodyG good [800000] [] Tryz.func191 rfl rfl rfl rfl rfl fun w0 F => mPo (fun v : (List UInt8) => .vec 2000000 1 (5 + 1) (v.map eU)) (fun v => []) ?_
 refine nx 11 rfl (fD [7] h0 rfl (fun c1 h0 => ?_) fun c1 h0 => ?_)
 ·refine nx 6 rfl (cc' h0 fun hk2 h0 => ?_)
  refine mO rfl (op_bslice eU [u8 (IntKind.wrap .u8 (r_1))] rfl rfl rfl rfl rfl rfl rfl rfl rfl rfl rfl rfl rfl (congr (congrArg List.cons (u8_of hk2)) rfl) ?_)
  refine cc' h0 fun hk3 h0 => mO rfl (op_appV eU p_0 [u8 (IntKind.wrap .u8 (r_1))] rfl rfl rfl rfl rfl rfl rfl rfl rfl rfl rfl rfl rfl (fun _ => rfl) rfl rfl rfl rfl hk3 ?_)
  exact nx 3 rfl (mQo (oi h0) (ghost_trans (ghost_ren 12 800000 rfl rfl rfl rfl rfl) (ghost_refl _)) rfl rfl rfl rfl (sr) trivial)
 refine nx 6 rfl (bd h0 fun r4 e5 h0 => ?_)
 refine mO rfl (op_callV [] [900000] 101000 101001 (unicode_utf8_appendRuneNonASCII_ok p_0 r_1 _ e5) rfl rfl rfl rfl rfl ⟨sr, sr, trivial⟩ rfl rfl trivial rfl rfl rfl rfl rfl rfl rfl rfl Tryz.call199 rfl rfl ?_)
 exact nx 3 rfl (mQo (oi h0) (ghost_trans (ghost_ren 101000 800000 rfl rfl rfl rfl rfl) (ghost_refl _)) rfl rfl rfl rfl (sr) trivial)

def strings_Builder_WriteString (b_0 : TBuilder) (s_1 : Bytes) : Option (Int × Bool × TBuilder) :=
 (strings_Builder_copyCheck (TBuilder.mk b_0.fbuf)).bind fun r1 =>
 ck ((r1.fbuf.length + s_1.length) * 1 ≤ 140737488355328) <|
 some ((s_1.length : Int), false, (TBuilder.mk (r1.fbuf ++ s_1)))

set_option maxHeartbeats 4000000 in
theorem strings_Builder_WriteString_ok (b_0 : TBuilder) (s_1 : Bytes) (r : Int × Bool × TBuilder) (h0 : strings_Builder_WriteString b_0 s_1 = some r) : OCalls Tryz.prog 77 [.ptr 1000000 0, .p (eS s_1)] [(1000000, [.bptr 140 2 1000000, .vec 900000 1 (5 + 1) (b_0.fbuf.map eU)])] (fun x y => x = .tuple [.p (eI r.1), .p (eE r.2.1)] ∧ y = [(1000000, [.bptr 140 2 1000000, .vec 2000000 1 (5 + 1) (r.2.2.fbuf.map eU)])]) := by
 unfold strings_Builder_WriteString at h0
 refine obodyG good [800000] [1000000] Tryz.func77 rfl rfl rfl rfl rfl fun w0 F => mPo (fun v : Int × Bool × TBuilder => .tuple [.p (eI v.1), .p (eE v.2.1)]) (fun v => [(1000000, [.bptr 140 2 1000000, .vec 2000000 1 (5 + 1) (v.2.2.fbuf.map eU)])]) ?_
 refine nx 8 rfl (bd h0 fun r1 e2 h0 => ?_)
 refine mO rfl (op_callV [1000000] [900000] 101000 101001 (strings_Builder_copyCheck_ok (TBuilder.mk b_0.fbuf) _ e2) rfl rfl rfl rfl rfl ⟨sr, trivial⟩ rfl rfl ⟨⟨_, rfl, ⟨sr, sr, trivial⟩⟩, trivial⟩ rfl rfl rfl rfl rfl rfl rfl rfl Tryz.call111 rfl rfl ?_)
 refine nx 9 rfl (cc' h0 fun hk3 h0 => ?_)
 refine mO rfl (op_appVT r1.fbuf s_1 rfl rfl rfl rfl rfl rfl rfl rfl rfl rfl rfl rfl rfl rfl rfl hk3 ?_)
 refine nx 7 rfl (oLs rfl ?_)
 exact nx 4 rfl (mQo (oi h0) (ghost_trans (ghost_ren 14 800000 rfl rfl rfl rfl rfl) (ghost_refl _)) rfl rfl rfl rfl (sub_tuple ⟨sr, sr, trivial⟩) ⟨⟨_, rfl, ⟨sr, sr, trivial⟩⟩, trivial⟩)

def strings_Builder_WriteByte (b_0 : TBuilder) (c_1 : Int) : Option (Bool × TBuilder) :=
 (strings_Builder_copyCheck (TBuilder.mk b_0.fbuf)).bind fun r1 =>
 ck ((0 : Int) ≤ c_1 ∧ c_1 < 256) <|
 ck ((r1.fbuf.length + [u8 c_1].length) * 1 ≤ 140737488355328) <|
 some (false, (TBuilder.mk (r1.fbuf ++ [u8 c_1])))

set_option maxHeartbeats 4000000 in
theorem strings_Builder_WriteByte_ok (b_0 : TBuilder) (c_1 : Int) (r : Bool × TBuilder) (h0 : strings_Builder_WriteByte b_0 c_1 = some r) : OCalls Tryz.prog 170 [.ptr 1000000 0, .p (eK .u8 c_1)] [(1000000, [.bptr 140 2 1000000, .vec 900000 1 (5 + 1) (b_0.fbuf.map eU)])] (fun x y => x = .p (eE r.1) ∧ y = [(1000000, [.bptr 140 2 1000000, .vec 2000000 1 (5 + 1) (r.2.fbuf.map eU)])]) := by
 unfold strings_Builder_WriteByte at h0
 refine obodyG good [800000] [1000000] Tryz.func170 rfl rfl rfl rfl rfl fun w0 F => mPo (fun v : Bool × TBuilder => .p (eE v.1)) (fun v => [(1000000, [.bptr 140 2 1000000, .vec 2000000 1 (5 + 1) (v.2.fbuf.map eU)])]) ?_
 refine nx 7 rfl (bd h0 fun r1 e2 h0 => ?_)
 refine mO rfl (op_callV [1000000] [900000] 101000 101001 (strings_Builder_copyCheck_ok (TBuilder.mk b_0.fbuf) _ e2) rfl rfl rfl rfl rfl ⟨sr, trivial⟩ rfl rfl ⟨⟨_, rfl, ⟨sr, sr, trivial⟩⟩, trivial⟩ rfl rfl rfl rfl rfl rfl rfl rfl Tryz.call111 rfl rfl ?_)
 refine nx 9 rfl (cc' h0 fun hk3 h0 => ?_)
 refine mO rfl (op_bslice eU [u8 c_1] rfl rfl rfl rfl rfl rfl rfl rfl rfl rfl rfl rfl rfl (congr (congrArg List.cons (u8_of hk3)) rfl) ?_)
 refine cc' h0 fun hk4 h0 => mO rfl (op_appV eU r1.fbuf [u8 c_1] rfl rfl rfl rfl rfl rfl rfl rfl rfl rfl rfl rfl rfl (fun _ => rfl) rfl rfl rfl rfl hk4 ?_)
 exact nx 9 rfl (mQo (oi h0) (ghost_trans (ghost_ren 14 800000 rfl rfl rfl rfl rfl) (ghost_refl _)) rfl rfl rfl rfl (sr) ⟨⟨_, rfl, ⟨sr, sr, trivial⟩⟩, trivial⟩)

def strings_Builder_WriteRune (b_0 : TBuilder) (r_1 : Int) : Option (Int × Bool × TBuilder) :=
 (strings_Builder_copyCheck (TBuilder.mk b_0.fbuf)).bind fun r1 =>
 (unicode_utf8_AppendRune r1.fbuf r_1).bind fun r3 =>
 ck (inR ((r3.length : Int) - (r1.fbuf.length : Int))) <|
 some ((r3.length : Int) - (r1.fbuf.length : Int), false, (TBuilder.mk r3))

set_option maxHeartbeats 4000000 in
theorem strings_Builder_WriteRune_ok (b_0 : TBuilder) (r_1 : Int) (r : Int × Bool × TBuilder) (h0 : strings_Builder_WriteRune b_0 r_1 = some r) : OCalls Tryz.prog 168 [.ptr 1000000 0, .p (eK .i32 r_1)] [(1000000, [.bptr 140 2 1000000, .vec 900000 1 (5 + 1) (b_0.fbuf.map eU)])] (fun x y => x = .tuple [.p (eI r.1), .p (eE r.2.1)] ∧ y = [(1000000, [.bptr 140 2 1000000, .vec 2000000 1 (5 + 1) (r.2.2.fbuf.map eU)])]) := by
 unfold strings_Builder_WriteRune at h0
 refine obodyG good [800000] [1000000] Tryz.func168 rfl rfl rfl rfl rfl fun w0 F => mPo (fun v : Int × Bool × TBuilder => .tuple [.p (eI v.1), .p (eE v.2.1)]) (fun v => [(1000000, [.bptr 140 2 1000000, .vec 2000000 1 (5 + 1) (v.2.2.fbuf.map eU)])]) ?_
 refine nx 8 rfl (bd h0 fun r1 e2 h0 => ?_)
 refine mO rfl (op_callV [1000000] [900000] 101000 101001 (strings_Builder_copyCheck_ok (TBuilder.mk b_0.fbuf) _ e2) rfl rfl rfl rfl rfl ⟨sr, trivial⟩ rfl rfl ⟨⟨_, rfl, ⟨sr, sr, trivial⟩⟩, trivial⟩ rfl rfl rfl rfl rfl rfl rfl rfl Tryz.call111 rfl rfl ?_)
 refine nx 7 rfl (oLl (f := eU) rfl rfl ?_)
 refine nx 10 rfl (bd h0 fun r3 e4 h0 => ?_)
 refine mO rfl (op_callV [] [101000] 102000 102001 (unicode_utf8_AppendRune_ok r1.fbuf r_1 _ e4) rfl rfl rfl rfl rfl ⟨sr, sr, trivial⟩ rfl rfl trivial rfl rfl rfl rfl rfl rfl rfl rfl Tryz.call191 rfl rfl ?_)
 refine nx 10 rfl (oLl (f := eU) rfl rfl ?_)
 refine nx 1 rfl (oA h0 rfl rfl fun hk5 h0 => ?_)
 refine nx 3 rfl (mG (gE (t := ⟨[(4, .p (eI ((r3.length : Int) - (r1.fbuf.length : Int)))), (5, .p (eE false))], [(1000000, [.bptr 140 2 1000000, .vec 102000 1 (5 + 1) (r3.map eU)])]⟩) rfl rfl) ?_)
 exact nx 1 rfl (mQo (oi h0) (ghost_trans (ghost_ren 102000 800000 rfl rfl rfl rfl rfl) (ghost_refl _)) rfl rfl rfl rfl (sub_tuple ⟨sr, sr, trivial⟩) ⟨⟨_, rfl, ⟨sr, sr, trivial⟩⟩, trivial⟩)

def strings_Builder_Len (b_0 : TBuilder) : Option (Int × TBuilder) :=
 some ((b_0.fbuf.length : Int), (TBuilder.mk b_0.fbuf))

set_option maxHeartbeats 4000000 in
theorem strings_Builder_Len_ok (b_0 : TBuilder) (r : Int × TBuilder) (h0 : strings_Builder_Len b_0 = some r) : OCalls Tryz.prog 169 [.ptr 1000000 0] [(1000000, [.bptr 140 2 1000000, .vec 900000 1 (5 + 1) (b_0.fbuf.map eU)])] (fun x y => x = .p (eI r.1) ∧ y = [(1000000, [.bptr 140 2 1000000, .vec 2000000 1 (5 + 1) (r.2.fbuf.map eU)])]) := by
 unfold strings_Builder_Len at h0
 refine obodyG good [800000] [1000000] Tryz.func169 rfl rfl rfl rfl rfl fun w0 F => mPo (fun v : Int × TBuilder => .p (eI v.1)) (fun v => [(1000000, [.bptr 140 2 1000000, .vec 2000000 1 (5 + 1) (v.2.fbuf.map eU)])]) ?_
 refine nx 10 rfl (oLl (f := eU) rfl rfl ?_)
 exact nx 3 rfl (mQo (oi h0) (ghost_trans (ghost_ren 900000 800000 rfl rfl rfl rfl rfl) (ghost_refl _)) rfl rfl rfl rfl (sr) ⟨⟨_, rfl, ⟨sr, sr, trivial⟩⟩, trivial⟩)

end Go.Ab.RB
