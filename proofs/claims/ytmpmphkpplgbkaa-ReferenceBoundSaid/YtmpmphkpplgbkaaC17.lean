/- The chain of an expression (its row is reversed in place). -/
import Derived.Test.YtmpmphkpplgbkaaH17
set_option linter.unusedVariables false
set_option linter.unusedSimpArgs false
set_option linter.unnecessarySimpa false
namespace Go.Ab.R17
open Go.Proofs Go.Ab
attribute [local irreducible] awp rwpL OpOk PCalls OCalls QCalls AV.sub

/-! ### The chain -/
def chS : List TExpr → AV
  | [] => .p (.val (.slice none 0 0))
  | _ :: r => .arr 22 11 0 (r.length + 1)
def chO : List TExpr → List (Nat × List AV)
  | [] => []
  | x :: r => [(22, rowC eTExpr (x :: r))]
theorem reverse_nilE {n : Nat} {r : List TExpr} (h : reverse_E n [] = some r) : r = [] := by
  unfold reverse_E at h
  obtain ⟨_, h⟩ := ck_cut h
  cases n with
  | zero => cases h
  | succ n => rw [rev_l1, if_neg (by simp)] at h; cases h; rfl
theorem rev_len : ∀ {m : Nat} {i j : Int} {l r : List TExpr}, rev_l1 m i j l = some r → r.length = l.length
  | 0, _, _, _, _, h => by cases h
  | m + 1, i, j, l, r, h => by
    rw [rev_l1] at h
    split at h
    · obtain ⟨_, h⟩ := ck_cut h
      obtain ⟨_, h⟩ := ck_cut h
      obtain ⟨_, h⟩ := ck_cut h
      obtain ⟨_, h⟩ := ck_cut h
      rw [rev_len h]; simp
    · cases h; rfl
theorem reverse_lenE {n : Nat} {l r : List TExpr} (h : reverse_E n l = some r) : r.length = l.length := by
  unfold reverse_E at h
  obtain ⟨_, h⟩ := ck_cut h
  exact rev_len h

def reference_chain_l1 : Nat → (List TExpr) → Int → Int → Bytes → Bytes → Int → Int → Bytes → (List TValue) → (List Bytes) → (List TExpr) → Int → Option ((List TExpr) × Int × Int × Bytes × Bytes × Int × Int × Bytes × (List TValue) × (List Bytes) × (List TExpr) × Int)
  | 0, _, _, _, _, _, _, _, _, _, _, _, _ => none
  | m + 1, steps19, f20, f21, f22, f23, f24, f25, f26, f27, f28, f29, f30 =>
  (
      if f20 = 4 then
        some (decide (0 < (f29.length : Int)))
      else
        if f20 = 5 then
          some (decide (0 < (f29.length : Int)))
        else
          some false
    : Option Bool).bind fun t33 =>
  if t33 = true then
    ck ((steps19.length + [(TExpr.mk f20 f21 f22 f23 (TValue.mk f24 f25 f26 f27 f28) f29 f30)].length) * 160 ≤ 140737488355328) <|
    ck ((0 : Int) ≤ 0 ∧ 0 < (f29.length : Int)) <|
    reference_chain_l1 m (steps19 ++ [(TExpr.mk f20 f21 f22 f23 (TValue.mk f24 f25 f26 f27 f28) f29 f30)]) ((lat f29 0).fKind) ((lat f29 0).fOp) ((lat f29 0).fName) ((lat f29 0).fKey) (((lat f29 0).fValue).fKind) (((lat f29 0).fValue).fNum) (((lat f29 0).fValue).fStr) (((lat f29 0).fValue).fItems) (((lat f29 0).fValue).fKeys) ((lat f29 0).fKids) ((lat f29 0).fAt)
  else
    some (steps19, f20, f21, f22, f23, f24, f25, f26, f27, f28, f29, f30)

def reference_chain (n : Nat) (e_0 : TExpr) : Option (TExpr × (List TExpr)) :=
  (reference_chain_l1 n [] e_0.fKind e_0.fOp e_0.fName e_0.fKey e_0.fValue.fKind e_0.fValue.fNum e_0.fValue.fStr e_0.fValue.fItems e_0.fValue.fKeys e_0.fKids e_0.fAt).bind fun q63 =>
  (reverse_E n q63.1).bind fun r61 =>
  some ((TExpr.mk q63.2.1 q63.2.2.1 q63.2.2.2.1 q63.2.2.2.2.1 (TValue.mk q63.2.2.2.2.2.1 q63.2.2.2.2.2.2.1 q63.2.2.2.2.2.2.2.1 q63.2.2.2.2.2.2.2.2.1 q63.2.2.2.2.2.2.2.2.2.1) q63.2.2.2.2.2.2.2.2.2.2.1 q63.2.2.2.2.2.2.2.2.2.2.2), r61)

set_option maxHeartbeats 4000000 in
theorem reference_chain_ok (n : Nat) (e_0 : TExpr) (r : TExpr × (List TExpr)) (h0 : reference_chain n e_0 = some r) : PCalls Try.prog 31 [.agg (TExpr.cs e_0)] (· = .tuple [.p (.agg (TExpr.cs r.1)), .p (eL eTExpr r.2)]) := by
  unfold reference_chain at h0
  refine pbodyA good Try.func31 rfl rfl rfl fun w0 => ?_
  refine awp_seq ?_
  refine awp_reg ?_
  refine rwpL_op rfl ?_
  refine ok_box rfl rfl rfl rfl rfl ?_
  refine rwpL_op rfl ?_
  refine ok_alloc rfl rfl rfl rfl rfl ?_
  refine rwpL_op rfl ?_
  refine ok_assign rfl rfl rfl rfl ?_
  refine rwpL_nil ?_
  refine awp_seq ?_
  refine awp_reg ?_
  refine rwpL_op rfl ?_
  refine ok_assign rfl rfl rfl rfl ?_
  refine rwpL_nil ?_
  refine awp_seq ?_
  refine awp_block ?_
  obtain ⟨o65, h1, h0⟩ := bd_cut h0
  refine awp_joinE 0 ⟨[(1, .ptr 1 0), (2, .ptr 2 0), (4, chS o65.1)], (1, [.p (eI o65.2.1), .p (eI o65.2.2.1), .p (eS o65.2.2.2.1), .p (eS o65.2.2.2.2.1), .p (eI o65.2.2.2.2.2.1), .p (eI o65.2.2.2.2.2.2.1), .p (eS o65.2.2.2.2.2.2.2.1), .p (eL eTValue o65.2.2.2.2.2.2.2.2.1), .p (eL eS o65.2.2.2.2.2.2.2.2.2.1), .p (eL eTExpr o65.2.2.2.2.2.2.2.2.2.2.1), .p (eI o65.2.2.2.2.2.2.2.2.2.2.2)]) :: (2, [.p (eI 0), .p (eI 0), .p (eS ([] : Bytes)), .p (eS ([] : Bytes)), .p (eI 0), .p (eI 0), .p (eS ([] : Bytes)), .p (.val (.slice none 0 0)), .p (.val (.slice none 0 0)), .p (.val (.slice none 0 0)), .p (eI 0)]) :: chO o65.1⟩ ?_ ?_
  · intro s' hle
    (repeat (first | refine thenQ_exit ?_ | refine thenQ_ret ?_ | refine exQ_hit ?_ | refine exQ_other rfl ?_ | refine exQ_ret ?_ | refine exQ_normal ?_ | refine blockQ_ret ?_ | refine blockQ_normal ?_ | refine blockQ_exit ?_ | refine blockQ_other rfl ?_ | refine noGoto_ret ?_ | refine noGoto_exit ?_ | refine noGoto_normal ?_))
    refine awp_ghost hle ?_
    (repeat (first | refine thenQ_exit ?_ | refine thenQ_ret ?_ | refine exQ_hit ?_ | refine exQ_other rfl ?_ | refine exQ_ret ?_ | refine exQ_normal ?_ | refine blockQ_ret ?_ | refine blockQ_normal ?_ | refine blockQ_exit ?_ | refine blockQ_other rfl ?_ | refine noGoto_ret ?_ | refine noGoto_exit ?_ | refine noGoto_normal ?_))
    obtain ⟨l65, hl65⟩ : ∃ l, l = o65.1 := ⟨_, rfl⟩
    rw [← hl65]
    replace h0 := h0
    obtain ⟨r61, e62, h0⟩ := bd_cut h0
    rw [← hl65] at e62
    rcases l65 with _ | ⟨s65, ss65⟩
    · have hr := reverse_nilE e62
      subst hr
      refine awp_seq ?_
      refine awp_reg ?_
      refine rwpL_op rfl ?_
      refine ok_move rfl rfl rfl rfl ?_
      refine rwpL_op rfl ?_
      refine ok_callP reverse_nil rfl rfl rfl rfl ⟨sub_nilL _, trivial⟩ Try.call45 rfl ?_
      refine rwpL_nil ?_
      (repeat (first | refine thenQ_exit ?_ | refine thenQ_ret ?_ | refine exQ_hit ?_ | refine exQ_other rfl ?_ | refine exQ_ret ?_ | refine exQ_normal ?_ | refine blockQ_ret ?_ | refine blockQ_normal ?_ | refine blockQ_exit ?_ | refine blockQ_other rfl ?_ | refine noGoto_ret ?_ | refine noGoto_exit ?_ | refine noGoto_normal ?_))
      refine awp_seq ?_
      refine awp_reg ?_
      refine rwpL_op rfl ?_
      refine ok_loadPA rfl rfl rfl rfl rfl rfl rfl rfl rfl ?_
      refine rwpL_op rfl ?_
      refine ok_move rfl rfl rfl rfl ?_
      refine rwpL_op rfl ?_
      refine ok_store rfl rfl rfl rfl rfl rfl rfl rfl (Nat.le_of_ble_eq_true rfl) ?_
      refine rwpL_op rfl ?_
      refine ok_assign rfl rfl rfl rfl ?_
      refine rwpL_nil ?_
      (repeat (first | refine thenQ_exit ?_ | refine thenQ_ret ?_ | refine exQ_hit ?_ | refine exQ_other rfl ?_ | refine exQ_ret ?_ | refine exQ_normal ?_ | refine blockQ_ret ?_ | refine blockQ_normal ?_ | refine blockQ_exit ?_ | refine blockQ_other rfl ?_ | refine noGoto_ret ?_ | refine noGoto_exit ?_ | refine noGoto_normal ?_))
      refine awp_ret ?_
      (repeat (first | refine thenQ_exit ?_ | refine thenQ_ret ?_ | refine exQ_hit ?_ | refine exQ_other rfl ?_ | refine exQ_ret ?_ | refine exQ_normal ?_ | refine blockQ_ret ?_ | refine blockQ_normal ?_ | refine blockQ_exit ?_ | refine blockQ_other rfl ?_ | refine noGoto_ret ?_ | refine noGoto_exit ?_ | refine noGoto_normal ?_))
      have e0 := Option.some.inj h0
      subst e0
      refine reta_mk rfl ?_
      exact sub_tuple ⟨AV.sub_refl _, sub_nilL _, trivial⟩
    · have hr := reverse_lenE e62
      refine awp_seq ?_
      refine awp_reg ?_
      refine rwpL_op rfl ?_
      refine ok_move rfl rfl rfl rfl ?_
      refine rwpL_op rfl ?_
      refine op_callV [22] [] 700000 700000 (reverse_row _ _ _ e62) rfl rfl rfl rfl rfl ⟨AV.sub_refl _, trivial⟩ rfl (mapO_cons rfl (mapA_go_p _) rfl) ⟨⟨_, rfl, subL_refl _⟩, trivial⟩ rfl rfl rfl rfl rfl rfl rfl rfl Try.call45 rfl (mapO_cons rfl (mapA_go_p _) rfl) ?_
      refine rwpL_nil ?_
      (repeat (first | refine thenQ_exit ?_ | refine thenQ_ret ?_ | refine exQ_hit ?_ | refine exQ_other rfl ?_ | refine exQ_ret ?_ | refine exQ_normal ?_ | refine blockQ_ret ?_ | refine blockQ_normal ?_ | refine blockQ_exit ?_ | refine blockQ_other rfl ?_ | refine noGoto_ret ?_ | refine noGoto_exit ?_ | refine noGoto_normal ?_))
      refine awp_seq ?_
      refine awp_reg ?_
      refine rwpL_op rfl ?_
      refine ok_loadPA rfl rfl rfl rfl rfl rfl rfl rfl rfl ?_
      refine rwpL_op rfl ?_
      refine ok_move rfl rfl rfl rfl ?_
      refine rwpL_op rfl ?_
      refine ok_store rfl rfl rfl rfl rfl rfl rfl rfl (Nat.le_of_ble_eq_true rfl) ?_
      refine rwpL_op rfl ?_
      refine ok_assign rfl rfl rfl rfl ?_
      refine rwpL_nil ?_
      (repeat (first | refine thenQ_exit ?_ | refine thenQ_ret ?_ | refine exQ_hit ?_ | refine exQ_other rfl ?_ | refine exQ_ret ?_ | refine exQ_normal ?_ | refine blockQ_ret ?_ | refine blockQ_normal ?_ | refine blockQ_exit ?_ | refine blockQ_other rfl ?_ | refine noGoto_ret ?_ | refine noGoto_exit ?_ | refine noGoto_normal ?_))
      refine awp_ghost (ghost_freezeM 3 (f := eTExpr) (l := r61) rfl (by rw [hr]; rfl) rfl rfl rfl (fun x => ⟨congrArg List.length (TExpr.cells_eq x), by rw [TExpr.cells_eq]; rfl⟩)) ?_
      refine awp_ret ?_
      (repeat (first | refine thenQ_exit ?_ | refine thenQ_ret ?_ | refine exQ_hit ?_ | refine exQ_other rfl ?_ | refine exQ_ret ?_ | refine exQ_normal ?_ | refine blockQ_ret ?_ | refine blockQ_normal ?_ | refine blockQ_exit ?_ | refine blockQ_other rfl ?_ | refine noGoto_ret ?_ | refine noGoto_exit ?_ | refine noGoto_normal ?_))
      have e0 := Option.some.inj h0
      subst e0
      refine reta_mk rfl ?_
      exact sub_tuple ⟨AV.sub_refl _, AV.sub_refl _, trivial⟩
  · skip
    refine awp_loopG (fun (q67 : (List TExpr) × Int × Int × Bytes × Bytes × Int × Int × Bytes × (List TValue) × (List Bytes) × (List TExpr) × Int) => ⟨[(1, .ptr 1 0), (2, .ptr 2 0), (4, chS q67.1)], (1, [.p (eI q67.2.1), .p (eI q67.2.2.1), .p (eS q67.2.2.2.1), .p (eS q67.2.2.2.2.1), .p (eI q67.2.2.2.2.2.1), .p (eI q67.2.2.2.2.2.2.1), .p (eS q67.2.2.2.2.2.2.2.1), .p (eL eTValue q67.2.2.2.2.2.2.2.2.1), .p (eL eS q67.2.2.2.2.2.2.2.2.2.1), .p (eL eTExpr q67.2.2.2.2.2.2.2.2.2.2.1), .p (eI q67.2.2.2.2.2.2.2.2.2.2.2)]) :: (2, [.p (eI 0), .p (eI 0), .p (eS ([] : Bytes)), .p (eS ([] : Bytes)), .p (eI 0), .p (eI 0), .p (eS ([] : Bytes)), .p (.val (.slice none 0 0)), .p (.val (.slice none 0 0)), .p (.val (.slice none 0 0)), .p (eI 0)]) :: chO q67.1⟩) (fun m (q67 : (List TExpr) × Int × Int × Bytes × Bytes × Int × Int × Bytes × (List TValue) × (List Bytes) × (List TExpr) × Int) => reference_chain_l1 m q67.1 q67.2.1 q67.2.2.1 q67.2.2.2.1 q67.2.2.2.2.1 q67.2.2.2.2.2.1 q67.2.2.2.2.2.2.1 q67.2.2.2.2.2.2.2.1 q67.2.2.2.2.2.2.2.2.1 q67.2.2.2.2.2.2.2.2.2.1 q67.2.2.2.2.2.2.2.2.2.2.1 q67.2.2.2.2.2.2.2.2.2.2.2) (fun _ => rfl) ([], e_0.fKind, e_0.fOp, e_0.fName, e_0.fKey, e_0.fValue.fKind, e_0.fValue.fNum, e_0.fValue.fStr, e_0.fValue.fItems, e_0.fValue.fKeys, e_0.fKids, e_0.fAt) h1 (ghost_le (le_mk ⟨⟨_, rfl, AV.sub_refl _⟩, ⟨_, rfl, AV.sub_refl _⟩, ⟨_, rfl, AV.sub_refl _⟩, trivial⟩ ⟨⟨_, rfl, ⟨AV.sub_refl _, AV.sub_refl _, AV.sub_refl _, AV.sub_refl _, AV.sub_refl _, AV.sub_refl _, AV.sub_refl _, AV.sub_refl _, AV.sub_refl _, AV.sub_refl _, AV.sub_refl _, trivial⟩⟩, ⟨_, rfl, ⟨AV.sub_refl _, AV.sub_refl _, AV.sub_refl _, AV.sub_refl _, AV.sub_refl _, AV.sub_refl _, AV.sub_refl _, AV.sub_refl _, AV.sub_refl _, AV.sub_refl _, AV.sub_refl _, trivial⟩⟩, trivial⟩)) ?_
    rintro m ⟨steps19, f20, f21, f22, f23, f24, f25, f26, f27, f28, f29, f30⟩ h1
    replace h1 : reference_chain_l1 (m + 1) steps19 f20 f21 f22 f23 f24 f25 f26 f27 f28 f29 f30 = some o65 := h1
    rw [reference_chain_l1] at h1
    rcases steps19 with _ | ⟨s19, ss19⟩
    · refine awp_seq ?_
      refine awp_seq ?_
      obtain ⟨o68, h2, h1⟩ := bd_cut h1
      refine awp_joinN ⟨[(1, .ptr 1 0), (2, .ptr 2 0), (4, chS []), (18, .p (eB o68))], (1, [.p (eI f20), .p (eI f21), .p (eS f22), .p (eS f23), .p (eI f24), .p (eI f25), .p (eS f26), .p (eL eTValue f27), .p (eL eS f28), .p (eL eTExpr f29), .p (eI f30)]) :: (2, [.p (eI 0), .p (eI 0), .p (eS ([] : Bytes)), .p (eS ([] : Bytes)), .p (eI 0), .p (eI 0), .p (eS ([] : Bytes)), .p (.val (.slice none 0 0)), .p (.val (.slice none 0 0)), .p (.val (.slice none 0 0)), .p (eI 0)]) :: chO []⟩ ?_ ?_
      · intro s' hle
        (repeat (first | refine thenQ_exit ?_ | refine thenQ_ret ?_ | refine exQ_hit ?_ | refine exQ_other rfl ?_ | refine exQ_ret ?_ | refine exQ_normal ?_ | refine blockQ_ret ?_ | refine blockQ_normal ?_ | refine blockQ_exit ?_ | refine blockQ_other rfl ?_ | refine noGoto_ret ?_ | refine noGoto_exit ?_ | refine noGoto_normal ?_))
        refine awp_ghost hle ?_
        refine wp_if rfl (fun c34 => ?_) (fun c34 => ?_)
        · replace h1 := if_t c34 h1
          refine awp_skip ?_
          refine awp_block ?_
          refine awp_seq ?_
          refine awp_reg ?_
          refine rwpL_op rfl ?_
          refine ok_move rfl rfl rfl rfl ?_
          refine rwpL_op rfl ?_
          refine ok_loadPA rfl rfl rfl rfl rfl rfl rfl rfl rfl ?_
          refine rwpL_op rfl ?_
          refine op_bslice eTExpr [(TExpr.mk f20 f21 f22 f23 (TValue.mk f24 f25 f26 f27 f28) f29 f30)] rfl rfl rfl rfl rfl rfl rfl rfl rfl rfl rfl rfl rfl (by first | rfl | (simp only [List.map_cons, List.map_nil, TExpr.agg_eq]; done) | (simp only [List.map_cons, List.map_nil, TExpr.agg_eq]; rfl)) ?_
          obtain ⟨h35, h1⟩ := ck_cut h1
          refine rwpL_op rfl ?_
          refine op_rowN eTExpr [(TExpr.mk f20 f21 f22 f23 (TValue.mk f24 f25 f26 f27 f28) f29 f30)] rfl rfl rfl rfl rfl rfl rfl rfl rfl rfl rfl rfl (fun x => congrArg List.length (TExpr.cells_eq x)) (Nat.lt_succ_self 0) rfl rfl rfl (by simpa using h35) ?_
          refine rwpL_op rfl ?_
          refine ok_assign rfl rfl rfl rfl ?_
          refine rwpL_nil ?_
          refine awp_reg ?_
          refine rwpL_op rfl ?_
          refine ok_fieldAddrP rfl rfl rfl rfl rfl rfl rfl rfl rfl ?_
          refine rwpL_op rfl ?_
          refine ok_loadP1 rfl rfl rfl rfl rfl rfl rfl rfl ?_
          obtain ⟨h36, h1⟩ := ck_cut h1
          refine rwpL_op rfl ?_
          refine op_at (f := eTExpr) (l := f29) TExpr.cs rfl rfl rfl rfl rfl rfl rfl rfl rfl h36 TExpr.cells_eq (fun _ => rfl) ?_
          refine rwpL_op rfl ?_
          refine ok_loadRA rfl rfl rfl rfl rfl rfl rfl ?_
          refine rwpL_op rfl ?_
          refine ok_store rfl rfl rfl rfl rfl rfl rfl rfl (Nat.le_of_ble_eq_true rfl) ?_
          refine rwpL_nil ?_
          (repeat (first | refine thenQ_exit ?_ | refine thenQ_ret ?_ | refine exQ_hit ?_ | refine exQ_other rfl ?_ | refine exQ_ret ?_ | refine exQ_normal ?_ | refine blockQ_ret ?_ | refine blockQ_normal ?_ | refine blockQ_exit ?_ | refine blockQ_other rfl ?_ | refine noGoto_ret ?_ | refine noGoto_exit ?_ | refine noGoto_normal ?_))
          (repeat (first | refine thenQ_exit ?_ | refine thenQ_ret ?_ | refine exQ_hit ?_ | refine exQ_other rfl ?_ | refine exQ_ret ?_ | refine exQ_normal ?_ | refine blockQ_ret ?_ | refine blockQ_normal ?_ | refine blockQ_exit ?_ | refine blockQ_other rfl ?_ | refine noGoto_ret ?_ | refine noGoto_exit ?_ | refine noGoto_normal ?_))
          exact ⟨([] ++ [(TExpr.mk f20 f21 f22 f23 (TValue.mk f24 f25 f26 f27 f28) f29 f30)], (lat f29 0).fKind, (lat f29 0).fOp, (lat f29 0).fName, (lat f29 0).fKey, ((lat f29 0).fValue).fKind, ((lat f29 0).fValue).fNum, ((lat f29 0).fValue).fStr, ((lat f29 0).fValue).fItems, ((lat f29 0).fValue).fKeys, (lat f29 0).fKids, (lat f29 0).fAt), h1, ghost_le (le_mk ⟨⟨_, rfl, AV.sub_refl _⟩, ⟨_, rfl, AV.sub_refl _⟩, ⟨_, rfl, AV.sub_refl _⟩, trivial⟩ ⟨⟨_, rfl, ⟨AV.sub_refl _, AV.sub_refl _, AV.sub_refl _, AV.sub_refl _, AV.sub_refl _, AV.sub_refl _, AV.sub_refl _, AV.sub_refl _, AV.sub_refl _, AV.sub_refl _, AV.sub_refl _, trivial⟩⟩, ⟨_, rfl, ⟨AV.sub_refl _, AV.sub_refl _, AV.sub_refl _, AV.sub_refl _, AV.sub_refl _, AV.sub_refl _, AV.sub_refl _, AV.sub_refl _, AV.sub_refl _, AV.sub_refl _, AV.sub_refl _, trivial⟩⟩, ⟨_, rfl, subL_refl _⟩, trivial⟩)⟩
        · replace h1 := if_bf c34 h1
          refine awp_exit ?_
          (repeat (first | refine thenQ_exit ?_ | refine thenQ_ret ?_ | refine exQ_hit ?_ | refine exQ_other rfl ?_ | refine exQ_ret ?_ | refine exQ_normal ?_ | refine blockQ_ret ?_ | refine blockQ_normal ?_ | refine blockQ_exit ?_ | refine blockQ_other rfl ?_ | refine noGoto_ret ?_ | refine noGoto_exit ?_ | refine noGoto_normal ?_))
          have e1 := Option.some.inj h1
          subst e1
          exact ghost_le (le_mk ⟨⟨_, rfl, AV.sub_refl _⟩, ⟨_, rfl, AV.sub_refl _⟩, ⟨_, rfl, AV.sub_refl _⟩, trivial⟩ ⟨⟨_, rfl, ⟨AV.sub_refl _, AV.sub_refl _, AV.sub_refl _, AV.sub_refl _, AV.sub_refl _, AV.sub_refl _, AV.sub_refl _, AV.sub_refl _, AV.sub_refl _, AV.sub_refl _, AV.sub_refl _, trivial⟩⟩, ⟨_, rfl, ⟨AV.sub_refl _, AV.sub_refl _, AV.sub_refl _, AV.sub_refl _, AV.sub_refl _, AV.sub_refl _, AV.sub_refl _, AV.sub_refl _, AV.sub_refl _, AV.sub_refl _, AV.sub_refl _, trivial⟩⟩, trivial⟩)
      · skip
        refine awp_reg ?_
        refine rwpL_op rfl ?_
        refine ok_fieldAddrP rfl rfl rfl rfl rfl rfl rfl rfl rfl ?_
        refine rwpL_op rfl ?_
        refine ok_loadP1 rfl rfl rfl rfl rfl rfl rfl rfl ?_
        refine rwpL_op rfl ?_
        refine ok_cmp rfl rfl rfl rfl rfl rfl ?_
        refine rwpL_op rfl ?_
        refine ok_move rfl rfl rfl rfl ?_
        refine gd_D rfl rfl rfl (fun c31 => ?_) (fun c31 => ?_)
        · replace h2 := if_t c31 h2
          refine gd_ft rfl rfl rfl (decide_eq_true c31) rfl rfl ?_
          refine gd_ft rfl rfl rfl (decide_eq_true c31) rfl rfl ?_
          refine gd_ft rfl rfl rfl (decide_eq_true c31) rfl rfl ?_
          refine rwpL_op rfl ?_
          refine ok_pick_true rfl rfl rfl rfl (decide_eq_true c31) rfl ?_
          refine rwpL_op rfl ?_
          refine ok_move rfl rfl rfl rfl ?_
          refine gd_tt rfl rfl rfl (rfl) ?_
          refine ok_fieldAddrP rfl rfl rfl rfl rfl rfl rfl rfl rfl ?_
          refine gd_tt rfl rfl rfl (rfl) ?_
          refine ok_loadP1 rfl rfl rfl rfl rfl rfl rfl rfl ?_
          refine gd_tt rfl rfl rfl (rfl) ?_
          refine op_lenL (f := eTExpr) (l := f29) rfl rfl rfl rfl rfl rfl rfl ?_
          refine gd_tt rfl rfl rfl (rfl) ?_
          refine ok_cmp rfl rfl rfl rfl rfl rfl ?_
          refine rwpL_op rfl ?_
          refine ok_pick_true rfl rfl rfl rfl (rfl) rfl ?_
          refine rwpL_nil ?_
          (repeat (first | refine thenQ_exit ?_ | refine thenQ_ret ?_ | refine exQ_hit ?_ | refine exQ_other rfl ?_ | refine exQ_ret ?_ | refine exQ_normal ?_ | refine blockQ_ret ?_ | refine blockQ_normal ?_ | refine blockQ_exit ?_ | refine blockQ_other rfl ?_ | refine noGoto_ret ?_ | refine noGoto_exit ?_ | refine noGoto_normal ?_))
          have e2 := Option.some.inj h2
          subst e2
          exact ghost_le (le_mk ⟨⟨_, rfl, AV.sub_refl _⟩, ⟨_, rfl, AV.sub_refl _⟩, ⟨_, rfl, AV.sub_refl _⟩, ⟨_, rfl, AV.sub_refl _⟩, trivial⟩ ⟨⟨_, rfl, ⟨AV.sub_refl _, AV.sub_refl _, AV.sub_refl _, AV.sub_refl _, AV.sub_refl _, AV.sub_refl _, AV.sub_refl _, AV.sub_refl _, AV.sub_refl _, AV.sub_refl _, AV.sub_refl _, trivial⟩⟩, ⟨_, rfl, ⟨AV.sub_refl _, AV.sub_refl _, AV.sub_refl _, AV.sub_refl _, AV.sub_refl _, AV.sub_refl _, AV.sub_refl _, AV.sub_refl _, AV.sub_refl _, AV.sub_refl _, AV.sub_refl _, trivial⟩⟩, trivial⟩)
        · replace h2 := if_f c31 h2
          refine gd_ff rfl rfl rfl (decide_eq_false c31) ?_
          refine ok_fieldAddrP rfl rfl rfl rfl rfl rfl rfl rfl rfl ?_
          refine gd_ff rfl rfl rfl (decide_eq_false c31) ?_
          refine ok_loadP1 rfl rfl rfl rfl rfl rfl rfl rfl ?_
          refine gd_ff rfl rfl rfl (decide_eq_false c31) ?_
          refine ok_cmp rfl rfl rfl rfl rfl rfl ?_
          refine rwpL_op rfl ?_
          refine ok_pick_false rfl rfl rfl rfl (decide_eq_false c31) rfl ?_
          refine rwpL_op rfl ?_
          refine ok_move rfl rfl rfl rfl ?_
          refine gd_D rfl rfl rfl (fun c32 => ?_) (fun c32 => ?_)
          · replace h2 := if_t c32 h2
            refine gd_tt rfl rfl rfl (decide_eq_true c32) ?_
            refine ok_fieldAddrP rfl rfl rfl rfl rfl rfl rfl rfl rfl ?_
            refine gd_tt rfl rfl rfl (decide_eq_true c32) ?_
            refine ok_loadP1 rfl rfl rfl rfl rfl rfl rfl rfl ?_
            refine gd_tt rfl rfl rfl (decide_eq_true c32) ?_
            refine op_lenL (f := eTExpr) (l := f29) rfl rfl rfl rfl rfl rfl rfl ?_
            refine gd_tt rfl rfl rfl (decide_eq_true c32) ?_
            refine ok_cmp rfl rfl rfl rfl rfl rfl ?_
            refine rwpL_op rfl ?_
            refine ok_pick_true rfl rfl rfl rfl (decide_eq_true c32) rfl ?_
            refine rwpL_nil ?_
            (repeat (first | refine thenQ_exit ?_ | refine thenQ_ret ?_ | refine exQ_hit ?_ | refine exQ_other rfl ?_ | refine exQ_ret ?_ | refine exQ_normal ?_ | refine blockQ_ret ?_ | refine blockQ_normal ?_ | refine blockQ_exit ?_ | refine blockQ_other rfl ?_ | refine noGoto_ret ?_ | refine noGoto_exit ?_ | refine noGoto_normal ?_))
            have e2 := Option.some.inj h2
            subst e2
            exact ghost_le (le_mk ⟨⟨_, rfl, AV.sub_refl _⟩, ⟨_, rfl, AV.sub_refl _⟩, ⟨_, rfl, AV.sub_refl _⟩, ⟨_, rfl, AV.sub_refl _⟩, trivial⟩ ⟨⟨_, rfl, ⟨AV.sub_refl _, AV.sub_refl _, AV.sub_refl _, AV.sub_refl _, AV.sub_refl _, AV.sub_refl _, AV.sub_refl _, AV.sub_refl _, AV.sub_refl _, AV.sub_refl _, AV.sub_refl _, trivial⟩⟩, ⟨_, rfl, ⟨AV.sub_refl _, AV.sub_refl _, AV.sub_refl _, AV.sub_refl _, AV.sub_refl _, AV.sub_refl _, AV.sub_refl _, AV.sub_refl _, AV.sub_refl _, AV.sub_refl _, AV.sub_refl _, trivial⟩⟩, trivial⟩)
          · replace h2 := if_f c32 h2
            refine gd_tf rfl rfl rfl (decide_eq_false c32) rfl rfl ?_
            refine gd_tf rfl rfl rfl (decide_eq_false c32) rfl rfl ?_
            refine gd_tf rfl rfl rfl (decide_eq_false c32) rfl rfl ?_
            refine gd_tf rfl rfl rfl (decide_eq_false c32) rfl rfl ?_
            refine rwpL_op rfl ?_
            refine ok_pick_false rfl rfl rfl rfl (decide_eq_false c32) rfl ?_
            refine rwpL_nil ?_
            (repeat (first | refine thenQ_exit ?_ | refine thenQ_ret ?_ | refine exQ_hit ?_ | refine exQ_other rfl ?_ | refine exQ_ret ?_ | refine exQ_normal ?_ | refine blockQ_ret ?_ | refine blockQ_normal ?_ | refine blockQ_exit ?_ | refine blockQ_other rfl ?_ | refine noGoto_ret ?_ | refine noGoto_exit ?_ | refine noGoto_normal ?_))
            have e2 := Option.some.inj h2
            subst e2
            exact ghost_le (le_mk ⟨⟨_, rfl, AV.sub_refl _⟩, ⟨_, rfl, AV.sub_refl _⟩, ⟨_, rfl, AV.sub_refl _⟩, ⟨_, rfl, AV.sub_refl _⟩, trivial⟩ ⟨⟨_, rfl, ⟨AV.sub_refl _, AV.sub_refl _, AV.sub_refl _, AV.sub_refl _, AV.sub_refl _, AV.sub_refl _, AV.sub_refl _, AV.sub_refl _, AV.sub_refl _, AV.sub_refl _, AV.sub_refl _, trivial⟩⟩, ⟨_, rfl, ⟨AV.sub_refl _, AV.sub_refl _, AV.sub_refl _, AV.sub_refl _, AV.sub_refl _, AV.sub_refl _, AV.sub_refl _, AV.sub_refl _, AV.sub_refl _, AV.sub_refl _, AV.sub_refl _, trivial⟩⟩, trivial⟩)
    · refine awp_seq ?_
      refine awp_seq ?_
      obtain ⟨o68, h2, h1⟩ := bd_cut h1
      refine awp_joinN ⟨[(1, .ptr 1 0), (2, .ptr 2 0), (4, chS (s19 :: ss19)), (18, .p (eB o68))], (1, [.p (eI f20), .p (eI f21), .p (eS f22), .p (eS f23), .p (eI f24), .p (eI f25), .p (eS f26), .p (eL eTValue f27), .p (eL eS f28), .p (eL eTExpr f29), .p (eI f30)]) :: (2, [.p (eI 0), .p (eI 0), .p (eS ([] : Bytes)), .p (eS ([] : Bytes)), .p (eI 0), .p (eI 0), .p (eS ([] : Bytes)), .p (.val (.slice none 0 0)), .p (.val (.slice none 0 0)), .p (.val (.slice none 0 0)), .p (eI 0)]) :: chO (s19 :: ss19)⟩ ?_ ?_
      · intro s' hle
        (repeat (first | refine thenQ_exit ?_ | refine thenQ_ret ?_ | refine exQ_hit ?_ | refine exQ_other rfl ?_ | refine exQ_ret ?_ | refine exQ_normal ?_ | refine blockQ_ret ?_ | refine blockQ_normal ?_ | refine blockQ_exit ?_ | refine blockQ_other rfl ?_ | refine noGoto_ret ?_ | refine noGoto_exit ?_ | refine noGoto_normal ?_))
        refine awp_ghost hle ?_
        refine wp_if rfl (fun c34 => ?_) (fun c34 => ?_)
        · replace h1 := if_t c34 h1
          refine awp_skip ?_
          refine awp_block ?_
          refine awp_seq ?_
          refine awp_reg ?_
          refine rwpL_op rfl ?_
          refine ok_move rfl rfl rfl rfl ?_
          refine rwpL_op rfl ?_
          refine ok_loadPA rfl rfl rfl rfl rfl rfl rfl rfl rfl ?_
          refine rwpL_op rfl ?_
          refine op_bslice eTExpr [(TExpr.mk f20 f21 f22 f23 (TValue.mk f24 f25 f26 f27 f28) f29 f30)] rfl rfl rfl rfl rfl rfl rfl rfl rfl rfl rfl rfl rfl (by first | rfl | (simp only [List.map_cons, List.map_nil, TExpr.agg_eq]; done) | (simp only [List.map_cons, List.map_nil, TExpr.agg_eq]; rfl)) ?_
          obtain ⟨h35, h1⟩ := ck_cut h1
          refine rwpL_op rfl ?_
          refine op_rowA eTExpr (s19 :: ss19) [(TExpr.mk f20 f21 f22 f23 (TValue.mk f24 f25 f26 f27 f28) f29 f30)] rfl rfl rfl rfl rfl rfl rfl rfl rfl rfl rfl rfl rfl rfl rfl (fun x => congrArg List.length (TExpr.cells_eq x)) rfl rfl rfl h35 ?_
          refine rwpL_op rfl ?_
          refine ok_assign rfl rfl rfl rfl ?_
          refine rwpL_nil ?_
          refine awp_reg ?_
          refine rwpL_op rfl ?_
          refine ok_fieldAddrP rfl rfl rfl rfl rfl rfl rfl rfl rfl ?_
          refine rwpL_op rfl ?_
          refine ok_loadP1 rfl rfl rfl rfl rfl rfl rfl rfl ?_
          obtain ⟨h36, h1⟩ := ck_cut h1
          refine rwpL_op rfl ?_
          refine op_at (f := eTExpr) (l := f29) TExpr.cs rfl rfl rfl rfl rfl rfl rfl rfl rfl h36 TExpr.cells_eq (fun _ => rfl) ?_
          refine rwpL_op rfl ?_
          refine ok_loadRA rfl rfl rfl rfl rfl rfl rfl ?_
          refine rwpL_op rfl ?_
          refine ok_store rfl rfl rfl rfl rfl rfl rfl rfl (Nat.le_of_ble_eq_true rfl) ?_
          refine rwpL_nil ?_
          (repeat (first | refine thenQ_exit ?_ | refine thenQ_ret ?_ | refine exQ_hit ?_ | refine exQ_other rfl ?_ | refine exQ_ret ?_ | refine exQ_normal ?_ | refine blockQ_ret ?_ | refine blockQ_normal ?_ | refine blockQ_exit ?_ | refine blockQ_other rfl ?_ | refine noGoto_ret ?_ | refine noGoto_exit ?_ | refine noGoto_normal ?_))
          (repeat (first | refine thenQ_exit ?_ | refine thenQ_ret ?_ | refine exQ_hit ?_ | refine exQ_other rfl ?_ | refine exQ_ret ?_ | refine exQ_normal ?_ | refine blockQ_ret ?_ | refine blockQ_normal ?_ | refine blockQ_exit ?_ | refine blockQ_other rfl ?_ | refine noGoto_ret ?_ | refine noGoto_exit ?_ | refine noGoto_normal ?_))
          exact ⟨((s19 :: ss19) ++ [(TExpr.mk f20 f21 f22 f23 (TValue.mk f24 f25 f26 f27 f28) f29 f30)], (lat f29 0).fKind, (lat f29 0).fOp, (lat f29 0).fName, (lat f29 0).fKey, ((lat f29 0).fValue).fKind, ((lat f29 0).fValue).fNum, ((lat f29 0).fValue).fStr, ((lat f29 0).fValue).fItems, ((lat f29 0).fValue).fKeys, (lat f29 0).fKids, (lat f29 0).fAt), h1, ghost_le (le_mk ⟨⟨_, rfl, AV.sub_refl _⟩, ⟨_, rfl, AV.sub_refl _⟩, ⟨_, rfl, AV.sub_of_eq (by simp [chS])⟩, trivial⟩ ⟨⟨_, rfl, ⟨AV.sub_refl _, AV.sub_refl _, AV.sub_refl _, AV.sub_refl _, AV.sub_refl _, AV.sub_refl _, AV.sub_refl _, AV.sub_refl _, AV.sub_refl _, AV.sub_refl _, AV.sub_refl _, trivial⟩⟩, ⟨_, rfl, ⟨AV.sub_refl _, AV.sub_refl _, AV.sub_refl _, AV.sub_refl _, AV.sub_refl _, AV.sub_refl _, AV.sub_refl _, AV.sub_refl _, AV.sub_refl _, AV.sub_refl _, AV.sub_refl _, trivial⟩⟩, ⟨_, rfl, subL_refl _⟩, trivial⟩)⟩
        · replace h1 := if_bf c34 h1
          refine awp_exit ?_
          (repeat (first | refine thenQ_exit ?_ | refine thenQ_ret ?_ | refine exQ_hit ?_ | refine exQ_other rfl ?_ | refine exQ_ret ?_ | refine exQ_normal ?_ | refine blockQ_ret ?_ | refine blockQ_normal ?_ | refine blockQ_exit ?_ | refine blockQ_other rfl ?_ | refine noGoto_ret ?_ | refine noGoto_exit ?_ | refine noGoto_normal ?_))
          have e1 := Option.some.inj h1
          subst e1
          exact ghost_le (le_mk ⟨⟨_, rfl, AV.sub_refl _⟩, ⟨_, rfl, AV.sub_refl _⟩, ⟨_, rfl, AV.sub_refl _⟩, trivial⟩ ⟨⟨_, rfl, ⟨AV.sub_refl _, AV.sub_refl _, AV.sub_refl _, AV.sub_refl _, AV.sub_refl _, AV.sub_refl _, AV.sub_refl _, AV.sub_refl _, AV.sub_refl _, AV.sub_refl _, AV.sub_refl _, trivial⟩⟩, ⟨_, rfl, ⟨AV.sub_refl _, AV.sub_refl _, AV.sub_refl _, AV.sub_refl _, AV.sub_refl _, AV.sub_refl _, AV.sub_refl _, AV.sub_refl _, AV.sub_refl _, AV.sub_refl _, AV.sub_refl _, trivial⟩⟩, ⟨_, rfl, subL_refl _⟩, trivial⟩)
      · skip
        refine awp_reg ?_
        refine rwpL_op rfl ?_
        refine ok_fieldAddrP rfl rfl rfl rfl rfl rfl rfl rfl rfl ?_
        refine rwpL_op rfl ?_
        refine ok_loadP1 rfl rfl rfl rfl rfl rfl rfl rfl ?_
        refine rwpL_op rfl ?_
        refine ok_cmp rfl rfl rfl rfl rfl rfl ?_
        refine rwpL_op rfl ?_
        refine ok_move rfl rfl rfl rfl ?_
        refine gd_D rfl rfl rfl (fun c31 => ?_) (fun c31 => ?_)
        · replace h2 := if_t c31 h2
          refine gd_ft rfl rfl rfl (decide_eq_true c31) rfl rfl ?_
          refine gd_ft rfl rfl rfl (decide_eq_true c31) rfl rfl ?_
          refine gd_ft rfl rfl rfl (decide_eq_true c31) rfl rfl ?_
          refine rwpL_op rfl ?_
          refine ok_pick_true rfl rfl rfl rfl (decide_eq_true c31) rfl ?_
          refine rwpL_op rfl ?_
          refine ok_move rfl rfl rfl rfl ?_
          refine gd_tt rfl rfl rfl (rfl) ?_
          refine ok_fieldAddrP rfl rfl rfl rfl rfl rfl rfl rfl rfl ?_
          refine gd_tt rfl rfl rfl (rfl) ?_
          refine ok_loadP1 rfl rfl rfl rfl rfl rfl rfl rfl ?_
          refine gd_tt rfl rfl rfl (rfl) ?_
          refine op_lenL (f := eTExpr) (l := f29) rfl rfl rfl rfl rfl rfl rfl ?_
          refine gd_tt rfl rfl rfl (rfl) ?_
          refine ok_cmp rfl rfl rfl rfl rfl rfl ?_
          refine rwpL_op rfl ?_
          refine ok_pick_true rfl rfl rfl rfl (rfl) rfl ?_
          refine rwpL_nil ?_
          (repeat (first | refine thenQ_exit ?_ | refine thenQ_ret ?_ | refine exQ_hit ?_ | refine exQ_other rfl ?_ | refine exQ_ret ?_ | refine exQ_normal ?_ | refine blockQ_ret ?_ | refine blockQ_normal ?_ | refine blockQ_exit ?_ | refine blockQ_other rfl ?_ | refine noGoto_ret ?_ | refine noGoto_exit ?_ | refine noGoto_normal ?_))
          have e2 := Option.some.inj h2
          subst e2
          exact ghost_le (le_mk ⟨⟨_, rfl, AV.sub_refl _⟩, ⟨_, rfl, AV.sub_refl _⟩, ⟨_, rfl, AV.sub_refl _⟩, ⟨_, rfl, AV.sub_refl _⟩, trivial⟩ ⟨⟨_, rfl, ⟨AV.sub_refl _, AV.sub_refl _, AV.sub_refl _, AV.sub_refl _, AV.sub_refl _, AV.sub_refl _, AV.sub_refl _, AV.sub_refl _, AV.sub_refl _, AV.sub_refl _, AV.sub_refl _, trivial⟩⟩, ⟨_, rfl, ⟨AV.sub_refl _, AV.sub_refl _, AV.sub_refl _, AV.sub_refl _, AV.sub_refl _, AV.sub_refl _, AV.sub_refl _, AV.sub_refl _, AV.sub_refl _, AV.sub_refl _, AV.sub_refl _, trivial⟩⟩, ⟨_, rfl, subL_refl _⟩, trivial⟩)
        · replace h2 := if_f c31 h2
          refine gd_ff rfl rfl rfl (decide_eq_false c31) ?_
          refine ok_fieldAddrP rfl rfl rfl rfl rfl rfl rfl rfl rfl ?_
          refine gd_ff rfl rfl rfl (decide_eq_false c31) ?_
          refine ok_loadP1 rfl rfl rfl rfl rfl rfl rfl rfl ?_
          refine gd_ff rfl rfl rfl (decide_eq_false c31) ?_
          refine ok_cmp rfl rfl rfl rfl rfl rfl ?_
          refine rwpL_op rfl ?_
          refine ok_pick_false rfl rfl rfl rfl (decide_eq_false c31) rfl ?_
          refine rwpL_op rfl ?_
          refine ok_move rfl rfl rfl rfl ?_
          refine gd_D rfl rfl rfl (fun c32 => ?_) (fun c32 => ?_)
          · replace h2 := if_t c32 h2
            refine gd_tt rfl rfl rfl (decide_eq_true c32) ?_
            refine ok_fieldAddrP rfl rfl rfl rfl rfl rfl rfl rfl rfl ?_
            refine gd_tt rfl rfl rfl (decide_eq_true c32) ?_
            refine ok_loadP1 rfl rfl rfl rfl rfl rfl rfl rfl ?_
            refine gd_tt rfl rfl rfl (decide_eq_true c32) ?_
            refine op_lenL (f := eTExpr) (l := f29) rfl rfl rfl rfl rfl rfl rfl ?_
            refine gd_tt rfl rfl rfl (decide_eq_true c32) ?_
            refine ok_cmp rfl rfl rfl rfl rfl rfl ?_
            refine rwpL_op rfl ?_
            refine ok_pick_true rfl rfl rfl rfl (decide_eq_true c32) rfl ?_
            refine rwpL_nil ?_
            (repeat (first | refine thenQ_exit ?_ | refine thenQ_ret ?_ | refine exQ_hit ?_ | refine exQ_other rfl ?_ | refine exQ_ret ?_ | refine exQ_normal ?_ | refine blockQ_ret ?_ | refine blockQ_normal ?_ | refine blockQ_exit ?_ | refine blockQ_other rfl ?_ | refine noGoto_ret ?_ | refine noGoto_exit ?_ | refine noGoto_normal ?_))
            have e2 := Option.some.inj h2
            subst e2
            exact ghost_le (le_mk ⟨⟨_, rfl, AV.sub_refl _⟩, ⟨_, rfl, AV.sub_refl _⟩, ⟨_, rfl, AV.sub_refl _⟩, ⟨_, rfl, AV.sub_refl _⟩, trivial⟩ ⟨⟨_, rfl, ⟨AV.sub_refl _, AV.sub_refl _, AV.sub_refl _, AV.sub_refl _, AV.sub_refl _, AV.sub_refl _, AV.sub_refl _, AV.sub_refl _, AV.sub_refl _, AV.sub_refl _, AV.sub_refl _, trivial⟩⟩, ⟨_, rfl, ⟨AV.sub_refl _, AV.sub_refl _, AV.sub_refl _, AV.sub_refl _, AV.sub_refl _, AV.sub_refl _, AV.sub_refl _, AV.sub_refl _, AV.sub_refl _, AV.sub_refl _, AV.sub_refl _, trivial⟩⟩, ⟨_, rfl, subL_refl _⟩, trivial⟩)
          · replace h2 := if_f c32 h2
            refine gd_tf rfl rfl rfl (decide_eq_false c32) rfl rfl ?_
            refine gd_tf rfl rfl rfl (decide_eq_false c32) rfl rfl ?_
            refine gd_tf rfl rfl rfl (decide_eq_false c32) rfl rfl ?_
            refine gd_tf rfl rfl rfl (decide_eq_false c32) rfl rfl ?_
            refine rwpL_op rfl ?_
            refine ok_pick_false rfl rfl rfl rfl (decide_eq_false c32) rfl ?_
            refine rwpL_nil ?_
            (repeat (first | refine thenQ_exit ?_ | refine thenQ_ret ?_ | refine exQ_hit ?_ | refine exQ_other rfl ?_ | refine exQ_ret ?_ | refine exQ_normal ?_ | refine blockQ_ret ?_ | refine blockQ_normal ?_ | refine blockQ_exit ?_ | refine blockQ_other rfl ?_ | refine noGoto_ret ?_ | refine noGoto_exit ?_ | refine noGoto_normal ?_))
            have e2 := Option.some.inj h2
            subst e2
            exact ghost_le (le_mk ⟨⟨_, rfl, AV.sub_refl _⟩, ⟨_, rfl, AV.sub_refl _⟩, ⟨_, rfl, AV.sub_refl _⟩, ⟨_, rfl, AV.sub_refl _⟩, trivial⟩ ⟨⟨_, rfl, ⟨AV.sub_refl _, AV.sub_refl _, AV.sub_refl _, AV.sub_refl _, AV.sub_refl _, AV.sub_refl _, AV.sub_refl _, AV.sub_refl _, AV.sub_refl _, AV.sub_refl _, AV.sub_refl _, trivial⟩⟩, ⟨_, rfl, ⟨AV.sub_refl _, AV.sub_refl _, AV.sub_refl _, AV.sub_refl _, AV.sub_refl _, AV.sub_refl _, AV.sub_refl _, AV.sub_refl _, AV.sub_refl _, AV.sub_refl _, AV.sub_refl _, trivial⟩⟩, ⟨_, rfl, subL_refl _⟩, trivial⟩)

end Go.Ab.R17
