/- Contracts by hand: slices.Clone, slices.Reverse, the chain of an expression. -/
import Derived.Test.YtmpmphkpplgbkaaAbO
import Derived.Test.YtmpmphkpplgbkaaDat17
import Derived.Test.YtmpmphkpplgbkaaTy
set_option linter.unusedVariables false
set_option linter.unusedSimpArgs false
set_option linter.unnecessarySimpa false
namespace Go.Ab.R17
open Go.Proofs Go.Ab
attribute [local irreducible] awp rwpL OpOk PCalls OCalls QCalls AV.sub

def slices_Clone_string_string (l : List Bytes) : Option (List Bytes) := ck (l.length * 16 ≤ 140737488355328) <| some l

set_option maxHeartbeats 4000000 in
theorem slices_Clone_string_string_ok (l : List Bytes) (r : List Bytes) (h0 : slices_Clone_string_string l = some r) : OCalls Try.prog 53 [.p (eL eS l)] [] (fun x y => x = .vec 2000000 1 (r.map eS) ∧ y = []) := by
  unfold slices_Clone_string_string at h0
  obtain ⟨hlen, h0⟩ := ck_cut h0
  cases h0
  refine obodyG good [800000] [] Try.func53 rfl rfl rfl rfl rfl fun w0 F => ?_
  refine awp_seq ?_
  refine awp_reg ?_
  refine rwpL_op rfl ?_
  refine ok_assign rfl rfl rfl rfl ?_
  refine rwpL_nil ?_
  (repeat (first | refine thenQ_exit ?_ | refine thenQ_ret ?_ | refine exQ_hit ?_ | refine exQ_other rfl ?_ | refine exQ_ret ?_ | refine exQ_normal ?_ | refine blockQ_ret ?_ | refine blockQ_normal ?_ | refine blockQ_exit ?_ | refine blockQ_other rfl ?_ | refine noGoto_ret ?_ | refine noGoto_exit ?_ | refine noGoto_normal ?_))
  refine awp_seq ?_
  refine awp_seq ?_
  refine awp_reg ?_
  refine rwpL_op rfl ?_
  refine ok_move rfl rfl rfl rfl ?_
  refine rwpL_op rfl ?_
  refine op_isNil rfl rfl rfl rfl rfl rfl rfl rfl (fun b hb => ?_)
  refine rwpL_nil ?_
  (repeat (first | refine thenQ_exit ?_ | refine thenQ_ret ?_ | refine exQ_hit ?_ | refine exQ_other rfl ?_ | refine exQ_ret ?_ | refine exQ_normal ?_ | refine blockQ_ret ?_ | refine blockQ_normal ?_ | refine blockQ_exit ?_ | refine blockQ_other rfl ?_ | refine noGoto_ret ?_ | refine noGoto_exit ?_ | refine noGoto_normal ?_))
  refine wp_if rfl (fun hc => ?_) (fun hc => ?_)
  · have he : l = [] := by simpa using hb hc
    subst he
    refine awp_seq ?_
    refine awp_reg ?_
    refine rwpL_op rfl ?_
    refine ok_assign rfl rfl rfl rfl ?_
    refine rwpL_nil ?_
    (repeat (first | refine thenQ_exit ?_ | refine thenQ_ret ?_ | refine exQ_hit ?_ | refine exQ_other rfl ?_ | refine exQ_ret ?_ | refine exQ_normal ?_ | refine blockQ_ret ?_ | refine blockQ_normal ?_ | refine blockQ_exit ?_ | refine blockQ_other rfl ?_ | refine noGoto_ret ?_ | refine noGoto_exit ?_ | refine noGoto_normal ?_))
    refine awp_ret ?_
    (repeat (first | refine thenQ_exit ?_ | refine thenQ_ret ?_ | refine exQ_hit ?_ | refine exQ_other rfl ?_ | refine exQ_ret ?_ | refine exQ_normal ?_ | refine blockQ_ret ?_ | refine blockQ_normal ?_ | refine blockQ_exit ?_ | refine blockQ_other rfl ?_ | refine noGoto_ret ?_ | refine noGoto_exit ?_ | refine noGoto_normal ?_))
    exact retg_mk (ghost_refl _) rfl rfl rfl rfl (AV.sub_nilvec _ _) trivial
  · refine awp_skip ?_
    (repeat (first | refine thenQ_exit ?_ | refine thenQ_ret ?_ | refine exQ_hit ?_ | refine exQ_other rfl ?_ | refine exQ_ret ?_ | refine exQ_normal ?_ | refine blockQ_ret ?_ | refine blockQ_normal ?_ | refine blockQ_exit ?_ | refine blockQ_other rfl ?_ | refine noGoto_ret ?_ | refine noGoto_exit ?_ | refine noGoto_normal ?_))
    refine awp_seq ?_
    refine awp_reg ?_
    refine rwpL_op rfl ?_
    refine op_empty rfl rfl rfl rfl rfl rfl rfl 5 1 ?_
    refine rwpL_op rfl ?_
    refine ok_move rfl rfl rfl rfl ?_
    refine rwpL_op rfl ?_
    refine op_appV eS [] l rfl rfl rfl rfl rfl rfl rfl rfl rfl rfl rfl rfl rfl (fun _ => rfl) rfl rfl rfl (by simpa using hlen) ?_
    refine rwpL_op rfl ?_
    refine ok_assign rfl rfl rfl rfl ?_
    refine rwpL_nil ?_
    (repeat (first | refine thenQ_exit ?_ | refine thenQ_ret ?_ | refine exQ_hit ?_ | refine exQ_other rfl ?_ | refine exQ_ret ?_ | refine exQ_normal ?_ | refine blockQ_ret ?_ | refine blockQ_normal ?_ | refine blockQ_exit ?_ | refine blockQ_other rfl ?_ | refine noGoto_ret ?_ | refine noGoto_exit ?_ | refine noGoto_normal ?_))
    refine awp_ret ?_
    (repeat (first | refine thenQ_exit ?_ | refine thenQ_ret ?_ | refine exQ_hit ?_ | refine exQ_other rfl ?_ | refine exQ_ret ?_ | refine exQ_normal ?_ | refine blockQ_ret ?_ | refine blockQ_normal ?_ | refine blockQ_exit ?_ | refine blockQ_other rfl ?_ | refine noGoto_ret ?_ | refine noGoto_exit ?_ | refine noGoto_normal ?_))
    exact retg_mk (ghost_ren 7 800000 rfl rfl rfl rfl rfl) rfl rfl rfl rfl (AV.sub_refl _) trivial

/-! ### Reverse -/
set_option maxHeartbeats 4000000 in
theorem reverse_nil : PCalls Try.prog 45 [eL eTExpr []] (· = .tuple []) := by
  refine pbodyA good Try.func45 rfl rfl rfl fun w0 => ?_
  refine awp_seq ?_
  refine awp_reg ?_
  refine rwpL_op rfl ?_
  refine ok_move rfl rfl rfl rfl ?_
  refine rwpL_op rfl ?_
  refine op_lenL (f := eTExpr) (l := []) rfl rfl rfl rfl rfl rfl rfl ?_
  refine rwpL_op rfl ?_
  refine ok_ar rfl rfl rfl rfl rfl rfl ⟨by decide, by decide⟩ ?_
  refine rwpL_op rfl ?_
  refine ok_assign rfl rfl rfl rfl ?_
  refine rwpL_op rfl ?_
  refine ok_assign rfl rfl rfl rfl ?_
  refine rwpL_nil ?_
  (repeat (first | refine thenQ_exit ?_ | refine thenQ_ret ?_ | refine exQ_hit ?_ | refine exQ_other rfl ?_ | refine exQ_ret ?_ | refine exQ_normal ?_ | refine blockQ_ret ?_ | refine blockQ_normal ?_ | refine blockQ_exit ?_ | refine blockQ_other rfl ?_ | refine noGoto_ret ?_ | refine noGoto_exit ?_ | refine noGoto_normal ?_))
  refine awp_block ?_
  refine awp_loopG (fun _ : Unit => ⟨[(2, .p (eI 0)), (3, .p (eI (-1)))], []⟩) (fun m _ => match m with | 0 => none | _ + 1 => some ()) (fun _ => rfl) (o := ()) (n := 1) () rfl (ghost_le (le_mk ⟨⟨_, rfl, AV.sub_refl _⟩, ⟨_, rfl, AV.sub_refl _⟩, trivial⟩ trivial)) ?_
  rintro m ⟨⟩ h
  refine awp_seq ?_
  refine awp_seq ?_
  refine awp_reg ?_
  refine rwpL_op rfl ?_
  refine ok_move rfl rfl rfl rfl ?_
  refine rwpL_op rfl ?_
  refine ok_move rfl rfl rfl rfl ?_
  refine rwpL_op rfl ?_
  refine ok_cmp rfl rfl rfl rfl rfl rfl ?_
  refine rwpL_nil ?_
  (repeat (first | refine thenQ_exit ?_ | refine thenQ_ret ?_ | refine exQ_hit ?_ | refine exQ_other rfl ?_ | refine exQ_ret ?_ | refine exQ_normal ?_ | refine blockQ_ret ?_ | refine blockQ_normal ?_ | refine blockQ_exit ?_ | refine blockQ_other rfl ?_ | refine noGoto_ret ?_ | refine noGoto_exit ?_ | refine noGoto_normal ?_))
  refine wp_ifF rfl (by decide) ?_
  refine awp_exit ?_
  (repeat (first | refine thenQ_exit ?_ | refine thenQ_ret ?_ | refine exQ_hit ?_ | refine exQ_other rfl ?_ | refine exQ_ret ?_ | refine exQ_normal ?_ | refine blockQ_ret ?_ | refine blockQ_normal ?_ | refine blockQ_exit ?_ | refine blockQ_other rfl ?_ | refine noGoto_ret ?_ | refine noGoto_exit ?_ | refine noGoto_normal ?_))
  refine enda_mk rfl ?_
  exact AV.sub_refl _

def rev_l1 : Nat → Int → Int → List TExpr → Option (List TExpr)
  | 0, _, _, _ => none
  | m + 1, i, j, l => if i < j then ck ((0 : Int) ≤ j ∧ j < (l.length : Int)) <| ck ((0 : Int) ≤ i ∧ i < (l.length : Int)) <| ck (inR (i + 1)) <| ck (inR (j - 1)) <| rev_l1 m (i + 1) (j - 1) ((l.set i.toNat (lat l j)).set j.toNat (lat l i))
    else some l
def reverse_E (n : Nat) (l : List TExpr) : Option (List TExpr) := ck (inR ((l.length : Int) - 1)) <| rev_l1 n 0 ((l.length : Int) - 1) l

set_option maxHeartbeats 4000000 in
theorem reverse_row (n : Nat) (l r : List TExpr) (h0 : reverse_E n l = some r) : OCalls Try.prog 45 [.arr 1000000 11 0 l.length] [(1000000, rowC eTExpr l)] (fun x y => x = .tuple [] ∧ y = [(1000000, rowC eTExpr r)]) := by
  unfold reverse_E at h0
  obtain ⟨hr, h0⟩ := ck_cut h0
  refine obodyG good [] [1000000] Try.func45 rfl rfl rfl rfl rfl fun w0 F => ?_
  refine awp_seq ?_
  refine awp_reg ?_
  refine rwpL_op rfl ?_
  refine ok_move rfl rfl rfl rfl ?_
  refine rwpL_op rfl ?_
  refine ok_lenA rfl rfl rfl rfl rfl rfl ?_
  refine rwpL_op rfl ?_
  refine ok_ar rfl rfl rfl rfl rfl rfl hr ?_
  refine rwpL_op rfl ?_
  refine ok_assign rfl rfl rfl rfl ?_
  refine rwpL_op rfl ?_
  refine ok_assign rfl rfl rfl rfl ?_
  refine rwpL_nil ?_
  (repeat (first | refine thenQ_exit ?_ | refine thenQ_ret ?_ | refine exQ_hit ?_ | refine exQ_other rfl ?_ | refine exQ_ret ?_ | refine exQ_normal ?_ | refine blockQ_ret ?_ | refine blockQ_normal ?_ | refine blockQ_exit ?_ | refine blockQ_other rfl ?_ | refine noGoto_ret ?_ | refine noGoto_exit ?_ | refine noGoto_normal ?_))
  refine awp_block ?_
  refine awp_loopG (fun q : Int × Int × List TExpr => ⟨[(0, .arr 1000000 11 0 q.2.2.length), (2, .p (eI q.1)), (3, .p (eI q.2.1))], [(1000000, rowC eTExpr q.2.2)]⟩) (fun m q => rev_l1 m q.1 q.2.1 q.2.2) (fun _ => rfl) (0, (l.length : Int) - 1, l) h0 (ghost_le (le_mk ⟨⟨_, rfl, AV.sub_refl _⟩, ⟨_, rfl, AV.sub_refl _⟩, ⟨_, rfl, AV.sub_refl _⟩, trivial⟩ ⟨⟨_, rfl, subL_refl _⟩, trivial⟩)) ?_
  clear h0 hr
  rintro m ⟨i, j, l⟩ h0
  replace h0 : rev_l1 (m + 1) i j l = some r := h0
  rw [rev_l1] at h0
  refine awp_seq ?_
  refine awp_seq ?_
  refine awp_reg ?_
  refine rwpL_op rfl ?_
  refine ok_move rfl rfl rfl rfl ?_
  refine rwpL_op rfl ?_
  refine ok_move rfl rfl rfl rfl ?_
  refine rwpL_op rfl ?_
  refine ok_cmp rfl rfl rfl rfl rfl rfl ?_
  refine rwpL_nil ?_
  (repeat (first | refine thenQ_exit ?_ | refine thenQ_ret ?_ | refine exQ_hit ?_ | refine exQ_other rfl ?_ | refine exQ_ret ?_ | refine exQ_normal ?_ | refine blockQ_ret ?_ | refine blockQ_normal ?_ | refine blockQ_exit ?_ | refine blockQ_other rfl ?_ | refine noGoto_ret ?_ | refine noGoto_exit ?_ | refine noGoto_normal ?_))
  refine wp_ifD rfl (fun c => ?_) (fun c => ?_)
  rotate_left
  · replace h0 := if_f c h0
    cases h0
    refine awp_exit ?_
    (repeat (first | refine thenQ_exit ?_ | refine thenQ_ret ?_ | refine exQ_hit ?_ | refine exQ_other rfl ?_ | refine exQ_ret ?_ | refine exQ_normal ?_ | refine blockQ_ret ?_ | refine blockQ_normal ?_ | refine blockQ_exit ?_ | refine blockQ_other rfl ?_ | refine noGoto_ret ?_ | refine noGoto_exit ?_ | refine noGoto_normal ?_))
    exact endg_mk (ghost_refl _) rfl rfl rfl (mapO_cons rfl (mapA_go_p _) rfl) (AV.sub_refl _) ⟨⟨_, rfl, subL_refl _⟩, trivial⟩
  replace h0 := if_t c h0
  obtain ⟨hj, h0⟩ := ck_cut h0
  obtain ⟨hi, h0⟩ := ck_cut h0
  obtain ⟨hi2, h0⟩ := ck_cut h0
  obtain ⟨hj2, h0⟩ := ck_cut h0
  refine awp_skip ?_
  (repeat (first | refine thenQ_exit ?_ | refine thenQ_ret ?_ | refine exQ_hit ?_ | refine exQ_other rfl ?_ | refine exQ_ret ?_ | refine exQ_normal ?_ | refine blockQ_ret ?_ | refine blockQ_normal ?_ | refine blockQ_exit ?_ | refine blockQ_other rfl ?_ | refine noGoto_ret ?_ | refine noGoto_exit ?_ | refine noGoto_normal ?_))
  refine awp_seq ?_
  refine awp_block ?_
  refine awp_ghost (ghost_le (t := ⟨[(0, .arr 1000000 11 0 l.length), (2, .p (eI i)), (3, .p (eI j))], [(1000000, rowC eTExpr l)]⟩) (le_mk ⟨⟨_, rfl, AV.sub_refl _⟩, ⟨_, rfl, AV.sub_refl _⟩, ⟨_, rfl, AV.sub_refl _⟩, trivial⟩ ⟨⟨_, rfl, subL_refl _⟩, trivial⟩)) ?_
  refine awp_drawS ⟨2, [13, 15], (fun _ => none), (fun _ => [(0, .arr 1000000 11 0 l.length), (2, .p (eI i)), (3, .p (eI j))]), (by3 ([(1000000, rowC eTExpr l)]) ([(1000000, rowC eTExpr (l.set i.toNat (lat l j))), (1000000, rowC eTExpr l)]) ([(1000000, rowC eTExpr ((l.set i.toNat (lat l j)).set j.toNat (lat l i))), (1000000, rowC eTExpr (l.set i.toNat (lat l j))), (1000000, rowC eTExpr l)]))⟩ rfl rfl rfl ⟨rfl, rfl, rfl, trivial⟩ (lt2 ⟨rfl, rfl, rfl, trivial⟩ ⟨rfl, rfl, rfl, trivial⟩) rfl rfl rfl rfl ?_
  refine ds_pure (fun _ => .arr 1000000 11 0 l.length) rfl rfl rfl (all3 rfl rfl (fun _ => rfl)) (lt2 rfl rfl) (stg_no rfl (stg_no rfl (stg_yes [(0, .arr 1000000 11 0 l.length)] ⟨.inl rfl, trivial⟩ (fun sl hsl K hK => one_op rfl (ok_move rfl rfl rfl (hsl _ _ rfl) hK)) stg_nil))) ?_
  refine ds_pure (fun _ => .p (eI i)) rfl rfl rfl (all3 rfl rfl (fun _ => rfl)) (lt2 rfl rfl) (stg_no rfl (stg_no rfl (stg_yes [(2, .p (eI i))] ⟨.inl rfl, trivial⟩ (fun sl hsl K hK => one_op rfl (ok_move rfl rfl rfl (hsl _ _ rfl) hK)) stg_nil))) ?_
  refine ds_pure (fun _ => .arr 1000000 11 0 l.length) rfl rfl rfl (all3 rfl rfl (fun _ => rfl)) (lt2 rfl rfl) (stg_no rfl (stg_yes [(0, .arr 1000000 11 0 l.length)] ⟨.inl rfl, trivial⟩ (fun sl hsl K hK => one_op rfl (ok_move rfl rfl rfl (hsl _ _ rfl) hK)) (stg_yes [(0, .arr 1000000 11 0 l.length)] ⟨.inl rfl, trivial⟩ (fun sl hsl K hK => one_op rfl (ok_move rfl rfl rfl (hsl _ _ rfl) hK)) stg_nil))) ?_
  refine ds_pure (fun _ => .p (eI j)) rfl rfl rfl (all3 rfl rfl (fun _ => rfl)) (lt2 rfl rfl) (stg_no rfl (stg_yes [(3, .p (eI j))] ⟨.inl rfl, trivial⟩ (fun sl hsl K hK => one_op rfl (ok_move rfl rfl rfl (hsl _ _ rfl) hK)) (stg_yes [(3, .p (eI j))] ⟨.inl rfl, trivial⟩ (fun sl hsl K hK => one_op rfl (ok_move rfl rfl rfl (hsl _ _ rfl) hK)) stg_nil))) ?_
  refine ds_pure (fun _ => .arr 1000000 11 0 l.length) rfl rfl rfl (all3 rfl rfl (fun _ => rfl)) (lt2 rfl rfl) (stg_no rfl (stg_no rfl (stg_yes [(0, .arr 1000000 11 0 l.length)] ⟨.inl rfl, trivial⟩ (fun sl hsl K hK => one_op rfl (ok_move rfl rfl rfl (hsl _ _ rfl) hK)) stg_nil))) ?_
  refine ds_pure (fun _ => .p (eI j)) rfl rfl rfl (all3 rfl rfl (fun _ => rfl)) (lt2 rfl rfl) (stg_no rfl (stg_no rfl (stg_yes [(3, .p (eI j))] ⟨.inl rfl, trivial⟩ (fun sl hsl K hK => one_op rfl (ok_move rfl rfl rfl (hsl _ _ rfl) hK)) stg_nil))) ?_
  refine ds_pure (fun _ => .ptr 1000000 (0 + j.toNat * 11)) rfl rfl rfl (all3 rfl rfl (fun _ => rfl)) (lt2 rfl rfl) (stg_no rfl (stg_no rfl (stg_yes [(18, .arr 1000000 11 0 l.length), (19, .p (eI j))] ⟨.inr ⟨4, _, rfl, rfl, rfl⟩, .inr ⟨5, _, rfl, rfl, rfl⟩, trivial⟩ (fun sl hsl K hK => one_op rfl (ok_indexAddrA (id := 1000000) (sz := 11) (off := 0) rfl rfl rfl rfl rfl rfl (hsl _ _ rfl) (hsl _ _ rfl) rfl hj hK)) stg_nil))) ?_
  refine ds_pure (fun _ => .p (.agg (TExpr.cs (lat l j)))) rfl rfl rfl (all3 rfl rfl (fun _ => rfl)) (lt2 rfl rfl) (stg_no rfl (stg_no rfl (stg_yes [(20, .ptr 1000000 (0 + j.toNat * 11))] ⟨.inr ⟨6, _, rfl, rfl, rfl⟩, trivial⟩ (fun sl hsl K hK => one_op rfl (op_loadRow eTExpr TExpr.cs l rfl rfl rfl rfl rfl (hsl _ _ rfl) rfl rfl rfl hj TExpr.cells_eq (fun _ => rfl) hK)) stg_nil))) ?_
  refine ds_pure (fun _ => .arr 1000000 11 0 l.length) rfl rfl rfl (all3 rfl rfl (fun _ => rfl)) (lt2 rfl rfl) (stg_no rfl (stg_yes [(0, .arr 1000000 11 0 l.length)] ⟨.inl rfl, trivial⟩ (fun sl hsl K hK => one_op rfl (ok_move rfl rfl rfl (hsl _ _ rfl) hK)) (stg_yes [(0, .arr 1000000 11 0 l.length)] ⟨.inl rfl, trivial⟩ (fun sl hsl K hK => one_op rfl (ok_move rfl rfl rfl (hsl _ _ rfl) hK)) stg_nil))) ?_
  refine ds_pure (fun _ => .p (eI i)) rfl rfl rfl (all3 rfl rfl (fun _ => rfl)) (lt2 rfl rfl) (stg_no rfl (stg_yes [(2, .p (eI i))] ⟨.inl rfl, trivial⟩ (fun sl hsl K hK => one_op rfl (ok_move rfl rfl rfl (hsl _ _ rfl) hK)) (stg_yes [(2, .p (eI i))] ⟨.inl rfl, trivial⟩ (fun sl hsl K hK => one_op rfl (ok_move rfl rfl rfl (hsl _ _ rfl) hK)) stg_nil))) ?_
  refine ds_pure (fun _ => .ptr 1000000 (0 + i.toNat * 11)) rfl rfl rfl (all3 rfl rfl (fun _ => rfl)) (lt2 rfl rfl) (stg_no rfl (stg_yes [(22, .arr 1000000 11 0 l.length), (23, .p (eI i))] ⟨.inr ⟨8, _, rfl, rfl, rfl⟩, .inr ⟨9, _, rfl, rfl, rfl⟩, trivial⟩ (fun sl hsl K hK => one_op rfl (ok_indexAddrA (id := 1000000) (sz := 11) (off := 0) rfl rfl rfl rfl rfl rfl (hsl _ _ rfl) (hsl _ _ rfl) rfl hi hK)) (stg_yes [(22, .arr 1000000 11 0 l.length), (23, .p (eI i))] ⟨.inr ⟨8, _, rfl, rfl, rfl⟩, .inr ⟨9, _, rfl, rfl, rfl⟩, trivial⟩ (fun sl hsl K hK => one_op rfl (ok_indexAddrA (id := 1000000) (sz := 11) (off := 0) rfl rfl rfl rfl rfl rfl (hsl _ _ rfl) (hsl _ _ rfl) rfl hi hK)) stg_nil))) ?_
  refine ds_pure (fun _ => .p (.agg (TExpr.cs (lat l i)))) rfl rfl rfl (all3 rfl rfl (fun _ => rfl)) (lt2 rfl rfl) (stg_no rfl (stg_no rfl (stg_yes [(24, .ptr 1000000 (0 + i.toNat * 11))] ⟨.inr ⟨10, _, rfl, rfl, rfl⟩, trivial⟩ (fun sl hsl K hK => one_op rfl (op_loadRow eTExpr TExpr.cs l rfl rfl rfl rfl rfl (hsl _ _ rfl) rfl rfl rfl hi TExpr.cells_eq (fun _ => rfl) hK)) stg_nil))) ?_
  refine ds_pure (fun _ => .ptr 1000000 (0 + i.toNat * 11)) rfl rfl rfl (all3 rfl rfl (fun _ => rfl)) (lt2 rfl rfl) (stg_no rfl (stg_no rfl (stg_yes [(14, .arr 1000000 11 0 l.length), (15, .p (eI i))] ⟨.inr ⟨0, _, rfl, rfl, rfl⟩, .inr ⟨1, _, rfl, rfl, rfl⟩, trivial⟩ (fun sl hsl K hK => one_op rfl (ok_indexAddrA (id := 1000000) (sz := 11) (off := 0) rfl rfl rfl rfl rfl rfl (hsl _ _ rfl) (hsl _ _ rfl) rfl hi hK)) stg_nil))) ?_
  refine ds_store [(21, .p (.agg (TExpr.cs (lat l j)))), (26, .ptr 1000000 (0 + i.toNat * 11))] rfl ⟨.inr ⟨7, _, rfl, rfl, rfl⟩, .inr ⟨12, _, rfl, rfl, rfl⟩, trivial⟩ rfl (fun sl hsl K hK => one_op rfl (op_storeRow eTExpr TExpr.cs l (lat l j) (n := i) rfl rfl rfl (hsl _ _ rfl) (hsl _ _ rfl) rfl rfl rfl hi TExpr.cells_eq (fun _ => rfl) (fun _ => rfl) hK)) ?_
  refine ds_pure (fun _ => .ptr 1000000 (0 + j.toNat * 11)) rfl rfl rfl (all3 rfl rfl (fun _ => rfl)) (lt2 rfl rfl) (stg_no rfl (stg_yes [(16, .arr 1000000 11 0 l.length), (17, .p (eI j))] ⟨.inr ⟨2, _, rfl, rfl, rfl⟩, .inr ⟨3, _, rfl, rfl, rfl⟩, trivial⟩ (fun sl hsl K hK => one_op rfl (ok_indexAddrA (id := 1000000) (sz := 11) (off := 0) rfl rfl rfl rfl rfl rfl (hsl _ _ rfl) (hsl _ _ rfl) rfl hj hK)) (stg_no rfl stg_nil))) ?_
  refine ds_store [(25, .p (.agg (TExpr.cs (lat l i)))), (27, .ptr 1000000 (0 + j.toNat * 11))] rfl ⟨.inr ⟨11, _, rfl, rfl, rfl⟩, .inr ⟨14, _, rfl, rfl, rfl⟩, trivial⟩ rfl (fun sl hsl K hK => one_op rfl (op_storeRow eTExpr TExpr.cs (l.set i.toNat (lat l j)) (lat l i) (n := j) rfl rfl rfl (hsl _ _ rfl) (hsl _ _ rfl) rfl rfl rfl (by simpa using hj) TExpr.cells_eq (fun _ => rfl) (fun _ => rfl) hK)) ?_
  refine ds_nil ?_
  (repeat (first | refine thenQ_exit ?_ | refine thenQ_ret ?_ | refine exQ_hit ?_ | refine exQ_other rfl ?_ | refine exQ_ret ?_ | refine exQ_normal ?_ | refine blockQ_ret ?_ | refine blockQ_normal ?_ | refine blockQ_exit ?_ | refine blockQ_other rfl ?_ | refine noGoto_ret ?_ | refine noGoto_exit ?_ | refine noGoto_normal ?_))
  refine awp_reg ?_
  refine rwpL_op rfl ?_
  refine ok_move rfl rfl rfl rfl ?_
  refine rwpL_op rfl ?_
  refine ok_ar rfl rfl rfl rfl rfl rfl hi2 ?_
  refine rwpL_op rfl ?_
  refine ok_move rfl rfl rfl rfl ?_
  refine rwpL_op rfl ?_
  refine ok_ar rfl rfl rfl rfl rfl rfl hj2 ?_
  refine rwpL_op rfl ?_
  refine ok_assign rfl rfl rfl rfl ?_
  refine rwpL_op rfl ?_
  refine ok_assign rfl rfl rfl rfl ?_
  refine rwpL_nil ?_
  (repeat (first | refine thenQ_exit ?_ | refine thenQ_ret ?_ | refine exQ_hit ?_ | refine exQ_other rfl ?_ | refine exQ_ret ?_ | refine exQ_normal ?_ | refine blockQ_ret ?_ | refine blockQ_normal ?_ | refine blockQ_exit ?_ | refine blockQ_other rfl ?_ | refine noGoto_ret ?_ | refine noGoto_exit ?_ | refine noGoto_normal ?_))
  exact ⟨(i + 1, j - 1, ((l.set i.toNat (lat l j)).set j.toNat (lat l i))), h0, ghost_le (le_mk ⟨⟨_, rfl, AV.sub_of_eq (by simp)⟩, ⟨_, rfl, AV.sub_refl _⟩, ⟨_, rfl, AV.sub_refl _⟩, trivial⟩ ⟨⟨_, rfl, subL_refl _⟩, trivial⟩)⟩


end Go.Ab.R17
