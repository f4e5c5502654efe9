/- The function Match of package glob, by a walk: what it returns. -/
import Derived.Test.YtknkppbifpgkkaaGlobM
import Derived.Test.YtknkppbifpgkkaaGlobS
set_option linter.unusedVariables false
set_option linter.unusedSimpArgs false
set_option linter.unnecessarySimpa false
namespace Go.Ab.Glob
open Go.Proofs Go.Ab
attribute [local irreducible] awp rwpL OpOk PCalls OCalls AV.sub

theorem ok_makeM {C : Cx} {o : Oper} {K : AS → Prop} {sl : List (Nat × AV)} {ob ob' : List (Nat × List AV)} {d : Nat} {α : Type} (f : α → PV) (b0 : α) {t e : Nat} {x y : Operand} {i ie : TI} {k k' : IntKind} {n : Int} {z : Value} (ho : o.op = .makeSlice t x y) (hd : o.dst = some d) (hn : Nat.blt d C.n = true)
    (hi : look C.tt t = some i) (hik : i.k = .slice e) (hie : look C.tt e = some ie) (hs1 : ie.size = 1) (hz : ie.zero = [z]) (hf : f b0 = .val z) (hx : evo sl x = some (.p (.val (.int k n)))) (hy : evo sl y = some (.p (.val (.int k' n))))
    (hb : 0 ≤ n ∧ n ≤ 9223372036854775807 ∧ (ie.bytes : Int) * n ≤ 281474976710656) (hdo : demOb (fun i => Nat.beq i d) ob = ob')
    (hK : K ⟨(d, .arr d 1 0 n.toNat) :: (demS (fun i => Nat.beq i d) ⟨sl, ob⟩).sl, (d, ((List.replicate n.toNat b0).map f).map .p) :: ob'⟩) : OpOk C o K ⟨sl, ob⟩ :=
  ok_makeO ho hd hn hi hik hie hs1 hz hx hy hb hdo (by rw [List.map_replicate, hf] at hK; exact hK)

theorem mg_len (p s : List UInt8) : ∀ (f i : Nat) (r : List Bool), (mg p s f i r).2.length = r.length := by
  intro f
  induction f with
  | zero => intro i r; rfl
  | succ f ih =>
    intro i r
    simp only [mg]
    split
    · split
      · rw [ih, spr_len]
      · split
        · rw [ih, spr_len]
        · split
          · rw [ih, nxt_len]
          · rw [nxt_len]
    · rfl

theorem mg_more (p s : List UInt8) : ∀ (f g i : Nat) (r : List Bool), p.length ≤ i + f → f ≤ g → mg p s g i r = mg p s f i r := by
  intro f
  induction f with
  | zero =>
    intro g i r h _
    cases g with
    | zero => rfl
    | succ g => simp only [mg]; rw [if_neg (by omega)]
  | succ f ih =>
    intro g i r h hg
    obtain ⟨g, rfl⟩ : ∃ g', g = g' + 1 := ⟨g - 1, by omega⟩
    simp only [mg]
    by_cases hi : i < p.length
    · rw [if_pos hi, if_pos hi]
      rw [ih g (i + 2) _ (by omega) (by omega), ih g (i + 1) _ (by omega) (by omega), ih g (i + 1) _ (by omega) (by omega)]
    · rw [if_neg hi, if_neg hi]

/-- One round. -/
theorem mg_step (p s : List UInt8) (i : Nat) (r : List Bool) (hi : i < p.length) : mg p s p.length i r =
    (if hasP (p.drop i) [42, 42] = true then mg p s p.length (i + 2) (spr s true r s.length)
       else if star p i then mg p s p.length (i + 1) (spr s false r s.length)
       else if som s (p.getD i 0) r s.length = true then mg p s p.length (i + 1) (nxt s (p.getD i 0) r s.length) else (i, nxt s (p.getD i 0) r s.length)) := by
  obtain ⟨f, hf⟩ : ∃ f, p.length = f + 1 := ⟨p.length - 1, by omega⟩
  have h1 := mg_more p s f (f + 1) (i + 2) (spr s true r s.length) (by omega) (by omega)
  have h2 := mg_more p s f (f + 1) (i + 1) (spr s false r s.length)
  have h3 := mg_more p s f (f + 1) (i + 1) (nxt s (p.getD i 0) r s.length)
  by_cases hi0 : i + 1 + f < p.length
  · omega
  · rw [hf] at hi ⊢
    conv => lhs; rw [mg]
    rw [if_pos (by rw [hf]; exact hi), h1, h2 (by omega) (by omega), h3 (by omega) (by omega)]

theorem mg_end (p s : List UInt8) (i : Nat) (r : List Bool) (hi : ¬ i < p.length) : mg p s p.length i r = (i, r) := by
  cases hp : p.length with
  | zero => rfl
  | succ f => rw [mg, if_neg hi]

theorem hasP2_lt (p : List UInt8) (i : Nat) (h : hasP (p.drop i) [42, 42] = true) : i + 2 ≤ p.length := by
  rw [hasP_take] at h
  simp only [Bool.and_eq_true, decide_eq_true_eq, List.length_cons, List.length_nil, List.length_drop] at h
  omega

set_option maxHeartbeats 2000000 in
theorem match_ok (p s : List UInt8) (hp : p.length ≤ 65536) (hs : s.length ≤ 32768) : PCalls Try.prog 13 [vS p, vS s] (· = .p (vB (matchL p s))) := by
  refine pbody good Try.func13 rfl rfl rfl fun w0 => ?_
  have hmd : matchL p s = if check p = 0 then (if (mg p s p.length 0 (ini s)).1 = p.length then (mg p s p.length 0 (ini s)).2.getD s.length false else false) else false := rfl
  generalize hR : mg p s p.length 0 (ini s) = R at hmd
  (repeat' (first | refine ok_callP (check_ok p hp) rfl rfl rfl rfl ⟨AV.sub_refl _, trivial⟩ Try.call9 rfl ?_ | refine ok_makeM vB false rfl rfl rfl rfl rfl rfl rfl rfl rfl rfl rfl (by refine ⟨by omega, by omega, ?_⟩; show (1 : Int) * _ ≤ _; omega) (by repeat (first | exact demOb_nil _ | apply demOb_drop rfl | apply demOb_keep rfl (demL_p _ _) | apply demOb_keep rfl rfl)) ?_ | refine ok_storeM rfl rfl rfl rfl rfl rfl rfl rfl (by rw [List.length_replicate]; omega) ?_ | refine awp_seq ?_ | refine awp_reg ?_ | refine rwpL_op rfl ?_ | refine rwpL_nil ?_ | refine ok_move rfl rfl rfl rfl ?_ | refine ok_assign rfl rfl rfl rfl ?_ | refine ok_cmp rfl rfl rfl rfl rfl rfl ?_ | refine ok_ar rfl rfl rfl rfl rfl rfl (by omega) ?_ | refine ok_lenS rfl rfl rfl rfl rfl rfl ?_ | refine ok_indexSn rfl rfl rfl rfl rfl rfl rfl (by omega) ?_ | refine ok_indexS rfl rfl rfl rfl rfl rfl rfl (by omega) ?_ | refine ok_cmpS rfl rfl rfl rfl rfl rfl ?_ | refine gd_tt rfl rfl rfl (by first | rfl | assumption | exact decide_eq_true (by first | assumption | omega) | exact nd_true (by first | assumption | omega)) ?_ | refine gd_ff rfl rfl rfl (by first | rfl | assumption | exact decide_eq_false (by first | assumption | omega) | exact nd_false (by first | assumption | omega)) ?_ | refine gd_tf rfl rfl rfl (by first | rfl | assumption | exact decide_eq_false (by first | assumption | omega) | exact nd_false (by first | assumption | omega)) rfl rfl ?_ | refine gd_ft rfl rfl rfl (by first | rfl | assumption | exact decide_eq_true (by first | assumption | omega) | exact nd_true (by first | assumption | omega)) rfl rfl ?_ | refine gd_none rfl rfl rfl rfl rfl ?_ | refine ok_pick_true rfl rfl rfl rfl (by first | rfl | assumption | exact decide_eq_true (by first | assumption | omega) | exact nd_true (by first | assumption | omega)) rfl ?_ | refine ok_pick_false rfl rfl rfl rfl (by first | rfl | assumption | exact decide_eq_false (by first | assumption | omega) | exact nd_false (by first | assumption | omega)) rfl ?_ | refine wp_ifT rfl (by first | rfl | assumption | exact decide_eq_true (by first | assumption | omega) | exact nd_true (by first | assumption | omega)) ?_ | refine wp_ifF rfl (by first | rfl | assumption | exact decide_eq_false (by first | assumption | omega) | exact nd_false (by first | assumption | omega)) ?_ | refine ok_not rfl rfl rfl rfl ?_ | refine ok_extract rfl rfl rfl rfl rfl ?_ | refine ok_sliceS rfl rfl rfl rfl rfl rfl rfl rfl (by omega) ?_ | refine ok_lenA rfl rfl rfl rfl rfl rfl ?_ | refine ok_lenM rfl rfl rfl rfl rfl rfl rfl ?_ | refine ok_lenV rfl rfl rfl rfl rfl rfl rfl ?_ | refine ok_indexAddrA1n rfl rfl rfl rfl rfl rfl rfl rfl rfl (by omega) ?_ | refine ok_indexAddrA1 rfl rfl rfl rfl rfl rfl rfl rfl rfl (by omega) ?_ | refine ok_indexAddrMn false rfl rfl rfl rfl rfl rfl rfl rfl rfl (by omega) (fun _ => rfl) ?_ | refine ok_indexAddrMn (0 : Int) rfl rfl rfl rfl rfl rfl rfl rfl rfl (by omega) (fun _ => rfl) ?_ | refine ok_indexAddrMn ([] : List UInt8) rfl rfl rfl rfl rfl rfl rfl rfl rfl (by omega) (fun _ => rfl) ?_ | refine ok_indexAddrM false rfl rfl rfl rfl rfl rfl rfl rfl rfl (by omega) (fun _ => rfl) ?_ | refine ok_indexAddrM (0 : Int) rfl rfl rfl rfl rfl rfl rfl rfl rfl (by omega) (fun _ => rfl) ?_ | refine ok_indexAddrM ([] : List UInt8) rfl rfl rfl rfl rfl rfl rfl rfl rfl (by omega) (fun _ => rfl) ?_ | refine ok_loadR1 rfl rfl rfl rfl rfl rfl rfl ?_ | refine ok_loadRA rfl rfl rfl rfl rfl rfl rfl ?_ | refine ok_loadM (0 : Int) rfl rfl rfl rfl rfl rfl rfl (by omega) ?_ | refine ok_loadM false rfl rfl rfl rfl rfl rfl rfl (by omega) ?_ | refine ok_storeM rfl rfl rfl rfl rfl rfl rfl rfl (by omega) ?_ | refine ok_fieldAddrR rfl rfl rfl rfl rfl rfl rfl rfl rfl ?_ | refine ok_fieldAddrP rfl rfl rfl rfl rfl rfl rfl rfl rfl ?_ | refine ok_buildSlice rfl rfl rfl rfl rfl rfl rfl rfl rfl rfl rfl rfl rfl ?_ | refine ok_max rfl rfl rfl rfl rfl ?_ | refine awp_scope ?_ | refine awp_label ?_ | refine thenQ_ret ?_ | refine thenQ_exit ?_ | refine blockQ_ret ?_ | refine blockQ_normal ?_ | refine blockQ_exit ?_ | refine blockQ_other rfl ?_ | refine noGoto_ret ?_ | refine noGoto_exit ?_ | refine noGoto_normal ?_ | refine awp_skip ?_ | refine awp_block ?_ | refine awp_ret ?_ | refine awp_exit ?_ | refine ok_concat rfl rfl rfl rfl rfl (by simp only [List.length_append, List.length_cons, List.length_nil] <;> omega) ?_ | refine gd_D rfl rfl rfl (fun h => ?_) (fun h => ?_) | refine gd_N rfl rfl rfl (fun h => ?_) (fun h => ?_) | refine gd_B rfl rfl rfl (fun h => ?_) (fun h => ?_) | refine wp_ifD rfl (fun h => ?_) (fun h => ?_) | refine wp_ifN rfl (fun h => ?_) (fun h => ?_) | refine wp_if rfl (fun h => ?_) (fun h => ?_)))
  · refine ret_mk rfl ?_; refine sub_bool ?_
    rw [hmd, if_neg (by assumption)]
  rw [if_pos (by assumption)] at hmd
  refine awp_loop (σ := Nat × Nat × List Bool) (fun q => ⟨[(0, .p (.val (.string (str p)))), (1, .p (.val (.string (str s)))), (5, .arr q.1 1 0 q.2.2.length), (6, .p (.val (.int .i64 (q.2.1 : Int))))], [(q.1, (q.2.2.map vB).map .p)]⟩)
    (fun q => (q.1 = 15 ∨ q.1 = 5000 ∨ q.1 = 6000) ∧ q.2.1 ≤ p.length ∧ q.2.2.length = s.length + 1 ∧ mg p s p.length q.2.1 q.2.2 = R) (fun q => p.length - q.2.1) (15, 0, ini s) ⟨.inl rfl, Nat.zero_le _, by simp [ini], hR⟩ ?_ ?_
  · refine le_mk ⟨⟨_, rfl, AV.sub_refl _⟩, ⟨_, rfl, AV.sub_refl _⟩, ⟨_, rfl, AV.sub_of_eq ?_⟩, ⟨_, rfl, AV.sub_refl _⟩, trivial⟩ ⟨⟨_, rfl, subL_of_eq ?_⟩, trivial⟩
    · simp [ini]
    · simp [ini]
  rintro ⟨id, i, r⟩ ⟨hid, hi, hr, hm⟩
  dsimp only at hid hi hr hm ⊢
  have hst := mg_step p s i r
  have hen := mg_end p s i r
  have hlt2 := hasP2_lt p i
  have hl1 : ∀ dots, (spr s dots r s.length).length = s.length + 1 := fun dots => (spr_len _ _ _ _).trans hr
  have hl2 : ∀ c, (nxt s c r s.length).length = s.length + 1 := fun c => (nxt_len _ _ _ _).trans hr
  have hpre := hp_ok (p.drop i) [42, 42] (by simp; omega) (by simp)
  by_cases hip : i < p.length
  · have hst := hst hip
    clear hen
    rcases hid with rfl | rfl | rfl
    all_goals
      (repeat' (first | refine ok_callP hpre rfl rfl rfl rfl ⟨sub_str (by simp), AV.sub_refl _, trivial⟩ Try.call23 rfl ?_ | refine ok_callOP [15] 5000 5010 (spread_ok s true r (by omega) hr) rfl rfl rfl rfl rfl ⟨AV.sub_refl _, AV.sub_refl _, AV.sub_refl _, trivial⟩ rfl (mapO_cons rfl (mapA_go_p _) rfl) ⟨⟨_, rfl, subL_refl _⟩, trivial⟩ rfl rfl rfl rfl rfl Try.call24 rfl (mapO_cons rfl (mapA_go_p _) rfl) ?_ | refine ok_callOP [15] 5000 5010 (spread_ok s false r (by omega) hr) rfl rfl rfl rfl rfl ⟨AV.sub_refl _, AV.sub_refl _, AV.sub_refl _, trivial⟩ rfl (mapO_cons rfl (mapA_go_p _) rfl) ⟨⟨_, rfl, subL_refl _⟩, trivial⟩ rfl rfl rfl rfl rfl Try.call24 rfl (mapO_cons rfl (mapA_go_p _) rfl) ?_ | refine ok_callOP [15] 5000 5010 (step_ok s (p.getD i 0) r (by omega) hr) rfl rfl rfl rfl rfl ⟨AV.sub_refl _, AV.sub_refl _, AV.sub_refl _, trivial⟩ rfl (mapO_cons rfl (mapA_go_p _) rfl) ⟨⟨_, rfl, subL_refl _⟩, trivial⟩ rfl rfl rfl rfl rfl Try.call25 rfl (mapO_cons rfl (mapA_go_p _) (mapO_cons rfl (mapA_go_p _) rfl)) ?_ | refine ok_callOP [5000] 6000 6010 (spread_ok s true r (by omega) hr) rfl rfl rfl rfl rfl ⟨AV.sub_refl _, AV.sub_refl _, AV.sub_refl _, trivial⟩ rfl (mapO_cons rfl (mapA_go_p _) rfl) ⟨⟨_, rfl, subL_refl _⟩, trivial⟩ rfl rfl rfl rfl rfl Try.call24 rfl (mapO_cons rfl (mapA_go_p _) rfl) ?_ | refine ok_callOP [5000] 6000 6010 (spread_ok s false r (by omega) hr) rfl rfl rfl rfl rfl ⟨AV.sub_refl _, AV.sub_refl _, AV.sub_refl _, trivial⟩ rfl (mapO_cons rfl (mapA_go_p _) rfl) ⟨⟨_, rfl, subL_refl _⟩, trivial⟩ rfl rfl rfl rfl rfl Try.call24 rfl (mapO_cons rfl (mapA_go_p _) rfl) ?_ | refine ok_callOP [5000] 6000 6010 (step_ok s (p.getD i 0) r (by omega) hr) rfl rfl rfl rfl rfl ⟨AV.sub_refl _, AV.sub_refl _, AV.sub_refl _, trivial⟩ rfl (mapO_cons rfl (mapA_go_p _) rfl) ⟨⟨_, rfl, subL_refl _⟩, trivial⟩ rfl rfl rfl rfl rfl Try.call25 rfl (mapO_cons rfl (mapA_go_p _) (mapO_cons rfl (mapA_go_p _) rfl)) ?_ | refine ok_callOP [6000] 5000 5010 (spread_ok s true r (by omega) hr) rfl rfl rfl rfl rfl ⟨AV.sub_refl _, AV.sub_refl _, AV.sub_refl _, trivial⟩ rfl (mapO_cons rfl (mapA_go_p _) rfl) ⟨⟨_, rfl, subL_refl _⟩, trivial⟩ rfl rfl rfl rfl rfl Try.call24 rfl (mapO_cons rfl (mapA_go_p _) rfl) ?_ | refine ok_callOP [6000] 5000 5010 (spread_ok s false r (by omega) hr) rfl rfl rfl rfl rfl ⟨AV.sub_refl _, AV.sub_refl _, AV.sub_refl _, trivial⟩ rfl (mapO_cons rfl (mapA_go_p _) rfl) ⟨⟨_, rfl, subL_refl _⟩, trivial⟩ rfl rfl rfl rfl rfl Try.call24 rfl (mapO_cons rfl (mapA_go_p _) rfl) ?_ | refine ok_callOP [6000] 5000 5010 (step_ok s (p.getD i 0) r (by omega) hr) rfl rfl rfl rfl rfl ⟨AV.sub_refl _, AV.sub_refl _, AV.sub_refl _, trivial⟩ rfl (mapO_cons rfl (mapA_go_p _) rfl) ⟨⟨_, rfl, subL_refl _⟩, trivial⟩ rfl rfl rfl rfl rfl Try.call25 rfl (mapO_cons rfl (mapA_go_p _) (mapO_cons rfl (mapA_go_p _) rfl)) ?_ | refine awp_seq ?_ | refine awp_reg ?_ | refine rwpL_op rfl ?_ | refine rwpL_nil ?_ | refine ok_move rfl rfl rfl rfl ?_ | refine ok_assign rfl rfl rfl rfl ?_ | refine ok_cmp rfl rfl rfl rfl rfl rfl ?_ | refine ok_ar rfl rfl rfl rfl rfl rfl (by omega) ?_ | refine ok_lenS rfl rfl rfl rfl rfl rfl ?_ | refine ok_indexSn rfl rfl rfl rfl rfl rfl rfl (by omega) ?_ | refine ok_indexS rfl rfl rfl rfl rfl rfl rfl (by omega) ?_ | refine ok_cmpS rfl rfl rfl rfl rfl rfl ?_ | refine gd_tt rfl rfl rfl (by first | rfl | assumption | exact decide_eq_true (by first | assumption | omega) | exact nd_true (by first | assumption | omega)) ?_ | refine gd_ff rfl rfl rfl (by first | rfl | assumption | exact decide_eq_false (by first | assumption | omega) | exact nd_false (by first | assumption | omega)) ?_ | refine gd_tf rfl rfl rfl (by first | rfl | assumption | exact decide_eq_false (by first | assumption | omega) | exact nd_false (by first | assumption | omega)) rfl rfl ?_ | refine gd_ft rfl rfl rfl (by first | rfl | assumption | exact decide_eq_true (by first | assumption | omega) | exact nd_true (by first | assumption | omega)) rfl rfl ?_ | refine gd_none rfl rfl rfl rfl rfl ?_ | refine ok_pick_true rfl rfl rfl rfl (by first | rfl | assumption | exact decide_eq_true (by first | assumption | omega) | exact nd_true (by first | assumption | omega)) rfl ?_ | refine ok_pick_false rfl rfl rfl rfl (by first | rfl | assumption | exact decide_eq_false (by first | assumption | omega) | exact nd_false (by first | assumption | omega)) rfl ?_ | refine wp_ifT rfl (by first | rfl | assumption | exact decide_eq_true (by first | assumption | omega) | exact nd_true (by first | assumption | omega)) ?_ | refine wp_ifF rfl (by first | rfl | assumption | exact decide_eq_false (by first | assumption | omega) | exact nd_false (by first | assumption | omega)) ?_ | refine ok_not rfl rfl rfl rfl ?_ | refine ok_extract rfl rfl rfl rfl rfl ?_ | refine ok_sliceS rfl rfl rfl rfl rfl rfl rfl rfl (by omega) ?_ | refine ok_lenA rfl rfl rfl rfl rfl rfl ?_ | refine ok_lenM rfl rfl rfl rfl rfl rfl rfl ?_ | refine ok_lenV rfl rfl rfl rfl rfl rfl rfl ?_ | refine ok_indexAddrA1n rfl rfl rfl rfl rfl rfl rfl rfl rfl (by omega) ?_ | refine ok_indexAddrA1 rfl rfl rfl rfl rfl rfl rfl rfl rfl (by omega) ?_ | refine ok_indexAddrMn false rfl rfl rfl rfl rfl rfl rfl rfl rfl (by omega) (fun _ => rfl) ?_ | refine ok_indexAddrMn (0 : Int) rfl rfl rfl rfl rfl rfl rfl rfl rfl (by omega) (fun _ => rfl) ?_ | refine ok_indexAddrMn ([] : List UInt8) rfl rfl rfl rfl rfl rfl rfl rfl rfl (by omega) (fun _ => rfl) ?_ | refine ok_indexAddrM false rfl rfl rfl rfl rfl rfl rfl rfl rfl (by omega) (fun _ => rfl) ?_ | refine ok_indexAddrM (0 : Int) rfl rfl rfl rfl rfl rfl rfl rfl rfl (by omega) (fun _ => rfl) ?_ | refine ok_indexAddrM ([] : List UInt8) rfl rfl rfl rfl rfl rfl rfl rfl rfl (by omega) (fun _ => rfl) ?_ | refine ok_loadR1 rfl rfl rfl rfl rfl rfl rfl ?_ | refine ok_loadRA rfl rfl rfl rfl rfl rfl rfl ?_ | refine ok_loadM (0 : Int) rfl rfl rfl rfl rfl rfl rfl (by omega) ?_ | refine ok_loadM false rfl rfl rfl rfl rfl rfl rfl (by omega) ?_ | refine ok_storeM rfl rfl rfl rfl rfl rfl rfl rfl (by omega) ?_ | refine ok_fieldAddrR rfl rfl rfl rfl rfl rfl rfl rfl rfl ?_ | refine ok_fieldAddrP rfl rfl rfl rfl rfl rfl rfl rfl rfl ?_ | refine ok_buildSlice rfl rfl rfl rfl rfl rfl rfl rfl rfl rfl rfl rfl rfl ?_ | refine ok_max rfl rfl rfl rfl rfl ?_ | refine awp_scope ?_ | refine awp_label ?_ | refine thenQ_ret ?_ | refine thenQ_exit ?_ | refine blockQ_ret ?_ | refine blockQ_normal ?_ | refine blockQ_exit ?_ | refine blockQ_other rfl ?_ | refine noGoto_ret ?_ | refine noGoto_exit ?_ | refine noGoto_normal ?_ | refine awp_skip ?_ | refine awp_block ?_ | refine awp_ret ?_ | refine awp_exit ?_ | refine ok_concat rfl rfl rfl rfl rfl (by simp only [List.length_append, List.length_cons, List.length_nil] <;> omega) ?_ | refine gd_D rfl rfl rfl (fun h => ?_) (fun h => ?_) | refine gd_N rfl rfl rfl (fun h => ?_) (fun h => ?_) | refine gd_B rfl rfl rfl (fun h => ?_) (fun h => ?_) | refine wp_ifD rfl (fun h => ?_) (fun h => ?_) | refine wp_ifN rfl (fun h => ?_) (fun h => ?_) | refine wp_if rfl (fun h => ?_) (fun h => ?_)))
    · refine loop_next (k := (15, i, r)) (15, i + 2, spr s true r s.length) ?_ ?_ (le_mk ?_ ?_)
      · have h2 := hlt2 (by assumption)
        rw [if_pos (by assumption)] at hst; exact ⟨.inl rfl, h2, hl1 _, hst.symm.trans hm⟩
      · dsimp only; omega
      · refine ⟨⟨_, rfl, AV.sub_refl _⟩, ⟨_, rfl, AV.sub_refl _⟩, ⟨_, rfl, AV.sub_of_eq ?_⟩, ⟨_, rfl, sub_int ?_⟩, trivial⟩
        · dsimp only; rw [hl1, hr] <;> rfl
        · dsimp only; omega
      · exact ⟨⟨_, rfl, subL_refl _⟩, trivial⟩
    · refine loop_next (k := (15, i, r)) (15, i + 1, spr s false r s.length) ?_ ?_ (le_mk ?_ ?_)
      · rename_i hf
        rw [if_neg (by rw [hf]; exact Bool.false_ne_true), if_pos (show star p i from h)] at hst; exact ⟨.inl rfl, hip, hl1 _, hst.symm.trans hm⟩
      · dsimp only; omega
      · refine ⟨⟨_, rfl, AV.sub_refl _⟩, ⟨_, rfl, AV.sub_refl _⟩, ⟨_, rfl, AV.sub_of_eq ?_⟩, ⟨_, rfl, sub_int ?_⟩, trivial⟩
        · dsimp only; rw [hl1, hr] <;> rfl
        · dsimp only; omega
      · exact ⟨⟨_, rfl, subL_refl _⟩, trivial⟩
    · refine ret_mk rfl ?_; refine sub_bool ?_
      rename_i hf hs
      rw [if_neg (by rw [hf]; exact Bool.false_ne_true), if_neg (show ¬ star p i from hs), if_neg (by intro h9; rw [h9] at h; exact Bool.false_ne_true h)] at hst
      rw [hmd, if_neg (by rw [← hm, hst]; dsimp only; omega)]
    · refine loop_next (k := (15, i, r)) (5000, i + 1, nxt s (p.getD i 0) r s.length) ?_ ?_ (le_mk ?_ ?_)
      · rename_i hf hs
        rw [if_neg (by rw [hf]; exact Bool.false_ne_true), if_neg (show ¬ star p i from hs), if_pos (by revert h; cases som s (p.getD i 0) r s.length <;> simp)] at hst; exact ⟨.inr (.inl rfl), hip, hl2 _, hst.symm.trans hm⟩
      · dsimp only; omega
      · refine ⟨⟨_, rfl, AV.sub_refl _⟩, ⟨_, rfl, AV.sub_refl _⟩, ⟨_, rfl, AV.sub_of_eq ?_⟩, ⟨_, rfl, sub_int ?_⟩, trivial⟩
        · dsimp only; rw [hl2, hr] <;> rfl
        · dsimp only; omega
      · exact ⟨⟨_, rfl, subL_refl _⟩, trivial⟩
    · refine loop_next (k := (5000, i, r)) (5000, i + 2, spr s true r s.length) ?_ ?_ (le_mk ?_ ?_)
      · have h2 := hlt2 (by assumption)
        rw [if_pos (by assumption)] at hst; exact ⟨.inr (.inl rfl), h2, hl1 _, hst.symm.trans hm⟩
      · dsimp only; omega
      · refine ⟨⟨_, rfl, AV.sub_refl _⟩, ⟨_, rfl, AV.sub_refl _⟩, ⟨_, rfl, AV.sub_of_eq ?_⟩, ⟨_, rfl, sub_int ?_⟩, trivial⟩
        · dsimp only; rw [hl1, hr] <;> rfl
        · dsimp only; omega
      · exact ⟨⟨_, rfl, subL_refl _⟩, trivial⟩
    · refine loop_next (k := (5000, i, r)) (5000, i + 1, spr s false r s.length) ?_ ?_ (le_mk ?_ ?_)
      · rename_i hf
        rw [if_neg (by rw [hf]; exact Bool.false_ne_true), if_pos (show star p i from h)] at hst; exact ⟨.inr (.inl rfl), hip, hl1 _, hst.symm.trans hm⟩
      · dsimp only; omega
      · refine ⟨⟨_, rfl, AV.sub_refl _⟩, ⟨_, rfl, AV.sub_refl _⟩, ⟨_, rfl, AV.sub_of_eq ?_⟩, ⟨_, rfl, sub_int ?_⟩, trivial⟩
        · dsimp only; rw [hl1, hr] <;> rfl
        · dsimp only; omega
      · exact ⟨⟨_, rfl, subL_refl _⟩, trivial⟩
    · refine ret_mk rfl ?_; refine sub_bool ?_
      rename_i hf hs
      rw [if_neg (by rw [hf]; exact Bool.false_ne_true), if_neg (show ¬ star p i from hs), if_neg (by intro h9; rw [h9] at h; exact Bool.false_ne_true h)] at hst
      rw [hmd, if_neg (by rw [← hm, hst]; dsimp only; omega)]
    · refine loop_next (k := (5000, i, r)) (6000, i + 1, nxt s (p.getD i 0) r s.length) ?_ ?_ (le_mk ?_ ?_)
      · rename_i hf hs
        rw [if_neg (by rw [hf]; exact Bool.false_ne_true), if_neg (show ¬ star p i from hs), if_pos (by revert h; cases som s (p.getD i 0) r s.length <;> simp)] at hst; exact ⟨.inr (.inr rfl), hip, hl2 _, hst.symm.trans hm⟩
      · dsimp only; omega
      · refine ⟨⟨_, rfl, AV.sub_refl _⟩, ⟨_, rfl, AV.sub_refl _⟩, ⟨_, rfl, AV.sub_of_eq ?_⟩, ⟨_, rfl, sub_int ?_⟩, trivial⟩
        · dsimp only; rw [hl2, hr] <;> rfl
        · dsimp only; omega
      · exact ⟨⟨_, rfl, subL_refl _⟩, trivial⟩
    · refine loop_next (k := (6000, i, r)) (6000, i + 2, spr s true r s.length) ?_ ?_ (le_mk ?_ ?_)
      · have h2 := hlt2 (by assumption)
        rw [if_pos (by assumption)] at hst; exact ⟨.inr (.inr rfl), h2, hl1 _, hst.symm.trans hm⟩
      · dsimp only; omega
      · refine ⟨⟨_, rfl, AV.sub_refl _⟩, ⟨_, rfl, AV.sub_refl _⟩, ⟨_, rfl, AV.sub_of_eq ?_⟩, ⟨_, rfl, sub_int ?_⟩, trivial⟩
        · dsimp only; rw [hl1, hr] <;> rfl
        · dsimp only; omega
      · exact ⟨⟨_, rfl, subL_refl _⟩, trivial⟩
    · refine loop_next (k := (6000, i, r)) (6000, i + 1, spr s false r s.length) ?_ ?_ (le_mk ?_ ?_)
      · rename_i hf
        rw [if_neg (by rw [hf]; exact Bool.false_ne_true), if_pos (show star p i from h)] at hst; exact ⟨.inr (.inr rfl), hip, hl1 _, hst.symm.trans hm⟩
      · dsimp only; omega
      · refine ⟨⟨_, rfl, AV.sub_refl _⟩, ⟨_, rfl, AV.sub_refl _⟩, ⟨_, rfl, AV.sub_of_eq ?_⟩, ⟨_, rfl, sub_int ?_⟩, trivial⟩
        · dsimp only; rw [hl1, hr] <;> rfl
        · dsimp only; omega
      · exact ⟨⟨_, rfl, subL_refl _⟩, trivial⟩
    · refine ret_mk rfl ?_; refine sub_bool ?_
      rename_i hf hs
      rw [if_neg (by rw [hf]; exact Bool.false_ne_true), if_neg (show ¬ star p i from hs), if_neg (by intro h9; rw [h9] at h; exact Bool.false_ne_true h)] at hst
      rw [hmd, if_neg (by rw [← hm, hst]; dsimp only; omega)]
    · refine loop_next (k := (6000, i, r)) (5000, i + 1, nxt s (p.getD i 0) r s.length) ?_ ?_ (le_mk ?_ ?_)
      · rename_i hf hs
        rw [if_neg (by rw [hf]; exact Bool.false_ne_true), if_neg (show ¬ star p i from hs), if_pos (by revert h; cases som s (p.getD i 0) r s.length <;> simp)] at hst; exact ⟨.inr (.inl rfl), hip, hl2 _, hst.symm.trans hm⟩
      · dsimp only; omega
      · refine ⟨⟨_, rfl, AV.sub_refl _⟩, ⟨_, rfl, AV.sub_refl _⟩, ⟨_, rfl, AV.sub_of_eq ?_⟩, ⟨_, rfl, sub_int ?_⟩, trivial⟩
        · dsimp only; rw [hl2, hr] <;> rfl
        · dsimp only; omega
      · exact ⟨⟨_, rfl, subL_refl _⟩, trivial⟩
  · have hen := hen hip
    have hR1 : R = (i, r) := hm.symm.trans hen
    rcases hid with rfl | rfl | rfl
    all_goals
      (repeat' (first | refine awp_seq ?_ | refine awp_reg ?_ | refine rwpL_op rfl ?_ | refine rwpL_nil ?_ | refine ok_move rfl rfl rfl rfl ?_ | refine ok_assign rfl rfl rfl rfl ?_ | refine ok_cmp rfl rfl rfl rfl rfl rfl ?_ | refine ok_ar rfl rfl rfl rfl rfl rfl (by omega) ?_ | refine ok_lenS rfl rfl rfl rfl rfl rfl ?_ | refine ok_indexSn rfl rfl rfl rfl rfl rfl rfl (by omega) ?_ | refine ok_indexS rfl rfl rfl rfl rfl rfl rfl (by omega) ?_ | refine ok_cmpS rfl rfl rfl rfl rfl rfl ?_ | refine gd_tt rfl rfl rfl (by first | rfl | assumption | exact decide_eq_true (by first | assumption | omega) | exact nd_true (by first | assumption | omega)) ?_ | refine gd_ff rfl rfl rfl (by first | rfl | assumption | exact decide_eq_false (by first | assumption | omega) | exact nd_false (by first | assumption | omega)) ?_ | refine gd_tf rfl rfl rfl (by first | rfl | assumption | exact decide_eq_false (by first | assumption | omega) | exact nd_false (by first | assumption | omega)) rfl rfl ?_ | refine gd_ft rfl rfl rfl (by first | rfl | assumption | exact decide_eq_true (by first | assumption | omega) | exact nd_true (by first | assumption | omega)) rfl rfl ?_ | refine gd_none rfl rfl rfl rfl rfl ?_ | refine ok_pick_true rfl rfl rfl rfl (by first | rfl | assumption | exact decide_eq_true (by first | assumption | omega) | exact nd_true (by first | assumption | omega)) rfl ?_ | refine ok_pick_false rfl rfl rfl rfl (by first | rfl | assumption | exact decide_eq_false (by first | assumption | omega) | exact nd_false (by first | assumption | omega)) rfl ?_ | refine wp_ifT rfl (by first | rfl | assumption | exact decide_eq_true (by first | assumption | omega) | exact nd_true (by first | assumption | omega)) ?_ | refine wp_ifF rfl (by first | rfl | assumption | exact decide_eq_false (by first | assumption | omega) | exact nd_false (by first | assumption | omega)) ?_ | refine ok_not rfl rfl rfl rfl ?_ | refine ok_extract rfl rfl rfl rfl rfl ?_ | refine ok_sliceS rfl rfl rfl rfl rfl rfl rfl rfl (by omega) ?_ | refine ok_lenA rfl rfl rfl rfl rfl rfl ?_ | refine ok_lenM rfl rfl rfl rfl rfl rfl rfl ?_ | refine ok_lenV rfl rfl rfl rfl rfl rfl rfl ?_ | refine ok_indexAddrA1n rfl rfl rfl rfl rfl rfl rfl rfl rfl (by omega) ?_ | refine ok_indexAddrA1 rfl rfl rfl rfl rfl rfl rfl rfl rfl (by omega) ?_ | refine ok_indexAddrMn false rfl rfl rfl rfl rfl rfl rfl rfl rfl (by omega) (fun _ => rfl) ?_ | refine ok_indexAddrMn (0 : Int) rfl rfl rfl rfl rfl rfl rfl rfl rfl (by omega) (fun _ => rfl) ?_ | refine ok_indexAddrMn ([] : List UInt8) rfl rfl rfl rfl rfl rfl rfl rfl rfl (by omega) (fun _ => rfl) ?_ | refine ok_indexAddrM false rfl rfl rfl rfl rfl rfl rfl rfl rfl (by omega) (fun _ => rfl) ?_ | refine ok_indexAddrM (0 : Int) rfl rfl rfl rfl rfl rfl rfl rfl rfl (by omega) (fun _ => rfl) ?_ | refine ok_indexAddrM ([] : List UInt8) rfl rfl rfl rfl rfl rfl rfl rfl rfl (by omega) (fun _ => rfl) ?_ | refine ok_loadR1 rfl rfl rfl rfl rfl rfl rfl ?_ | refine ok_loadRA rfl rfl rfl rfl rfl rfl rfl ?_ | refine ok_loadM (0 : Int) rfl rfl rfl rfl rfl rfl rfl (by omega) ?_ | refine ok_loadM false rfl rfl rfl rfl rfl rfl rfl (by omega) ?_ | refine ok_storeM rfl rfl rfl rfl rfl rfl rfl rfl (by omega) ?_ | refine ok_fieldAddrR rfl rfl rfl rfl rfl rfl rfl rfl rfl ?_ | refine ok_fieldAddrP rfl rfl rfl rfl rfl rfl rfl rfl rfl ?_ | refine ok_buildSlice rfl rfl rfl rfl rfl rfl rfl rfl rfl rfl rfl rfl rfl ?_ | refine ok_max rfl rfl rfl rfl rfl ?_ | refine awp_scope ?_ | refine awp_label ?_ | refine thenQ_ret ?_ | refine thenQ_exit ?_ | refine blockQ_ret ?_ | refine blockQ_normal ?_ | refine blockQ_exit ?_ | refine blockQ_other rfl ?_ | refine noGoto_ret ?_ | refine noGoto_exit ?_ | refine noGoto_normal ?_ | refine awp_skip ?_ | refine awp_block ?_ | refine awp_ret ?_ | refine awp_exit ?_ | refine ok_concat rfl rfl rfl rfl rfl (by simp only [List.length_append, List.length_cons, List.length_nil] <;> omega) ?_ | refine gd_D rfl rfl rfl (fun h => ?_) (fun h => ?_) | refine gd_N rfl rfl rfl (fun h => ?_) (fun h => ?_) | refine gd_B rfl rfl rfl (fun h => ?_) (fun h => ?_) | refine wp_ifD rfl (fun h => ?_) (fun h => ?_) | refine wp_ifN rfl (fun h => ?_) (fun h => ?_) | refine wp_if rfl (fun h => ?_) (fun h => ?_)))
    all_goals
      refine ret_mk rfl ?_; refine sub_bool ?_
      rw [hmd, hR1]; dsimp only; rw [if_pos (by omega)]

end Go.Ab.Glob
