/- Texts of the proof, one behind the other. No statement is proved here. -/
import Derived.Test.YtgdcfenbmcflkaaGreatDoorZ42Aa
import Derived.Test.YtgdcfenbmcflkaaGreatDoorZ42Ab
import Derived.Test.YtgdcfenbmcflkaaGreatDoorZ42Ac
import Derived.Test.YtgdcfenbmcflkaaGreatDoorZ42Ad
section
set_option linter.unusedVariables false
set_option linter.unusedSimpArgs false
set_option linter.unnecessarySimpa false
namespace Go.Ab.R06
open Go.Proofs Go.Ab Go.Ab.RB
attribute [local irreducible] awp d9 aU aF bO AV.sub M dU
def cT (targets_0 : List Bytes) : Nat → Int → Option (Unit ⊕ Int)
 | 0, _ => none
 | m + 1, t8 =>
 if t8 < (targets_0.length : Int) then
  ck ((0 : Int) ≤ t8 ∧ t8 < (targets_0.length : Int)) <|
  ck ((lat targets_0 t8).length ≤ 65536) <|
  if Glob.check (lat targets_0 t8) = 0 then
   ck (inR (t8 + 1)) <|
   cT targets_0 m (t8 + 1)
  else
   some (.inr (Glob.check (lat targets_0 t8)))
 else
  some (.inl ())
def eP (n : Nat) (targets_0 : List Bytes) : Option Int :=
 if 64 < (targets_0.length : Int) then
  some 14
 else
  jn (cT targets_0 n 0) fun q15 =>
  some 0
set_option maxHeartbeats 4000000 in
theorem l6 (n : Nat) (targets_0 : List Bytes) (r : Int) (h0 : eP n targets_0 = some r) : aF Tryz.prog 11 [eL eS targets_0] (· = .p (eI r)) := by
 unfold eP at h0
 refine bG good Tryz.func11 rfl rfl rfl fun w0 => mP (fun v : Int => .p (eI v)) ?_
 refine nx 8 rfl (oLl (f := eS) rfl rfl ?_)
 refine nx 2 rfl (fD [8] h0 rfl (fun c1 h0 => ?_) fun c1 h0 => ?_)
 ·exact nx 6 rfl (mQ (oi h0) rfl (sr))
 refine nx 6 rfl (oLl (f := eS) rfl rfl ?_)
 refine nx 3 rfl ?_
 obtain ⟨o16, h1, hL0, hR0⟩ := eH h0
 refine kEx 0 (fun v17 : Unit => o16 = .inl v17) (fun v17 => ⟨[], []⟩) (fun v17 hv => ?_) ?_
 ·have h0 := hL0 _ hv
  exact nx 6 rfl (mQ (oi h0) rfl (sr))
 refine lG (fun (q18 : Int) => ⟨[(9, .p (eL eS targets_0)), (10, .p (eI (targets_0.length : Int))), (11, .p (eI q18))], []⟩) (fun m (q18 : Int) => cT targets_0 m q18) (fun _ => rfl) 0 h1 (gE rfl rfl) ?_
 rintro m t8 h1
 replace h1 : cT targets_0 (m + 1) t8 = some o16 := h1
 rw [cT] at h1
 refine nx 5 rfl (fD [12] h1 rfl (fun c9 h1 => ?_) fun c9 h1 => ?_)
 ·refine nx 6 rfl (oE h1 (fun _ => rfl) rfl rfl (fun _ => rfl) fun hk10 h1 => ?_)
  refine nx 6 rfl (cc' h1 fun hk11 h1 => ?_)
  refine oK (Glob.check_ok (lat targets_0 t8) hk11) rfl ⟨sr, trivial⟩ Tryz.call28 rfl (nx 7 rfl ?_)
  refine fN [18] h1 rfl (fun c12 h1 => ?_) fun c12 h1 => ?_
  ·refine nx 3 rfl (oA h1 rfl rfl fun hk13 h1 => ?_)
   exact nx 2 rfl (eX (t8 + 1) h1 (gE rfl rfl))
  exact nx 7 rfl (mQ (hR0 _ (oi h1).symm) rfl (sr))
 exact nx 2 rfl (eXi _ (oi h1).symm (gE rfl rfl))
def dj (n : Nat) (targets_0 : List Bytes) (addr_1 : Bytes) : Option Bool :=
 (
   if (targets_0.length : Int) = 0 then
    some true
   else
    (iM n targets_0 addr_1).bind fun r2 =>
    some r2
  : Option Bool).bind fun t4 =>
 if t4 = true then
  some true
 else
  (d7 n addr_1).bind fun r6 =>
  (
    if r6.2 = 0 then
     (iM n targets_0 r6.1).bind fun r9 =>
     some r9
    else
     some false
   : Option Bool).bind fun t11 =>
  some t11
set_option maxHeartbeats 4000000 in
theorem iw (n : Nat) (targets_0 : List Bytes) (addr_1 : Bytes) (r : Bool) (h0 : dj n targets_0 addr_1 = some r) : aF Tryz.prog 15 [eL eS targets_0, eS addr_1] (· = .p (eB r)) := by
 unfold dj at h0
 refine bG good Tryz.func15 rfl rfl rfl fun w0 => mP (fun v : Bool => .p (eB v)) ?_
 refine nx 6 rfl (bd h0 fun o14 h1 h0 => ?_)
 refine kN o14 (fun v15 => ⟨[(0, .p (eL eS targets_0)), (1, .p (eS addr_1)), (14, .p (eB v15))], []⟩) ?_ ?_
 ·refine nx 1 rfl (fB [14] h0 rfl (fun c5 h0 => ?_) fun c5 h0 => ?_)
  ·exact nx 6 rfl (mQ (oi h0) rfl (sr))
  refine nx 5 rfl (bd h0 fun r6 e7 h0 => ?_)
  refine oK (kJ _ addr_1 _ e7) rfl ⟨sr, trivial⟩ Tryz.call32 rfl (nx 7 rfl ?_)
  refine bd h0 fun o16 h1 h0 => kN o16 (fun v17 => ⟨[(4, .p (eB v17))], []⟩) ?_ ?_
  ·exact nx 2 rfl (mQ (oi h0) rfl (sr))
  refine nx 4 rfl (fD [21, 22] h1 rfl (fun c8 h1 => ?_) fun c8 h1 => ?_)
  ·refine nx 2 rfl (bd h1 fun r9 e10 h1 => ?_)
   refine oK (qd _ targets_0 r6.1 _ e10) rfl ⟨sr, sr, trivial⟩ Tryz.call31 rfl (nx 3 rfl ?_)
   exact eX _ (oi h1).symm (gE rfl rfl)
  exact nx 6 rfl (eX _ (oi h1).symm (gE rfl rfl))
 refine nx 2 rfl (oLl (f := eS) rfl rfl ?_)
 refine nx 2 rfl (fD [9, 10] h1 rfl (fun c1 h1 => ?_) fun c1 h1 => ?_)
 ·exact nx 5 rfl (eX _ (oi h1).symm (gE rfl rfl))
 refine nx 2 rfl (bd h1 fun r2 e3 h1 => ?_)
 refine oK (qd _ targets_0 addr_1 _ e3) rfl ⟨sr, sr, trivial⟩ Tryz.call31 rfl (nx 2 rfl ?_)
 exact eX _ (oi h1).symm (gE rfl rfl)
def dG (x_0 : cr) (i_1 : Int) : Option cr :=
 ck ((0 : Int) ≤ i_1 ∧ i_1 < (x_0.fchosen.length : Int)) <|
 if (!(lat x_0.fchosen i_1)) = true then
  ck ((0 : Int) ≤ i_1 ∧ i_1 < (x_0.fchosen.length : Int)) <|
  ck ((x_0.ftodo.length + [i_1].length) * 8 ≤ 140737488355328) <|
  some (cr.mk x_0.fchanges x_0.fresources (x_0.fchosen.set i_1.toNat true) (x_0.ftodo ++ [i_1]))
 else
  some x_0
set_option maxHeartbeats 4000000 in
theorem iq (x_0 : cr) (i_1 : Int) (r : cr) (h0 : dG x_0 i_1 = some r) : bO Tryz.prog 39 [.ptr 1000000 0, .p (eI i_1)] [(1000000, [.p (eL ac x_0.fchanges), .arr 1000001 1 0 x_0.fresources.length, .arr 1000002 1 0 x_0.fchosen.length, .stk 900000 1 (x_0.ftodo.map eI)]), (1000001, (x_0.fresources.map eS).map .p), (1000002, (x_0.fchosen.map eB).map .p)] (fun x y => x = .tuple [] ∧ y = [(1000000, [.p (eL ac r.fchanges), .arr 1000001 1 0 r.fresources.length, .arr 1000002 1 0 r.fchosen.length, .stk 2000000 1 (r.ftodo.map eI)]), (1000001, (r.fresources.map eS).map .p), (1000002, (r.fchosen.map eB).map .p)]) := by
 unfold dG at h0
 refine ga good [800000] [1000000, 1000001, 1000002] Tryz.func39 rfl rfl rfl rfl rfl fun w0 F => mPo (fun v : cr => .tuple []) (fun v => [(1000000, [.p (eL ac v.fchanges), .arr 1000001 1 0 v.fresources.length, .arr 1000002 1 0 v.fchosen.length, .stk 2000000 1 (v.ftodo.map eI)]), (1000001, (v.fresources.map eS).map .p), (1000002, (v.fchosen.map eB).map .p)]) ?_
 refine nx 7 rfl (cc' h0 fun hk1 h0 => ?_)
 refine mO rfl (aW rfl rfl rfl rfl rfl rfl rfl rfl rfl hk1 ?_)
 refine mO rfl (bw (default : Bool) (f := eB) (l := x_0.fchosen) rfl rfl rfl rfl rfl rfl rfl (by have := hk1; omega) ?_)
 refine nx 2 rfl (fB [11] h0 rfl (fun c2 h0 => ?_) fun c2 h0 => ?_)
 ·refine nx 8 rfl (cc' h0 fun hk3 h0 => ?_)
  refine mO rfl (aW rfl rfl rfl rfl rfl rfl rfl rfl rfl hk3 ?_)
  refine mO rfl (db (f := eB) (l := x_0.fchosen) (b := true) rfl rfl rfl rfl rfl rfl rfl rfl (by have := hk3; omega) ?_)
  refine nx 8 rfl (mO rfl (bN eI [i_1] rfl rfl rfl rfl rfl rfl rfl rfl rfl rfl rfl rfl rfl rfl ?_))
  refine cc' h0 fun hk4 h0 => ?_
  skip; refine mO rfl (ra eI (fun _ => ⟨rfl, rfl⟩) x_0.ftodo [i_1] rfl rfl rfl rfl rfl rfl rfl rfl rfl rfl rfl rfl (Nat.zero_lt_succ _) rfl rfl rfl hk4 rfl (by repeat (first | exact rfl | apply lW rfl | apply dmO_drop rfl | apply lH rfl rfl)) ?_)
  refine nx 4 rfl ?_
  skip; refine mG (bz 900000 800000 rfl rfl rfl rfl (by repeat (first | exact rfl | exact aM _ | apply aJ))) ?_
  exact za (oi h0) (bv _) rfl rfl rfl (aJ rfl rfl (aJ rfl (aM _) (aJ rfl (aM _) rfl))) (sr) ⟨⟨_, rfl, ⟨sr, sr, AV.sub_of_eq (by first | rfl | (simp; done) | (simp [AV.dem]; rfl)), sr, trivial⟩⟩, ⟨_, rfl, ap _⟩, ⟨_, rfl, ap _⟩, trivial⟩
 refine nx 2 rfl ?_
 skip; refine mG (bz 900000 800000 rfl rfl rfl rfl (by repeat (first | exact rfl | exact aM _ | apply aJ))) ?_
 exact za (oi h0) (bv _) rfl rfl rfl (aJ rfl rfl (aJ rfl (aM _) (aJ rfl (aM _) rfl))) (sr) ⟨⟨_, rfl, ⟨sr, sr, sr, sr, trivial⟩⟩, ⟨_, rfl, ap _⟩, ⟨_, rfl, ap _⟩, trivial⟩
def aX (s_0 : List Bytes) (v_1 : Bytes) : Nat → Int → Option (Unit ⊕ Int)
 | 0, _ => none
 | m + 1, t6 =>
 if t6 < (s_0.length : Int) then
  ck ((0 : Int) ≤ t6 ∧ t6 < (s_0.length : Int)) <|
  if v_1 = lat s_0 t6 then
   some (.inr t6)
  else
   ck (inR (t6 + 1)) <|
   aX s_0 v_1 m (t6 + 1)
 else
  some (.inl ())
def ci (n : Nat) (s_0 : List Bytes) (v_1 : Bytes) : Option Int :=
 jn (aX s_0 v_1 n 0) fun q12 =>
 some (-1)
set_option maxHeartbeats 4000000 in
theorem jL (n : Nat) (s_0 : List Bytes) (v_1 : Bytes) (r : Int) (h0 : ci n s_0 v_1 = some r) : aF Tryz.prog 89 [eL eS s_0, eS v_1] (· = .p (eI r)) := by
 unfold ci at h0
 refine bG good Tryz.func89 rfl rfl rfl fun w0 => mP (fun v : Int => .p (eI v)) ?_
 refine nx 8 rfl (oLl (f := eS) rfl rfl ?_)
 refine nx 3 rfl ?_
 obtain ⟨o13, h1, hL0, hR0⟩ := eH h0
 refine kEx 0 (fun v14 : Unit => o13 = .inl v14) (fun v14 => ⟨[], []⟩) (fun v14 hv => ?_) ?_
 ·have h0 := hL0 _ hv
  exact nx 6 rfl (mQ (oi h0) rfl (sr))
 refine lG (fun (q15 : Int) => ⟨[(0, .p (eL eS s_0)), (1, .p (eS v_1)), (7, .p (eI (s_0.length : Int))), (8, .p (eI q15))], []⟩) (fun m (q15 : Int) => aX s_0 v_1 m q15) (fun _ => rfl) 0 h1 (gE rfl rfl) ?_
 rintro m t6 h1
 replace h1 : aX s_0 v_1 (m + 1) t6 = some o13 := h1
 rw [aX] at h1
 refine nx 5 rfl (fD [9] h1 rfl (fun c7 h1 => ?_) fun c7 h1 => ?_)
 ·refine nx 14 rfl (oE h1 (fun _ => rfl) rfl rfl (fun _ => rfl) fun hk8 h1 => ?_)
  refine nx 1 rfl (oS rfl rfl ?_)
  refine nx 1 rfl (fD [16] h1 rfl (fun c9 h1 => ?_) fun c9 h1 => ?_)
  ·exact nx 7 rfl (mQ (hR0 _ (oi h1).symm) rfl (sr))
  refine nx 3 rfl (oA h1 rfl rfl fun hk10 h1 => ?_)
  exact nx 2 rfl (eX (t6 + 1) h1 (gE rfl rfl))
 exact nx 2 rfl (eXi _ (oi h1).symm (gE rfl rfl))
def aY (n : Nat) (s_0 : List Bytes) (v_1 : Bytes) : Option Bool :=
 (ci n s_0 v_1).bind fun r1 =>
 some (decide (0 ≤ r1))
set_option maxHeartbeats 4000000 in
theorem cy (n : Nat) (s_0 : List Bytes) (v_1 : Bytes) (r : Bool) (h0 : aY n s_0 v_1 = some r) : aF Tryz.prog 62 [eL eS s_0, eS v_1] (· = .p (eB r)) := by
 unfold aY at h0
 refine bG good Tryz.func62 rfl rfl rfl fun w0 => mP (fun v : Bool => .p (eB v)) ?_
 refine nx 8 rfl (bd h0 fun r1 e2 h0 => ?_)
 refine oK (jL _ s_0 v_1 _ e2) rfl ⟨sr, sr, trivial⟩ Tryz.call89 rfl (nx 4 rfl ?_)
 exact mQ (oi h0) rfl (sr)
def gb (c_0 : aa) : Option Bool :=
 (
   if c_0.fAction = 4 then
    some true
   else
    some (decide (c_0.fAction = 3))
  : Option Bool).bind fun t2 =>
 some t2
set_option maxHeartbeats 4000000 in
theorem iQ (c_0 : aa) (r : Bool) (h0 : gb c_0 = some r) : aF Tryz.prog 63 [.agg (aa.cs c_0)] (· = .p (eB r)) := by
 unfold gb at h0
 refine bG good Tryz.func63 rfl rfl rfl fun w0 => mP (fun v : Bool => .p (eB v)) ?_
 refine nx 6 rfl (bd h0 fun o4 h1 h0 => ?_)
 refine kN o4 (fun v5 => ⟨[(2, .p (eB v5))], []⟩) ?_ ?_
 ·exact nx 2 rfl (mQ (oi h0) rfl (sr))
 refine nx 5 rfl (fD [5, 6] h1 rfl (fun c1 h1 => ?_) fun c1 h1 => ?_)
 ·exact nx 6 rfl (eX _ (oi h1).symm (gE rfl rfl))
 exact nx 6 rfl (eX _ (oi h1).symm (gE rfl rfl))
def bs (n : Nat) (x_0 : cr) (i_1 : Int) : Nat → Int → (List aa) → (List Int) → (List Bytes) → (List Bool) → Option ((List aa) × (List Int) × (List Bytes) × (List Bool))
 | 0, _, _, _, _, _ => none
 | m + 1, t29, f30, f31, l32, l33 =>
 if t29 < (x_0.fchanges.length : Int) then
  (
    ck ((0 : Int) ≤ t29 ∧ t29 < (x_0.fchanges.length : Int)) <|
    (
      ck ((0 : Int) ≤ t29 ∧ t29 < (l32.length : Int)) <|
      (aY n ((lat x_0.fchanges i_1).fDeps) (lat l32 t29)).bind fun r37 =>
      if r37 = true then
       some true
      else
       (gb (lat x_0.fchanges i_1)).bind fun r40 =>
       if r40 = true then
        if (lat x_0.fchanges t29).fAction = 0 then
         some false
        else
         ck ((0 : Int) ≤ i_1 ∧ i_1 < (l32.length : Int)) <|
         (aY n ((lat x_0.fchanges t29).fOldDeps) (lat l32 i_1)).bind fun r45 =>
         some r45
       else
        some false
     : Option Bool).bind fun t47 =>
    if t47 = true then
     (dG (cr.mk f30 l32 l33 f31) t29).bind fun r49 =>
     some (r49.fchanges, r49.ftodo, r49.fresources, r49.fchosen)
    else
     some (f30, f31, l32, l33)
   : Option ((List aa) × (List Int) × (List Bytes) × (List Bool))).bind fun q66 =>
  ck (inR (t29 + 1)) <|
  bs n x_0 i_1 m (t29 + 1) q66.1 q66.2.1 q66.2.2.1 q66.2.2.2
 else
  some (f30, f31, l32, l33)
def cD (n : Nat) (x_0 : cr) (i_1 : Int) : Option cr :=
 ck ((0 : Int) ≤ i_1 ∧ i_1 < (x_0.fchanges.length : Int)) <|
 (bs n x_0 i_1 n 0 x_0.fchanges x_0.ftodo x_0.fresources x_0.fchosen).bind fun q65 =>
 some (cr.mk q65.1 q65.2.2.1 q65.2.2.2 q65.2.1)
set_option maxHeartbeats 4000000 in
theorem kU (n : Nat) (x_0 : cr) (i_1 : Int) (r : cr) (h0 : cD n x_0 i_1 = some r) : bO Tryz.prog 40 [.ptr 1000000 0, .p (eI i_1)] [(1000000, [.p (eL ac x_0.fchanges), .arr 1000001 1 0 x_0.fresources.length, .arr 1000002 1 0 x_0.fchosen.length, .stk 900000 1 (x_0.ftodo.map eI)]), (1000001, (x_0.fresources.map eS).map .p), (1000002, (x_0.fchosen.map eB).map .p)] (fun x y => x = .tuple [] ∧ y = [(1000000, [.p (eL ac r.fchanges), .arr 1000001 1 0 r.fresources.length, .arr 1000002 1 0 r.fchosen.length, .stk 2000000 1 (r.ftodo.map eI)]), (1000001, (r.fresources.map eS).map .p), (1000002, (r.fchosen.map eB).map .p)]) := by
 unfold cD at h0
 refine ga good [800000] [1000000, 1000001, 1000002] Tryz.func40 rfl rfl rfl rfl rfl fun w0 F => mPo (fun v : cr => .tuple []) (fun v => [(1000000, [.p (eL ac v.fchanges), .arr 1000001 1 0 v.fresources.length, .arr 1000002 1 0 v.fchosen.length, .stk 2000000 1 (v.ftodo.map eI)]), (1000001, (v.fresources.map eS).map .p), (1000002, (v.fchosen.map eB).map .p)]) ?_
 refine nx 7 rfl (oE h0 aa.cells_eq rfl rfl (fun _ => rfl) fun hk1 h0 => ?_)
 refine nx 1 rfl (mO rfl (ln rfl rfl rfl rfl rfl ?_))
 refine mG (lB (show kM _ _ = _ from (by repeat (first | exact iI _ | apply demOb_drop rfl | apply dw rfl (lT _ _) | apply dw rfl rfl)))) (nx 8 rfl ?_)
 refine oLl (f := ac) rfl rfl (nx 3 rfl ?_)
 refine bd h0 fun o68 h1 h0 => kE 0 o68 (fun v69 => ⟨[], [(1000000, [.p (eL ac v69.1), .arr 1000001 1 0 v69.2.2.1.length, .arr 1000002 1 0 v69.2.2.2.length, .stk 900000 1 (v69.2.1.map eI)]), (1000001, (v69.2.2.1.map eS).map .p), (1000002, (v69.2.2.2.map eB).map .p)]⟩) ?_ ?_
 ·refine nx 1 rfl ?_
  skip; refine mG (bz 900000 800000 rfl rfl rfl rfl (by repeat (first | exact rfl | exact aM _ | apply aJ))) ?_
  exact za (oi h0) (bv _) rfl rfl rfl (aJ rfl rfl (aJ rfl (aM _) (aJ rfl (aM _) rfl))) (sr) ⟨⟨_, rfl, ⟨sr, sr, sr, sr, trivial⟩⟩, ⟨_, rfl, ap _⟩, ⟨_, rfl, ap _⟩, trivial⟩
 refine lG (fun (q70 : Int × (List aa) × (List Int) × (List Bytes) × (List Bool)) => ⟨[(0, .ptr 1000000 0), (1, .p (eI i_1)), (4, .ptr 4 0), (17, .p (eL ac x_0.fchanges)), (18, .p (eI (x_0.fchanges.length : Int))), (19, .p (eI q70.1))], [(4, (aa.cs (lat x_0.fchanges i_1)).map .p), (1000000, [.p (eL ac q70.2.1), .arr 1000001 1 0 q70.2.2.2.1.length, .arr 1000002 1 0 q70.2.2.2.2.length, .stk 900000 1 (q70.2.2.1.map eI)]), (1000001, (q70.2.2.2.1.map eS).map .p), (1000002, (q70.2.2.2.2.map eB).map .p)]⟩) (fun m (q70 : Int × (List aa) × (List Int) × (List Bytes) × (List Bool)) => bs n x_0 i_1 m q70.1 q70.2.1 q70.2.2.1 q70.2.2.2.1 q70.2.2.2.2) (fun _ => rfl) (0, x_0.fchanges, x_0.ftodo, x_0.fresources, x_0.fchosen) h1 (b7 (cj ⟨er rfl, er rfl, er rfl, er rfl, er rfl, er rfl, trivial⟩ ⟨⟨_, rfl, ⟨sr, sr, sr, sr, sr, sr, sr, sr, sr, sr, sr, sr, sr, sr, sr, sr, sr, sr, sr, sr, sr, sr, trivial⟩⟩, ⟨_, rfl, ⟨sr, AV.sub_of_eq (by first | rfl | (simp; done) | (simp [AV.dem]; rfl)), AV.sub_of_eq (by first | rfl | (simp; done) | (simp [AV.dem]; rfl)), sr, trivial⟩⟩, ⟨_, rfl, ap _⟩, ⟨_, rfl, ap _⟩, trivial⟩)) ?_
 rintro m ⟨t29, f30, f31, l32, l33⟩ h1
 replace h1 : bs n x_0 i_1 (m + 1) t29 f30 f31 l32 l33 = some o68 := h1
 rw [bs] at h1
 refine nx 5 rfl (fD [20] h1 rfl (fun c34 h1 => ?_) fun c34 h1 => ?_)
 ·refine nx 3 rfl (bd h1 fun o71 h2 h1 => ?_)
  refine kN o71 (fun v72 => ⟨[(0, .ptr 1000000 0), (1, .p (eI i_1)), (4, .ptr 4 0), (17, .p (eL ac x_0.fchanges)), (18, .p (eI (x_0.fchanges.length : Int))), (19, .p (eI t29))], [(4, (aa.cs (lat x_0.fchanges i_1)).map .p), (1000000, [.p (eL ac v72.1), .arr 1000001 1 0 v72.2.2.1.length, .arr 1000002 1 0 v72.2.2.2.length, .stk 900000 1 (v72.2.1.map eI)]), (1000001, (v72.2.2.1.map eS).map .p), (1000002, (v72.2.2.2.map eB).map .p)]⟩) ?_ ?_
  ·refine nx 2 rfl (oA h1 rfl rfl fun hk55 h1 => ?_)
   exact nx 2 rfl (eX (t29 + 1, o71.1, o71.2.1, o71.2.2.1, o71.2.2.2) h1 (b7 (cj ⟨er rfl, er rfl, er rfl, er rfl, er rfl, er rfl, trivial⟩ ⟨⟨_, rfl, ⟨sr, sr, sr, sr, sr, sr, sr, sr, sr, sr, sr, sr, sr, sr, sr, sr, sr, sr, sr, sr, sr, sr, trivial⟩⟩, ⟨_, rfl, ⟨sr, AV.sub_of_eq (by first | rfl | (simp; done) | (simp [AV.dem]; rfl)), AV.sub_of_eq (by first | rfl | (simp; done) | (simp [AV.dem]; rfl)), sr, trivial⟩⟩, ⟨_, rfl, ap _⟩, ⟨_, rfl, ap _⟩, trivial⟩)))
  refine nx 4 rfl (oE h2 aa.cells_eq rfl rfl (fun _ => rfl) fun hk35 h2 => ?_)
  refine nx 1 rfl (mO rfl (ln rfl rfl rfl rfl rfl ?_))
  refine mG (lB (show kM _ _ = _ from (by repeat (first | exact iI _ | apply demOb_drop rfl | apply dw rfl (lT _ _) | apply dw rfl rfl)))) (nx 4 rfl ?_)
  refine bd h2 fun o73 h3 h2 => kN o73 (fun v74 => ⟨[(0, .ptr 1000000 0), (1, .p (eI i_1)), (4, .ptr 4 0), (5, .p (eI t29)), (17, .p (eL ac x_0.fchanges)), (18, .p (eI (x_0.fchanges.length : Int))), (19, .p (eI t29)), (54, .p (eB v74))], [(4, (aa.cs (lat x_0.fchanges i_1)).map .p), (1000000, [.p (eL ac f30), .arr 1000001 1 0 l32.length, .arr 1000002 1 0 l33.length, .stk 900000 1 (f31.map eI)]), (1000001, (l32.map eS).map .p), (1000002, (l33.map eB).map .p)]⟩) ?_ ?_
  ·refine nx 1 rfl (fB [54] h2 rfl (fun c48 h2 => ?_) fun c48 h2 => ?_)
   ·refine nx 4 rfl (bd h2 fun r49 e50 h2 => ?_)
    refine mO rfl (bo [1000000, 1000001, 1000002] [900000] 102000 102001 (iq (cr.mk f30 l32 l33 f31) t29 _ e50) rfl rfl rfl rfl rfl ⟨sr, sr, trivial⟩ rfl (aJ rfl rfl (aJ rfl (aM _) (aJ rfl (aM _) rfl))) ⟨⟨_, rfl, ⟨sr, sr, sr, sr, trivial⟩⟩, ⟨_, rfl, ap _⟩, ⟨_, rfl, ap _⟩, trivial⟩ rfl rfl rfl rfl rfl rfl rfl rfl Tryz.call39 rfl (aJ rfl rfl (aJ rfl (aM _) (aJ rfl (aM _) rfl))) ?_)
    refine nx 1 rfl ?_
    skip; refine mG (bz 102000 900000 rfl rfl rfl rfl (by repeat (first | exact rfl | exact aM _ | apply aJ))) ?_
    exact eX _ (oi h2).symm (b7 (cj ⟨er rfl, er rfl, er rfl, er rfl, er rfl, er rfl, trivial⟩ ⟨⟨_, rfl, ⟨sr, sr, sr, sr, sr, sr, sr, sr, sr, sr, sr, sr, sr, sr, sr, sr, sr, sr, sr, sr, sr, sr, trivial⟩⟩, ⟨_, rfl, ⟨sr, AV.sub_of_eq (by first | rfl | (simp; done) | (simp [AV.dem]; rfl)), AV.sub_of_eq (by first | rfl | (simp; done) | (simp [AV.dem]; rfl)), sr, trivial⟩⟩, ⟨_, rfl, ap _⟩, ⟨_, rfl, ap _⟩, trivial⟩))
   exact nx 2 rfl (eX _ (oi h2).symm (b7 (cj ⟨er rfl, er rfl, er rfl, er rfl, er rfl, er rfl, trivial⟩ ⟨⟨_, rfl, ⟨sr, sr, sr, sr, sr, sr, sr, sr, sr, sr, sr, sr, sr, sr, sr, sr, sr, sr, sr, sr, sr, sr, trivial⟩⟩, ⟨_, rfl, ⟨sr, AV.sub_of_eq (by first | rfl | (simp; done) | (simp [AV.dem]; rfl)), AV.sub_of_eq (by first | rfl | (simp; done) | (simp [AV.dem]; rfl)), sr, trivial⟩⟩, ⟨_, rfl, ap _⟩, ⟨_, rfl, ap _⟩, trivial⟩)))
  refine cc' h3 fun hk36 h3 => bd h3 fun r37 e38 h3 => fB (p := r37) [] h3 rfl (fun c39 h3 => ?_) fun c39 h3 => ?_
  ·refine mD [(0, .ptr 1000000 0), (1, .p (eI i_1)), (4, .ptr 4 0), (5, .p (eI t29)), (6, .ptr 6 0), (17, .p (eL ac x_0.fchanges)), (18, .p (eI (x_0.fchanges.length : Int))), (19, .p (eI t29))] rfl ⟨rfl, rfl, rfl, rfl, rfl, rfl, rfl, rfl, trivial⟩ rfl (dR 7 rfl ?_)
   refine dq (.ptr 1000001 t29.toNat) [29,30] rfl (fun _ e _ q => ae rfl (aW rfl rfl rfl rfl rfl rfl (e _ _ rfl) (e _ _ rfl) rfl hk36 q)) rfl (dq (.p (eS (lat l32 t29))) [31] rfl (fun _ e _ q => ae rfl (bw (default : Bytes) (f := eS) (l := l32) rfl rfl rfl rfl rfl (e _ _ rfl) rfl (by have := hk36; omega) q)) rfl ?_)
   refine dq (.p (eB r37)) [25,32] rfl (fun _ e _ q => ae rfl (bj (cy _ ((lat x_0.fchanges i_1).fDeps) (lat l32 t29) _ e38) rfl rfl rfl (ay (e _ _ rfl) (ay (e _ _ rfl) bm)) ⟨sr, sr, trivial⟩ Tryz.call62 rfl q)) rfl (dL (c39) rfl ?_)
   refine dR 20 rfl (dE rfl ?_)
   exact nx 1 rfl (eX _ (oi h3).symm (gE rfl rfl))
  refine bd h3 fun r40 e41 h3 => fB (p := r40) [] h3 rfl (fun c42 h3 => ?_) fun c42 h3 => ?_
  ·refine fN (p := (lat x_0.fchanges t29).fAction = 0) [] h3 rfl (fun c43 h3 => ?_) fun c43 h3 => ?_
   ·refine mD [(0, .ptr 1000000 0), (1, .p (eI i_1)), (4, .ptr 4 0), (5, .p (eI t29)), (6, .ptr 6 0), (17, .p (eL ac x_0.fchanges)), (18, .p (eI (x_0.fchanges.length : Int))), (19, .p (eI t29))] rfl ⟨rfl, rfl, rfl, rfl, rfl, rfl, rfl, rfl, trivial⟩ rfl (dR 7 rfl ?_)
    refine dq (.ptr 1000001 t29.toNat) [29,30] rfl (fun _ e _ q => ae rfl (aW rfl rfl rfl rfl rfl rfl (e _ _ rfl) (e _ _ rfl) rfl hk36 q)) rfl (dq (.p (eS (lat l32 t29))) [31] rfl (fun _ e _ q => ae rfl (bw (default : Bytes) (f := eS) (l := l32) rfl rfl rfl rfl rfl (e _ _ rfl) rfl (by have := hk36; omega) q)) rfl ?_)
    refine dq (.p (eB r37)) [25,32] rfl (fun _ e _ q => ae rfl (bj (cy _ ((lat x_0.fchanges i_1).fDeps) (lat l32 t29) _ e38) rfl rfl rfl (ay (e _ _ rfl) (ay (e _ _ rfl) bm)) ⟨sr, sr, trivial⟩ Tryz.call62 rfl q)) rfl (dL (c39) rfl ?_)
    refine dR 1 rfl (dq (.p (eB r40)) [34,35] rfl (fun _ e _ q => aZ (bj (iQ (lat x_0.fchanges i_1) _ e41) rfl rfl rfl (ay (e _ _ rfl) bm) ⟨sr, trivial⟩ Tryz.call63 rfl q) rfl rfl (e _ _ rfl) (rfl)) rfl ?_)
    refine dL (c42) rfl (dR 2 rfl ?_)
    refine dL (aE c43) rfl (dR 14 rfl ?_)
    refine dE rfl (nx 1 rfl ?_)
    exact eX _ (oi h3).symm (gE rfl rfl)
   refine cc' h3 fun hk44 h3 => bd h3 fun r45 e46 h3 => mD [(0, .ptr 1000000 0), (1, .p (eI i_1)), (4, .ptr 4 0), (5, .p (eI t29)), (6, .ptr 6 0), (17, .p (eL ac x_0.fchanges)), (18, .p (eI (x_0.fchanges.length : Int))), (19, .p (eI t29))] rfl ⟨rfl, rfl, rfl, rfl, rfl, rfl, rfl, rfl, trivial⟩ rfl (dR 7 rfl ?_)
   refine dq (.ptr 1000001 t29.toNat) [29,30] rfl (fun _ e _ q => ae rfl (aW rfl rfl rfl rfl rfl rfl (e _ _ rfl) (e _ _ rfl) rfl hk36 q)) rfl (dq (.p (eS (lat l32 t29))) [31] rfl (fun _ e _ q => ae rfl (bw (default : Bytes) (f := eS) (l := l32) rfl rfl rfl rfl rfl (e _ _ rfl) rfl (by have := hk36; omega) q)) rfl ?_)
   refine dq (.p (eB r37)) [25,32] rfl (fun _ e _ q => ae rfl (bj (cy _ ((lat x_0.fchanges i_1).fDeps) (lat l32 t29) _ e38) rfl rfl rfl (ay (e _ _ rfl) (ay (e _ _ rfl) bm)) ⟨sr, sr, trivial⟩ Tryz.call62 rfl q)) rfl (dL (c39) rfl ?_)
   refine dR 1 rfl (dq (.p (eB r40)) [34,35] rfl (fun _ e _ q => aZ (bj (iQ (lat x_0.fchanges i_1) _ e41) rfl rfl rfl (ay (e _ _ rfl) bm) ⟨sr, trivial⟩ Tryz.call63 rfl q) rfl rfl (e _ _ rfl) (rfl)) rfl ?_)
   refine dL (c42) rfl (dR 2 rfl ?_)
   refine dL (aP c43) rfl (dR 9 rfl ?_)
   refine dq (.ptr 1000001 i_1.toNat) [42,48,49] rfl (fun _ e _ q => aZ (aW rfl rfl rfl rfl rfl rfl (e _ _ rfl) (e _ _ rfl) rfl hk44 q) rfl rfl (e _ _ rfl) (rfl)) rfl (dq (.p (eS (lat l32 i_1))) [42,50] rfl (fun _ e _ q => aZ (bw (default : Bytes) (f := eS) (l := l32) rfl rfl rfl rfl rfl (e _ _ rfl) rfl (by have := hk44; omega) q) rfl rfl (e _ _ rfl) (rfl)) rfl ?_)
   refine dq (.p (eB r45)) [42,44,51] rfl (fun _ e _ q => aZ (bj (cy _ ((lat x_0.fchanges t29).fOldDeps) (lat l32 i_1) _ e46) rfl rfl rfl (ay (e _ _ rfl) (ay (e _ _ rfl) bm)) ⟨sr, sr, trivial⟩ Tryz.call62 rfl q) rfl rfl (e _ _ rfl) (rfl)) rfl (dR 2 rfl ?_)
   refine dE rfl (nx 1 rfl ?_)
   exact eX _ (oi h3).symm (gE rfl rfl)
  refine mD [(0, .ptr 1000000 0), (1, .p (eI i_1)), (4, .ptr 4 0), (5, .p (eI t29)), (6, .ptr 6 0), (17, .p (eL ac x_0.fchanges)), (18, .p (eI (x_0.fchanges.length : Int))), (19, .p (eI t29))] rfl ⟨rfl, rfl, rfl, rfl, rfl, rfl, rfl, rfl, trivial⟩ rfl (dR 7 rfl ?_)
  refine dq (.ptr 1000001 t29.toNat) [29,30] rfl (fun _ e _ q => ae rfl (aW rfl rfl rfl rfl rfl rfl (e _ _ rfl) (e _ _ rfl) rfl hk36 q)) rfl (dq (.p (eS (lat l32 t29))) [31] rfl (fun _ e _ q => ae rfl (bw (default : Bytes) (f := eS) (l := l32) rfl rfl rfl rfl rfl (e _ _ rfl) rfl (by have := hk36; omega) q)) rfl ?_)
  refine dq (.p (eB r37)) [25,32] rfl (fun _ e _ q => ae rfl (bj (cy _ ((lat x_0.fchanges i_1).fDeps) (lat l32 t29) _ e38) rfl rfl rfl (ay (e _ _ rfl) (ay (e _ _ rfl) bm)) ⟨sr, sr, trivial⟩ Tryz.call62 rfl q)) rfl (dL (c39) rfl ?_)
  refine dR 1 rfl (dq (.p (eB r40)) [34,35] rfl (fun _ e _ q => aZ (bj (iQ (lat x_0.fchanges i_1) _ e41) rfl rfl rfl (ay (e _ _ rfl) bm) ⟨sr, trivial⟩ Tryz.call63 rfl q) rfl rfl (e _ _ rfl) (rfl)) rfl ?_)
  refine dL (c42) rfl (dR 17 rfl ?_)
  refine dE rfl (nx 1 rfl ?_)
  exact eX _ (oi h3).symm (gE rfl rfl)
 exact nx 2 rfl (eXi _ (oi h1).symm (b7 (cj trivial ⟨⟨_, rfl, ⟨sr, AV.sub_of_eq (by first | rfl | (simp; done) | (simp [AV.dem]; rfl)), AV.sub_of_eq (by first | rfl | (simp; done) | (simp [AV.dem]; rfl)), sr, trivial⟩⟩, ⟨_, rfl, ap _⟩, ⟨_, rfl, ap _⟩, trivial⟩)))
def dp (r_target_copied : ag → Option ag) : Nat → Option Unit
 | 0 => none
 | m + 1 =>
 if 0 < (([] : List ag).length : Int) then
  ck ((0 : Int) ≤ 0 ∧ 0 < (([] : List ag).length : Int)) <|
  (r_target_copied (lat ([] : List ag) 0)).bind fun r6 =>
  ck ((0 : Int) ≤ 0 ∧ 0 < (([] : List ag).length : Int)) <|
  none
 else
  some ()
def cu (r_target_copied : ag → Option ag) (v_0 : ag) : Nat → Int → (List ag) → Option (List ag)
 | 0, _, _ => none
 | m + 1, t17, l18 =>
 if t17 < (v_0.fItems.length : Int) then
  ck ((0 : Int) ≤ t17 ∧ t17 < (l18.length : Int)) <|
  (r_target_copied (lat l18 t17)).bind fun r21 =>
  ck ((0 : Int) ≤ t17 ∧ t17 < (l18.length : Int)) <|
  ck (inR (t17 + 1)) <|
  cu r_target_copied v_0 m (t17 + 1) (l18.set t17.toNat r21)
 else
  some l18
def bH : Nat → ag → Option ag
 | 0, _ => none
 | n + 1, v_0 =>
 ck (v_0.fKeys.length * 16 ≤ 140737488355328) <|
 if v_0.fItems.isEmpty = true then
  (dp (bH n) n ).bind fun q28 =>
  some (ag.mk v_0.fKind v_0.fNum v_0.fStr ([] : List ag) v_0.fKeys)
 else
  ck (v_0.fItems.length * 80 ≤ 140737488355328) <|
  (cu (bH n) v_0 n 0 v_0.fItems).bind fun l27 =>
  some (ag.mk v_0.fKind v_0.fNum v_0.fStr l27 v_0.fKeys)
set_option maxHeartbeats 4000000 in
theorem ly (n : Nat) : ∀ (v_0 : ag) (r : ag), bH n v_0 = some r → aF Tryz.prog 64 [.agg (ag.cs v_0)] (· = .p (.agg (ag.cs r))) := by
 induction n with
 | zero => intro v_0 r h0; cases h0
 | succ n ih =>
 have ih_target_copied_ok := ih
 intro v_0 r h0
 rw [bH] at h0
 refine bG good Tryz.func64 rfl rfl rfl fun w0 => mP (fun v : ag => .p (.agg (ag.cs v))) ?_
 refine nx 9 rfl (cc' h0 fun hk1 h0 => ?_)
 refine oK (cO v_0.fKeys hk1) rfl ⟨sr, trivial⟩ Tryz.call65 rfl (nx 7 rfl ?_)
 refine wE (b := v_0.fItems.isEmpty) (fun c2 => ?_) (fun c2 => ?_)
 ·replace h0 := x9 c2 h0
  refine mO rfl (bj (ii v_0.fItems c2) rfl rfl rfl rfl ⟨sr, trivial⟩ Tryz.call90 rfl ?_)
  refine nx 8 rfl (oLl (f := aQ) rfl rfl ?_)
  refine nx 3 rfl (bd h0 fun o30 h1 h0 => ?_)
  refine kE 0 o30 (fun v31 => ⟨[(1, .ptr 1 0), (2, .ptr 2 0)], [(1, [.p (eI v_0.fKind), .p (eI v_0.fNum), .p (eS v_0.fStr), .p (eL aQ ([] : List ag)), .p (eL eS v_0.fKeys)]), (2, [.p (eI 0), .p (eI 0), .p (eS ([] : Bytes)), .p (.val (.slice none 0 0)), .p (.val (.slice none 0 0))])]⟩) ?_ ?_
  ·exact nx 7 rfl (mQ (oi h0) rfl (sr))
  refine lG (fun (q32 : Unit) => ⟨[(1, .ptr 1 0), (2, .ptr 2 0), (14, .p (eI (([] : List ag).length : Int))), (15, .p (eI 0))], [(1, [.p (eI v_0.fKind), .p (eI v_0.fNum), .p (eS v_0.fStr), .p (eL aQ ([] : List ag)), .p (eL eS v_0.fKeys)]), (2, [.p (eI 0), .p (eI 0), .p (eS ([] : Bytes)), .p (.val (.slice none 0 0)), .p (.val (.slice none 0 0))])]⟩) (fun m (q32 : Unit) => dp (bH n) m ) (fun _ => rfl) () h1 (gE rfl rfl) ?_
  rintro m _ h1
  replace h1 : dp (bH n) (m + 1)  = some o30 := h1
  rw [dp] at h1
  refine nx 5 rfl (fD [16] h1 rfl (fun c4 h1 => ?_) fun c4 h1 => ?_)
  ·refine nx 9 rfl (cc' h1 fun hk5 h1 => ?_)
   refine bd h1 fun r6 e7 h1 => cc' h1 fun hk8 h1 => ?_
   cases h1
  exact nx 2 rfl (eXi _ (oi h1).symm (gE rfl rfl))
 replace h0 := yw c2 h0
 refine cc' h0 fun hk3 h0 => mO rfl (bo [] [] 101000 101001 (ij v_0.fItems c2 hk3) rfl rfl rfl rfl rfl ⟨sr, trivial⟩ rfl rfl trivial rfl rfl rfl rfl rfl rfl rfl rfl Tryz.call90 rfl (aJ rfl (aM _) rfl) ?_)
 refine nx 12 rfl (bd h0 fun o33 h1 h0 => ?_)
 refine kE 0 o33 (fun v34 => ⟨[(1, .ptr 1 0), (2, .ptr 2 0)], [(1, [.p (eI v_0.fKind), .p (eI v_0.fNum), .p (eS v_0.fStr), .arr 101000 5 0 v34.length, .p (eL eS v_0.fKeys)]), (2, [.p (eI 0), .p (eI 0), .p (eS ([] : Bytes)), .p (.val (.slice none 0 0)), .p (.val (.slice none 0 0))]), (101000, ic aQ v34)]⟩) ?_ ?_
 ·refine nx 3 rfl (mG (nI (sl' := [(1, .ptr 1 0), (2, .ptr 2 0)]) (ob' := [(1, [.p (eI v_0.fKind), .p (eI v_0.fNum), .p (eS v_0.fStr), .p (eL aQ o33), .p (eL eS v_0.fKeys)]), (2, [.p (eI 0), .p (eI 0), .p (eS ([] : Bytes)), .p (.val (.slice none 0 0)), .p (.val (.slice none 0 0))])]) 101000 5 aQ o33 rfl rfl rfl (fun x => ⟨congrArg List.length (ag.cells_eq x), by rw [ag.cells_eq]; rfl⟩) ⟨⟨_, rfl, .inl rfl⟩, ⟨_, rfl, .inl rfl⟩, trivial⟩ ⟨⟨rfl, _, rfl, ⟨.inl rfl, .inl rfl, .inl rfl, .inr ⟨(by simp), rfl⟩, .inl rfl, trivial⟩⟩, ⟨rfl, _, rfl, ⟨.inl rfl, .inl rfl, .inl rfl, .inl rfl, .inl rfl, trivial⟩⟩, trivial⟩) ?_)
  exact nx 4 rfl (mQ (oi h0) rfl (sr))
 refine lG (fun (q35 : Int × (List ag)) => ⟨[(1, .ptr 1 0), (2, .ptr 2 0), (14, .p (eI (v_0.fItems.length : Int))), (15, .p (eI q35.1))], [(1, [.p (eI v_0.fKind), .p (eI v_0.fNum), .p (eS v_0.fStr), .arr 101000 5 0 q35.2.length, .p (eL eS v_0.fKeys)]), (2, [.p (eI 0), .p (eI 0), .p (eS ([] : Bytes)), .p (.val (.slice none 0 0)), .p (.val (.slice none 0 0))]), (101000, ic aQ q35.2)]⟩) (fun m (q35 : Int × (List ag)) => cu (bH n) v_0 m q35.1 q35.2) (fun _ => rfl) (0, v_0.fItems) h1 (b7 (cj ⟨er rfl, er rfl, er rfl, er rfl, trivial⟩ ⟨⟨_, rfl, ⟨sr, sr, sr, AV.sub_of_eq (congrArg (AV.arr 101000 5 0) (by simp)), sr, trivial⟩⟩, ⟨_, rfl, ⟨sr, sr, sr, sr, sr, trivial⟩⟩, ⟨_, rfl, ap _⟩, trivial⟩)) ?_
 rintro m ⟨t17, l18⟩ h1
 replace h1 : cu (bH n) v_0 (m + 1) t17 l18 = some o33 := h1
 rw [cu] at h1
 refine nx 5 rfl (fD [16] h1 rfl (fun c19 h1 => ?_) fun c19 h1 => ?_)
 ·refine nx 9 rfl (cc' h1 fun hk20 h1 => ?_)
  refine bd h1 fun r21 e22 h1 => cc' h1 fun hk23 h1 => mG (b7 (t := ⟨[(1, .ptr 1 0), (2, .ptr 2 0), (3, .p (eI t17)), (14, .p (eI (v_0.fItems.length : Int))), (15, .p (eI t17))], [(1, [.p (eI v_0.fKind), .p (eI v_0.fNum), .p (eS v_0.fStr), .arr 101000 5 0 l18.length, .p (eL eS v_0.fKeys)]), (2, [.p (eI 0), .p (eI 0), .p (eS ([] : Bytes)), .p (.val (.slice none 0 0)), .p (.val (.slice none 0 0))]), (101000, ic aQ l18)]⟩) (cj ⟨er rfl, er rfl, er rfl, er rfl, er rfl, trivial⟩ ⟨⟨_, rfl, ⟨sr, sr, sr, AV.sub_of_eq (congrArg (AV.arr 101000 5 0) (by simp)), sr, trivial⟩⟩, ⟨_, rfl, ⟨sr, sr, sr, sr, sr, trivial⟩⟩, ⟨_, rfl, ap _⟩, trivial⟩)) (mS ⟨1, [10], (fun _ => .none), (fun _ => [(1, .ptr 1 0), (2, .ptr 2 0), (3, .p (eI t17)), (14, .p (eI (v_0.fItems.length : Int))), (15, .p (eI t17))]), (by2 ([(1, [.p (eI v_0.fKind), .p (eI v_0.fNum), .p (eS v_0.fStr), .arr 101000 5 0 l18.length, .p (eL eS v_0.fKeys)]), (2, [.p (eI 0), .p (eI 0), .p (eS ([] : Bytes)), .p (.val (.slice none 0 0)), .p (.val (.slice none 0 0))]), (101000, ic aQ l18)]) ([(101000, ic aQ (l18.set t17.toNat r21)), (1, [.p (eI v_0.fKind), .p (eI v_0.fNum), .p (eS v_0.fStr), .arr 101000 5 0 l18.length, .p (eL eS v_0.fKeys)]), (2, [.p (eI 0), .p (eI 0), .p (eS ([] : Bytes)), .p (.val (.slice none 0 0)), .p (.val (.slice none 0 0))]), (101000, ic aQ l18)]))⟩ rfl rfl rfl ⟨rfl, rfl, rfl, rfl, rfl, trivial⟩ (lt1 ⟨rfl, rfl, rfl, rfl, rfl, trivial⟩) rfl rfl rfl rfl ?_)
  refine az (fun _ => .ptr 1 3) rfl rfl rfl (d5 rfl (fun _ => rfl)) (lt1 rfl) (al rfl (af [(1, _)] ⟨.inl rfl, trivial⟩ (fun sl hsl K hK => ae rfl (ah rfl rfl rfl rfl rfl rfl rfl rfl (hsl _ _ rfl) hK)) aA)) (az (fun _ => .arr 101000 5 0 l18.length) rfl rfl rfl (d5 rfl (fun _ => rfl)) (lt1 rfl) (al rfl (af [(18, _)] ⟨.inr ⟨0, _, rfl, rfl, rfl⟩, trivial⟩ (fun sl hsl K hK => ae rfl (bB rfl rfl rfl rfl rfl (hsl _ _ rfl) rfl rfl hK)) aA)) ?_)
  refine az (fun _ => .p (eI t17)) rfl rfl rfl (d5 rfl (fun _ => rfl)) (lt1 rfl) (al rfl (af [(3, _)] ⟨.inl rfl, trivial⟩ (fun sl hsl K hK => ae rfl (aR rfl rfl rfl (hsl _ _ rfl) hK)) aA)) (az (fun _ => .ptr 1 3) rfl rfl rfl (d5 rfl (fun _ => rfl)) (lt1 rfl) (al rfl (af [(1, _)] ⟨.inl rfl, trivial⟩ (fun sl hsl K hK => ae rfl (ah rfl rfl rfl rfl rfl rfl rfl rfl (hsl _ _ rfl) hK)) aA)) ?_)
  refine az (fun _ => .arr 101000 5 0 l18.length) rfl rfl rfl (d5 rfl (fun _ => rfl)) (lt1 rfl) (al rfl (af [(21, _)] ⟨.inr ⟨3, _, rfl, rfl, rfl⟩, trivial⟩ (fun sl hsl K hK => ae rfl (bB rfl rfl rfl rfl rfl (hsl _ _ rfl) rfl rfl hK)) aA)) (az (fun _ => .p (eI t17)) rfl rfl rfl (d5 rfl (fun _ => rfl)) (lt1 rfl) (al rfl (af [(3, _)] ⟨.inl rfl, trivial⟩ (fun sl hsl K hK => ae rfl (aR rfl rfl rfl (hsl _ _ rfl) hK)) aA)) ?_)
  refine az (fun _ => .ptr 101000 (0 + t17.toNat * 5)) rfl rfl rfl (d5 rfl (fun _ => rfl)) (lt1 rfl) (al rfl (af [(22, _), (23, _)] ⟨.inr ⟨4, _, rfl, rfl, rfl⟩, .inr ⟨5, _, rfl, rfl, rfl⟩, trivial⟩ (fun sl hsl K hK => ae rfl (il rfl rfl rfl rfl rfl rfl (hsl _ _ rfl) (hsl _ _ rfl) rfl hk20 hK)) aA)) (az (fun _ => .p (.agg (ag.cs (lat l18 t17)))) rfl rfl rfl (d5 rfl (fun _ => rfl)) (lt1 rfl) (al rfl (af [(24, _)] ⟨.inr ⟨6, _, rfl, rfl, rfl⟩, trivial⟩ (fun sl hsl K hK => ae rfl (vn aQ ag.cs l18 rfl rfl rfl rfl rfl (hsl _ _ rfl) rfl rfl rfl hk20 ag.cells_eq (fun _ => rfl) hK)) aA)) ?_)
  refine az (fun _ => .p (.agg (ag.cs r21))) rfl rfl rfl (d5 rfl (fun _ => rfl)) (lt1 rfl) (al rfl (af [(25, _)] ⟨.inr ⟨7, _, rfl, rfl, rfl⟩, trivial⟩ (fun sl hsl K hK => ae rfl (bj (ih_target_copied_ok (lat l18 t17) _ e22) rfl rfl rfl (ay (hsl _ _ rfl) bm) ⟨sr, trivial⟩ Tryz.call64 rfl hK)) aA)) (az (fun _ => .ptr 101000 (0 + t17.toNat * 5)) rfl rfl rfl (d5 rfl (fun _ => rfl)) (lt1 rfl) (al rfl (af [(19, _), (20, _)] ⟨.inr ⟨1, _, rfl, rfl, rfl⟩, .inr ⟨2, _, rfl, rfl, rfl⟩, trivial⟩ (fun sl hsl K hK => ae rfl (il rfl rfl rfl rfl rfl rfl (hsl _ _ rfl) (hsl _ _ rfl) rfl hk23 hK)) aA)) ?_)
  refine ik [(26, _), (27, _)] rfl ⟨.inr ⟨8, _, rfl, rfl, rfl⟩, .inr ⟨9, _, rfl, rfl, rfl⟩, trivial⟩ rfl (fun sl hsl K hK => ae rfl (uy aQ ag.cs l18 r21 (n := t17) rfl rfl rfl (hsl _ _ rfl) (hsl _ _ rfl) rfl rfl rfl hk23 ag.cells_eq (fun _ => rfl) (fun _ => rfl) hK)) (kQ ?_)
  refine nx 2 rfl (oA h1 rfl rfl fun hk24 h1 => ?_)
  exact nx 2 rfl (eX (t17 + 1, l18.set t17.toNat r21) h1 (b7 (cj ⟨er rfl, er rfl, er rfl, er rfl, trivial⟩ ⟨⟨_, rfl, ⟨sr, sr, sr, AV.sub_of_eq (congrArg (AV.arr 101000 5 0) (by simp)), sr, trivial⟩⟩, ⟨_, rfl, ⟨sr, sr, sr, sr, sr, trivial⟩⟩, ⟨_, rfl, ap _⟩, trivial⟩)))
 exact nx 2 rfl (eXi _ (oi h1).symm (b7 (cj ⟨er rfl, er rfl, trivial⟩ ⟨⟨_, rfl, ⟨sr, sr, sr, AV.sub_of_eq (congrArg (AV.arr 101000 5 0) (by simp)), sr, trivial⟩⟩, ⟨_, rfl, ⟨sr, sr, sr, sr, sr, trivial⟩⟩, ⟨_, rfl, ap _⟩, trivial⟩)))
def eW (n : Nat) (c_0 : aa) : Option aa :=
 (bH n c_0.fBefore).bind fun r1 =>
 (bH n c_0.fAfter).bind fun r3 =>
 ck (c_0.fReplace.length * 16 ≤ 140737488355328) <|
 ck (c_0.fDeps.length * 16 ≤ 140737488355328) <|
 ck (c_0.fOldDeps.length * 16 ≤ 140737488355328) <|
 some (aa.mk c_0.fAddr c_0.fDeposed c_0.fType c_0.fAction c_0.fReason r1 r3 c_0.fID c_0.fReplace c_0.fCreateFirst c_0.fProtect c_0.fImport c_0.fDeps c_0.fOldDeps)
set_option maxHeartbeats 4000000 in
theorem pG (n : Nat) (c_0 : aa) (r : aa) (h0 : eW n c_0 = some r) : aF Tryz.prog 41 [.agg (aa.cs c_0)] (· = .p (.agg (aa.cs r))) := by
 unfold eW at h0
 refine bG good Tryz.func41 rfl rfl rfl fun w0 => mP (fun v : aa => .p (.agg (aa.cs v))) ?_
 refine nx 6 rfl (bd h0 fun r1 e2 h0 => ?_)
 refine bd h0 fun r3 e4 h0 => mG (gE (t := ⟨[(1, .ptr 1 0), (2, .ptr 2 0)], [(1, (aa.cs c_0).map .p), (2, [.p (eS ([] : Bytes)), .p (eS ([] : Bytes)), .p (eS ([] : Bytes)), .p (eI 0), .p (eI 0), .p (eI 0), .p (eI 0), .p (eS ([] : Bytes)), .p (.val (.slice none 0 0)), .p (.val (.slice none 0 0)), .p (eI 0), .p (eI 0), .p (eS ([] : Bytes)), .p (.val (.slice none 0 0)), .p (.val (.slice none 0 0)), .p (eS ([] : Bytes)), .p (.val (.slice none 0 0)), .p (eB false), .p (eB false), .p (eB false), .p (.val (.slice none 0 0)), .p (.val (.slice none 0 0))])]⟩) rfl rfl) (mS ⟨2, [7, 9], (fun _ => .none), (fun _ => [(1, .ptr 1 0), (2, .ptr 2 0)]), (by3 ([(1, [.p (eS c_0.fAddr), .p (eS c_0.fDeposed), .p (eS c_0.fType), .p (eI c_0.fAction), .p (eI c_0.fReason), .p (eI c_0.fBefore.fKind), .p (eI c_0.fBefore.fNum), .p (eS c_0.fBefore.fStr), .p (eL aQ c_0.fBefore.fItems), .p (eL eS c_0.fBefore.fKeys), .p (eI c_0.fAfter.fKind), .p (eI c_0.fAfter.fNum), .p (eS c_0.fAfter.fStr), .p (eL aQ c_0.fAfter.fItems), .p (eL eS c_0.fAfter.fKeys), .p (eS c_0.fID), .p (eL eS c_0.fReplace), .p (eB c_0.fCreateFirst), .p (eB c_0.fProtect), .p (eB c_0.fImport), .p (eL eS c_0.fDeps), .p (eL eS c_0.fOldDeps)]), (2, [.p (eS ([] : Bytes)), .p (eS ([] : Bytes)), .p (eS ([] : Bytes)), .p (eI 0), .p (eI 0), .p (eI 0), .p (eI 0), .p (eS ([] : Bytes)), .p (.val (.slice none 0 0)), .p (.val (.slice none 0 0)), .p (eI 0), .p (eI 0), .p (eS ([] : Bytes)), .p (.val (.slice none 0 0)), .p (.val (.slice none 0 0)), .p (eS ([] : Bytes)), .p (.val (.slice none 0 0)), .p (eB false), .p (eB false), .p (eB false), .p (.val (.slice none 0 0)), .p (.val (.slice none 0 0))])]) ([(1, [.p (eS c_0.fAddr), .p (eS c_0.fDeposed), .p (eS c_0.fType), .p (eI c_0.fAction), .p (eI c_0.fReason), .p (eI r1.fKind), .p (eI r1.fNum), .p (eS r1.fStr), .p (eL aQ r1.fItems), .p (eL eS r1.fKeys), .p (eI c_0.fAfter.fKind), .p (eI c_0.fAfter.fNum), .p (eS c_0.fAfter.fStr), .p (eL aQ c_0.fAfter.fItems), .p (eL eS c_0.fAfter.fKeys), .p (eS c_0.fID), .p (eL eS c_0.fReplace), .p (eB c_0.fCreateFirst), .p (eB c_0.fProtect), .p (eB c_0.fImport), .p (eL eS c_0.fDeps), .p (eL eS c_0.fOldDeps)]), (1, [.p (eS c_0.fAddr), .p (eS c_0.fDeposed), .p (eS c_0.fType), .p (eI c_0.fAction), .p (eI c_0.fReason), .p (eI c_0.fBefore.fKind), .p (eI c_0.fBefore.fNum), .p (eS c_0.fBefore.fStr), .p (eL aQ c_0.fBefore.fItems), .p (eL eS c_0.fBefore.fKeys), .p (eI c_0.fAfter.fKind), .p (eI c_0.fAfter.fNum), .p (eS c_0.fAfter.fStr), .p (eL aQ c_0.fAfter.fItems), .p (eL eS c_0.fAfter.fKeys), .p (eS c_0.fID), .p (eL eS c_0.fReplace), .p (eB c_0.fCreateFirst), .p (eB c_0.fProtect), .p (eB c_0.fImport), .p (eL eS c_0.fDeps), .p (eL eS c_0.fOldDeps)]), (2, [.p (eS ([] : Bytes)), .p (eS ([] : Bytes)), .p (eS ([] : Bytes)), .p (eI 0), .p (eI 0), .p (eI 0), .p (eI 0), .p (eS ([] : Bytes)), .p (.val (.slice none 0 0)), .p (.val (.slice none 0 0)), .p (eI 0), .p (eI 0), .p (eS ([] : Bytes)), .p (.val (.slice none 0 0)), .p (.val (.slice none 0 0)), .p (eS ([] : Bytes)), .p (.val (.slice none 0 0)), .p (eB false), .p (eB false), .p (eB false), .p (.val (.slice none 0 0)), .p (.val (.slice none 0 0))])]) ([(1, [.p (eS c_0.fAddr), .p (eS c_0.fDeposed), .p (eS c_0.fType), .p (eI c_0.fAction), .p (eI c_0.fReason), .p (eI r1.fKind), .p (eI r1.fNum), .p (eS r1.fStr), .p (eL aQ r1.fItems), .p (eL eS r1.fKeys), .p (eI r3.fKind), .p (eI r3.fNum), .p (eS r3.fStr), .p (eL aQ r3.fItems), .p (eL eS r3.fKeys), .p (eS c_0.fID), .p (eL eS c_0.fReplace), .p (eB c_0.fCreateFirst), .p (eB c_0.fProtect), .p (eB c_0.fImport), .p (eL eS c_0.fDeps), .p (eL eS c_0.fOldDeps)]), (1, [.p (eS c_0.fAddr), .p (eS c_0.fDeposed), .p (eS c_0.fType), .p (eI c_0.fAction), .p (eI c_0.fReason), .p (eI r1.fKind), .p (eI r1.fNum), .p (eS r1.fStr), .p (eL aQ r1.fItems), .p (eL eS r1.fKeys), .p (eI c_0.fAfter.fKind), .p (eI c_0.fAfter.fNum), .p (eS c_0.fAfter.fStr), .p (eL aQ c_0.fAfter.fItems), .p (eL eS c_0.fAfter.fKeys), .p (eS c_0.fID), .p (eL eS c_0.fReplace), .p (eB c_0.fCreateFirst), .p (eB c_0.fProtect), .p (eB c_0.fImport), .p (eL eS c_0.fDeps), .p (eL eS c_0.fOldDeps)]), (1, [.p (eS c_0.fAddr), .p (eS c_0.fDeposed), .p (eS c_0.fType), .p (eI c_0.fAction), .p (eI c_0.fReason), .p (eI c_0.fBefore.fKind), .p (eI c_0.fBefore.fNum), .p (eS c_0.fBefore.fStr), .p (eL aQ c_0.fBefore.fItems), .p (eL eS c_0.fBefore.fKeys), .p (eI c_0.fAfter.fKind), .p (eI c_0.fAfter.fNum), .p (eS c_0.fAfter.fStr), .p (eL aQ c_0.fAfter.fItems), .p (eL eS c_0.fAfter.fKeys), .p (eS c_0.fID), .p (eL eS c_0.fReplace), .p (eB c_0.fCreateFirst), .p (eB c_0.fProtect), .p (eB c_0.fImport), .p (eL eS c_0.fDeps), .p (eL eS c_0.fOldDeps)]), (2, [.p (eS ([] : Bytes)), .p (eS ([] : Bytes)), .p (eS ([] : Bytes)), .p (eI 0), .p (eI 0), .p (eI 0), .p (eI 0), .p (eS ([] : Bytes)), .p (.val (.slice none 0 0)), .p (.val (.slice none 0 0)), .p (eI 0), .p (eI 0), .p (eS ([] : Bytes)), .p (.val (.slice none 0 0)), .p (.val (.slice none 0 0)), .p (eS ([] : Bytes)), .p (.val (.slice none 0 0)), .p (eB false), .p (eB false), .p (eB false), .p (.val (.slice none 0 0)), .p (.val (.slice none 0 0))])]))⟩ rfl rfl rfl ⟨rfl, rfl, trivial⟩ (lt2 ⟨rfl, rfl, trivial⟩ ⟨rfl, rfl, trivial⟩) rfl rfl rfl rfl ?_)
 refine az (fun _ => .ptr 1 5) rfl rfl rfl (pD rfl rfl (fun _ => rfl)) (lt2 rfl rfl) (al rfl (al rfl (af [(1, _)] ⟨.inl rfl, trivial⟩ (fun sl hsl K hK => ae rfl (ah rfl rfl rfl rfl rfl rfl rfl rfl (hsl _ _ rfl) hK)) aA))) (az (fun _ => .p (.agg (ag.cs c_0.fBefore))) rfl rfl rfl (pD rfl rfl (fun _ => rfl)) (lt2 rfl rfl) (al rfl (al rfl (af [(3, _)] ⟨.inr ⟨0, _, rfl, rfl, rfl⟩, trivial⟩ (fun sl hsl K hK => ae rfl (gx rfl rfl rfl rfl rfl (hsl _ _ rfl) rfl rfl rfl hK)) aA))) ?_)
 refine az (fun _ => .p (.agg (ag.cs r1))) rfl rfl rfl (pD rfl rfl (fun _ => rfl)) (lt2 rfl rfl) (al rfl (al rfl (af [(4, _)] ⟨.inr ⟨1, _, rfl, rfl, rfl⟩, trivial⟩ (fun sl hsl K hK => ae rfl (bj (ly _ c_0.fBefore _ e2) rfl rfl rfl (ay (hsl _ _ rfl) bm) ⟨sr, trivial⟩ Tryz.call64 rfl hK)) aA))) (az (fun _ => .ptr 1 10) rfl rfl rfl (pD rfl rfl (fun _ => rfl)) (lt2 rfl rfl) (al rfl (al rfl (af [(1, _)] ⟨.inl rfl, trivial⟩ (fun sl hsl K hK => ae rfl (ah rfl rfl rfl rfl rfl rfl rfl rfl (hsl _ _ rfl) hK)) aA))) ?_)
 refine az (fun _ => .p (.agg (ag.cs c_0.fAfter))) rfl rfl rfl (pD rfl rfl (fun _ => rfl)) (lt2 rfl rfl) (al rfl (al rfl (af [(6, _)] ⟨.inr ⟨3, _, rfl, rfl, rfl⟩, trivial⟩ (fun sl hsl K hK => ae rfl (gx rfl rfl rfl rfl rfl (hsl _ _ rfl) rfl rfl rfl hK)) aA))) (az (fun _ => .p (.agg (ag.cs r3))) rfl rfl rfl (pD rfl rfl (fun _ => rfl)) (lt2 rfl rfl) (al rfl (al rfl (af [(7, _)] ⟨.inr ⟨4, _, rfl, rfl, rfl⟩, trivial⟩ (fun sl hsl K hK => ae rfl (bj (ly _ c_0.fAfter _ e4) rfl rfl rfl (ay (hsl _ _ rfl) bm) ⟨sr, trivial⟩ Tryz.call64 rfl hK)) aA))) ?_)
 refine az (fun _ => .ptr 1 5) rfl rfl rfl (pD rfl rfl (fun _ => rfl)) (lt2 rfl rfl) (al rfl (al rfl (af [(1, _)] ⟨.inl rfl, trivial⟩ (fun sl hsl K hK => ae rfl (ah rfl rfl rfl rfl rfl rfl rfl rfl (hsl _ _ rfl) hK)) aA))) (ik [(5, _), (9, _)] rfl ⟨.inr ⟨2, _, rfl, rfl, rfl⟩, .inr ⟨6, _, rfl, rfl, rfl⟩, trivial⟩ rfl (fun sl hsl K hK => ae rfl (gX rfl rfl rfl (hsl _ _ rfl) (hsl _ _ rfl) rfl rfl rfl (Nat.le_of_ble_eq_true rfl) hK)) ?_)
 refine az (fun _ => .ptr 1 10) rfl rfl rfl (pD rfl rfl (fun _ => rfl)) (lt2 rfl rfl) (al rfl (af [(1, _)] ⟨.inl rfl, trivial⟩ (fun sl hsl K hK => ae rfl (ah rfl rfl rfl rfl rfl rfl rfl rfl (hsl _ _ rfl) hK)) (al rfl aA))) (ik [(8, _), (10, _)] rfl ⟨.inr ⟨5, _, rfl, rfl, rfl⟩, .inr ⟨8, _, rfl, rfl, rfl⟩, trivial⟩ rfl (fun sl hsl K hK => ae rfl (gX rfl rfl rfl (hsl _ _ rfl) (hsl _ _ rfl) rfl rfl rfl (Nat.le_of_ble_eq_true rfl) hK)) ?_)
 refine kQ (nx 2 rfl ?_)
 refine cc' h0 fun hk5 h0 => cc' h0 fun hk6 h0 => cc' h0 fun hk7 h0 => mG (gE (t := ⟨[(1, .ptr 1 0), (2, .ptr 2 0)], [(1, [.p (eS c_0.fAddr), .p (eS c_0.fDeposed), .p (eS c_0.fType), .p (eI c_0.fAction), .p (eI c_0.fReason), .p (eI r1.fKind), .p (eI r1.fNum), .p (eS r1.fStr), .p (eL aQ r1.fItems), .p (eL eS r1.fKeys), .p (eI r3.fKind), .p (eI r3.fNum), .p (eS r3.fStr), .p (eL aQ r3.fItems), .p (eL eS r3.fKeys), .p (eS c_0.fID), .p (eL eS c_0.fReplace), .p (eB c_0.fCreateFirst), .p (eB c_0.fProtect), .p (eB c_0.fImport), .p (eL eS c_0.fDeps), .p (eL eS c_0.fOldDeps)]), (2, [.p (eS ([] : Bytes)), .p (eS ([] : Bytes)), .p (eS ([] : Bytes)), .p (eI 0), .p (eI 0), .p (eI 0), .p (eI 0), .p (eS ([] : Bytes)), .p (.val (.slice none 0 0)), .p (.val (.slice none 0 0)), .p (eI 0), .p (eI 0), .p (eS ([] : Bytes)), .p (.val (.slice none 0 0)), .p (.val (.slice none 0 0)), .p (eS ([] : Bytes)), .p (.val (.slice none 0 0)), .p (eB false), .p (eB false), .p (eB false), .p (.val (.slice none 0 0)), .p (.val (.slice none 0 0))])]⟩) rfl rfl) (mS ⟨3, [10, 12, 14], (fun _ => .none), (fun _ => [(1, .ptr 1 0), (2, .ptr 2 0)]), (by4 ([(1, [.p (eS c_0.fAddr), .p (eS c_0.fDeposed), .p (eS c_0.fType), .p (eI c_0.fAction), .p (eI c_0.fReason), .p (eI r1.fKind), .p (eI r1.fNum), .p (eS r1.fStr), .p (eL aQ r1.fItems), .p (eL eS r1.fKeys), .p (eI r3.fKind), .p (eI r3.fNum), .p (eS r3.fStr), .p (eL aQ r3.fItems), .p (eL eS r3.fKeys), .p (eS c_0.fID), .p (eL eS c_0.fReplace), .p (eB c_0.fCreateFirst), .p (eB c_0.fProtect), .p (eB c_0.fImport), .p (eL eS c_0.fDeps), .p (eL eS c_0.fOldDeps)]), (2, [.p (eS ([] : Bytes)), .p (eS ([] : Bytes)), .p (eS ([] : Bytes)), .p (eI 0), .p (eI 0), .p (eI 0), .p (eI 0), .p (eS ([] : Bytes)), .p (.val (.slice none 0 0)), .p (.val (.slice none 0 0)), .p (eI 0), .p (eI 0), .p (eS ([] : Bytes)), .p (.val (.slice none 0 0)), .p (.val (.slice none 0 0)), .p (eS ([] : Bytes)), .p (.val (.slice none 0 0)), .p (eB false), .p (eB false), .p (eB false), .p (.val (.slice none 0 0)), .p (.val (.slice none 0 0))])]) ([(1, [.p (eS c_0.fAddr), .p (eS c_0.fDeposed), .p (eS c_0.fType), .p (eI c_0.fAction), .p (eI c_0.fReason), .p (eI r1.fKind), .p (eI r1.fNum), .p (eS r1.fStr), .p (eL aQ r1.fItems), .p (eL eS r1.fKeys), .p (eI r3.fKind), .p (eI r3.fNum), .p (eS r3.fStr), .p (eL aQ r3.fItems), .p (eL eS r3.fKeys), .p (eS c_0.fID), .p (eL eS c_0.fReplace), .p (eB c_0.fCreateFirst), .p (eB c_0.fProtect), .p (eB c_0.fImport), .p (eL eS c_0.fDeps), .p (eL eS c_0.fOldDeps)]), (1, [.p (eS c_0.fAddr), .p (eS c_0.fDeposed), .p (eS c_0.fType), .p (eI c_0.fAction), .p (eI c_0.fReason), .p (eI r1.fKind), .p (eI r1.fNum), .p (eS r1.fStr), .p (eL aQ r1.fItems), .p (eL eS r1.fKeys), .p (eI r3.fKind), .p (eI r3.fNum), .p (eS r3.fStr), .p (eL aQ r3.fItems), .p (eL eS r3.fKeys), .p (eS c_0.fID), .p (eL eS c_0.fReplace), .p (eB c_0.fCreateFirst), .p (eB c_0.fProtect), .p (eB c_0.fImport), .p (eL eS c_0.fDeps), .p (eL eS c_0.fOldDeps)]), (2, [.p (eS ([] : Bytes)), .p (eS ([] : Bytes)), .p (eS ([] : Bytes)), .p (eI 0), .p (eI 0), .p (eI 0), .p (eI 0), .p (eS ([] : Bytes)), .p (.val (.slice none 0 0)), .p (.val (.slice none 0 0)), .p (eI 0), .p (eI 0), .p (eS ([] : Bytes)), .p (.val (.slice none 0 0)), .p (.val (.slice none 0 0)), .p (eS ([] : Bytes)), .p (.val (.slice none 0 0)), .p (eB false), .p (eB false), .p (eB false), .p (.val (.slice none 0 0)), .p (.val (.slice none 0 0))])]) ([(1, [.p (eS c_0.fAddr), .p (eS c_0.fDeposed), .p (eS c_0.fType), .p (eI c_0.fAction), .p (eI c_0.fReason), .p (eI r1.fKind), .p (eI r1.fNum), .p (eS r1.fStr), .p (eL aQ r1.fItems), .p (eL eS r1.fKeys), .p (eI r3.fKind), .p (eI r3.fNum), .p (eS r3.fStr), .p (eL aQ r3.fItems), .p (eL eS r3.fKeys), .p (eS c_0.fID), .p (eL eS c_0.fReplace), .p (eB c_0.fCreateFirst), .p (eB c_0.fProtect), .p (eB c_0.fImport), .p (eL eS c_0.fDeps), .p (eL eS c_0.fOldDeps)]), (1, [.p (eS c_0.fAddr), .p (eS c_0.fDeposed), .p (eS c_0.fType), .p (eI c_0.fAction), .p (eI c_0.fReason), .p (eI r1.fKind), .p (eI r1.fNum), .p (eS r1.fStr), .p (eL aQ r1.fItems), .p (eL eS r1.fKeys), .p (eI r3.fKind), .p (eI r3.fNum), .p (eS r3.fStr), .p (eL aQ r3.fItems), .p (eL eS r3.fKeys), .p (eS c_0.fID), .p (eL eS c_0.fReplace), .p (eB c_0.fCreateFirst), .p (eB c_0.fProtect), .p (eB c_0.fImport), .p (eL eS c_0.fDeps), .p (eL eS c_0.fOldDeps)]), (1, [.p (eS c_0.fAddr), .p (eS c_0.fDeposed), .p (eS c_0.fType), .p (eI c_0.fAction), .p (eI c_0.fReason), .p (eI r1.fKind), .p (eI r1.fNum), .p (eS r1.fStr), .p (eL aQ r1.fItems), .p (eL eS r1.fKeys), .p (eI r3.fKind), .p (eI r3.fNum), .p (eS r3.fStr), .p (eL aQ r3.fItems), .p (eL eS r3.fKeys), .p (eS c_0.fID), .p (eL eS c_0.fReplace), .p (eB c_0.fCreateFirst), .p (eB c_0.fProtect), .p (eB c_0.fImport), .p (eL eS c_0.fDeps), .p (eL eS c_0.fOldDeps)]), (2, [.p (eS ([] : Bytes)), .p (eS ([] : Bytes)), .p (eS ([] : Bytes)), .p (eI 0), .p (eI 0), .p (eI 0), .p (eI 0), .p (eS ([] : Bytes)), .p (.val (.slice none 0 0)), .p (.val (.slice none 0 0)), .p (eI 0), .p (eI 0), .p (eS ([] : Bytes)), .p (.val (.slice none 0 0)), .p (.val (.slice none 0 0)), .p (eS ([] : Bytes)), .p (.val (.slice none 0 0)), .p (eB false), .p (eB false), .p (eB false), .p (.val (.slice none 0 0)), .p (.val (.slice none 0 0))])]) ([(1, [.p (eS c_0.fAddr), .p (eS c_0.fDeposed), .p (eS c_0.fType), .p (eI c_0.fAction), .p (eI c_0.fReason), .p (eI r1.fKind), .p (eI r1.fNum), .p (eS r1.fStr), .p (eL aQ r1.fItems), .p (eL eS r1.fKeys), .p (eI r3.fKind), .p (eI r3.fNum), .p (eS r3.fStr), .p (eL aQ r3.fItems), .p (eL eS r3.fKeys), .p (eS c_0.fID), .p (eL eS c_0.fReplace), .p (eB c_0.fCreateFirst), .p (eB c_0.fProtect), .p (eB c_0.fImport), .p (eL eS c_0.fDeps), .p (eL eS c_0.fOldDeps)]), (1, [.p (eS c_0.fAddr), .p (eS c_0.fDeposed), .p (eS c_0.fType), .p (eI c_0.fAction), .p (eI c_0.fReason), .p (eI r1.fKind), .p (eI r1.fNum), .p (eS r1.fStr), .p (eL aQ r1.fItems), .p (eL eS r1.fKeys), .p (eI r3.fKind), .p (eI r3.fNum), .p (eS r3.fStr), .p (eL aQ r3.fItems), .p (eL eS r3.fKeys), .p (eS c_0.fID), .p (eL eS c_0.fReplace), .p (eB c_0.fCreateFirst), .p (eB c_0.fProtect), .p (eB c_0.fImport), .p (eL eS c_0.fDeps), .p (eL eS c_0.fOldDeps)]), (1, [.p (eS c_0.fAddr), .p (eS c_0.fDeposed), .p (eS c_0.fType), .p (eI c_0.fAction), .p (eI c_0.fReason), .p (eI r1.fKind), .p (eI r1.fNum), .p (eS r1.fStr), .p (eL aQ r1.fItems), .p (eL eS r1.fKeys), .p (eI r3.fKind), .p (eI r3.fNum), .p (eS r3.fStr), .p (eL aQ r3.fItems), .p (eL eS r3.fKeys), .p (eS c_0.fID), .p (eL eS c_0.fReplace), .p (eB c_0.fCreateFirst), .p (eB c_0.fProtect), .p (eB c_0.fImport), .p (eL eS c_0.fDeps), .p (eL eS c_0.fOldDeps)]), (1, [.p (eS c_0.fAddr), .p (eS c_0.fDeposed), .p (eS c_0.fType), .p (eI c_0.fAction), .p (eI c_0.fReason), .p (eI r1.fKind), .p (eI r1.fNum), .p (eS r1.fStr), .p (eL aQ r1.fItems), .p (eL eS r1.fKeys), .p (eI r3.fKind), .p (eI r3.fNum), .p (eS r3.fStr), .p (eL aQ r3.fItems), .p (eL eS r3.fKeys), .p (eS c_0.fID), .p (eL eS c_0.fReplace), .p (eB c_0.fCreateFirst), .p (eB c_0.fProtect), .p (eB c_0.fImport), .p (eL eS c_0.fDeps), .p (eL eS c_0.fOldDeps)]), (2, [.p (eS ([] : Bytes)), .p (eS ([] : Bytes)), .p (eS ([] : Bytes)), .p (eI 0), .p (eI 0), .p (eI 0), .p (eI 0), .p (eS ([] : Bytes)), .p (.val (.slice none 0 0)), .p (.val (.slice none 0 0)), .p (eI 0), .p (eI 0), .p (eS ([] : Bytes)), .p (.val (.slice none 0 0)), .p (.val (.slice none 0 0)), .p (eS ([] : Bytes)), .p (.val (.slice none 0 0)), .p (eB false), .p (eB false), .p (eB false), .p (.val (.slice none 0 0)), .p (.val (.slice none 0 0))])]))⟩ rfl rfl rfl ⟨rfl, rfl, trivial⟩ (lt3 ⟨rfl, rfl, trivial⟩ ⟨rfl, rfl, trivial⟩ ⟨rfl, rfl, trivial⟩) rfl rfl rfl rfl ?_)
 refine az (fun _ => .ptr 1 16) rfl rfl rfl (iY rfl rfl rfl (fun _ => rfl)) (lt3 rfl rfl rfl) (al rfl (al rfl (al rfl (af [(1, _)] ⟨.inl rfl, trivial⟩ (fun sl hsl K hK => ae rfl (ah rfl rfl rfl rfl rfl rfl rfl rfl (hsl _ _ rfl) hK)) aA)))) (az (fun _ => .p (eL eS c_0.fReplace)) rfl rfl rfl (iY rfl rfl rfl (fun _ => rfl)) (lt3 rfl rfl rfl) (al rfl (al rfl (al rfl (af [(11, _)] ⟨.inr ⟨0, _, rfl, rfl, rfl⟩, trivial⟩ (fun sl hsl K hK => ae rfl (bB rfl rfl rfl rfl rfl (hsl _ _ rfl) rfl rfl hK)) aA)))) ?_)
 refine az (fun _ => .p (eL eS c_0.fReplace)) rfl rfl rfl (iY rfl rfl rfl (fun _ => rfl)) (lt3 rfl rfl rfl) (al rfl (al rfl (al rfl (af [(12, _)] ⟨.inr ⟨1, _, rfl, rfl, rfl⟩, trivial⟩ (fun sl hsl K hK => ae rfl (bj (cO c_0.fReplace hk5) rfl rfl rfl (ay (hsl _ _ rfl) bm) ⟨sr, trivial⟩ Tryz.call65 rfl hK)) aA)))) (az (fun _ => .ptr 1 20) rfl rfl rfl (iY rfl rfl rfl (fun _ => rfl)) (lt3 rfl rfl rfl) (al rfl (al rfl (al rfl (af [(1, _)] ⟨.inl rfl, trivial⟩ (fun sl hsl K hK => ae rfl (ah rfl rfl rfl rfl rfl rfl rfl rfl (hsl _ _ rfl) hK)) aA)))) ?_)
 refine az (fun _ => .p (eL eS c_0.fDeps)) rfl rfl rfl (iY rfl rfl rfl (fun _ => rfl)) (lt3 rfl rfl rfl) (al rfl (al rfl (al rfl (af [(14, _)] ⟨.inr ⟨3, _, rfl, rfl, rfl⟩, trivial⟩ (fun sl hsl K hK => ae rfl (bB rfl rfl rfl rfl rfl (hsl _ _ rfl) rfl rfl hK)) aA)))) (az (fun _ => .p (eL eS c_0.fDeps)) rfl rfl rfl (iY rfl rfl rfl (fun _ => rfl)) (lt3 rfl rfl rfl) (al rfl (al rfl (af [(15, _)] ⟨.inr ⟨4, _, rfl, rfl, rfl⟩, trivial⟩ (fun sl hsl K hK => ae rfl (bj (cO c_0.fDeps hk6) rfl rfl rfl (ay (hsl _ _ rfl) bm) ⟨sr, trivial⟩ Tryz.call65 rfl hK)) (af [(15, _)] ⟨.inr ⟨4, _, rfl, rfl, rfl⟩, trivial⟩ (fun sl hsl K hK => ae rfl (bj (cO c_0.fDeps hk6) rfl rfl rfl (ay (hsl _ _ rfl) bm) ⟨sr, trivial⟩ Tryz.call65 rfl hK)) aA)))) ?_)
 refine az (fun _ => .ptr 1 21) rfl rfl rfl (iY rfl rfl rfl (fun _ => rfl)) (lt3 rfl rfl rfl) (al rfl (al rfl (al rfl (af [(1, _)] ⟨.inl rfl, trivial⟩ (fun sl hsl K hK => ae rfl (ah rfl rfl rfl rfl rfl rfl rfl rfl (hsl _ _ rfl) hK)) aA)))) (az (fun _ => .p (eL eS c_0.fOldDeps)) rfl rfl rfl (iY rfl rfl rfl (fun _ => rfl)) (lt3 rfl rfl rfl) (al rfl (al rfl (al rfl (af [(17, _)] ⟨.inr ⟨6, _, rfl, rfl, rfl⟩, trivial⟩ (fun sl hsl K hK => ae rfl (bB rfl rfl rfl rfl rfl (hsl _ _ rfl) rfl rfl hK)) aA)))) ?_)
 refine az (fun _ => .p (eL eS c_0.fOldDeps)) rfl rfl rfl (iY rfl rfl rfl (fun _ => rfl)) (lt3 rfl rfl rfl) (al rfl (al rfl (al rfl (af [(18, _)] ⟨.inr ⟨7, _, rfl, rfl, rfl⟩, trivial⟩ (fun sl hsl K hK => ae rfl (bj (cO c_0.fOldDeps hk7) rfl rfl rfl (ay (hsl _ _ rfl) bm) ⟨sr, trivial⟩ Tryz.call65 rfl hK)) aA)))) (az (fun _ => .ptr 1 16) rfl rfl rfl (iY rfl rfl rfl (fun _ => rfl)) (lt3 rfl rfl rfl) (al rfl (al rfl (al rfl (af [(1, _)] ⟨.inl rfl, trivial⟩ (fun sl hsl K hK => ae rfl (ah rfl rfl rfl rfl rfl rfl rfl rfl (hsl _ _ rfl) hK)) aA)))) ?_)
 refine ik [(13, _), (20, _)] rfl ⟨.inr ⟨2, _, rfl, rfl, rfl⟩, .inr ⟨9, _, rfl, rfl, rfl⟩, trivial⟩ rfl (fun sl hsl K hK => ae rfl (gX rfl rfl rfl (hsl _ _ rfl) (hsl _ _ rfl) rfl rfl rfl (Nat.le_of_ble_eq_true rfl) hK)) (az (fun _ => .ptr 1 20) rfl rfl rfl (iY rfl rfl rfl (fun _ => rfl)) (lt3 rfl rfl rfl) (al rfl (al rfl (af [(1, _)] ⟨.inl rfl, trivial⟩ (fun sl hsl K hK => ae rfl (ah rfl rfl rfl rfl rfl rfl rfl rfl (hsl _ _ rfl) hK)) (al rfl aA)))) ?_)
 refine ik [(16, _), (21, _)] rfl ⟨.inr ⟨5, _, rfl, rfl, rfl⟩, .inr ⟨11, _, rfl, rfl, rfl⟩, trivial⟩ rfl (fun sl hsl K hK => ae rfl (gX rfl rfl rfl (hsl _ _ rfl) (hsl _ _ rfl) rfl rfl rfl (Nat.le_of_ble_eq_true rfl) hK)) (az (fun _ => .ptr 1 21) rfl rfl rfl (iY rfl rfl rfl (fun _ => rfl)) (lt3 rfl rfl rfl) (al rfl (af [(1, _)] ⟨.inl rfl, trivial⟩ (fun sl hsl K hK => ae rfl (ah rfl rfl rfl rfl rfl rfl rfl rfl (hsl _ _ rfl) hK)) (al rfl (al rfl aA)))) ?_)
 refine ik [(19, _), (22, _)] rfl ⟨.inr ⟨8, _, rfl, rfl, rfl⟩, .inr ⟨13, _, rfl, rfl, rfl⟩, trivial⟩ rfl (fun sl hsl K hK => ae rfl (gX rfl rfl rfl (hsl _ _ rfl) (hsl _ _ rfl) rfl rfl rfl (Nat.le_of_ble_eq_true rfl) hK)) (kQ ?_)
 exact nx 7 rfl (mQ (oi h0) rfl (sr))
def cL (n : Nat) (l_1 : List aa) : Nat → Int → (List Bytes) → Option (List Bytes)
 | 0, _, _ => none
 | m + 1, t11, l12 =>
 if t11 < (l_1.length : Int) then
  ck ((0 : Int) ≤ t11 ∧ t11 < (l_1.length : Int)) <|
  (d7 n ((lat l_1 t11).fAddr)).bind fun r15 =>
  ck ((0 : Int) ≤ t11 ∧ t11 < (l12.length : Int)) <|
  ck (inR (t11 + 1)) <|
  cL n l_1 m (t11 + 1) (l12.set t11.toNat r15.1)
 else
  some l12
def cF (n : Nat) (targets_0 : List Bytes) (l_1 : List aa) : Nat → Int → (List aa) → (List Int) → (List Bytes) → (List Bool) → Option ((List aa) × (List Int) × (List Bytes) × (List Bool))
 | 0, _, _, _, _, _ => none
 | m + 1, t39, f40, f41, l42, l43 =>
 if t39 < (l_1.length : Int) then
  (
    ck ((0 : Int) ≤ t39 ∧ t39 < (l_1.length : Int)) <|
    (dj n targets_0 ((lat l_1 t39).fAddr)).bind fun r46 =>
    if r46 = true then
     (dG (cr.mk f40 l42 l43 f41) t39).bind fun r49 =>
     some (r49.fchanges, r49.ftodo, r49.fresources, r49.fchosen)
    else
     some (f40, f41, l42, l43)
   : Option ((List aa) × (List Int) × (List Bytes) × (List Bool))).bind fun q122 =>
  ck (inR (t39 + 1)) <|
  cF n targets_0 l_1 m (t39 + 1) q122.1 q122.2.1 q122.2.2.1 q122.2.2.2
 else
  some (f40, f41, l42, l43)
def cK (n : Nat) : Nat → (List aa) → (List Int) → (List Bytes) → (List Bool) → Option ((List aa) × (List Int) × (List Bytes) × (List Bool))
 | 0, _, _, _, _ => none
 | m + 1, f76, f77, l78, l79 =>
 if 0 < (f77.length : Int) then
  ck (inR ((f77.length : Int) - 1)) <|
  ck ((0 : Int) ≤ (f77.length : Int) - 1 ∧ (f77.length : Int) - 1 < (f77.length : Int)) <|
  ck (inR ((f77.length : Int) - 1)) <|
  ck ((0 : Int) ≤ (f77.length : Int) - 1 ∧ (f77.length : Int) - 1 ≤ (f77.length : Int)) <|
  (cD n (cr.mk f76 l78 l79 (f77.take ((f77.length : Int) - 1).toNat)) (lat f77 ((f77.length : Int) - 1))).bind fun r85 =>
  cK n m r85.fchanges r85.ftodo r85.fresources r85.fchosen
 else
  some (f76, f77, l78, l79)
def cH (n : Nat) (l_1 : List aa) (l94 : List Bool) : Nat → (List aa) → Int → Option (List aa)
 | 0, _, _ => none
 | m + 1, out106, t107 =>
 if t107 < (l_1.length : Int) then
  (
    ck ((0 : Int) ≤ t107 ∧ t107 < (l_1.length : Int)) <|
    ck ((0 : Int) ≤ t107 ∧ t107 < (l94.length : Int)) <|
    if (lat l94 t107) = true then
     (eW n (lat l_1 t107)).bind fun r112 =>
     ck ((out106.length + [r112].length) * 320 ≤ 140737488355328) <|
     some (out106 ++ [r112])
    else
     some out106
   : Option (List aa)).bind fun out115 =>
  ck (inR (t107 + 1)) <|
  cH n l_1 l94 m out115 (t107 + 1)
 else
  some out106
def cq (n : Nat) (targets_0 : List Bytes) (l_1 : List aa) : Option (List aa) :=
 ck ((0 : Int) ≤ (l_1.length : Int) ∧ (l_1.length : Int) ≤ 9223372036854775807 ∧ (16 : Int) * (l_1.length : Int) ≤ 281474976710656) <|
 ck ((0 : Int) ≤ (l_1.length : Int) ∧ (l_1.length : Int) ≤ 9223372036854775807 ∧ (1 : Int) * (l_1.length : Int) ≤ 281474976710656) <|
 (cL n l_1 n 0 (List.replicate (l_1.length : Int).toNat ([] : Bytes))).bind fun l21 =>
 (cF n targets_0 l_1 n 0 l_1 [] l21 (List.replicate (l_1.length : Int).toNat (false : Bool))).bind fun q121 =>
 (cK n n q121.1 q121.2.1 q121.2.2.1 q121.2.2.2).bind fun q123 =>
 (cH n l_1 q123.2.2.2 n [] 0).bind fun out119 =>
 some out119
set_option maxHeartbeats 4000000 in
theorem dP (n : Nat) (targets_0 : List Bytes) (l_1 : List aa) (r : (List aa)) (h0 : cq n targets_0 l_1 = some r) : aF Tryz.prog 23 [eL eS targets_0, eL ac l_1] (· = .p (eL ac r)) := by
 unfold cq at h0
 refine bG good Tryz.func23 rfl rfl rfl fun w0 => mP (fun v : (List aa) => .p (eL ac v)) ?_
 refine nx 5 rfl (cc' h0 fun hk1 h0 => ?_)
 refine cc' h0 fun hk2 h0 => mG (gE (t := ⟨[(0, .p (eL eS targets_0)), (1, .p (eL ac l_1))], []⟩) rfl rfl) (mSS ⟨5, [3, 6, 7, 8, 9], (by6 (.some fun i => Nat.beq i 17) (.some fun i => Nat.beq i 20) .none (.some fun i => Nat.beq i 22) .none .none), (fun _ => [(0, .p (eL eS targets_0)), (1, .p (eL ac l_1))]), (by6 [] ([(17, ((List.replicate (l_1.length : Int).toNat ([] : Bytes)).map eS).map .p)]) ([(20, ((List.replicate (l_1.length : Int).toNat (false : Bool)).map eB).map .p), (17, ((List.replicate (l_1.length : Int).toNat ([] : Bytes)).map eS).map .p)]) ([(20, ((List.replicate (l_1.length : Int).toNat (false : Bool)).map eB).map .p), (17, ((List.replicate (l_1.length : Int).toNat ([] : Bytes)).map eS).map .p)]) ([(22, [.p (eL ac l_1), .arr 17 1 0 ((List.replicate (l_1.length : Int).toNat ([] : Bytes)).length), .arr 20 1 0 ((List.replicate (l_1.length : Int).toNat (false : Bool)).length), .p (.val (.slice none 0 0))]), (20, ((List.replicate (l_1.length : Int).toNat (false : Bool)).map eB).map .p), (17, ((List.replicate (l_1.length : Int).toNat ([] : Bytes)).map eS).map .p)]) ([(22, [.p (eL ac l_1), .arr 17 1 0 ((List.replicate (l_1.length : Int).toNat ([] : Bytes)).length), .arr 20 1 0 ((List.replicate (l_1.length : Int).toNat (false : Bool)).length), .p (.val (.slice none 0 0))]), (20, ((List.replicate (l_1.length : Int).toNat (false : Bool)).map eB).map .p), (17, ((List.replicate (l_1.length : Int).toNat ([] : Bytes)).map eS).map .p)]))⟩ ⟨5, [6, 3, 7, 8, 9], (by6 (.some fun i => Nat.beq i 20) (.some fun i => Nat.beq i 17) .none (.some fun i => Nat.beq i 22) .none .none), (fun _ => [(0, .p (eL eS targets_0)), (1, .p (eL ac l_1))]), (by6 [] [(20, ((List.replicate (l_1.length : Int).toNat (false : Bool)).map eB).map .p)] ([(17, ((List.replicate (l_1.length : Int).toNat ([] : Bytes)).map eS).map .p), (20, ((List.replicate (l_1.length : Int).toNat (false : Bool)).map eB).map .p)]) ([(17, ((List.replicate (l_1.length : Int).toNat ([] : Bytes)).map eS).map .p), (20, ((List.replicate (l_1.length : Int).toNat (false : Bool)).map eB).map .p)]) ([(22, [.p (eL ac l_1), .arr 17 1 0 ((List.replicate (l_1.length : Int).toNat ([] : Bytes)).length), .arr 20 1 0 ((List.replicate (l_1.length : Int).toNat (false : Bool)).length), .p (.val (.slice none 0 0))]), (17, ((List.replicate (l_1.length : Int).toNat ([] : Bytes)).map eS).map .p), (20, ((List.replicate (l_1.length : Int).toNat (false : Bool)).map eB).map .p)]) ([(22, [.p (eL ac l_1), .arr 17 1 0 ((List.replicate (l_1.length : Int).toNat ([] : Bytes)).length), .arr 20 1 0 ((List.replicate (l_1.length : Int).toNat (false : Bool)).length), .p (.val (.slice none 0 0))]), (17, ((List.replicate (l_1.length : Int).toNat ([] : Bytes)).map eS).map .p), (20, ((List.replicate (l_1.length : Int).toNat (false : Bool)).map eB).map .p)]))⟩ rfl rfl rfl rfl rfl rfl rfl ⟨rfl, rfl, trivial⟩ rfl (lt5 ⟨rfl, rfl, trivial⟩ ⟨rfl, rfl, trivial⟩ ⟨rfl, rfl, trivial⟩ ⟨rfl, rfl, trivial⟩ ⟨rfl, rfl, trivial⟩) (lt5 ⟨rfl, rfl, trivial⟩ ⟨rfl, rfl, trivial⟩ ⟨rfl, rfl, trivial⟩ ⟨rfl, rfl, trivial⟩ ⟨rfl, rfl, trivial⟩) rfl rfl rfl rfl rfl ?_)
 refine az (fun _ => .p (eL ac l_1)) rfl rfl rfl (mu rfl rfl rfl rfl rfl (fun _ => rfl)) (lt5 rfl rfl rfl rfl rfl) (al rfl (al rfl (al rfl (af [(1, _)] ⟨.inl rfl, trivial⟩ (fun sl hsl K hK => ae rfl (aR rfl rfl rfl (hsl _ _ rfl) hK)) (af [(1, _)] ⟨.inl rfl, trivial⟩ (fun sl hsl K hK => ae rfl (aR rfl rfl rfl (hsl _ _ rfl) hK)) (af [(1, _)] ⟨.inl rfl, trivial⟩ (fun sl hsl K hK => ae rfl (aR rfl rfl rfl (hsl _ _ rfl) hK)) aA)))))) (az (fun _ => .p (eL ac l_1)) rfl rfl rfl (mu rfl rfl rfl rfl rfl (fun _ => rfl)) (lt5 rfl rfl rfl rfl rfl) (al rfl (af [(1, _)] ⟨.inl rfl, trivial⟩ (fun sl hsl K hK => ae rfl (aR rfl rfl rfl (hsl _ _ rfl) hK)) (af [(1, _)] ⟨.inl rfl, trivial⟩ (fun sl hsl K hK => ae rfl (aR rfl rfl rfl (hsl _ _ rfl) hK)) (af [(1, _)] ⟨.inl rfl, trivial⟩ (fun sl hsl K hK => ae rfl (aR rfl rfl rfl (hsl _ _ rfl) hK)) (af [(1, _)] ⟨.inl rfl, trivial⟩ (fun sl hsl K hK => ae rfl (aR rfl rfl rfl (hsl _ _ rfl) hK)) (af [(1, _)] ⟨.inl rfl, trivial⟩ (fun sl hsl K hK => ae rfl (aR rfl rfl rfl (hsl _ _ rfl) hK)) aA)))))) ?_)
 refine az (fun _ => .p (eI (l_1.length : Int))) rfl rfl rfl (mu rfl rfl rfl rfl rfl (fun _ => rfl)) (lt5 rfl rfl rfl rfl rfl) (al rfl (al rfl (al rfl (al rfl (al rfl (af [(15, _)] ⟨.inr ⟨1, _, rfl, rfl, rfl⟩, trivial⟩ (fun sl hsl K hK => ae rfl (jw (f := ac) (l := l_1) rfl rfl rfl rfl rfl (hsl _ _ rfl) rfl hK)) aA)))))) ?_
 skip; refine fO (fun _ => .arr 17 1 0 ((List.replicate (l_1.length : Int).toNat ([] : Bytes)).length)) [(16, _)] rfl ⟨.inr ⟨2, _, rfl, rfl, rfl⟩, trivial⟩ rfl rfl (BO rfl rfl rfl rfl (fun _ => rfl)) (lt5 (fun h => absurd h (by decide)) (fun _ => rfl) (fun _ => rfl) (fun _ => rfl) (fun _ => rfl)) (fun sl hsl K hK => ae rfl (oo eS ([] : Bytes) rfl rfl rfl rfl rfl rfl rfl rfl rfl (hsl _ _ rfl) (hsl _ _ rfl) hk1 (by repeat (first | exact rfl | apply lW rfl | apply dmO_drop rfl | apply lH rfl rfl)) hK)) ?_
 refine az (fun _ => .p (eL ac l_1)) rfl rfl rfl (mu rfl rfl rfl rfl rfl (fun _ => rfl)) (lt5 rfl rfl rfl rfl rfl) (al rfl (af [(1, _)] ⟨.inl rfl, trivial⟩ (fun sl hsl K hK => ae rfl (aR rfl rfl rfl (hsl _ _ rfl) hK)) (af [(1, _)] ⟨.inl rfl, trivial⟩ (fun sl hsl K hK => ae rfl (aR rfl rfl rfl (hsl _ _ rfl) hK)) (af [(1, _)] ⟨.inl rfl, trivial⟩ (fun sl hsl K hK => ae rfl (aR rfl rfl rfl (hsl _ _ rfl) hK)) (af [(1, _)] ⟨.inl rfl, trivial⟩ (fun sl hsl K hK => ae rfl (aR rfl rfl rfl (hsl _ _ rfl) hK)) (af [(1, _)] ⟨.inl rfl, trivial⟩ (fun sl hsl K hK => ae rfl (aR rfl rfl rfl (hsl _ _ rfl) hK)) aA)))))) (az (fun _ => .p (eI (l_1.length : Int))) rfl rfl rfl (mu rfl rfl rfl rfl rfl (fun _ => rfl)) (lt5 rfl rfl rfl rfl rfl) (al rfl (al rfl (al rfl (al rfl (af [(18, _)] ⟨.inr ⟨4, _, rfl, rfl, rfl⟩, trivial⟩ (fun sl hsl K hK => ae rfl (jw (f := ac) (l := l_1) rfl rfl rfl rfl rfl (hsl _ _ rfl) rfl hK)) (af [(18, _)] ⟨.inr ⟨4, _, rfl, rfl, rfl⟩, trivial⟩ (fun sl hsl K hK => ae rfl (jw (f := ac) (l := l_1) rfl rfl rfl rfl rfl (hsl _ _ rfl) rfl hK)) aA)))))) ?_)
 skip; refine fO (fun _ => .arr 20 1 0 ((List.replicate (l_1.length : Int).toNat (false : Bool)).length)) [(19, _)] rfl ⟨.inr ⟨5, _, rfl, rfl, rfl⟩, trivial⟩ rfl rfl (iY rfl rfl rfl (fun _ => rfl)) (lt5 (fun h => absurd h (by decide)) (fun h => absurd h (by decide)) (fun _ => rfl) (fun _ => rfl) (fun _ => rfl)) (fun sl hsl K hK => ae rfl (oo eB (false : Bool) rfl rfl rfl rfl rfl rfl rfl rfl rfl (hsl _ _ rfl) (hsl _ _ rfl) hk2 (by repeat (first | exact rfl | apply lW rfl | apply dmO_drop rfl | apply lH rfl rfl)) hK)) ?_
 refine fO (fun _ => .agg [.p (eL ac l_1), .arr 17 1 0 ((List.replicate (l_1.length : Int).toNat ([] : Bytes)).length), .arr 20 1 0 ((List.replicate (l_1.length : Int).toNat (false : Bool)).length), .p (.val (.slice none 0 0))]) [(14, _), (17, _), (20, _)] rfl ⟨.inr ⟨0, _, rfl, rfl, rfl⟩, .inr ⟨3, _, rfl, rfl, rfl⟩, .inr ⟨6, _, rfl, rfl, rfl⟩, trivial⟩ rfl rfl (pD rfl rfl (fun _ => rfl)) (lt5 (fun h => absurd h (by decide)) (fun h => absurd h (by decide)) (fun h => absurd h (by decide)) (fun _ => rfl) (fun _ => rfl)) (fun sl hsl K hK => ae rfl (rt rfl rfl rfl rfl rfl rfl (jr (hsl _ _ rfl) (jr (hsl _ _ rfl) (jr (hsl _ _ rfl) sV))) rfl rfl hK)) ?_
 skip; refine fO (fun _ => .ptr 22 0) [(21, _)] rfl ⟨.inr ⟨7, _, rfl, rfl, rfl⟩, trivial⟩ rfl rfl (d5 rfl (fun _ => rfl)) (lt5 (fun h => absurd h (by decide)) (fun h => absurd h (by decide)) (fun h => absurd h (by decide)) (fun h => absurd h (by decide)) (fun _ => rfl)) (fun sl hsl K hK => ae rfl (wM rfl rfl rfl (hsl _ _ rfl) rfl rfl (by repeat (first | exact rfl | apply lW rfl | apply dmO_drop rfl | apply lH rfl rfl)) hK)) ?_
 refine fO (fun _ => .ptr 22 0) [(22, _)] rfl ⟨.inr ⟨8, _, rfl, rfl, rfl⟩, trivial⟩ rfl rfl (fun _ => rfl) (lt5 (fun h => absurd h (by decide)) (fun h => absurd h (by decide)) (fun h => absurd h (by decide)) (fun h => absurd h (by decide)) (fun h => absurd h (by decide))) (fun sl hsl K hK => ae rfl (bp rfl rfl rfl (hsl _ _ rfl) hK)) ?_
 skip; refine BB (az (fun _ => .p (eL ac l_1)) rfl rfl rfl (mu rfl rfl rfl rfl rfl (fun _ => rfl)) (lt5 rfl rfl rfl rfl rfl) (al rfl (al rfl (al rfl (af [(1, _)] ⟨.inl rfl, trivial⟩ (fun sl hsl K hK => ae rfl (aR rfl rfl rfl (hsl _ _ rfl) hK)) (af [(1, _)] ⟨.inl rfl, trivial⟩ (fun sl hsl K hK => ae rfl (aR rfl rfl rfl (hsl _ _ rfl) hK)) (af [(1, _)] ⟨.inl rfl, trivial⟩ (fun sl hsl K hK => ae rfl (aR rfl rfl rfl (hsl _ _ rfl) hK)) aA)))))) (az (fun _ => .p (eL ac l_1)) rfl rfl rfl (mu rfl rfl rfl rfl rfl (fun _ => rfl)) (lt5 rfl rfl rfl rfl rfl) (al rfl (af [(1, _)] ⟨.inl rfl, trivial⟩ (fun sl hsl K hK => ae rfl (aR rfl rfl rfl (hsl _ _ rfl) hK)) (af [(1, _)] ⟨.inl rfl, trivial⟩ (fun sl hsl K hK => ae rfl (aR rfl rfl rfl (hsl _ _ rfl) hK)) (af [(1, _)] ⟨.inl rfl, trivial⟩ (fun sl hsl K hK => ae rfl (aR rfl rfl rfl (hsl _ _ rfl) hK)) (af [(1, _)] ⟨.inl rfl, trivial⟩ (fun sl hsl K hK => ae rfl (aR rfl rfl rfl (hsl _ _ rfl) hK)) (af [(1, _)] ⟨.inl rfl, trivial⟩ (fun sl hsl K hK => ae rfl (aR rfl rfl rfl (hsl _ _ rfl) hK)) aA)))))) (az (fun _ => .p (eI (l_1.length : Int))) rfl rfl rfl (mu rfl rfl rfl rfl rfl (fun _ => rfl)) (lt5 rfl rfl rfl rfl rfl) (al rfl (al rfl (al rfl (al rfl (af [(15, _)] ⟨.inr ⟨1, _, rfl, rfl, rfl⟩, trivial⟩ (fun sl hsl K hK => ae rfl (jw (f := ac) (l := l_1) rfl rfl rfl rfl rfl (hsl _ _ rfl) rfl hK)) (af [(15, _)] ⟨.inr ⟨1, _, rfl, rfl, rfl⟩, trivial⟩ (fun sl hsl K hK => ae rfl (jw (f := ac) (l := l_1) rfl rfl rfl rfl rfl (hsl _ _ rfl) rfl hK)) aA)))))) (fO (fun _ => .arr 17 1 0 ((List.replicate (l_1.length : Int).toNat ([] : Bytes)).length)) [(16, _)] rfl ⟨.inr ⟨2, _, rfl, rfl, rfl⟩, trivial⟩ rfl rfl (iY rfl rfl rfl (fun _ => rfl)) (lt5 (fun h => absurd h (by decide)) (fun h => absurd h (by decide)) (fun _ => rfl) (fun _ => rfl) (fun _ => rfl)) (fun sl hsl K hK => ae rfl (oo eS ([] : Bytes) rfl rfl rfl rfl rfl rfl rfl rfl rfl (hsl _ _ rfl) (hsl _ _ rfl) hk1 (by repeat (first | exact rfl | apply lW rfl | apply dmO_drop rfl | apply lH rfl rfl)) hK)) (az (fun _ => .p (eL ac l_1)) rfl rfl rfl (mu rfl rfl rfl rfl rfl (fun _ => rfl)) (lt5 rfl rfl rfl rfl rfl) (al rfl (af [(1, _)] ⟨.inl rfl, trivial⟩ (fun sl hsl K hK => ae rfl (aR rfl rfl rfl (hsl _ _ rfl) hK)) (af [(1, _)] ⟨.inl rfl, trivial⟩ (fun sl hsl K hK => ae rfl (aR rfl rfl rfl (hsl _ _ rfl) hK)) (af [(1, _)] ⟨.inl rfl, trivial⟩ (fun sl hsl K hK => ae rfl (aR rfl rfl rfl (hsl _ _ rfl) hK)) (af [(1, _)] ⟨.inl rfl, trivial⟩ (fun sl hsl K hK => ae rfl (aR rfl rfl rfl (hsl _ _ rfl) hK)) (af [(1, _)] ⟨.inl rfl, trivial⟩ (fun sl hsl K hK => ae rfl (aR rfl rfl rfl (hsl _ _ rfl) hK)) aA)))))) (az (fun _ => .p (eI (l_1.length : Int))) rfl rfl rfl (mu rfl rfl rfl rfl rfl (fun _ => rfl)) (lt5 rfl rfl rfl rfl rfl) (al rfl (al rfl (al rfl (al rfl (al rfl (af [(18, _)] ⟨.inr ⟨4, _, rfl, rfl, rfl⟩, trivial⟩ (fun sl hsl K hK => ae rfl (jw (f := ac) (l := l_1) rfl rfl rfl rfl rfl (hsl _ _ rfl) rfl hK)) aA)))))) (fO (fun _ => .arr 20 1 0 ((List.replicate (l_1.length : Int).toNat (false : Bool)).length)) [(19, _)] rfl ⟨.inr ⟨5, _, rfl, rfl, rfl⟩, trivial⟩ rfl rfl (BO rfl rfl rfl rfl (fun _ => rfl)) (lt5 (fun h => absurd h (by decide)) (fun _ => rfl) (fun _ => rfl) (fun _ => rfl) (fun _ => rfl)) (fun sl hsl K hK => ae rfl (oo eB (false : Bool) rfl rfl rfl rfl rfl rfl rfl rfl rfl (hsl _ _ rfl) (hsl _ _ rfl) hk2 (by repeat (first | exact rfl | apply lW rfl | apply dmO_drop rfl | apply lH rfl rfl)) hK)) (fO (fun _ => .agg [.p (eL ac l_1), .arr 17 1 0 ((List.replicate (l_1.length : Int).toNat ([] : Bytes)).length), .arr 20 1 0 ((List.replicate (l_1.length : Int).toNat (false : Bool)).length), .p (.val (.slice none 0 0))]) [(14, _), (17, _), (20, _)] rfl ⟨.inr ⟨0, _, rfl, rfl, rfl⟩, .inr ⟨3, _, rfl, rfl, rfl⟩, .inr ⟨6, _, rfl, rfl, rfl⟩, trivial⟩ rfl rfl (pD rfl rfl (fun _ => rfl)) (lt5 (fun h => absurd h (by decide)) (fun h => absurd h (by decide)) (fun h => absurd h (by decide)) (fun _ => rfl) (fun _ => rfl)) (fun sl hsl K hK => ae rfl (rt rfl rfl rfl rfl rfl rfl (jr (hsl _ _ rfl) (jr (hsl _ _ rfl) (jr (hsl _ _ rfl) sV))) rfl rfl hK)) (fO (fun _ => .ptr 22 0) [(21, _)] rfl ⟨.inr ⟨7, _, rfl, rfl, rfl⟩, trivial⟩ rfl rfl (d5 rfl (fun _ => rfl)) (lt5 (fun h => absurd h (by decide)) (fun h => absurd h (by decide)) (fun h => absurd h (by decide)) (fun h => absurd h (by decide)) (fun _ => rfl)) (fun sl hsl K hK => ae rfl (wM rfl rfl rfl (hsl _ _ rfl) rfl rfl (by repeat (first | exact rfl | apply lW rfl | apply dmO_drop rfl | apply lH rfl rfl)) hK)) (fO (fun _ => .ptr 22 0) [(22, _)] rfl ⟨.inr ⟨8, _, rfl, rfl, rfl⟩, trivial⟩ rfl rfl (fun _ => rfl) (lt5 (fun h => absurd h (by decide)) (fun h => absurd h (by decide)) (fun h => absurd h (by decide)) (fun h => absurd h (by decide)) (fun h => absurd h (by decide))) (fun sl hsl K hK => ae rfl (bp rfl rfl rfl (hsl _ _ rfl) hK)) (BE rfl ⟨rfl, rfl, rfl, trivial⟩ ⟨⟨rfl, rfl, .inl rfl⟩, ⟨⟨rfl, rfl, .inl rfl⟩, ⟨⟨rfl, rfl, .inl rfl⟩, ⟨⟨rfl, rfl, .inl rfl⟩, ⟨⟨rfl, rfl, .inr rfl⟩, ⟨⟨rfl, rfl, .inr rfl⟩, ⟨⟨rfl, rfl, .inl rfl⟩, ⟨⟨rfl, rfl, .inr rfl⟩, ⟨⟨rfl, rfl, .inr rfl⟩, ⟨⟨rfl, rfl, .inr rfl⟩, trivial⟩⟩⟩⟩⟩⟩⟩⟩⟩⟩))))))))))) ?_
 refine nx 5 rfl (oLl (f := ac) rfl rfl ?_)
 refine nx 3 rfl (bd h0 fun o126 h1 h0 => ?_)
 refine kE 0 o126 (fun v127 => ⟨[(0, .p (eL eS targets_0)), (1, .p (eL ac l_1)), (5, .ptr 22 0)], [(22, [.p (eL ac l_1), .arr 17 1 0 v127.length, .arr 20 1 0 ((List.replicate (l_1.length : Int).toNat (false : Bool)).length), .p (.val (.slice none 0 0))]), (17, (v127.map eS).map .p), (20, ((List.replicate (l_1.length : Int).toNat (false : Bool)).map eB).map .p)]⟩) ?_ ?_
 ·refine nx 5 rfl (oLl (f := ac) rfl rfl ?_)
  refine nx 3 rfl (bd h0 fun o128 h1 h0 => ?_)
  refine kE 2 o128 (fun v129 => ⟨[(1, .p (eL ac l_1)), (5, .ptr 22 0)], [(22, [.p (eL ac v129.1), .arr 17 1 0 v129.2.2.1.length, .arr 20 1 0 v129.2.2.2.length, .stk 101000 1 (v129.2.1.map eI)]), (17, (v129.2.2.1.map eS).map .p), (20, (v129.2.2.2.map eB).map .p)]⟩) ?_ ?_
  ·refine nx 3 rfl (bd h0 fun o130 h1 h0 => ?_)
   refine kE 4 o130 (fun v131 => ⟨[(1, .p (eL ac l_1)), (5, .ptr 22 0)], [(22, [.p (eL ac v131.1), .arr 17 1 0 v131.2.2.1.length, .arr 20 1 0 v131.2.2.2.length, .stk 103000 1 (v131.2.1.map eI)]), (17, (v131.2.2.1.map eS).map .p), (20, (v131.2.2.2.map eB).map .p)]⟩) ?_ ?_
   ·refine nx 9 rfl (oLl (f := ac) rfl rfl ?_)
    refine nx 3 rfl (bd h0 fun o132 h1 h0 => ?_)
    refine kE 6 o132 (fun v133 => ⟨[(11, .vec 111 22 0 (v133.map ac))], []⟩) ?_ ?_
    ·exact nx 7 rfl (mQ (oi h0) rfl (AV.sub_vec _ _ _ _))
    refine lG (fun (q134 : (List aa) × Int) => ⟨[(5, .ptr 22 0), (11, .vec 111 22 0 (q134.1.map ac)), (93, .p (eL ac l_1)), (94, .p (eI (l_1.length : Int))), (95, .p (eI q134.2))], [(22, [.p (eL ac o130.1), .arr 17 1 0 o130.2.2.1.length, .arr 20 1 0 o130.2.2.2.length, .stk 103000 1 (o130.2.1.map eI)]), (17, (o130.2.2.1.map eS).map .p), (20, (o130.2.2.2.map eB).map .p)]⟩) (fun m (q134 : (List aa) × Int) => cH n l_1 o130.2.2.2 m q134.1 q134.2) (fun _ => rfl) ([], 0) h1 (b7 (cj ⟨er rfl, ⟨_, rfl, AV.sub_nilvec _ _ _⟩, er rfl, er rfl, er rfl, trivial⟩ ⟨⟨_, rfl, ⟨sr, sr, sr, sr, trivial⟩⟩, ⟨_, rfl, ap _⟩, ⟨_, rfl, ap _⟩, trivial⟩)) ?_
    rintro m ⟨out106, t107⟩ h1
    replace h1 : cH n l_1 o130.2.2.2 (m + 1) out106 t107 = some o132 := h1
    rw [cH] at h1
    refine nx 5 rfl (fD [96] h1 rfl (fun c108 h1 => ?_) fun c108 h1 => ?_)
    ·refine nx 3 rfl (bd h1 fun o135 h2 h1 => ?_)
     refine kN o135 (fun v136 => ⟨[(5, .ptr 22 0), (11, .vec 111 22 0 (v136.map ac)), (93, .p (eL ac l_1)), (94, .p (eI (l_1.length : Int))), (95, .p (eI t107))], [(22, [.p (eL ac o130.1), .arr 17 1 0 o130.2.2.1.length, .arr 20 1 0 o130.2.2.2.length, .stk 103000 1 (o130.2.1.map eI)]), (17, (o130.2.2.1.map eS).map .p), (20, (o130.2.2.2.map eB).map .p)]⟩) ?_ ?_
     ·refine nx 2 rfl (oA h1 rfl rfl fun hk116 h1 => ?_)
      exact nx 2 rfl (eX (o135, t107 + 1) h1 (gE rfl rfl))
     refine nx 4 rfl (oE h2 aa.cells_eq rfl rfl (fun _ => rfl) fun hk109 h2 => ?_)
     refine nx 1 rfl (mO rfl (ln rfl rfl rfl rfl rfl ?_))
     refine mG (lB (show kM _ _ = _ from (by repeat (first | exact iI _ | apply demOb_drop rfl | apply dw rfl (lT _ _) | apply dw rfl rfl)))) (nx 10 rfl ?_)
     refine cc' h2 fun hk110 h2 => mO rfl (aW rfl rfl rfl rfl rfl rfl rfl rfl rfl hk110 ?_)
     refine mO rfl (bw (default : Bool) (f := eB) (l := o130.2.2.2) rfl rfl rfl rfl rfl rfl rfl (by have := hk110; omega) ?_)
     refine nx 1 rfl (fB [106] h2 rfl (fun c111 h2 => ?_) fun c111 h2 => ?_)
     ·refine nx 4 rfl (bd h2 fun r112 e113 h2 => ?_)
      refine oK (pG _ (lat l_1 t107) _ e113) rfl ⟨sr, trivial⟩ Tryz.call41 rfl (mO rfl (bN ac [r112] rfl rfl rfl rfl rfl rfl rfl rfl rfl rfl rfl rfl rfl (by first | rfl | (simp only [List.map_cons, List.map_nil, aa.agg_eq]; done) | (simp only [List.map_cons, List.map_nil, aa.agg_eq]; rfl)) ?_))
      refine cc' h2 fun hk114 h2 => mO rfl (fL ac out106 [r112] rfl rfl rfl rfl rfl rfl rfl rfl rfl rfl rfl rfl rfl (fun x => congrArg List.length (aa.cells_eq x)) rfl rfl rfl rfl hk114 ?_)
      refine mG (yg (show kM _ _ = _ from (by repeat (first | exact iI _ | apply demOb_drop rfl | apply dw rfl (lT _ _) | apply dw rfl rfl)))) (nx 2 rfl ?_)
      exact eX _ (oi h2).symm (gE rfl rfl)
     exact nx 2 rfl (eX _ (oi h2).symm (gE rfl rfl))
    exact nx 2 rfl (eXi _ (oi h1).symm (gE rfl rfl))
   skip; refine mG (bz 101000 103000 rfl rfl rfl rfl (by repeat (first | exact rfl | exact aM _ | apply aJ))) ?_
   refine lG (fun (q137 : (List aa) × (List Int) × (List Bytes) × (List Bool)) => ⟨[(1, .p (eL ac l_1)), (5, .ptr 22 0)], [(22, [.p (eL ac q137.1), .arr 17 1 0 q137.2.2.1.length, .arr 20 1 0 q137.2.2.2.length, .stk 103000 1 (q137.2.1.map eI)]), (17, (q137.2.2.1.map eS).map .p), (20, (q137.2.2.2.map eB).map .p)]⟩) (fun m (q137 : (List aa) × (List Int) × (List Bytes) × (List Bool)) => cK n m q137.1 q137.2.1 q137.2.2.1 q137.2.2.2) (fun _ => rfl) (o128.1, o128.2.1, o128.2.2.1, o128.2.2.2) h1 (b7 (cj ⟨er rfl, er rfl, trivial⟩ ⟨⟨_, rfl, ⟨sr, AV.sub_of_eq (by first | rfl | (simp; done) | (simp [AV.dem]; rfl)), AV.sub_of_eq (by first | rfl | (simp; done) | (simp [AV.dem]; rfl)), sr, trivial⟩⟩, ⟨_, rfl, ap _⟩, ⟨_, rfl, ap _⟩, trivial⟩)) ?_
   rintro m ⟨f76, f77, l78, l79⟩ h1
   replace h1 : cK n (m + 1) f76 f77 l78 l79 = some o130 := h1
   rw [cK] at h1
   refine nx 7 rfl (mO rfl (lA eI f77 rfl rfl rfl rfl rfl rfl ?_))
   refine nx 2 rfl (fD [63] h1 rfl (fun c80 h1 => ?_) fun c80 h1 => ?_)
   ·refine nx 4 rfl (cc' h1 fun hk81 h1 => ?_)
    refine cc' h1 fun hk82 h1 => mD [(1, .p (eL ac l_1)), (5, .ptr 22 0)] rfl ⟨rfl, rfl, trivial⟩ rfl (dR 8 rfl ?_)
    refine dq (.p (eI (f77.length : Int))) [71] rfl (fun _ e _ q => ae rfl (lA eI f77 rfl rfl rfl rfl rfl (e _ _ rfl) q)) rfl (dq (.p (eI ((f77.length : Int) - 1))) [72] rfl (fun _ e _ q => ae rfl (eV rfl rfl rfl (e _ _ rfl) rfl rfl hk81 q)) rfl ?_)
    refine dq (.ptr 103000 ((f77.length : Int) - 1).toNat) [67,73] rfl (fun _ e _ q => ae rfl (mx eI f77 rfl rfl rfl rfl rfl rfl (e _ _ rfl) (e _ _ rfl) rfl hk82 q)) rfl (dq (.p (eI (lat f77 ((f77.length : Int) - 1)))) [74] rfl (fun _ e _ q => ae rfl (vm eI (fun _ => ⟨rfl, rfl⟩) f77 22 3 rfl rfl rfl rfl rfl (e _ _ rfl) rfl rfl hk82 q)) rfl ?_)
    refine dR 1 rfl (dE rfl ?_)
    refine nx 2 rfl (cc' h1 fun hk83 h1 => ?_)
    refine cc' h1 fun hk84 h1 => mG (gE (t := ⟨[(1, .p (eL ac l_1)), (5, .ptr 22 0), (10, .p (eI (lat f77 ((f77.length : Int) - 1))))], [(22, [.p (eL ac f76), .arr 17 1 0 l78.length, .arr 20 1 0 l79.length, .stk 103000 1 (f77.map eI)]), (17, (l78.map eS).map .p), (20, (l79.map eB).map .p)]⟩) rfl rfl) (mS ⟨1, [14], (fun _ => .none), (fun _ => [(1, .p (eL ac l_1)), (5, .ptr 22 0), (10, .p (eI (lat f77 ((f77.length : Int) - 1))))]), (by2 ([(22, [.p (eL ac f76), .arr 17 1 0 l78.length, .arr 20 1 0 l79.length, .stk 103000 1 (f77.map eI)]), (17, (l78.map eS).map .p), (20, (l79.map eB).map .p)]) ([(22, [.p (eL ac f76), .arr 17 1 0 l78.length, .arr 20 1 0 l79.length, .stk 103000 1 ((f77.take ((f77.length : Int) - 1).toNat).map eI)]), (22, [.p (eL ac f76), .arr 17 1 0 l78.length, .arr 20 1 0 l79.length, .stk 103000 1 (f77.map eI)]), (17, (l78.map eS).map .p), (20, (l79.map eB).map .p)]))⟩ rfl rfl rfl ⟨rfl, rfl, rfl, trivial⟩ (lt1 ⟨rfl, rfl, rfl, trivial⟩) rfl rfl rfl rfl ?_)
    refine az (fun _ => .ptr 22 0) rfl rfl rfl (d5 rfl (fun _ => rfl)) (lt1 rfl) (al rfl (af [(5, _)] ⟨.inl rfl, trivial⟩ (fun sl hsl K hK => ae rfl (aR rfl rfl rfl (hsl _ _ rfl) hK)) aA)) (az (fun _ => .ptr 22 0) rfl rfl rfl (d5 rfl (fun _ => rfl)) (lt1 rfl) (al rfl (af [(5, _)] ⟨.inl rfl, trivial⟩ (fun sl hsl K hK => ae rfl (aR rfl rfl rfl (hsl _ _ rfl) hK)) aA)) ?_)
    refine az (fun _ => .ptr 22 0) rfl rfl rfl (d5 rfl (fun _ => rfl)) (lt1 rfl) (al rfl (af [(77, _)] ⟨.inr ⟨1, _, rfl, rfl, rfl⟩, trivial⟩ (fun sl hsl K hK => ae rfl (g7 rfl rfl rfl (hsl _ _ rfl) hK)) aA)) (az (fun _ => .ptr 22 3) rfl rfl rfl (d5 rfl (fun _ => rfl)) (lt1 rfl) (al rfl (af [(78, _)] ⟨.inr ⟨2, _, rfl, rfl, rfl⟩, trivial⟩ (fun sl hsl K hK => ae rfl (ah rfl rfl rfl rfl rfl rfl rfl rfl (hsl _ _ rfl) hK)) aA)) ?_)
    refine az (fun _ => .stk 103000 1 (f77.map eI)) rfl rfl rfl (d5 rfl (fun _ => rfl)) (lt1 rfl) (al rfl (af [(79, _)] ⟨.inr ⟨3, _, rfl, rfl, rfl⟩, trivial⟩ (fun sl hsl K hK => ae rfl (bB rfl rfl rfl rfl rfl (hsl _ _ rfl) rfl rfl hK)) aA)) (az (fun _ => .ptr 22 0) rfl rfl rfl (d5 rfl (fun _ => rfl)) (lt1 rfl) (al rfl (af [(5, _)] ⟨.inl rfl, trivial⟩ (fun sl hsl K hK => ae rfl (aR rfl rfl rfl (hsl _ _ rfl) hK)) aA)) ?_)
    refine az (fun _ => .ptr 22 0) rfl rfl rfl (d5 rfl (fun _ => rfl)) (lt1 rfl) (al rfl (af [(81, _)] ⟨.inr ⟨5, _, rfl, rfl, rfl⟩, trivial⟩ (fun sl hsl K hK => ae rfl (g7 rfl rfl rfl (hsl _ _ rfl) hK)) aA)) (az (fun _ => .ptr 22 3) rfl rfl rfl (d5 rfl (fun _ => rfl)) (lt1 rfl) (al rfl (af [(82, _)] ⟨.inr ⟨6, _, rfl, rfl, rfl⟩, trivial⟩ (fun sl hsl K hK => ae rfl (ah rfl rfl rfl rfl rfl rfl rfl rfl (hsl _ _ rfl) hK)) aA)) ?_)
    refine az (fun _ => .stk 103000 1 (f77.map eI)) rfl rfl rfl (d5 rfl (fun _ => rfl)) (lt1 rfl) (al rfl (af [(83, _)] ⟨.inr ⟨7, _, rfl, rfl, rfl⟩, trivial⟩ (fun sl hsl K hK => ae rfl (bB rfl rfl rfl rfl rfl (hsl _ _ rfl) rfl rfl hK)) aA)) (az (fun _ => .p (eI (f77.length : Int))) rfl rfl rfl (d5 rfl (fun _ => rfl)) (lt1 rfl) (al rfl (af [(84, _)] ⟨.inr ⟨8, _, rfl, rfl, rfl⟩, trivial⟩ (fun sl hsl K hK => ae rfl (lA eI f77 rfl rfl rfl rfl rfl (hsl _ _ rfl) hK)) aA)) ?_)
    refine az (fun _ => .p (eI ((f77.length : Int) - 1))) rfl rfl rfl (d5 rfl (fun _ => rfl)) (lt1 rfl) (al rfl (af [(85, _)] ⟨.inr ⟨9, _, rfl, rfl, rfl⟩, trivial⟩ (fun sl hsl K hK => ae rfl (eV rfl rfl rfl (hsl _ _ rfl) rfl rfl hk83 hK)) aA)) (az (fun _ => .stk 103000 1 ((f77.take ((f77.length : Int) - 1).toNat).map eI)) rfl rfl rfl (d5 rfl (fun _ => rfl)) (lt1 rfl) (al rfl (af [(80, _), (86, _)] ⟨.inr ⟨4, _, rfl, rfl, rfl⟩, .inr ⟨10, _, rfl, rfl, rfl⟩, trivial⟩ (fun sl hsl K hK => ae rfl (rM (h := (f77.length : Int) - 1) eI f77 rfl rfl rfl rfl rfl rfl (hsl _ _ rfl) (ir (hsl _ _ rfl)) hk84 rfl hK)) aA)) ?_)
    refine az (fun _ => .ptr 22 0) rfl rfl rfl (d5 rfl (fun _ => rfl)) (lt1 rfl) (af [(76, _)] ⟨.inr ⟨0, _, rfl, rfl, rfl⟩, trivial⟩ (fun sl hsl K hK => ae rfl (g7 rfl rfl rfl (hsl _ _ rfl) hK)) (af [(76, _)] ⟨.inr ⟨0, _, rfl, rfl, rfl⟩, trivial⟩ (fun sl hsl K hK => ae rfl (g7 rfl rfl rfl (hsl _ _ rfl) hK)) aA)) (az (fun _ => .ptr 22 3) rfl rfl rfl (d5 rfl (fun _ => rfl)) (lt1 rfl) (al rfl (af [(88, _)] ⟨.inr ⟨12, _, rfl, rfl, rfl⟩, trivial⟩ (fun sl hsl K hK => ae rfl (ah rfl rfl rfl rfl rfl rfl rfl rfl (hsl _ _ rfl) hK)) aA)) ?_)
    refine ik [(87, _), (89, _)] rfl ⟨.inr ⟨11, _, rfl, rfl, rfl⟩, .inr ⟨13, _, rfl, rfl, rfl⟩, trivial⟩ rfl (fun sl hsl K hK => ae rfl (gX rfl rfl rfl (hsl _ _ rfl) (hsl _ _ rfl) rfl rfl rfl (Nat.le_of_ble_eq_true rfl) hK)) (kQ ?_)
    refine nx 4 rfl (bd h1 fun r85 e86 h1 => ?_)
    refine mO rfl (bo [22, 17, 20] [103000] 104000 104001 (kU _ (cr.mk f76 l78 l79 (f77.take ((f77.length : Int) - 1).toNat)) (lat f77 ((f77.length : Int) - 1)) _ e86) rfl rfl rfl rfl rfl ⟨sr, sr, trivial⟩ rfl (aJ rfl rfl (aJ rfl (aM _) (aJ rfl (aM _) rfl))) ⟨⟨_, rfl, ⟨sr, sr, sr, sr, trivial⟩⟩, ⟨_, rfl, ap _⟩, ⟨_, rfl, ap _⟩, trivial⟩ rfl rfl rfl rfl rfl rfl rfl rfl Tryz.call40 rfl (aJ rfl rfl (aJ rfl (aM _) (aJ rfl (aM _) rfl))) ?_)
    refine nx 1 rfl ?_
    skip; refine mG (bz 104000 103000 rfl rfl rfl rfl (by repeat (first | exact rfl | exact aM _ | apply aJ))) ?_
    exact eX (r85.fchanges, r85.ftodo, r85.fresources, r85.fchosen) h1 (b7 (cj ⟨er rfl, er rfl, trivial⟩ ⟨⟨_, rfl, ⟨sr, AV.sub_of_eq (by first | rfl | (simp; done) | (simp [AV.dem]; rfl)), AV.sub_of_eq (by first | rfl | (simp; done) | (simp [AV.dem]; rfl)), sr, trivial⟩⟩, ⟨_, rfl, ap _⟩, ⟨_, rfl, ap _⟩, trivial⟩))
   exact nx 2 rfl (eXi _ (oi h1).symm (b7 (cj ⟨er rfl, er rfl, trivial⟩ ⟨⟨_, rfl, ⟨sr, AV.sub_of_eq (by first | rfl | (simp; done) | (simp [AV.dem]; rfl)), AV.sub_of_eq (by first | rfl | (simp; done) | (simp [AV.dem]; rfl)), sr, trivial⟩⟩, ⟨_, rfl, ap _⟩, ⟨_, rfl, ap _⟩, trivial⟩)))
  refine lG (fun (q138 : Int × (List aa) × (List Int) × (List Bytes) × (List Bool)) => ⟨[(0, .p (eL eS targets_0)), (1, .p (eL ac l_1)), (5, .ptr 22 0), (43, .p (eL ac l_1)), (44, .p (eI (l_1.length : Int))), (45, .p (eI q138.1))], [(22, [.p (eL ac q138.2.1), .arr 17 1 0 q138.2.2.2.1.length, .arr 20 1 0 q138.2.2.2.2.length, .stk 101000 1 (q138.2.2.1.map eI)]), (17, (q138.2.2.2.1.map eS).map .p), (20, (q138.2.2.2.2.map eB).map .p)]⟩) (fun m (q138 : Int × (List aa) × (List Int) × (List Bytes) × (List Bool)) => cF n targets_0 l_1 m q138.1 q138.2.1 q138.2.2.1 q138.2.2.2.1 q138.2.2.2.2) (fun _ => rfl) (0, l_1, [], o126, List.replicate (l_1.length : Int).toNat (false : Bool)) h1 (b7 (cj ⟨er rfl, er rfl, er rfl, er rfl, er rfl, er rfl, trivial⟩ ⟨⟨_, rfl, ⟨sr, AV.sub_of_eq (by first | rfl | (simp; done) | (simp [AV.dem]; rfl)), AV.sub_of_eq (by first | rfl | (simp; done) | (simp [AV.dem]; rfl)), AV.sub_nilstk _ _, trivial⟩⟩, ⟨_, rfl, ap _⟩, ⟨_, rfl, ap _⟩, trivial⟩)) ?_
  rintro m ⟨t39, f40, f41, l42, l43⟩ h1
  replace h1 : cF n targets_0 l_1 (m + 1) t39 f40 f41 l42 l43 = some o128 := h1
  rw [cF] at h1
  refine nx 5 rfl (fD [46] h1 rfl (fun c44 h1 => ?_) fun c44 h1 => ?_)
  ·refine nx 3 rfl (bd h1 fun o139 h2 h1 => ?_)
   refine kN o139 (fun v140 => ⟨[(0, .p (eL eS targets_0)), (1, .p (eL ac l_1)), (5, .ptr 22 0), (43, .p (eL ac l_1)), (44, .p (eI (l_1.length : Int))), (45, .p (eI t39))], [(22, [.p (eL ac v140.1), .arr 17 1 0 v140.2.2.1.length, .arr 20 1 0 v140.2.2.2.length, .stk 102000 1 (v140.2.1.map eI)]), (17, (v140.2.2.1.map eS).map .p), (20, (v140.2.2.2.map eB).map .p)]⟩) ?_ ?_
   ·refine nx 2 rfl (oA h1 rfl rfl fun hk55 h1 => ?_)
    refine nx 2 rfl ?_
    skip; refine mG (bz 102000 101000 rfl rfl rfl rfl (by repeat (first | exact rfl | exact aM _ | apply aJ))) ?_
    exact eX (t39 + 1, o139.1, o139.2.1, o139.2.2.1, o139.2.2.2) h1 (b7 (cj ⟨er rfl, er rfl, er rfl, er rfl, er rfl, er rfl, trivial⟩ ⟨⟨_, rfl, ⟨sr, AV.sub_of_eq (by first | rfl | (simp; done) | (simp [AV.dem]; rfl)), AV.sub_of_eq (by first | rfl | (simp; done) | (simp [AV.dem]; rfl)), sr, trivial⟩⟩, ⟨_, rfl, ap _⟩, ⟨_, rfl, ap _⟩, trivial⟩))
   refine nx 4 rfl (oE h2 aa.cells_eq rfl rfl (fun _ => rfl) fun hk45 h2 => ?_)
   refine nx 1 rfl (mO rfl (ln rfl rfl rfl rfl rfl ?_))
   refine mG (lB (show kM _ _ = _ from (by repeat (first | exact iI _ | apply demOb_drop rfl | apply dw rfl (lT _ _) | apply dw rfl rfl)))) (nx 8 rfl ?_)
   refine bd h2 fun r46 e47 h2 => oK (iw _ targets_0 ((lat l_1 t39).fAddr) _ e47) rfl ⟨sr, sr, trivial⟩ Tryz.call15 rfl (nx 1 rfl ?_)
   refine fB [53] h2 rfl (fun c48 h2 => ?_) fun c48 h2 => ?_
   ·refine nx 4 rfl (bd h2 fun r49 e50 h2 => ?_)
    refine mO rfl (bo [22, 17, 20] [101000] 102000 102001 (iq (cr.mk f40 l42 l43 f41) t39 _ e50) rfl rfl rfl rfl rfl ⟨sr, sr, trivial⟩ rfl (aJ rfl rfl (aJ rfl (aM _) (aJ rfl (aM _) rfl))) ⟨⟨_, rfl, ⟨sr, sr, sr, sr, trivial⟩⟩, ⟨_, rfl, ap _⟩, ⟨_, rfl, ap _⟩, trivial⟩ rfl rfl rfl rfl rfl rfl rfl rfl Tryz.call39 rfl (aJ rfl rfl (aJ rfl (aM _) (aJ rfl (aM _) rfl))) ?_)
    exact nx 1 rfl (eX _ (oi h2).symm (b7 (cj ⟨er rfl, er rfl, er rfl, er rfl, er rfl, er rfl, trivial⟩ ⟨⟨_, rfl, ⟨sr, AV.sub_of_eq (by first | rfl | (simp; done) | (simp [AV.dem]; rfl)), AV.sub_of_eq (by first | rfl | (simp; done) | (simp [AV.dem]; rfl)), sr, trivial⟩⟩, ⟨_, rfl, ap _⟩, ⟨_, rfl, ap _⟩, trivial⟩)))
   refine nx 2 rfl ?_
   skip; refine mG (bz 101000 102000 rfl rfl rfl rfl (by repeat (first | exact rfl | exact aM _ | apply aJ))) ?_
   exact eX _ (oi h2).symm (b7 (cj ⟨er rfl, er rfl, er rfl, er rfl, er rfl, er rfl, trivial⟩ ⟨⟨_, rfl, ⟨sr, AV.sub_of_eq (by first | rfl | (simp; done) | (simp [AV.dem]; rfl)), AV.sub_of_eq (by first | rfl | (simp; done) | (simp [AV.dem]; rfl)), sr, trivial⟩⟩, ⟨_, rfl, ap _⟩, ⟨_, rfl, ap _⟩, trivial⟩))
  exact nx 2 rfl (eXi _ (oi h1).symm (b7 (cj ⟨er rfl, er rfl, trivial⟩ ⟨⟨_, rfl, ⟨sr, AV.sub_of_eq (by first | rfl | (simp; done) | (simp [AV.dem]; rfl)), AV.sub_of_eq (by first | rfl | (simp; done) | (simp [AV.dem]; rfl)), sr, trivial⟩⟩, ⟨_, rfl, ap _⟩, ⟨_, rfl, ap _⟩, trivial⟩)))
 refine lG (fun (q141 : Int × (List Bytes)) => ⟨[(0, .p (eL eS targets_0)), (1, .p (eL ac l_1)), (5, .ptr 22 0), (23, .p (eL ac l_1)), (24, .p (eI (l_1.length : Int))), (25, .p (eI q141.1))], [(22, [.p (eL ac l_1), .arr 17 1 0 q141.2.length, .arr 20 1 0 ((List.replicate (l_1.length : Int).toNat (false : Bool)).length), .p (.val (.slice none 0 0))]), (17, (q141.2.map eS).map .p), (20, ((List.replicate (l_1.length : Int).toNat (false : Bool)).map eB).map .p)]⟩) (fun m (q141 : Int × (List Bytes)) => cL n l_1 m q141.1 q141.2) (fun _ => rfl) (0, List.replicate (l_1.length : Int).toNat ([] : Bytes)) h1 (b7 (cj ⟨er rfl, er rfl, er rfl, er rfl, er rfl, er rfl, trivial⟩ ⟨⟨_, rfl, ⟨sr, AV.sub_of_eq (by first | rfl | (simp; done) | (simp [AV.dem]; rfl)), sr, sr, trivial⟩⟩, ⟨_, rfl, ap _⟩, ⟨_, rfl, ap _⟩, trivial⟩)) ?_
 rintro m ⟨t11, l12⟩ h1
 replace h1 : cL n l_1 (m + 1) t11 l12 = some o126 := h1
 rw [cL] at h1
 refine nx 5 rfl (fD [26] h1 rfl (fun c13 h1 => ?_) fun c13 h1 => ?_)
 ·refine nx 7 rfl (oE h1 aa.cells_eq rfl rfl (fun _ => rfl) fun hk14 h1 => ?_)
  refine nx 1 rfl (mO rfl (ln rfl rfl rfl rfl rfl ?_))
  refine mG (lB (show kM _ _ = _ from (by repeat (first | exact iI _ | apply demOb_drop rfl | apply dw rfl (lT _ _) | apply dw rfl rfl)))) (nx 3 rfl ?_)
  refine bd h1 fun r15 e16 h1 => cc' h1 fun hk17 h1 => mG (gE (t := ⟨[(0, .p (eL eS targets_0)), (1, .p (eL ac l_1)), (5, .ptr 22 0), (6, .p (eI t11)), (7, .ptr 7 0), (23, .p (eL ac l_1)), (24, .p (eI (l_1.length : Int))), (25, .p (eI t11))], [(7, (aa.cs (lat l_1 t11)).map .p), (22, [.p (eL ac l_1), .arr 17 1 0 l12.length, .arr 20 1 0 ((List.replicate (l_1.length : Int).toNat (false : Bool)).length), .p (.val (.slice none 0 0))]), (17, (l12.map eS).map .p), (20, ((List.replicate (l_1.length : Int).toNat (false : Bool)).map eB).map .p)]⟩) rfl rfl) (mS ⟨1, [12], (fun _ => .none), (fun _ => [(0, .p (eL eS targets_0)), (1, .p (eL ac l_1)), (5, .ptr 22 0), (6, .p (eI t11)), (7, .ptr 7 0), (23, .p (eL ac l_1)), (24, .p (eI (l_1.length : Int))), (25, .p (eI t11))]), (by2 ([(7, [.p (eS ((lat l_1 t11).fAddr)), .p (eS ((lat l_1 t11).fDeposed)), .p (eS ((lat l_1 t11).fType)), .p (eI ((lat l_1 t11).fAction)), .p (eI ((lat l_1 t11).fReason)), .p (eI (((lat l_1 t11).fBefore).fKind)), .p (eI (((lat l_1 t11).fBefore).fNum)), .p (eS (((lat l_1 t11).fBefore).fStr)), .p (eL aQ (((lat l_1 t11).fBefore).fItems)), .p (eL eS (((lat l_1 t11).fBefore).fKeys)), .p (eI (((lat l_1 t11).fAfter).fKind)), .p (eI (((lat l_1 t11).fAfter).fNum)), .p (eS (((lat l_1 t11).fAfter).fStr)), .p (eL aQ (((lat l_1 t11).fAfter).fItems)), .p (eL eS (((lat l_1 t11).fAfter).fKeys)), .p (eS ((lat l_1 t11).fID)), .p (eL eS ((lat l_1 t11).fReplace)), .p (eB ((lat l_1 t11).fCreateFirst)), .p (eB ((lat l_1 t11).fProtect)), .p (eB ((lat l_1 t11).fImport)), .p (eL eS ((lat l_1 t11).fDeps)), .p (eL eS ((lat l_1 t11).fOldDeps))]), (22, [.p (eL ac l_1), .arr 17 1 0 l12.length, .arr 20 1 0 ((List.replicate (l_1.length : Int).toNat (false : Bool)).length), .p (.val (.slice none 0 0))]), (17, (l12.map eS).map .p), (20, ((List.replicate (l_1.length : Int).toNat (false : Bool)).map eB).map .p)]) ([(17, ((l12.set t11.toNat r15.1).map eS).map .p), (7, [.p (eS ((lat l_1 t11).fAddr)), .p (eS ((lat l_1 t11).fDeposed)), .p (eS ((lat l_1 t11).fType)), .p (eI ((lat l_1 t11).fAction)), .p (eI ((lat l_1 t11).fReason)), .p (eI (((lat l_1 t11).fBefore).fKind)), .p (eI (((lat l_1 t11).fBefore).fNum)), .p (eS (((lat l_1 t11).fBefore).fStr)), .p (eL aQ (((lat l_1 t11).fBefore).fItems)), .p (eL eS (((lat l_1 t11).fBefore).fKeys)), .p (eI (((lat l_1 t11).fAfter).fKind)), .p (eI (((lat l_1 t11).fAfter).fNum)), .p (eS (((lat l_1 t11).fAfter).fStr)), .p (eL aQ (((lat l_1 t11).fAfter).fItems)), .p (eL eS (((lat l_1 t11).fAfter).fKeys)), .p (eS ((lat l_1 t11).fID)), .p (eL eS ((lat l_1 t11).fReplace)), .p (eB ((lat l_1 t11).fCreateFirst)), .p (eB ((lat l_1 t11).fProtect)), .p (eB ((lat l_1 t11).fImport)), .p (eL eS ((lat l_1 t11).fDeps)), .p (eL eS ((lat l_1 t11).fOldDeps))]), (22, [.p (eL ac l_1), .arr 17 1 0 l12.length, .arr 20 1 0 ((List.replicate (l_1.length : Int).toNat (false : Bool)).length), .p (.val (.slice none 0 0))]), (17, (l12.map eS).map .p), (20, ((List.replicate (l_1.length : Int).toNat (false : Bool)).map eB).map .p)]))⟩ rfl rfl rfl ⟨rfl, rfl, rfl, rfl, rfl, rfl, rfl, rfl, trivial⟩ (lt1 ⟨rfl, rfl, rfl, rfl, rfl, rfl, rfl, rfl, trivial⟩) rfl rfl rfl rfl ?_)
  refine az (fun _ => .ptr 22 0) rfl rfl rfl (d5 rfl (fun _ => rfl)) (lt1 rfl) (al rfl (af [(5, _)] ⟨.inl rfl, trivial⟩ (fun sl hsl K hK => ae rfl (aR rfl rfl rfl (hsl _ _ rfl) hK)) aA)) (az (fun _ => .ptr 22 0) rfl rfl rfl (d5 rfl (fun _ => rfl)) (lt1 rfl) (al rfl (af [(31, _)] ⟨.inr ⟨0, _, rfl, rfl, rfl⟩, trivial⟩ (fun sl hsl K hK => ae rfl (g7 rfl rfl rfl (hsl _ _ rfl) hK)) aA)) ?_)
  refine az (fun _ => .ptr 22 1) rfl rfl rfl (d5 rfl (fun _ => rfl)) (lt1 rfl) (al rfl (af [(32, _)] ⟨.inr ⟨1, _, rfl, rfl, rfl⟩, trivial⟩ (fun sl hsl K hK => ae rfl (ah rfl rfl rfl rfl rfl rfl rfl rfl (hsl _ _ rfl) hK)) aA)) (az (fun _ => .arr 17 1 0 l12.length) rfl rfl rfl (d5 rfl (fun _ => rfl)) (lt1 rfl) (al rfl (af [(33, _)] ⟨.inr ⟨2, _, rfl, rfl, rfl⟩, trivial⟩ (fun sl hsl K hK => ae rfl (bB rfl rfl rfl rfl rfl (hsl _ _ rfl) rfl rfl hK)) aA)) ?_)
  refine az (fun _ => .p (eI t11)) rfl rfl rfl (d5 rfl (fun _ => rfl)) (lt1 rfl) (al rfl (af [(6, _)] ⟨.inl rfl, trivial⟩ (fun sl hsl K hK => ae rfl (aR rfl rfl rfl (hsl _ _ rfl) hK)) aA)) (az (fun _ => .ptr 7 0) rfl rfl rfl (d5 rfl (fun _ => rfl)) (lt1 rfl) (al rfl (af [(7, _)] ⟨.inl rfl, trivial⟩ (fun sl hsl K hK => ae rfl (ah rfl rfl rfl rfl rfl rfl rfl rfl (hsl _ _ rfl) hK)) aA)) ?_)
  refine az (fun _ => .p (eS ((lat l_1 t11).fAddr))) rfl rfl rfl (d5 rfl (fun _ => rfl)) (lt1 rfl) (al rfl (af [(36, _)] ⟨.inr ⟨5, _, rfl, rfl, rfl⟩, trivial⟩ (fun sl hsl K hK => ae rfl (bB rfl rfl rfl rfl rfl (hsl _ _ rfl) rfl rfl hK)) aA)) (az (fun _ => .tuple [.p (eS r15.1), .p (eI r15.2)]) rfl rfl rfl (d5 rfl (fun _ => rfl)) (lt1 rfl) (al rfl (af [(37, _)] ⟨.inr ⟨6, _, rfl, rfl, rfl⟩, trivial⟩ (fun sl hsl K hK => ae rfl (bj (kJ _ ((lat l_1 t11).fAddr) _ e16) rfl rfl rfl (ay (hsl _ _ rfl) bm) ⟨sr, trivial⟩ Tryz.call32 rfl hK)) aA)) ?_)
  refine az (fun _ => .tuple [.p (eS r15.1), .p (eI r15.2)]) rfl rfl rfl (d5 rfl (fun _ => rfl)) (lt1 rfl) (al rfl (af [(38, _)] ⟨.inr ⟨7, _, rfl, rfl, rfl⟩, trivial⟩ (fun sl hsl K hK => ae rfl (aR rfl rfl rfl (hsl _ _ rfl) hK)) aA)) (az (fun _ => .p (eS r15.1)) rfl rfl rfl (d5 rfl (fun _ => rfl)) (lt1 rfl) (al rfl (af [(30, _)] ⟨.inr ⟨8, _, rfl, rfl, rfl⟩, trivial⟩ (fun sl hsl K hK => ae rfl (cB rfl rfl rfl (hsl _ _ rfl) rfl hK)) aA)) ?_)
  refine az (fun _ => .p (eI r15.2)) rfl rfl rfl (d5 rfl (fun _ => rfl)) (lt1 rfl) (af [(30, _)] ⟨.inr ⟨8, _, rfl, rfl, rfl⟩, trivial⟩ (fun sl hsl K hK => ae rfl (cB rfl rfl rfl (hsl _ _ rfl) rfl hK)) (af [(30, _)] ⟨.inr ⟨8, _, rfl, rfl, rfl⟩, trivial⟩ (fun sl hsl K hK => ae rfl (cB rfl rfl rfl (hsl _ _ rfl) rfl hK)) aA)) (az (fun _ => .ptr 17 t11.toNat) rfl rfl rfl (d5 rfl (fun _ => rfl)) (lt1 rfl) (al rfl (af [(34, _), (35, _)] ⟨.inr ⟨3, _, rfl, rfl, rfl⟩, .inr ⟨4, _, rfl, rfl, rfl⟩, trivial⟩ (fun sl hsl K hK => ae rfl (aW rfl rfl rfl rfl rfl rfl (hsl _ _ rfl) (hsl _ _ rfl) rfl hk17 hK)) aA)) ?_)
  refine ik [(39, _), (41, _)] rfl ⟨.inr ⟨9, _, rfl, rfl, rfl⟩, .inr ⟨11, _, rfl, rfl, rfl⟩, trivial⟩ rfl (fun sl hsl K hK => ae rfl (db (f := eS) (l := l12) (b := r15.1) rfl rfl rfl rfl (hsl _ _ rfl) rfl (hsl _ _ rfl) rfl (by have := hk17; omega) hK)) (kQ ?_)
  refine nx 2 rfl (oA h1 rfl rfl fun hk18 h1 => ?_)
  exact nx 2 rfl (eX (t11 + 1, l12.set t11.toNat r15.1) h1 (b7 (cj ⟨er rfl, er rfl, er rfl, er rfl, er rfl, er rfl, trivial⟩ ⟨⟨_, rfl, ⟨sr, AV.sub_of_eq (by first | rfl | (simp; done) | (simp [AV.dem]; rfl)), sr, sr, trivial⟩⟩, ⟨_, rfl, ap _⟩, ⟨_, rfl, ap _⟩, trivial⟩)))
 exact nx 2 rfl (eXi _ (oi h1).symm (b7 (cj ⟨er rfl, er rfl, er rfl, trivial⟩ ⟨⟨_, rfl, ⟨sr, AV.sub_of_eq (by first | rfl | (simp; done) | (simp [AV.dem]; rfl)), sr, sr, trivial⟩⟩, ⟨_, rfl, ap _⟩, ⟨_, rfl, ap _⟩, trivial⟩)))
def eg (n : Nat) (g_0 : aO) (statics_1 : List Bytes) : Option (List Bytes) :=
 (gi n g_0 statics_1).bind fun r1 =>
 some r1
set_option maxHeartbeats 4000000 in
theorem jW (n : Nat) (g_0 : aO) (statics_1 : List Bytes) (r : (List Bytes)) (h0 : eg n g_0 statics_1 = some r) : aF Tryz.prog 18 [.agg (aO.cs g_0), eL eS statics_1] (· = .p (eL eS r)) := by
 unfold eg at h0
 refine bG good Tryz.func18 rfl rfl rfl fun w0 => mP (fun v : (List Bytes) => .p (eL eS v)) ?_
 refine nx 9 rfl (bd h0 fun r1 e2 h0 => ?_)
 refine oK (rk _ g_0 statics_1 _ e2) rfl ⟨sr, sr, trivial⟩ Tryz.call37 rfl (nx 3 rfl ?_)
 exact mQ (oi h0) rfl (sr)
end Go.Ab.R06
end
section
set_option linter.unusedVariables false
set_option linter.unusedSimpArgs false
set_option linter.unnecessarySimpa false
namespace Go.Ab.R06
open Go.Proofs Go.Ab Go.Ab.RB
attribute [local irreducible] awp d9 aU aF bO AV.sub M dU
def g9 (addr_0 : Bytes) (a_1 : Int) (deps_2 : List Bytes) (old_3 : List Bytes) : Option aa :=
 some (aa.mk addr_0 ([] : Bytes) ([] : Bytes) a_1 0 (ag.mk 0 0 ([] : Bytes) [] []) (ag.mk 0 0 ([] : Bytes) [] []) ([] : Bytes) [] false false false deps_2 old_3)
set_option maxHeartbeats 4000000 in
theorem iu (addr_0 : Bytes) (a_1 : Int) (deps_2 : List Bytes) (old_3 : List Bytes) (r : aa) (h0 : g9 addr_0 a_1 deps_2 old_3 = some r) : aF Tryz.prog 30 [eS addr_0, eI a_1, eL eS deps_2, eL eS old_3] (· = .p (.agg (aa.cs r))) := by
 unfold g9 at h0
 refine bG good Tryz.func30 rfl rfl rfl fun w0 => mP (fun v : aa => .p (.agg (aa.cs v))) ?_
 exact nx 14 rfl (mQ (oi h0) rfl (pA ⟨.inl rfl, .inl rfl, .inl rfl, .inl rfl, .inl rfl, .inl rfl, .inl rfl, .inl rfl, .inr ⟨rfl, rfl⟩, .inr ⟨rfl, rfl⟩, .inl rfl, .inl rfl, .inl rfl, .inr ⟨rfl, rfl⟩, .inr ⟨rfl, rfl⟩, .inl rfl, .inr ⟨rfl, rfl⟩, .inl rfl, .inl rfl, .inl rfl, .inl rfl, .inl rfl, trivial⟩))
def dQ (n : Nat) : Option Bool :=
 (g9 ([97, 46, 120] : Bytes) 4 [] []).bind fun r1 =>
 (g9 ([98, 46, 121] : Bytes) 4 [] ([([97, 46, 120] : Bytes)])).bind fun r3 =>
 (g9 ([110, 101, 116, 46, 110] : Bytes) 1 [] []).bind fun r5 =>
 (g9 ([115, 101, 114, 118, 101, 114, 46, 115, 91, 48, 93] : Bytes) 1 ([([110, 101, 116, 46, 110] : Bytes)]) []).bind fun r7 =>
 (cq n ([([97, 46, 120] : Bytes)]) [r1, r3, r5, r7]).bind fun r9 =>
 (cq n ([([98, 46, 121] : Bytes)]) [r1, r3, r5, r7]).bind fun r11 =>
 (cq n ([([115, 101, 114, 118, 101, 114, 46, 115] : Bytes)]) [r1, r3, r5, r7]).bind fun r13 =>
 (eg n (aO.mk ([([97] : Bytes), ([98] : Bytes)]) ([(b8.mk ([97] : Bytes) ([98] : Bytes))])) ([([97] : Bytes)])).bind fun r15 =>
 (
   if (r9.length : Int) = 2 then
    if (r11.length : Int) = 1 then
     ck ((0 : Int) ≤ 0 ∧ 0 < (r11.length : Int)) <|
     if (lat r11 0).fAddr = ([98, 46, 121] : Bytes) then
      if (r13.length : Int) = 2 then
       ck ((0 : Int) ≤ 0 ∧ 0 < (r13.length : Int)) <|
       if (lat r13 0).fAddr = ([110, 101, 116, 46, 110] : Bytes) then
        (cq n [] [r1, r3, r5, r7]).bind fun r24 =>
        if (r24.length : Int) = 4 then
         if (r15.length : Int) = 2 then
          (dj n ([([97, 46, 98] : Bytes)]) ([97, 46, 98, 91, 48, 93] : Bytes)).bind fun r28 =>
          if r28 = true then
           (dj n ([([97, 46, 98] : Bytes)]) ([97, 46, 99] : Bytes)).bind fun r31 =>
           if (!r31) = true then
            (eP n ([([97, 46, 98] : Bytes)])).bind fun r34 =>
            if r34 = 0 then
             (eP n ([([] : Bytes)])).bind fun r37 =>
             some (!decide (r37 = 0))
            else
             some false
           else
            some false
          else
           some false
         else
          some false
        else
         some false
       else
        some false
      else
       some false
     else
      some false
    else
     some false
   else
    some false
  : Option Bool).bind fun t39 =>
 some t39
set_option maxHeartbeats 4000000 in
theorem f0 (n : Nat) (r : Bool) (h0 : dQ n = some r) : aF Tryz.prog 13 [] (· = .p (eB r)) := by
 unfold dQ at h0
 refine bG good Tryz.func13 rfl rfl rfl fun w0 => mP (fun v : Bool => .p (eB v)) ?_
 refine nx 6 rfl (bd h0 fun r1 e2 h0 => ?_)
 refine oK (iu ([97, 46, 120] : Bytes) 4 [] [] _ e2) rfl ⟨sr, sr, eO _, eO _, trivial⟩ Tryz.call30 rfl (mO rfl (bN eS [([97, 46, 120] : Bytes)] rfl rfl rfl rfl rfl rfl rfl rfl rfl rfl rfl rfl rfl rfl ?_))
 refine bd h0 fun r3 e4 h0 => oK (iu ([98, 46, 121] : Bytes) 4 [] ([([97, 46, 120] : Bytes)]) _ e4) rfl ⟨sr, sr, eO _, sr, trivial⟩ Tryz.call30 rfl (bd h0 fun r5 e6 h0 => ?_)
 refine oK (iu ([110, 101, 116, 46, 110] : Bytes) 1 [] [] _ e6) rfl ⟨sr, sr, eO _, eO _, trivial⟩ Tryz.call30 rfl (mO rfl (bN eS [([110, 101, 116, 46, 110] : Bytes)] rfl rfl rfl rfl rfl rfl rfl rfl rfl rfl rfl rfl rfl rfl ?_))
 refine bd h0 fun r7 e8 h0 => oK (iu ([115, 101, 114, 118, 101, 114, 46, 115, 91, 48, 93] : Bytes) 1 ([([110, 101, 116, 46, 110] : Bytes)]) [] _ e8) rfl ⟨sr, sr, sr, eO _, trivial⟩ Tryz.call30 rfl (mO rfl (bN ac [r1, r3, r5, r7] rfl rfl rfl rfl rfl rfl rfl rfl rfl rfl rfl rfl rfl (by first | rfl | (simp only [List.map_cons, List.map_nil, aa.agg_eq]; done) | (simp only [List.map_cons, List.map_nil, aa.agg_eq]; rfl)) ?_))
 refine nx 4 rfl (mO rfl (bN eS [([97, 46, 120] : Bytes)] rfl rfl rfl rfl rfl rfl rfl rfl rfl rfl rfl rfl rfl rfl ?_))
 refine nx 1 rfl (bd h0 fun r9 e10 h0 => ?_)
 refine oK (dP _ ([([97, 46, 120] : Bytes)]) [r1, r3, r5, r7] _ e10) rfl ⟨sr, sr, trivial⟩ Tryz.call23 rfl (nx 4 rfl ?_)
 refine mO rfl (bN eS [([98, 46, 121] : Bytes)] rfl rfl rfl rfl rfl rfl rfl rfl rfl rfl rfl rfl rfl rfl ?_)
 refine nx 1 rfl (bd h0 fun r11 e12 h0 => ?_)
 refine oK (dP _ ([([98, 46, 121] : Bytes)]) [r1, r3, r5, r7] _ e12) rfl ⟨sr, sr, trivial⟩ Tryz.call23 rfl (nx 4 rfl ?_)
 refine mO rfl (bN eS [([115, 101, 114, 118, 101, 114, 46, 115] : Bytes)] rfl rfl rfl rfl rfl rfl rfl rfl rfl rfl rfl rfl rfl rfl ?_)
 refine nx 1 rfl (bd h0 fun r13 e14 h0 => ?_)
 refine oK (dP _ ([([115, 101, 114, 118, 101, 114, 46, 115] : Bytes)]) [r1, r3, r5, r7] _ e14) rfl ⟨sr, sr, trivial⟩ Tryz.call23 rfl (nx 4 rfl ?_)
 refine mO rfl (bN eS [([97] : Bytes), ([98] : Bytes)] rfl rfl rfl rfl rfl rfl rfl rfl rfl rfl rfl rfl rfl rfl ?_)
 refine nx 1 rfl (mO rfl (bN fQ [(b8.mk ([97] : Bytes) ([98] : Bytes))] rfl rfl rfl rfl rfl rfl rfl rfl rfl rfl rfl rfl rfl (by first | rfl | (simp only [List.map_cons, List.map_nil, b8.agg_eq]; done) | (simp only [List.map_cons, List.map_nil, b8.agg_eq]; rfl)) ?_))
 refine nx 7 rfl (mO rfl (bN eS [([97] : Bytes)] rfl rfl rfl rfl rfl rfl rfl rfl rfl rfl rfl rfl rfl rfl ?_))
 refine bd h0 fun r15 e16 h0 => oK (jW _ (aO.mk ([([97] : Bytes), ([98] : Bytes)]) ([(b8.mk ([97] : Bytes) ([98] : Bytes))])) ([([97] : Bytes)]) _ e16) rfl ⟨sr, sr, trivial⟩ Tryz.call18 rfl (nx 2 rfl ?_)
 refine mG (gE (t := ⟨[(1, .p (eL ac [r1, r3, r5, r7])), (2, .p (eL ac r9)), (3, .p (eL ac r11)), (4, .p (eL ac r13)), (6, .p (eL eS r15))], []⟩) rfl rfl) (nx 1 rfl ?_)
 refine bd h0 fun o41 h1 h0 => kN o41 (fun v42 => ⟨[(0, .p (eB v42))], []⟩) ?_ ?_
 ·exact nx 2 rfl (mQ (oi h0) rfl (sr))
 refine nx 2 rfl (oLl (f := ac) rfl rfl ?_)
 refine nx 2 rfl (fD [32, 33] h1 rfl (fun c17 h1 => ?_) fun c17 h1 => ?_)
 ·refine nx 1 rfl (oLl (f := ac) rfl rfl ?_)
  refine nx 3 rfl (fD [36, 37, 38] h1 rfl (fun c18 h1 => ?_) fun c18 h1 => ?_)
  ·refine nx 1 rfl (oE h1 aa.cells_eq rfl rfl (fun _ => rfl) fun hk19 h1 => ?_)
   refine nx 2 rfl (oS rfl rfl ?_)
   refine nx 2 rfl (fD [43, 44, 45] h1 rfl (fun c20 h1 => ?_) fun c20 h1 => ?_)
   ·refine nx 1 rfl (oLl (f := ac) rfl rfl ?_)
    refine nx 3 rfl (fD [48, 49, 50] h1 rfl (fun c21 h1 => ?_) fun c21 h1 => ?_)
    ·refine nx 1 rfl (oE h1 aa.cells_eq rfl rfl (fun _ => rfl) fun hk22 h1 => ?_)
     refine nx 2 rfl (oS rfl rfl ?_)
     refine nx 2 rfl (fD [55, 56, 57] h1 rfl (fun c23 h1 => ?_) fun c23 h1 => ?_)
     ·refine nx 1 rfl (bd h1 fun r24 e25 h1 => ?_)
      refine oK (dP _ [] [r1, r3, r5, r7] _ e25) rfl ⟨eO _, sr, trivial⟩ Tryz.call23 rfl (oLl (f := ac) rfl rfl ?_)
      refine nx 3 rfl (fD [61, 62, 63] h1 rfl (fun c26 h1 => ?_) fun c26 h1 => ?_)
      ·refine nx 1 rfl (oLl (f := eS) rfl rfl ?_)
       refine nx 3 rfl (fD [66, 67, 68] h1 rfl (fun c27 h1 => ?_) fun c27 h1 => ?_)
       ·refine mO rfl (bN eS [([97, 46, 98] : Bytes)] rfl rfl rfl rfl rfl rfl rfl rfl rfl rfl rfl rfl rfl rfl ?_)
        refine bd h1 fun r28 e29 h1 => oK (iw _ ([([97, 46, 98] : Bytes)]) ([97, 46, 98, 91, 48, 93] : Bytes) _ e29) rfl ⟨sr, sr, trivial⟩ Tryz.call15 rfl (nx 2 rfl ?_)
        refine fB [70, 71, 72] h1 rfl (fun c30 h1 => ?_) fun c30 h1 => ?_
        ·refine mO rfl (bN eS [([97, 46, 98] : Bytes)] rfl rfl rfl rfl rfl rfl rfl rfl rfl rfl rfl rfl rfl rfl ?_)
         refine bd h1 fun r31 e32 h1 => oK (iw _ ([([97, 46, 98] : Bytes)]) ([97, 46, 99] : Bytes) _ e32) rfl ⟨sr, sr, trivial⟩ Tryz.call15 rfl (nx 3 rfl ?_)
         refine fB [75, 76, 77] h1 rfl (fun c33 h1 => ?_) fun c33 h1 => ?_
         ·refine mO rfl (bN eS [([97, 46, 98] : Bytes)] rfl rfl rfl rfl rfl rfl rfl rfl rfl rfl rfl rfl rfl rfl ?_)
          refine bd h1 fun r34 e35 h1 => oK (l6 _ ([([97, 46, 98] : Bytes)]) _ e35) rfl ⟨sr, trivial⟩ Tryz.call11 rfl (nx 3 rfl ?_)
          refine fD [80, 81, 82] h1 rfl (fun c36 h1 => ?_) fun c36 h1 => ?_
          ·refine mO rfl (bN eS [([] : Bytes)] rfl rfl rfl rfl rfl rfl rfl rfl rfl rfl rfl rfl rfl rfl ?_)
           refine bd h1 fun r37 e38 h1 => oK (l6 _ ([([] : Bytes)]) _ e38) rfl ⟨sr, trivial⟩ Tryz.call11 rfl (nx 4 rfl ?_)
           exact eX _ (oi h1).symm (gE rfl rfl)
          exact nx 6 rfl (eX _ (oi h1).symm (gE rfl rfl))
         exact nx 11 rfl (eX _ (oi h1).symm (gE rfl rfl))
        exact nx 16 rfl (eX _ (oi h1).symm (gE rfl rfl))
       exact nx 20 rfl (eX _ (oi h1).symm (gE rfl rfl))
      exact nx 25 rfl (eX _ (oi h1).symm (gE rfl rfl))
     exact nx 31 rfl (eX _ (oi h1).symm (gE rfl rfl))
    exact nx 38 rfl (eX _ (oi h1).symm (gE rfl rfl))
   exact nx 43 rfl (eX _ (oi h1).symm (gE rfl rfl))
  exact nx 50 rfl (eX _ (oi h1).symm (gE rfl rfl))
 exact nx 55 rfl (eX _ (oi h1).symm (gE rfl rfl))
def ez (l_0 : List Bytes) : Nat → Int → Option (Unit ⊕ Bool)
 | 0, _ => none
 | m + 1, i7 =>
 if i7 < (l_0.length : Int) then
  ck ((0 : Int) ≤ i7 ∧ i7 < (l_0.length : Int)) <|
  if 300 < ((lat l_0 i7).length : Int) then
   some (.inr false)
  else
   ck (inR (i7 + 1)) <|
   ez l_0 m (i7 + 1)
 else
  some (.inl ())
def ff (n : Nat) (l_0 : List Bytes) (most_1 : Int) : Option Bool :=
 if most_1 < (l_0.length : Int) then
  some false
 else
  jn (ez l_0 n 0) fun q13 =>
  some true
set_option maxHeartbeats 4000000 in
theorem ge (n : Nat) (l_0 : List Bytes) (most_1 : Int) (r : Bool) (h0 : ff n l_0 most_1 = some r) : aF Tryz.prog 10 [eL eS l_0, eI most_1] (· = .p (eB r)) := by
 unfold ff at h0
 refine bG good Tryz.func10 rfl rfl rfl fun w0 => mP (fun v : Bool => .p (eB v)) ?_
 refine nx 8 rfl (oLl (f := eS) rfl rfl ?_)
 refine nx 3 rfl (fD [9] h0 rfl (fun c1 h0 => ?_) fun c1 h0 => ?_)
 ·exact nx 6 rfl (mQ (oi h0) rfl (sr))
 refine nx 8 rfl ?_
 obtain ⟨o14, h1, hL0, hR0⟩ := eH h0
 refine kEx 0 (fun v15 : Unit => o14 = .inl v15) (fun v15 => ⟨[], []⟩) (fun v15 hv => ?_) ?_
 ·have h0 := hL0 _ hv
  exact nx 6 rfl (mQ (oi h0) rfl (sr))
 refine lG (fun (q16 : Int) => ⟨[(0, .p (eL eS l_0)), (5, .p (eI q16))], []⟩) (fun m (q16 : Int) => ez l_0 m q16) (fun _ => rfl) 0 h1 (gE rfl rfl) ?_
 rintro m i7 h1
 replace h1 : ez l_0 (m + 1) i7 = some o14 := h1
 rw [ez] at h1
 refine nx 5 rfl (oLl (f := eS) rfl rfl ?_)
 refine nx 2 rfl (fD [13] h1 rfl (fun c8 h1 => ?_) fun c8 h1 => ?_)
 ·refine nx 8 rfl (oE h1 (fun _ => rfl) rfl rfl (fun _ => rfl) fun hk9 h1 => ?_)
  refine nx 1 rfl (oLs rfl ?_)
  refine nx 2 rfl (fD [21] h1 rfl (fun c10 h1 => ?_) fun c10 h1 => ?_)
  ·exact nx 6 rfl (mQ (hR0 _ (oi h1).symm) rfl (sr))
  refine nx 4 rfl (oA h1 rfl rfl fun hk11 h1 => ?_)
  exact nx 2 rfl (eX (i7 + 1) h1 (gE rfl rfl))
 exact nx 2 rfl (eXi _ (oi h1).symm (gE rfl rfl))
def ep (targets_0 : List Bytes) : Nat → Int → Option (Unit ⊕ Int)
 | 0, _ => none
 | m + 1, i8 =>
 if i8 < (targets_0.length : Int) then
  ck ((0 : Int) ≤ i8 ∧ i8 < (targets_0.length : Int)) <|
  ck ((lat targets_0 i8).length ≤ 65536) <|
  if Glob.rcheck (lat targets_0 i8) = 0 then
   ck (inR (i8 + 1)) <|
   ep targets_0 m (i8 + 1)
  else
   some (.inr (Glob.rcheck (lat targets_0 i8)))
 else
  some (.inl ())
def jR (n : Nat) (targets_0 : List Bytes) : Option Int :=
 if 64 < (targets_0.length : Int) then
  some 14
 else
  jn (ep targets_0 n 0) fun q15 =>
  some 0
set_option maxHeartbeats 4000000 in
theorem rv (n : Nat) (targets_0 : List Bytes) (r : Int) (h0 : jR n targets_0 = some r) : aF Tryz.prog 12 [eL eS targets_0] (· = .p (eI r)) := by
 unfold jR at h0
 refine bG good Tryz.func12 rfl rfl rfl fun w0 => mP (fun v : Int => .p (eI v)) ?_
 refine nx 8 rfl (oLl (f := eS) rfl rfl ?_)
 refine nx 2 rfl (fD [7] h0 rfl (fun c1 h0 => ?_) fun c1 h0 => ?_)
 ·exact nx 6 rfl (mQ (oi h0) rfl (sr))
 refine nx 8 rfl ?_
 obtain ⟨o16, h1, hL0, hR0⟩ := eH h0
 refine kEx 0 (fun v17 : Unit => o16 = .inl v17) (fun v17 => ⟨[], []⟩) (fun v17 hv => ?_) ?_
 ·have h0 := hL0 _ hv
  exact nx 6 rfl (mQ (oi h0) rfl (sr))
 refine lG (fun (q18 : Int) => ⟨[(0, .p (eL eS targets_0)), (3, .p (eI q18))], []⟩) (fun m (q18 : Int) => ep targets_0 m q18) (fun _ => rfl) 0 h1 (gE rfl rfl) ?_
 rintro m i8 h1
 replace h1 : ep targets_0 (m + 1) i8 = some o16 := h1
 rw [ep] at h1
 refine nx 5 rfl (oLl (f := eS) rfl rfl ?_)
 refine nx 2 rfl (fD [11] h1 rfl (fun c9 h1 => ?_) fun c9 h1 => ?_)
 ·refine nx 8 rfl (oE h1 (fun _ => rfl) rfl rfl (fun _ => rfl) fun hk10 h1 => ?_)
  refine nx 1 rfl (cc' h1 fun hk11 h1 => ?_)
  refine oK (Glob.rcheck_ok (lat targets_0 i8) hk11) rfl ⟨sr, trivial⟩ Tryz.call29 rfl (nx 7 rfl ?_)
  refine fN [20] h1 rfl (fun c12 h1 => ?_) fun c12 h1 => ?_
  ·refine nx 4 rfl (oA h1 rfl rfl fun hk13 h1 => ?_)
   exact nx 2 rfl (eX (i8 + 1) h1 (gE rfl rfl))
  exact nx 7 rfl (mQ (hR0 _ (oi h1).symm) rfl (sr))
 exact nx 2 rfl (eXi _ (oi h1).symm (gE rfl rfl))
def fJ (n : Nat) (l_1 : List aa) : Nat → Int → Option (Unit ⊕ Bool)
 | 0, _ => none
 | m + 1, i23 =>
 if i23 < (l_1.length : Int) then
  (
    ck ((0 : Int) ≤ i23 ∧ i23 < (l_1.length : Int)) <|
    if 300 < (((lat l_1 i23).fAddr).length : Int) then
     some true
    else
     ck ((0 : Int) ≤ i23 ∧ i23 < (l_1.length : Int)) <|
     (ff n ((lat l_1 i23).fDeps) 10).bind fun r28 =>
     if (!r28) = true then
      some true
     else
      ck ((0 : Int) ≤ i23 ∧ i23 < (l_1.length : Int)) <|
      (ff n ((lat l_1 i23).fOldDeps) 10).bind fun r32 =>
      some (!r32)
   : Option Bool).bind fun t34 =>
  if t34 = true then
   some (.inr false)
  else
   ck (inR (i23 + 1)) <|
   fJ n l_1 m (i23 + 1)
 else
  some (.inl ())
def jv (n : Nat) (targets_0 : List Bytes) (l_1 : List aa) : Option Bool :=
 (
   (ff n targets_0 16).bind fun r1 =>
   if (!r1) = true then
    some true
   else
    (jR n targets_0).bind fun r4 =>
    if r4 = 0 then
     some (decide (20 < (l_1.length : Int)))
    else
     some true
  : Option Bool).bind fun t7 =>
 if t7 = true then
  some false
 else
  jn (fJ n l_1 n 0) fun q39 =>
  some true
set_option maxHeartbeats 4000000 in
theorem lR (n : Nat) (targets_0 : List Bytes) (l_1 : List aa) (r : Bool) (h0 : jv n targets_0 l_1 = some r) : aF Tryz.prog 14 [eL eS targets_0, eL ac l_1] (· = .p (eB r)) := by
 unfold jv at h0
 refine bG good Tryz.func14 rfl rfl rfl fun w0 => mP (fun v : Bool => .p (eB v)) ?_
 refine nx 6 rfl (bd h0 fun o41 h1 h0 => ?_)
 refine kN o41 (fun v42 => ⟨[(1, .p (eL ac l_1)), (18, .p (eB v42))], []⟩) ?_ ?_
 ·refine nx 1 rfl (fB [18] h0 rfl (fun c8 h0 => ?_) fun c8 h0 => ?_)
  ·exact nx 6 rfl (mQ (oi h0) rfl (sr))
  refine nx 8 rfl ?_
  obtain ⟨o43, h1, hL0, hR0⟩ := eH h0
  refine kEx 0 (fun v44 : Unit => o43 = .inl v44) (fun v44 => ⟨[], []⟩) (fun v44 hv => ?_) ?_
  ·have h0 := hL0 _ hv
   exact nx 6 rfl (mQ (oi h0) rfl (sr))
  refine lG (fun (q45 : Int) => ⟨[(1, .p (eL ac l_1)), (5, .p (eI q45))], []⟩) (fun m (q45 : Int) => fJ n l_1 m q45) (fun _ => rfl) 0 h1 (gE rfl rfl) ?_
  rintro m i23 h1
  replace h1 : fJ n l_1 (m + 1) i23 = some o43 := h1
  rw [fJ] at h1
  refine nx 5 rfl (oLl (f := ac) rfl rfl ?_)
  refine nx 2 rfl (fD [22] h1 rfl (fun c24 h1 => ?_) fun c24 h1 => ?_)
  ·refine nx 5 rfl (bd h1 fun o46 h2 h1 => ?_)
   refine kN o46 (fun v47 => ⟨[(1, .p (eL ac l_1)), (5, .p (eI i23)), (49, .p (eB v47))], []⟩) ?_ ?_
   ·refine nx 1 rfl (fB [49] h1 rfl (fun c35 h1 => ?_) fun c35 h1 => ?_)
    ·exact nx 6 rfl (mQ (hR0 _ (oi h1).symm) rfl (sr))
    refine nx 4 rfl (oA h1 rfl rfl fun hk36 h1 => ?_)
    exact nx 2 rfl (eX (i23 + 1) h1 (gE rfl rfl))
   refine nx 3 rfl (oE h2 aa.cells_eq rfl rfl (fun _ => rfl) fun hk25 h2 => ?_)
   refine nx 2 rfl (oLs rfl ?_)
   refine nx 2 rfl (fD [31, 32] h2 rfl (fun c26 h2 => ?_) fun c26 h2 => ?_)
   ·exact nx 18 rfl (eX _ (oi h2).symm (gE rfl rfl))
   refine nx 2 rfl (oE h2 aa.cells_eq rfl rfl (fun _ => rfl) fun hk27 h2 => ?_)
   refine nx 2 rfl (bd h2 fun r28 e29 h2 => ?_)
   refine oK (ge _ ((lat l_1 i23).fDeps) 10 _ e29) rfl ⟨sr, sr, trivial⟩ Tryz.call10 rfl (nx 3 rfl ?_)
   refine fB [39, 40, 41] h2 rfl (fun c30 h2 => ?_) fun c30 h2 => ?_
   ·exact nx 9 rfl (eX _ (oi h2).symm (gE rfl rfl))
   refine nx 2 rfl (oE h2 aa.cells_eq rfl rfl (fun _ => rfl) fun hk31 h2 => ?_)
   refine nx 2 rfl (bd h2 fun r32 e33 h2 => ?_)
   refine oK (ge _ ((lat l_1 i23).fOldDeps) 10 _ e33) rfl ⟨sr, sr, trivial⟩ Tryz.call10 rfl (nx 3 rfl ?_)
   exact eX _ (oi h2).symm (gE rfl rfl)
  exact nx 2 rfl (eXi _ (oi h1).symm (gE rfl rfl))
 refine nx 2 rfl (bd h1 fun r1 e2 h1 => ?_)
 refine oK (ge _ targets_0 16 _ e2) rfl ⟨sr, sr, trivial⟩ Tryz.call10 rfl (nx 2 rfl ?_)
 refine fB [8, 9] h1 rfl (fun c3 h1 => ?_) fun c3 h1 => ?_
 ·exact nx 10 rfl (eX _ (oi h1).symm (gE rfl rfl))
 refine nx 1 rfl (bd h1 fun r4 e5 h1 => ?_)
 refine oK (rv _ targets_0 _ e5) rfl ⟨sr, trivial⟩ Tryz.call12 rfl (nx 3 rfl ?_)
 refine fN [12, 13, 14] h1 rfl (fun c6 h1 => ?_) fun c6 h1 => ?_
 ·refine nx 1 rfl (oLl (f := ac) rfl rfl ?_)
  exact nx 3 rfl (eX _ (oi h1).symm (gE rfl rfl))
 exact nx 5 rfl (eX _ (oi h1).symm (gE rfl rfl))
def fH (l_0 : List Bytes) (s_1 : Bytes) : Nat → Int → Option (Unit ⊕ Bool)
 | 0, _ => none
 | m + 1, i6 =>
 if i6 < (l_0.length : Int) then
  ck ((0 : Int) ≤ i6 ∧ i6 < (l_0.length : Int)) <|
  if lat l_0 i6 = s_1 then
   some (.inr true)
  else
   ck (inR (i6 + 1)) <|
   fH l_0 s_1 m (i6 + 1)
 else
  some (.inl ())
def kc (n : Nat) (l_0 : List Bytes) (s_1 : Bytes) : Option Bool :=
 jn (fH l_0 s_1 n 0) fun q12 =>
 some false
set_option maxHeartbeats 4000000 in
theorem lD (n : Nat) (l_0 : List Bytes) (s_1 : Bytes) (r : Bool) (h0 : kc n l_0 s_1 = some r) : aF Tryz.prog 19 [eL eS l_0, eS s_1] (· = .p (eB r)) := by
 unfold kc at h0
 refine bG good Tryz.func19 rfl rfl rfl fun w0 => mP (fun v : Bool => .p (eB v)) ?_
 refine nx 10 rfl ?_
 obtain ⟨o13, h1, hL0, hR0⟩ := eH h0
 refine kEx 0 (fun v14 : Unit => o13 = .inl v14) (fun v14 => ⟨[], []⟩) (fun v14 hv => ?_) ?_
 ·have h0 := hL0 _ hv
  exact nx 6 rfl (mQ (oi h0) rfl (sr))
 refine lG (fun (q15 : Int) => ⟨[(0, .p (eL eS l_0)), (1, .p (eS s_1)), (5, .p (eI q15))], []⟩) (fun m (q15 : Int) => fH l_0 s_1 m q15) (fun _ => rfl) 0 h1 (gE rfl rfl) ?_
 rintro m i6 h1
 replace h1 : fH l_0 s_1 (m + 1) i6 = some o13 := h1
 rw [fH] at h1
 refine nx 5 rfl (oLl (f := eS) rfl rfl ?_)
 refine nx 2 rfl (fD [9] h1 rfl (fun c7 h1 => ?_) fun c7 h1 => ?_)
 ·refine nx 8 rfl (oE h1 (fun _ => rfl) rfl rfl (fun _ => rfl) fun hk8 h1 => ?_)
  refine nx 2 rfl (oS rfl rfl ?_)
  refine nx 1 rfl (fD [17] h1 rfl (fun c9 h1 => ?_) fun c9 h1 => ?_)
  ·exact nx 6 rfl (mQ (hR0 _ (oi h1).symm) rfl (sr))
  refine nx 4 rfl (oA h1 rfl rfl fun hk10 h1 => ?_)
  exact nx 2 rfl (eX (i6 + 1) h1 (gE rfl rfl))
 exact nx 2 rfl (eXi _ (oi h1).symm (gE rfl rfl))
def dV (a_0 : List Bytes) (b_1 : List Bytes) : Nat → Int → Option (Unit ⊕ Bool)
 | 0, _ => none
 | m + 1, i8 =>
 if i8 < (a_0.length : Int) then
  ck ((0 : Int) ≤ i8 ∧ i8 < (a_0.length : Int)) <|
  ck ((0 : Int) ≤ i8 ∧ i8 < (b_1.length : Int)) <|
  if lat a_0 i8 = lat b_1 i8 then
   ck (inR (i8 + 1)) <|
   dV a_0 b_1 m (i8 + 1)
  else
   some (.inr false)
 else
  some (.inl ())
def eZ (n : Nat) (a_0 : List Bytes) (b_1 : List Bytes) : Option Bool :=
 if (a_0.length : Int) = (b_1.length : Int) then
  jn (dV a_0 b_1 n 0) fun q15 =>
  some true
 else
  some false
set_option maxHeartbeats 4000000 in
theorem gd (n : Nat) (a_0 : List Bytes) (b_1 : List Bytes) (r : Bool) (h0 : eZ n a_0 b_1 = some r) : aF Tryz.prog 20 [eL eS a_0, eL eS b_1] (· = .p (eB r)) := by
 unfold eZ at h0
 refine bG good Tryz.func20 rfl rfl rfl fun w0 => mP (fun v : Bool => .p (eB v)) ?_
 refine nx 8 rfl (oLl (f := eS) rfl rfl ?_)
 refine nx 1 rfl (oLl (f := eS) rfl rfl ?_)
 refine nx 2 rfl (fN [10] h0 rfl (fun c1 h0 => ?_) fun c1 h0 => ?_)
 ·refine nx 8 rfl ?_
  obtain ⟨o16, h1, hL0, hR0⟩ := eH h0
  refine kEx 0 (fun v17 : Unit => o16 = .inl v17) (fun v17 => ⟨[], []⟩) (fun v17 hv => ?_) ?_
  ·have h0 := hL0 _ hv
   exact nx 6 rfl (mQ (oi h0) rfl (sr))
  refine lG (fun (q18 : Int) => ⟨[(0, .p (eL eS a_0)), (1, .p (eL eS b_1)), (5, .p (eI q18))], []⟩) (fun m (q18 : Int) => dV a_0 b_1 m q18) (fun _ => rfl) 0 h1 (gE rfl rfl) ?_
  rintro m i8 h1
  replace h1 : dV a_0 b_1 (m + 1) i8 = some o16 := h1
  rw [dV] at h1
  refine nx 5 rfl (oLl (f := eS) rfl rfl ?_)
  refine nx 2 rfl (fD [14] h1 rfl (fun c9 h1 => ?_) fun c9 h1 => ?_)
  ·refine nx 5 rfl (cc' h1 fun hk10 h1 => ?_)
   refine cc' h1 fun hk11 h1 => mD [(0, .p (eL eS a_0)), (1, .p (eL eS b_1)), (5, .p (eI i8))] rfl ⟨rfl, rfl, rfl, trivial⟩ rfl (dR 2 rfl ?_)
   refine dq (.rptr [eS (lat a_0 i8)]) [17,18] rfl (fun _ e _ q => ae rfl (ce (f := eS) (l := a_0) (fun x => [eS x]) rfl rfl rfl rfl rfl rfl (e _ _ rfl) rfl (e _ _ rfl) hk10 (fun _ => rfl) (fun _ => rfl) q)) rfl (dR 3 rfl ?_)
   refine dq (.rptr [eS (lat b_1 i8)]) [21,22] rfl (fun _ e _ q => ae rfl (ce (f := eS) (l := b_1) (fun x => [eS x]) rfl rfl rfl rfl rfl rfl (e _ _ rfl) rfl (e _ _ rfl) hk11 (fun _ => rfl) (fun _ => rfl) q)) rfl (dR 1 rfl ?_)
   refine dq (.p (eB (!decide (lat a_0 i8 = lat b_1 i8)))) [20,24] rfl (fun _ e _ q => ae rfl (cE rfl rfl rfl (e _ _ rfl) (e _ _ rfl) rfl q)) rfl (dE rfl ?_)
   refine nx 1 rfl (fN [25] h1 rfl (fun c12 h1 => ?_) fun c12 h1 => ?_)
   ·refine nx 4 rfl (oA h1 rfl rfl fun hk13 h1 => ?_)
    exact nx 2 rfl (eX (i8 + 1) h1 (gE rfl rfl))
   exact nx 6 rfl (mQ (hR0 _ (oi h1).symm) rfl (sr))
  exact nx 2 rfl (eXi _ (oi h1).symm (gE rfl rfl))
 exact nx 6 rfl (mQ (oi h0) rfl (sr))
def ey (n : Nat) (a_0 : List aa) (b_1 : List aa) : Nat → Int → Option (Unit ⊕ Bool)
 | 0, _ => none
 | m + 1, i25 =>
 if i25 < (a_0.length : Int) then
  (
    ck ((0 : Int) ≤ i25 ∧ i25 < (a_0.length : Int)) <|
    ck ((0 : Int) ≤ i25 ∧ i25 < (b_1.length : Int)) <|
    if (lat a_0 i25).fAddr = (lat b_1 i25).fAddr then
     ck ((0 : Int) ≤ i25 ∧ i25 < (a_0.length : Int)) <|
     ck ((0 : Int) ≤ i25 ∧ i25 < (b_1.length : Int)) <|
     if (lat a_0 i25).fDeposed = (lat b_1 i25).fDeposed then
      ck ((0 : Int) ≤ i25 ∧ i25 < (a_0.length : Int)) <|
      ck ((0 : Int) ≤ i25 ∧ i25 < (b_1.length : Int)) <|
      if (lat a_0 i25).fAction = (lat b_1 i25).fAction then
       ck ((0 : Int) ≤ i25 ∧ i25 < (a_0.length : Int)) <|
       ck ((0 : Int) ≤ i25 ∧ i25 < (b_1.length : Int)) <|
       (eZ n ((lat a_0 i25).fDeps) ((lat b_1 i25).fDeps)).bind fun r38 =>
       if (!r38) = true then
        some true
       else
        ck ((0 : Int) ≤ i25 ∧ i25 < (a_0.length : Int)) <|
        ck ((0 : Int) ≤ i25 ∧ i25 < (b_1.length : Int)) <|
        (eZ n ((lat a_0 i25).fOldDeps) ((lat b_1 i25).fOldDeps)).bind fun r43 =>
        some (!r43)
      else
       some true
     else
      some true
    else
     some true
   : Option Bool).bind fun t45 =>
  if t45 = true then
   some (.inr false)
  else
   ck (inR (i25 + 1)) <|
   ey n a_0 b_1 m (i25 + 1)
 else
  some (.inl ())
def iK (n : Nat) (a_0 : List aa) (b_1 : List aa) : Option Bool :=
 if (a_0.length : Int) = (b_1.length : Int) then
  jn (ey n a_0 b_1 n 0) fun q49 =>
  some true
 else
  some false
set_option maxHeartbeats 4000000 in
theorem gW (n : Nat) (a_0 : List aa) (b_1 : List aa) (r : Bool) (h0 : iK n a_0 b_1 = some r) : aF Tryz.prog 22 [eL ac a_0, eL ac b_1] (· = .p (eB r)) := by
 unfold iK at h0
 refine bG good Tryz.func22 rfl rfl rfl fun w0 => mP (fun v : Bool => .p (eB v)) ?_
 refine nx 8 rfl (oLl (f := ac) rfl rfl ?_)
 refine nx 1 rfl (oLl (f := ac) rfl rfl ?_)
 refine nx 2 rfl (fN [10] h0 rfl (fun c1 h0 => ?_) fun c1 h0 => ?_)
 ·refine nx 8 rfl ?_
  obtain ⟨o51, h1, hL0, hR0⟩ := eH h0
  refine kEx 0 (fun v52 : Unit => o51 = .inl v52) (fun v52 => ⟨[], []⟩) (fun v52 hv => ?_) ?_
  ·have h0 := hL0 _ hv
   exact nx 6 rfl (mQ (oi h0) rfl (sr))
  refine lG (fun (q53 : Int) => ⟨[(0, .p (eL ac a_0)), (1, .p (eL ac b_1)), (5, .p (eI q53))], []⟩) (fun m (q53 : Int) => ey n a_0 b_1 m q53) (fun _ => rfl) 0 h1 (gE rfl rfl) ?_
  rintro m i25 h1
  replace h1 : ey n a_0 b_1 (m + 1) i25 = some o51 := h1
  rw [ey] at h1
  refine nx 5 rfl (oLl (f := ac) rfl rfl ?_)
  refine nx 2 rfl (fD [14] h1 rfl (fun c26 h1 => ?_) fun c26 h1 => ?_)
  ·refine nx 5 rfl (bd h1 fun o54 h2 h1 => ?_)
   refine kN o54 (fun v55 => ⟨[(0, .p (eL ac a_0)), (1, .p (eL ac b_1)), (5, .p (eI i25)), (81, .p (eB v55))], []⟩) ?_ ?_
   ·refine nx 1 rfl (fB [81] h1 rfl (fun c46 h1 => ?_) fun c46 h1 => ?_)
    ·exact nx 6 rfl (mQ (hR0 _ (oi h1).symm) rfl (sr))
    refine nx 4 rfl (oA h1 rfl rfl fun hk47 h1 => ?_)
    exact nx 2 rfl (eX (i25 + 1) h1 (gE rfl rfl))
   refine cc' h2 fun hk27 h2 => cc' h2 fun hk28 h2 => fN (p := (lat a_0 i25).fAddr = (lat b_1 i25).fAddr) [] h2 rfl (fun c29 h2 => ?_) fun c29 h2 => ?_
   ·refine cc' h2 fun hk30 h2 => cc' h2 fun hk31 h2 => fN (p := (lat a_0 i25).fDeposed = (lat b_1 i25).fDeposed) [] h2 rfl (fun c32 h2 => ?_) fun c32 h2 => ?_
    ·refine cc' h2 fun hk33 h2 => cc' h2 fun hk34 h2 => fN (p := (lat a_0 i25).fAction = (lat b_1 i25).fAction) [] h2 rfl (fun c35 h2 => ?_) fun c35 h2 => ?_
     ·refine cc' h2 fun hk36 h2 => cc' h2 fun hk37 h2 => bd h2 fun r38 e39 h2 => fB (p := !r38) [] h2 rfl (fun c40 h2 => ?_) fun c40 h2 => ?_
      ·refine mD [(0, .p (eL ac a_0)), (1, .p (eL ac b_1)), (5, .p (eI i25))] rfl ⟨rfl, rfl, rfl, trivial⟩ rfl (dR 2 rfl ?_)
       refine dq (.rptr (aa.cs (lat a_0 i25))) [17,18] rfl (fun _ e _ q => ae rfl (ce (f := ac) (l := a_0) aa.cs rfl rfl rfl rfl rfl rfl (e _ _ rfl) rfl (e _ _ rfl) hk27 aa.cells_eq (fun _ => rfl) q)) rfl (dR 4 rfl ?_)
       refine dq (.rptr (aa.cs (lat b_1 i25))) [22,23] rfl (fun _ e _ q => ae rfl (ce (f := ac) (l := b_1) aa.cs rfl rfl rfl rfl rfl rfl (e _ _ rfl) rfl (e _ _ rfl) hk28 aa.cells_eq (fun _ => rfl) q)) rfl (dR 2 rfl ?_)
       refine dq (.p (eB (!decide ((lat a_0 i25).fAddr = (lat b_1 i25).fAddr)))) [21,26] rfl (fun _ e _ q => ae rfl (cE rfl rfl rfl (e _ _ rfl) (e _ _ rfl) rfl q)) rfl (dL (aE c29) rfl ?_)
       refine dR 2 rfl (dq (.rptr (aa.cs (lat a_0 i25))) [28,29,30] rfl (fun _ e _ q => aZ (ce (f := ac) (l := a_0) aa.cs rfl rfl rfl rfl rfl rfl (e _ _ rfl) rfl (e _ _ rfl) hk30 aa.cells_eq (fun _ => rfl) q) rfl rfl (e _ _ rfl) (rfl)) rfl ?_)
       refine dR 4 rfl (dq (.rptr (aa.cs (lat b_1 i25))) [28,34,35] rfl (fun _ e _ q => aZ (ce (f := ac) (l := b_1) aa.cs rfl rfl rfl rfl rfl rfl (e _ _ rfl) rfl (e _ _ rfl) hk31 aa.cells_eq (fun _ => rfl) q) rfl rfl (e _ _ rfl) (rfl)) rfl ?_)
       refine dR 2 rfl (dq (.p (eB (!decide ((lat a_0 i25).fDeposed = (lat b_1 i25).fDeposed)))) [28,33,38] rfl (fun _ e _ q => aZ (cE rfl rfl rfl (e _ _ rfl) (e _ _ rfl) rfl q) rfl rfl (e _ _ rfl) (rfl)) rfl ?_)
       refine dL (aE c32) rfl (dR 3 rfl ?_)
       refine dq (.rptr (aa.cs (lat a_0 i25))) [41,42,43] rfl (fun _ e _ q => aZ (ce (f := ac) (l := a_0) aa.cs rfl rfl rfl rfl rfl rfl (e _ _ rfl) rfl (e _ _ rfl) hk33 aa.cells_eq (fun _ => rfl) q) rfl rfl (e _ _ rfl) (rfl)) rfl (dR 4 rfl ?_)
       refine dq (.rptr (aa.cs (lat b_1 i25))) [41,47,48] rfl (fun _ e _ q => aZ (ce (f := ac) (l := b_1) aa.cs rfl rfl rfl rfl rfl rfl (e _ _ rfl) rfl (e _ _ rfl) hk34 aa.cells_eq (fun _ => rfl) q) rfl rfl (e _ _ rfl) (rfl)) rfl (dR 2 rfl ?_)
       refine dL (aE c35) rfl (dR 4 rfl ?_)
       refine dq (.rptr (aa.cs (lat a_0 i25))) [54,55,56] rfl (fun _ e _ q => aZ (ce (f := ac) (l := a_0) aa.cs rfl rfl rfl rfl rfl rfl (e _ _ rfl) rfl (e _ _ rfl) hk36 aa.cells_eq (fun _ => rfl) q) rfl rfl (e _ _ rfl) (rfl)) rfl (dR 4 rfl ?_)
       refine dq (.rptr (aa.cs (lat b_1 i25))) [54,60,61] rfl (fun _ e _ q => aZ (ce (f := ac) (l := b_1) aa.cs rfl rfl rfl rfl rfl rfl (e _ _ rfl) rfl (e _ _ rfl) hk37 aa.cells_eq (fun _ => rfl) q) rfl rfl (e _ _ rfl) (rfl)) rfl (dR 2 rfl ?_)
       refine dq (.p (eB r38)) [54,59,64] rfl (fun _ e _ q => aZ (bj (gd _ ((lat a_0 i25).fDeps) ((lat b_1 i25).fDeps) _ e39) rfl rfl rfl (ay (e _ _ rfl) (ay (e _ _ rfl) bm)) ⟨sr, sr, trivial⟩ Tryz.call20 rfl q) rfl rfl (e _ _ rfl) (rfl)) rfl (dL (c40) rfl ?_)
       refine dR 15 rfl (dE rfl ?_)
       exact nx 1 rfl (eX _ (oi h2).symm (gE rfl rfl))
      refine cc' h2 fun hk41 h2 => cc' h2 fun hk42 h2 => bd h2 fun r43 e44 h2 => mD [(0, .p (eL ac a_0)), (1, .p (eL ac b_1)), (5, .p (eI i25))] rfl ⟨rfl, rfl, rfl, trivial⟩ rfl (dR 2 rfl ?_)
      refine dq (.rptr (aa.cs (lat a_0 i25))) [17,18] rfl (fun _ e _ q => ae rfl (ce (f := ac) (l := a_0) aa.cs rfl rfl rfl rfl rfl rfl (e _ _ rfl) rfl (e _ _ rfl) hk27 aa.cells_eq (fun _ => rfl) q)) rfl (dR 4 rfl ?_)
      refine dq (.rptr (aa.cs (lat b_1 i25))) [22,23] rfl (fun _ e _ q => ae rfl (ce (f := ac) (l := b_1) aa.cs rfl rfl rfl rfl rfl rfl (e _ _ rfl) rfl (e _ _ rfl) hk28 aa.cells_eq (fun _ => rfl) q)) rfl (dR 2 rfl ?_)
      refine dq (.p (eB (!decide ((lat a_0 i25).fAddr = (lat b_1 i25).fAddr)))) [21,26] rfl (fun _ e _ q => ae rfl (cE rfl rfl rfl (e _ _ rfl) (e _ _ rfl) rfl q)) rfl (dL (aE c29) rfl ?_)
      refine dR 2 rfl (dq (.rptr (aa.cs (lat a_0 i25))) [28,29,30] rfl (fun _ e _ q => aZ (ce (f := ac) (l := a_0) aa.cs rfl rfl rfl rfl rfl rfl (e _ _ rfl) rfl (e _ _ rfl) hk30 aa.cells_eq (fun _ => rfl) q) rfl rfl (e _ _ rfl) (rfl)) rfl ?_)
      refine dR 4 rfl (dq (.rptr (aa.cs (lat b_1 i25))) [28,34,35] rfl (fun _ e _ q => aZ (ce (f := ac) (l := b_1) aa.cs rfl rfl rfl rfl rfl rfl (e _ _ rfl) rfl (e _ _ rfl) hk31 aa.cells_eq (fun _ => rfl) q) rfl rfl (e _ _ rfl) (rfl)) rfl ?_)
      refine dR 2 rfl (dq (.p (eB (!decide ((lat a_0 i25).fDeposed = (lat b_1 i25).fDeposed)))) [28,33,38] rfl (fun _ e _ q => aZ (cE rfl rfl rfl (e _ _ rfl) (e _ _ rfl) rfl q) rfl rfl (e _ _ rfl) (rfl)) rfl ?_)
      refine dL (aE c32) rfl (dR 3 rfl ?_)
      refine dq (.rptr (aa.cs (lat a_0 i25))) [41,42,43] rfl (fun _ e _ q => aZ (ce (f := ac) (l := a_0) aa.cs rfl rfl rfl rfl rfl rfl (e _ _ rfl) rfl (e _ _ rfl) hk33 aa.cells_eq (fun _ => rfl) q) rfl rfl (e _ _ rfl) (rfl)) rfl (dR 4 rfl ?_)
      refine dq (.rptr (aa.cs (lat b_1 i25))) [41,47,48] rfl (fun _ e _ q => aZ (ce (f := ac) (l := b_1) aa.cs rfl rfl rfl rfl rfl rfl (e _ _ rfl) rfl (e _ _ rfl) hk34 aa.cells_eq (fun _ => rfl) q) rfl rfl (e _ _ rfl) (rfl)) rfl (dR 2 rfl ?_)
      refine dL (aE c35) rfl (dR 4 rfl ?_)
      refine dq (.rptr (aa.cs (lat a_0 i25))) [54,55,56] rfl (fun _ e _ q => aZ (ce (f := ac) (l := a_0) aa.cs rfl rfl rfl rfl rfl rfl (e _ _ rfl) rfl (e _ _ rfl) hk36 aa.cells_eq (fun _ => rfl) q) rfl rfl (e _ _ rfl) (rfl)) rfl (dR 4 rfl ?_)
      refine dq (.rptr (aa.cs (lat b_1 i25))) [54,60,61] rfl (fun _ e _ q => aZ (ce (f := ac) (l := b_1) aa.cs rfl rfl rfl rfl rfl rfl (e _ _ rfl) rfl (e _ _ rfl) hk37 aa.cells_eq (fun _ => rfl) q) rfl rfl (e _ _ rfl) (rfl)) rfl (dR 2 rfl ?_)
      refine dq (.p (eB r38)) [54,59,64] rfl (fun _ e _ q => aZ (bj (gd _ ((lat a_0 i25).fDeps) ((lat b_1 i25).fDeps) _ e39) rfl rfl rfl (ay (e _ _ rfl) (ay (e _ _ rfl) bm)) ⟨sr, sr, trivial⟩ Tryz.call20 rfl q) rfl rfl (e _ _ rfl) (rfl)) rfl (dL (c40) rfl ?_)
      refine dR 4 rfl (dq (.rptr (aa.cs (lat a_0 i25))) [68,69,70] rfl (fun _ e _ q => aZ (ce (f := ac) (l := a_0) aa.cs rfl rfl rfl rfl rfl rfl (e _ _ rfl) rfl (e _ _ rfl) hk41 aa.cells_eq (fun _ => rfl) q) rfl rfl (e _ _ rfl) (rfl)) rfl ?_)
      refine dR 4 rfl (dq (.rptr (aa.cs (lat b_1 i25))) [68,74,75] rfl (fun _ e _ q => aZ (ce (f := ac) (l := b_1) aa.cs rfl rfl rfl rfl rfl rfl (e _ _ rfl) rfl (e _ _ rfl) hk42 aa.cells_eq (fun _ => rfl) q) rfl rfl (e _ _ rfl) (rfl)) rfl ?_)
      refine dR 2 rfl (dq (.p (eB r43)) [68,73,78] rfl (fun _ e _ q => aZ (bj (gd _ ((lat a_0 i25).fOldDeps) ((lat b_1 i25).fOldDeps) _ e44) rfl rfl rfl (ay (e _ _ rfl) (ay (e _ _ rfl) bm)) ⟨sr, sr, trivial⟩ Tryz.call20 rfl q) rfl rfl (e _ _ rfl) (rfl)) rfl ?_)
      refine dR 2 rfl (dE rfl ?_)
      exact nx 1 rfl (eX _ (oi h2).symm (gE rfl rfl))
     refine mD [(0, .p (eL ac a_0)), (1, .p (eL ac b_1)), (5, .p (eI i25))] rfl ⟨rfl, rfl, rfl, trivial⟩ rfl (dR 2 rfl ?_)
     refine dq (.rptr (aa.cs (lat a_0 i25))) [17,18] rfl (fun _ e _ q => ae rfl (ce (f := ac) (l := a_0) aa.cs rfl rfl rfl rfl rfl rfl (e _ _ rfl) rfl (e _ _ rfl) hk27 aa.cells_eq (fun _ => rfl) q)) rfl (dR 4 rfl ?_)
     refine dq (.rptr (aa.cs (lat b_1 i25))) [22,23] rfl (fun _ e _ q => ae rfl (ce (f := ac) (l := b_1) aa.cs rfl rfl rfl rfl rfl rfl (e _ _ rfl) rfl (e _ _ rfl) hk28 aa.cells_eq (fun _ => rfl) q)) rfl (dR 2 rfl ?_)
     refine dq (.p (eB (!decide ((lat a_0 i25).fAddr = (lat b_1 i25).fAddr)))) [21,26] rfl (fun _ e _ q => ae rfl (cE rfl rfl rfl (e _ _ rfl) (e _ _ rfl) rfl q)) rfl (dL (aE c29) rfl ?_)
     refine dR 2 rfl (dq (.rptr (aa.cs (lat a_0 i25))) [28,29,30] rfl (fun _ e _ q => aZ (ce (f := ac) (l := a_0) aa.cs rfl rfl rfl rfl rfl rfl (e _ _ rfl) rfl (e _ _ rfl) hk30 aa.cells_eq (fun _ => rfl) q) rfl rfl (e _ _ rfl) (rfl)) rfl ?_)
     refine dR 4 rfl (dq (.rptr (aa.cs (lat b_1 i25))) [28,34,35] rfl (fun _ e _ q => aZ (ce (f := ac) (l := b_1) aa.cs rfl rfl rfl rfl rfl rfl (e _ _ rfl) rfl (e _ _ rfl) hk31 aa.cells_eq (fun _ => rfl) q) rfl rfl (e _ _ rfl) (rfl)) rfl ?_)
     refine dR 2 rfl (dq (.p (eB (!decide ((lat a_0 i25).fDeposed = (lat b_1 i25).fDeposed)))) [28,33,38] rfl (fun _ e _ q => aZ (cE rfl rfl rfl (e _ _ rfl) (e _ _ rfl) rfl q) rfl rfl (e _ _ rfl) (rfl)) rfl ?_)
     refine dL (aE c32) rfl (dR 3 rfl ?_)
     refine dq (.rptr (aa.cs (lat a_0 i25))) [41,42,43] rfl (fun _ e _ q => aZ (ce (f := ac) (l := a_0) aa.cs rfl rfl rfl rfl rfl rfl (e _ _ rfl) rfl (e _ _ rfl) hk33 aa.cells_eq (fun _ => rfl) q) rfl rfl (e _ _ rfl) (rfl)) rfl (dR 4 rfl ?_)
     refine dq (.rptr (aa.cs (lat b_1 i25))) [41,47,48] rfl (fun _ e _ q => aZ (ce (f := ac) (l := b_1) aa.cs rfl rfl rfl rfl rfl rfl (e _ _ rfl) rfl (e _ _ rfl) hk34 aa.cells_eq (fun _ => rfl) q) rfl rfl (e _ _ rfl) (rfl)) rfl (dR 2 rfl ?_)
     refine dL (aP c35) rfl (dR 29 rfl ?_)
     refine dE rfl (nx 1 rfl ?_)
     exact eX _ (oi h2).symm (gE rfl rfl)
    refine mD [(0, .p (eL ac a_0)), (1, .p (eL ac b_1)), (5, .p (eI i25))] rfl ⟨rfl, rfl, rfl, trivial⟩ rfl (dR 2 rfl ?_)
    refine dq (.rptr (aa.cs (lat a_0 i25))) [17,18] rfl (fun _ e _ q => ae rfl (ce (f := ac) (l := a_0) aa.cs rfl rfl rfl rfl rfl rfl (e _ _ rfl) rfl (e _ _ rfl) hk27 aa.cells_eq (fun _ => rfl) q)) rfl (dR 4 rfl ?_)
    refine dq (.rptr (aa.cs (lat b_1 i25))) [22,23] rfl (fun _ e _ q => ae rfl (ce (f := ac) (l := b_1) aa.cs rfl rfl rfl rfl rfl rfl (e _ _ rfl) rfl (e _ _ rfl) hk28 aa.cells_eq (fun _ => rfl) q)) rfl (dR 2 rfl ?_)
    refine dq (.p (eB (!decide ((lat a_0 i25).fAddr = (lat b_1 i25).fAddr)))) [21,26] rfl (fun _ e _ q => ae rfl (cE rfl rfl rfl (e _ _ rfl) (e _ _ rfl) rfl q)) rfl (dL (aE c29) rfl ?_)
    refine dR 2 rfl (dq (.rptr (aa.cs (lat a_0 i25))) [28,29,30] rfl (fun _ e _ q => aZ (ce (f := ac) (l := a_0) aa.cs rfl rfl rfl rfl rfl rfl (e _ _ rfl) rfl (e _ _ rfl) hk30 aa.cells_eq (fun _ => rfl) q) rfl rfl (e _ _ rfl) (rfl)) rfl ?_)
    refine dR 4 rfl (dq (.rptr (aa.cs (lat b_1 i25))) [28,34,35] rfl (fun _ e _ q => aZ (ce (f := ac) (l := b_1) aa.cs rfl rfl rfl rfl rfl rfl (e _ _ rfl) rfl (e _ _ rfl) hk31 aa.cells_eq (fun _ => rfl) q) rfl rfl (e _ _ rfl) (rfl)) rfl ?_)
    refine dR 2 rfl (dq (.p (eB (!decide ((lat a_0 i25).fDeposed = (lat b_1 i25).fDeposed)))) [28,33,38] rfl (fun _ e _ q => aZ (cE rfl rfl rfl (e _ _ rfl) (e _ _ rfl) rfl q) rfl rfl (e _ _ rfl) (rfl)) rfl ?_)
    refine dL (aP c32) rfl (dR 41 rfl ?_)
    refine dE rfl (nx 1 rfl ?_)
    exact eX _ (oi h2).symm (gE rfl rfl)
   refine mD [(0, .p (eL ac a_0)), (1, .p (eL ac b_1)), (5, .p (eI i25))] rfl ⟨rfl, rfl, rfl, trivial⟩ rfl (dR 2 rfl ?_)
   refine dq (.rptr (aa.cs (lat a_0 i25))) [17,18] rfl (fun _ e _ q => ae rfl (ce (f := ac) (l := a_0) aa.cs rfl rfl rfl rfl rfl rfl (e _ _ rfl) rfl (e _ _ rfl) hk27 aa.cells_eq (fun _ => rfl) q)) rfl (dR 4 rfl ?_)
   refine dq (.rptr (aa.cs (lat b_1 i25))) [22,23] rfl (fun _ e _ q => ae rfl (ce (f := ac) (l := b_1) aa.cs rfl rfl rfl rfl rfl rfl (e _ _ rfl) rfl (e _ _ rfl) hk28 aa.cells_eq (fun _ => rfl) q)) rfl (dR 2 rfl ?_)
   refine dq (.p (eB (!decide ((lat a_0 i25).fAddr = (lat b_1 i25).fAddr)))) [21,26] rfl (fun _ e _ q => ae rfl (cE rfl rfl rfl (e _ _ rfl) (e _ _ rfl) rfl q)) rfl (dL (aP c29) rfl ?_)
   refine dR 53 rfl (dE rfl ?_)
   exact nx 1 rfl (eX _ (oi h2).symm (gE rfl rfl))
  exact nx 2 rfl (eXi _ (oi h1).symm (gE rfl rfl))
 exact nx 6 rfl (mQ (oi h0) rfl (sr))
end Go.Ab.R06
end
section
set_option linter.unusedVariables false
set_option linter.unusedSimpArgs false
set_option linter.unnecessarySimpa false
namespace Go.Ab.R06
open Go.Ab
theorem nU {targets_0 : List Bytes} : ∀ (m m' : Nat), m ≤ m' → ∀ (y0 : Int), Le (cT targets_0 m y0) (cT targets_0 m' y0) := by
 intro m
 induction m with
 | zero => intro m' _ y0; exact dz _
 | succ m ih =>
 intro m' hm y0
 cases m' with
 | zero => omega
 | succ m' =>
 simp only [cT]
 repeat' (with_reducible (first | exact ai _ | apply ih | refine cz ?_ | refine bD ?_ ?_ | refine bf ?_ (fun _ => ?_) | refine cA ?_ (fun _ => ?_) | omega | intro _))
theorem qx {n n' : Nat} (hn : n ≤ n') {targets_0 : List Bytes} : Le (eP n targets_0) (eP n' targets_0) := by
 simp only [eP]
 repeat' (with_reducible (first | exact ai _ | apply nU | refine cz ?_ | refine bD ?_ ?_ | refine bf ?_ (fun _ => ?_) | refine cA ?_ (fun _ => ?_) | omega | intro _))
theorem qS {patterns_0 : List Bytes} {s_1 : Bytes} : ∀ (m m' : Nat), m ≤ m' → ∀ (y0 : Int), Le (eu patterns_0 s_1 m y0) (eu patterns_0 s_1 m' y0) := by
 intro m
 induction m with
 | zero => intro m' _ y0; exact dz _
 | succ m ih =>
 intro m' hm y0
 cases m' with
 | zero => omega
 | succ m' =>
 simp only [eu]
 repeat' (with_reducible (first | exact ai _ | apply ih | refine cz ?_ | refine bD ?_ ?_ | refine bf ?_ (fun _ => ?_) | refine cA ?_ (fun _ => ?_) | omega | intro _))
theorem uG {n n' : Nat} (hn : n ≤ n') {patterns_0 : List Bytes} {s_1 : Bytes} : Le (iM n patterns_0 s_1) (iM n' patterns_0 s_1) := by
 simp only [iM]
 repeat' (with_reducible (first | exact ai _ | apply qS | refine cz ?_ | refine bD ?_ ?_ | refine bf ?_ (fun _ => ?_) | refine cA ?_ (fun _ => ?_) | omega | intro _))
theorem kW {s_0 : Bytes} : ∀ (m m' : Nat), m ≤ m' → ∀ (y0 : Int), Le (bJ s_0 m y0) (bJ s_0 m' y0) := by
 intro m
 induction m with
 | zero => intro m' _ y0; exact dz _
 | succ m ih =>
 intro m' hm y0
 cases m' with
 | zero => omega
 | succ m' =>
 simp only [bJ]
 repeat' (with_reducible (first | exact ai _ | apply ih | refine cz ?_ | refine bD ?_ ?_ | refine bf ?_ (fun _ => ?_) | refine cA ?_ (fun _ => ?_) | omega | intro _))
theorem fu {n n' : Nat} (hn : n ≤ n') {s_0 : Bytes} : Le (cm n s_0) (cm n' s_0) := by
 simp only [cm]
 repeat' (with_reducible (first | exact ai _ | apply kW | refine cz ?_ | refine bD ?_ ?_ | refine bf ?_ (fun _ => ?_) | refine cA ?_ (fun _ => ?_) | omega | intro _))
theorem iZ {n n' : Nat} (hn : n ≤ n') {r_0 : aB} : Le (cp n r_0) (cp n' r_0) := by
 simp only [cp]
 repeat' (with_reducible (first | exact ai _ | apply fu | refine cz ?_ | refine bD ?_ ?_ | refine bf ?_ (fun _ => ?_) | refine cA ?_ (fun _ => ?_) | omega | intro _))
theorem kT {s_0 : Bytes} : ∀ (m m' : Nat), m ≤ m' → ∀ (y0 : Int) (y1 : Int), Le (bK s_0 m y0 y1) (bK s_0 m' y0 y1) := by
 intro m
 induction m with
 | zero => intro m' _ y0 y1; exact dz _
 | succ m ih =>
 intro m' hm y0 y1
 cases m' with
 | zero => omega
 | succ m' =>
 simp only [bK]
 repeat' (with_reducible (first | exact ai _ | apply ih | refine cz ?_ | refine bD ?_ ?_ | refine bf ?_ (fun _ => ?_) | refine cA ?_ (fun _ => ?_) | omega | intro _))
theorem mb {n n' : Nat} (hn : n ≤ n') {s_0 : Bytes} : Le (cQ n s_0) (cQ n' s_0) := by
 simp only [cQ]
 repeat' (with_reducible (first | exact ai _ | apply kT | refine cz ?_ | refine bD ?_ ?_ | refine bf ?_ (fun _ => ?_) | refine cA ?_ (fun _ => ?_) | omega | intro _))
theorem pw {n n' : Nat} (hn : n ≤ n') {s_0 : Bytes} : Le (eY n s_0) (eY n' s_0) := by
 simp only [eY]
 repeat' (with_reducible (first | exact ai _ | apply mb | refine cz ?_ | refine bD ?_ ?_ | refine bf ?_ (fun _ => ?_) | refine cA ?_ (fun _ => ?_) | omega | intro _))
theorem mF {n n' : Nat} (hn : n ≤ n') {s_0 : Bytes} : ∀ (m m' : Nat), m ≤ m' → ∀ (y0 : Int) (y1 : List UInt8), Le (cM n s_0 m y0 y1) (cM n' s_0 m' y0 y1) := by
 intro m
 induction m with
 | zero => intro m' _ y0 y1; exact dz _
 | succ m ih =>
 intro m' hm y0 y1
 cases m' with
 | zero => omega
 | succ m' =>
 simp only [cM]
 repeat' (with_reducible (first | exact ai _ | apply ih | apply pw | refine cz ?_ | refine bD ?_ ?_ | refine bf ?_ (fun _ => ?_) | refine cA ?_ (fun _ => ?_) | omega | intro _))
theorem oy {n n' : Nat} (hn : n ≤ n') {s_0 : Bytes} : Le (em n s_0) (em n' s_0) := by
 simp only [em]
 repeat' (with_reducible (first | exact ai _ | apply mF | refine cz ?_ | refine bD ?_ ?_ | refine bf ?_ (fun _ => ?_) | refine cA ?_ (fun _ => ?_) | omega | intro _))
theorem nZ {s_0 : Bytes} : ∀ (m m' : Nat), m ≤ m' → ∀ (y0 : Int) (y1 : List UInt8), Le (cS s_0 m y0 y1) (cS s_0 m' y0 y1) := by
 intro m
 induction m with
 | zero => intro m' _ y0 y1; exact dz _
 | succ m ih =>
 intro m' hm y0 y1
 cases m' with
 | zero => omega
 | succ m' =>
 simp only [cS]
 repeat' (with_reducible (first | exact ai _ | apply ih | refine cz ?_ | refine bD ?_ ?_ | refine bf ?_ (fun _ => ?_) | refine cA ?_ (fun _ => ?_) | omega | intro _))
theorem l9 {n n' : Nat} (hn : n ≤ n') {s_0 : Bytes} : Le (eQ n s_0) (eQ n' s_0) := by
 simp only [eQ]
 repeat' (with_reducible (first | exact ai _ | apply nZ | refine cz ?_ | refine bD ?_ ?_ | refine bf ?_ (fun _ => ?_) | refine cA ?_ (fun _ => ?_) | omega | intro _))
theorem lI {s7 : Bytes} : ∀ (m m' : Nat), m ≤ m' → ∀ (y0 : Int), Le (bP s7 m y0) (bP s7 m' y0) := by
 intro m
 induction m with
 | zero => intro m' _ y0; exact dz _
 | succ m ih =>
 intro m' hm y0
 cases m' with
 | zero => omega
 | succ m' =>
 simp only [bP]
 repeat' (with_reducible (first | exact ai _ | apply ih | refine cz ?_ | refine bD ?_ ?_ | refine bf ?_ (fun _ => ?_) | refine cA ?_ (fun _ => ?_) | omega | intro _))
theorem nE {n n' : Nat} (hn : n ≤ n') {s_0 : Bytes} : Le (dT n s_0) (dT n' s_0) := by
 simp only [dT]
 repeat' (with_reducible (first | exact ai _ | apply lI | refine cz ?_ | refine bD ?_ ?_ | refine bf ?_ (fun _ => ?_) | refine cA ?_ (fun _ => ?_) | omega | intro _))
theorem qG {n n' : Nat} (hn : n ≤ n') {s_0 : Bytes} : Le (fI n s_0) (fI n' s_0) := by
 simp only [fI]
 repeat' (with_reducible (first | exact ai _ | apply nE | refine cz ?_ | refine bD ?_ ?_ | refine bf ?_ (fun _ => ?_) | refine cA ?_ (fun _ => ?_) | omega | intro _))
theorem jc {n n' : Nat} (hn : n ≤ n') {r_0 : aB} : Le (cP n r_0) (cP n' r_0) := by
 simp only [cP]
 repeat' (with_reducible (first | exact ai _ | apply oy | apply l9 | apply qG | refine cz ?_ | refine bD ?_ ?_ | refine bf ?_ (fun _ => ?_) | refine cA ?_ (fun _ => ?_) | omega | intro _))
theorem lJ {n n' : Nat} (hn : n ≤ n') {r_0 : aB} : Le (cW n r_0) (cW n' r_0) := by
 simp only [cW]
 repeat' (with_reducible (first | exact ai _ | apply iZ | apply jc | refine cz ?_ | refine bD ?_ ?_ | refine bf ?_ (fun _ => ?_) | refine cA ?_ (fun _ => ?_) | omega | intro _))
theorem l8 {n n' : Nat} (hn : n ≤ n') {s_0 : Bytes} : Le (d4 n s_0) (d4 n' s_0) := by
 simp only [d4]
 repeat' (with_reducible (first | exact ai _ | apply fu | refine cz ?_ | refine bD ?_ ?_ | refine bf ?_ (fun _ => ?_) | refine cA ?_ (fun _ => ?_) | omega | intro _))
theorem ns {n n' : Nat} (hn : n ≤ n') : ∀ (m m' : Nat), m ≤ m' → ∀ (y0 : List aj) (y1 : Bytes) (y2 : Bool), Le (cU n m y0 y1 y2) (cU n' m' y0 y1 y2) := by
 intro m
 induction m with
 | zero => intro m' _ y0 y1 y2; exact dz _
 | succ m ih =>
 intro m' hm y0 y1 y2
 cases m' with
 | zero => omega
 | succ m' =>
 simp only [cU]
 repeat' (with_reducible (first | exact ai _ | apply ih | apply lJ | refine cz ?_ | refine bD ?_ ?_ | refine bf ?_ (fun _ => ?_) | refine cA ?_ (fun _ => ?_) | omega | intro _))
theorem pf {n n' : Nat} (hn : n ≤ n') {s_0 : Bytes} : Le (fh n s_0) (fh n' s_0) := by
 simp only [fh]
 repeat' (with_reducible (first | exact ai _ | apply ns | apply iZ | apply jc | apply l8 | refine cz ?_ | refine bD ?_ ?_ | refine bf ?_ (fun _ => ?_) | refine cA ?_ (fun _ => ?_) | omega | intro _))
theorem nC {n n' : Nat} (hn : n ≤ n') {a_0 : aK} : ∀ (m m' : Nat), m ≤ m' → ∀ (y0 : Int), Le (cI n a_0 m y0) (cI n' a_0 m' y0) := by
 intro m
 induction m with
 | zero => intro m' _ y0; exact dz _
 | succ m ih =>
 intro m' hm y0
 cases m' with
 | zero => omega
 | succ m' =>
 simp only [cI]
 repeat' (with_reducible (first | exact ai _ | apply ih | apply fu | refine cz ?_ | refine bD ?_ ?_ | refine bf ?_ (fun _ => ?_) | refine cA ?_ (fun _ => ?_) | omega | intro _))
theorem p6 {n n' : Nat} (hn : n ≤ n') {a_0 : aK} : Le (fc n a_0) (fc n' a_0) := by
 simp only [fc]
 repeat' (with_reducible (first | exact ai _ | apply nC | apply l8 | apply fu | refine cz ?_ | refine bD ?_ ?_ | refine bf ?_ (fun _ => ?_) | refine cA ?_ (fun _ => ?_) | omega | intro _))
theorem jM {n n' : Nat} (hn : n ≤ n') {k_0 : ea} : Le (da n k_0) (da n' k_0) := by
 simp only [da]
 repeat' (with_reducible (first | exact ai _ | apply l9 | refine cz ?_ | refine bD ?_ ?_ | refine bf ?_ (fun _ => ?_) | refine cA ?_ (fun _ => ?_) | omega | intro _))
theorem mX {n n' : Nat} (hn : n ≤ n') {a_0 : aK} : ∀ (m m' : Nat), m ≤ m' → ∀ (y0 : Int) (y1 : List UInt8), Le (cx n a_0 m y0 y1) (cx n' a_0 m' y0 y1) := by
 intro m
 induction m with
 | zero => intro m' _ y0 y1; exact dz _
 | succ m ih =>
 intro m' hm y0 y1
 cases m' with
 | zero => omega
 | succ m' =>
 simp only [cx]
 repeat' (with_reducible (first | exact ai _ | apply ih | apply jM | refine cz ?_ | refine bD ?_ ?_ | refine bf ?_ (fun _ => ?_) | refine cA ?_ (fun _ => ?_) | omega | intro _))
theorem oh {n n' : Nat} (hn : n ≤ n') {a_0 : aK} : Le (eF n a_0) (eF n' a_0) := by
 simp only [eF]
 repeat' (with_reducible (first | exact ai _ | apply p6 | apply mX | apply jM | refine cz ?_ | refine bD ?_ ?_ | refine bf ?_ (fun _ => ?_) | refine cA ?_ (fun _ => ?_) | omega | intro _))
theorem mR : ∀ (m m' : Nat), m ≤ m' → Le (dx m ) (dx m' ) := by
 intro m
 induction m with
 | zero => intro m' _ ; exact dz _
 | succ m ih =>
 intro m' hm 
 cases m' with
 | zero => omega
 | succ m' =>
 simp only [dx]
 repeat' (with_reducible (first | exact ai _ | apply ih | refine cz ?_ | refine bD ?_ ?_ | refine bf ?_ (fun _ => ?_) | refine cA ?_ (fun _ => ?_) | omega | intro _))
theorem mw {a_0 : aK} : ∀ (m m' : Nat), m ≤ m' → ∀ (y0 : Int) (y1 : List aj), Le (cw a_0 m y0 y1) (cw a_0 m' y0 y1) := by
 intro m
 induction m with
 | zero => intro m' _ y0 y1; exact dz _
 | succ m ih =>
 intro m' hm y0 y1
 cases m' with
 | zero => omega
 | succ m' =>
 simp only [cw]
 repeat' (with_reducible (first | exact ai _ | apply ih | refine cz ?_ | refine bD ?_ ?_ | refine bf ?_ (fun _ => ?_) | refine cA ?_ (fun _ => ?_) | omega | intro _))
theorem oY {n n' : Nat} (hn : n ≤ n') {a_0 : aK} : Le (eC n a_0) (eC n' a_0) := by
 simp only [eC]
 repeat' (with_reducible (first | exact ai _ | apply mR | apply mw | refine cz ?_ | refine bD ?_ ?_ | refine bf ?_ (fun _ => ?_) | refine cA ?_ (fun _ => ?_) | omega | intro _))
theorem kO {n n' : Nat} (hn : n ≤ n') {s_0 : Bytes} : Le (d7 n s_0) (d7 n' s_0) := by
 simp only [d7]
 repeat' (with_reducible (first | exact ai _ | apply pf | apply oY | apply oh | refine cz ?_ | refine bD ?_ ?_ | refine bf ?_ (fun _ => ?_) | refine cA ?_ (fun _ => ?_) | omega | intro _))
theorem kk {n n' : Nat} (hn : n ≤ n') {targets_0 : List Bytes} {addr_1 : Bytes} : Le (dj n targets_0 addr_1) (dj n' targets_0 addr_1) := by
 simp only [dj]
 repeat' (with_reducible (first | exact ai _ | apply uG | apply kO | refine cz ?_ | refine bD ?_ ?_ | refine bf ?_ (fun _ => ?_) | refine cA ?_ (fun _ => ?_) | omega | intro _))
theorem pX {l_0 : List Bytes} {in_1 : List (Bytes × Bool)} : ∀ (m m' : Nat), m ≤ m' → ∀ (y0 : List Bytes) (y1 : Int), Le (dK l_0 in_1 m y0 y1) (dK l_0 in_1 m' y0 y1) := by
 intro m
 induction m with
 | zero => intro m' _ y0 y1; exact dz _
 | succ m ih =>
 intro m' hm y0 y1
 cases m' with
 | zero => omega
 | succ m' =>
 simp only [dK]
 repeat' (with_reducible (first | exact ai _ | apply ih | refine cz ?_ | refine bD ?_ ?_ | refine bf ?_ (fun _ => ?_) | refine cA ?_ (fun _ => ?_) | omega | intro _))
theorem rY {n n' : Nat} (hn : n ≤ n') {l_0 : List Bytes} {in_1 : List (Bytes × Bool)} : Le (gq n l_0 in_1) (gq n' l_0 in_1) := by
 simp only [gq]
 repeat' (with_reducible (first | exact ai _ | apply pX | refine cz ?_ | refine bD ?_ ?_ | refine bf ?_ (fun _ => ?_) | refine cA ?_ (fun _ => ?_) | omega | intro _))
theorem qA {l_0 : List Bytes} : ∀ (m m' : Nat), m ≤ m' → ∀ (y0 : List (Bytes × Bool)) (y1 : Int), Le (dY l_0 m y0 y1) (dY l_0 m' y0 y1) := by
 intro m
 induction m with
 | zero => intro m' _ y0 y1; exact dz _
 | succ m ih =>
 intro m' hm y0 y1
 cases m' with
 | zero => omega
 | succ m' =>
 simp only [dY]
 repeat' (with_reducible (first | exact ai _ | apply ih | refine cz ?_ | refine bD ?_ ?_ | refine bf ?_ (fun _ => ?_) | refine cA ?_ (fun _ => ?_) | omega | intro _))
theorem oj {n n' : Nat} (hn : n ≤ n') {l_0 : List Bytes} : Le (hQ n l_0) (hQ n' l_0) := by
 simp only [hQ]
 repeat' (with_reducible (first | exact ai _ | apply qA | refine cz ?_ | refine bD ?_ ?_ | refine bf ?_ (fun _ => ?_) | refine cA ?_ (fun _ => ?_) | omega | intro _))
theorem nv {to_0 : List (Bytes × (List Bytes))} {todo39 : List Bytes} : ∀ (m m' : Nat), m ≤ m' → ∀ (y0 : List (Bytes × Bool)) (y1 : List Bytes) (y2 : Int), Le (cJ to_0 todo39 m y0 y1 y2) (cJ to_0 todo39 m' y0 y1 y2) := by
 intro m
 induction m with
 | zero => intro m' _ y0 y1 y2; exact dz _
 | succ m ih =>
 intro m' hm y0 y1 y2
 cases m' with
 | zero => omega
 | succ m' =>
 simp only [cJ]
 repeat' (with_reducible (first | exact ai _ | apply ih | refine cz ?_ | refine bD ?_ ?_ | refine bf ?_ (fun _ => ?_) | refine cA ?_ (fun _ => ?_) | omega | intro _))
theorem nG {n n' : Nat} (hn : n ≤ n') {to_0 : List (Bytes × (List Bytes))} : ∀ (m m' : Nat), m ≤ m' → ∀ (y0 : List (Bytes × Bool)) (y1 : List Bytes), Le (cG n to_0 m y0 y1) (cG n' to_0 m' y0 y1) := by
 intro m
 induction m with
 | zero => intro m' _ y0 y1; exact dz _
 | succ m ih =>
 intro m' hm y0 y1
 cases m' with
 | zero => omega
 | succ m' =>
 simp only [cG]
 repeat' (with_reducible (first | exact ai _ | apply ih | apply nv | refine cz ?_ | refine bD ?_ ?_ | refine bf ?_ (fun _ => ?_) | refine cA ?_ (fun _ => ?_) | omega | intro _))
theorem pZ {n n' : Nat} (hn : n ≤ n') {to_0 : List (Bytes × (List Bytes))} {from_1 : List Bytes} : Le (fT n to_0 from_1) (fT n' to_0 from_1) := by
 simp only [fT]
 repeat' (with_reducible (first | exact ai _ | apply oj | apply nG | refine cz ?_ | refine bD ?_ ?_ | refine bf ?_ (fun _ => ?_) | refine cA ?_ (fun _ => ?_) | omega | intro _))
theorem py {g_0 : aO} : ∀ (m m' : Nat), m ≤ m' → ∀ (y0 : List (Bytes × List Bytes)) (y1 : Int), Le (dJ g_0 m y0 y1) (dJ g_0 m' y0 y1) := by
 intro m
 induction m with
 | zero => intro m' _ y0 y1; exact dz _
 | succ m ih =>
 intro m' hm y0 y1
 cases m' with
 | zero => omega
 | succ m' =>
 simp only [dJ]
 repeat' (with_reducible (first | exact ai _ | apply ih | refine cz ?_ | refine bD ?_ ?_ | refine bf ?_ (fun _ => ?_) | refine cA ?_ (fun _ => ?_) | omega | intro _))
theorem sg {n n' : Nat} (hn : n ≤ n') {g_0 : aO} : Le (gR n g_0) (gR n' g_0) := by
 simp only [gR]
 repeat' (with_reducible (first | exact ai _ | apply py | refine cz ?_ | refine bD ?_ ?_ | refine bf ?_ (fun _ => ?_) | refine cA ?_ (fun _ => ?_) | omega | intro _))
theorem rT {n n' : Nat} (hn : n ≤ n') {g_0 : aO} {from_1 : List Bytes} : Le (gi n g_0 from_1) (gi n' g_0 from_1) := by
 simp only [gi]
 repeat' (with_reducible (first | exact ai _ | apply sg | apply oj | apply rY | apply pZ | refine cz ?_ | refine bD ?_ ?_ | refine bf ?_ (fun _ => ?_) | refine cA ?_ (fun _ => ?_) | omega | intro _))
theorem qz {n n' : Nat} (hn : n ≤ n') {g_0 : aO} {statics_1 : List Bytes} : Le (eg n g_0 statics_1) (eg n' g_0 statics_1) := by
 simp only [eg]
 repeat' (with_reducible (first | exact ai _ | apply rT | refine cz ?_ | refine bD ?_ ?_ | refine bf ?_ (fun _ => ?_) | refine cA ?_ (fun _ => ?_) | omega | intro _))
theorem ja {s_0 : List Bytes} {v_1 : Bytes} : ∀ (m m' : Nat), m ≤ m' → ∀ (y0 : Int), Le (aX s_0 v_1 m y0) (aX s_0 v_1 m' y0) := by
 intro m
 induction m with
 | zero => intro m' _ y0; exact dz _
 | succ m ih =>
 intro m' hm y0
 cases m' with
 | zero => omega
 | succ m' =>
 simp only [aX]
 repeat' (with_reducible (first | exact ai _ | apply ih | refine cz ?_ | refine bD ?_ ?_ | refine bf ?_ (fun _ => ?_) | refine cA ?_ (fun _ => ?_) | omega | intro _))
theorem jE {n n' : Nat} (hn : n ≤ n') {s_0 : List Bytes} {v_1 : Bytes} : Le (ci n s_0 v_1) (ci n' s_0 v_1) := by
 simp only [ci]
 repeat' (with_reducible (first | exact ai _ | apply ja | refine cz ?_ | refine bD ?_ ?_ | refine bf ?_ (fun _ => ?_) | refine cA ?_ (fun _ => ?_) | omega | intro _))
theorem iN {n n' : Nat} (hn : n ≤ n') {s_0 : List Bytes} {v_1 : Bytes} : Le (aY n s_0 v_1) (aY n' s_0 v_1) := by
 simp only [aY]
 repeat' (with_reducible (first | exact ai _ | apply jE | refine cz ?_ | refine bD ?_ ?_ | refine bf ?_ (fun _ => ?_) | refine cA ?_ (fun _ => ?_) | omega | intro _))
theorem j1 {n n' : Nat} (hn : n ≤ n') {x_0 : cr} {i_1 : Int} : ∀ (m m' : Nat), m ≤ m' → ∀ (y0 : Int) (y1 : List aa) (y2 : List Int) (y3 : List Bytes) (y4 : List Bool), Le (bs n x_0 i_1 m y0 y1 y2 y3 y4) (bs n' x_0 i_1 m' y0 y1 y2 y3 y4) := by
 intro m
 induction m with
 | zero => intro m' _ y0 y1 y2 y3 y4; exact dz _
 | succ m ih =>
 intro m' hm y0 y1 y2 y3 y4
 cases m' with
 | zero => omega
 | succ m' =>
 simp only [bs]
 repeat' (with_reducible (first | exact ai _ | apply ih | apply iN | refine cz ?_ | refine bD ?_ ?_ | refine bf ?_ (fun _ => ?_) | refine cA ?_ (fun _ => ?_) | omega | intro _))
theorem kY {n n' : Nat} (hn : n ≤ n') {x_0 : cr} {i_1 : Int} : Le (cD n x_0 i_1) (cD n' x_0 i_1) := by
 simp only [cD]
 repeat' (with_reducible (first | exact ai _ | apply j1 | refine cz ?_ | refine bD ?_ ?_ | refine bf ?_ (fun _ => ?_) | refine cA ?_ (fun _ => ?_) | omega | intro _))
theorem nw {r_target_copied r_target_copied' : ag → Option ag} (h_target_copied : ∀ x0, Le (r_target_copied x0) (r_target_copied' x0)) : ∀ (m m' : Nat), m ≤ m' → Le (dp r_target_copied m ) (dp r_target_copied' m' ) := by
 intro m
 induction m with
 | zero => intro m' _ ; exact dz _
 | succ m ih =>
 intro m' hm 
 cases m' with
 | zero => omega
 | succ m' =>
 simp only [dp]
 repeat' (with_reducible (first | exact ai _ | apply ih | apply h_target_copied | refine cz ?_ | refine bD ?_ ?_ | refine bf ?_ (fun _ => ?_) | refine cA ?_ (fun _ => ?_) | omega | intro _))
theorem nB {r_target_copied r_target_copied' : ag → Option ag} (h_target_copied : ∀ x0, Le (r_target_copied x0) (r_target_copied' x0)) {v_0 : ag} : ∀ (m m' : Nat), m ≤ m' → ∀ (y0 : Int) (y1 : List ag), Le (cu r_target_copied v_0 m y0 y1) (cu r_target_copied' v_0 m' y0 y1) := by
 intro m
 induction m with
 | zero => intro m' _ y0 y1; exact dz _
 | succ m ih =>
 intro m' hm y0 y1
 cases m' with
 | zero => omega
 | succ m' =>
 simp only [cu]
 repeat' (with_reducible (first | exact ai _ | apply ih | apply h_target_copied | refine cz ?_ | refine bD ?_ ?_ | refine bf ?_ (fun _ => ?_) | refine cA ?_ (fun _ => ?_) | omega | intro _))
theorem oc (n : Nat) : ∀ n' : Nat, n ≤ n' → (∀ (v_0 : ag), Le (bH n v_0) (bH n' v_0)) := by
 induction n with
 | zero => exact fun n' _ => (by intro v_0; exact dz _)
 | succ n ih =>
 intro n' hn
 cases n' with
 | zero => omega
 | succ n' =>
 have hn' : n ≤ n' := by omega
 have ih_target_copied_le := ih n' hn'
 intro v_0
 simp only [bH]
 repeat' (with_reducible (first | exact ai _ | apply ih_target_copied_le | apply nw | apply nB | refine cz ?_ | refine bD ?_ ?_ | refine bf ?_ (fun _ => ?_) | refine cA ?_ (fun _ => ?_) | omega | intro _))
theorem pj {n n' : Nat} (hn : n ≤ n') : ∀ (v_0 : ag), Le (bH n v_0) (bH n' v_0) := (oc n n' hn)
theorem pC {n n' : Nat} (hn : n ≤ n') {c_0 : aa} : Le (eW n c_0) (eW n' c_0) := by
 simp only [eW]
 repeat' (with_reducible (first | exact ai _ | apply pj | refine cz ?_ | refine bD ?_ ?_ | refine bf ?_ (fun _ => ?_) | refine cA ?_ (fun _ => ?_) | omega | intro _))
theorem nu {n n' : Nat} (hn : n ≤ n') {l_1 : List aa} : ∀ (m m' : Nat), m ≤ m' → ∀ (y0 : Int) (y1 : List Bytes), Le (cL n l_1 m y0 y1) (cL n' l_1 m' y0 y1) := by
 intro m
 induction m with
 | zero => intro m' _ y0 y1; exact dz _
 | succ m ih =>
 intro m' hm y0 y1
 cases m' with
 | zero => omega
 | succ m' =>
 simp only [cL]
 repeat' (with_reducible (first | exact ai _ | apply ih | apply kO | refine cz ?_ | refine bD ?_ ?_ | refine bf ?_ (fun _ => ?_) | refine cA ?_ (fun _ => ?_) | omega | intro _))
theorem nt {n n' : Nat} (hn : n ≤ n') {targets_0 : List Bytes} {l_1 : List aa} : ∀ (m m' : Nat), m ≤ m' → ∀ (y0 : Int) (y1 : List aa) (y2 : List Int) (y3 : List Bytes) (y4 : List Bool), Le (cF n targets_0 l_1 m y0 y1 y2 y3 y4) (cF n' targets_0 l_1 m' y0 y1 y2 y3 y4) := by
 intro m
 induction m with
 | zero => intro m' _ y0 y1 y2 y3 y4; exact dz _
 | succ m ih =>
 intro m' hm y0 y1 y2 y3 y4
 cases m' with
 | zero => omega
 | succ m' =>
 simp only [cF]
 repeat' (with_reducible (first | exact ai _ | apply ih | apply kk | refine cz ?_ | refine bD ?_ ?_ | refine bf ?_ (fun _ => ?_) | refine cA ?_ (fun _ => ?_) | omega | intro _))
theorem nH {n n' : Nat} (hn : n ≤ n') : ∀ (m m' : Nat), m ≤ m' → ∀ (y0 : List aa) (y1 : List Int) (y2 : List Bytes) (y3 : List Bool), Le (cK n m y0 y1 y2 y3) (cK n' m' y0 y1 y2 y3) := by
 intro m
 induction m with
 | zero => intro m' _ y0 y1 y2 y3; exact dz _
 | succ m ih =>
 intro m' hm y0 y1 y2 y3
 cases m' with
 | zero => omega
 | succ m' =>
 simp only [cK]
 repeat' (with_reducible (first | exact ai _ | apply ih | apply kY | refine cz ?_ | refine bD ?_ ?_ | refine bf ?_ (fun _ => ?_) | refine cA ?_ (fun _ => ?_) | omega | intro _))
theorem nz {n n' : Nat} (hn : n ≤ n') {l_1 : List aa} {l94 : List Bool} : ∀ (m m' : Nat), m ≤ m' → ∀ (y0 : List aa) (y1 : Int), Le (cH n l_1 l94 m y0 y1) (cH n' l_1 l94 m' y0 y1) := by
 intro m
 induction m with
 | zero => intro m' _ y0 y1; exact dz _
 | succ m ih =>
 intro m' hm y0 y1
 cases m' with
 | zero => omega
 | succ m' =>
 simp only [cH]
 repeat' (with_reducible (first | exact ai _ | apply ih | apply pC | refine cz ?_ | refine bD ?_ ?_ | refine bf ?_ (fun _ => ?_) | refine cA ?_ (fun _ => ?_) | omega | intro _))
theorem pI {n n' : Nat} (hn : n ≤ n') {targets_0 : List Bytes} {l_1 : List aa} : Le (cq n targets_0 l_1) (cq n' targets_0 l_1) := by
 simp only [cq]
 repeat' (with_reducible (first | exact ai _ | apply nu | apply nt | apply nH | apply nz | refine cz ?_ | refine bD ?_ ?_ | refine bf ?_ (fun _ => ?_) | refine cA ?_ (fun _ => ?_) | omega | intro _))
theorem rO {n n' : Nat} (hn : n ≤ n') : Le (dQ n) (dQ n') := by
 simp only [dQ]
 repeat' (with_reducible (first | exact ai _ | apply pI | apply qz | apply kk | apply qx | refine cz ?_ | refine bD ?_ ?_ | refine bf ?_ (fun _ => ?_) | refine cA ?_ (fun _ => ?_) | omega | intro _))
theorem vP : dQ 60 = some true := by decide +kernel
theorem li : Ev2 (fun n _ => dQ n) (· = true) := z8 60 vP (fun n hn => rO hn) rfl
end Go.Ab.R06
end
section
set_option linter.unusedVariables false
set_option linter.unusedSimpArgs false
set_option linter.unnecessarySimpa false
namespace Go.Ab
set_option autoImplicit false
theorem gA {α : Type} {tt : List (Nat × TI)} {n t s b : Nat} {cs : List PV} {z : List Value} (f : α → PV) (Q : α → Prop) {e : Nat} (hl : look tt t = some ⟨.slice e, s, b, z⟩) (h : WTf tt n t cs)
  (he : ∀ m x, m < n → WTf tt m e x.cells → x = mkE (((look tt e).map (·.k.isAgg)).getD false) x.cells → ∃ y, x = f y ∧ Q y) : ∃ l : List α, cs = [eL f l] ∧ l.length * (((look tt e).map (·.bytes)).getD 0) ≤ cg ∧ ∀ y ∈ l, Q y := by
 cases n with
 | zero => exact h.elim
 | succ n =>
  obtain ⟨l, h1, h2, h3⟩ := zG f Q hl h (fun x k1 k2 => he n x (by omega) k1 k2)
  exact ⟨l, h1, h2.2, h3⟩
inductive b8.Bd : b8 → Prop where
 | mk {x : b8} (bFrom : x.fFrom.length ≤ cg) (bTo : x.fTo.length ≤ cg) : b8.Bd x
theorem b8.dec (n : Nat) : (∀ cs, WTf tt n 56 cs → ∃ x : b8, cs = b8.cs x ∧ b8.Bd x) := by
 induction n using Nat.strongRecOn with
 | _ n ih =>
 have ih_TEdge : ∀ m, m < n → (∀ cs, WTf tt m 56 cs → ∃ x : b8, cs = b8.cs x ∧ b8.Bd x) := fun m hm => (ih m hm)
 intro cs h
 cases n with
 | zero => exact h.elim
 | succ n =>
 have h0 := lS rfl h
 obtain ⟨c0, q0, rfl, k0, h0⟩ := dh h0
 obtain ⟨c1, q1, rfl, k1, h0⟩ := dh h0
 have e : q1 = [] := h0
 subst e
 obtain ⟨x1, rfl, b2⟩ := fK rfl k0
 obtain ⟨x3, rfl, b4⟩ := fK rfl k1
 exact ⟨b8.mk x1 x3, rfl, .mk b2 b4⟩
inductive aO.Bd : aO → Prop where
 | mk {x : aO} (bNodes : x.fNodes.length * 16 ≤ cg) (eNodes : ∀ y ∈ x.fNodes, y.length ≤ cg) (bEdges : x.fEdges.length * 32 ≤ cg) (eEdges : ∀ y ∈ x.fEdges, b8.Bd y) : aO.Bd x
theorem aO.Bd.bNodes {x : aO} (h : aO.Bd x) : x.fNodes.length * 16 ≤ cg := by cases h; assumption
theorem aO.dec (n : Nat) : (∀ cs, WTf tt n 32 cs → ∃ x : aO, cs = aO.cs x ∧ aO.Bd x) := by
 induction n using Nat.strongRecOn with
 | _ n ih =>
 have ih_TGraph : ∀ m, m < n → (∀ cs, WTf tt m 32 cs → ∃ x : aO, cs = aO.cs x ∧ aO.Bd x) := fun m hm => (ih m hm)
 intro cs h
 cases n with
 | zero => exact h.elim
 | succ n =>
 have h0 := lS rfl h
 obtain ⟨c0, q0, rfl, k0, h0⟩ := dh h0
 obtain ⟨c1, q1, rfl, k1, h0⟩ := dh h0
 have e : q1 = [] := h0
 subst e
 obtain ⟨x5, rfl, b6⟩ := gA eS (fun y => y.length ≤ cg) rfl k0 (fun m7 y8 hm9 k10 k11 => by
  obtain ⟨x12, e14, b13⟩ := fK rfl k10
  exact ⟨x12, ke e14 k11, b13⟩
  )
 obtain ⟨x15, rfl, b16⟩ := gA fQ (fun y => b8.Bd y) rfl k1 (fun m17 y18 hm19 k20 k21 => by
  obtain ⟨x22, e24, b23⟩ := b8.dec _ _ k20
  exact ⟨x22, (vo e24 k21).trans (b8.agg_eq _).symm, b23⟩
  )
 exact ⟨aO.mk x5 x15, rfl, .mk b6.1 b6.2 b16.1 b16.2⟩
inductive ag.Bd : ag → Prop where
 | mk {x : ag} (bKind : inR x.fKind) (bNum : inR x.fNum) (bStr : x.fStr.length ≤ cg) (bItems : x.fItems.length * 80 ≤ cg) (eItems : ∀ y ∈ x.fItems, ag.Bd y) (bKeys : x.fKeys.length * 16 ≤ cg) (eKeys : ∀ y ∈ x.fKeys, y.length ≤ cg) : ag.Bd x
theorem ag.Bd.bItems {x : ag} (h : ag.Bd x) : x.fItems.length * 80 ≤ cg := by cases h; assumption
theorem ag.Bd.eItems {x : ag} (h : ag.Bd x) : ∀ y ∈ x.fItems, ag.Bd y := by cases h; assumption
theorem ag.Bd.bKeys {x : ag} (h : ag.Bd x) : x.fKeys.length * 16 ≤ cg := by cases h; assumption
theorem ag.dec (n : Nat) : (∀ cs, WTf tt n 45 cs → ∃ x : ag, cs = ag.cs x ∧ ag.Bd x) := by
 induction n using Nat.strongRecOn with
 | _ n ih =>
 have ih_TValue : ∀ m, m < n → (∀ cs, WTf tt m 45 cs → ∃ x : ag, cs = ag.cs x ∧ ag.Bd x) := fun m hm => (ih m hm)
 intro cs h
 cases n with
 | zero => exact h.elim
 | succ n =>
 have h0 := lS rfl h
 obtain ⟨c0, q0, rfl, k0, h0⟩ := dh h0
 obtain ⟨c1, q1, rfl, k1, h0⟩ := dh h0
 obtain ⟨c2, q2, rfl, k2, h0⟩ := dh h0
 obtain ⟨c3, q3, rfl, k3, h0⟩ := dh h0
 obtain ⟨c4, q4, rfl, k4, h0⟩ := dh h0
 have e : q4 = [] := h0
 subst e
 obtain ⟨x25, rfl, b26⟩ := qQ rfl k0
 obtain ⟨x27, rfl, b28⟩ := qQ rfl k1
 obtain ⟨x29, rfl, b30⟩ := fK rfl k2
 obtain ⟨x31, rfl, b32⟩ := gA aQ (fun y => ag.Bd y) rfl k3 (fun m33 y34 hm35 k36 k37 => by
  obtain ⟨x38, e40, b39⟩ := ih_TValue _ (by omega) _ k36
  exact ⟨x38, (vo e40 k37).trans (ag.agg_eq _).symm, b39⟩
  )
 obtain ⟨x41, rfl, b42⟩ := gA eS (fun y => y.length ≤ cg) rfl k4 (fun m43 y44 hm45 k46 k47 => by
  obtain ⟨x48, e50, b49⟩ := fK rfl k46
  exact ⟨x48, ke e50 k47, b49⟩
  )
 exact ⟨ag.mk x25 x27 x29 x31 x41, rfl, .mk b26 b28 b30 b32.1 b32.2 b42.1 b42.2⟩
inductive aa.Bd : aa → Prop where
 | mk {x : aa} (bAddr : x.fAddr.length ≤ cg) (bDeposed : x.fDeposed.length ≤ cg) (bType : x.fType.length ≤ cg) (bAction : inR x.fAction) (bReason : inR x.fReason) (bBefore : ag.Bd x.fBefore) (bAfter : ag.Bd x.fAfter) (bID : x.fID.length ≤ cg) (bReplace : x.fReplace.length * 16 ≤ cg) (eReplace : ∀ y ∈ x.fReplace, y.length ≤ cg) (bDeps : x.fDeps.length * 16 ≤ cg) (eDeps : ∀ y ∈ x.fDeps, y.length ≤ cg) (bOldDeps : x.fOldDeps.length * 16 ≤ cg) (eOldDeps : ∀ y ∈ x.fOldDeps, y.length ≤ cg) : aa.Bd x
theorem aa.Bd.bAddr {x : aa} (h : aa.Bd x) : x.fAddr.length ≤ cg := by cases h; assumption
theorem aa.Bd.bBefore {x : aa} (h : aa.Bd x) : ag.Bd x.fBefore := by cases h; assumption
theorem aa.Bd.bAfter {x : aa} (h : aa.Bd x) : ag.Bd x.fAfter := by cases h; assumption
theorem aa.Bd.bReplace {x : aa} (h : aa.Bd x) : x.fReplace.length * 16 ≤ cg := by cases h; assumption
theorem aa.Bd.bDeps {x : aa} (h : aa.Bd x) : x.fDeps.length * 16 ≤ cg := by cases h; assumption
theorem aa.Bd.bOldDeps {x : aa} (h : aa.Bd x) : x.fOldDeps.length * 16 ≤ cg := by cases h; assumption
theorem aa.dec (n : Nat) : (∀ cs, WTf tt n 47 cs → ∃ x : aa, cs = aa.cs x ∧ aa.Bd x) := by
 induction n using Nat.strongRecOn with
 | _ n ih =>
 have ih_TChange : ∀ m, m < n → (∀ cs, WTf tt m 47 cs → ∃ x : aa, cs = aa.cs x ∧ aa.Bd x) := fun m hm => (ih m hm)
 intro cs h
 cases n with
 | zero => exact h.elim
 | succ n =>
 have h0 := lS rfl h
 obtain ⟨c0, q0, rfl, k0, h0⟩ := dh h0
 obtain ⟨c1, q1, rfl, k1, h0⟩ := dh h0
 obtain ⟨c2, q2, rfl, k2, h0⟩ := dh h0
 obtain ⟨c3, q3, rfl, k3, h0⟩ := dh h0
 obtain ⟨c4, q4, rfl, k4, h0⟩ := dh h0
 obtain ⟨c5, q5, rfl, k5, h0⟩ := dh h0
 obtain ⟨c6, q6, rfl, k6, h0⟩ := dh h0
 obtain ⟨c7, q7, rfl, k7, h0⟩ := dh h0
 obtain ⟨c8, q8, rfl, k8, h0⟩ := dh h0
 obtain ⟨c9, q9, rfl, k9, h0⟩ := dh h0
 obtain ⟨c10, q10, rfl, k10, h0⟩ := dh h0
 obtain ⟨c11, q11, rfl, k11, h0⟩ := dh h0
 obtain ⟨c12, q12, rfl, k12, h0⟩ := dh h0
 obtain ⟨c13, q13, rfl, k13, h0⟩ := dh h0
 have e : q13 = [] := h0
 subst e
 obtain ⟨x51, rfl, b52⟩ := fK rfl k0
 obtain ⟨x53, rfl, b54⟩ := fK rfl k1
 obtain ⟨x55, rfl, b56⟩ := fK rfl k2
 obtain ⟨x57, rfl, b58⟩ := qQ rfl k3
 obtain ⟨x59, rfl, b60⟩ := qQ rfl k4
 obtain ⟨x61, rfl, b62⟩ := ag.dec _ _ k5
 obtain ⟨x63, rfl, b64⟩ := ag.dec _ _ k6
 obtain ⟨x65, rfl, b66⟩ := fK rfl k7
 obtain ⟨x67, rfl, b68⟩ := gA eS (fun y => y.length ≤ cg) rfl k8 (fun m69 y70 hm71 k72 k73 => by
  obtain ⟨x74, e76, b75⟩ := fK rfl k72
  exact ⟨x74, ke e76 k73, b75⟩
  )
 obtain ⟨x77, rfl⟩ := rH rfl k9
 obtain ⟨x79, rfl⟩ := rH rfl k10
 obtain ⟨x81, rfl⟩ := rH rfl k11
 obtain ⟨x83, rfl, b84⟩ := gA eS (fun y => y.length ≤ cg) rfl k12 (fun m85 y86 hm87 k88 k89 => by
  obtain ⟨x90, e92, b91⟩ := fK rfl k88
  exact ⟨x90, ke e92 k89, b91⟩
  )
 obtain ⟨x93, rfl, b94⟩ := gA eS (fun y => y.length ≤ cg) rfl k13 (fun m95 y96 hm97 k98 k99 => by
  obtain ⟨x100, e102, b101⟩ := fK rfl k98
  exact ⟨x100, ke e102 k99, b101⟩
  )
 exact ⟨aa.mk x51 x53 x55 x57 x59 x61 x63 x65 x67 x77 x79 x81 x83 x93, rfl, .mk b52 b54 b56 b58 b60 b62 b64 b66 b68.1 b68.2 b84.1 b84.2 b94.1 b94.2⟩
inductive cr.Bd : cr → Prop where
 | mk {x : cr} (bchanges : x.fchanges.length * 320 ≤ cg) (echanges : ∀ y ∈ x.fchanges, aa.Bd y) (bresources : x.fresources.length * 16 ≤ cg) (eresources : ∀ y ∈ x.fresources, y.length ≤ cg) (bchosen : x.fchosen.length * 1 ≤ cg) (btodo : x.ftodo.length * 8 ≤ cg) (etodo : ∀ y ∈ x.ftodo, inR y) : cr.Bd x
inductive ea.Bd : ea → Prop where
 | mk {x : ea} (bKind : inR x.fKind) (bNum : inR x.fNum) (bStr : x.fStr.length ≤ cg) : ea.Bd x
inductive aj.Bd : aj → Prop where
 | mk {x : aj} (bName : x.fName.length ≤ cg) (bKey : ea.Bd x.fKey) : aj.Bd x
inductive aK.Bd : aK → Prop where
 | mk {x : aK} (bModule : x.fModule.length * 48 ≤ cg) (eModule : ∀ y ∈ x.fModule, aj.Bd y) (bType : x.fType.length ≤ cg) (bName : x.fName.length ≤ cg) (bKey : ea.Bd x.fKey) : aK.Bd x
inductive aB.Bd : aB → Prop where
 | mk {x : aB} (brest : x.frest.length ≤ cg) : aB.Bd x
inductive tR.Bd : tR → Prop where
 | mk {x : tR} (bAddr : aK.Bd x.fAddr) : tR.Bd x
end Go.Ab
end
section
set_option linter.unusedVariables false
set_option linter.unusedSimpArgs false
set_option linter.unnecessarySimpa false
namespace Go.Ab.R06
open Go.Ab Go.Ab.RB Go.Lib
theorem bu {α β : Type} {P : α → Prop} {g : Nat → Nat → Option β} {k : Nat → Nat → β → Option α} (x : β) (h : Ev2 g (· = x)) (hk : Ev2 (fun n m => k n m x) P) : Ev2 (fun n m => (g n m).bind (k n m)) P := bQ (· = x) h (fun _ e => by subst e; exact hk)
theorem kP : cg ≤ 9000000000000000000 := by decide
def jh (l : List Bytes) (most : Int) : Bool := decide ((l.length : Int) ≤ most) && l.all fun s => decide (s.length ≤ 300)
theorem yu (l : List Bytes) (hb : l.length ≤ cg) : ∀ (k i : Nat), i + k = l.length → Ev2 (fun _ m => ez l m (i : Int)) (· = if ((l.drop i).all fun s => decide (s.length ≤ 300)) = true then .inl () else .inr false) := by
 have hW := kP
 intro k
 induction k with
 | zero =>
  intro i hi
  refine ax ?_
  simp only [ez]
  exact aC (by omega) (ab (by rw [List.drop_of_length_le (by omega)]; simp))
 | succ k ih =>
  intro i hi
  have h1 : i < l.length := by omega
  refine ax ?_
  simp only [ez]
  refine av (by omega) (am (by omega) ?_)
  rw [bS _ _ h1, List.drop_eq_getElem_cons h1, List.all_cons]
  refine aN (fun h => ab (by rw [decide_eq_false (by omega)]; rfl)) (fun h => am (br (by omega) (by omega)) ?_)
  have := ih (i + 1) (by omega)
  rw [Int.natCast_add, Int.natCast_one] at this
  refine dM this fun r hr => ?_
  rw [hr, decide_eq_true (show l[i].length ≤ 300 by omega), Bool.true_and]
theorem lw (l : List Bytes) (most : Int) (hb : l.length ≤ cg) : Ev2 (fun n _ => ff n l most) (· = jh l most) := by
 simp only [ff]
 unfold jh
 refine aN (fun h => ab (by rw [decide_eq_false (by omega)]; rfl)) (fun h => ?_)
 rw [decide_eq_true (show (l.length : Int) ≤ most by omega), Bool.true_and]
 have l1 := yu l hb l.length 0 (by omega)
 rw [List.drop_zero] at l1
 cases hq : l.all fun s => decide (s.length ≤ 300)
 ·rw [if_neg (by simp [hq])] at l1
  exact ju false (a7 l1) rfl
 ·rw [if_pos hq] at l1
  exact gJ () (a7 l1) (ab rfl)
theorem lP {l : List Bytes} {most : Int} (h : jh l most = true) : (l.length : Int) ≤ most ∧ ∀ s ∈ l, s.length ≤ 300 := by
 unfold jh at h
 rw [Bool.and_eq_true, decide_eq_true_eq, List.all_eq_true] at h
 exact ⟨h.1, fun s hs => by simpa using h.2 s hs⟩
def iP (f : Bytes → Int) : List Bytes → Int
 | [] => 0
 | s :: r => if f s = 0 then iP f r else f s
theorem xz (l : List Bytes) (hb : l.length ≤ 65536) (hs : ∀ s ∈ l, s.length ≤ 65536) : ∀ (k i : Nat), i + k = l.length → Ev2 (fun _ m => cT l m (i : Int)) (· = if iP Glob.check (l.drop i) = 0 then .inl () else .inr (iP Glob.check (l.drop i))) := by
 intro k
 induction k with
 | zero =>
  intro i hi
  refine ax ?_
  simp only [cT]
  exact aC (by omega) (ab (by rw [List.drop_of_length_le (by omega)]; rfl))
 | succ k ih =>
  intro i hi
  have h1 : i < l.length := by omega
  refine ax ?_
  simp only [cT]
  refine av (by omega) (am (by omega) ?_)
  rw [bS _ _ h1, List.drop_eq_getElem_cons h1]
  refine am (hs _ (List.getElem_mem h1)) ?_
  refine aN (fun h => am (br (by omega) (by omega)) ?_) (fun h => ab ?_)
  ·have := ih (i + 1) (by omega)
   rw [Int.natCast_add, Int.natCast_one] at this
   have e : iP Glob.check (l[i] :: l.drop (i + 1)) = iP Glob.check (l.drop (i + 1)) := if_pos h
   simp only [e]; exact this
  ·have e : iP Glob.check (l[i] :: l.drop (i + 1)) = Glob.check l[i] := if_neg h
   simp only [e, if_neg h]
def tgP (l : List Bytes) : Int := if 64 < (l.length : Int) then 14 else iP Glob.check l
theorem Ce (l : List Bytes) (hs : ∀ s ∈ l, s.length ≤ 65536) : Ev2 (fun n _ => eP n l) (· = tgP l) := by
 simp only [eP]
 unfold tgP
 refine aN (fun h => ab (by rw [if_pos h])) (fun h => ?_)
 rw [if_neg h]
 have l1 := xz l (by omega) hs l.length 0 (by omega)
 rw [List.drop_zero] at l1
 by_cases hq : iP Glob.check l = 0
 ·rw [if_pos hq] at l1
  exact gJ () (a7 l1) (ab hq.symm)
 ·rw [if_neg hq] at l1
  exact ju _ (a7 l1) rfl
theorem BA (l : List Bytes) (hb : l.length ≤ 65536) (hs : ∀ s ∈ l, s.length ≤ 65536) : ∀ (k i : Nat), i + k = l.length → Ev2 (fun _ m => ep l m (i : Int)) (· = if iP Glob.check (l.drop i) = 0 then .inl () else .inr (iP Glob.check (l.drop i))) := by
 intro k
 induction k with
 | zero =>
  intro i hi
  refine ax ?_
  simp only [ep]
  exact aC (by omega) (ab (by rw [List.drop_of_length_le (by omega)]; rfl))
 | succ k ih =>
  intro i hi
  have h1 : i < l.length := by omega
  refine ax ?_
  simp only [ep, ← Glob.check_eq]
  refine av (by omega) (am (by omega) ?_)
  rw [bS _ _ h1, List.drop_eq_getElem_cons h1]
  refine am (hs _ (List.getElem_mem h1)) ?_
  refine aN (fun h => am (br (by omega) (by omega)) ?_) (fun h => ab ?_)
  ·have := ih (i + 1) (by omega)
   rw [Int.natCast_add, Int.natCast_one] at this
   have e : iP Glob.check (l[i] :: l.drop (i + 1)) = iP Glob.check (l.drop (i + 1)) := if_pos h
   simp only [e]; exact this
  ·have e : iP Glob.check (l[i] :: l.drop (i + 1)) = Glob.check l[i] := if_neg h
   simp only [e, if_neg h]
theorem Bs (l : List Bytes) (hs : ∀ s ∈ l, s.length ≤ 65536) : Ev2 (fun n _ => jR n l) (· = tgP l) := by
 simp only [jR]
 unfold tgP
 refine aN (fun h => ab (by rw [if_pos h])) (fun h => ?_)
 rw [if_neg h]
 have l1 := BA l (by omega) hs l.length 0 (by omega)
 rw [List.drop_zero] at l1
 by_cases hq : iP Glob.check l = 0
 ·rw [if_pos hq] at l1
  exact gJ () (a7 l1) (ab hq.symm)
 ·rw [if_neg hq] at l1
  exact ju _ (a7 l1) rfl
def p8 (c : aa) : Bool := decide (c.fAddr.length ≤ 300) && jh c.fDeps 10 && jh c.fOldDeps 10
theorem Bg (l : List aa) (hb : l.length ≤ 20) (hB : ∀ c ∈ l, aa.Bd c) : ∀ (k i : Nat), i + k = l.length → Ev2 (fun n m => fJ n l m (i : Int)) (· = if (l.drop i).all p8 = true then .inl () else .inr false) := by
 have hW := kP
 intro k
 induction k with
 | zero =>
  intro i hi
  refine ax ?_
  simp only [fJ]
  exact aC (by omega) (ab (by rw [List.drop_of_length_le (by omega)]; simp))
 | succ k ih =>
  intro i hi
  have h1 : i < l.length := by omega
  have hc := hB _ (List.getElem_mem h1)
  have d1 := hc.bDeps
  have d2 := hc.bOldDeps
  refine ax ?_
  simp only [fJ]
  refine av (by omega) ?_
  rw [bS _ _ h1, List.drop_eq_getElem_cons h1, List.all_cons]
  refine bQ (· = !p8 l[i]) (am (by omega) ?_) (fun x hx => ?_)
  ·unfold p8
   refine aN (fun h => ab (by rw [decide_eq_false (by omega)]; rfl)) (fun h => am (by omega) ?_)
   rw [decide_eq_true (show l[i].fAddr.length ≤ 300 by omega), Bool.true_and]
   refine bu _ (lw l[i].fDeps 10 (by omega)) ?_
   cases jh l[i].fDeps 10
   ·exact av rfl (ab rfl)
   ·refine aC (by decide) (am (by omega) ?_)
    exact bu _ (lw l[i].fOldDeps 10 (by omega)) (ab (by rw [Bool.true_and]))
  ·subst hx
   cases hq : p8 l[i]
   ·exact av rfl (ab rfl)
   ·refine aC (by decide) (am (br (by omega) (by omega)) ?_)
    have := ih (i + 1) (by omega)
    rw [Int.natCast_add, Int.natCast_one] at this
    exact this
def tv (t : List Bytes) (l : List aa) : Bool := jh t 16 && decide (tgP t = 0) && decide (l.length ≤ 20) && l.all p8
theorem u7 (t : List Bytes) (l : List aa) (ht : t.length ≤ cg) (hB : ∀ c ∈ l, aa.Bd c) : Ev2 (fun n _ => jv n t l) (· = tv t l) := by
 simp only [jv]
 unfold tv
 refine bQ (· = !(jh t 16 && decide (tgP t = 0) && decide (l.length ≤ 20))) ?_ (fun x hx => ?_)
 ·refine bu _ (lw t 16 ht) ?_
  cases hq : jh t 16
  ·exact av rfl (ab rfl)
  ·refine aC (by decide) (bu _ (Bs t (fun s hs => by have := (lP hq).2 s hs; omega)) ?_)
   refine aN (fun h => ab ?_) (fun h => ab ?_)
   ·rw [decide_eq_true h]
    by_cases h2 : l.length ≤ 20
    ·rw [decide_eq_true h2, decide_eq_false (by omega)]; rfl
    ·rw [decide_eq_false h2, decide_eq_true (by omega)]; rfl
   ·rw [decide_eq_false h]; rfl
 ·subst hx
  cases hq : (jh t 16 && decide (tgP t = 0) && decide (l.length ≤ 20))
  ·exact av rfl (ab rfl)
  ·refine aC (by decide) ?_
   rw [Bool.and_eq_true, decide_eq_true_eq] at hq
   have l1 := Bg l hq.2 hB l.length 0 (by omega)
   rw [List.drop_zero] at l1
   rw [Bool.true_and]
   cases hp : l.all p8
   ·rw [if_neg (by simp [hp])] at l1
    exact ju false (a7 l1) rfl
   ·rw [if_pos hp] at l1
    exact gJ () (a7 l1) (ab rfl)
end Go.Ab.R06
end
