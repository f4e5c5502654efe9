/- Chapter 42. -/
import Derived.Test.YtgdcfenbmcflkaaGreatDoorR02
set_option linter.unusedVariables false
set_option linter.unusedSimpArgs false
set_option linter.unnecessarySimpa false
namespace Go.Ab.R06
open Go.Proofs Go.Ab Go.Ab.RB
attribute [local irreducible] awp rwpL OpOk PCalls OCalls AV.sub M Ghost

def address_reader_has (r_0 : Treader) (s_1 : Bytes) : Option (Bool × Treader) :=
 (strings_CutPrefix r_0.frest s_1).bind fun r1 =>
 some (r1.2, (Treader.mk r1.1 r_0.fbad))

set_option maxHeartbeats 4000000 in
theorem address_reader_has_ok (r_0 : Treader) (s_1 : Bytes) (r : Bool × Treader) (h0 : address_reader_has r_0 s_1 = some r) : OCalls Tryz.prog 71 [.ptr 1000000 0, .p (eS s_1)] [(1000000, [.p (eS r_0.frest), .p (eB r_0.fbad)])] (fun x y => x = .p (eB r.1) ∧ y = [(1000000, [.p (eS r.2.frest), .p (eB r.2.fbad)])]) := by
 unfold address_reader_has at h0
 refine obodyG good [] [1000000] Tryz.func71 rfl rfl rfl rfl rfl fun w0 F => mPo (fun v : Bool × Treader => .p (eB v.1)) (fun v => [(1000000, [.p (eS v.2.frest), .p (eB v.2.fbad)])]) ?_
 refine nx 11 rfl (bd h0 fun r1 e2 h0 => ?_)
 refine oK (strings_CutPrefix_ok r_0.frest s_1 _ e2) rfl ⟨sr, sr, trivial⟩ Tryz.call92 rfl (nx 20 rfl ?_)
 exact mQo (oi h0) (ghost_refl _) rfl rfl rfl rfl (sr) ⟨⟨_, rfl, ⟨sr, sr, trivial⟩⟩, trivial⟩

def address_Identifier_l1 (s_0 : Bytes) : Nat → Int → Option (Unit ⊕ Bool)
 | 0, _ => none
 | m + 1, t19 =>
 if t19 < (s_0.length : Int) then
  ck ((0 : Int) ≤ t19 ∧ t19 < (s_0.length : Int)) <|
  (
    ck ((0 : Int) ≤ t19 ∧ t19 < (s_0.length : Int)) <|
    if byt s_0 t19 = 95 then
     some false
    else
     if iOr .u8 (byt s_0 t19) 32 < 97 then
      if t19 = 0 then
       some true
      else
       ck ((0 : Int) ≤ t19 ∧ t19 < (s_0.length : Int)) <|
       if byt s_0 t19 < 48 then
        some true
       else
        ck ((0 : Int) ≤ t19 ∧ t19 < (s_0.length : Int)) <|
        some (decide (57 < byt s_0 t19))
     else
      if 122 < iOr .u8 (byt s_0 t19) 32 then
       if t19 = 0 then
        some true
       else
        ck ((0 : Int) ≤ t19 ∧ t19 < (s_0.length : Int)) <|
        if byt s_0 t19 < 48 then
         some true
        else
         ck ((0 : Int) ≤ t19 ∧ t19 < (s_0.length : Int)) <|
         some (decide (57 < byt s_0 t19))
      else
       some false
   : Option Bool).bind fun t34 =>
  if t34 = true then
   some (.inr false)
  else
   ck (inR (t19 + 1)) <|
   address_Identifier_l1 s_0 m (t19 + 1)
 else
  some (.inl ())

def address_Identifier (n : Nat) (s_0 : Bytes) : Option Bool :=
 jn (address_Identifier_l1 s_0 n 0) fun q40 =>
 (
   if s_0 = ([] : Bytes) then
    some false
   else
    some (decide ((s_0.length : Int) ≤ 64))
  : Option Bool).bind fun t39 =>
 some t39

set_option maxHeartbeats 4000000 in
theorem address_Identifier_ok (n : Nat) (s_0 : Bytes) (r : Bool) (h0 : address_Identifier n s_0 = some r) : PCalls Tryz.prog 94 [eS s_0] (· = .p (eB r)) := by
 unfold address_Identifier at h0
 refine pbodyA good Tryz.func94 rfl rfl rfl fun w0 => mP (fun v : Bool => .p (eB v)) ?_
 refine nx 8 rfl (oLs rfl ?_)
 refine nx 3 rfl ?_
 obtain ⟨o43, h1, hL0, hR0⟩ := jn_cut h0
 refine kEx 0 (fun v44 : Unit => o43 = .inl v44) (fun v44 => ⟨[(0, .p (eS s_0))], []⟩) (fun v44 hv => ?_) ?_
 ·have h0 := hL0 _ hv
  refine nx 2 rfl (bd h0 fun o45 h1 h0 => ?_)
  refine kN o45 (fun v46 => ⟨[(2, .p (eB v46))], []⟩) ?_ ?_
  ·exact nx 2 rfl (mQ (oi h0) rfl (sr))
  refine nx 2 rfl (oS rfl rfl ?_)
  refine nx 1 rfl (fN [44, 45] h1 rfl (fun c38 h1 => ?_) fun c38 h1 => ?_)
  ·exact nx 6 rfl (eX _ (oi h1).symm (gE rfl rfl))
  refine nx 1 rfl (oLs rfl ?_)
  exact nx 4 rfl (eX _ (oi h1).symm (gE rfl rfl))
 refine lG (fun (q47 : Int) => ⟨[(0, .p (eS s_0)), (6, .p (eI (s_0.length : Int))), (7, .p (eI q47))], []⟩) (fun m (q47 : Int) => address_Identifier_l1 s_0 m q47) (fun _ => rfl) 0 h1 (gE rfl rfl) ?_
 rintro m t19 h1
 replace h1 : address_Identifier_l1 s_0 (m + 1) t19 = some o43 := h1
 rw [address_Identifier_l1] at h1
 refine nx 5 rfl (fD [8] h1 rfl (fun c20 h1 => ?_) fun c20 h1 => ?_)
 ·refine nx 13 rfl (oI h1 rfl fun hk21 h1 => ?_)
  refine nx 4 rfl (bd h1 fun o48 h2 h1 => ?_)
  refine kN o48 (fun v49 => ⟨[(0, .p (eS s_0)), (6, .p (eI (s_0.length : Int))), (7, .p (eI t19)), (41, .p (eB v49))], []⟩) ?_ ?_
  ·refine nx 1 rfl (fB [41] h1 rfl (fun c35 h1 => ?_) fun c35 h1 => ?_)
   ·exact nx 6 rfl (mQ (hR0 _ (oi h1).symm) rfl (sr))
   refine nx 3 rfl (oA h1 rfl rfl fun hk36 h1 => ?_)
   exact nx 2 rfl (eX (t19 + 1) h1 (gE rfl rfl))
  refine nx 3 rfl (oI h2 rfl fun hk22 h2 => ?_)
  refine nx 2 rfl (fN [17, 18] h2 rfl (fun c23 h2 => ?_) fun c23 h2 => ?_)
  ·exact nx 24 rfl (eX _ (oi h2).symm (gE rfl rfl))
  refine nx 3 rfl (fD [20, 21] h2 rfl (fun c24 h2 => ?_) fun c24 h2 => ?_)
  ·refine nx 8 rfl (fD [28, 29] h2 rfl (fun c25 h2 => ?_) fun c25 h2 => ?_)
   ·exact nx 13 rfl (eX _ (oi h2).symm (gE rfl rfl))
   refine nx 2 rfl (oI h2 rfl fun hk26 h2 => ?_)
   refine nx 3 rfl (fD [33, 34, 35] h2 rfl (fun c27 h2 => ?_) fun c27 h2 => ?_)
   ·exact nx 7 rfl (eX _ (oi h2).symm (gE rfl rfl))
   refine nx 2 rfl (oI h2 rfl fun hk28 h2 => ?_)
   exact nx 4 rfl (eX _ (oi h2).symm (gE rfl rfl))
  refine nx 5 rfl (fD [23, 24, 25, 26] h2 rfl (fun c29 h2 => ?_) fun c29 h2 => ?_)
  ·refine nx 3 rfl (fD [28, 29] h2 rfl (fun c30 h2 => ?_) fun c30 h2 => ?_)
   ·exact nx 13 rfl (eX _ (oi h2).symm (gE rfl rfl))
   refine nx 2 rfl (oI h2 rfl fun hk31 h2 => ?_)
   refine nx 3 rfl (fD [33, 34, 35] h2 rfl (fun c32 h2 => ?_) fun c32 h2 => ?_)
   ·exact nx 7 rfl (eX _ (oi h2).symm (gE rfl rfl))
   refine nx 2 rfl (oI h2 rfl fun hk33 h2 => ?_)
   exact nx 4 rfl (eX _ (oi h2).symm (gE rfl rfl))
  exact nx 16 rfl (eX _ (oi h2).symm (gE rfl rfl))
 exact nx 2 rfl (eXi _ (oi h1).symm (gE rfl rfl))

def address_reader_word (n : Nat) (r_0 : Treader) : Option (Bytes × Treader) :=
 (strings_IndexAny r_0.frest ([46, 91] : Bytes)).bind fun r1 =>
 (
   if r1 < 0 then
    some (r_0.frest.length : Int)
   else
    some r1
  : Option Int).bind fun n4 =>
 ck ((0 : Int) ≤ 0 ∧ 0 ≤ n4 ∧ n4 ≤ (r_0.frest.length : Int)) <|
 ck ((0 : Int) ≤ n4 ∧ n4 ≤ (r_0.frest.length : Int) ∧ (r_0.frest.length : Int) ≤ (r_0.frest.length : Int)) <|
 (
   if r_0.fbad = true then
    some true
   else
    (address_Identifier n (sub r_0.frest 0 n4)).bind fun r8 =>
    some (!r8)
  : Option Bool).bind fun f10 =>
 some (sub r_0.frest 0 n4, (Treader.mk (sub r_0.frest n4 (r_0.frest.length : Int)) f10))

set_option maxHeartbeats 4000000 in
theorem address_reader_word_ok (n : Nat) (r_0 : Treader) (r : Bytes × Treader) (h0 : address_reader_word n r_0 = some r) : OCalls Tryz.prog 74 [.ptr 1000000 0] [(1000000, [.p (eS r_0.frest), .p (eB r_0.fbad)])] (fun x y => x = .p (eS r.1) ∧ y = [(1000000, [.p (eS r.2.frest), .p (eB r.2.fbad)])]) := by
 unfold address_reader_word at h0
 refine obodyG good [] [1000000] Tryz.func74 rfl rfl rfl rfl rfl fun w0 F => mPo (fun v : Bytes × Treader => .p (eS v.1)) (fun v => [(1000000, [.p (eS v.2.frest), .p (eB v.2.fbad)])]) ?_
 refine nx 10 rfl (bd h0 fun r1 e2 h0 => ?_)
 refine oK (strings_IndexAny_ok r_0.frest ([46, 91] : Bytes) _ e2) rfl ⟨sr, sr, trivial⟩ Tryz.call93 rfl (nx 3 rfl ?_)
 refine bd h0 fun o13 h1 h0 => kN o13 (fun v14 => ⟨[(0, .ptr 1000000 0), (3, .p (eI v14))], [(1000000, [.p (eS r_0.frest), .p (eB r_0.fbad)])]⟩) ?_ ?_
 ·refine nx 8 rfl (oP h0 rfl rfl rfl fun hk5 h0 => ?_)
  refine nx 10 rfl (oP h0 rfl rfl rfl fun hk6 h0 => ?_)
  refine nx 5 rfl (bd h0 fun o15 h1 h0 => ?_)
  refine kN o15 (fun v16 => ⟨[(4, .p (eS (sub r_0.frest 0 o13)))], [(1000000, [.p (eS (sub r_0.frest o13 (r_0.frest.length : Int))), .p (eB v16)])]⟩) ?_ ?_
  ·exact nx 7 rfl (mQo (oi h0) (ghost_refl _) rfl rfl rfl rfl (sr) ⟨⟨_, rfl, ⟨sr, sr, trivial⟩⟩, trivial⟩)
  refine nx 7 rfl (fB [36, 37] h1 rfl (fun c7 h1 => ?_) fun c7 h1 => ?_)
  ·exact nx 8 rfl (eX _ (oi h1).symm (gE rfl rfl))
  refine nx 1 rfl (bd h1 fun r8 e9 h1 => ?_)
  refine oK (address_Identifier_ok _ (sub r_0.frest 0 o13) _ e9) rfl ⟨sr, trivial⟩ Tryz.call94 rfl (nx 6 rfl ?_)
  exact eX _ (oi h1).symm (gE rfl rfl)
 refine nx 5 rfl (fD [11] h1 rfl (fun c3 h1 => ?_) fun c3 h1 => ?_)
 ·refine nx 6 rfl (oLs rfl ?_)
  exact nx 2 rfl (eX _ (oi h1).symm (gE rfl rfl))
 exact nx 2 rfl (eX _ (oi h1).symm (gE rfl rfl))

def address_reader_skip (r_0 : Treader) (s_1 : Bytes) : Option Treader :=
 (strings_CutPrefix r_0.frest s_1).bind fun r1 =>
 if r_0.fbad = true then
  some (Treader.mk r1.1 true)
 else
  some (Treader.mk r1.1 (!r1.2))

set_option maxHeartbeats 4000000 in
theorem address_reader_skip_ok (r_0 : Treader) (s_1 : Bytes) (r : Treader) (h0 : address_reader_skip r_0 s_1 = some r) : OCalls Tryz.prog 73 [.ptr 1000000 0, .p (eS s_1)] [(1000000, [.p (eS r_0.frest), .p (eB r_0.fbad)])] (fun x y => x = .tuple [] ∧ y = [(1000000, [.p (eS r.frest), .p (eB r.fbad)])]) := by
 unfold address_reader_skip at h0
 refine obodyG good [] [1000000] Tryz.func73 rfl rfl rfl rfl rfl fun w0 F => mPo (fun v : Treader => .tuple []) (fun v => [(1000000, [.p (eS v.frest), .p (eB v.fbad)])]) ?_
 refine nx 7 rfl (bd h0 fun r1 e2 h0 => ?_)
 refine oK (strings_CutPrefix_ok r_0.frest s_1 _ e2) rfl ⟨sr, sr, trivial⟩ Tryz.call92 rfl (nx 21 rfl ?_)
 refine fB [23, 24] h0 rfl (fun c3 h0 => ?_) fun c3 h0 => ?_
 ·exact nx 7 rfl (mQon (oi h0) (ghost_refl _) rfl rfl rfl rfl (sr) ⟨⟨_, rfl, ⟨sr, sr, trivial⟩⟩, trivial⟩)
 exact nx 7 rfl (mQon (oi h0) (ghost_refl _) rfl rfl rfl rfl (sr) ⟨⟨_, rfl, ⟨sr, sr, trivial⟩⟩, trivial⟩)

def address_reader_key (n : Nat) (r_0 : Treader) : Option (TKey × Treader) :=
 (
   if r_0.fbad = true then
    some (true, r_0.frest, r_0.fbad)
   else
    (address_reader_has r_0 ([91] : Bytes)).bind fun r2 =>
    some (!r2.1, r2.2.frest, r2.2.fbad)
  : Option (Bool × Bytes × Bool)).bind fun q35 =>
 if q35.1 = true then
  some ((TKey.mk 0 0 ([] : Bytes)), (Treader.mk q35.2.1 q35.2.2))
 else
  jn (
    (strings_HasPrefix q35.2.1 ([34] : Bytes)).bind fun r8 =>
    if r8 = true then
     (strlit_Unquote n q35.2.1).bind fun r11 =>
     (
       if r11.2.2 = 0 then
        (strlit_Quote n r11.1).bind fun r14 =>
        ck ((0 : Int) ≤ 0 ∧ 0 ≤ r11.2.1 ∧ r11.2.1 ≤ (q35.2.1.length : Int)) <|
        some (!decide (r14 = sub q35.2.1 0 r11.2.1))
       else
        some true
      : Option Bool).bind fun t17 =>
     if t17 = true then
      some (.inr ((TKey.mk 0 0 ([] : Bytes)), (Treader.mk q35.2.1 true)))
     else
      ck ((0 : Int) ≤ r11.2.1 ∧ r11.2.1 ≤ (q35.2.1.length : Int) ∧ (q35.2.1.length : Int) ≤ (q35.2.1.length : Int)) <|
      some (.inl (2, 0, r11.1, sub q35.2.1 r11.2.1 (q35.2.1.length : Int), q35.2.2))
    else
     (strings_IndexByte q35.2.1 93).bind fun r20 =>
     ck ((0 : Int) ≤ 0 ∧ 0 ≤ (if r20 < 0 then 0 else r20) ∧ (if r20 < 0 then 0 else r20) ≤ (q35.2.1.length : Int)) <|
     (number_Parse n (sub q35.2.1 0 (if r20 < 0 then 0 else r20))).bind fun r23 =>
     (
       if r23.2 = 0 then
        some (decide (r23.1 < 0))
       else
        some true
      : Option Bool).bind fun f26 =>
     ck ((0 : Int) ≤ (if r20 < 0 then 0 else r20) ∧ (if r20 < 0 then 0 else r20) ≤ (q35.2.1.length : Int) ∧ (q35.2.1.length : Int) ≤ (q35.2.1.length : Int)) <|
     some (.inl (1, r23.1, ([] : Bytes), sub q35.2.1 (if r20 < 0 then 0 else r20) (q35.2.1.length : Int), f26))
   : Option ((Int × Int × Bytes × Bytes × Bool) ⊕ (TKey × Treader))) fun q36 =>
  (address_reader_skip (Treader.mk q36.2.2.2.1 q36.2.2.2.2) ([93] : Bytes)).bind fun r33 =>
  some ((TKey.mk q36.1 q36.2.1 q36.2.2.1), r33)

set_option maxHeartbeats 4000000 in
theorem address_reader_key_ok (n : Nat) (r_0 : Treader) (r : TKey × Treader) (h0 : address_reader_key n r_0 = some r) : OCalls Tryz.prog 75 [.ptr 1000000 0] [(1000000, [.p (eS r_0.frest), .p (eB r_0.fbad)])] (fun x y => x = .p (.agg (TKey.cs r.1)) ∧ y = [(1000000, [.p (eS r.2.frest), .p (eB r.2.fbad)])]) := by
 unfold address_reader_key at h0
 refine obodyG good [] [1000000] Tryz.func75 rfl rfl rfl rfl rfl fun w0 F => mPo (fun v : TKey × Treader => .p (.agg (TKey.cs v.1))) (fun v => [(1000000, [.p (eS v.2.frest), .p (eB v.2.fbad)])]) ?_
 refine nx 6 rfl (bd h0 fun o39 h1 h0 => ?_)
 refine kN o39 (fun v40 => ⟨[(0, .ptr 1000000 0), (2, .ptr 2 0), (18, .p (eB v40.1))], [(2, [.p (eI 0), .p (eI 0), .p (eS ([] : Bytes))]), (1000000, [.p (eS v40.2.1), .p (eB v40.2.2)])]⟩) ?_ ?_
 ·refine nx 1 rfl (fB [18] h0 rfl (fun c7 h0 => ?_) fun c7 h0 => ?_)
  ·exact nx 7 rfl (mQo (oi h0) (ghost_refl _) rfl rfl rfl rfl (sr) ⟨⟨_, rfl, ⟨sr, sr, trivial⟩⟩, trivial⟩)
  refine nx 7 rfl ?_
  obtain ⟨o41, h1, hL0, hR0⟩ := jn_cut h0
  refine kX (fun v42 : Int × Int × Bytes × Bytes × Bool => o41 = .inl v42) (fun v42 => ⟨[(0, .ptr 1000000 0), (2, .ptr 2 0), (3, .ptr 3 0)], [(2, [.p (eI 0), .p (eI 0), .p (eS ([] : Bytes))]), (3, [.p (eI v42.1), .p (eI v42.2.1), .p (eS v42.2.2.1)]), (1000000, [.p (eS v42.2.2.2.1), .p (eB v42.2.2.2.2)])]⟩) (fun v42 hv => ?_) ?_
  ·have h0 := hL0 _ hv
   refine nx 4 rfl (bd h0 fun r33 e34 h0 => ?_)
   refine mO rfl (op_callV [1000000] [] 102000 102000 (address_reader_skip_ok (Treader.mk v42.2.2.2.1 v42.2.2.2.2) ([93] : Bytes) _ e34) rfl rfl rfl rfl rfl ⟨sr, sr, trivial⟩ rfl rfl ⟨⟨_, rfl, ⟨sr, sr, trivial⟩⟩, trivial⟩ rfl rfl rfl rfl rfl rfl rfl rfl Tryz.call73 rfl rfl ?_)
   exact nx 7 rfl (mQo (oi h0) (ghost_refl _) rfl rfl rfl rfl (sr) ⟨⟨_, rfl, ⟨sr, sr, trivial⟩⟩, trivial⟩)
  refine nx 6 rfl (bd h1 fun r8 e9 h1 => ?_)
  refine oK (strings_HasPrefix_ok o39.2.1 ([34] : Bytes) _ e9) rfl ⟨sr, sr, trivial⟩ Tryz.call68 rfl (nx 1 rfl ?_)
  refine fB [24] h1 rfl (fun c10 h1 => ?_) fun c10 h1 => ?_
  ·refine nx 7 rfl (bd h1 fun r11 e12 h1 => ?_)
   refine oK (strlit_Unquote_ok _ o39.2.1 _ e12) rfl ⟨sr, trivial⟩ Tryz.call95 rfl (nx 10 rfl ?_)
   refine bd h1 fun o43 h2 h1 => kN o43 (fun v44 => ⟨[(0, .ptr 1000000 0), (2, .ptr 2 0), (3, .ptr 3 0), (4, .p (eS r11.1)), (5, .p (eI r11.2.1)), (46, .p (eB v44))], [(2, [.p (eI 0), .p (eI 0), .p (eS ([] : Bytes))]), (3, [.p (eI 0), .p (eI 0), .p (eS ([] : Bytes))]), (1000000, [.p (eS o39.2.1), .p (eB o39.2.2)])]⟩) ?_ ?_
   ·refine nx 1 rfl (fB [46] h1 rfl (fun c18 h1 => ?_) fun c18 h1 => ?_)
    ·exact nx 14 rfl (mQo (hR0 _ (oi h1).symm) (ghost_refl _) rfl rfl rfl rfl (sr) ⟨⟨_, rfl, ⟨sr, sr, trivial⟩⟩, trivial⟩)
    refine nx 15 rfl (oP h1 rfl rfl rfl fun hk19 h1 => ?_)
    exact nx 4 rfl (eX _ (oi h1).symm (gE rfl rfl))
   refine fN (p := r11.2.2 = 0) [] h2 rfl (fun c13 h2 => ?_) fun c13 h2 => ?_
   ·refine bd h2 fun r14 e15 h2 => cc' h2 fun hk16 h2 => mD [(0, .ptr 1000000 0), (2, .ptr 2 0), (3, .ptr 3 0), (4, .p (eS r11.1)), (5, .p (eI r11.2.1)), (6, .p (eI r11.2.2))] rfl ⟨rfl, rfl, rfl, rfl, rfl, rfl, trivial⟩ rfl (dR 1 rfl ?_)
    refine dL (nd_false c13) rfl (dR 2 rfl ?_)
    refine dq (.p (eS r14)) [36,37] rfl (fun _ e _ q => one_yes (ok_callP (strlit_Quote_ok _ r11.1 _ e15) rfl rfl rfl (args_cons (e _ _ rfl) args_nil) ⟨sr, trivial⟩ Tryz.call96 rfl q) rfl rfl (e _ _ rfl) (rfl)) rfl (dR 5 rfl ?_)
    refine dq (.p (eS (sub o39.2.1 0 r11.2.1))) [36,42,43] rfl (fun _ e _ q => one_yes (op_sliceS (a := o39.2.1) (l := 0) (h := r11.2.1) rfl rfl rfl rfl rfl (e _ _ rfl) rfl (hi_some (e _ _ rfl)) hk16 q) rfl rfl (e _ _ rfl) (rfl)) rfl (dq (.p (eB (!decide (r14 = sub o39.2.1 0 r11.2.1)))) [36,38,44] rfl (fun _ e _ q => one_yes (ok_cmpS rfl rfl rfl (e _ _ rfl) (e _ _ rfl) rfl q) rfl rfl (e _ _ rfl) (rfl)) rfl ?_)
    refine dR 1 rfl (dE rfl ?_)
    exact nx 1 rfl (eX _ (oi h2).symm (gE rfl rfl))
   refine mD [(0, .ptr 1000000 0), (2, .ptr 2 0), (3, .ptr 3 0), (4, .p (eS r11.1)), (5, .p (eI r11.2.1)), (6, .p (eI r11.2.2))] rfl ⟨rfl, rfl, rfl, rfl, rfl, rfl, trivial⟩ rfl (dR 1 rfl ?_)
   refine dL (nd_true c13) rfl (dR 11 rfl ?_)
   refine dE rfl (nx 1 rfl ?_)
   exact eX _ (oi h2).symm (gE rfl rfl)
  refine nx 7 rfl (bd h1 fun r20 e21 h1 => ?_)
  refine oK (strings_IndexByte_ok o39.2.1 93 _ e21) rfl ⟨sr, sr, trivial⟩ Tryz.call97 rfl (mO rfl (ok_max rfl rfl rfl rfl rfl ?_))
  refine nx 9 rfl (oP h1 rfl rfl rfl fun hk22 h1 => ?_)
  refine bd h1 fun r23 e24 h1 => oK (number_Parse_ok _ (sub o39.2.1 0 (if r20 < 0 then 0 else r20)) _ e24) rfl ⟨sr, trivial⟩ Tryz.call98 rfl (nx 7 rfl ?_)
  refine bd h1 fun o45 h2 h1 => kN o45 (fun v46 => ⟨[(0, .ptr 1000000 0), (2, .ptr 2 0), (3, .ptr 3 0), (7, .p (eI (if r20 < 0 then 0 else r20))), (8, .p (eI r23.1))], [(2, [.p (eI 0), .p (eI 0), .p (eS ([] : Bytes))]), (3, [.p (eI 0), .p (eI 0), .p (eS ([] : Bytes))]), (1000000, [.p (eS o39.2.1), .p (eB v46)])]⟩) ?_ ?_
  ·refine nx 14 rfl (oP h1 rfl rfl rfl fun hk27 h1 => ?_)
   exact nx 4 rfl (eX _ (oi h1).symm (gE rfl rfl))
  refine nx 5 rfl (fN [80, 81] h2 rfl (fun c25 h2 => ?_) fun c25 h2 => ?_)
  ·exact nx 7 rfl (eX _ (oi h2).symm (gE rfl rfl))
  exact nx 7 rfl (eX _ (oi h2).symm (gE rfl rfl))
 refine nx 6 rfl (fB [13, 14] h1 rfl (fun c1 h1 => ?_) fun c1 h1 => ?_)
 ·exact nx 5 rfl (eX _ (oi h1).symm (gE rfl rfl))
 refine nx 1 rfl (bd h1 fun r2 e3 h1 => ?_)
 refine mO rfl (op_callV [1000000] [] 101000 101000 (address_reader_has_ok r_0 ([91] : Bytes) _ e3) rfl rfl rfl rfl rfl ⟨sr, sr, trivial⟩ rfl rfl ⟨⟨_, rfl, ⟨sr, sr, trivial⟩⟩, trivial⟩ rfl rfl rfl rfl rfl rfl rfl rfl Tryz.call71 rfl rfl ?_)
 exact nx 3 rfl (eX _ (oi h1).symm (gE rfl rfl))

def address_reader_step (n : Nat) (r_0 : Treader) : Option (TModuleStep × Treader) :=
 (address_reader_word n r_0).bind fun r1 =>
 (address_reader_key n r1.2).bind fun r3 =>
 some ((TModuleStep.mk r1.1 r3.1), r3.2)

set_option maxHeartbeats 4000000 in
theorem address_reader_step_ok (n : Nat) (r_0 : Treader) (r : TModuleStep × Treader) (h0 : address_reader_step n r_0 = some r) : OCalls Tryz.prog 72 [.ptr 1000000 0] [(1000000, [.p (eS r_0.frest), .p (eB r_0.fbad)])] (fun x y => x = .p (.agg (TModuleStep.cs r.1)) ∧ y = [(1000000, [.p (eS r.2.frest), .p (eB r.2.fbad)])]) := by
 unfold address_reader_step at h0
 refine obodyG good [] [1000000] Tryz.func72 rfl rfl rfl rfl rfl fun w0 F => mPo (fun v : TModuleStep × Treader => .p (.agg (TModuleStep.cs v.1))) (fun v => [(1000000, [.p (eS v.2.frest), .p (eB v.2.fbad)])]) ?_
 refine nx 7 rfl (bd h0 fun r1 e2 h0 => ?_)
 refine mO rfl (op_callV [1000000] [] 101000 101000 (address_reader_word_ok _ r_0 _ e2) rfl rfl rfl rfl rfl ⟨sr, trivial⟩ rfl rfl ⟨⟨_, rfl, ⟨sr, sr, trivial⟩⟩, trivial⟩ rfl rfl rfl rfl rfl rfl rfl rfl Tryz.call74 rfl rfl ?_)
 refine nx 7 rfl (bd h0 fun r3 e4 h0 => ?_)
 refine mO rfl (op_callV [1000000] [] 102000 102000 (address_reader_key_ok _ r1.2 _ e4) rfl rfl rfl rfl rfl ⟨sr, trivial⟩ rfl rfl ⟨⟨_, rfl, ⟨sr, sr, trivial⟩⟩, trivial⟩ rfl rfl rfl rfl rfl rfl rfl rfl Tryz.call75 rfl rfl ?_)
 exact nx 9 rfl (mQo (oi h0) (ghost_refl _) rfl rfl rfl rfl (sr) ⟨⟨_, rfl, ⟨sr, sr, trivial⟩⟩, trivial⟩)

def address_kind (n : Nat) (s_0 : Bytes) : Option Bool :=
 (
   if s_0 = ([109, 111, 100, 117, 108, 101] : Bytes) then
    some true
   else
    if s_0 = ([100, 97, 116, 97] : Bytes) then
     some true
    else
     if s_0 = ([118, 97, 114] : Bytes) then
      some true
     else
      if s_0 = ([108, 111, 99, 97, 108] : Bytes) then
       some true
      else
       if s_0 = ([101, 97, 99, 104] : Bytes) then
        some true
       else
        if s_0 = ([99, 111, 117, 110, 116] : Bytes) then
         some true
        else
         if s_0 = ([114, 101, 109, 111, 116, 101] : Bytes) then
          some true
         else
          if s_0 = ([111, 117, 116, 112, 117, 116] : Bytes) then
           some true
          else
           if s_0 = ([112, 97, 116, 104] : Bytes) then
            some true
           else
            if s_0 = ([115, 101, 108, 102] : Bytes) then
             some true
            else
             some (decide (s_0 = ([99, 104, 97, 110, 103, 101] : Bytes)))
  : Option Bool).bind fun t11 =>
 if t11 = true then
  some false
 else
  (address_Identifier n s_0).bind fun r13 =>
  some r13

set_option maxHeartbeats 4000000 in
theorem address_kind_ok (n : Nat) (s_0 : Bytes) (r : Bool) (h0 : address_kind n s_0 = some r) : PCalls Tryz.prog 76 [eS s_0] (· = .p (eB r)) := by
 unfold address_kind at h0
 refine pbodyA good Tryz.func76 rfl rfl rfl fun w0 => mP (fun v : Bool => .p (eB v)) ?_
 refine nx 11 rfl (bd h0 fun o16 h1 h0 => ?_)
 refine kN o16 (fun v17 => ⟨[(0, .p (eS s_0)), (4, .p (eB v17))], []⟩) ?_ ?_
 ·refine nx 1 rfl (fB [4] h0 rfl (fun c12 h0 => ?_) fun c12 h0 => ?_)
  ·exact nx 6 rfl (mQ (oi h0) rfl (sr))
  refine nx 5 rfl (bd h0 fun r13 e14 h0 => ?_)
  refine oK (address_Identifier_ok _ s_0 _ e14) rfl ⟨sr, trivial⟩ Tryz.call94 rfl (nx 3 rfl ?_)
  exact mQ (oi h0) rfl (sr)
 refine nx 2 rfl (oS rfl rfl ?_)
 refine nx 2 rfl (fD [4, 5] h1 rfl (fun c1 h1 => ?_) fun c1 h1 => ?_)
 ·exact nx 2 rfl (eX _ (oi h1).symm (gE rfl rfl))
 refine nx 3 rfl (oS rfl rfl ?_)
 refine nx 2 rfl (fD [4, 6] h1 rfl (fun c2 h1 => ?_) fun c2 h1 => ?_)
 ·exact nx 2 rfl (eX _ (oi h1).symm (gE rfl rfl))
 refine nx 3 rfl (oS rfl rfl ?_)
 refine nx 2 rfl (fD [4, 7] h1 rfl (fun c3 h1 => ?_) fun c3 h1 => ?_)
 ·exact nx 2 rfl (eX _ (oi h1).symm (gE rfl rfl))
 refine nx 3 rfl (oS rfl rfl ?_)
 refine nx 2 rfl (fD [4, 8] h1 rfl (fun c4 h1 => ?_) fun c4 h1 => ?_)
 ·exact nx 2 rfl (eX _ (oi h1).symm (gE rfl rfl))
 refine nx 3 rfl (oS rfl rfl ?_)
 refine nx 2 rfl (fD [4, 9] h1 rfl (fun c5 h1 => ?_) fun c5 h1 => ?_)
 ·exact nx 2 rfl (eX _ (oi h1).symm (gE rfl rfl))
 refine nx 3 rfl (oS rfl rfl ?_)
 refine nx 2 rfl (fD [4, 10] h1 rfl (fun c6 h1 => ?_) fun c6 h1 => ?_)
 ·exact nx 2 rfl (eX _ (oi h1).symm (gE rfl rfl))
 refine nx 3 rfl (oS rfl rfl ?_)
 refine nx 2 rfl (fD [4, 11] h1 rfl (fun c7 h1 => ?_) fun c7 h1 => ?_)
 ·exact nx 2 rfl (eX _ (oi h1).symm (gE rfl rfl))
 refine nx 3 rfl (oS rfl rfl ?_)
 refine nx 2 rfl (fD [4, 12] h1 rfl (fun c8 h1 => ?_) fun c8 h1 => ?_)
 ·exact nx 2 rfl (eX _ (oi h1).symm (gE rfl rfl))
 refine nx 3 rfl (oS rfl rfl ?_)
 refine nx 2 rfl (fD [4, 13] h1 rfl (fun c9 h1 => ?_) fun c9 h1 => ?_)
 ·exact nx 2 rfl (eX _ (oi h1).symm (gE rfl rfl))
 refine nx 3 rfl (oS rfl rfl ?_)
 refine nx 2 rfl (fD [4, 14] h1 rfl (fun c10 h1 => ?_) fun c10 h1 => ?_)
 ·exact nx 2 rfl (eX _ (oi h1).symm (gE rfl rfl))
 refine nx 2 rfl (oS rfl rfl ?_)
 exact nx 2 rfl (eX _ (oi h1).symm (gE rfl rfl))

def address_Parse_l1 (n : Nat) : Nat → (List TModuleStep) → Bytes → Bool → Option ((List TModuleStep) × Bytes × Bool)
 | 0, _, _, _ => none
 | m + 1, f16, f17, f18 =>
 (
   if (!f18) = true then
    (address_reader_has (Treader.mk f17 f18) ([109, 111, 100, 117, 108, 101, 46] : Bytes)).bind fun r20 =>
    some (r20.1, r20.2.frest, r20.2.fbad)
   else
    some (false, f17, f18)
  : Option (Bool × Bytes × Bool)).bind fun q55 =>
 if q55.1 = true then
  (address_reader_step n (Treader.mk q55.2.1 q55.2.2)).bind fun r26 =>
  ck ((f16.length + [r26.1].length) * 48 ≤ 140737488355328) <|
  (address_reader_skip r26.2 ([46] : Bytes)).bind fun r29 =>
  address_Parse_l1 n m (f16 ++ [r26.1]) r29.frest r29.fbad
 else
  some (f16, q55.2.1, q55.2.2)

def address_Parse (n : Nat) (s_0 : Bytes) : Option (TAddress × Int) :=
 (address_Parse_l1 n n [] s_0 false).bind fun q54 =>
 (address_reader_has (Treader.mk q54.2.1 q54.2.2) ([100, 97, 116, 97, 46] : Bytes)).bind fun r37 =>
 (address_reader_word n r37.2).bind fun r39 =>
 (address_reader_skip r39.2 ([46] : Bytes)).bind fun r41 =>
 (address_reader_word n r41).bind fun r43 =>
 (address_reader_key n r43.2).bind fun r45 =>
 (
   if r45.2.fbad = true then
    some true
   else
    if r45.2.frest = ([] : Bytes) then
     (address_kind n r39.1).bind fun r49 =>
     some (!r49)
    else
     some true
  : Option Bool).bind fun t51 =>
 if t51 = true then
  some ((TAddress.mk [] false ([] : Bytes) ([] : Bytes) (TKey.mk 0 0 ([] : Bytes))), 2)
 else
  if 16 < (q54.1.length : Int) then
   some ((TAddress.mk [] false ([] : Bytes) ([] : Bytes) (TKey.mk 0 0 ([] : Bytes))), 4)
  else
   some ((TAddress.mk q54.1 r37.1 r39.1 r43.1 r45.1), 0)

set_option maxHeartbeats 4000000 in
theorem address_Parse_ok (n : Nat) (s_0 : Bytes) (r : TAddress × Int) (h0 : address_Parse n s_0 = some r) : PCalls Tryz.prog 50 [eS s_0] (· = .tuple [.p (.agg (TAddress.cs r.1)), .p (eI r.2)]) := by
 unfold address_Parse at h0
 refine pbodyA good Tryz.func50 rfl rfl rfl fun w0 => mP (fun v : TAddress × Int => .tuple [.p (.agg (TAddress.cs v.1)), .p (eI v.2)]) ?_
 refine nx 18 rfl (bd h0 fun o57 h1 h0 => ?_)
 refine kE 0 o57 (fun v58 => ⟨[(2, .ptr 2 0), (4, .ptr 8 0), (5, .ptr 5 0)], [(2, [.p (.val (.slice none 0 0)), .p (eB false), .p (eS ([] : Bytes)), .p (eS ([] : Bytes)), .p (eI 0), .p (eI 0), .p (eS ([] : Bytes))]), (5, [.vec 23 4 0 (v58.1.map eTModuleStep), .p (eB false), .p (eS ([] : Bytes)), .p (eS ([] : Bytes)), .p (eI 0), .p (eI 0), .p (eS ([] : Bytes))]), (8, [.p (eS v58.2.1), .p (eB v58.2.2)])]⟩) ?_ ?_
 ·refine nx 4 rfl (bd h0 fun r37 e38 h0 => ?_)
  refine mO rfl (op_callV [8] [] 107000 107000 (address_reader_has_ok (Treader.mk o57.2.1 o57.2.2) ([100, 97, 116, 97, 46] : Bytes) _ e38) rfl rfl rfl rfl rfl ⟨sr, sr, trivial⟩ rfl rfl ⟨⟨_, rfl, ⟨sr, sr, trivial⟩⟩, trivial⟩ rfl rfl rfl rfl rfl rfl rfl rfl Tryz.call71 rfl rfl ?_)
  refine nx 6 rfl (bd h0 fun r39 e40 h0 => ?_)
  refine mO rfl (op_callV [8] [] 108000 108000 (address_reader_word_ok _ r37.2 _ e40) rfl rfl rfl rfl rfl ⟨sr, trivial⟩ rfl rfl ⟨⟨_, rfl, ⟨sr, sr, trivial⟩⟩, trivial⟩ rfl rfl rfl rfl rfl rfl rfl rfl Tryz.call74 rfl rfl ?_)
  refine nx 6 rfl (bd h0 fun r41 e42 h0 => ?_)
  refine mO rfl (op_callV [8] [] 109000 109000 (address_reader_skip_ok r39.2 ([46] : Bytes) _ e42) rfl rfl rfl rfl rfl ⟨sr, sr, trivial⟩ rfl rfl ⟨⟨_, rfl, ⟨sr, sr, trivial⟩⟩, trivial⟩ rfl rfl rfl rfl rfl rfl rfl rfl Tryz.call73 rfl rfl ?_)
  refine nx 4 rfl (bd h0 fun r43 e44 h0 => ?_)
  refine mO rfl (op_callV [8] [] 110000 110000 (address_reader_word_ok _ r41 _ e44) rfl rfl rfl rfl rfl ⟨sr, trivial⟩ rfl rfl ⟨⟨_, rfl, ⟨sr, sr, trivial⟩⟩, trivial⟩ rfl rfl rfl rfl rfl rfl rfl rfl Tryz.call74 rfl rfl ?_)
  refine nx 6 rfl (bd h0 fun r45 e46 h0 => ?_)
  refine mO rfl (op_callV [8] [] 111000 111000 (address_reader_key_ok _ r43.2 _ e46) rfl rfl rfl rfl rfl ⟨sr, trivial⟩ rfl rfl ⟨⟨_, rfl, ⟨sr, sr, trivial⟩⟩, trivial⟩ rfl rfl rfl rfl rfl rfl rfl rfl Tryz.call75 rfl rfl ?_)
  refine nx 5 rfl (bd h0 fun o59 h1 h0 => ?_)
  refine kN o59 (fun v60 => ⟨[(2, .ptr 2 0), (5, .ptr 5 0), (57, .p (eB v60))], [(2, [.p (.val (.slice none 0 0)), .p (eB false), .p (eS ([] : Bytes)), .p (eS ([] : Bytes)), .p (eI 0), .p (eI 0), .p (eS ([] : Bytes))]), (5, [.vec 23 4 0 (o57.1.map eTModuleStep), .p (eB r37.1), .p (eS r39.1), .p (eS r43.1), .p (eI r45.1.fKind), .p (eI r45.1.fNum), .p (eS r45.1.fStr)])]⟩) ?_ ?_
  ·refine nx 1 rfl (fB [57] h0 rfl (fun c52 h0 => ?_) fun c52 h0 => ?_)
   ·exact nx 8 rfl (mQ (oi h0) rfl (sub_tuple ⟨sub_cells ⟨.inr ⟨rfl, rfl⟩, .inl rfl, .inl rfl, .inl rfl, .inl rfl, .inl rfl, .inl rfl, trivial⟩, sr, trivial⟩))
   refine nx 7 rfl (oLl (f := eTModuleStep) rfl rfl ?_)
   refine nx 2 rfl (fD [62] h0 rfl (fun c53 h0 => ?_) fun c53 h0 => ?_)
   ·exact nx 8 rfl (mQ (oi h0) rfl (sub_tuple ⟨sub_cells ⟨.inr ⟨rfl, rfl⟩, .inl rfl, .inl rfl, .inl rfl, .inl rfl, .inl rfl, .inl rfl, trivial⟩, sr, trivial⟩))
   exact nx 9 rfl (mQ (oi h0) rfl (sub_tuple ⟨sub_aggs ⟨AV.sub_vec _ _ _ _, sr, sr, sr, sr, sr, sr, trivial⟩, sr, trivial⟩))
  refine nx 6 rfl (fB [44, 45] h1 rfl (fun c47 h1 => ?_) fun c47 h1 => ?_)
  ·exact nx 13 rfl (eX _ (oi h1).symm (gE rfl rfl))
  refine nx 4 rfl (oS rfl rfl ?_)
  refine nx 2 rfl (fN [50, 51, 52] h1 rfl (fun c48 h1 => ?_) fun c48 h1 => ?_)
  ·refine nx 2 rfl (bd h1 fun r49 e50 h1 => ?_)
   refine oK (address_kind_ok _ r39.1 _ e50) rfl ⟨sr, trivial⟩ Tryz.call76 rfl (nx 3 rfl ?_)
   exact eX _ (oi h1).symm (gE rfl rfl)
  exact nx 6 rfl (eX _ (oi h1).symm (gE rfl rfl))
 refine lG (fun (q61 : (List TModuleStep) × Bytes × Bool) => ⟨[(2, .ptr 2 0), (4, .ptr 8 0), (5, .ptr 5 0)], [(2, [.p (.val (.slice none 0 0)), .p (eB false), .p (eS ([] : Bytes)), .p (eS ([] : Bytes)), .p (eI 0), .p (eI 0), .p (eS ([] : Bytes))]), (5, [.vec 23 4 0 (q61.1.map eTModuleStep), .p (eB false), .p (eS ([] : Bytes)), .p (eS ([] : Bytes)), .p (eI 0), .p (eI 0), .p (eS ([] : Bytes))]), (8, [.p (eS q61.2.1), .p (eB q61.2.2)])]⟩) (fun m (q61 : (List TModuleStep) × Bytes × Bool) => address_Parse_l1 n m q61.1 q61.2.1 q61.2.2) (fun _ => rfl) ([], s_0, false) h1 (ghost_le (le_mk ⟨er rfl, er rfl, er rfl, trivial⟩ ⟨⟨_, rfl, ⟨sr, sr, sr, sr, sr, sr, sr, trivial⟩⟩, ⟨_, rfl, ⟨AV.sub_nilvec _ _ _, sr, sr, sr, sr, sr, sr, trivial⟩⟩, ⟨_, rfl, ⟨sr, sr, trivial⟩⟩, trivial⟩)) ?_
 rintro m ⟨f16, f17, f18⟩ h1
 replace h1 : address_Parse_l1 n (m + 1) f16 f17 f18 = some o57 := h1
 rw [address_Parse_l1] at h1
 refine nx 2 rfl (bd h1 fun o62 h2 h1 => ?_)
 refine kN o62 (fun v63 => ⟨[(2, .ptr 2 0), (4, .ptr 8 0), (5, .ptr 5 0), (17, .p (eB v63.1))], [(2, [.p (.val (.slice none 0 0)), .p (eB false), .p (eS ([] : Bytes)), .p (eS ([] : Bytes)), .p (eI 0), .p (eI 0), .p (eS ([] : Bytes))]), (5, [.vec 23 4 0 (f16.map eTModuleStep), .p (eB false), .p (eS ([] : Bytes)), .p (eS ([] : Bytes)), .p (eI 0), .p (eI 0), .p (eS ([] : Bytes))]), (8, [.p (eS v63.2.1), .p (eB v63.2.2)])]⟩) ?_ ?_
 ·refine nx 1 rfl (fB [17] h1 rfl (fun c25 h1 => ?_) fun c25 h1 => ?_)
  ·refine nx 4 rfl (bd h1 fun r26 e27 h1 => ?_)
   refine cc' h1 fun hk28 h1 => mG (gE (t := ⟨[(2, .ptr 2 0), (4, .ptr 8 0), (5, .ptr 5 0)], [(2, [.p (.val (.slice none 0 0)), .p (eB false), .p (eS ([] : Bytes)), .p (eS ([] : Bytes)), .p (eI 0), .p (eI 0), .p (eS ([] : Bytes))]), (5, [.vec 23 4 0 (f16.map eTModuleStep), .p (eB false), .p (eS ([] : Bytes)), .p (eS ([] : Bytes)), .p (eI 0), .p (eI 0), .p (eS ([] : Bytes))]), (8, [.p (eS o62.2.1), .p (eB o62.2.2)])]⟩) rfl rfl) (mS ⟨3, [3, 5, 7], (by4 (.some (dropV [] 105000 105000)) (.some fun i => Nat.beq i 23 || Nat.beq i 23) .none .none), (fun _ => [(2, .ptr 2 0), (4, .ptr 8 0), (5, .ptr 5 0)]), (by4 ([(2, [.p (.val (.slice none 0 0)), .p (eB false), .p (eS ([] : Bytes)), .p (eS ([] : Bytes)), .p (eI 0), .p (eI 0), .p (eS ([] : Bytes))]), (5, [.vec 23 4 0 (f16.map eTModuleStep), .p (eB false), .p (eS ([] : Bytes)), .p (eS ([] : Bytes)), .p (eI 0), .p (eI 0), .p (eS ([] : Bytes))]), (8, [.p (eS o62.2.1), .p (eB o62.2.2)])]) ([(8, [.p (eS r26.2.frest), .p (eB r26.2.fbad)]), (2, [.p (.val (.slice none 0 0)), .p (eB false), .p (eS ([] : Bytes)), .p (eS ([] : Bytes)), .p (eI 0), .p (eI 0), .p (eS ([] : Bytes))]), (5, [.vec 23 4 0 (f16.map eTModuleStep), .p (eB false), .p (eS ([] : Bytes)), .p (eS ([] : Bytes)), .p (eI 0), .p (eI 0), .p (eS ([] : Bytes))])]) ([(8, [.p (eS r26.2.frest), .p (eB r26.2.fbad)]), (2, [.p (.val (.slice none 0 0)), .p (eB false), .p (eS ([] : Bytes)), .p (eS ([] : Bytes)), .p (eI 0), .p (eI 0), .p (eS ([] : Bytes))]), (5, [.p (eL eTModuleStep f16), .p (eB false), .p (eS ([] : Bytes)), .p (eS ([] : Bytes)), .p (eI 0), .p (eI 0), .p (eS ([] : Bytes))])]) ([(5, [.vec 23 4 0 ((f16 ++ [r26.1]).map eTModuleStep), .p (eB false), .p (eS ([] : Bytes)), .p (eS ([] : Bytes)), .p (eI 0), .p (eI 0), .p (eS ([] : Bytes))]), (8, [.p (eS r26.2.frest), .p (eB r26.2.fbad)]), (2, [.p (.val (.slice none 0 0)), .p (eB false), .p (eS ([] : Bytes)), .p (eS ([] : Bytes)), .p (eI 0), .p (eI 0), .p (eS ([] : Bytes))]), (5, [.p (eL eTModuleStep f16), .p (eB false), .p (eS ([] : Bytes)), .p (eS ([] : Bytes)), .p (eI 0), .p (eI 0), .p (eS ([] : Bytes))])]))⟩ rfl rfl rfl ⟨rfl, rfl, rfl, trivial⟩ (lt3 ⟨rfl, rfl, rfl, trivial⟩ ⟨rfl, rfl, rfl, trivial⟩ ⟨rfl, rfl, rfl, trivial⟩) rfl rfl rfl rfl ?_)
   refine ds_pure (fun _ => .ptr 5 0) rfl rfl rfl (all4 rfl rfl rfl (fun _ => rfl)) (lt3 rfl rfl rfl) (stg_no rfl (stg_yes [(5, _)] ⟨.inl rfl, trivial⟩ (fun sl hsl K hK => one_op rfl (ok_fieldAddrP rfl rfl rfl rfl rfl rfl rfl rfl (hsl _ _ rfl) hK)) (stg_yes [(5, _)] ⟨.inl rfl, trivial⟩ (fun sl hsl K hK => one_op rfl (ok_fieldAddrP rfl rfl rfl rfl rfl rfl rfl rfl (hsl _ _ rfl) hK)) (stg_yes [(5, _)] ⟨.inl rfl, trivial⟩ (fun sl hsl K hK => one_op rfl (ok_fieldAddrP rfl rfl rfl rfl rfl rfl rfl rfl (hsl _ _ rfl) hK)) stg_nil)))) (ds_pure (by4 (.vec 23 4 0 (f16.map eTModuleStep)) (.vec 23 4 0 (f16.map eTModuleStep)) (.p (eL eTModuleStep f16)) (.p (eL eTModuleStep f16))) rfl rfl rfl (all4 rfl rfl rfl (fun _ => rfl)) (lt3 rfl rfl rfl) (stg_no rfl (stg_no rfl (stg_yes [(18, _)] ⟨.inr ⟨0, _, rfl, rfl, rfl⟩, trivial⟩ (fun sl hsl K hK => one_op rfl (ok_loadP1 rfl rfl rfl rfl rfl (hsl _ _ rfl) rfl rfl hK)) (stg_yes [(18, _)] ⟨.inr ⟨0, _, rfl, rfl, rfl⟩, trivial⟩ (fun sl hsl K hK => one_op rfl (ok_loadP1 rfl rfl rfl rfl rfl (hsl _ _ rfl) rfl rfl hK)) stg_nil)))) ?_)
   refine ds_pure (fun _ => .ptr 8 0) rfl rfl rfl (all4 rfl rfl rfl (fun _ => rfl)) (lt3 rfl rfl rfl) (stg_no rfl (stg_no rfl (stg_no rfl (stg_yes [(4, _)] ⟨.inl rfl, trivial⟩ (fun sl hsl K hK => one_op rfl (ok_move rfl rfl rfl (hsl _ _ rfl) hK)) stg_nil)))) (ds_imp (fun _ => .p (.agg (TModuleStep.cs r26.1))) [(20, _)] rfl ⟨.inr ⟨2, _, rfl, rfl, rfl⟩, trivial⟩ rfl rfl (all3 rfl rfl (fun _ => rfl)) (lt3 (fun h => absurd h (by decide)) (fun _ => rfl) (fun _ => rfl)) (fun sl hsl K hK => one_op rfl (op_callV [8] [] 105000 105000 (address_reader_step_ok _ (Treader.mk o62.2.1 o62.2.2) _ e27) rfl rfl rfl (args_cons (hsl _ _ rfl) args_nil) rfl ⟨sr, trivial⟩ rfl rfl ⟨⟨_, rfl, ⟨sr, sr, trivial⟩⟩, trivial⟩ rfl rfl rfl rfl rfl rfl rfl rfl Tryz.call72 rfl rfl hK)) ?_)
   refine ds_pure (fun _ => .p (eL eTModuleStep [r26.1])) rfl rfl rfl (all4 rfl rfl rfl (fun _ => rfl)) (lt3 rfl rfl rfl) (stg_no rfl (stg_no rfl (stg_yes [(21, _)] ⟨.inr ⟨3, _, rfl, rfl, rfl⟩, trivial⟩ (fun sl hsl K hK => one_op rfl (op_bslice eTModuleStep [r26.1] rfl rfl rfl rfl rfl rfl (elems_cons (hsl _ _ rfl) rfl elems_nil) rfl rfl rfl rfl rfl rfl (by first | rfl | (simp only [List.map_cons, List.map_nil, TModuleStep.agg_eq]; done) | (simp only [List.map_cons, List.map_nil, TModuleStep.agg_eq]; rfl)) hK)) (stg_no rfl stg_nil)))) (ds_imp (fun _ => .vec 23 4 0 ((f16 ++ [r26.1]).map eTModuleStep)) [(19, _), (22, _)] rfl ⟨.inr ⟨1, _, rfl, rfl, rfl⟩, .inr ⟨4, _, rfl, rfl, rfl⟩, trivial⟩ rfl rfl (all2 rfl (fun _ => rfl)) (lt3 (fun h => absurd h (by decide)) (fun h => absurd h (by decide)) (fun _ => rfl)) (fun sl hsl K hK => one_op rfl (op_appV eTModuleStep f16 [r26.1] rfl rfl rfl rfl rfl rfl rfl rfl (hsl _ _ rfl) rfl rfl (hsl _ _ rfl) rfl (fun x => congrArg List.length (TModuleStep.cells_eq x)) rfl rfl rfl rfl hk28 hK)) ?_)
   refine ds_pure (fun _ => .ptr 5 0) rfl rfl rfl (all4 rfl rfl rfl (fun _ => rfl)) (lt3 rfl rfl rfl) (stg_no rfl (stg_yes [(5, _)] ⟨.inl rfl, trivial⟩ (fun sl hsl K hK => one_op rfl (ok_fieldAddrP rfl rfl rfl rfl rfl rfl rfl rfl (hsl _ _ rfl) hK)) (stg_no rfl (stg_no rfl stg_nil)))) (ds_store [(23, _), (24, _)] rfl ⟨.inr ⟨5, _, rfl, rfl, rfl⟩, .inr ⟨6, _, rfl, rfl, rfl⟩, trivial⟩ rfl (fun sl hsl K hK => one_op rfl (ok_store rfl rfl rfl (hsl _ _ rfl) (hsl _ _ rfl) rfl rfl rfl (Nat.le_of_ble_eq_true rfl) hK)) ?_)
   refine ds_nil (nx 3 rfl ?_)
   refine bd h1 fun r29 e30 h1 => mO rfl (op_callV [8] [] 106000 106000 (address_reader_skip_ok r26.2 ([46] : Bytes) _ e30) rfl rfl rfl rfl rfl ⟨sr, sr, trivial⟩ rfl rfl ⟨⟨_, rfl, ⟨sr, sr, trivial⟩⟩, trivial⟩ rfl rfl rfl rfl rfl rfl rfl rfl Tryz.call73 rfl rfl ?_)
   exact nx 1 rfl (eX (f16 ++ [r26.1], r29.frest, r29.fbad) h1 (gE rfl rfl))
  exact nx 2 rfl (eXi _ (oi h1).symm (gE rfl rfl))
 refine nx 7 rfl (fB [13, 14] h2 rfl (fun c19 h2 => ?_) fun c19 h2 => ?_)
 ·refine nx 1 rfl (bd h2 fun r20 e21 h2 => ?_)
  refine mO rfl (op_callV [8] [] 104000 104000 (address_reader_has_ok (Treader.mk f17 f18) ([109, 111, 100, 117, 108, 101, 46] : Bytes) _ e21) rfl rfl rfl rfl rfl ⟨sr, sr, trivial⟩ rfl rfl ⟨⟨_, rfl, ⟨sr, sr, trivial⟩⟩, trivial⟩ rfl rfl rfl rfl rfl rfl rfl rfl Tryz.call71 rfl rfl ?_)
  exact nx 2 rfl (eX _ (oi h2).symm (gE rfl rfl))
 exact nx 4 rfl (eX _ (oi h2).symm (gE rfl rfl))

def address_valid (k_0 : TKey) : Option Bool :=
 if k_0.fKind = 0 then
  some (decide (k_0.fKind = 0 ∧ k_0.fNum = 0 ∧ k_0.fStr = ([] : Bytes)))
 else
  if k_0.fKind = 1 then
   (
     if 0 ≤ k_0.fNum then
      if k_0.fNum ≤ 9007199254740992 then
       some (decide (k_0.fStr = ([] : Bytes)))
      else
       some false
     else
      some false
    : Option Bool).bind fun t5 =>
   some t5
  else
   if k_0.fKind = 2 then
    (
      if k_0.fNum = 0 then
       (strlit_Valid k_0.fStr).bind fun r8 =>
       some r8
      else
       some false
     : Option Bool).bind fun t10 =>
    some t10
   else
    some false

set_option maxHeartbeats 4000000 in
theorem address_valid_ok (k_0 : TKey) (r : Bool) (h0 : address_valid k_0 = some r) : PCalls Tryz.prog 99 [.agg (TKey.cs k_0)] (· = .p (eB r)) := by
 unfold address_valid at h0
 refine pbodyA good Tryz.func99 rfl rfl rfl fun w0 => mP (fun v : Bool => .p (eB v)) ?_
 refine nx 17 rfl (fD [5, 6] h0 rfl (fun c1 h0 => ?_) fun c1 h0 => ?_)
 ·refine nx 5 rfl (mO rfl (op_eqS (k_0.fKind = 0 ∧ k_0.fNum = 0 ∧ k_0.fStr = ([] : Bytes)) rfl rfl rfl rfl rfl rfl rfl (by kernel_rfl) rfl rfl (.inl ⟨rfl, rfl⟩) ?_))
  exact nx 3 rfl (mQ (oi h0) rfl (sr))
 refine nx 6 rfl (fD [10, 11] h0 rfl (fun c2 h0 => ?_) fun c2 h0 => ?_)
 ·refine nx 2 rfl (bd h0 fun o13 h1 h0 => ?_)
  refine kN o13 (fun v14 => ⟨[(2, .p (eB v14))], []⟩) ?_ ?_
  ·exact nx 2 rfl (mQ (oi h0) rfl (sr))
  refine nx 5 rfl (fD [14, 15] h1 rfl (fun c3 h1 => ?_) fun c3 h1 => ?_)
  ·refine nx 5 rfl (fD [18, 19, 20] h1 rfl (fun c4 h1 => ?_) fun c4 h1 => ?_)
   ·refine nx 2 rfl (oS rfl rfl ?_)
    exact nx 3 rfl (eX _ (oi h1).symm (gE rfl rfl))
   exact nx 6 rfl (eX _ (oi h1).symm (gE rfl rfl))
  exact nx 11 rfl (eX _ (oi h1).symm (gE rfl rfl))
 refine nx 6 rfl (fD [25, 26] h0 rfl (fun c6 h0 => ?_) fun c6 h0 => ?_)
 ·refine nx 2 rfl (bd h0 fun o15 h1 h0 => ?_)
  refine kN o15 (fun v16 => ⟨[(2, .p (eB v16))], []⟩) ?_ ?_
  ·exact nx 2 rfl (mQ (oi h0) rfl (sr))
  refine nx 5 rfl (fD [29, 30] h1 rfl (fun c7 h1 => ?_) fun c7 h1 => ?_)
  ·refine nx 2 rfl (bd h1 fun r8 e9 h1 => ?_)
   refine oK (strlit_Valid_ok k_0.fStr _ e9) rfl ⟨sr, trivial⟩ Tryz.call126 rfl (nx 3 rfl ?_)
   exact eX _ (oi h1).symm (gE rfl rfl)
  exact nx 6 rfl (eX _ (oi h1).symm (gE rfl rfl))
 exact nx 7 rfl (mQ (oi h0) rfl (sr))

def address_Check_l1 (n : Nat) (a_0 : TAddress) : Nat → Int → Option (Unit ⊕ Int)
 | 0, _ => none
 | m + 1, t12 =>
 if t12 < (a_0.fModule.length : Int) then
  ck ((0 : Int) ≤ t12 ∧ t12 < (a_0.fModule.length : Int)) <|
  (address_Identifier n ((lat a_0.fModule t12).fName)).bind fun r15 =>
  if (!r15) = true then
   some (.inr 7)
  else
   (address_valid ((lat a_0.fModule t12).fKey)).bind fun r18 =>
   if (!r18) = true then
    some (.inr 1)
   else
    ck (inR (t12 + 1)) <|
    address_Check_l1 n a_0 m (t12 + 1)
 else
  some (.inl ())

def address_Check (n : Nat) (a_0 : TAddress) : Option Int :=
 if 16 < (a_0.fModule.length : Int) then
  some 4
 else
  jn (address_Check_l1 n a_0 n 0) fun q33 =>
  (
    (address_kind n a_0.fType).bind fun r23 =>
    if (!r23) = true then
     some true
    else
     (address_Identifier n a_0.fName).bind fun r26 =>
     some (!r26)
   : Option Bool).bind fun t28 =>
  if t28 = true then
   some 7
  else
   (address_valid a_0.fKey).bind fun r30 =>
   if (!r30) = true then
    some 1
   else
    some 0

set_option maxHeartbeats 4000000 in
theorem address_Check_ok (n : Nat) (a_0 : TAddress) (r : Int) (h0 : address_Check n a_0 = some r) : PCalls Tryz.prog 77 [.agg (TAddress.cs a_0)] (· = .p (eI r)) := by
 unfold address_Check at h0
 refine pbodyA good Tryz.func77 rfl rfl rfl fun w0 => mP (fun v : Int => .p (eI v)) ?_
 refine nx 10 rfl (oLl (f := eTModuleStep) rfl rfl ?_)
 refine nx 2 rfl (fD [8] h0 rfl (fun c1 h0 => ?_) fun c1 h0 => ?_)
 ·exact nx 6 rfl (mQ (oi h0) rfl (sr))
 refine nx 7 rfl (oLl (f := eTModuleStep) rfl rfl ?_)
 refine nx 3 rfl ?_
 obtain ⟨o35, h1, hL0, hR0⟩ := jn_cut h0
 refine kEx 0 (fun v36 : Unit => o35 = .inl v36) (fun v36 => ⟨[(1, .ptr 1 0)], [(1, (TAddress.cs a_0).map .p)]⟩) (fun v36 hv => ?_) ?_
 ·have h0 := hL0 _ hv
  refine nx 3 rfl (bd h0 fun o37 h1 h0 => ?_)
  refine kN o37 (fun v38 => ⟨[(1, .ptr 1 0), (34, .p (eB v38))], [(1, (TAddress.cs a_0).map .p)]⟩) ?_ ?_
  ·refine nx 1 rfl (fB [34] h0 rfl (fun c29 h0 => ?_) fun c29 h0 => ?_)
   ·exact nx 6 rfl (mQ (oi h0) rfl (sr))
   refine nx 7 rfl (bd h0 fun r30 e31 h0 => ?_)
   refine oK (address_valid_ok a_0.fKey _ e31) rfl ⟨sr, trivial⟩ Tryz.call99 rfl (nx 2 rfl ?_)
   refine fB [38] h0 rfl (fun c32 h0 => ?_) fun c32 h0 => ?_
   ·exact nx 6 rfl (mQ (oi h0) rfl (sr))
   exact nx 7 rfl (mQ (oi h0) rfl (sr))
  refine nx 3 rfl (bd h1 fun r23 e24 h1 => ?_)
  refine oK (address_kind_ok _ a_0.fType _ e24) rfl ⟨sr, trivial⟩ Tryz.call76 rfl (nx 2 rfl ?_)
  refine fB [28, 29] h1 rfl (fun c25 h1 => ?_) fun c25 h1 => ?_
  ·exact nx 6 rfl (eX _ (oi h1).symm (gE rfl rfl))
  refine nx 2 rfl (bd h1 fun r26 e27 h1 => ?_)
  refine oK (address_Identifier_ok _ a_0.fName _ e27) rfl ⟨sr, trivial⟩ Tryz.call94 rfl (nx 3 rfl ?_)
  exact eX _ (oi h1).symm (gE rfl rfl)
 refine lG (fun (q39 : Int) => ⟨[(1, .ptr 1 0), (10, .p (eL eTModuleStep a_0.fModule)), (11, .p (eI (a_0.fModule.length : Int))), (12, .p (eI q39))], [(1, (TAddress.cs a_0).map .p)]⟩) (fun m (q39 : Int) => address_Check_l1 n a_0 m q39) (fun _ => rfl) 0 h1 (gE rfl rfl) ?_
 rintro m t12 h1
 replace h1 : address_Check_l1 n a_0 (m + 1) t12 = some o35 := h1
 rw [address_Check_l1] at h1
 refine nx 5 rfl (fD [13] h1 rfl (fun c13 h1 => ?_) fun c13 h1 => ?_)
 ·refine nx 6 rfl (oE h1 TModuleStep.cells_eq rfl rfl (fun _ => rfl) fun hk14 h1 => ?_)
  refine nx 9 rfl (bd h1 fun r15 e16 h1 => ?_)
  refine oK (address_Identifier_ok _ ((lat a_0.fModule t12).fName) _ e16) rfl ⟨sr, trivial⟩ Tryz.call94 rfl (nx 2 rfl ?_)
  refine fB [19] h1 rfl (fun c17 h1 => ?_) fun c17 h1 => ?_
  ·exact nx 6 rfl (mQ (hR0 _ (oi h1).symm) rfl (sr))
  refine nx 6 rfl (bd h1 fun r18 e19 h1 => ?_)
  refine oK (address_valid_ok ((lat a_0.fModule t12).fKey) _ e19) rfl ⟨sr, trivial⟩ Tryz.call99 rfl (nx 2 rfl ?_)
  refine fB [23] h1 rfl (fun c20 h1 => ?_) fun c20 h1 => ?_
  ·exact nx 6 rfl (mQ (hR0 _ (oi h1).symm) rfl (sr))
  refine nx 3 rfl (oA h1 rfl rfl fun hk21 h1 => ?_)
  exact nx 2 rfl (eX (t12 + 1) h1 (gE rfl rfl))
 exact nx 2 rfl (eXi _ (oi h1).symm (gE rfl rfl))

def number_Format (n_0 : Int) : Option Bytes :=
 (strconv_Itoa n_0).bind fun r1 =>
 some r1

set_option maxHeartbeats 4000000 in
theorem number_Format_ok (n_0 : Int) (r : Bytes) (h0 : number_Format n_0 = some r) : PCalls Tryz.prog 101 [eI n_0] (· = .p (eS r)) := by
 unfold number_Format at h0
 refine pbodyA good Tryz.func101 rfl rfl rfl fun w0 => mP (fun v : Bytes => .p (eS v)) ?_
 refine nx 7 rfl (bd h0 fun r1 e2 h0 => ?_)
 refine oK (strconv_Itoa_ok n_0 _ e2) rfl ⟨sr, trivial⟩ Tryz.call128 rfl (nx 3 rfl ?_)
 exact mQ (oi h0) rfl (sr)

def address_FormatKey (n : Nat) (k_0 : TKey) : Option Bytes :=
 (
   (address_valid k_0).bind fun r1 =>
   if (!r1) = true then
    some true
   else
    some (decide (k_0.fKind = 0))
  : Option Bool).bind fun t4 =>
 if t4 = true then
  some ([] : Bytes)
 else
  if k_0.fKind = 1 then
   (number_Format k_0.fNum).bind fun r7 =>
   ck (([91] : Bytes).length + r7.length ≤ 9223372036854775807) <|
   ck ((([91] : Bytes) ++ r7).length + ([93] : Bytes).length ≤ 9223372036854775807) <|
   some ((([91] : Bytes) ++ r7) ++ ([93] : Bytes))
  else
   (strlit_Quote n k_0.fStr).bind fun r11 =>
   ck (([91] : Bytes).length + r11.length ≤ 9223372036854775807) <|
   ck ((([91] : Bytes) ++ r11).length + ([93] : Bytes).length ≤ 9223372036854775807) <|
   some ((([91] : Bytes) ++ r11) ++ ([93] : Bytes))

set_option maxHeartbeats 4000000 in
theorem address_FormatKey_ok (n : Nat) (k_0 : TKey) (r : Bytes) (h0 : address_FormatKey n k_0 = some r) : PCalls Tryz.prog 79 [.agg (TKey.cs k_0)] (· = .p (eS r)) := by
 unfold address_FormatKey at h0
 refine pbodyA good Tryz.func79 rfl rfl rfl fun w0 => mP (fun v : Bytes => .p (eS v)) ?_
 refine nx 8 rfl (bd h0 fun o16 h1 h0 => ?_)
 refine kN o16 (fun v17 => ⟨[(1, .ptr 1 0), (3, .p (eB v17))], [(1, (TKey.cs k_0).map .p)]⟩) ?_ ?_
 ·refine nx 1 rfl (fB [3] h0 rfl (fun c5 h0 => ?_) fun c5 h0 => ?_)
  ·exact nx 6 rfl (mQ (oi h0) rfl (sr))
  refine nx 8 rfl (fD [12, 15] h0 rfl (fun c6 h0 => ?_) fun c6 h0 => ?_)
  ·refine nx 5 rfl (bd h0 fun r7 e8 h0 => ?_)
   refine oK (number_Format_ok k_0.fNum _ e8) rfl ⟨sr, trivial⟩ Tryz.call101 rfl (oC h0 rfl fun hk9 h0 => ?_)
   exact oC h0 rfl fun hk10 h0 => nx 3 rfl (mQ (oi h0) rfl (sr))
  refine nx 6 rfl (bd h0 fun r11 e12 h0 => ?_)
  refine oK (strlit_Quote_ok _ k_0.fStr _ e12) rfl ⟨sr, trivial⟩ Tryz.call96 rfl (oC h0 rfl fun hk13 h0 => ?_)
  exact oC h0 rfl fun hk14 h0 => nx 3 rfl (mQ (oi h0) rfl (sr))
 refine nx 2 rfl (bd h1 fun r1 e2 h1 => ?_)
 refine oK (address_valid_ok k_0 _ e2) rfl ⟨sr, trivial⟩ Tryz.call99 rfl (nx 2 rfl ?_)
 refine fB [6, 7] h1 rfl (fun c3 h1 => ?_) fun c3 h1 => ?_
 ·exact nx 6 rfl (eX _ (oi h1).symm (gE rfl rfl))
 exact nx 6 rfl (eX _ (oi h1).symm (gE rfl rfl))

def address_Format_l1 (n : Nat) (a_0 : TAddress) : Nat → Int → (List UInt8) → Option (List UInt8)
 | 0, _, _ => none
 | m + 1, t16, f17 =>
 if t16 < (a_0.fModule.length : Int) then
  ck ((0 : Int) ≤ t16 ∧ t16 < (a_0.fModule.length : Int)) <|
  ck (([109, 111, 100, 117, 108, 101, 46] : Bytes).length + ((lat a_0.fModule t16).fName).length ≤ 9223372036854775807) <|
  (address_FormatKey n ((lat a_0.fModule t16).fKey)).bind fun r21 =>
  ck ((([109, 111, 100, 117, 108, 101, 46] : Bytes) ++ ((lat a_0.fModule t16).fName)).length + r21.length ≤ 9223372036854775807) <|
  ck (((([109, 111, 100, 117, 108, 101, 46] : Bytes) ++ ((lat a_0.fModule t16).fName)) ++ r21).length + ([46] : Bytes).length ≤ 9223372036854775807) <|
  (strings_Builder_WriteString (TBuilder.mk f17) (((([109, 111, 100, 117, 108, 101, 46] : Bytes) ++ ((lat a_0.fModule t16).fName)) ++ r21) ++ ([46] : Bytes))).bind fun r25 =>
  ck (inR (t16 + 1)) <|
  address_Format_l1 n a_0 m (t16 + 1) r25.2.2.fbuf
 else
  some f17

def address_Format (n : Nat) (a_0 : TAddress) : Option Bytes :=
 (address_Check n a_0).bind fun r1 =>
 if r1 = 0 then
  (address_Format_l1 n a_0 n 0 []).bind fun f30 =>
  (
    if a_0.fData = true then
     (strings_Builder_WriteString (TBuilder.mk f30) ([100, 97, 116, 97, 46] : Bytes)).bind fun r32 =>
     some r32.2.2.fbuf
    else
     some f30
   : Option (List UInt8)).bind fun f34 =>
  ck (a_0.fType.length + ([46] : Bytes).length ≤ 9223372036854775807) <|
  ck ((a_0.fType ++ ([46] : Bytes)).length + a_0.fName.length ≤ 9223372036854775807) <|
  (address_FormatKey n a_0.fKey).bind fun r37 =>
  ck (((a_0.fType ++ ([46] : Bytes)) ++ a_0.fName).length + r37.length ≤ 9223372036854775807) <|
  (strings_Builder_WriteString (TBuilder.mk f34) (((a_0.fType ++ ([46] : Bytes)) ++ a_0.fName) ++ r37)).bind fun r40 =>
  (strings_Builder_String (TBuilder.mk r40.2.2.fbuf)).bind fun r42 =>
  some r42.1
 else
  some ([] : Bytes)

set_option maxHeartbeats 4000000 in
theorem address_Format_ok (n : Nat) (a_0 : TAddress) (r : Bytes) (h0 : address_Format n a_0 = some r) : PCalls Tryz.prog 51 [.agg (TAddress.cs a_0)] (· = .p (eS r)) := by
 unfold address_Format at h0
 refine pbodyA good Tryz.func51 rfl rfl rfl fun w0 => mP (fun v : Bytes => .p (eS v)) ?_
 refine nx 9 rfl (bd h0 fun r1 e2 h0 => ?_)
 refine oK (address_Check_ok _ a_0 _ e2) rfl ⟨sr, trivial⟩ Tryz.call77 rfl (nx 2 rfl ?_)
 refine fN [8] h0 rfl (fun c3 h0 => ?_) fun c3 h0 => ?_
 ·refine nx 4 rfl (mO rfl (ok_allocB rfl rfl rfl rfl rfl rfl rfl ?_))
  refine nx 6 rfl (oLl (f := eTModuleStep) rfl rfl ?_)
  refine nx 3 rfl (bd h0 fun o46 h1 h0 => ?_)
  refine kE 0 o46 (fun v47 => ⟨[(1, .ptr 1 0), (3, .ptr 3 0)], [(1, (TAddress.cs a_0).map .p), (3, [.bptr 110 2 3, .vec 101000 1 (5 + 1) (v47.map eU)])]⟩) ?_ ?_
  ·refine nx 2 rfl (bd h0 fun o48 h1 h0 => ?_)
   refine kN o48 (fun v49 => ⟨[(1, .ptr 1 0), (3, .ptr 3 0)], [(1, (TAddress.cs a_0).map .p), (3, [.bptr 110 2 3, .vec 103000 1 (5 + 1) (v49.map eU)])]⟩) ?_ ?_
   ·refine nx 2 rfl (cc' h0 fun hk35 h0 => ?_)
    refine cc' h0 fun hk36 h0 => bd h0 fun r37 e38 h0 => cc' h0 fun hk39 h0 => bd h0 fun r40 e41 h0 => mG (gE (t := ⟨[(1, .ptr 1 0), (3, .ptr 3 0)], [(1, (TAddress.cs a_0).map .p), (3, [.bptr 110 2 3, .vec 103000 1 (5 + 1) (o48.map eU)])]⟩) rfl rfl) (mS ⟨1, [10], (by2 (.some (dropV [103000] 104000 104001)) .none), (fun _ => [(1, .ptr 1 0), (3, .ptr 3 0)]), (by2 ([(1, [.p (eL eTModuleStep a_0.fModule), .p (eB a_0.fData), .p (eS a_0.fType), .p (eS a_0.fName), .p (eI a_0.fKey.fKind), .p (eI a_0.fKey.fNum), .p (eS a_0.fKey.fStr)]), (3, [.bptr 110 2 3, .vec 103000 1 (5 + 1) (o48.map eU)])]) ([(3, [.bptr 110 2 3, .vec 104000 1 (5 + 1) (r40.2.2.fbuf.map eU)]), (1, [.p (eL eTModuleStep a_0.fModule), .p (eB a_0.fData), .p (eS a_0.fType), .p (eS a_0.fName), .p (eI a_0.fKey.fKind), .p (eI a_0.fKey.fNum), .p (eS a_0.fKey.fStr)])]))⟩ rfl rfl rfl ⟨rfl, rfl, trivial⟩ (lt1 ⟨rfl, rfl, trivial⟩) rfl rfl rfl rfl ?_)
    refine ds_pure (fun _ => .ptr 1 2) rfl rfl rfl (all2 rfl (fun _ => rfl)) (lt1 rfl) (stg_yes [(1, _)] ⟨.inl rfl, trivial⟩ (fun sl hsl K hK => one_op rfl (ok_fieldAddrP rfl rfl rfl rfl rfl rfl rfl rfl (hsl _ _ rfl) hK)) (stg_yes [(1, _)] ⟨.inl rfl, trivial⟩ (fun sl hsl K hK => one_op rfl (ok_fieldAddrP rfl rfl rfl rfl rfl rfl rfl rfl (hsl _ _ rfl) hK)) stg_nil)) (ds_pure (fun _ => .p (eS a_0.fType)) rfl rfl rfl (all2 rfl (fun _ => rfl)) (lt1 rfl) (stg_yes [(29, _)] ⟨.inr ⟨0, _, rfl, rfl, rfl⟩, trivial⟩ (fun sl hsl K hK => one_op rfl (ok_loadP1 rfl rfl rfl rfl rfl (hsl _ _ rfl) rfl rfl hK)) (stg_yes [(29, _)] ⟨.inr ⟨0, _, rfl, rfl, rfl⟩, trivial⟩ (fun sl hsl K hK => one_op rfl (ok_loadP1 rfl rfl rfl rfl rfl (hsl _ _ rfl) rfl rfl hK)) stg_nil)) ?_)
    refine ds_pure (fun _ => .p (eS (a_0.fType ++ ([46] : Bytes)))) rfl rfl rfl (all2 rfl (fun _ => rfl)) (lt1 rfl) (stg_yes [(30, _)] ⟨.inr ⟨1, _, rfl, rfl, rfl⟩, trivial⟩ (fun sl hsl K hK => one_op rfl (ok_concat rfl rfl rfl (hsl _ _ rfl) rfl hk35 hK)) (stg_yes [(30, _)] ⟨.inr ⟨1, _, rfl, rfl, rfl⟩, trivial⟩ (fun sl hsl K hK => one_op rfl (ok_concat rfl rfl rfl (hsl _ _ rfl) rfl hk35 hK)) stg_nil)) (ds_pure (fun _ => .ptr 1 3) rfl rfl rfl (all2 rfl (fun _ => rfl)) (lt1 rfl) (stg_yes [(1, _)] ⟨.inl rfl, trivial⟩ (fun sl hsl K hK => one_op rfl (ok_fieldAddrP rfl rfl rfl rfl rfl rfl rfl rfl (hsl _ _ rfl) hK)) (stg_yes [(1, _)] ⟨.inl rfl, trivial⟩ (fun sl hsl K hK => one_op rfl (ok_fieldAddrP rfl rfl rfl rfl rfl rfl rfl rfl (hsl _ _ rfl) hK)) stg_nil)) ?_)
    refine ds_pure (fun _ => .p (eS a_0.fName)) rfl rfl rfl (all2 rfl (fun _ => rfl)) (lt1 rfl) (stg_yes [(32, _)] ⟨.inr ⟨3, _, rfl, rfl, rfl⟩, trivial⟩ (fun sl hsl K hK => one_op rfl (ok_loadP1 rfl rfl rfl rfl rfl (hsl _ _ rfl) rfl rfl hK)) (stg_yes [(32, _)] ⟨.inr ⟨3, _, rfl, rfl, rfl⟩, trivial⟩ (fun sl hsl K hK => one_op rfl (ok_loadP1 rfl rfl rfl rfl rfl (hsl _ _ rfl) rfl rfl hK)) stg_nil)) (ds_pure (fun _ => .p (eS ((a_0.fType ++ ([46] : Bytes)) ++ a_0.fName))) rfl rfl rfl (all2 rfl (fun _ => rfl)) (lt1 rfl) (stg_yes [(31, _), (33, _)] ⟨.inr ⟨2, _, rfl, rfl, rfl⟩, .inr ⟨4, _, rfl, rfl, rfl⟩, trivial⟩ (fun sl hsl K hK => one_op rfl (ok_concat rfl rfl rfl (hsl _ _ rfl) (hsl _ _ rfl) hk36 hK)) (stg_yes [(31, _), (33, _)] ⟨.inr ⟨2, _, rfl, rfl, rfl⟩, .inr ⟨4, _, rfl, rfl, rfl⟩, trivial⟩ (fun sl hsl K hK => one_op rfl (ok_concat rfl rfl rfl (hsl _ _ rfl) (hsl _ _ rfl) hk36 hK)) stg_nil)) ?_)
    refine ds_pure (fun _ => .ptr 1 4) rfl rfl rfl (all2 rfl (fun _ => rfl)) (lt1 rfl) (stg_yes [(1, _)] ⟨.inl rfl, trivial⟩ (fun sl hsl K hK => one_op rfl (ok_fieldAddrP rfl rfl rfl rfl rfl rfl rfl rfl (hsl _ _ rfl) hK)) (stg_yes [(1, _)] ⟨.inl rfl, trivial⟩ (fun sl hsl K hK => one_op rfl (ok_fieldAddrP rfl rfl rfl rfl rfl rfl rfl rfl (hsl _ _ rfl) hK)) stg_nil)) (ds_pure (fun _ => .p (.agg (TKey.cs a_0.fKey))) rfl rfl rfl (all2 rfl (fun _ => rfl)) (lt1 rfl) (stg_yes [(35, _)] ⟨.inr ⟨6, _, rfl, rfl, rfl⟩, trivial⟩ (fun sl hsl K hK => one_op rfl (ok_loadPA rfl rfl rfl rfl rfl (hsl _ _ rfl) rfl rfl rfl hK)) (stg_yes [(35, _)] ⟨.inr ⟨6, _, rfl, rfl, rfl⟩, trivial⟩ (fun sl hsl K hK => one_op rfl (ok_loadPA rfl rfl rfl rfl rfl (hsl _ _ rfl) rfl rfl rfl hK)) stg_nil)) ?_)
    refine ds_pure (fun _ => .p (eS r37)) rfl rfl rfl (all2 rfl (fun _ => rfl)) (lt1 rfl) (stg_no rfl (stg_yes [(36, _)] ⟨.inr ⟨7, _, rfl, rfl, rfl⟩, trivial⟩ (fun sl hsl K hK => one_op rfl (ok_callP (address_FormatKey_ok _ a_0.fKey _ e38) rfl rfl rfl (args_cons (hsl _ _ rfl) args_nil) ⟨sr, trivial⟩ Tryz.call79 rfl hK)) stg_nil)) (ds_pure (fun _ => .p (eS (((a_0.fType ++ ([46] : Bytes)) ++ a_0.fName) ++ r37))) rfl rfl rfl (all2 rfl (fun _ => rfl)) (lt1 rfl) (stg_no rfl (stg_yes [(34, _), (37, _)] ⟨.inr ⟨5, _, rfl, rfl, rfl⟩, .inr ⟨8, _, rfl, rfl, rfl⟩, trivial⟩ (fun sl hsl K hK => one_op rfl (ok_concat rfl rfl rfl (hsl _ _ rfl) (hsl _ _ rfl) hk39 hK)) stg_nil)) ?_)
    refine ds_imp (fun _ => .tuple [.p (eI r40.1), .p (eE r40.2.1)]) [(3, _), (38, _)] rfl ⟨.inl rfl, .inr ⟨9, _, rfl, rfl, rfl⟩, trivial⟩ rfl rfl (fun _ => rfl) (lt1 (fun h => absurd h (by decide))) (fun sl hsl K hK => one_op rfl (op_callV [3] [103000] 104000 104001 (strings_Builder_WriteString_ok (TBuilder.mk o48) (((a_0.fType ++ ([46] : Bytes)) ++ a_0.fName) ++ r37) _ e41) rfl rfl rfl (args_cons (hsl _ _ rfl) (args_cons (hsl _ _ rfl) args_nil)) rfl ⟨sr, sr, trivial⟩ rfl rfl ⟨⟨_, rfl, ⟨sr, sr, trivial⟩⟩, trivial⟩ rfl rfl rfl rfl rfl rfl rfl rfl Tryz.call78 rfl rfl hK)) (ds_nil ?_)
    refine nx 3 rfl (bd h0 fun r42 e43 h0 => ?_)
    refine mO rfl (op_callV [3] [104000] 105000 105000 (strings_Builder_String_ok (TBuilder.mk r40.2.2.fbuf) _ e43) rfl rfl rfl rfl rfl ⟨sr, trivial⟩ rfl rfl ⟨⟨_, rfl, ⟨sr, sr, trivial⟩⟩, trivial⟩ rfl rfl rfl rfl rfl rfl rfl rfl Tryz.call80 rfl rfl ?_)
    exact nx 3 rfl (mQ (oi h0) rfl (sr))
   refine nx 5 rfl (fB [27] h1 rfl (fun c31 h1 => ?_) fun c31 h1 => ?_)
   ·refine nx 2 rfl (bd h1 fun r32 e33 h1 => ?_)
    refine mO rfl (op_callV [3] [101000] 103000 103001 (strings_Builder_WriteString_ok (TBuilder.mk o46) ([100, 97, 116, 97, 46] : Bytes) _ e33) rfl rfl rfl rfl rfl ⟨sr, sr, trivial⟩ rfl rfl ⟨⟨_, rfl, ⟨sr, sr, trivial⟩⟩, trivial⟩ rfl rfl rfl rfl rfl rfl rfl rfl Tryz.call78 rfl rfl ?_)
    exact nx 1 rfl (eX _ (oi h1).symm (gE rfl rfl))
   exact nx 2 rfl (eX _ (oi h1).symm (ghost_trans (ghost_ren 101000 103000 rfl rfl rfl rfl rfl) (gE rfl rfl)))
  refine lG (fun (q50 : Int × (List UInt8)) => ⟨[(1, .ptr 1 0), (3, .ptr 3 0), (10, .p (eL eTModuleStep a_0.fModule)), (11, .p (eI (a_0.fModule.length : Int))), (12, .p (eI q50.1))], [(1, (TAddress.cs a_0).map .p), (3, [.bptr 110 2 3, .vec 101000 1 (5 + 1) (q50.2.map eU)])]⟩) (fun m (q50 : Int × (List UInt8)) => address_Format_l1 n a_0 m q50.1 q50.2) (fun _ => rfl) (0, []) h1 (ghost_le (le_mk ⟨er rfl, er rfl, er rfl, er rfl, er rfl, trivial⟩ ⟨⟨_, rfl, ⟨sr, sr, sr, sr, sr, sr, sr, trivial⟩⟩, ⟨_, rfl, ⟨sr, AV.sub_nilvec _ _ _, trivial⟩⟩, trivial⟩)) ?_
  rintro m ⟨t16, f17⟩ h1
  replace h1 : address_Format_l1 n a_0 (m + 1) t16 f17 = some o46 := h1
  rw [address_Format_l1] at h1
  refine nx 5 rfl (fD [13] h1 rfl (fun c18 h1 => ?_) fun c18 h1 => ?_)
  ·refine nx 6 rfl (oE h1 TModuleStep.cells_eq rfl rfl (fun _ => rfl) fun hk19 h1 => ?_)
   refine nx 4 rfl (cc' h1 fun hk20 h1 => ?_)
   refine bd h1 fun r21 e22 h1 => cc' h1 fun hk23 h1 => cc' h1 fun hk24 h1 => bd h1 fun r25 e26 h1 => mG (gE (t := ⟨[(1, .ptr 1 0), (3, .ptr 3 0), (5, .ptr 5 0), (10, .p (eL eTModuleStep a_0.fModule)), (11, .p (eI (a_0.fModule.length : Int))), (12, .p (eI t16))], [(1, (TAddress.cs a_0).map .p), (3, [.bptr 110 2 3, .vec 101000 1 (5 + 1) (f17.map eU)]), (5, (TModuleStep.cs (lat a_0.fModule t16)).map .p)]⟩) rfl rfl) (mS ⟨1, [8], (by2 (.some (dropV [101000] 102000 102001)) .none), (fun _ => [(1, .ptr 1 0), (3, .ptr 3 0), (5, .ptr 5 0), (10, .p (eL eTModuleStep a_0.fModule)), (11, .p (eI (a_0.fModule.length : Int))), (12, .p (eI t16))]), (by2 ([(1, [.p (eL eTModuleStep a_0.fModule), .p (eB a_0.fData), .p (eS a_0.fType), .p (eS a_0.fName), .p (eI a_0.fKey.fKind), .p (eI a_0.fKey.fNum), .p (eS a_0.fKey.fStr)]), (3, [.bptr 110 2 3, .vec 101000 1 (5 + 1) (f17.map eU)]), (5, [.p (eS ((lat a_0.fModule t16).fName)), .p (eI (((lat a_0.fModule t16).fKey).fKind)), .p (eI (((lat a_0.fModule t16).fKey).fNum)), .p (eS (((lat a_0.fModule t16).fKey).fStr))])]) ([(3, [.bptr 110 2 3, .vec 102000 1 (5 + 1) (r25.2.2.fbuf.map eU)]), (1, [.p (eL eTModuleStep a_0.fModule), .p (eB a_0.fData), .p (eS a_0.fType), .p (eS a_0.fName), .p (eI a_0.fKey.fKind), .p (eI a_0.fKey.fNum), .p (eS a_0.fKey.fStr)]), (5, [.p (eS ((lat a_0.fModule t16).fName)), .p (eI (((lat a_0.fModule t16).fKey).fKind)), .p (eI (((lat a_0.fModule t16).fKey).fNum)), .p (eS (((lat a_0.fModule t16).fKey).fStr))])]))⟩ rfl rfl rfl ⟨rfl, rfl, rfl, rfl, rfl, rfl, trivial⟩ (lt1 ⟨rfl, rfl, rfl, rfl, rfl, rfl, trivial⟩) rfl rfl rfl rfl ?_)
   refine ds_pure (fun _ => .ptr 5 0) rfl rfl rfl (all2 rfl (fun _ => rfl)) (lt1 rfl) (stg_yes [(5, _)] ⟨.inl rfl, trivial⟩ (fun sl hsl K hK => one_op rfl (ok_fieldAddrP rfl rfl rfl rfl rfl rfl rfl rfl (hsl _ _ rfl) hK)) (stg_yes [(5, _)] ⟨.inl rfl, trivial⟩ (fun sl hsl K hK => one_op rfl (ok_fieldAddrP rfl rfl rfl rfl rfl rfl rfl rfl (hsl _ _ rfl) hK)) stg_nil)) (ds_pure (fun _ => .p (eS ((lat a_0.fModule t16).fName))) rfl rfl rfl (all2 rfl (fun _ => rfl)) (lt1 rfl) (stg_yes [(16, _)] ⟨.inr ⟨0, _, rfl, rfl, rfl⟩, trivial⟩ (fun sl hsl K hK => one_op rfl (ok_loadP1 rfl rfl rfl rfl rfl (hsl _ _ rfl) rfl rfl hK)) (stg_yes [(16, _)] ⟨.inr ⟨0, _, rfl, rfl, rfl⟩, trivial⟩ (fun sl hsl K hK => one_op rfl (ok_loadP1 rfl rfl rfl rfl rfl (hsl _ _ rfl) rfl rfl hK)) stg_nil)) ?_)
   refine ds_pure (fun _ => .p (eS (([109, 111, 100, 117, 108, 101, 46] : Bytes) ++ ((lat a_0.fModule t16).fName)))) rfl rfl rfl (all2 rfl (fun _ => rfl)) (lt1 rfl) (stg_yes [(17, _)] ⟨.inr ⟨1, _, rfl, rfl, rfl⟩, trivial⟩ (fun sl hsl K hK => one_op rfl (ok_concat rfl rfl rfl rfl (hsl _ _ rfl) hk20 hK)) (stg_yes [(17, _)] ⟨.inr ⟨1, _, rfl, rfl, rfl⟩, trivial⟩ (fun sl hsl K hK => one_op rfl (ok_concat rfl rfl rfl rfl (hsl _ _ rfl) hk20 hK)) stg_nil)) (ds_pure (fun _ => .ptr 5 1) rfl rfl rfl (all2 rfl (fun _ => rfl)) (lt1 rfl) (stg_yes [(5, _)] ⟨.inl rfl, trivial⟩ (fun sl hsl K hK => one_op rfl (ok_fieldAddrP rfl rfl rfl rfl rfl rfl rfl rfl (hsl _ _ rfl) hK)) (stg_yes [(5, _)] ⟨.inl rfl, trivial⟩ (fun sl hsl K hK => one_op rfl (ok_fieldAddrP rfl rfl rfl rfl rfl rfl rfl rfl (hsl _ _ rfl) hK)) stg_nil)) ?_)
   refine ds_pure (fun _ => .p (.agg (TKey.cs ((lat a_0.fModule t16).fKey)))) rfl rfl rfl (all2 rfl (fun _ => rfl)) (lt1 rfl) (stg_yes [(19, _)] ⟨.inr ⟨3, _, rfl, rfl, rfl⟩, trivial⟩ (fun sl hsl K hK => one_op rfl (ok_loadPA rfl rfl rfl rfl rfl (hsl _ _ rfl) rfl rfl rfl hK)) (stg_yes [(19, _)] ⟨.inr ⟨3, _, rfl, rfl, rfl⟩, trivial⟩ (fun sl hsl K hK => one_op rfl (ok_loadPA rfl rfl rfl rfl rfl (hsl _ _ rfl) rfl rfl rfl hK)) stg_nil)) (ds_pure (fun _ => .p (eS r21)) rfl rfl rfl (all2 rfl (fun _ => rfl)) (lt1 rfl) (stg_no rfl (stg_yes [(20, _)] ⟨.inr ⟨4, _, rfl, rfl, rfl⟩, trivial⟩ (fun sl hsl K hK => one_op rfl (ok_callP (address_FormatKey_ok _ ((lat a_0.fModule t16).fKey) _ e22) rfl rfl rfl (args_cons (hsl _ _ rfl) args_nil) ⟨sr, trivial⟩ Tryz.call79 rfl hK)) stg_nil)) ?_)
   refine ds_pure (fun _ => .p (eS ((([109, 111, 100, 117, 108, 101, 46] : Bytes) ++ ((lat a_0.fModule t16).fName)) ++ r21))) rfl rfl rfl (all2 rfl (fun _ => rfl)) (lt1 rfl) (stg_yes [(18, _), (21, _)] ⟨.inr ⟨2, _, rfl, rfl, rfl⟩, .inr ⟨5, _, rfl, rfl, rfl⟩, trivial⟩ (fun sl hsl K hK => one_op rfl (ok_concat rfl rfl rfl (hsl _ _ rfl) (hsl _ _ rfl) hk23 hK)) (stg_yes [(18, _), (21, _)] ⟨.inr ⟨2, _, rfl, rfl, rfl⟩, .inr ⟨5, _, rfl, rfl, rfl⟩, trivial⟩ (fun sl hsl K hK => one_op rfl (ok_concat rfl rfl rfl (hsl _ _ rfl) (hsl _ _ rfl) hk23 hK)) stg_nil)) (ds_pure (fun _ => .p (eS (((([109, 111, 100, 117, 108, 101, 46] : Bytes) ++ ((lat a_0.fModule t16).fName)) ++ r21) ++ ([46] : Bytes)))) rfl rfl rfl (all2 rfl (fun _ => rfl)) (lt1 rfl) (stg_no rfl (stg_yes [(22, _)] ⟨.inr ⟨6, _, rfl, rfl, rfl⟩, trivial⟩ (fun sl hsl K hK => one_op rfl (ok_concat rfl rfl rfl (hsl _ _ rfl) rfl hk24 hK)) stg_nil)) ?_)
   refine ds_imp (fun _ => .tuple [.p (eI r25.1), .p (eE r25.2.1)]) [(3, _), (23, _)] rfl ⟨.inl rfl, .inr ⟨7, _, rfl, rfl, rfl⟩, trivial⟩ rfl rfl (fun _ => rfl) (lt1 (fun h => absurd h (by decide))) (fun sl hsl K hK => one_op rfl (op_callV [3] [101000] 102000 102001 (strings_Builder_WriteString_ok (TBuilder.mk f17) (((([109, 111, 100, 117, 108, 101, 46] : Bytes) ++ ((lat a_0.fModule t16).fName)) ++ r21) ++ ([46] : Bytes)) _ e26) rfl rfl rfl (args_cons (hsl _ _ rfl) (args_cons (hsl _ _ rfl) args_nil)) rfl ⟨sr, sr, trivial⟩ rfl rfl ⟨⟨_, rfl, ⟨sr, sr, trivial⟩⟩, trivial⟩ rfl rfl rfl rfl rfl rfl rfl rfl Tryz.call78 rfl rfl hK)) (ds_nil ?_)
   refine nx 2 rfl (oA h1 rfl rfl fun hk27 h1 => ?_)
   exact nx 2 rfl (eX (t16 + 1, r25.2.2.fbuf) h1 (ghost_trans (ghost_ren 102000 101000 rfl rfl rfl rfl rfl) (gE rfl rfl)))
  exact nx 2 rfl (eXi _ (oi h1).symm (gE rfl rfl))
 exact nx 6 rfl (mQ (oi h0) rfl (sr))

def address_static_l1 : Nat → Option Unit
 | 0 => none
 | m + 1 =>
 if 0 < (([] : List TModuleStep).length : Int) then
  ck ((0 : Int) ≤ 0 ∧ 0 < (([] : List TModuleStep).length : Int)) <|
  none
 else
  some ()

def address_static_l2 (a_0 : TAddress) : Nat → Int → (List TModuleStep) → Option (List TModuleStep)
 | 0, _, _ => none
 | m + 1, t10, l11 =>
 if t10 < (a_0.fModule.length : Int) then
  ck ((0 : Int) ≤ t10 ∧ t10 < (l11.length : Int)) <|
  ck (inR (t10 + 1)) <|
  address_static_l2 a_0 m (t10 + 1) (l11.set t10.toNat (TModuleStep.mk ((lat l11 t10).fName) (TKey.mk 0 0 ([] : Bytes))))
 else
  some l11

def address_static (n : Nat) (a_0 : TAddress) : Option TAddress :=
 if a_0.fModule.isEmpty = true then
  (address_static_l1 n ).bind fun q18 =>
  some (TAddress.mk ([] : List TModuleStep) a_0.fData a_0.fType a_0.fName (TKey.mk 0 0 ([] : Bytes)))
 else
  ck (a_0.fModule.length * 48 ≤ 140737488355328) <|
  (address_static_l2 a_0 n 0 a_0.fModule).bind fun l17 =>
  some (TAddress.mk l17 a_0.fData a_0.fType a_0.fName (TKey.mk 0 0 ([] : Bytes)))

set_option maxHeartbeats 4000000 in
theorem address_static_ok (n : Nat) (a_0 : TAddress) (r : TAddress) (h0 : address_static n a_0 = some r) : PCalls Tryz.prog 52 [.agg (TAddress.cs a_0)] (· = .p (.agg (TAddress.cs r))) := by
 unfold address_static at h0
 refine pbodyA good Tryz.func52 rfl rfl rfl fun w0 => mP (fun v : TAddress => .p (.agg (TAddress.cs v))) ?_
 refine nx 21 rfl (any_byB (b := a_0.fModule.isEmpty) (fun c1 => ?_) (fun c1 => ?_))
 ·replace h0 := if_t c1 h0
  refine mO rfl (ok_callP (slices_Clone_api_ModuleStep_api_ModuleStep_nil a_0.fModule c1) rfl rfl rfl rfl ⟨sr, trivial⟩ Tryz.call81 rfl ?_)
  refine nx 8 rfl (oLl (f := eTModuleStep) rfl rfl ?_)
  refine nx 3 rfl (bd h0 fun o20 h1 h0 => ?_)
  refine kE 0 o20 (fun v21 => ⟨[(2, .ptr 2 0), (3, .ptr 3 0)], [(2, [.p (.val (.slice none 0 0)), .p (eB false), .p (eS ([] : Bytes)), .p (eS ([] : Bytes)), .p (eI 0), .p (eI 0), .p (eS ([] : Bytes))]), (3, [.p (eL eTModuleStep ([] : List TModuleStep)), .p (eB a_0.fData), .p (eS a_0.fType), .p (eS a_0.fName), .p (eI 0), .p (eI 0), .p (eS ([] : Bytes))])]⟩) ?_ ?_
  ·exact nx 7 rfl (mQ (oi h0) rfl (sr))
  refine lG (fun (q22 : Unit) => ⟨[(2, .ptr 2 0), (3, .ptr 3 0), (14, .p (eI (([] : List TModuleStep).length : Int))), (15, .p (eI 0))], [(2, [.p (.val (.slice none 0 0)), .p (eB false), .p (eS ([] : Bytes)), .p (eS ([] : Bytes)), .p (eI 0), .p (eI 0), .p (eS ([] : Bytes))]), (3, [.p (eL eTModuleStep ([] : List TModuleStep)), .p (eB a_0.fData), .p (eS a_0.fType), .p (eS a_0.fName), .p (eI 0), .p (eI 0), .p (eS ([] : Bytes))])]⟩) (fun m (q22 : Unit) => address_static_l1 m ) (fun _ => rfl) () h1 (gE rfl rfl) ?_
  rintro m _ h1
  replace h1 : address_static_l1 (m + 1)  = some o20 := h1
  rw [address_static_l1] at h1
  refine nx 5 rfl (fD [16] h1 rfl (fun c3 h1 => ?_) fun c3 h1 => ?_)
  ·refine nx 14 rfl (oE h1 TModuleStep.cells_eq rfl rfl (fun _ => rfl) fun hk4 h1 => ?_)
   refine nx 1 rfl ?_
   cases h1
  exact nx 2 rfl (eXi _ (oi h1).symm (gE rfl rfl))
 replace h0 := if_bf c1 h0
 refine cc' h0 fun hk2 h0 => mO rfl (op_callV [] [] 101000 101001 (slices_Clone_api_ModuleStep_api_ModuleStep_row a_0.fModule c1 hk2) rfl rfl rfl rfl rfl ⟨sr, trivial⟩ rfl rfl trivial rfl rfl rfl rfl rfl rfl rfl rfl Tryz.call81 rfl (mapO_cons rfl (mapA_go_p _) rfl) ?_)
 refine nx 12 rfl (bd h0 fun o23 h1 h0 => ?_)
 refine kE 0 o23 (fun v24 => ⟨[(2, .ptr 2 0), (3, .ptr 3 0)], [(2, [.p (.val (.slice none 0 0)), .p (eB false), .p (eS ([] : Bytes)), .p (eS ([] : Bytes)), .p (eI 0), .p (eI 0), .p (eS ([] : Bytes))]), (3, [.arr 101000 4 0 v24.length, .p (eB a_0.fData), .p (eS a_0.fType), .p (eS a_0.fName), .p (eI 0), .p (eI 0), .p (eS ([] : Bytes))]), (101000, rowC eTModuleStep v24)]⟩) ?_ ?_
 ·refine nx 3 rfl (mG (ghost_freezeA (sl' := [(2, .ptr 2 0), (3, .ptr 3 0)]) (ob' := [(2, [.p (.val (.slice none 0 0)), .p (eB false), .p (eS ([] : Bytes)), .p (eS ([] : Bytes)), .p (eI 0), .p (eI 0), .p (eS ([] : Bytes))]), (3, [.p (eL eTModuleStep o23), .p (eB a_0.fData), .p (eS a_0.fType), .p (eS a_0.fName), .p (eI 0), .p (eI 0), .p (eS ([] : Bytes))])]) 101000 4 eTModuleStep o23 rfl rfl rfl (fun x => ⟨congrArg List.length (TModuleStep.cells_eq x), by rw [TModuleStep.cells_eq]; rfl⟩) ⟨⟨_, rfl, .inl rfl⟩, ⟨_, rfl, .inl rfl⟩, trivial⟩ ⟨⟨rfl, _, rfl, ⟨.inl rfl, .inl rfl, .inl rfl, .inl rfl, .inl rfl, .inl rfl, .inl rfl, trivial⟩⟩, ⟨rfl, _, rfl, ⟨.inr ⟨(by simp), rfl⟩, .inl rfl, .inl rfl, .inl rfl, .inl rfl, .inl rfl, .inl rfl, trivial⟩⟩, trivial⟩) ?_)
  exact nx 4 rfl (mQ (oi h0) rfl (sr))
 refine lG (fun (q25 : Int × (List TModuleStep)) => ⟨[(2, .ptr 2 0), (3, .ptr 3 0), (14, .p (eI (a_0.fModule.length : Int))), (15, .p (eI q25.1))], [(2, [.p (.val (.slice none 0 0)), .p (eB false), .p (eS ([] : Bytes)), .p (eS ([] : Bytes)), .p (eI 0), .p (eI 0), .p (eS ([] : Bytes))]), (3, [.arr 101000 4 0 q25.2.length, .p (eB a_0.fData), .p (eS a_0.fType), .p (eS a_0.fName), .p (eI 0), .p (eI 0), .p (eS ([] : Bytes))]), (101000, rowC eTModuleStep q25.2)]⟩) (fun m (q25 : Int × (List TModuleStep)) => address_static_l2 a_0 m q25.1 q25.2) (fun _ => rfl) (0, a_0.fModule) h1 (ghost_le (le_mk ⟨er rfl, er rfl, er rfl, er rfl, trivial⟩ ⟨⟨_, rfl, ⟨sr, sr, sr, sr, sr, sr, sr, trivial⟩⟩, ⟨_, rfl, ⟨AV.sub_of_eq (congrArg (AV.arr 101000 4 0) (by simp)), sr, sr, sr, sr, sr, sr, trivial⟩⟩, ⟨_, rfl, subL_refl _⟩, trivial⟩)) ?_
 rintro m ⟨t10, l11⟩ h1
 replace h1 : address_static_l2 a_0 (m + 1) t10 l11 = some o23 := h1
 rw [address_static_l2] at h1
 refine nx 5 rfl (fD [16] h1 rfl (fun c12 h1 => ?_) fun c12 h1 => ?_)
 ·refine nx 14 rfl (cc' h1 fun hk13 h1 => ?_)
  refine mO rfl (ok_indexAddrA rfl rfl rfl rfl rfl rfl rfl rfl rfl hk13 ?_)
  refine nx 1 rfl (mO rfl (op_storeField eTModuleStep TModuleStep.cs l11 (TModuleStep.mk ((lat l11 t10).fName) (TKey.mk 0 0 ([] : Bytes))) [eI 0, eI 0, eS ([] : Bytes)] rfl rfl rfl rfl rfl rfl rfl rfl rfl rfl hk13 TModuleStep.cells_eq (fun _ => rfl) rfl ?_))
  refine nx 2 rfl (oA h1 rfl rfl fun hk14 h1 => ?_)
  exact nx 2 rfl (eX (t10 + 1, l11.set t10.toNat (TModuleStep.mk ((lat l11 t10).fName) (TKey.mk 0 0 ([] : Bytes)))) h1 (ghost_le (le_mk ⟨er rfl, er rfl, er rfl, er rfl, trivial⟩ ⟨⟨_, rfl, ⟨sr, sr, sr, sr, sr, sr, sr, trivial⟩⟩, ⟨_, rfl, ⟨AV.sub_of_eq (congrArg (AV.arr 101000 4 0) (by simp)), sr, sr, sr, sr, sr, sr, trivial⟩⟩, ⟨_, rfl, subL_refl _⟩, trivial⟩)))
 exact nx 2 rfl (eXi _ (oi h1).symm (ghost_le (le_mk ⟨er rfl, er rfl, trivial⟩ ⟨⟨_, rfl, ⟨sr, sr, sr, sr, sr, sr, sr, trivial⟩⟩, ⟨_, rfl, ⟨AV.sub_of_eq (congrArg (AV.arr 101000 4 0) (by simp)), sr, sr, sr, sr, sr, sr, trivial⟩⟩, ⟨_, rfl, subL_refl _⟩, trivial⟩)))

def address_Static (n : Nat) (s_0 : Bytes) : Option (Bytes × Int) :=
 (address_Parse n s_0).bind fun r1 =>
 if r1.2 = 0 then
  (address_static n r1.1).bind fun r4 =>
  (address_Format n r4).bind fun r6 =>
  some (r6, 0)
 else
  some (([] : Bytes), r1.2)

set_option maxHeartbeats 4000000 in
theorem address_Static_ok (n : Nat) (s_0 : Bytes) (r : Bytes × Int) (h0 : address_Static n s_0 = some r) : PCalls Tryz.prog 32 [eS s_0] (· = .tuple [.p (eS r.1), .p (eI r.2)]) := by
 unfold address_Static at h0
 refine pbodyA good Tryz.func32 rfl rfl rfl fun w0 => mP (fun v : Bytes × Int => .tuple [.p (eS v.1), .p (eI v.2)]) ?_
 refine nx 8 rfl (bd h0 fun r1 e2 h0 => ?_)
 refine oK (address_Parse_ok _ s_0 _ e2) rfl ⟨sr, trivial⟩ Tryz.call50 rfl (nx 13 rfl ?_)
 refine fN [12] h0 rfl (fun c3 h0 => ?_) fun c3 h0 => ?_
 ·refine nx 5 rfl (bd h0 fun r4 e5 h0 => ?_)
  refine oK (address_static_ok _ r1.1 _ e5) rfl ⟨sr, trivial⟩ Tryz.call52 rfl (bd h0 fun r6 e7 h0 => ?_)
  refine oK (address_Format_ok _ r4 _ e7) rfl ⟨sr, trivial⟩ Tryz.call51 rfl (nx 4 rfl ?_)
  exact mQ (oi h0) rfl (sub_tuple ⟨sr, sr, trivial⟩)
 exact nx 8 rfl (mQ (oi h0) rfl (sub_tuple ⟨sr, sr, trivial⟩))

end Go.Ab.R06
