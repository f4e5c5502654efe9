/- Texts of the proof, one behind the other. No statement is proved here. -/
import Derived.Test.YthnafgjbhlpfgaaGreatDoorZ08a
import Derived.Test.YthnafgjbhlpfgaaGreatDoorZ08b
import Derived.Test.YthnafgjbhlpfgaaGreatDoorZ08c
set_option maxHeartbeats 4000000
section
namespace Go.Ab.R06
open Go.Proofs Go.Ab Go.Ab.RB
attribute [local irreducible] awp eQ aU au bH AV.sub M cC
def di (s_0:Bytes):Nat→Int→Option (Unit⊕Bool)
 | 0,_=>none
 | m+1,i9 =>
 if i9 < (s_0.length:Int) then
  (
    ck ((0:Int)≤i9∧i9 < (s_0.length:Int)) <|
    if byt s_0 i9 < 48 then
     some true
    else
     ck ((0:Int)≤i9∧i9 < (s_0.length:Int)) <|
     some (decide (57 < byt s_0 i9))
   : Option Bool).bind λ t14 =>
  if t14=true then
   some (.inr false)
  else
   ck (inR (i9+1)) <|
   di s_0 m (i9+1)
 else
  some (.inl ())
def hQ (n:Nat)(s_0:Bytes):Option Bool :=
 jn (di s_0 n 0) λ _q22 =>
 (
   if s_0=([48]:Bytes) then
    some true
   else
    if s_0=([]:Bytes) then
     some false
    else
     ck ((0:Int)≤0∧0 < (s_0.length:Int)) <|
     some (!decide (byt s_0 0=48))
  : Option Bool).bind λ t21 =>
 some t21
theorem o0 (n:Nat)(s_0:Bytes)(r:Bool)(h0:hQ n s_0=some r):au Tryz.prog 97 [eS s_0] (·=.p (eB r)):=by
 unfold hQ at h0
 refine aH good Tryz.func97 rfl rfl rfl λ w0=>mP (λ v:Bool=>.p (eB v)) ?_
 refine nx 10 rfl ?_
 obtain ⟨o25,h1,hL0,hR0⟩:=cn h0
 refine kEx 0 (λ v26:Unit=>o25=.inl v26) (λ v26=>⟨[(0,.p (eS s_0))],[]⟩) (λ v26 hv=>?_) ?_
 ·have h0:=hL0 _ hv
  refine nx 2 rfl (bd h0 λ o27 h1 h0=>?_)
  refine kN o27 (λ v28=>⟨[(2,.p (eB v28))],[]⟩) ?_ ?_
  ·exact nx 2 rfl (mQ (oi h0) rfl (sr))
  refine nx 2 rfl (oS rfl rfl ?_)
  refine nx 1 rfl (fD [21,22] h1 rfl (λ c18 h1=>?_) λ c18 h1=>?_)
  ·exact nx 10 rfl (eX _ (oi h1).symm (gE rfl rfl))
  refine nx 1 rfl (oS rfl rfl ?_)
  refine nx 1 rfl (fN [24,25] h1 rfl (λ c19 h1=>?_) λ c19 h1=>?_)
  ·exact nx 7 rfl (eX _ (oi h1).symm (gE rfl rfl))
  refine nx 1 rfl (oI h1 rfl λ hk20 h1=>?_)
  exact nx 5 rfl (eX _ (oi h1).symm (gE rfl rfl))
 refine lG (λ (q29:Int)=>⟨[(0,.p (eS s_0)),(3,.p (eI q29))],[]⟩) (λ m (q29:Int)=>di s_0 m q29) (λ _=>rfl) 0 h1 (gE rfl rfl) ?_
 rintro m i9 h1
 replace h1:di s_0 (m+1) i9=some o25:=h1
 rw [di] at h1
 refine nx 5 rfl (oLs rfl ?_)
 refine nx 2 rfl (fD [7] h1 rfl (λ c10 h1=>?_) λ c10 h1=>?_)
 ·refine nx 5 rfl (bd h1 λ o30 h2 h1=>?_)
  refine kN o30 (λ v31=>⟨[(0,.p (eS s_0)),(3,.p (eI i9)),(19,.p (eB v31))],[]⟩) ?_ ?_
  ·refine nx 1 rfl (fB [19] h1 rfl (λ c15 h1=>?_) λ c15 h1=>?_)
   ·exact nx 6 rfl (mQ (hR0 _ (oi h1).symm) rfl (sr))
   refine nx 4 rfl (oA h1 rfl rfl λ hk16 h1=>?_)
   exact nx 2 rfl (eX (i9+1) h1 (gE rfl rfl))
  refine nx 3 rfl (oI h2 rfl λ hk11 h2=>?_)
  refine nx 2 rfl (fD [13,14] h2 rfl (λ c12 h2=>?_) λ c12 h2=>?_)
  ·exact nx 6 rfl (eX _ (oi h2).symm (gE rfl rfl))
  refine nx 2 rfl (oI h2 rfl λ hk13 h2=>?_)
  exact nx 3 rfl (eX _ (oi h2).symm (gE rfl rfl))
 exact nx 2 rfl (eXi _ (oi h1).symm (gE rfl rfl))
def gv (n_0:Int):Option Bool :=
 (
   if (-9007199254740992)≤n_0 then
    some (decide (n_0≤9007199254740992))
   else
    some false
  : Option Bool).bind λ t2 =>
 some t2
theorem lq (n_0:Int)(r:Bool)(h0:gv n_0=some r):au Tryz.prog 98 [eI n_0] (·=.p (eB r)):=by
 unfold gv at h0
 refine aH good Tryz.func98 rfl rfl rfl λ w0=>mP (λ v:Bool=>.p (eB v)) ?_
 refine nx 5 rfl (bd h0 λ o4 h1 h0=>?_)
 refine kN o4 (λ v5=>⟨[(2,.p (eB v5))],[]⟩) ?_ ?_
 ·exact nx 2 rfl (mQ (oi h0) rfl (sr))
 refine nx 4 rfl (fD [4,5] h1 rfl (λ c1 h1=>?_) λ c1 h1=>?_)
 ·exact nx 5 rfl (eX _ (oi h1).symm (gE rfl rfl))
 exact nx 5 rfl (eX _ (oi h1).symm (gE rfl rfl))
def dG (t6:Bytes):Nat→Int→Int→Option Int
 | 0,_,_=>none
 | m+1,n22,i23 =>
 if i23 < (t6.length:Int) then
  ck (inR (10*n22)) <|
  ck ((0:Int)≤i23∧i23 < (t6.length:Int)) <|
  ck (inR (IntKind.wrap .u8 ((byt t6 i23) - 48))) <|
  ck (inR ((10*n22)+(IntKind.wrap .u8 ((byt t6 i23) - 48)))) <|
  ck (inR (i23+1)) <|
  dG t6 m ((10*n22)+(IntKind.wrap .u8 ((byt t6 i23) - 48))) (i23+1)
 else
  some n22
def iN (n:Nat)(s_0:Bytes):Option (Int×Int) :=
 (
   if 0 < (s_0.length:Int) then
    ck ((0:Int)≤0∧0 < (s_0.length:Int)) <|
    some (decide (byt s_0 0=45))
   else
    some false
  : Option Bool).bind λ minus3 =>
 (
   if minus3=true then
    ck ((0:Int)≤1∧1≤(s_0.length:Int)∧(s_0.length:Int)≤(s_0.length:Int)) <|
    some (sub s_0 1 (s_0.length:Int))
   else
    some s_0
  : Option Bytes).bind λ t6 =>
 (
   (hQ n t6).bind λ r7 =>
   if (!r7)=true then
    some true
   else
    if minus3=true then
     some (decide (t6=([48]:Bytes)))
    else
     some false
  : Option Bool).bind λ t11 =>
 if t11=true then
  some (0,2)
 else
  if 16 < (t6.length:Int) then
   some (0,5)
  else
   (dG t6 n 0 0).bind λ n32 =>
   (
     if minus3=true then
      ck (inR (0 - n32)) <|
      some (0 - n32)
     else
      some n32
    : Option Int).bind λ n35 =>
   (gv n35).bind λ r36 =>
   if (!r36)=true then
    some (0,5)
   else
    some (n35,0)
theorem pE (n:Nat)(s_0:Bytes)(r:Int×Int)(h0:iN n s_0=some r):au Tryz.prog 68 [eS s_0] (·=.tuple [.p (eI r.1),.p (eI r.2)]):=by
 unfold iN at h0
 refine aH good Tryz.func68 rfl rfl rfl λ w0=>mP (λ v:Int×Int=>.tuple [.p (eI v.1),.p (eI v.2)]) ?_
 refine nx 6 rfl (bd h0 λ o44 h1 h0=>?_)
 refine kN o44 (λ v45=>⟨[(0,.p (eS s_0)),(4,.p (eB v45))],[]⟩) ?_ ?_
 ·refine nx 7 rfl (bd h0 λ o46 h1 h0=>?_)
  refine kN o46 (λ v47=>⟨[(4,.p (eB o44)),(5,.p (eS v47))],[]⟩) ?_ ?_
  ·refine nx 3 rfl (bd h0 λ o48 h1 h0=>?_)
   refine kN o48 (λ v49=>⟨[(4,.p (eB o44)),(5,.p (eS o46)),(29,.p (eB v49))],[]⟩) ?_ ?_
   ·refine nx 1 rfl (fB [29] h0 rfl (λ c12 h0=>?_) λ c12 h0=>?_)
    ·exact nx 7 rfl (mQ (oi h0) rfl (am ⟨sr,sr,trivial⟩))
    refine nx 6 rfl (oLs rfl ?_)
    refine nx 2 rfl (fD [32] h0 rfl (λ c13 h0=>?_) λ c13 h0=>?_)
    ·exact nx 7 rfl (mQ (oi h0) rfl (am ⟨sr,sr,trivial⟩))
    refine nx 12 rfl (bd h0 λ o50 h1 h0=>?_)
    refine kE 0 o50 (λ v51=>⟨[(4,.p (eB o44)),(6,.p (eI v51))],[]⟩) ?_ ?_
    ·refine nx 2 rfl (bd h0 λ o52 h1 h0=>?_)
     refine kN o52 (λ v53=>⟨[(6,.p (eI v53))],[]⟩) ?_ ?_
     ·refine nx 5 rfl (bd h0 λ r36 e37 h0=>?_)
      refine oK (lq o52 _ e37) rfl ⟨sr,trivial⟩ Tryz.call98 rfl (nx 2 rfl ?_)
      refine fB [52] h0 rfl (λ c38 h0=>?_) λ c38 h0=>?_
      ·exact nx 7 rfl (mQ (oi h0) rfl (am ⟨sr,sr,trivial⟩))
      exact nx 9 rfl (mQ (oi h0) rfl (am ⟨sr,sr,trivial⟩))
     refine nx 4 rfl (fB [4,47] h1 rfl (λ c33 h1=>?_) λ c33 h1=>?_)
     ·refine nx 3 rfl (cc' h1 λ hk34 h1=>?_)
      refine mO rfl (tN rfl rfl rfl rfl hk34 ?_)
      exact nx 2 rfl (eX _ (oi h1).symm (gE rfl rfl))
     exact nx 2 rfl (eX _ (oi h1).symm (gE rfl rfl))
    refine lG (λ (q54:Int×Int)=>⟨[(4,.p (eB o44)),(5,.p (eS o46)),(6,.p (eI q54.1)),(7,.p (eI q54.2))],[]⟩) (λ m (q54:Int×Int)=>dG o46 m q54.1 q54.2) (λ _=>rfl) (0,0) h1 (gE rfl rfl) ?_
    rintro m ⟨n22,i23⟩ h1
    replace h1:dG o46 (m+1) n22 i23=some o50:=h1
    rw [dG] at h1
    refine nx 5 rfl (oLs rfl ?_)
    refine nx 2 rfl (fD [36] h1 rfl (λ c24 h1=>?_) λ c24 h1=>?_)
    ·refine nx 6 rfl (oA h1 rfl rfl λ hk25 h1=>?_)
     refine nx 2 rfl (oI h1 rfl λ hk26 h1=>?_)
     refine nx 1 rfl (cc' h1 λ hk27 h1=>?_)
     refine mO rfl (cy rfl rfl rfl rfl rfl rfl rfl rfl (ey hk27) ?_)
     refine oA h1 rfl rfl λ hk28 h1=>nx 4 rfl (oA h1 rfl rfl λ hk29 h1=>?_)
     exact nx 2 rfl (eX ((10*n22)+(IntKind.wrap .u8 ((byt o46 i23) - 48)),i23+1) h1 (gE rfl rfl))
    exact nx 2 rfl (eXi _ (oi h1).symm (gE rfl rfl))
   refine nx 2 rfl (bd h1 λ r7 e8 h1=>?_)
   refine oK (o0 _ o46 _ e8) rfl ⟨sr,trivial⟩ Tryz.call97 rfl (nx 2 rfl ?_)
   refine fB [22,23] h1 rfl (λ c9 h1=>?_) λ c9 h1=>?_
   ·exact nx 7 rfl (eX _ (oi h1).symm (gE rfl rfl))
   refine nx 2 rfl (fB [4,24,25] h1 rfl (λ c10 h1=>?_) λ c10 h1=>?_)
   ·refine nx 1 rfl (oS rfl rfl ?_)
    exact nx 3 rfl (eX _ (oi h1).symm (cj (gX ⟨⟨_,rfl,j3 c10.symm⟩,er rfl,er rfl,trivial⟩ trivial)))
   exact nx 5 rfl (eX _ (oi h1).symm (cj (gX ⟨⟨_,rfl,j3 c10.symm⟩,er rfl,er rfl,trivial⟩ trivial)))
  refine nx 4 rfl (fB [4,17] h1 rfl (λ c4 h1=>?_) λ c4 h1=>?_)
  ·refine nx 3 rfl (oP h1 rfl rfl rfl λ hk5 h1=>?_)
   exact nx 2 rfl (eX _ (oi h1).symm (cj (gX ⟨⟨_,rfl,j3 c4.symm⟩,er rfl,trivial⟩ trivial)))
  exact nx 2 rfl (eX _ (oi h1).symm (cj (gX ⟨⟨_,rfl,j3 c4.symm⟩,er rfl,trivial⟩ trivial)))
 refine nx 2 rfl (oLs rfl ?_)
 refine nx 2 rfl (fD [10,11] h1 rfl (λ c1 h1=>?_) λ c1 h1=>?_)
 ·refine nx 1 rfl (oI h1 rfl λ hk2 h1=>?_)
  exact nx 4 rfl (eX _ (oi h1).symm (gE rfl rfl))
 exact nx 6 rfl (eX _ (oi h1).symm (gE rfl rfl))
def cH:Nat→Int→Option Bytes
 | 0,_=>none
 | n+1,n_0 =>
 (
   if 0≤n_0 then
    some (decide (n_0≤9))
   else
    some false
  : Option Bool).bind λ t2 =>
 if t2=true then
  ck (inR (48+n_0)) <|
  ck ((0:Int)≤IntKind.wrap .u8 (48+n_0)∧IntKind.wrap .u8 (48+n_0) < 256) <|
  some [u8 (IntKind.wrap .u8 (48+n_0))]
 else
  (
    if n_0 < 0 then
     some (decide ((-10) < n_0))
    else
     some false
   : Option Bool).bind λ t7 =>
  if t7=true then
   ck (inR (0 - n_0)) <|
   ((cH n) (0 - n_0)).bind λ r10 =>
   ck (([45]:Bytes).length+r10.length≤9223372036854775807) <|
   some (([45]:Bytes)++r10)
  else
   if n_0 < 0 then
    ck ((10:Int)≠0) <|
    ((cH n) (IntKind.wrap .i64 (n_0.tdiv 10))).bind λ r15 =>
    ck ((10:Int)≠0) <|
    ck (inR (0 - (n_0.tmod 10))) <|
    ((cH n) (0 - (n_0.tmod 10))).bind λ r19 =>
    ck (r15.length+r19.length≤9223372036854775807) <|
    some (r15++r19)
   else
    ck ((10:Int)≠0) <|
    ((cH n) (IntKind.wrap .i64 (n_0.tdiv 10))).bind λ r23 =>
    ck ((10:Int)≠0) <|
    ((cH n) (n_0.tmod 10)).bind λ r26 =>
    ck (r23.length+r26.length≤9223372036854775807) <|
    some (r23++r26)
theorem pp (n:Nat):∀ (n_0:Int) (r:Bytes),cH n n_0=some r→au Tryz.prog 54 [eI n_0] (·=.p (eS r)):=by
 induction n with
 | zero=>intro n_0 r h0; cases h0
 | succ n ih =>
 have ih_ref01_Format_ok:=ih
 intro n_0 r h0
 rw [cH] at h0
 refine aH good Tryz.func54 rfl rfl rfl λ w0=>mP (λ v:Bytes=>.p (eS v)) ?_
 refine nx 6 rfl (bd h0 λ o31 h1 h0=>?_)
 refine kN o31 (λ v32=>⟨[(0,.p (eI n_0)),(8,.p (eB v32))],[]⟩) ?_ ?_
 ·refine nx 1 rfl (fB [8] h0 rfl (λ c3 h0=>?_) λ c3 h0=>?_)
  ·refine nx 4 rfl (oA h0 rfl rfl λ hk4 h0=>?_)
   refine nx 1 rfl (cc' h0 λ hk5 h0=>?_)
   refine mO rfl (aV eU [u8 (IntKind.wrap .u8 (48+n_0))] rfl rfl rfl rfl rfl rfl rfl rfl rfl rfl rfl rfl rfl (congr (congrArg List.cons (fh hk5)) rfl) ?_)
   refine mO rfl (jg [u8 (IntKind.wrap .u8 (48+n_0))] rfl rfl rfl rfl rfl rfl rfl rfl rfl rfl rfl ?_)
   exact nx 3 rfl (mQ (oi h0) rfl (sr))
  refine nx 4 rfl (bd h0 λ o33 h1 h0=>?_)
  refine kN o33 (λ v34=>⟨[(0,.p (eI n_0)),(19,.p (eB v34))],[]⟩) ?_ ?_
  ·refine nx 1 rfl (fB [19] h0 rfl (λ c8 h0=>?_) λ c8 h0=>?_)
   ·refine nx 4 rfl (cc' h0 λ hk9 h0=>?_)
    refine mO rfl (tN rfl rfl rfl rfl hk9 ?_)
    refine bd h0 λ r10 e11 h0=>oK (ih_ref01_Format_ok (0 - n_0) _ e11) rfl ⟨sr,trivial⟩ Tryz.call54 rfl (oC h0 rfl λ hk12 h0=>?_)
    exact nx 3 rfl (mQ (oi h0) rfl (sr))
   refine nx 8 rfl (fD [25] h0 rfl (λ c13 h0=>?_) λ c13 h0=>?_)
   ·refine nx 4 rfl (cc' h0 λ hk14 h0=>?_)
    refine mO rfl (qA rfl rfl rfl rfl rfl rfl hk14 ?_)
    refine bd h0 λ r15 e16 h0=>oK (ih_ref01_Format_ok (IntKind.wrap .i64 (n_0.tdiv 10)) _ e16) rfl ⟨sr,trivial⟩ Tryz.call54 rfl (nx 1 rfl ?_)
    refine cc' h0 λ hk17 h0=>mO rfl (qA rfl rfl rfl rfl rfl rfl hk17 ?_)
    refine cc' h0 λ hk18 h0=>mO rfl (tN rfl rfl rfl rfl hk18 ?_)
    refine bd h0 λ r19 e20 h0=>oK (ih_ref01_Format_ok (0 - (n_0.tmod 10)) _ e20) rfl ⟨sr,trivial⟩ Tryz.call54 rfl (oC h0 rfl λ hk21 h0=>?_)
    exact nx 3 rfl (mQ (oi h0) rfl (sr))
   refine nx 5 rfl (cc' h0 λ hk22 h0=>?_)
   refine mO rfl (qA rfl rfl rfl rfl rfl rfl hk22 ?_)
   refine bd h0 λ r23 e24 h0=>oK (ih_ref01_Format_ok (IntKind.wrap .i64 (n_0.tdiv 10)) _ e24) rfl ⟨sr,trivial⟩ Tryz.call54 rfl (nx 1 rfl ?_)
   refine cc' h0 λ hk25 h0=>mO rfl (qA rfl rfl rfl rfl rfl rfl hk25 ?_)
   refine bd h0 λ r26 e27 h0=>oK (ih_ref01_Format_ok (n_0.tmod 10) _ e27) rfl ⟨sr,trivial⟩ Tryz.call54 rfl (oC h0 rfl λ hk28 h0=>?_)
   exact nx 3 rfl (mQ (oi h0) rfl (sr))
  refine nx 4 rfl (fD [15,16] h1 rfl (λ c6 h1=>?_) λ c6 h1=>?_)
  ·exact nx 4 rfl (eX _ (oi h1).symm (gE rfl rfl))
  exact nx 4 rfl (eX _ (oi h1).symm (gE rfl rfl))
 refine nx 4 rfl (fD [4,5] h1 rfl (λ c1 h1=>?_) λ c1 h1=>?_)
 ·exact nx 4 rfl (eX _ (oi h1).symm (gE rfl rfl))
 exact nx 4 rfl (eX _ (oi h1).symm (gE rfl rfl))
def ek:Nat→Int→Option Bytes
 | 0,_=>none
 | n+1,c_0 =>
 ck ((16:Int)≠0) <|
 ck ((16:Int)≠0) <|
 ck (inR ((c_0.tmod 16)+1)) <|
 ck ((0:Int)≤c_0.tmod 16∧c_0.tmod 16≤(c_0.tmod 16)+1∧(c_0.tmod 16)+1≤(([48,49,50,51,52,53,54,55,56,57,97,98,99,100,101,102]:Bytes).length:Int)) <|
 if c_0 < 16 then
  some (sub ([48,49,50,51,52,53,54,55,56,57,97,98,99,100,101,102]:Bytes) (c_0.tmod 16) ((c_0.tmod 16)+1))
 else
  ck ((16:Int)≠0) <|
  ((ek n) (IntKind.wrap .i64 (c_0.tdiv 16))).bind λ r7 =>
  ck (r7.length+(sub ([48,49,50,51,52,53,54,55,56,57,97,98,99,100,101,102]:Bytes) (c_0.tmod 16) ((c_0.tmod 16)+1)).length≤9223372036854775807) <|
  some (r7++(sub ([48,49,50,51,52,53,54,55,56,57,97,98,99,100,101,102]:Bytes) (c_0.tmod 16) ((c_0.tmod 16)+1)))
theorem pd (n:Nat):∀ (c_0:Int) (r:Bytes),ek n c_0=some r→au Tryz.prog 112 [eI c_0] (·=.p (eS r)):=by
 induction n with
 | zero=>intro c_0 r h0; cases h0
 | succ n ih =>
 have ih_ref02_digits_ok:=ih
 intro c_0 r h0
 rw [ek] at h0
 refine aH good Tryz.func112 rfl rfl rfl λ w0=>mP (λ v:Bytes=>.p (eS v)) ?_
 refine nx 7 rfl (cc' h0 λ hk1 h0=>?_)
 refine mO rfl (qA rfl rfl rfl rfl rfl rfl hk1 ?_)
 refine nx 1 rfl (cc' h0 λ hk2 h0=>?_)
 refine mO rfl (qA rfl rfl rfl rfl rfl rfl hk2 ?_)
 refine oA h0 rfl rfl λ hk3 h0=>oP h0 rfl rfl rfl λ hk4 h0=>nx 8 rfl (fD [11] h0 rfl (λ c5 h0=>?_) λ c5 h0=>?_)
 ·exact nx 7 rfl (mQ (oi h0) rfl (sr))
 refine nx 5 rfl (cc' h0 λ hk6 h0=>?_)
 refine mO rfl (qA rfl rfl rfl rfl rfl rfl hk6 ?_)
 refine bd h0 λ r7 e8 h0=>oK (ih_ref02_digits_ok (IntKind.wrap .i64 (c_0.tdiv 16)) _ e8) rfl ⟨sr,trivial⟩ Tryz.call112 rfl (nx 1 rfl ?_)
 exact oC h0 rfl λ hk9 h0=>nx 3 rfl (mQ (oi h0) rfl (sr))
def gb (n:Nat)(b_0:Int):Option Bytes :=
 if b_0=10 then
  some ([92,110]:Bytes)
 else
  if b_0=13 then
   some ([92,114]:Bytes)
  else
   if b_0=9 then
    some ([92,116]:Bytes)
   else
    if b_0=34 then
     some ([92,34]:Bytes)
    else
     if b_0=92 then
      some ([92,92]:Bytes)
     else
      (
        if b_0 < 32 then
         some true
        else
         some (decide (b_0=127))
       : Option Bool).bind λ t7 =>
      if t7=true then
       ck (inR (b_0)) <|
       (ek n b_0).bind λ r10 =>
       ck (([92,117,123]:Bytes).length+r10.length≤9223372036854775807) <|
       ck ((([92,117,123]:Bytes)++r10).length+([125]:Bytes).length≤9223372036854775807) <|
       some ((([92,117,123]:Bytes)++r10)++([125]:Bytes))
      else
       ck ((0:Int)≤b_0∧b_0 < 256) <|
       some [u8 b_0]
theorem nE (n:Nat)(b_0:Int)(r:Bytes)(h0:gb n b_0=some r):au Tryz.prog 83 [eK .u8 b_0] (·=.p (eS r)):=by
 unfold gb at h0
 refine aH good Tryz.func83 rfl rfl rfl λ w0=>mP (λ v:Bytes=>.p (eS v)) ?_
 refine nx 15 rfl (fD [4,5] h0 rfl (λ c1 h0=>?_) λ c1 h0=>?_)
 ·exact nx 6 rfl (mQ (oi h0) rfl (sr))
 refine nx 6 rfl (fD [6,7] h0 rfl (λ c2 h0=>?_) λ c2 h0=>?_)
 ·exact nx 6 rfl (mQ (oi h0) rfl (sr))
 refine nx 6 rfl (fD [8,9] h0 rfl (λ c3 h0=>?_) λ c3 h0=>?_)
 ·exact nx 6 rfl (mQ (oi h0) rfl (sr))
 refine nx 6 rfl (fD [10,11] h0 rfl (λ c4 h0=>?_) λ c4 h0=>?_)
 ·exact nx 6 rfl (mQ (oi h0) rfl (sr))
 refine nx 6 rfl (fD [12,13] h0 rfl (λ c5 h0=>?_) λ c5 h0=>?_)
 ·exact nx 6 rfl (mQ (oi h0) rfl (sr))
 refine nx 4 rfl (bd h0 λ o16 h1 h0=>?_)
 refine kN o16 (λ v17=>⟨[(0,.p (eK .u8 b_0)),(19,.p (eB v17))],[]⟩) ?_ ?_
 ·refine nx 1 rfl (fB [19] h0 rfl (λ c8 h0=>?_) λ c8 h0=>?_)
  ·refine nx 4 rfl (cc' h0 λ hk9 h0=>?_)
   refine mO rfl (cy rfl rfl rfl rfl rfl rfl rfl rfl (ey hk9) ?_)
   refine bd h0 λ r10 e11 h0=>oK (pd _ b_0 _ e11) rfl ⟨sr,trivial⟩ Tryz.call112 rfl (oC h0 rfl λ hk12 h0=>?_)
   exact oC h0 rfl λ hk13 h0=>nx 3 rfl (mQ (oi h0) rfl (sr))
  refine nx 5 rfl (cc' h0 λ hk14 h0=>?_)
  refine mO rfl (aV eU [u8 b_0] rfl rfl rfl rfl rfl rfl rfl rfl rfl rfl rfl rfl rfl (congr (congrArg List.cons (fh hk14)) rfl) ?_)
  refine mO rfl (jg [u8 b_0] rfl rfl rfl rfl rfl rfl rfl rfl rfl rfl rfl ?_)
  exact nx 3 rfl (mQ (oi h0) rfl (sr))
 refine nx 4 rfl (fD [15,16] h1 rfl (λ c6 h1=>?_) λ c6 h1=>?_)
 ·exact nx 4 rfl (eX _ (oi h1).symm (gE rfl rfl))
 exact nx 4 rfl (eX _ (oi h1).symm (gE rfl rfl))
def dz (n:Nat)(s_0:Bytes):Nat→Bytes→Int→Option Bytes
 | 0,_,_=>none
 | m+1,out9,i10 =>
 if i10 < (s_0.length:Int) then
  ck ((0:Int)≤i10∧i10 < (s_0.length:Int)) <|
  (gb n (byt s_0 i10)).bind λ r13 =>
  ck (out9.length+r13.length≤9223372036854775807) <|
  ck (inR (i10+1)) <|
  dz n s_0 m (out9++r13) (i10+1)
 else
  some out9
def iE (n:Nat)(s_0:Bytes):Option Bytes :=
 (dz n s_0 n ([34]:Bytes) 0).bind λ out19 =>
 ck (out19.length+([34]:Bytes).length≤9223372036854775807) <|
 some (out19++([34]:Bytes))
theorem pK (n:Nat)(s_0:Bytes)(r:Bytes)(h0:iE n s_0=some r):au Tryz.prog 55 [eS s_0] (·=.p (eS r)):=by
 unfold iE at h0
 refine aH good Tryz.func55 rfl rfl rfl λ w0=>mP (λ v:Bytes=>.p (eS v)) ?_
 refine nx 14 rfl (bd h0 λ o22 h1 h0=>?_)
 refine kE 0 o22 (λ v23=>⟨[(3,.p (eS v23))],[]⟩) ?_ ?_
 ·refine nx 4 rfl (oC h0 rfl λ hk20 h0=>?_)
  exact nx 3 rfl (mQ (oi h0) rfl (sr))
 refine lG (λ (q24:Bytes×Int)=>⟨[(0,.p (eS s_0)),(3,.p (eS q24.1)),(4,.p (eI q24.2))],[]⟩) (λ m (q24:Bytes×Int)=>dz n s_0 m q24.1 q24.2) (λ _=>rfl) (([34]:Bytes),0) h1 (gE rfl rfl) ?_
 rintro m ⟨out9,i10⟩ h1
 replace h1:dz n s_0 (m+1) out9 i10=some o22:=h1
 rw [dz] at h1
 refine nx 5 rfl (oLs rfl ?_)
 refine nx 2 rfl (fD [8] h1 rfl (λ c11 h1=>?_) λ c11 h1=>?_)
 ·refine nx 8 rfl (oI h1 rfl λ hk12 h1=>?_)
  refine bd h1 λ r13 e14 h1=>oK (nE _ (byt s_0 i10) _ e14) rfl ⟨sr,trivial⟩ Tryz.call83 rfl (oC h1 rfl λ hk15 h1=>?_)
  refine nx 4 rfl (oA h1 rfl rfl λ hk16 h1=>?_)
  exact nx 2 rfl (eX (out9++r13,i10+1) h1 (gE rfl rfl))
 exact nx 2 rfl (eXi _ (oi h1).symm (gE rfl rfl))
def da (s_0:Bytes)(i_1:Int)(lo_2:Int)(hi_3:Int):Option Bool :=
 (
   if i_1 < (s_0.length:Int) then
    ck ((0:Int)≤i_1∧i_1 < (s_0.length:Int)) <|
    if lo_2≤byt s_0 i_1 then
     ck ((0:Int)≤i_1∧i_1 < (s_0.length:Int)) <|
     some (decide (byt s_0 i_1≤hi_3))
    else
     some false
   else
    some false
  : Option Bool).bind λ t5 =>
 some t5
theorem eY (s_0:Bytes)(i_1:Int)(lo_2:Int)(hi_3:Int)(r:Bool)(h0:da s_0 i_1 lo_2 hi_3=some r):au Tryz.prog 99 [eS s_0,eI i_1,eK .u8 lo_2,eK .u8 hi_3] (·=.p (eB r)):=by
 unfold da at h0
 refine aH good Tryz.func99 rfl rfl rfl λ w0=>mP (λ v:Bool=>.p (eB v)) ?_
 refine nx 5 rfl (bd h0 λ o7 h1 h0=>?_)
 refine kN o7 (λ v8=>⟨[(8,.p (eB v8))],[]⟩) ?_ ?_
 ·exact nx 2 rfl (mQ (oi h0) rfl (sr))
 refine nx 3 rfl (oLs rfl ?_)
 refine nx 2 rfl (fD [12,13] h1 rfl (λ c1 h1=>?_) λ c1 h1=>?_)
 ·refine nx 2 rfl (oI h1 rfl λ hk2 h1=>?_)
  refine nx 4 rfl (fD [18,19,20] h1 rfl (λ c3 h1=>?_) λ c3 h1=>?_)
  ·refine nx 2 rfl (oI h1 rfl λ hk4 h1=>?_)
   exact nx 5 rfl (eX _ (oi h1).symm (gE rfl rfl))
  exact nx 8 rfl (eX _ (oi h1).symm (gE rfl rfl))
 exact nx 15 rfl (eX _ (oi h1).symm (gE rfl rfl))
def fJ (s_0:Bytes)(i_1:Int):Option (Int×Int) :=
 (
   if i_1 < 0 then
    some true
   else
    some (decide ((s_0.length:Int)≤i_1))
  : Option Bool).bind λ t2 =>
 if t2=true then
  some (0,0)
 else
  ck ((0:Int)≤i_1∧i_1 < (s_0.length:Int)) <|
  if byt s_0 i_1 < 128 then
   ck (inR (byt s_0 i_1)) <|
   some (byt s_0 i_1,1)
  else
   (
     if 194≤byt s_0 i_1 then
      if byt s_0 i_1≤223 then
       ck (inR (i_1+1)) <|
       (da s_0 (i_1+1) 128 191).bind λ r10 =>
       some r10
      else
       some false
     else
      some false
    : Option Bool).bind λ t12 =>
   if t12=true then
    ck (inR (bh .u8 (byt s_0 i_1) 31)) <|
    ck ((0:Int)≤6) <|
    ck (inR (i_1+1)) <|
    ck ((0:Int)≤i_1+1∧i_1+1 < (s_0.length:Int)) <|
    ck (inR (bh .u8 (byt s_0 (i_1+1)) 63)) <|
    some (iOr .i64 (gM .i64 (bh .u8 (byt s_0 i_1) 31) 6) (bh .u8 (byt s_0 (i_1+1)) 63),2)
   else
    (
      if byt s_0 i_1=224 then
       some 160
      else
       some 128
     : Option Int).bind λ lo20 =>
    (
      if byt s_0 i_1=237 then
       some 159
      else
       some 191
     : Option Int).bind λ hi22 =>
    (
      if 224≤byt s_0 i_1 then
       if byt s_0 i_1≤239 then
        ck (inR (i_1+1)) <|
        (da s_0 (i_1+1) lo20 hi22).bind λ r26 =>
        if r26=true then
         ck (inR (i_1+2)) <|
         (da s_0 (i_1+2) 128 191).bind λ r30 =>
         some r30
        else
         some false
       else
        some false
      else
       some false
     : Option Bool).bind λ t32 =>
    if t32=true then
     ck (inR (bh .u8 (byt s_0 i_1) 15)) <|
     ck ((0:Int)≤12) <|
     ck (inR (i_1+1)) <|
     ck ((0:Int)≤i_1+1∧i_1+1 < (s_0.length:Int)) <|
     ck (inR (bh .u8 (byt s_0 (i_1+1)) 63)) <|
     ck ((0:Int)≤6) <|
     ck (inR (i_1+2)) <|
     ck ((0:Int)≤i_1+2∧i_1+2 < (s_0.length:Int)) <|
     ck (inR (bh .u8 (byt s_0 (i_1+2)) 63)) <|
     some (iOr .i64 (iOr .i64 (gM .i64 (bh .u8 (byt s_0 i_1) 15) 12) (gM .i64 (bh .u8 (byt s_0 (i_1+1)) 63) 6)) (bh .u8 (byt s_0 (i_1+2)) 63),3)
    else
     (
       if byt s_0 i_1=240 then
        some 144
       else
        some 128
      : Option Int).bind λ lo44 =>
     (
       if byt s_0 i_1=244 then
        some 143
       else
        some 191
      : Option Int).bind λ hi46 =>
     (
       if 240≤byt s_0 i_1 then
        if byt s_0 i_1≤244 then
         ck (inR (i_1+1)) <|
         (da s_0 (i_1+1) lo44 hi46).bind λ r50 =>
         if r50=true then
          ck (inR (i_1+2)) <|
          (da s_0 (i_1+2) 128 191).bind λ r54 =>
          if r54=true then
           ck (inR (i_1+3)) <|
           (da s_0 (i_1+3) 128 191).bind λ r58 =>
           some r58
          else
           some false
         else
          some false
        else
         some false
       else
        some false
      : Option Bool).bind λ t60 =>
     if t60=true then
      ck (inR (bh .u8 (byt s_0 i_1) 7)) <|
      ck ((0:Int)≤18) <|
      ck (inR (i_1+1)) <|
      ck ((0:Int)≤i_1+1∧i_1+1 < (s_0.length:Int)) <|
      ck (inR (bh .u8 (byt s_0 (i_1+1)) 63)) <|
      ck ((0:Int)≤12) <|
      ck (inR (i_1+2)) <|
      ck ((0:Int)≤i_1+2∧i_1+2 < (s_0.length:Int)) <|
      ck (inR (bh .u8 (byt s_0 (i_1+2)) 63)) <|
      ck ((0:Int)≤6) <|
      ck (inR (i_1+3)) <|
      ck ((0:Int)≤i_1+3∧i_1+3 < (s_0.length:Int)) <|
      ck (inR (bh .u8 (byt s_0 (i_1+3)) 63)) <|
      some (iOr .i64 (iOr .i64 (iOr .i64 (gM .i64 (bh .u8 (byt s_0 i_1) 7) 18) (gM .i64 (bh .u8 (byt s_0 (i_1+1)) 63) 12)) (gM .i64 (bh .u8 (byt s_0 (i_1+2)) 63) 6)) (bh .u8 (byt s_0 (i_1+3)) 63),4)
     else
      some (0,0)
theorem kz (s_0:Bytes)(i_1:Int)(r:Int×Int)(h0:fJ s_0 i_1=some r):au Tryz.prog 70 [eS s_0,eI i_1] (·=.tuple [.p (eI r.1),.p (eI r.2)]):=by
 unfold fJ at h0
 refine aH good Tryz.func70 rfl rfl rfl λ w0=>mP (λ v:Int×Int=>.tuple [.p (eI v.1),.p (eI v.2)]) ?_
 refine nx 7 rfl (bd h0 λ o83 h1 h0=>?_)
 refine kN o83 (λ v84=>⟨[(0,.p (eS s_0)),(1,.p (eI i_1)),(16,.p (eB v84))],[]⟩) ?_ ?_
 ·refine nx 1 rfl (fB [16] h0 rfl (λ c3 h0=>?_) λ c3 h0=>?_)
  ·exact nx 7 rfl (mQ (oi h0) rfl (am ⟨sr,sr,trivial⟩))
  refine nx 6 rfl (oI h0 rfl λ hk4 h0=>?_)
  refine nx 8 rfl (fD [21] h0 rfl (λ c5 h0=>?_) λ c5 h0=>?_)
  ·refine nx 4 rfl (cc' h0 λ hk6 h0=>?_)
   refine mO rfl (cy rfl rfl rfl rfl rfl rfl rfl rfl (ey hk6) ?_)
   exact nx 4 rfl (mQ (oi h0) rfl (am ⟨sr,sr,trivial⟩))
  refine nx 4 rfl (bd h0 λ o85 h1 h0=>?_)
  refine kN o85 (λ v86=>⟨[(0,.p (eS s_0)),(1,.p (eI i_1)),(6,.p (eK .u8 (byt s_0 i_1))),(35,.p (eB v86))],[]⟩) ?_ ?_
  ·refine nx 1 rfl (fB [35] h0 rfl (λ c13 h0=>?_) λ c13 h0=>?_)
   ·refine nx 5 rfl (cc' h0 λ hk14 h0=>?_)
    refine mO rfl (cy rfl rfl rfl rfl rfl rfl rfl rfl (ey hk14) ?_)
    refine cc' h0 λ hk15 h0=>mO rfl (g0 rfl rfl rfl rfl rfl rfl hk15 ?_)
    refine nx 2 rfl (oA h0 rfl rfl λ hk16 h0=>?_)
    refine oI h0 rfl λ hk17 h0=>nx 1 rfl (cc' h0 λ hk18 h0=>?_)
    refine mO rfl (cy rfl rfl rfl rfl rfl rfl rfl rfl (ey hk18) ?_)
    exact nx 5 rfl (mQ (oi h0) rfl (am ⟨sr,sr,trivial⟩))
   refine nx 8 rfl (bd h0 λ o87 h1 h0=>?_)
   refine kN o87 (λ v88=>⟨[(0,.p (eS s_0)),(1,.p (eI i_1)),(6,.p (eK .u8 (byt s_0 i_1))),(7,.p (eK .u8 v88)),(8,.p (eK .u8 191))],[]⟩) ?_ ?_
   ·refine nx 2 rfl (bd h0 λ o89 h1 h0=>?_)
    refine kN o89 (λ v90=>⟨[(0,.p (eS s_0)),(1,.p (eI i_1)),(6,.p (eK .u8 (byt s_0 i_1))),(7,.p (eK .u8 o87)),(8,.p (eK .u8 v90))],[]⟩) ?_ ?_
    ·refine nx 3 rfl (bd h0 λ o91 h1 h0=>?_)
     refine kN o91 (λ v92=>⟨[(0,.p (eS s_0)),(1,.p (eI i_1)),(6,.p (eK .u8 (byt s_0 i_1))),(70,.p (eB v92))],[]⟩) ?_ ?_
     ·refine nx 1 rfl (fB [70] h0 rfl (λ c33 h0=>?_) λ c33 h0=>?_)
      ·refine nx 2 rfl (cc' h0 λ hk34 h0=>?_)
       refine cc' h0 λ hk35 h0=>cc' h0 λ hk36 h0=>cc' h0 λ hk37 h0=>cc' h0 λ hk38 h0=>cc' h0 λ hk39 h0=>cc' h0 λ hk40 h0=>cc' h0 λ hk41 h0=>cc' h0 λ hk42 h0=>mD [(0,.p (eS s_0)),(1,.p (eI i_1)),(6,.p (eK .u8 (byt s_0 i_1)))] rfl ⟨rfl,rfl,rfl,trivial⟩ rfl (dR 2 rfl ?_)
       refine dq (.p (eI (bh .u8 (byt s_0 i_1) 15))) [72] rfl (λ _ e _ q=>af rfl (cy rfl rfl rfl rfl rfl rfl rfl (e _ _ rfl) (ey hk34) q)) rfl (dq (.p (eI (gM .i64 (bh .u8 (byt s_0 i_1) 15) 12))) [73] rfl (λ _ e _ q=>af rfl (g0 rfl rfl rfl (e _ _ rfl) rfl rfl hk35 q)) rfl ?_)
       refine dR 2 rfl (dq (.p (eI (i_1+1))) [76] rfl (λ _ e _ q=>af rfl (pS rfl rfl rfl (e _ _ rfl) rfl rfl hk36 q)) rfl ?_)
       refine dq (.p (eK .u8 (byt s_0 (i_1+1)))) [75,77] rfl (λ _ e _ q=>af rfl (iw rfl rfl rfl rfl rfl (e _ _ rfl) (e _ _ rfl) hk37 q)) rfl (dR 1 rfl ?_)
       refine dq (.p (eI (bh .u8 (byt s_0 (i_1+1)) 63))) [79] rfl (λ _ e _ q=>af rfl (cy rfl rfl rfl rfl rfl rfl rfl (e _ _ rfl) (ey hk38) q)) rfl (dq (.p (eI (gM .i64 (bh .u8 (byt s_0 (i_1+1)) 63) 6))) [80] rfl (λ _ e _ q=>af rfl (g0 rfl rfl rfl (e _ _ rfl) rfl rfl hk39 q)) rfl ?_)
       refine dR 3 rfl (dq (.p (eI (i_1+2))) [84] rfl (λ _ e _ q=>af rfl (pS rfl rfl rfl (e _ _ rfl) rfl rfl hk40 q)) rfl ?_)
       refine dq (.p (eK .u8 (byt s_0 (i_1+2)))) [83,85] rfl (λ _ e _ q=>af rfl (iw rfl rfl rfl rfl rfl (e _ _ rfl) (e _ _ rfl) hk41 q)) rfl (dR 1 rfl ?_)
       refine dq (.p (eI (bh .u8 (byt s_0 (i_1+2)) 63))) [87] rfl (λ _ e _ q=>af rfl (cy rfl rfl rfl rfl rfl rfl rfl (e _ _ rfl) (ey hk42) q)) rfl (dR 3 rfl ?_)
       refine dE rfl (nx 2 rfl ?_)
       exact mQ (oi h0) rfl (am ⟨sr,sr,trivial⟩)
      refine nx 8 rfl (bd h0 λ o93 h1 h0=>?_)
      refine kN o93 (λ v94=>⟨[(0,.p (eS s_0)),(1,.p (eI i_1)),(6,.p (eK .u8 (byt s_0 i_1))),(7,.p (eK .u8 v94)),(8,.p (eK .u8 191))],[]⟩) ?_ ?_
      ·refine nx 2 rfl (bd h0 λ o95 h1 h0=>?_)
       refine kN o95 (λ v96=>⟨[(0,.p (eS s_0)),(1,.p (eI i_1)),(6,.p (eK .u8 (byt s_0 i_1))),(7,.p (eK .u8 o93)),(8,.p (eK .u8 v96))],[]⟩) ?_ ?_
       ·refine nx 3 rfl (bd h0 λ o97 h1 h0=>?_)
        refine kN o97 (λ v98=>⟨[(0,.p (eS s_0)),(1,.p (eI i_1)),(6,.p (eK .u8 (byt s_0 i_1))),(119,.p (eB v98))],[]⟩) ?_ ?_
        ·refine nx 1 rfl (fB [119] h0 rfl (λ c61 h0=>?_) λ c61 h0=>?_)
         ·refine nx 2 rfl (cc' h0 λ hk62 h0=>?_)
          refine cc' h0 λ hk63 h0=>cc' h0 λ hk64 h0=>cc' h0 λ hk65 h0=>cc' h0 λ hk66 h0=>cc' h0 λ hk67 h0=>cc' h0 λ hk68 h0=>cc' h0 λ hk69 h0=>cc' h0 λ hk70 h0=>cc' h0 λ hk71 h0=>cc' h0 λ hk72 h0=>cc' h0 λ hk73 h0=>cc' h0 λ hk74 h0=>?_
          refine mD [(0,.p (eS s_0)),(1,.p (eI i_1)),(6,.p (eK .u8 (byt s_0 i_1)))] rfl ⟨rfl,rfl,rfl,trivial⟩ rfl (dR 2 rfl ?_)
          refine dq (.p (eI (bh .u8 (byt s_0 i_1) 7))) [121] rfl (λ _ e _ q=>af rfl (cy rfl rfl rfl rfl rfl rfl rfl (e _ _ rfl) (ey hk62) q)) rfl (dq (.p (eI (gM .i64 (bh .u8 (byt s_0 i_1) 7) 18))) [122] rfl (λ _ e _ q=>af rfl (g0 rfl rfl rfl (e _ _ rfl) rfl rfl hk63 q)) rfl ?_)
          refine dR 2 rfl (dq (.p (eI (i_1+1))) [125] rfl (λ _ e _ q=>af rfl (pS rfl rfl rfl (e _ _ rfl) rfl rfl hk64 q)) rfl ?_)
          refine dq (.p (eK .u8 (byt s_0 (i_1+1)))) [124,126] rfl (λ _ e _ q=>af rfl (iw rfl rfl rfl rfl rfl (e _ _ rfl) (e _ _ rfl) hk65 q)) rfl (dR 1 rfl ?_)
          refine dq (.p (eI (bh .u8 (byt s_0 (i_1+1)) 63))) [128] rfl (λ _ e _ q=>af rfl (cy rfl rfl rfl rfl rfl rfl rfl (e _ _ rfl) (ey hk66) q)) rfl (dq (.p (eI (gM .i64 (bh .u8 (byt s_0 (i_1+1)) 63) 12))) [129] rfl (λ _ e _ q=>af rfl (g0 rfl rfl rfl (e _ _ rfl) rfl rfl hk67 q)) rfl ?_)
          refine dR 3 rfl (dq (.p (eI (i_1+2))) [133] rfl (λ _ e _ q=>af rfl (pS rfl rfl rfl (e _ _ rfl) rfl rfl hk68 q)) rfl ?_)
          refine dq (.p (eK .u8 (byt s_0 (i_1+2)))) [132,134] rfl (λ _ e _ q=>af rfl (iw rfl rfl rfl rfl rfl (e _ _ rfl) (e _ _ rfl) hk69 q)) rfl (dR 1 rfl ?_)
          refine dq (.p (eI (bh .u8 (byt s_0 (i_1+2)) 63))) [136] rfl (λ _ e _ q=>af rfl (cy rfl rfl rfl rfl rfl rfl rfl (e _ _ rfl) (ey hk70) q)) rfl (dq (.p (eI (gM .i64 (bh .u8 (byt s_0 (i_1+2)) 63) 6))) [137] rfl (λ _ e _ q=>af rfl (g0 rfl rfl rfl (e _ _ rfl) rfl rfl hk71 q)) rfl ?_)
          refine dR 3 rfl (dq (.p (eI (i_1+3))) [141] rfl (λ _ e _ q=>af rfl (pS rfl rfl rfl (e _ _ rfl) rfl rfl hk72 q)) rfl ?_)
          refine dq (.p (eK .u8 (byt s_0 (i_1+3)))) [140,142] rfl (λ _ e _ q=>af rfl (iw rfl rfl rfl rfl rfl (e _ _ rfl) (e _ _ rfl) hk73 q)) rfl (dR 1 rfl ?_)
          refine dq (.p (eI (bh .u8 (byt s_0 (i_1+3)) 63))) [144] rfl (λ _ e _ q=>af rfl (cy rfl rfl rfl rfl rfl rfl rfl (e _ _ rfl) (ey hk74) q)) rfl (dR 3 rfl ?_)
          refine dE rfl (nx 1 rfl ?_)
          refine mG (gE (t:=⟨[(4,.p (eI (iOr .i64 (iOr .i64 (iOr .i64 (gM .i64 (bh .u8 (byt s_0 i_1) 7) 18) (gM .i64 (bh .u8 (byt s_0 (i_1+1)) 63) 12)) (gM .i64 (bh .u8 (byt s_0 (i_1+2)) 63) 6)) (bh .u8 (byt s_0 (i_1+3)) 63)))),(5,.p (eI 4))],[]⟩) rfl rfl) (nx 1 rfl ?_)
          exact mQ (oi h0) rfl (am ⟨sr,sr,trivial⟩)
         exact nx 8 rfl (mQ (oi h0) rfl (am ⟨sr,sr,trivial⟩))
        refine nx 4 rfl (fD [95,96] h1 rfl (λ c47 h1=>?_) λ c47 h1=>?_)
        ·refine nx 4 rfl (fD [98,99,100] h1 rfl (λ c48 h1=>?_) λ c48 h1=>?_)
         ·refine nx 2 rfl (oA h1 rfl rfl λ hk49 h1=>?_)
          refine nx 2 rfl (bd h1 λ r50 e51 h1=>?_)
          refine oK (eY s_0 (i_1+1) o93 o95 _ e51) rfl ⟨sr,sr,sr,sr,trivial⟩ Tryz.call99 rfl (nx 2 rfl ?_)
          refine fB [106,107,108] h1 rfl (λ c52 h1=>?_) λ c52 h1=>?_
          ·refine nx 2 rfl (oA h1 rfl rfl λ hk53 h1=>?_)
           refine bd h1 λ r54 e55 h1=>oK (eY s_0 (i_1+2) 128 191 _ e55) rfl ⟨sr,sr,sr,sr,trivial⟩ Tryz.call99 rfl (nx 2 rfl ?_)
           refine fB [112,113,114] h1 rfl (λ c56 h1=>?_) λ c56 h1=>?_
           ·refine nx 2 rfl (oA h1 rfl rfl λ hk57 h1=>?_)
            refine bd h1 λ r58 e59 h1=>oK (eY s_0 (i_1+3) 128 191 _ e59) rfl ⟨sr,sr,sr,sr,trivial⟩ Tryz.call99 rfl (nx 2 rfl ?_)
            exact eX _ (oi h1).symm (gE rfl rfl)
           exact nx 6 rfl (eX _ (oi h1).symm (gE rfl rfl))
          exact nx 12 rfl (eX _ (oi h1).symm (gE rfl rfl))
         exact nx 20 rfl (eX _ (oi h1).symm (gE rfl rfl))
        exact nx 24 rfl (eX _ (oi h1).symm (gE rfl rfl))
       refine nx 5 rfl (fD [93] h1 rfl (λ c45 h1=>?_) λ c45 h1=>?_)
       ·exact nx 4 rfl (eX _ (oi h1).symm (gE rfl rfl))
       exact nx 2 rfl (eX _ (oi h1).symm (gE rfl rfl))
      refine nx 5 rfl (fD [91] h1 rfl (λ c43 h1=>?_) λ c43 h1=>?_)
      ·exact nx 4 rfl (eX _ (oi h1).symm (gE rfl rfl))
      exact nx 2 rfl (eX _ (oi h1).symm (gE rfl rfl))
     refine nx 4 rfl (fD [52,53] h1 rfl (λ c23 h1=>?_) λ c23 h1=>?_)
     ·refine nx 4 rfl (fD [55,56,57] h1 rfl (λ c24 h1=>?_) λ c24 h1=>?_)
      ·refine nx 2 rfl (oA h1 rfl rfl λ hk25 h1=>?_)
       refine nx 2 rfl (bd h1 λ r26 e27 h1=>?_)
       refine oK (eY s_0 (i_1+1) o87 o89 _ e27) rfl ⟨sr,sr,sr,sr,trivial⟩ Tryz.call99 rfl (nx 2 rfl ?_)
       refine fB [63,64,65] h1 rfl (λ c28 h1=>?_) λ c28 h1=>?_
       ·refine nx 2 rfl (oA h1 rfl rfl λ hk29 h1=>?_)
        refine bd h1 λ r30 e31 h1=>oK (eY s_0 (i_1+2) 128 191 _ e31) rfl ⟨sr,sr,sr,sr,trivial⟩ Tryz.call99 rfl (nx 2 rfl ?_)
        exact eX _ (oi h1).symm (gE rfl rfl)
       exact nx 6 rfl (eX _ (oi h1).symm (gE rfl rfl))
      exact nx 14 rfl (eX _ (oi h1).symm (gE rfl rfl))
     exact nx 18 rfl (eX _ (oi h1).symm (gE rfl rfl))
    refine nx 5 rfl (fD [50] h1 rfl (λ c21 h1=>?_) λ c21 h1=>?_)
    ·exact nx 4 rfl (eX _ (oi h1).symm (gE rfl rfl))
    exact nx 2 rfl (eX _ (oi h1).symm (gE rfl rfl))
   refine nx 5 rfl (fD [48] h1 rfl (λ c19 h1=>?_) λ c19 h1=>?_)
   ·exact nx 4 rfl (eX _ (oi h1).symm (gE rfl rfl))
   exact nx 2 rfl (eX _ (oi h1).symm (gE rfl rfl))
  refine nx 4 rfl (fD [25,26] h1 rfl (λ c7 h1=>?_) λ c7 h1=>?_)
  ·refine nx 4 rfl (fD [28,29,30] h1 rfl (λ c8 h1=>?_) λ c8 h1=>?_)
   ·refine nx 2 rfl (oA h1 rfl rfl λ hk9 h1=>?_)
    refine bd h1 λ r10 e11 h1=>oK (eY s_0 (i_1+1) 128 191 _ e11) rfl ⟨sr,sr,sr,sr,trivial⟩ Tryz.call99 rfl (nx 2 rfl ?_)
    exact eX _ (oi h1).symm (gE rfl rfl)
   exact nx 6 rfl (eX _ (oi h1).symm (gE rfl rfl))
  exact nx 10 rfl (eX _ (oi h1).symm (gE rfl rfl))
 refine nx 4 rfl (fD [10,11] h1 rfl (λ c1 h1=>?_) λ c1 h1=>?_)
 ·exact nx 6 rfl (eX _ (oi h1).symm (gE rfl rfl))
 refine nx 2 rfl (oLs rfl ?_)
 exact nx 3 rfl (eX _ (oi h1).symm (gE rfl rfl))
def d7 (s_0:Bytes):Nat→Int→Option (Unit⊕Bool)
 | 0,_=>none
 | m+1,i8 =>
 if i8 < (s_0.length:Int) then
  (fJ s_0 i8).bind λ r10 =>
  if r10.2=0 then
   some (.inr false)
  else
   ck (inR (i8+r10.2)) <|
   d7 s_0 m (i8+r10.2)
 else
  some (.inl ())
def eH (n:Nat)(s_0:Bytes):Option Bool :=
 if 4096 < (s_0.length:Int) then
  some false
 else
  jn (d7 s_0 n 0) λ _q15 =>
  some true
theorem ju (n:Nat)(s_0:Bytes)(r:Bool)(h0:eH n s_0=some r):au Tryz.prog 41 [eS s_0] (·=.p (eB r)):=by
 unfold eH at h0
 refine aH good Tryz.func41 rfl rfl rfl λ w0=>mP (λ v:Bool=>.p (eB v)) ?_
 refine nx 8 rfl (oLs rfl ?_)
 refine nx 2 rfl (fD [8] h0 rfl (λ c1 h0=>?_) λ c1 h0=>?_)
 ·exact nx 6 rfl (mQ (oi h0) rfl (sr))
 refine nx 8 rfl ?_
 obtain ⟨o16,h1,hL0,hR0⟩:=cn h0
 refine kEx 0 (λ v17:Unit=>o16=.inl v17) (λ v17=>⟨[],[]⟩) (λ v17 hv=>?_) ?_
 ·have h0:=hL0 _ hv
  exact nx 6 rfl (mQ (oi h0) rfl (sr))
 refine lG (λ (q18:Int)=>⟨[(0,.p (eS s_0)),(3,.p (eI q18))],[]⟩) (λ m (q18:Int)=>d7 s_0 m q18) (λ _=>rfl) 0 h1 (gE rfl rfl) ?_
 rintro m i8 h1
 replace h1:d7 s_0 (m+1) i8=some o16:=h1
 rw [d7] at h1
 refine nx 5 rfl (oLs rfl ?_)
 refine nx 2 rfl (fD [12] h1 rfl (λ c9 h1=>?_) λ c9 h1=>?_)
 ·refine nx 7 rfl (bd h1 λ r10 e11 h1=>?_)
  refine oK (kz s_0 i8 _ e11) rfl ⟨sr,sr,trivial⟩ Tryz.call70 rfl (nx 12 rfl ?_)
  refine fD [20] h1 rfl (λ c12 h1=>?_) λ c12 h1=>?_
  ·exact nx 6 rfl (mQ (hR0 _ (oi h1).symm) rfl (sr))
  refine nx 5 rfl (oA h1 rfl rfl λ hk13 h1=>?_)
  exact nx 2 rfl (eX (i8+r10.2) h1 (gE rfl rfl))
 exact nx 2 rfl (eXi _ (oi h1).symm (gE rfl rfl))
def jk (b_0:Int):Option Int :=
 (
   if 48≤b_0 then
    some (decide (b_0≤57))
   else
    some false
  : Option Bool).bind λ t2 =>
 if t2=true then
  ck (inR (IntKind.wrap .u8 (b_0 - 48))) <|
  some (IntKind.wrap .u8 (b_0 - 48))
 else
  (
    if 97≤b_0 then
     some (decide (b_0≤102))
    else
     some false
   : Option Bool).bind λ t6 =>
  if t6=true then
   ck (inR (IntKind.wrap .u8 (b_0 - 97))) <|
   ck (inR ((IntKind.wrap .u8 (b_0 - 97))+10)) <|
   some ((IntKind.wrap .u8 (b_0 - 97))+10)
  else
   some (-1)
theorem nk (b_0:Int)(r:Int)(h0:jk b_0=some r):au Tryz.prog 159 [eK .u8 b_0] (·=.p (eI r)):=by
 unfold jk at h0
 refine aH good Tryz.func159 rfl rfl rfl λ w0=>mP (λ v:Int=>.p (eI v)) ?_
 refine nx 6 rfl (bd h0 λ o12 h1 h0=>?_)
 refine kN o12 (λ v13=>⟨[(0,.p (eK .u8 b_0)),(8,.p (eB v13))],[]⟩) ?_ ?_
 ·refine nx 1 rfl (fB [8] h0 rfl (λ c3 h0=>?_) λ c3 h0=>?_)
  ·refine nx 5 rfl (cc' h0 λ hk4 h0=>?_)
   refine mO rfl (cy rfl rfl rfl rfl rfl rfl rfl rfl (ey hk4) ?_)
   exact nx 3 rfl (mQ (oi h0) rfl (sr))
  refine nx 4 rfl (bd h0 λ o14 h1 h0=>?_)
  refine kN o14 (λ v15=>⟨[(0,.p (eK .u8 b_0)),(17,.p (eB v15))],[]⟩) ?_ ?_
  ·refine nx 1 rfl (fB [17] h0 rfl (λ c7 h0=>?_) λ c7 h0=>?_)
   ·refine nx 5 rfl (cc' h0 λ hk8 h0=>?_)
    refine mO rfl (cy rfl rfl rfl rfl rfl rfl rfl rfl (ey hk8) ?_)
    exact oA h0 rfl rfl λ hk9 h0=>nx 3 rfl (mQ (oi h0) rfl (sr))
   exact nx 7 rfl (mQ (oi h0) rfl (sr))
  refine nx 4 rfl (fD [13,14] h1 rfl (λ c5 h1=>?_) λ c5 h1=>?_)
  ·exact nx 4 rfl (eX _ (oi h1).symm (gE rfl rfl))
  exact nx 4 rfl (eX _ (oi h1).symm (gE rfl rfl))
 refine nx 4 rfl (fD [4,5] h1 rfl (λ c1 h1=>?_) λ c1 h1=>?_)
 ·exact nx 4 rfl (eX _ (oi h1).symm (gE rfl rfl))
 exact nx 4 rfl (eX _ (oi h1).symm (gE rfl rfl))
def dH (s_0:Bytes)(i_1:Int):Nat→Int→Int→Option (Int×Int)
 | 0,_,_=>none
 | m+1,c19,n20 =>
 (
   ck (inR (i_1+n20)) <|
   if i_1+n20 < (s_0.length:Int) then
    if n20 < 6 then
     ck (inR (i_1+n20)) <|
     ck ((0:Int)≤i_1+n20∧i_1+n20 < (s_0.length:Int)) <|
     (jk (byt s_0 (i_1+n20))).bind λ r26 =>
     some (decide (0≤r26))
    else
     some false
   else
    some false
  : Option Bool).bind λ t28 =>
 if t28=true then
  ck (inR (16*c19)) <|
  ck (inR (i_1+n20)) <|
  ck ((0:Int)≤i_1+n20∧i_1+n20 < (s_0.length:Int)) <|
  (jk (byt s_0 (i_1+n20))).bind λ r33 =>
  ck (inR ((16*c19)+r33)) <|
  ck (inR (n20+1)) <|
  dH s_0 i_1 m ((16*c19)+r33) (n20+1)
 else
  some (c19,n20)
def iR (n:Nat)(s_0:Bytes)(i_1:Int):Option (Int×Int×Int) :=
 (dH s_0 i_1 n 0 0).bind λ q58 =>
 ck (inR (i_1+q58.2)) <|
 if (s_0.length:Int)≤i_1+q58.2 then
  some (0,0,40)
 else
  (
    if q58.2=0 then
     some true
    else
     ck (inR (i_1+q58.2)) <|
     ck ((0:Int)≤i_1+q58.2∧i_1+q58.2 < (s_0.length:Int)) <|
     if byt s_0 (i_1+q58.2)=125 then
      if 1 < q58.2 then
       ck ((0:Int)≤i_1∧i_1 < (s_0.length:Int)) <|
       if byt s_0 i_1=48 then
        some true
       else
        if 1114111 < q58.1 then
         some true
        else
         if 55296≤q58.1 then
          some (decide (q58.1≤57343))
         else
          some false
      else
       if 1114111 < q58.1 then
        some true
       else
        if 55296≤q58.1 then
         some (decide (q58.1≤57343))
        else
         some false
     else
      some true
   : Option Bool).bind λ t54 =>
  if t54=true then
   some (0,0,2)
  else
   ck (inR (i_1+q58.2)) <|
   ck (inR ((i_1+q58.2)+1)) <|
   some (q58.1,(i_1+q58.2)+1,0)
theorem qu (n:Nat)(s_0:Bytes)(i_1:Int)(r:Int×Int×Int)(h0:iR n s_0 i_1=some r):au Tryz.prog 143 [eS s_0,eI i_1] (·=.tuple [.p (eI r.1),.p (eI r.2.1),.p (eI r.2.2)]):=by
 unfold iR at h0
 refine aH good Tryz.func143 rfl rfl rfl λ w0=>mP (λ v:Int×Int×Int=>.tuple [.p (eI v.1),.p (eI v.2.1),.p (eI v.2.2)]) ?_
 refine nx 13 rfl (bd h0 λ o61 h1 h0=>?_)
 refine kE 0 o61 (λ v62=>⟨[(0,.p (eS s_0)),(1,.p (eI i_1)),(7,.p (eI v62.1)),(8,.p (eI v62.2))],[]⟩) ?_ ?_
 ·refine nx 6 rfl (oA h0 rfl rfl λ hk41 h0=>?_)
  refine nx 1 rfl (oLs rfl ?_)
  refine nx 2 rfl (fD [44] h0 rfl (λ c42 h0=>?_) λ c42 h0=>?_)
  ·exact nx 8 rfl (mQ (oi h0) rfl (am ⟨sr,sr,sr,trivial⟩))
  refine nx 4 rfl (bd h0 λ o63 h1 h0=>?_)
  refine kN o63 (λ v64=>⟨[(1,.p (eI i_1)),(7,.p (eI o61.1)),(8,.p (eI o61.2)),(76,.p (eB v64))],[]⟩) ?_ ?_
  ·refine nx 1 rfl (fB [76] h0 rfl (λ c55 h0=>?_) λ c55 h0=>?_)
   ·exact nx 8 rfl (mQ (oi h0) rfl (am ⟨sr,sr,sr,trivial⟩))
   refine nx 7 rfl (oA h0 rfl rfl λ hk56 h0=>?_)
   exact oA h0 rfl rfl λ hk57 h0=>nx 5 rfl (mQ (oi h0) rfl (am ⟨sr,sr,sr,trivial⟩))
  refine nx 4 rfl (fD [46,47] h1 rfl (λ c43 h1=>?_) λ c43 h1=>?_)
  ·exact nx 30 rfl (eX _ (oi h1).symm (gE rfl rfl))
  refine nx 3 rfl (oA h1 rfl rfl λ hk44 h1=>?_)
  refine oI h1 rfl λ hk45 h1=>nx 3 rfl (fN [53,54,55] h1 rfl (λ c46 h1=>?_) λ c46 h1=>?_)
  ·refine nx 3 rfl (fD [57,58] h1 rfl (λ c47 h1=>?_) λ c47 h1=>?_)
   ·refine nx 2 rfl (oI h1 rfl λ hk48 h1=>?_)
    refine nx 4 rfl (fD [62,63,64,65] h1 rfl (λ c49 h1=>?_) λ c49 h1=>?_)
    ·exact nx 12 rfl (eX _ (oi h1).symm (gE rfl rfl))
    refine nx 4 rfl (fD [67,68,69] h1 rfl (λ c50 h1=>?_) λ c50 h1=>?_)
    ·exact nx 8 rfl (eX _ (oi h1).symm (gE rfl rfl))
    refine nx 3 rfl (fD [71,72] h1 rfl (λ c51 h1=>?_) λ c51 h1=>?_)
    ·exact nx 5 rfl (eX _ (oi h1).symm (gE rfl rfl))
    exact nx 5 rfl (eX _ (oi h1).symm (gE rfl rfl))
   refine nx 11 rfl (fD [67,68,69] h1 rfl (λ c52 h1=>?_) λ c52 h1=>?_)
   ·exact nx 8 rfl (eX _ (oi h1).symm (gE rfl rfl))
   refine nx 3 rfl (fD [71,72] h1 rfl (λ c53 h1=>?_) λ c53 h1=>?_)
   ·exact nx 5 rfl (eX _ (oi h1).symm (gE rfl rfl))
   exact nx 5 rfl (eX _ (oi h1).symm (gE rfl rfl))
  exact nx 22 rfl (eX _ (oi h1).symm (gE rfl rfl))
 refine lG (λ (q65:Int×Int)=>⟨[(0,.p (eS s_0)),(1,.p (eI i_1)),(7,.p (eI q65.1)),(8,.p (eI q65.2))],[]⟩) (λ m (q65:Int×Int)=>dH s_0 i_1 m q65.1 q65.2) (λ _=>rfl) (0,0) h1 (gE rfl rfl) ?_
 rintro m ⟨c19,n20⟩ h1
 replace h1:dH s_0 i_1 (m+1) c19 n20=some o61:=h1
 rw [dH] at h1
 refine nx 2 rfl (bd h1 λ o66 h2 h1=>?_)
 refine kN o66 (λ v67=>⟨[(0,.p (eS s_0)),(1,.p (eI i_1)),(7,.p (eI c19)),(8,.p (eI n20)),(27,.p (eB v67))],[]⟩) ?_ ?_
 ·refine nx 1 rfl (fB [27] h1 rfl (λ c29 h1=>?_) λ c29 h1=>?_)
  ·refine nx 6 rfl (oA h1 rfl rfl λ hk30 h1=>?_)
   refine nx 3 rfl (oA h1 rfl rfl λ hk31 h1=>?_)
   refine oI h1 rfl λ hk32 h1=>bd h1 λ r33 e34 h1=>oK (nk (byt s_0 (i_1+n20)) _ e34) rfl ⟨sr,trivial⟩ Tryz.call159 rfl (oA h1 rfl rfl λ hk35 h1=>?_)
   refine nx 4 rfl (oA h1 rfl rfl λ hk36 h1=>?_)
   exact nx 2 rfl (eX ((16*c19)+r33,n20+1) h1 (gE rfl rfl))
  exact nx 2 rfl (eXi _ (oi h1).symm (gE rfl rfl))
 refine nx 3 rfl (oA h2 rfl rfl λ hk21 h2=>?_)
 refine nx 1 rfl (oLs rfl ?_)
 refine nx 2 rfl (fD [14,15] h2 rfl (λ c22 h2=>?_) λ c22 h2=>?_)
 ·refine nx 4 rfl (fD [17,18,19] h2 rfl (λ c23 h2=>?_) λ c23 h2=>?_)
  ·refine nx 3 rfl (oA h2 rfl rfl λ hk24 h2=>?_)
   refine oI h2 rfl λ hk25 h2=>bd h2 λ r26 e27 h2=>oK (nk (byt s_0 (i_1+n20)) _ e27) rfl ⟨sr,trivial⟩ Tryz.call159 rfl (nx 3 rfl ?_)
   exact eX _ (oi h2).symm (gE rfl rfl)
  exact nx 9 rfl (eX _ (oi h2).symm (gE rfl rfl))
 exact nx 13 rfl (eX _ (oi h2).symm (gE rfl rfl))
def gV (c_0:Int):Option Bytes :=
 if c_0 < 128 then
  ck ((0:Int)≤IntKind.wrap .u8 (c_0)∧IntKind.wrap .u8 (c_0) < 256) <|
  some [u8 (IntKind.wrap .u8 (c_0))]
 else
  if c_0 < 2048 then
   ck ((0:Int)≤6) <|
   ck ((0:Int)≤IntKind.wrap .u8 (iOr .i64 192 (bM .i64 c_0 6))∧IntKind.wrap .u8 (iOr .i64 192 (bM .i64 c_0 6)) < 256) <|
   ck ((0:Int)≤IntKind.wrap .u8 (iOr .i64 128 (bh .i64 c_0 63))∧IntKind.wrap .u8 (iOr .i64 128 (bh .i64 c_0 63)) < 256) <|
   some [u8 (IntKind.wrap .u8 (iOr .i64 192 (bM .i64 c_0 6))),u8 (IntKind.wrap .u8 (iOr .i64 128 (bh .i64 c_0 63)))]
  else
   if c_0 < 65536 then
    ck ((0:Int)≤12) <|
    ck ((0:Int)≤6) <|
    ck ((0:Int)≤IntKind.wrap .u8 (iOr .i64 224 (bM .i64 c_0 12))∧IntKind.wrap .u8 (iOr .i64 224 (bM .i64 c_0 12)) < 256) <|
    ck ((0:Int)≤IntKind.wrap .u8 (iOr .i64 128 (bh .i64 (bM .i64 c_0 6) 63))∧IntKind.wrap .u8 (iOr .i64 128 (bh .i64 (bM .i64 c_0 6) 63)) < 256) <|
    ck ((0:Int)≤IntKind.wrap .u8 (iOr .i64 128 (bh .i64 c_0 63))∧IntKind.wrap .u8 (iOr .i64 128 (bh .i64 c_0 63)) < 256) <|
    some [u8 (IntKind.wrap .u8 (iOr .i64 224 (bM .i64 c_0 12))),u8 (IntKind.wrap .u8 (iOr .i64 128 (bh .i64 (bM .i64 c_0 6) 63))),u8 (IntKind.wrap .u8 (iOr .i64 128 (bh .i64 c_0 63)))]
   else
    ck ((0:Int)≤18) <|
    ck ((0:Int)≤12) <|
    ck ((0:Int)≤6) <|
    ck ((0:Int)≤IntKind.wrap .u8 (iOr .i64 240 (bM .i64 c_0 18))∧IntKind.wrap .u8 (iOr .i64 240 (bM .i64 c_0 18)) < 256) <|
    ck ((0:Int)≤IntKind.wrap .u8 (iOr .i64 128 (bh .i64 (bM .i64 c_0 12) 63))∧IntKind.wrap .u8 (iOr .i64 128 (bh .i64 (bM .i64 c_0 12) 63)) < 256) <|
    ck ((0:Int)≤IntKind.wrap .u8 (iOr .i64 128 (bh .i64 (bM .i64 c_0 6) 63))∧IntKind.wrap .u8 (iOr .i64 128 (bh .i64 (bM .i64 c_0 6) 63)) < 256) <|
    ck ((0:Int)≤IntKind.wrap .u8 (iOr .i64 128 (bh .i64 c_0 63))∧IntKind.wrap .u8 (iOr .i64 128 (bh .i64 c_0 63)) < 256) <|
    some [u8 (IntKind.wrap .u8 (iOr .i64 240 (bM .i64 c_0 18))),u8 (IntKind.wrap .u8 (iOr .i64 128 (bh .i64 (bM .i64 c_0 12) 63))),u8 (IntKind.wrap .u8 (iOr .i64 128 (bh .i64 (bM .i64 c_0 6) 63))),u8 (IntKind.wrap .u8 (iOr .i64 128 (bh .i64 c_0 63)))]
theorem oX (c_0:Int)(r:Bytes)(h0:gV c_0=some r):au Tryz.prog 144 [eI c_0] (·=.p (eS r)):=by
 unfold gV at h0
 refine aH good Tryz.func144 rfl rfl rfl λ w0=>mP (λ v:Bytes=>.p (eS v)) ?_
 refine nx 10 rfl (fD [4] h0 rfl (λ c1 h0=>?_) λ c1 h0=>?_)
 ·refine nx 5 rfl (cc' h0 λ hk2 h0=>?_)
  refine mO rfl (aV eU [u8 (IntKind.wrap .u8 (c_0))] rfl rfl rfl rfl rfl rfl rfl rfl rfl rfl rfl rfl rfl (congr (congrArg List.cons (fh hk2)) rfl) ?_)
  refine mO rfl (jg [u8 (IntKind.wrap .u8 (c_0))] rfl rfl rfl rfl rfl rfl rfl rfl rfl rfl rfl ?_)
  exact nx 3 rfl (mQ (oi h0) rfl (sr))
 refine nx 8 rfl (fD [10] h0 rfl (λ c3 h0=>?_) λ c3 h0=>?_)
 ·refine nx 4 rfl (cc' h0 λ hk4 h0=>?_)
  refine mO rfl (g0 rfl rfl rfl rfl rfl rfl hk4 ?_)
  refine nx 6 rfl (cc' h0 λ hk6 h0=>?_)
  refine cc' h0 λ hk5 h0=>mO rfl (aV eU [u8 (IntKind.wrap .u8 (iOr .i64 192 (bM .i64 c_0 6))),u8 (IntKind.wrap .u8 (iOr .i64 128 (bh .i64 c_0 63)))] rfl rfl rfl rfl rfl rfl rfl rfl rfl rfl rfl rfl rfl (congr (congrArg List.cons (fh hk6)) (congr (congrArg List.cons (fh hk5)) rfl)) ?_)
  refine mO rfl (jg [u8 (IntKind.wrap .u8 (iOr .i64 192 (bM .i64 c_0 6))),u8 (IntKind.wrap .u8 (iOr .i64 128 (bh .i64 c_0 63)))] rfl rfl rfl rfl rfl rfl rfl rfl rfl rfl rfl ?_)
  exact nx 3 rfl (mQ (oi h0) rfl (sr))
 refine nx 8 rfl (fD [22] h0 rfl (λ c7 h0=>?_) λ c7 h0=>?_)
 ·refine nx 4 rfl (cc' h0 λ hk8 h0=>?_)
  refine mO rfl (g0 rfl rfl rfl rfl rfl rfl hk8 ?_)
  refine nx 3 rfl (cc' h0 λ hk9 h0=>?_)
  refine mO rfl (g0 rfl rfl rfl rfl rfl rfl hk9 ?_)
  refine nx 7 rfl (cc' h0 λ hk12 h0=>?_)
  refine cc' h0 λ hk11 h0=>cc' h0 λ hk10 h0=>mO rfl (aV eU [u8 (IntKind.wrap .u8 (iOr .i64 224 (bM .i64 c_0 12))),u8 (IntKind.wrap .u8 (iOr .i64 128 (bh .i64 (bM .i64 c_0 6) 63))),u8 (IntKind.wrap .u8 (iOr .i64 128 (bh .i64 c_0 63)))] rfl rfl rfl rfl rfl rfl rfl rfl rfl rfl rfl rfl rfl (congr (congrArg List.cons (fh hk12)) (congr (congrArg List.cons (fh hk11)) (congr (congrArg List.cons (fh hk10)) rfl))) ?_)
  refine mO rfl (jg [u8 (IntKind.wrap .u8 (iOr .i64 224 (bM .i64 c_0 12))),u8 (IntKind.wrap .u8 (iOr .i64 128 (bh .i64 (bM .i64 c_0 6) 63))),u8 (IntKind.wrap .u8 (iOr .i64 128 (bh .i64 c_0 63)))] rfl rfl rfl rfl rfl rfl rfl rfl rfl rfl rfl ?_)
  exact nx 3 rfl (mQ (oi h0) rfl (sr))
 refine nx 5 rfl (cc' h0 λ hk13 h0=>?_)
 refine mO rfl (g0 rfl rfl rfl rfl rfl rfl hk13 ?_)
 refine nx 3 rfl (cc' h0 λ hk14 h0=>?_)
 refine mO rfl (g0 rfl rfl rfl rfl rfl rfl hk14 ?_)
 refine nx 4 rfl (cc' h0 λ hk15 h0=>?_)
 refine mO rfl (g0 rfl rfl rfl rfl rfl rfl hk15 ?_)
 refine nx 7 rfl (cc' h0 λ hk19 h0=>?_)
 refine cc' h0 λ hk18 h0=>cc' h0 λ hk17 h0=>cc' h0 λ hk16 h0=>mO rfl (aV eU [u8 (IntKind.wrap .u8 (iOr .i64 240 (bM .i64 c_0 18))),u8 (IntKind.wrap .u8 (iOr .i64 128 (bh .i64 (bM .i64 c_0 12) 63))),u8 (IntKind.wrap .u8 (iOr .i64 128 (bh .i64 (bM .i64 c_0 6) 63))),u8 (IntKind.wrap .u8 (iOr .i64 128 (bh .i64 c_0 63)))] rfl rfl rfl rfl rfl rfl rfl rfl rfl rfl rfl rfl rfl (congr (congrArg List.cons (fh hk19)) (congr (congrArg List.cons (fh hk18)) (congr (congrArg List.cons (fh hk17)) (congr (congrArg List.cons (fh hk16)) rfl)))) ?_)
 refine mO rfl (jg [u8 (IntKind.wrap .u8 (iOr .i64 240 (bM .i64 c_0 18))),u8 (IntKind.wrap .u8 (iOr .i64 128 (bh .i64 (bM .i64 c_0 12) 63))),u8 (IntKind.wrap .u8 (iOr .i64 128 (bh .i64 (bM .i64 c_0 6) 63))),u8 (IntKind.wrap .u8 (iOr .i64 128 (bh .i64 c_0 63)))] rfl rfl rfl rfl rfl rfl rfl rfl rfl rfl rfl ?_)
 refine nx 2 rfl (mG (gE (t:=⟨[(2,.p (eS [u8 (IntKind.wrap .u8 (iOr .i64 240 (bM .i64 c_0 18))),u8 (IntKind.wrap .u8 (iOr .i64 128 (bh .i64 (bM .i64 c_0 12) 63))),u8 (IntKind.wrap .u8 (iOr .i64 128 (bh .i64 (bM .i64 c_0 6) 63))),u8 (IntKind.wrap .u8 (iOr .i64 128 (bh .i64 c_0 63)))]))],[]⟩) rfl rfl) ?_)
 exact nx 1 rfl (mQ (oi h0) rfl (sr))
def fV (n:Nat)(s_0:Bytes)(i_1:Int):Option (Bytes×Int×Int) :=
 ck (inR (i_1+1)) <|
 if (s_0.length:Int)≤i_1+1 then
  some (([]:Bytes),0,40)
 else
  ck (inR (i_1+1)) <|
  ck ((0:Int)≤i_1+1∧i_1+1 < (s_0.length:Int)) <|
  if byt s_0 (i_1+1)=110 then
   ck (inR (i_1+2)) <|
   some (([10]:Bytes),i_1+2,0)
  else
   if byt s_0 (i_1+1)=114 then
    ck (inR (i_1+2)) <|
    some (([13]:Bytes),i_1+2,0)
   else
    if byt s_0 (i_1+1)=116 then
     ck (inR (i_1+2)) <|
     some (([9]:Bytes),i_1+2,0)
    else
     (
       if byt s_0 (i_1+1)=34 then
        some true
       else
        some (decide (byt s_0 (i_1+1)=92))
      : Option Bool).bind λ t12 =>
     if t12=true then
      ck (inR (i_1+1)) <|
      ck (inR (i_1+2)) <|
      ck ((0:Int)≤i_1+1∧i_1+1≤i_1+2∧i_1+2≤(s_0.length:Int)) <|
      ck (inR (i_1+2)) <|
      some (sub s_0 (i_1+1) (i_1+2),i_1+2,0)
     else
      if byt s_0 (i_1+1)=117 then
       ck (inR (i_1+2)) <|
       if (s_0.length:Int)≤i_1+2 then
        some (([]:Bytes),0,40)
       else
        ck (inR (i_1+2)) <|
        ck ((0:Int)≤i_1+2∧i_1+2 < (s_0.length:Int)) <|
        if byt s_0 (i_1+2)=123 then
         ck (inR (i_1+3)) <|
         (iR n s_0 (i_1+3)).bind λ r25 =>
         if r25.2.2=0 then
          (gV r25.1).bind λ r28 =>
          some (r28,r25.2.1,0)
         else
          some (([]:Bytes),0,r25.2.2)
        else
         some (([]:Bytes),0,2)
      else
       some (([]:Bytes),0,2)
theorem nR (n:Nat)(s_0:Bytes)(i_1:Int)(r:Bytes×Int×Int)(h0:fV n s_0 i_1=some r):au Tryz.prog 126 [eS s_0,eI i_1] (·=.tuple [.p (eS r.1),.p (eI r.2.1),.p (eI r.2.2)]):=by
 unfold fV at h0
 refine aH good Tryz.func126 rfl rfl rfl λ w0=>mP (λ v:Bytes×Int×Int=>.tuple [.p (eS v.1),.p (eI v.2.1),.p (eI v.2.2)]) ?_
 refine nx 10 rfl (oA h0 rfl rfl λ hk1 h0=>?_)
 refine nx 1 rfl (oLs rfl ?_)
 refine nx 2 rfl (fD [14] h0 rfl (λ c2 h0=>?_) λ c2 h0=>?_)
 ·exact nx 8 rfl (mQ (oi h0) rfl (am ⟨sr,sr,sr,trivial⟩))
 refine nx 7 rfl (oA h0 rfl rfl λ hk3 h0=>?_)
 refine oI h0 rfl λ hk4 h0=>nx 7 rfl (fD [19,20] h0 rfl (λ c5 h0=>?_) λ c5 h0=>?_)
 ·refine nx 4 rfl (oA h0 rfl rfl λ hk6 h0=>?_)
  exact nx 5 rfl (mQ (oi h0) rfl (am ⟨sr,sr,sr,trivial⟩))
 refine nx 6 rfl (fD [23,24] h0 rfl (λ c7 h0=>?_) λ c7 h0=>?_)
 ·refine nx 4 rfl (oA h0 rfl rfl λ hk8 h0=>?_)
  exact nx 5 rfl (mQ (oi h0) rfl (am ⟨sr,sr,sr,trivial⟩))
 refine nx 6 rfl (fD [27,28] h0 rfl (λ c9 h0=>?_) λ c9 h0=>?_)
 ·refine nx 4 rfl (oA h0 rfl rfl λ hk10 h0=>?_)
  exact nx 5 rfl (mQ (oi h0) rfl (am ⟨sr,sr,sr,trivial⟩))
 refine nx 2 rfl (bd h0 λ o31 h1 h0=>?_)
 refine kN o31 (λ v32=>⟨[(0,.p (eS s_0)),(1,.p (eI i_1)),(18,.p (eK .u8 (byt s_0 (i_1+1)))),(31,.p (eB v32))],[]⟩) ?_ ?_
 ·refine nx 1 rfl (fB [31] h0 rfl (λ c13 h0=>?_) λ c13 h0=>?_)
  ·refine nx 5 rfl (oA h0 rfl rfl λ hk14 h0=>?_)
   refine nx 1 rfl (oA h0 rfl rfl λ hk15 h0=>?_)
   refine oP h0 rfl rfl rfl λ hk16 h0=>nx 1 rfl (oA h0 rfl rfl λ hk17 h0=>?_)
   exact nx 5 rfl (mQ (oi h0) rfl (am ⟨sr,sr,sr,trivial⟩))
  refine nx 6 rfl (fD [42,43] h0 rfl (λ c18 h0=>?_) λ c18 h0=>?_)
  ·refine nx 5 rfl (oA h0 rfl rfl λ hk19 h0=>?_)
   refine nx 1 rfl (oLs rfl ?_)
   refine nx 2 rfl (fD [48] h0 rfl (λ c20 h0=>?_) λ c20 h0=>?_)
   ·exact nx 8 rfl (mQ (oi h0) rfl (am ⟨sr,sr,sr,trivial⟩))
   refine nx 7 rfl (oA h0 rfl rfl λ hk21 h0=>?_)
   refine oI h0 rfl λ hk22 h0=>nx 2 rfl (fN [53] h0 rfl (λ c23 h0=>?_) λ c23 h0=>?_)
   ·refine nx 6 rfl (oA h0 rfl rfl λ hk24 h0=>?_)
    refine bd h0 λ r25 e26 h0=>oK (qu _ s_0 (i_1+3) _ e26) rfl ⟨sr,sr,trivial⟩ Tryz.call143 rfl (nx 14 rfl ?_)
    refine mG (gE (t:=⟨[(7,.p (eI r25.1)),(8,.p (eI r25.2.1)),(9,.p (eI r25.2.2)),(63,.p (eB (!decide (r25.2.2=0))))],[]⟩) rfl rfl) (fN [63] h0 rfl (λ c27 h0=>?_) λ c27 h0=>?_)
    ·refine nx 5 rfl (bd h0 λ r28 e29 h0=>?_)
     refine oK (oX r25.1 _ e29) rfl ⟨sr,trivial⟩ Tryz.call144 rfl (nx 6 rfl ?_)
     exact mQ (oi h0) rfl (am ⟨sr,sr,sr,trivial⟩)
    exact nx 9 rfl (mQ (oi h0) rfl (am ⟨sr,sr,sr,trivial⟩))
   exact nx 8 rfl (mQ (oi h0) rfl (am ⟨sr,sr,sr,trivial⟩))
  exact nx 9 rfl (mQ (oi h0) rfl (am ⟨sr,sr,sr,trivial⟩))
 refine nx 5 rfl (fD [31,32] h1 rfl (λ c11 h1=>?_) λ c11 h1=>?_)
 ·exact nx 2 rfl (eX _ (oi h1).symm (gE rfl rfl))
 exact nx 5 rfl (eX _ (oi h1).symm (gE rfl rfl))
def jZ (n:Nat)(s_0:Bytes)(i_1:Int):Option (Bytes×Int×Int) :=
 ck ((0:Int)≤i_1∧i_1 < (s_0.length:Int)) <|
 if byt s_0 i_1=92 then
  (fV n s_0 i_1).bind λ r3 =>
  some (r3.1,r3.2.1,r3.2.2)
 else
  (fJ s_0 i_1).bind λ r5 =>
  (
    if r5.2=0 then
     some true
    else
     ck ((0:Int)≤i_1∧i_1 < (s_0.length:Int)) <|
     if byt s_0 i_1 < 32 then
      some true
     else
      ck ((0:Int)≤i_1∧i_1 < (s_0.length:Int)) <|
      some (decide (byt s_0 i_1=127))
   : Option Bool).bind λ t11 =>
  if t11=true then
   some (([]:Bytes),0,2)
  else
   ck (inR (i_1+r5.2)) <|
   ck ((0:Int)≤i_1∧i_1≤i_1+r5.2∧i_1+r5.2≤(s_0.length:Int)) <|
   ck (inR (i_1+r5.2)) <|
   some (sub s_0 i_1 (i_1+r5.2),i_1+r5.2,0)
theorem sc (n:Nat)(s_0:Bytes)(i_1:Int)(r:Bytes×Int×Int)(h0:jZ n s_0 i_1=some r):au Tryz.prog 96 [eS s_0,eI i_1] (·=.tuple [.p (eS r.1),.p (eI r.2.1),.p (eI r.2.2)]):=by
 unfold jZ at h0
 refine aH good Tryz.func96 rfl rfl rfl λ w0=>mP (λ v:Bytes×Int×Int=>.tuple [.p (eS v.1),.p (eI v.2.1),.p (eI v.2.2)]) ?_
 refine nx 11 rfl (oI h0 rfl λ hk1 h0=>?_)
 refine nx 2 rfl (fD [12] h0 rfl (λ c2 h0=>?_) λ c2 h0=>?_)
 ·refine nx 5 rfl (bd h0 λ r3 e4 h0=>?_)
  refine oK (nR _ s_0 i_1 _ e4) rfl ⟨sr,sr,trivial⟩ Tryz.call126 rfl (nx 8 rfl ?_)
  exact mQ (oi h0) rfl (am ⟨sr,sr,sr,trivial⟩)
 refine nx 6 rfl (bd h0 λ r5 e6 h0=>?_)
 refine oK (kz s_0 i_1 _ e6) rfl ⟨sr,sr,trivial⟩ Tryz.call70 rfl (nx 8 rfl ?_)
 refine bd h0 λ o17 h1 h0=>kN o17 (λ v18=>⟨[(0,.p (eS s_0)),(1,.p (eI i_1)),(8,.p (eI r5.2)),(38,.p (eB v18))],[]⟩) ?_ ?_
 ·refine nx 1 rfl (fB [38] h0 rfl (λ c12 h0=>?_) λ c12 h0=>?_)
  ·exact nx 8 rfl (mQ (oi h0) rfl (am ⟨sr,sr,sr,trivial⟩))
  refine nx 8 rfl (oA h0 rfl rfl λ hk13 h0=>?_)
  refine oP h0 rfl rfl rfl λ hk14 h0=>nx 2 rfl (oA h0 rfl rfl λ hk15 h0=>?_)
  exact nx 5 rfl (mQ (oi h0) rfl (am ⟨sr,sr,sr,trivial⟩))
 refine nx 4 rfl (fD [26,27] h1 rfl (λ c7 h1=>?_) λ c7 h1=>?_)
 ·exact nx 12 rfl (eX _ (oi h1).symm (gE rfl rfl))
 refine nx 2 rfl (oI h1 rfl λ hk8 h1=>?_)
 refine nx 3 rfl (fD [31,32,33] h1 rfl (λ c9 h1=>?_) λ c9 h1=>?_)
 ·exact nx 6 rfl (eX _ (oi h1).symm (gE rfl rfl))
 refine nx 2 rfl (oI h1 rfl λ hk10 h1=>?_)
 exact nx 3 rfl (eX _ (oi h1).symm (gE rfl rfl))
def du (n:Nat)(s_0:Bytes):Nat→Bytes→Int→Option (Unit⊕(Bytes×Int×Int))
 | 0,_,_=>none
 | m+1,out15,i16 =>
 if i16 < (s_0.length:Int) then
  ck ((0:Int)≤i16∧i16 < (s_0.length:Int)) <|
  if byt s_0 i16=34 then
   if 4096 < (out15.length:Int) then
    some (.inr (([]:Bytes),0,3))
   else
    ck (inR (i16+1)) <|
    some (.inr (out15,i16+1,0))
  else
   (jZ n s_0 i16).bind λ r22 =>
   if r22.2.2=0 then
    ck (out15.length+r22.1.length≤9223372036854775807) <|
    du n s_0 m (out15++r22.1) r22.2.1
   else
    some (.inr (([]:Bytes),0,r22.2.2))
 else
  some (.inl ())
def fZ (n:Nat)(s_0:Bytes):Option (Bytes×Int×Int) :=
 if (s_0.length:Int)=0 then
  some (([]:Bytes),0,40)
 else
  ck ((0:Int)≤0∧0 < (s_0.length:Int)) <|
  if byt s_0 0=34 then
   jn (du n s_0 n ([]:Bytes) 1) λ _q28 =>
   some (([]:Bytes),0,40)
  else
   some (([]:Bytes),0,2)
theorem ot (n:Nat)(s_0:Bytes)(r:Bytes×Int×Int)(h0:fZ n s_0=some r):au Tryz.prog 67 [eS s_0] (·=.tuple [.p (eS r.1),.p (eI r.2.1),.p (eI r.2.2)]):=by
 unfold fZ at h0
 refine aH good Tryz.func67 rfl rfl rfl λ w0=>mP (λ v:Bytes×Int×Int=>.tuple [.p (eS v.1),.p (eI v.2.1),.p (eI v.2.2)]) ?_
 refine nx 10 rfl (oLs rfl ?_)
 refine nx 2 rfl (fD [12] h0 rfl (λ c1 h0=>?_) λ c1 h0=>?_)
 ·exact nx 8 rfl (mQ (oi h0) rfl (am ⟨sr,sr,sr,trivial⟩))
 refine nx 6 rfl (oI h0 rfl λ hk2 h0=>?_)
 refine nx 2 rfl (fN [15] h0 rfl (λ c3 h0=>?_) λ c3 h0=>?_)
 ·refine nx 12 rfl ?_
  obtain ⟨o29,h1,hL0,hR0⟩:=cn h0
  refine kEx 0 (λ v30:Unit=>o29=.inl v30) (λ v30=>⟨[],[]⟩) (λ v30 hv=>?_) ?_
  ·have h0:=hL0 _ hv
   exact nx 8 rfl (mQ (oi h0) rfl (am ⟨sr,sr,sr,trivial⟩))
  refine lG (λ (q31:Bytes×Int)=>⟨[(0,.p (eS s_0)),(5,.p (eS q31.1)),(6,.p (eI q31.2))],[]⟩) (λ m (q31:Bytes×Int)=>du n s_0 m q31.1 q31.2) (λ _=>rfl) (([]:Bytes),1) h1 (gE rfl rfl) ?_
  rintro m ⟨out15,i16⟩ h1
  replace h1:du n s_0 (m+1) out15 i16=some o29:=h1
  rw [du] at h1
  refine nx 5 rfl (oLs rfl ?_)
  refine nx 2 rfl (fD [19] h1 rfl (λ c17 h1=>?_) λ c17 h1=>?_)
  ·refine nx 8 rfl (oI h1 rfl λ hk18 h1=>?_)
   refine nx 2 rfl (fD [23] h1 rfl (λ c19 h1=>?_) λ c19 h1=>?_)
   ·refine nx 5 rfl (oLs rfl ?_)
    refine nx 2 rfl (fD [26] h1 rfl (λ c20 h1=>?_) λ c20 h1=>?_)
    ·exact nx 8 rfl (mQ (hR0 _ (oi h1).symm) rfl (am ⟨sr,sr,sr,trivial⟩))
    refine nx 6 rfl (oA h1 rfl rfl λ hk21 h1=>?_)
    exact nx 5 rfl (mQ (hR0 _ (oi h1).symm) rfl (am ⟨sr,sr,sr,trivial⟩))
   refine nx 6 rfl (bd h1 λ r22 e23 h1=>?_)
   refine oK (sc _ s_0 i16 _ e23) rfl ⟨sr,sr,trivial⟩ Tryz.call96 rfl (nx 14 rfl ?_)
   refine fN [38] h1 rfl (λ c24 h1=>?_) λ c24 h1=>?_
   ·refine nx 6 rfl (oC h1 rfl λ hk25 h1=>?_)
    exact nx 6 rfl (eX (out15++r22.1,r22.2.1) h1 (gE rfl rfl))
   exact nx 9 rfl (mQ (hR0 _ (oi h1).symm) rfl (am ⟨sr,sr,sr,trivial⟩))
  exact nx 2 rfl (eXi _ (oi h1).symm (gE rfl rfl))
 exact nx 8 rfl (mQ (oi h0) rfl (am ⟨sr,sr,sr,trivial⟩))
def hG (v_0:ab):Option Bool :=
 (
   if v_0.fKind=2 then
    some true
   else
    if v_0.fKind=1 then
     if v_0.fNum=0 then
      some true
     else
      if v_0.fNum=1 then
       some true
      else
       some (decide (v_0.fNum=0))
    else
     some (decide (v_0.fNum=0))
  : Option Bool).bind λ num5 =>
 (
   if v_0.fKind=3 then
    some true
   else
    some (decide (v_0.fStr=([]:Bytes)))
  : Option Bool).bind λ str7 =>
 (
   if v_0.fKind=4 then
    some true
   else
    if v_0.fKind=5 then
     some true
    else
     some (decide ((v_0.fItems.length:Int)=0))
  : Option Bool).bind λ items10 =>
 (
   if v_0.fKind=5 then
    if (v_0.fKeys.length:Int)=(v_0.fItems.length:Int) then
     some true
    else
     some false
   else
    some (decide ((v_0.fKeys.length:Int)=0))
  : Option Bool).bind λ keys13 =>
 (
   if 0≤v_0.fKind then
    if v_0.fKind≤6 then
     if num5=true then
      if str7=true then
       if items10=true then
        some keys13
       else
        some false
      else
       some false
     else
      some false
    else
     some false
   else
    some false
  : Option Bool).bind λ t19 =>
 some t19
theorem pm (v_0:ab)(r:Bool)(h0:hG v_0=some r):au Tryz.prog 113 [.agg (ab.cs v_0)] (·=.p (eB r)):=by
 unfold hG at h0
 refine aH good Tryz.func113 rfl rfl rfl λ w0=>mP (λ v:Bool=>.p (eB v)) ?_
 refine nx 6 rfl (bd h0 λ o25 h1 h0=>?_)
 refine kN o25 (λ v26=>⟨[(1,.ptr 1 0),(3,.p (eB v26))],[(1,(ab.cs v_0).map .p)]⟩) ?_ ?_
 ·refine nx 2 rfl (bd h0 λ o27 h1 h0=>?_)
  refine kN o27 (λ v28=>⟨[(1,.ptr 1 0),(3,.p (eB o25)),(4,.p (eB v28))],[(1,(ab.cs v_0).map .p)]⟩) ?_ ?_
  ·refine nx 2 rfl (bd h0 λ o29 h1 h0=>?_)
   refine kN o29 (λ v30=>⟨[(1,.ptr 1 0),(3,.p (eB o25)),(4,.p (eB o27)),(5,.p (eB v30))],[(1,(ab.cs v_0).map .p)]⟩) ?_ ?_
   ·refine nx 2 rfl (bd h0 λ o31 h1 h0=>?_)
    refine kN o31 (λ v32=>⟨[(1,.ptr 1 0),(3,.p (eB o25)),(4,.p (eB o27)),(5,.p (eB o29)),(6,.p (eB v32))],[(1,(ab.cs v_0).map .p)]⟩) ?_ ?_
    ·refine nx 2 rfl (bd h0 λ o33 h1 h0=>?_)
     refine kN o33 (λ v34=>⟨[(2,.p (eB v34))],[]⟩) ?_ ?_
     ·exact nx 2 rfl (mQ (oi h0) rfl (sr))
     refine nx 5 rfl (fD [77,78] h1 rfl (λ c14 h1=>?_) λ c14 h1=>?_)
     ·refine nx 5 rfl (fD [81,82,83] h1 rfl (λ c15 h1=>?_) λ c15 h1=>?_)
      ·refine nx 3 rfl (fB [3,84,85,86] h1 rfl (λ c16 h1=>?_) λ c16 h1=>?_)
       ·refine nx 3 rfl (fB [4,87,88,89] h1 rfl (λ c17 h1=>?_) λ c17 h1=>?_)
        ·refine nx 3 rfl (fB [5,90,91,92] h1 rfl (λ c18 h1=>?_) λ c18 h1=>?_)
         ·exact nx 4 rfl (eX _ (oi h1).symm (gE rfl rfl))
         exact nx 4 rfl (eX _ (oi h1).symm (gE rfl rfl))
        exact nx 7 rfl (eX _ (oi h1).symm (gE rfl rfl))
       exact nx 10 rfl (eX _ (oi h1).symm (gE rfl rfl))
      exact nx 13 rfl (eX _ (oi h1).symm (gE rfl rfl))
     exact nx 18 rfl (eX _ (oi h1).symm (gE rfl rfl))
    refine nx 5 rfl (fD [54,55] h1 rfl (λ c11 h1=>?_) λ c11 h1=>?_)
    ·refine nx 2 rfl (oLl (f:=eS) rfl rfl ?_)
     refine nx 2 rfl (oLl (f:=ah) rfl rfl ?_)
     refine nx 3 rfl (fD [62,63,64] h1 rfl (λ c12 h1=>?_) λ c12 h1=>?_)
     ·exact nx 12 rfl (eX _ (oi h1).symm (gE rfl rfl))
     refine nx 4 rfl (lT [68] (xI c11) rfl ?_)
     exact nx 8 rfl (eX _ (oi h1).symm (gE rfl rfl))
    refine nx 13 rfl (lT [68] (yO c11) rfl ?_)
    refine nx 2 rfl (oLl (f:=eS) rfl rfl ?_)
    exact nx 5 rfl (eX _ (oi h1).symm (gE rfl rfl))
   refine nx 5 rfl (fD [40,41] h1 rfl (λ c8 h1=>?_) λ c8 h1=>?_)
   ·exact nx 12 rfl (eX _ (oi h1).symm (gE rfl rfl))
   refine nx 5 rfl (fD [44,45,46] h1 rfl (λ c9 h1=>?_) λ c9 h1=>?_)
   ·exact nx 7 rfl (eX _ (oi h1).symm (gE rfl rfl))
   refine nx 2 rfl (oLl (f:=ah) rfl rfl ?_)
   exact nx 4 rfl (eX _ (oi h1).symm (gE rfl rfl))
  refine nx 5 rfl (fD [32,33] h1 rfl (λ c6 h1=>?_) λ c6 h1=>?_)
  ·exact nx 6 rfl (eX _ (oi h1).symm (gE rfl rfl))
  refine nx 2 rfl (oS rfl rfl ?_)
  exact nx 3 rfl (eX _ (oi h1).symm (gE rfl rfl))
 refine nx 5 rfl (fD [9,10] h1 rfl (λ c1 h1=>?_) λ c1 h1=>?_)
 ·exact nx 21 rfl (eX _ (oi h1).symm (gE rfl rfl))
 refine nx 4 rfl (fD [13,14] h1 rfl (λ c2 h1=>?_) λ c2 h1=>?_)
 ·refine nx 4 rfl (fD [17,18] h1 rfl (λ c3 h1=>?_) λ c3 h1=>?_)
  ·exact nx 13 rfl (eX _ (oi h1).symm (gE rfl rfl))
  refine nx 7 rfl (fD [21,22,23,24,25] h1 rfl (λ c4 h1=>?_) λ c4 h1=>?_)
  ·exact nx 6 rfl (eX _ (oi h1).symm (gE rfl rfl))
  exact nx 6 rfl (eX _ (oi h1).symm (gE rfl rfl))
 exact nx 17 rfl (eX _ (oi h1).symm (gE rfl rfl))
def ib (n:Nat)(s_0:Bytes):Option Int :=
 if 4096 < (s_0.length:Int) then
  some 3
 else
  (eH n s_0).bind λ r2 =>
  if (!r2)=true then
   some 1
  else
   some 0
theorem mr (n:Nat)(s_0:Bytes)(r:Int)(h0:ib n s_0=some r):au Tryz.prog 114 [eS s_0] (·=.p (eI r)):=by
 unfold ib at h0
 refine aH good Tryz.func114 rfl rfl rfl λ w0=>mP (λ v:Int=>.p (eI v)) ?_
 refine nx 8 rfl (oLs rfl ?_)
 refine nx 2 rfl (fD [5] h0 rfl (λ c1 h0=>?_) λ c1 h0=>?_)
 ·exact nx 6 rfl (mQ (oi h0) rfl (sr))
 refine nx 6 rfl (bd h0 λ r2 e3 h0=>?_)
 refine oK (ju _ s_0 _ e3) rfl ⟨sr,trivial⟩ Tryz.call41 rfl (nx 2 rfl ?_)
 refine fB [8] h0 rfl (λ c4 h0=>?_) λ c4 h0=>?_
 ·exact nx 6 rfl (mQ (oi h0) rfl (sr))
 exact nx 7 rfl (mQ (oi h0) rfl (sr))
def cZ (n:Nat)(v_0:ab):Nat→Int→Option (Unit⊕Int)
 | 0,_=>none
 | m+1,i25 =>
 if i25 < (v_0.fKeys.length:Int) then
  ck ((0:Int)≤i25∧i25 < (v_0.fKeys.length:Int)) <|
  (ib n (lat v_0.fKeys i25)).bind λ r28 =>
  if r28=0 then
   (
     if 0 < i25 then
      ck (inR (i25 - 1)) <|
      ck ((0:Int)≤i25 - 1∧i25 - 1 < (v_0.fKeys.length:Int)) <|
      ck ((0:Int)≤i25∧i25 < (v_0.fKeys.length:Int)) <|
      some (!Op.bytesLess (lat v_0.fKeys (i25 - 1)) (lat v_0.fKeys i25))
     else
      some false
    : Option Bool).bind λ t35 =>
   if t35=true then
    some (.inr 1)
   else
    ck (inR (i25+1)) <|
    cZ n v_0 m (i25+1)
  else
   some (.inr r28)
 else
  some (.inl ())
def jx (n:Nat)(v_0:ab):Option Int :=
 (hG v_0).bind λ r1 =>
 if (!r1)=true then
  some 1
 else
  (
    if v_0.fKind=2 then
     (gv v_0.fNum).bind λ r5 =>
     some (!r5)
    else
     some false
   : Option Bool).bind λ t7 =>
  if t7=true then
   some 5
  else
   (ib n v_0.fStr).bind λ r9 =>
   if r9=0 then
    jn (cZ n v_0 n 0) λ _q40 =>
    some 0
   else
    some r9
theorem qQ (n:Nat)(v_0:ab)(r:Int)(h0:jx n v_0=some r):au Tryz.prog 84 [.agg (ab.cs v_0)] (·=.p (eI r)):=by
 unfold jx at h0
 refine aH good Tryz.func84 rfl rfl rfl λ w0=>mP (λ v:Int=>.p (eI v)) ?_
 refine nx 9 rfl (bd h0 λ r1 e2 h0=>?_)
 refine oK (pm v_0 _ e2) rfl ⟨sr,trivial⟩ Tryz.call113 rfl (nx 2 rfl ?_)
 refine fB [8] h0 rfl (λ c3 h0=>?_) λ c3 h0=>?_
 ·exact nx 6 rfl (mQ (oi h0) rfl (sr))
 refine nx 4 rfl (bd h0 λ o42 h1 h0=>?_)
 refine kN o42 (λ v43=>⟨[(1,.ptr 1 0),(17,.p (eB v43))],[(1,(ab.cs v_0).map .p)]⟩) ?_ ?_
 ·refine nx 1 rfl (fB [17] h0 rfl (λ c8 h0=>?_) λ c8 h0=>?_)
  ·exact nx 6 rfl (mQ (oi h0) rfl (sr))
  refine nx 7 rfl (bd h0 λ r9 e10 h0=>?_)
  refine oK (mr _ v_0.fStr _ e10) rfl ⟨sr,trivial⟩ Tryz.call114 rfl (nx 7 rfl ?_)
  refine fN [22] h0 rfl (λ c11 h0=>?_) λ c11 h0=>?_
  ·refine nx 8 rfl ?_
   obtain ⟨o44,h1,hL0,hR0⟩:=cn h0
   refine kEx 0 (λ v45:Unit=>o44=.inl v45) (λ v45=>⟨[],[]⟩) (λ v45 hv=>?_) ?_
   ·have h0:=hL0 _ hv
    exact nx 6 rfl (mQ (oi h0) rfl (sr))
   refine lG (λ (q46:Int)=>⟨[(1,.ptr 1 0),(4,.p (eI q46))],[(1,(ab.cs v_0).map .p)]⟩) (λ m (q46:Int)=>cZ n v_0 m q46) (λ _=>rfl) 0 h1 (gE rfl rfl) ?_
   rintro m i25 h1
   replace h1:cZ n v_0 (m+1) i25=some o44:=h1
   rw [cZ] at h1
   refine nx 6 rfl (oLl (f:=eS) rfl rfl ?_)
   refine nx 2 rfl (fD [28] h1 rfl (λ c26 h1=>?_) λ c26 h1=>?_)
   ·refine nx 10 rfl (oE h1 (λ _=>rfl) rfl rfl (λ _=>rfl) λ hk27 h1=>?_)
    refine nx 1 rfl (bd h1 λ r28 e29 h1=>?_)
    refine oK (mr _ (lat v_0.fKeys i25) _ e29) rfl ⟨sr,trivial⟩ Tryz.call114 rfl (nx 7 rfl ?_)
    refine fN [38] h1 rfl (λ c30 h1=>?_) λ c30 h1=>?_
    ·refine nx 3 rfl (bd h1 λ o47 h2 h1=>?_)
     refine kN o47 (λ v48=>⟨[(1,.ptr 1 0),(4,.p (eI i25)),(55,.p (eB v48))],[(1,(ab.cs v_0).map .p)]⟩) ?_ ?_
     ·refine nx 1 rfl (fB [55] h1 rfl (λ c36 h1=>?_) λ c36 h1=>?_)
      ·exact nx 6 rfl (mQ (hR0 _ (oi h1).symm) rfl (sr))
      refine nx 4 rfl (oA h1 rfl rfl λ hk37 h1=>?_)
      exact nx 2 rfl (eX (i25+1) h1 (gE rfl rfl))
     refine fD (p:=0 < i25) [] h2 rfl (λ c31 h2=>?_) λ c31 h2=>?_
     ·refine cc' h2 λ hk32 h2=>cc' h2 λ hk33 h2=>cc' h2 λ hk34 h2=>mD [(1,.ptr 1 0),(4,.p (eI i25))] rfl ⟨rfl,rfl,trivial⟩ rfl (dR 1 rfl ?_)
      refine dL (dt c31) rfl (dR 4 rfl ?_)
      refine dq (.p (eI (i25 - 1))) [42,45] rfl (λ _ e _ q=>ge (pS rfl rfl rfl (e _ _ rfl) rfl rfl hk32 q) rfl rfl (e _ _ rfl) (rfl)) rfl (dq (.rptr [eS (lat v_0.fKeys (i25 - 1))]) [42,44,46] rfl (λ _ e _ q=>ge (dQ (f:=eS) (l:=v_0.fKeys) (λ x=>[eS x]) rfl rfl rfl rfl rfl rfl (e _ _ rfl) rfl (e _ _ rfl) hk33 (λ _=>rfl) (λ _=>rfl) q) rfl rfl (e _ _ rfl) (rfl)) rfl ?_)
      refine dR 4 rfl (dq (.rptr [eS (lat v_0.fKeys i25)]) [42,50,51] rfl (λ _ e _ q=>ge (dQ (f:=eS) (l:=v_0.fKeys) (λ x=>[eS x]) rfl rfl rfl rfl rfl rfl (e _ _ rfl) rfl (e _ _ rfl) hk34 (λ _=>rfl) (λ _=>rfl) q) rfl rfl (e _ _ rfl) (rfl)) rfl ?_)
      refine dR 1 rfl (dq (.p (eB (!Op.bytesLess (lat v_0.fKeys (i25 - 1)) (lat v_0.fKeys i25)))) [42,48,53] rfl (λ _ e _ q=>ge (lS rfl rfl rfl (e _ _ rfl) (e _ _ rfl) rfl q) rfl rfl (e _ _ rfl) (rfl)) rfl ?_)
      refine dR 1 rfl (dE rfl ?_)
      exact nx 1 rfl (eX _ (oi h2).symm (gE rfl rfl))
     refine mD [(1,.ptr 1 0),(4,.p (eI i25))] rfl ⟨rfl,rfl,trivial⟩ rfl (dR 1 rfl ?_)
     refine dL (df c31) rfl (dR 14 rfl ?_)
     refine dE rfl (nx 1 rfl ?_)
     exact eX _ (oi h2).symm (gE rfl rfl)
    exact nx 7 rfl (mQ (hR0 _ (oi h1).symm) rfl (sr))
   exact nx 2 rfl (eXi _ (oi h1).symm (gE rfl rfl))
  exact nx 7 rfl (mQ (oi h0) rfl (sr))
 refine nx 5 rfl (fD [11,12] h1 rfl (λ c4 h1=>?_) λ c4 h1=>?_)
 ·refine nx 2 rfl (bd h1 λ r5 e6 h1=>?_)
  refine oK (lq v_0.fNum _ e6) rfl ⟨sr,trivial⟩ Tryz.call98 rfl (nx 3 rfl ?_)
  exact eX _ (oi h1).symm (gE rfl rfl)
 exact nx 6 rfl (eX _ (oi h1).symm (gE rfl rfl))
def cF (r_ref07_check:ab→Int→Int→Option (Int×Int))(v_0:ab)(level_1:Int):Nat→Int→Int→Option (Int⊕(Int×Int))
 | 0,_,_=>none
 | m+1,n16,i17 =>
 if i17 < (v_0.fItems.length:Int) then
  ck ((0:Int)≤i17∧i17 < (v_0.fItems.length:Int)) <|
  ck (inR (level_1+1)) <|
  (r_ref07_check (lat v_0.fItems i17) (level_1+1) n16).bind λ r21 =>
  if r21.1=0 then
   ck (inR (i17+1)) <|
   cF r_ref07_check v_0 level_1 m r21.2 (i17+1)
  else
   some (.inr (r21.1,r21.2))
 else
  some (.inl n16)
def dB:Nat→ab→Int→Int→Option (Int×Int)
 | 0,_,_,_=>none
 | n+1,v_0,level_1,before_2 =>
 if 32 < level_1 then
  some (4,before_2)
 else
  if 4096≤before_2 then
   some (14,before_2)
  else
   (jx n v_0).bind λ r3 =>
   if r3=0 then
    ck (inR (before_2+1)) <|
    jn (cF (dB n) v_0 level_1 n (before_2+1) 0) λ n27 =>
    some (0,n27)
   else
    some (r3,before_2)
theorem pG (n:Nat):∀ (v_0:ab) (level_1:Int) (before_2:Int) (r:Int×Int),dB n v_0 level_1 before_2=some r→au Tryz.prog 58 [.agg (ab.cs v_0),eI level_1,eI before_2] (·=.tuple [.p (eI r.1),.p (eI r.2)]):=by
 induction n with
 | zero=>intro v_0 level_1 before_2 r h0; cases h0
 | succ n ih =>
 have ih_ref07_check_ok:=ih
 intro v_0 level_1 before_2 r h0
 rw [dB] at h0
 refine aH good Tryz.func58 rfl rfl rfl λ w0=>mP (λ v:Int×Int=>.tuple [.p (eI v.1),.p (eI v.2)]) ?_
 refine nx 12 rfl (fD [14] h0 rfl (λ c1 h0=>?_) λ c1 h0=>?_)
 ·exact nx 8 rfl (mQ (oi h0) rfl (am ⟨sr,sr,trivial⟩))
 refine nx 8 rfl (fD [17] h0 rfl (λ c2 h0=>?_) λ c2 h0=>?_)
 ·exact nx 8 rfl (mQ (oi h0) rfl (am ⟨sr,sr,trivial⟩))
 refine nx 6 rfl (bd h0 λ r3 e4 h0=>?_)
 refine oK (qQ _ v_0 _ e4) rfl ⟨sr,trivial⟩ Tryz.call84 rfl (nx 7 rfl ?_)
 refine fN [22] h0 rfl (λ c5 h0=>?_) λ c5 h0=>?_
 ·refine nx 5 rfl (oA h0 rfl rfl λ hk6 h0=>?_)
  refine nx 8 rfl ?_
  obtain ⟨o29,h1,hL0,hR0⟩:=cn h0
  refine kEx 0 (λ v30:Int=>o29=.inl v30) (λ v30=>⟨[(9,.p (eI v30))],[]⟩) (λ v30 hv=>?_) ?_
  ·have h0:=hL0 _ hv
   exact nx 8 rfl (mQ (oi h0) rfl (am ⟨sr,sr,trivial⟩))
  refine lG (λ (q31:Int×Int)=>⟨[(1,.p (eI level_1)),(3,.ptr 3 0),(9,.p (eI q31.1)),(10,.p (eI q31.2))],[(3,(ab.cs v_0).map .p)]⟩) (λ m (q31:Int×Int)=>cF (dB n) v_0 level_1 m q31.1 q31.2) (λ _=>rfl) (before_2+1,0) h1 (gE rfl rfl) ?_
  rintro m ⟨n16,i17⟩ h1
  replace h1:cF (dB n) v_0 level_1 (m+1) n16 i17=some o29:=h1
  rw [cF] at h1
  refine nx 6 rfl (oLl (f:=ah) rfl rfl ?_)
  refine nx 2 rfl (fD [31] h1 rfl (λ c18 h1=>?_) λ c18 h1=>?_)
  ·refine nx 9 rfl (oE h1 ab.cells_eq rfl rfl (λ _=>rfl) λ hk19 h1=>?_)
   refine nx 2 rfl (oA h1 rfl rfl λ hk20 h1=>?_)
   refine nx 1 rfl (bd h1 λ r21 e22 h1=>?_)
   refine oK (ih_ref07_check_ok (lat v_0.fItems i17) (level_1+1) n16 _ e22) rfl ⟨sr,sr,sr,trivial⟩ Tryz.call58 rfl (nx 12 rfl ?_)
   refine fN [47] h1 rfl (λ c23 h1=>?_) λ c23 h1=>?_
   ·refine nx 8 rfl (oA h1 rfl rfl λ hk24 h1=>?_)
    exact nx 2 rfl (eX (r21.2,i17+1) h1 (gE rfl rfl))
   refine nx 8 rfl (mG (gE (t:=⟨[(6,.p (eI r21.1)),(7,.p (eI r21.2))],[]⟩) rfl rfl) ?_)
   exact nx 1 rfl (mQ (hR0 _ (oi h1).symm) rfl (am ⟨sr,sr,trivial⟩))
  exact nx 2 rfl (eXi _ (oi h1).symm (gE rfl rfl))
 exact nx 9 rfl (mQ (oi h0) rfl (am ⟨sr,sr,trivial⟩))
def gJ (n:Nat)(v_0:ab):Option Int :=
 (dB n v_0 1 0).bind λ r1 =>
 some r1.1
theorem lz (n:Nat)(v_0:ab)(r:Int)(h0:gJ n v_0=some r):au Tryz.prog 27 [.agg (ab.cs v_0)] (·=.p (eI r)):=by
 unfold gJ at h0
 refine aH good Tryz.func27 rfl rfl rfl λ w0=>mP (λ v:Int=>.p (eI v)) ?_
 refine nx 8 rfl (bd h0 λ r1 e2 h0=>?_)
 refine oK (pG _ v_0 1 0 _ e2) rfl ⟨sr,sr,sr,trivial⟩ Tryz.call58 rfl (nx 12 rfl ?_)
 exact mQ (oi h0) rfl (sr)
def dA (a_0:ab)(b_1:ab):Nat→Int→Option (Unit⊕Bool)
 | 0,_=>none
 | m+1,i13 =>
 if i13 < (a_0.fKeys.length:Int) then
  ck ((0:Int)≤i13∧i13 < (a_0.fKeys.length:Int)) <|
  ck ((0:Int)≤i13∧i13 < (b_1.fKeys.length:Int)) <|
  if lat a_0.fKeys i13=lat b_1.fKeys i13 then
   ck (inR (i13+1)) <|
   dA a_0 b_1 m (i13+1)
  else
   some (.inr false)
 else
  some (.inl ())
def dI (r_ref07_Equal:ab→ab→Option Bool)(a_0:ab)(b_1:ab):Nat→Int→Option (Unit⊕Bool)
 | 0,_=>none
 | m+1,i28 =>
 if i28 < (a_0.fItems.length:Int) then
  ck ((0:Int)≤i28∧i28 < (a_0.fItems.length:Int)) <|
  ck ((0:Int)≤i28∧i28 < (b_1.fItems.length:Int)) <|
  (r_ref07_Equal (lat a_0.fItems i28) (lat b_1.fItems i28)).bind λ r32 =>
  if (!r32)=true then
   some (.inr false)
  else
   ck (inR (i28+1)) <|
   dI r_ref07_Equal a_0 b_1 m (i28+1)
 else
  some (.inl ())
def eq:Nat→ab→ab→Option Bool
 | 0,_,_=>none
 | n+1,a_0,b_1 =>
 (
   if a_0.fKind=b_1.fKind then
    if a_0.fNum=b_1.fNum then
     if a_0.fStr=b_1.fStr then
      if (a_0.fItems.length:Int)=(b_1.fItems.length:Int) then
       some (!decide ((a_0.fKeys.length:Int)=(b_1.fKeys.length:Int)))
      else
       some true
     else
      some true
    else
     some true
   else
    some true
  : Option Bool).bind λ t5 =>
 if t5=true then
  some false
 else
  jn (dA a_0 b_1 n 0) λ _q38 =>
  jn (dI (eq n) a_0 b_1 n 0) λ _q39 =>
  some true
theorem qf (n:Nat):∀ (a_0:ab) (b_1:ab) (r:Bool),eq n a_0 b_1=some r→au Tryz.prog 22 [.agg (ab.cs a_0),.agg (ab.cs b_1)] (·=.p (eB r)):=by
 induction n with
 | zero=>intro a_0 b_1 r h0; cases h0
 | succ n ih =>
 have ih_ref07_Equal_ok:=ih
 intro a_0 b_1 r h0
 rw [eq] at h0
 refine aH good Tryz.func22 rfl rfl rfl λ w0=>mP (λ v:Bool=>.p (eB v)) ?_
 refine nx 8 rfl (bd h0 λ o40 h1 h0=>?_)
 refine kN o40 (λ v41=>⟨[(2,.ptr 2 0),(3,.ptr 3 0),(43,.p (eB v41))],[(2,(ab.cs a_0).map .p),(3,(ab.cs b_1).map .p)]⟩) ?_ ?_
 ·refine nx 1 rfl (fB [43] h0 rfl (λ c6 h0=>?_) λ c6 h0=>?_)
  ·exact nx 6 rfl (mQ (oi h0) rfl (sr))
  refine nx 8 rfl ?_
  obtain ⟨o42,h1,hL0,hR0⟩:=cn h0
  refine kEx 0 (λ v43:Unit=>o42=.inl v43) (λ v43=>⟨[(2,.ptr 2 0),(3,.ptr 3 0)],[(2,(ab.cs a_0).map .p),(3,(ab.cs b_1).map .p)]⟩) (λ v43 hv=>?_) ?_
  ·have h0:=hL0 _ hv
   refine nx 7 rfl ?_
   obtain ⟨o44,h1,hL0,hR0⟩:=cn h0
   refine kEx 2 (λ v45:Unit=>o44=.inl v45) (λ v45=>⟨[],[]⟩) (λ v45 hv=>?_) ?_
   ·have h0:=hL0 _ hv
    exact nx 6 rfl (mQ (oi h0) rfl (sr))
   refine lG (λ (q46:Int)=>⟨[(2,.ptr 2 0),(3,.ptr 3 0),(6,.p (eI q46))],[(2,(ab.cs a_0).map .p),(3,(ab.cs b_1).map .p)]⟩) (λ m (q46:Int)=>dI (eq n) a_0 b_1 m q46) (λ _=>rfl) 0 h1 (gE rfl rfl) ?_
   rintro m i28 h1
   replace h1:dI (eq n) a_0 b_1 (m+1) i28=some o44:=h1
   rw [dI] at h1
   refine nx 6 rfl (oLl (f:=ah) rfl rfl ?_)
   refine nx 2 rfl (fD [66] h1 rfl (λ c29 h1=>?_) λ c29 h1=>?_)
   ·refine nx 5 rfl (cc' h1 λ hk30 h1=>?_)
    refine cc' h1 λ hk31 h1=>bd h1 λ r32 e33 h1=>mD [(2,.ptr 2 0),(3,.ptr 3 0),(6,.p (eI i28))] rfl ⟨rfl,rfl,rfl,trivial⟩ rfl (dR 3 rfl ?_)
    refine dq (.rptr (ab.cs (lat a_0.fItems i28))) [70,71] rfl (λ _ e _ q=>af rfl (dQ (f:=ah) (l:=a_0.fItems) ab.cs rfl rfl rfl rfl rfl rfl (e _ _ rfl) rfl (e _ _ rfl) hk30 ab.cells_eq (λ _=>rfl) q)) rfl (dR 4 rfl ?_)
    refine dq (.rptr (ab.cs (lat b_1.fItems i28))) [75,76] rfl (λ _ e _ q=>af rfl (dQ (f:=ah) (l:=b_1.fItems) ab.cs rfl rfl rfl rfl rfl rfl (e _ _ rfl) rfl (e _ _ rfl) hk31 ab.cells_eq (λ _=>rfl) q)) rfl (dR 1 rfl ?_)
    refine dq (.p (eB r32)) [73,78] rfl (λ _ e _ q=>af rfl (aF (ih_ref07_Equal_ok (lat a_0.fItems i28) (lat b_1.fItems i28) _ e33) rfl rfl rfl (aj (e _ _ rfl) (aj (e _ _ rfl) aE)) ⟨sr,sr,trivial⟩ Tryz.call22 rfl q)) rfl (dR 1 rfl ?_)
    refine dE rfl (nx 1 rfl ?_)
    refine fB [80] h1 rfl (λ c34 h1=>?_) λ c34 h1=>?_
    ·exact nx 6 rfl (mQ (hR0 _ (oi h1).symm) rfl (sr))
    refine nx 4 rfl (oA h1 rfl rfl λ hk35 h1=>?_)
    exact nx 2 rfl (eX (i28+1) h1 (gE rfl rfl))
   exact nx 2 rfl (eXi _ (oi h1).symm (gE rfl rfl))
  refine lG (λ (q47:Int)=>⟨[(2,.ptr 2 0),(3,.ptr 3 0),(5,.p (eI q47))],[(2,(ab.cs a_0).map .p),(3,(ab.cs b_1).map .p)]⟩) (λ m (q47:Int)=>dA a_0 b_1 m q47) (λ _=>rfl) 0 h1 (gE rfl rfl) ?_
  rintro m i13 h1
  replace h1:dA a_0 b_1 (m+1) i13=some o42:=h1
  rw [dA] at h1
  refine nx 6 rfl (oLl (f:=eS) rfl rfl ?_)
  refine nx 2 rfl (fD [48] h1 rfl (λ c14 h1=>?_) λ c14 h1=>?_)
  ·refine nx 5 rfl (cc' h1 λ hk15 h1=>?_)
   refine cc' h1 λ hk16 h1=>mD [(2,.ptr 2 0),(3,.ptr 3 0),(5,.p (eI i13))] rfl ⟨rfl,rfl,rfl,trivial⟩ rfl (dR 3 rfl ?_)
   refine dq (.rptr [eS (lat a_0.fKeys i13)]) [52,53] rfl (λ _ e _ q=>af rfl (dQ (f:=eS) (l:=a_0.fKeys) (λ x=>[eS x]) rfl rfl rfl rfl rfl rfl (e _ _ rfl) rfl (e _ _ rfl) hk15 (λ _=>rfl) (λ _=>rfl) q)) rfl (dR 4 rfl ?_)
   refine dq (.rptr [eS (lat b_1.fKeys i13)]) [57,58] rfl (λ _ e _ q=>af rfl (dQ (f:=eS) (l:=b_1.fKeys) (λ x=>[eS x]) rfl rfl rfl rfl rfl rfl (e _ _ rfl) rfl (e _ _ rfl) hk16 (λ _=>rfl) (λ _=>rfl) q)) rfl (dR 1 rfl ?_)
   refine dq (.p (eB (!decide (lat a_0.fKeys i13=lat b_1.fKeys i13)))) [55,60] rfl (λ _ e _ q=>af rfl (lS rfl rfl rfl (e _ _ rfl) (e _ _ rfl) rfl q)) rfl (dE rfl ?_)
   refine nx 1 rfl (fN [61] h1 rfl (λ c17 h1=>?_) λ c17 h1=>?_)
   ·refine nx 4 rfl (oA h1 rfl rfl λ hk18 h1=>?_)
    exact nx 2 rfl (eX (i13+1) h1 (gE rfl rfl))
   exact nx 6 rfl (mQ (hR0 _ (oi h1).symm) rfl (sr))
  exact nx 2 rfl (eXi _ (oi h1).symm (gE rfl rfl))
 refine nx 7 rfl (fN [11,12] h1 rfl (λ c1 h1=>?_) λ c1 h1=>?_)
 ·refine nx 7 rfl (fN [17,18,19] h1 rfl (λ c2 h1=>?_) λ c2 h1=>?_)
  ·refine nx 4 rfl (oS rfl rfl ?_)
   refine nx 2 rfl (fN [24,25,26] h1 rfl (λ c3 h1=>?_) λ c3 h1=>?_)
   ·refine nx 2 rfl (oLl (f:=ah) rfl rfl ?_)
    refine nx 2 rfl (oLl (f:=ah) rfl rfl ?_)
    refine nx 3 rfl (fN [33,34,35] h1 rfl (λ c4 h1=>?_) λ c4 h1=>?_)
    ·refine nx 2 rfl (oLl (f:=eS) rfl rfl ?_)
     refine nx 2 rfl (oLl (f:=eS) rfl rfl ?_)
     exact nx 3 rfl (eX _ (oi h1).symm (gE rfl rfl))
    exact nx 9 rfl (eX _ (oi h1).symm (gE rfl rfl))
   exact nx 18 rfl (eX _ (oi h1).symm (gE rfl rfl))
  exact nx 25 rfl (eX _ (oi h1).symm (gE rfl rfl))
 exact nx 32 rfl (eX _ (oi h1).symm (gE rfl rfl))
def cX (r_ref07_left:ab→Int→Int→Option Int)(v_0:ab)(levels_2:Int):Nat→Int→Int→Option Int
 | 0,_,_=>none
 | m+1,n15,i16 =>
 (
   if i16 < (v_0.fItems.length:Int) then
    some (decide (0≤n15))
   else
    some false
  : Option Bool).bind λ t18 =>
 if t18=true then
  ck ((0:Int)≤i16∧i16 < (v_0.fItems.length:Int)) <|
  ck (inR (levels_2 - 1)) <|
  (r_ref07_left (lat v_0.fItems i16) n15 (levels_2 - 1)).bind λ r22 =>
  ck (inR (i16+1)) <|
  cX r_ref07_left v_0 levels_2 m r22 (i16+1)
 else
  some n15
def d5:Nat→ab→Int→Int→Option Int
 | 0,_,_,_=>none
 | n+1,v_0,nodes_1,levels_2 =>
 (
   if nodes_1 < 1 then
    some true
   else
    some (decide (levels_2 < 1))
  : Option Bool).bind λ t2 =>
 if t2=true then
  some (-1)
 else
  ck (inR (nodes_1 - 1)) <|
  (cX (d5 n) v_0 levels_2 n (nodes_1 - 1) 0).bind λ n27 =>
  some n27
theorem qH (n:Nat):∀ (v_0:ab) (nodes_1:Int) (levels_2:Int) (r:Int),d5 n v_0 nodes_1 levels_2=some r→au Tryz.prog 56 [.agg (ab.cs v_0),eI nodes_1,eI levels_2] (·=.p (eI r)):=by
 induction n with
 | zero=>intro v_0 nodes_1 levels_2 r h0; cases h0
 | succ n ih =>
 have ih_ref07_left_ok:=ih
 intro v_0 nodes_1 levels_2 r h0
 rw [d5] at h0
 refine aH good Tryz.func56 rfl rfl rfl λ w0=>mP (λ v:Int=>.p (eI v)) ?_
 refine nx 7 rfl (bd h0 λ o31 h1 h0=>?_)
 refine kN o31 (λ v32=>⟨[(1,.p (eI nodes_1)),(2,.p (eI levels_2)),(3,.ptr 3 0),(14,.p (eB v32))],[(3,(ab.cs v_0).map .p)]⟩) ?_ ?_
 ·refine nx 1 rfl (fB [14] h0 rfl (λ c3 h0=>?_) λ c3 h0=>?_)
  ·exact nx 6 rfl (mQ (oi h0) rfl (sr))
  refine nx 5 rfl (oA h0 rfl rfl λ hk4 h0=>?_)
  refine nx 8 rfl (bd h0 λ o33 h1 h0=>?_)
  refine kE 0 o33 (λ v34=>⟨[(7,.p (eI v34))],[]⟩) ?_ ?_
  ·exact nx 7 rfl (mQ (oi h0) rfl (sr))
  refine lG (λ (q35:Int×Int)=>⟨[(2,.p (eI levels_2)),(3,.ptr 3 0),(7,.p (eI q35.1)),(8,.p (eI q35.2))],[(3,(ab.cs v_0).map .p)]⟩) (λ m (q35:Int×Int)=>cX (d5 n) v_0 levels_2 m q35.1 q35.2) (λ _=>rfl) (nodes_1 - 1,0) h1 (gE rfl rfl) ?_
  rintro m ⟨n15,i16⟩ h1
  replace h1:cX (d5 n) v_0 levels_2 (m+1) n15 i16=some o33:=h1
  rw [cX] at h1
  refine nx 2 rfl (bd h1 λ o36 h2 h1=>?_)
  refine kN o36 (λ v37=>⟨[(2,.p (eI levels_2)),(3,.ptr 3 0),(7,.p (eI n15)),(8,.p (eI i16)),(25,.p (eB v37))],[(3,(ab.cs v_0).map .p)]⟩) ?_ ?_
  ·refine nx 1 rfl (fB [25] h1 rfl (λ c19 h1=>?_) λ c19 h1=>?_)
   ·refine nx 8 rfl (oE h1 ab.cells_eq rfl rfl (λ _=>rfl) λ hk20 h1=>?_)
    refine nx 3 rfl (oA h1 rfl rfl λ hk21 h1=>?_)
    refine bd h1 λ r22 e23 h1=>oK (ih_ref07_left_ok (lat v_0.fItems i16) n15 (levels_2 - 1) _ e23) rfl ⟨sr,sr,sr,trivial⟩ Tryz.call56 rfl (nx 4 rfl ?_)
    exact oA h1 rfl rfl λ hk24 h1=>nx 2 rfl (eX (r22,i16+1) h1 (gE rfl rfl))
   exact nx 2 rfl (eXi _ (oi h1).symm (gE rfl rfl))
  refine nx 4 rfl (oLl (f:=ah) rfl rfl ?_)
  refine nx 2 rfl (fD [21,22] h2 rfl (λ c17 h2=>?_) λ c17 h2=>?_)
  ·exact nx 4 rfl (eX _ (oi h2).symm (gE rfl rfl))
  exact nx 4 rfl (eX _ (oi h2).symm (gE rfl rfl))
 refine nx 4 rfl (fD [10,11] h1 rfl (λ c1 h1=>?_) λ c1 h1=>?_)
 ·exact nx 4 rfl (eX _ (oi h1).symm (gE rfl rfl))
 exact nx 4 rfl (eX _ (oi h1).symm (gE rfl rfl))
def cT (r_ref07_keys:ab→Option Int)(v_0:ab):Nat→Int→Int→Option Int
 | 0,_,_=>none
 | m+1,n9,i10 =>
 if i10 < (v_0.fItems.length:Int) then
  ck ((0:Int)≤i10∧i10 < (v_0.fItems.length:Int)) <|
  (r_ref07_keys (lat v_0.fItems i10)).bind λ r13 =>
  ck (inR (n9+r13)) <|
  ck (inR (i10+1)) <|
  cT r_ref07_keys v_0 m (n9+r13) (i10+1)
 else
  some n9
def d8:Nat→ab→Option Int
 | 0,_=>none
 | n+1,v_0 =>
 (cT (d8 n) v_0 n (v_0.fKeys.length:Int) 0).bind λ n19 =>
 some n19
theorem qF (n:Nat):∀ (v_0:ab) (r:Int),d8 n v_0=some r→au Tryz.prog 57 [.agg (ab.cs v_0)] (·=.p (eI r)):=by
 induction n with
 | zero=>intro v_0 r h0; cases h0
 | succ n ih =>
 have ih_ref07_keys_ok:=ih
 intro v_0 r h0
 rw [d8] at h0
 refine aH good Tryz.func57 rfl rfl rfl λ w0=>mP (λ v:Int=>.p (eI v)) ?_
 refine nx 9 rfl (oLl (f:=eS) rfl rfl ?_)
 refine nx 8 rfl (bd h0 λ o21 h1 h0=>?_)
 refine kE 0 o21 (λ v22=>⟨[(3,.p (eI v22))],[]⟩) ?_ ?_
 ·exact nx 7 rfl (mQ (oi h0) rfl (sr))
 refine lG (λ (q23:Int×Int)=>⟨[(1,.ptr 1 0),(3,.p (eI q23.1)),(4,.p (eI q23.2))],[(1,(ab.cs v_0).map .p)]⟩) (λ m (q23:Int×Int)=>cT (d8 n) v_0 m q23.1 q23.2) (λ _=>rfl) ((v_0.fKeys.length:Int),0) h1 (gE rfl rfl) ?_
 rintro m ⟨n9,i10⟩ h1
 replace h1:cT (d8 n) v_0 (m+1) n9 i10=some o21:=h1
 rw [cT] at h1
 refine nx 6 rfl (oLl (f:=ah) rfl rfl ?_)
 refine nx 2 rfl (fD [12] h1 rfl (λ c11 h1=>?_) λ c11 h1=>?_)
 ·refine nx 9 rfl (oE h1 ab.cells_eq rfl rfl (λ _=>rfl) λ hk12 h1=>?_)
  refine nx 1 rfl (bd h1 λ r13 e14 h1=>?_)
  refine oK (ih_ref07_keys_ok (lat v_0.fItems i10) _ e14) rfl ⟨sr,trivial⟩ Tryz.call57 rfl (oA h1 rfl rfl λ hk15 h1=>?_)
  refine nx 4 rfl (oA h1 rfl rfl λ hk16 h1=>?_)
  exact nx 2 rfl (eX (n9+r13,i10+1) h1 (gE rfl rfl))
 exact nx 2 rfl (eXi _ (oi h1).symm (gE rfl rfl))
def gC (n:Nat)(v_0:ab)(nodes_1:Int):Option Bool :=
 (
   (d5 n v_0 nodes_1 40).bind λ r1 =>
   if 0≤r1 then
    (d8 n v_0).bind λ r4 =>
    ck (inR (2*nodes_1)) <|
    some (decide (r4≤2*nodes_1))
   else
    some false
  : Option Bool).bind λ t7 =>
 some t7
theorem lf (n:Nat)(v_0:ab)(nodes_1:Int)(r:Bool)(h0:gC n v_0 nodes_1=some r):au Tryz.prog 26 [.agg (ab.cs v_0),eI nodes_1] (·=.p (eB r)):=by
 unfold gC at h0
 refine aH good Tryz.func26 rfl rfl rfl λ w0=>mP (λ v:Bool=>.p (eB v)) ?_
 refine nx 6 rfl (bd h0 λ o9 h1 h0=>?_)
 refine kN o9 (λ v10=>⟨[(4,.p (eB v10))],[]⟩) ?_ ?_
 ·exact nx 2 rfl (mQ (oi h0) rfl (sr))
 refine nx 3 rfl (bd h1 λ r1 e2 h1=>?_)
 refine oK (qH _ v_0 nodes_1 40 _ e2) rfl ⟨sr,sr,sr,trivial⟩ Tryz.call56 rfl (nx 2 rfl ?_)
 refine fD [8,9] h1 rfl (λ c3 h1=>?_) λ c3 h1=>?_
 ·refine nx 1 rfl (bd h1 λ r4 e5 h1=>?_)
  refine oK (qF _ v_0 _ e5) rfl ⟨sr,trivial⟩ Tryz.call57 rfl (nx 1 rfl ?_)
  exact oA h1 rfl rfl λ hk6 h1=>nx 4 rfl (eX _ (oi h1).symm (gE rfl rfl))
 exact nx 8 rfl (eX _ (oi h1).symm (gE rfl rfl))
def gA (n:Nat)(v_0:ab):Option Bool :=
 (
   (gC n v_0 200).bind λ r1 =>
   if r1=true then
    (gJ n v_0).bind λ r4 =>
    some (decide (r4=0))
   else
    some false
  : Option Bool).bind λ t6 =>
 some t6
theorem ls (n:Nat)(v_0:ab)(r:Bool)(h0:gA n v_0=some r):au Tryz.prog 15 [.agg (ab.cs v_0)] (·=.p (eB r)):=by
 unfold gA at h0
 refine aH good Tryz.func15 rfl rfl rfl λ w0=>mP (λ v:Bool=>.p (eB v)) ?_
 refine nx 6 rfl (bd h0 λ o8 h1 h0=>?_)
 refine kN o8 (λ v9=>⟨[(2,.p (eB v9))],[]⟩) ?_ ?_
 ·exact nx 2 rfl (mQ (oi h0) rfl (sr))
 refine nx 2 rfl (bd h1 λ r1 e2 h1=>?_)
 refine oK (lf _ v_0 200 _ e2) rfl ⟨sr,sr,trivial⟩ Tryz.call26 rfl (nx 1 rfl ?_)
 refine fB [4,5] h1 rfl (λ c3 h1=>?_) λ c3 h1=>?_
 ·refine nx 1 rfl (bd h1 λ r4 e5 h1=>?_)
  refine oK (lz _ v_0 _ e5) rfl ⟨sr,trivial⟩ Tryz.call27 rfl (nx 4 rfl ?_)
  exact eX _ (oi h1).symm (gE rfl rfl)
 exact nx 6 rfl (eX _ (oi h1).symm (gE rfl rfl))
def dc (n:Nat)(p_0:List aa):Nat→Int→Option (Unit⊕Int)
 | 0,_=>none
 | m+1,i21 =>
 if i21 < (p_0.length:Int) then
  ck ((0:Int)≤i21∧i21 < (p_0.length:Int)) <|
  (
    if ((lat p_0 i21).fIndex)=true then
     if (lat p_0 i21).fName=([]:Bytes) then
      if (!((lat p_0 i21).fIndex))=true then
       if (lat p_0 i21).fNum=0 then
        (eH n ((lat p_0 i21).fName)).bind λ r28 =>
        some (!r28)
       else
        some true
      else
       some false
     else
      some true
    else
     if (!((lat p_0 i21).fIndex))=true then
      if (lat p_0 i21).fNum=0 then
       (eH n ((lat p_0 i21).fName)).bind λ r32 =>
       some (!r32)
      else
       some true
     else
      some false
   : Option Bool).bind λ t34 =>
  if t34=true then
   some (.inr 1)
  else
   (
     if (lat p_0 i21).fNum < 0 then
      some true
     else
      some (decide (9007199254740992 < (lat p_0 i21).fNum))
    : Option Bool).bind λ t37 =>
   if t37=true then
    some (.inr 5)
   else
    ck (inR (i21+1)) <|
    dc n p_0 m (i21+1)
 else
  some (.inl ())
def gB (n:Nat)(p_0:List aa):Option Int :=
 if 32 < (p_0.length:Int) then
  some 4
 else
  jn (dc n p_0 n 0) λ _q41 =>
  some 0
theorem kZ (n:Nat)(p_0:List aa)(r:Int)(h0:gB n p_0=some r):au Tryz.prog 17 [eL ae p_0] (·=.p (eI r)):=by
 unfold gB at h0
 refine aH good Tryz.func17 rfl rfl rfl λ w0=>mP (λ v:Int=>.p (eI v)) ?_
 refine nx 8 rfl (oLl (f:=ae) rfl rfl ?_)
 refine nx 2 rfl (fD [7] h0 rfl (λ c1 h0=>?_) λ c1 h0=>?_)
 ·exact nx 6 rfl (mQ (oi h0) rfl (sr))
 refine nx 8 rfl ?_
 obtain ⟨o44,h1,hL0,hR0⟩:=cn h0
 refine kEx 0 (λ v45:Unit=>o44=.inl v45) (λ v45=>⟨[],[]⟩) (λ v45 hv=>?_) ?_
 ·have h0:=hL0 _ hv
  exact nx 6 rfl (mQ (oi h0) rfl (sr))
 refine lG (λ (q46:Int)=>⟨[(0,.p (eL ae p_0)),(3,.p (eI q46))],[]⟩) (λ m (q46:Int)=>dc n p_0 m q46) (λ _=>rfl) 0 h1 (gE rfl rfl) ?_
 rintro m i21 h1
 replace h1:dc n p_0 (m+1) i21=some o44:=h1
 rw [dc] at h1
 refine nx 5 rfl (oLl (f:=ae) rfl rfl ?_)
 refine nx 2 rfl (fD [11] h1 rfl (λ c22 h1=>?_) λ c22 h1=>?_)
 ·refine nx 8 rfl (oE h1 aa.cells_eq rfl rfl (λ _=>rfl) λ hk23 h1=>?_)
  refine nx 6 rfl (bd h1 λ o47 h2 h1=>?_)
  refine kN o47 (λ v48=>⟨[(0,.p (eL ae p_0)),(3,.p (eI i21)),(4,.ptr 4 0),(40,.p (eB v48))],[(4,(aa.cs (lat p_0 i21)).map .p)]⟩) ?_ ?_
  ·refine nx 1 rfl (fB [40] h1 rfl (λ c35 h1=>?_) λ c35 h1=>?_)
   ·exact nx 6 rfl (mQ (hR0 _ (oi h1).symm) rfl (sr))
   refine nx 3 rfl (bd h1 λ o49 h2 h1=>?_)
   refine kN o49 (λ v50=>⟨[(0,.p (eL ae p_0)),(3,.p (eI i21)),(48,.p (eB v50))],[]⟩) ?_ ?_
   ·refine nx 1 rfl (fB [48] h1 rfl (λ c38 h1=>?_) λ c38 h1=>?_)
    ·exact nx 6 rfl (mQ (hR0 _ (oi h1).symm) rfl (sr))
    refine nx 4 rfl (oA h1 rfl rfl λ hk39 h1=>?_)
    exact nx 2 rfl (eX (i21+1) h1 (gE rfl rfl))
   refine nx 5 rfl (fD [43,44] h2 rfl (λ c36 h2=>?_) λ c36 h2=>?_)
   ·exact nx 5 rfl (eX _ (oi h2).symm (gE rfl rfl))
   exact nx 5 rfl (eX _ (oi h2).symm (gE rfl rfl))
  refine nx 4 rfl (fB [19,20] h2 rfl (λ c24 h2=>?_) λ c24 h2=>?_)
  ·refine nx 2 rfl (oS rfl rfl ?_)
   refine nx 2 rfl (fN [23,24,25] h2 rfl (λ c25 h2=>?_) λ c25 h2=>?_)
   ·refine nx 4 rfl (fB [28,29] h2 rfl (λ c26 h2=>?_) λ c26 h2=>?_)
    ·refine nx 4 rfl (fN [32,33] h2 rfl (λ c27 h2=>?_) λ c27 h2=>?_)
     ·refine nx 2 rfl (bd h2 λ r28 e29 h2=>?_)
      refine oK (ju _ ((lat p_0 i21).fName) _ e29) rfl ⟨sr,trivial⟩ Tryz.call41 rfl (nx 5 rfl ?_)
      exact eX _ (oi h2).symm (gE rfl rfl)
     exact nx 8 rfl (eX _ (oi h2).symm (gE rfl rfl))
    exact nx 12 rfl (eX _ (oi h2).symm (gE rfl rfl))
   exact nx 16 rfl (eX _ (oi h2).symm (gE rfl rfl))
  refine nx 9 rfl (fB [28,29] h2 rfl (λ c30 h2=>?_) λ c30 h2=>?_)
  ·refine nx 4 rfl (fN [32,33] h2 rfl (λ c31 h2=>?_) λ c31 h2=>?_)
   ·refine nx 2 rfl (bd h2 λ r32 e33 h2=>?_)
    refine oK (ju _ ((lat p_0 i21).fName) _ e33) rfl ⟨sr,trivial⟩ Tryz.call41 rfl (nx 5 rfl ?_)
    exact eX _ (oi h2).symm (gE rfl rfl)
   exact nx 8 rfl (eX _ (oi h2).symm (gE rfl rfl))
  exact nx 12 rfl (eX _ (oi h2).symm (gE rfl rfl))
 exact nx 2 rfl (eXi _ (oi h1).symm (gE rfl rfl))
def fA (b_0:Int):Option Bool :=
 (
   if 97≤b_0 then
    if b_0≤122 then
     some true
    else
     if 65≤b_0 then
      if b_0≤90 then
       some true
      else
       some (decide (b_0=95))
     else
      some (decide (b_0=95))
   else
    if 65≤b_0 then
     if b_0≤90 then
      some true
     else
      some (decide (b_0=95))
    else
     some (decide (b_0=95))
  : Option Bool).bind λ t7 =>
 some t7
theorem kA (b_0:Int)(r:Bool)(h0:fA b_0=some r):au Tryz.prog 69 [eK .u8 b_0] (·=.p (eB r)):=by
 unfold fA at h0
 refine aH good Tryz.func69 rfl rfl rfl λ w0=>mP (λ v:Bool=>.p (eB v)) ?_
 refine nx 5 rfl (bd h0 λ o9 h1 h0=>?_)
 refine kN o9 (λ v10=>⟨[(2,.p (eB v10))],[]⟩) ?_ ?_
 ·exact nx 2 rfl (mQ (oi h0) rfl (sr))
 refine nx 4 rfl (fD [4,5] h1 rfl (λ c1 h1=>?_) λ c1 h1=>?_)
 ·refine nx 4 rfl (fD [7,8,9] h1 rfl (λ c2 h1=>?_) λ c2 h1=>?_)
  ·exact nx 13 rfl (eX _ (oi h1).symm (gE rfl rfl))
  refine nx 3 rfl (fD [11,12] h1 rfl (λ c3 h1=>?_) λ c3 h1=>?_)
  ·refine nx 5 rfl (fD [14,15,16,17] h1 rfl (λ c4 h1=>?_) λ c4 h1=>?_)
   ·exact nx 5 rfl (eX _ (oi h1).symm (gE rfl rfl))
   exact nx 5 rfl (eX _ (oi h1).symm (gE rfl rfl))
  exact nx 10 rfl (eX _ (oi h1).symm (gE rfl rfl))
 refine nx 7 rfl (fD [11,12] h1 rfl (λ c5 h1=>?_) λ c5 h1=>?_)
 ·refine nx 5 rfl (fD [14,15,16,17] h1 rfl (λ c6 h1=>?_) λ c6 h1=>?_)
  ·exact nx 5 rfl (eX _ (oi h1).symm (gE rfl rfl))
  exact nx 5 rfl (eX _ (oi h1).symm (gE rfl rfl))
 exact nx 10 rfl (eX _ (oi h1).symm (gE rfl rfl))
def ca (s_0:Bytes):Nat→Int→Option (Unit⊕Bool)
 | 0,_=>none
 | m+1,i20 =>
 if i20 < (s_0.length:Int) then
  (
    ck ((0:Int)≤i20∧i20 < (s_0.length:Int)) <|
    (fA (byt s_0 i20)).bind λ r23 =>
    if (!r23)=true then
     ck ((0:Int)≤i20∧i20 < (s_0.length:Int)) <|
     if byt s_0 i20 < 48 then
      some true
     else
      ck ((0:Int)≤i20∧i20 < (s_0.length:Int)) <|
      some (decide (57 < byt s_0 i20))
    else
     some false
   : Option Bool).bind λ t29 =>
  if t29=true then
   some (.inr false)
  else
   ck (inR (i20+1)) <|
   ca s_0 m (i20+1)
 else
  some (.inl ())
def dr (n:Nat)(s_0:Bytes):Option Bool :=
 (
   if (s_0.length:Int)=0 then
    some true
   else
    if 64 < (s_0.length:Int) then
     some true
    else
     ck ((0:Int)≤0∧0 < (s_0.length:Int)) <|
     (fA (byt s_0 0)).bind λ r4 =>
     some (!r4)
  : Option Bool).bind λ t6 =>
 if t6=true then
  some false
 else
  jn (ca s_0 n 1) λ _q34 =>
  some true
theorem i7 (n:Nat)(s_0:Bytes)(r:Bool)(h0:dr n s_0=some r):au Tryz.prog 40 [eS s_0] (·=.p (eB r)):=by
 unfold dr at h0
 refine aH good Tryz.func40 rfl rfl rfl λ w0=>mP (λ v:Bool=>.p (eB v)) ?_
 refine nx 6 rfl (bd h0 λ o36 h1 h0=>?_)
 refine kN o36 (λ v37=>⟨[(0,.p (eS s_0)),(17,.p (eB v37))],[]⟩) ?_ ?_
 ·refine nx 1 rfl (fB [17] h0 rfl (λ c7 h0=>?_) λ c7 h0=>?_)
  ·exact nx 6 rfl (mQ (oi h0) rfl (sr))
  refine nx 8 rfl ?_
  obtain ⟨o38,h1,hL0,hR0⟩:=cn h0
  refine kEx 0 (λ v39:Unit=>o38=.inl v39) (λ v39=>⟨[],[]⟩) (λ v39 hv=>?_) ?_
  ·have h0:=hL0 _ hv
   exact nx 6 rfl (mQ (oi h0) rfl (sr))
  refine lG (λ (q40:Int)=>⟨[(0,.p (eS s_0)),(3,.p (eI q40))],[]⟩) (λ m (q40:Int)=>ca s_0 m q40) (λ _=>rfl) 1 h1 (gE rfl rfl) ?_
  rintro m i20 h1
  replace h1:ca s_0 (m+1) i20=some o38:=h1
  rw [ca] at h1
  refine nx 5 rfl (oLs rfl ?_)
  refine nx 2 rfl (fD [21] h1 rfl (λ c21 h1=>?_) λ c21 h1=>?_)
  ·refine nx 5 rfl (bd h1 λ o41 h2 h1=>?_)
   refine kN o41 (λ v42=>⟨[(0,.p (eS s_0)),(3,.p (eI i20)),(40,.p (eB v42))],[]⟩) ?_ ?_
   ·refine nx 1 rfl (fB [40] h1 rfl (λ c30 h1=>?_) λ c30 h1=>?_)
    ·exact nx 6 rfl (mQ (hR0 _ (oi h1).symm) rfl (sr))
    refine nx 4 rfl (oA h1 rfl rfl λ hk31 h1=>?_)
    exact nx 2 rfl (eX (i20+1) h1 (gE rfl rfl))
   refine nx 3 rfl (oI h2 rfl λ hk22 h2=>?_)
   refine bd h2 λ r23 e24 h2=>oK (kA (byt s_0 i20) _ e24) rfl ⟨sr,trivial⟩ Tryz.call69 rfl (nx 2 rfl ?_)
   refine fB [28,29] h2 rfl (λ c25 h2=>?_) λ c25 h2=>?_
   ·refine nx 2 rfl (oI h2 rfl λ hk26 h2=>?_)
    refine nx 2 rfl (fD [33,34] h2 rfl (λ c27 h2=>?_) λ c27 h2=>?_)
    ·exact nx 7 rfl (eX _ (oi h2).symm (gE rfl rfl))
    refine nx 2 rfl (oI h2 rfl λ hk28 h2=>?_)
    exact nx 4 rfl (eX _ (oi h2).symm (gE rfl rfl))
   exact nx 12 rfl (eX _ (oi h2).symm (gE rfl rfl))
  exact nx 2 rfl (eXi _ (oi h1).symm (gE rfl rfl))
 refine nx 2 rfl (oLs rfl ?_)
 refine nx 2 rfl (fD [6,7] h1 rfl (λ c1 h1=>?_) λ c1 h1=>?_)
 ·exact nx 11 rfl (eX _ (oi h1).symm (gE rfl rfl))
 refine nx 1 rfl (oLs rfl ?_)
 refine nx 3 rfl (fD [10,11,12] h1 rfl (λ c2 h1=>?_) λ c2 h1=>?_)
 ·exact nx 6 rfl (eX _ (oi h1).symm (gE rfl rfl))
 refine nx 1 rfl (oI h1 rfl λ hk3 h1=>?_)
 refine bd h1 λ r4 e5 h1=>oK (kA (byt s_0 0) _ e5) rfl ⟨sr,trivial⟩ Tryz.call69 rfl (nx 3 rfl ?_)
 exact eX _ (oi h1).symm (gE rfl rfl)
def cp (n:Nat)(p_0:List aa):Nat→Bytes→Int→Option Bytes
 | 0,_,_=>none
 | m+1,out30,i31 =>
 if i31 < (p_0.length:Int) then
  (
    ck ((0:Int)≤i31∧i31 < (p_0.length:Int)) <|
    if ((lat p_0 i31).fIndex)=true then
     ck (out30.length+([91]:Bytes).length≤9223372036854775807) <|
     ck ((0:Int)≤i31∧i31 < (p_0.length:Int)) <|
     (cH n ((lat p_0 i31).fNum)).bind λ r37 =>
     ck ((out30++([91]:Bytes)).length+r37.length≤9223372036854775807) <|
     ck (((out30++([91]:Bytes))++r37).length+([93]:Bytes).length≤9223372036854775807) <|
     some (((out30++([91]:Bytes))++r37)++([93]:Bytes))
    else
     ck ((0:Int)≤i31∧i31 < (p_0.length:Int)) <|
     (dr n ((lat p_0 i31).fName)).bind λ r42 =>
     if (!r42)=true then
      ck (out30.length+([91]:Bytes).length≤9223372036854775807) <|
      ck ((0:Int)≤i31∧i31 < (p_0.length:Int)) <|
      (iE n ((lat p_0 i31).fName)).bind λ r47 =>
      ck ((out30++([91]:Bytes)).length+r47.length≤9223372036854775807) <|
      ck (((out30++([91]:Bytes))++r47).length+([93]:Bytes).length≤9223372036854775807) <|
      some (((out30++([91]:Bytes))++r47)++([93]:Bytes))
     else
      if 0 < i31 then
       ck (out30.length+([46]:Bytes).length≤9223372036854775807) <|
       ck ((0:Int)≤i31∧i31 < (p_0.length:Int)) <|
       ck ((out30++([46]:Bytes)).length+((lat p_0 i31).fName).length≤9223372036854775807) <|
       some ((out30++([46]:Bytes))++((lat p_0 i31).fName))
      else
       ck ((0:Int)≤i31∧i31 < (p_0.length:Int)) <|
       ck (out30.length+((lat p_0 i31).fName).length≤9223372036854775807) <|
       some (out30++((lat p_0 i31).fName))
   : Option Bytes).bind λ out57 =>
  ck (inR (i31+1)) <|
  cp n p_0 m out57 (i31+1)
 else
  some out30
def fG (n:Nat)(p_0:List aa):Option Bytes :=
 (cp n p_0 n ([]:Bytes) 0).bind λ out61 =>
 some out61
theorem kC (n:Nat)(p_0:List aa)(r:Bytes)(h0:fG n p_0=some r):au Tryz.prog 25 [eL ae p_0] (·=.p (eS r)):=by
 unfold fG at h0
 refine aH good Tryz.func25 rfl rfl rfl λ w0=>mP (λ v:Bytes=>.p (eS v)) ?_
 refine nx 14 rfl (bd h0 λ o64 h1 h0=>?_)
 refine kE 0 o64 (λ v65=>⟨[(3,.p (eS v65))],[]⟩) ?_ ?_
 ·exact nx 7 rfl (mQ (oi h0) rfl (sr))
 refine lG (λ (q66:Bytes×Int)=>⟨[(0,.p (eL ae p_0)),(3,.p (eS q66.1)),(4,.p (eI q66.2))],[]⟩) (λ m (q66:Bytes×Int)=>cp n p_0 m q66.1 q66.2) (λ _=>rfl) (([]:Bytes),0) h1 (gE rfl rfl) ?_
 rintro m ⟨out30,i31⟩ h1
 replace h1:cp n p_0 (m+1) out30 i31=some o64:=h1
 rw [cp] at h1
 refine nx 5 rfl (oLl (f:=ae) rfl rfl ?_)
 refine nx 2 rfl (fD [8] h1 rfl (λ c32 h1=>?_) λ c32 h1=>?_)
 ·refine nx 3 rfl (bd h1 λ o67 h2 h1=>?_)
  refine kN o67 (λ v68=>⟨[(0,.p (eL ae p_0)),(3,.p (eS v68)),(4,.p (eI i31))],[]⟩) ?_ ?_
  ·refine nx 3 rfl (oA h1 rfl rfl λ hk58 h1=>?_)
   exact nx 2 rfl (eX (o67,i31+1) h1 (gE rfl rfl))
  refine nx 5 rfl (oE h2 aa.cells_eq rfl rfl (λ _=>rfl) λ hk33 h2=>?_)
  refine nx 3 rfl (fB [15] h2 rfl (λ c34 h2=>?_) λ c34 h2=>?_)
  ·refine nx 3 rfl (oC h2 rfl λ hk35 h2=>?_)
   refine nx 2 rfl (oE h2 aa.cells_eq rfl rfl (λ _=>rfl) λ hk36 h2=>?_)
   refine nx 2 rfl (bd h2 λ r37 e38 h2=>?_)
   refine oK (pp _ ((lat p_0 i31).fNum) _ e38) rfl ⟨sr,trivial⟩ Tryz.call54 rfl (oC h2 rfl λ hk39 h2=>?_)
   exact oC h2 rfl λ hk40 h2=>nx 2 rfl (eX _ (oi h2).symm (gE rfl rfl))
  refine nx 5 rfl (oE h2 aa.cells_eq rfl rfl (λ _=>rfl) λ hk41 h2=>?_)
  refine nx 2 rfl (bd h2 λ r42 e43 h2=>?_)
  refine oK (i7 _ ((lat p_0 i31).fName) _ e43) rfl ⟨sr,trivial⟩ Tryz.call40 rfl (nx 2 rfl ?_)
  refine fB [32] h2 rfl (λ c44 h2=>?_) λ c44 h2=>?_
  ·refine nx 3 rfl (oC h2 rfl λ hk45 h2=>?_)
   refine nx 2 rfl (oE h2 aa.cells_eq rfl rfl (λ _=>rfl) λ hk46 h2=>?_)
   refine nx 2 rfl (bd h2 λ r47 e48 h2=>?_)
   refine oK (pK _ ((lat p_0 i31).fName) _ e48) rfl ⟨sr,trivial⟩ Tryz.call55 rfl (oC h2 rfl λ hk49 h2=>?_)
   exact oC h2 rfl λ hk50 h2=>nx 2 rfl (eX _ (oi h2).symm (gE rfl rfl))
  refine nx 6 rfl (fD [44] h2 rfl (λ c51 h2=>?_) λ c51 h2=>?_)
  ·refine nx 3 rfl (oC h2 rfl λ hk52 h2=>?_)
   refine nx 2 rfl (oE h2 aa.cells_eq rfl rfl (λ _=>rfl) λ hk53 h2=>?_)
   refine nx 2 rfl (oC h2 rfl λ hk54 h2=>?_)
   exact nx 2 rfl (eX _ (oi h2).symm (gE rfl rfl))
  refine nx 5 rfl (oE h2 aa.cells_eq rfl rfl (λ _=>rfl) λ hk55 h2=>?_)
  refine nx 2 rfl (oC h2 rfl λ hk56 h2=>?_)
  exact nx 2 rfl (eX _ (oi h2).symm (gE rfl rfl))
 exact nx 2 rfl (eXi _ (oi h1).symm (gE rfl rfl))
def bJ (s_0:Bytes):Nat→Int→Option Int
 | 0,_=>none
 | m+1,j19 =>
 (
   if j19 < (s_0.length:Int) then
    ck ((0:Int)≤j19∧j19 < (s_0.length:Int)) <|
    if 48≤byt s_0 j19 then
     ck ((0:Int)≤j19∧j19 < (s_0.length:Int)) <|
     some (decide (byt s_0 j19≤57))
    else
     some false
   else
    some false
  : Option Bool).bind λ t24 =>
 if t24=true then
  ck (inR (j19+1)) <|
  bJ s_0 m (j19+1)
 else
  some j19
def fX (n:Nat)(s_0:Bytes)(i_1:Int):Option (aa×Int×Int) :=
 ck (inR (i_1+1)) <|
 jn (
   (
     if i_1+1 < (s_0.length:Int) then
      ck ((0:Int)≤i_1+1∧i_1+1 < (s_0.length:Int)) <|
      some (decide (byt s_0 (i_1+1)=34))
     else
      some false
    : Option Bool).bind λ t4 =>
   if t4=true then
    ck ((0:Int)≤i_1+1∧i_1+1≤(s_0.length:Int)∧(s_0.length:Int)≤(s_0.length:Int)) <|
    (fZ n (sub s_0 (i_1+1) (s_0.length:Int))).bind λ r7 =>
    if r7.2.2=0 then
     ck (inR ((i_1+1)+r7.2.1)) <|
     some (.inl ((i_1+1)+r7.2.1,false,0,r7.1))
    else
     some (.inr ((aa.mk false 0 ([]:Bytes)),0,r7.2.2))
   else
    (bJ s_0 n (i_1+1)).bind λ j28 =>
    ck (inR (i_1+1)) <|
    ck ((0:Int)≤i_1+1∧i_1+1≤j28∧j28≤(s_0.length:Int)) <|
    (iN n (sub s_0 (i_1+1) j28)).bind λ r31 =>
    if r31.2=0 then
     some (.inl (j28,true,r31.1,([]:Bytes)))
    else
     some (.inr ((aa.mk false 0 ([]:Bytes)),0,r31.2))
  : Option ((Int×Bool×Int×Bytes)⊕(aa×Int×Int))) λ q43 =>
 (
   if (s_0.length:Int)≤q43.1 then
    some true
   else
    ck ((0:Int)≤q43.1∧q43.1 < (s_0.length:Int)) <|
    some (!decide (byt s_0 q43.1=93))
  : Option Bool).bind λ t40 =>
 if t40=true then
  some ((aa.mk false 0 ([]:Bytes)),0,2)
 else
  ck (inR (q43.1+1)) <|
  some ((aa.mk q43.2.1 q43.2.2.1 q43.2.2.2),q43.1+1,0)
theorem og (n:Nat)(s_0:Bytes)(i_1:Int)(r:aa×Int×Int)(h0:fX n s_0 i_1=some r):au Tryz.prog 39 [eS s_0,eI i_1] (·=.tuple [.p (.agg (aa.cs r.1)),.p (eI r.2.1),.p (eI r.2.2)]):=by
 unfold fX at h0
 refine aH good Tryz.func39 rfl rfl rfl λ w0=>mP (λ v:aa×Int×Int=>.tuple [.p (.agg (aa.cs v.1)),.p (eI v.2.1),.p (eI v.2.2)]) ?_
 refine nx 15 rfl (oA h0 rfl rfl λ hk1 h0=>?_)
 refine nx 3 rfl ?_
 obtain ⟨o48,h1,hL0,hR0⟩:=cn h0
 refine kX (λ v49:Int×Bool×Int×Bytes=>o48=.inl v49) (λ v49=>⟨[(0,.p (eS s_0)),(4,.ptr 4 0),(7,.ptr 7 0),(8,.p (eI v49.1))],[(4,[.p (eB false),.p (eI 0),.p (eS ([]:Bytes))]),(7,[.p (eB v49.2.1),.p (eI v49.2.2.1),.p (eS v49.2.2.2)])]⟩) (λ v49 hv=>?_) ?_
 ·have h0:=hL0 _ hv
  refine nx 3 rfl (bd h0 λ o50 h1 h0=>?_)
  refine kN o50 (λ v51=>⟨[(4,.ptr 4 0),(7,.ptr 7 0),(8,.p (eI v49.1)),(87,.p (eB v51))],[(4,[.p (eB false),.p (eI 0),.p (eS ([]:Bytes))]),(7,[.p (eB v49.2.1),.p (eI v49.2.2.1),.p (eS v49.2.2.2)])]⟩) ?_ ?_
  ·refine nx 1 rfl (fB [87] h0 rfl (λ c41 h0=>?_) λ c41 h0=>?_)
   ·exact nx 9 rfl (mQ (oi h0) rfl (am ⟨sr,sr,sr,trivial⟩))
   refine nx 6 rfl (oA h0 rfl rfl λ hk42 h0=>?_)
   exact nx 5 rfl (mQ (oi h0) rfl (am ⟨sr,sr,sr,trivial⟩))
  refine nx 3 rfl (oLs rfl ?_)
  refine nx 2 rfl (fD [81,82] h1 rfl (λ c38 h1=>?_) λ c38 h1=>?_)
  ·exact nx 6 rfl (eX _ (oi h1).symm (gE rfl rfl))
  refine nx 2 rfl (oI h1 rfl λ hk39 h1=>?_)
  exact nx 3 rfl (eX _ (oi h1).symm (gE rfl rfl))
 refine nx 1 rfl (bd h1 λ o52 h2 h1=>?_)
 refine kN o52 (λ v53=>⟨[(0,.p (eS s_0)),(1,.p (eI i_1)),(4,.ptr 4 0),(7,.ptr 7 0),(8,.p (eI (i_1+1))),(26,.p (eB v53))],[(4,[.p (eB false),.p (eI 0),.p (eS ([]:Bytes))]),(7,[.p (eB false),.p (eI 0),.p (eS ([]:Bytes))])]⟩) ?_ ?_
 ·refine nx 1 rfl (fB [26] h1 rfl (λ c5 h1=>?_) λ c5 h1=>?_)
  ·refine nx 5 rfl (oP h1 rfl rfl rfl λ hk6 h1=>?_)
   refine bd h1 λ r7 e8 h1=>oK (ot _ (sub s_0 (i_1+1) (s_0.length:Int)) _ e8) rfl ⟨sr,trivial⟩ Tryz.call67 rfl (nx 14 rfl ?_)
   refine fN [36] h1 rfl (λ c9 h1=>?_) λ c9 h1=>?_
   ·refine nx 11 rfl (oA h1 rfl rfl λ hk10 h1=>?_)
    exact nx 2 rfl (eX _ (oi h1).symm (gE rfl rfl))
   exact nx 10 rfl (mQ (hR0 _ (oi h1).symm) rfl (am ⟨sr,sr,sr,trivial⟩))
  refine nx 3 rfl (bd h1 λ o54 h2 h1=>?_)
  refine kE 0 o54 (λ v55=>⟨[(0,.p (eS s_0)),(1,.p (eI i_1)),(4,.ptr 4 0),(7,.ptr 7 0),(8,.p (eI v55))],[(4,[.p (eB false),.p (eI 0),.p (eS ([]:Bytes))]),(7,[.p (eB false),.p (eI 0),.p (eS ([]:Bytes))])]⟩) ?_ ?_
  ·refine nx 5 rfl (oA h1 rfl rfl λ hk29 h1=>?_)
   refine nx 1 rfl (oP h1 rfl rfl rfl λ hk30 h1=>?_)
   refine bd h1 λ r31 e32 h1=>oK (pE _ (sub s_0 (i_1+1) o54) _ e32) rfl ⟨sr,trivial⟩ Tryz.call68 rfl (nx 12 rfl ?_)
   refine fN [72] h1 rfl (λ c33 h1=>?_) λ c33 h1=>?_
   ·exact nx 12 rfl (eX _ (oi h1).symm (gE rfl rfl))
   exact nx 10 rfl (mQ (hR0 _ (oi h1).symm) rfl (am ⟨sr,sr,sr,trivial⟩))
  refine lG (λ (q56:Int)=>⟨[(0,.p (eS s_0)),(1,.p (eI i_1)),(4,.ptr 4 0),(7,.ptr 7 0),(8,.p (eI q56))],[(4,[.p (eB false),.p (eI 0),.p (eS ([]:Bytes))]),(7,[.p (eB false),.p (eI 0),.p (eS ([]:Bytes))])]⟩) (λ m (q56:Int)=>bJ s_0 m q56) (λ _=>rfl) (i_1+1) h2 (gE rfl rfl) ?_
  rintro m j19 h2
  replace h2:bJ s_0 (m+1) j19=some o54:=h2
  rw [bJ] at h2
  refine nx 2 rfl (bd h2 λ o57 h3 h2=>?_)
  refine kN o57 (λ v58=>⟨[(0,.p (eS s_0)),(1,.p (eI i_1)),(4,.ptr 4 0),(7,.ptr 7 0),(8,.p (eI j19)),(59,.p (eB v58))],[(4,[.p (eB false),.p (eI 0),.p (eS ([]:Bytes))]),(7,[.p (eB false),.p (eI 0),.p (eS ([]:Bytes))])]⟩) ?_ ?_
  ·refine nx 1 rfl (fB [59] h2 rfl (λ c25 h2=>?_) λ c25 h2=>?_)
   ·refine nx 5 rfl (oA h2 rfl rfl λ hk26 h2=>?_)
    exact nx 2 rfl (eX (j19+1) h2 (gE rfl rfl))
   exact nx 2 rfl (eXi _ (oi h2).symm (gE rfl rfl))
  refine nx 3 rfl (oLs rfl ?_)
  refine nx 2 rfl (fD [47,48] h3 rfl (λ c20 h3=>?_) λ c20 h3=>?_)
  ·refine nx 2 rfl (oI h3 rfl λ hk21 h3=>?_)
   refine nx 3 rfl (fD [52,53,54] h3 rfl (λ c22 h3=>?_) λ c22 h3=>?_)
   ·refine nx 2 rfl (oI h3 rfl λ hk23 h3=>?_)
    exact nx 3 rfl (eX _ (oi h3).symm (gE rfl rfl))
   exact nx 6 rfl (eX _ (oi h3).symm (gE rfl rfl))
  exact nx 12 rfl (eX _ (oi h3).symm (gE rfl rfl))
 refine nx 3 rfl (oLs rfl ?_)
 refine nx 2 rfl (fD [20,21] h2 rfl (λ c2 h2=>?_) λ c2 h2=>?_)
 ·refine nx 2 rfl (oI h2 rfl λ hk3 h2=>?_)
  exact nx 3 rfl (eX _ (oi h2).symm (gE rfl rfl))
 exact nx 6 rfl (eX _ (oi h2).symm (gE rfl rfl))
def cg (s_0:Bytes):Nat→Int→Option Int
 | 0,_=>none
 | m+1,j66 =>
 (
   if j66 < (s_0.length:Int) then
    ck ((0:Int)≤j66∧j66 < (s_0.length:Int)) <|
    if byt s_0 j66=46 then
     some false
    else
     ck ((0:Int)≤j66∧j66 < (s_0.length:Int)) <|
     some (!decide (byt s_0 j66=91))
   else
    some false
  : Option Bool).bind λ t71 =>
 if t71=true then
  ck (inR (j66+1)) <|
  cg s_0 m (j66+1)
 else
  some j66
def ci (n:Nat)(s_0:Bytes):Nat→(List aa)→Int→Option ((List aa)⊕((List aa)×Int))
 | 0,_,_=>none
 | m+1,out43,i44 =>
 if i44 < (s_0.length:Int) then
  jn (
    if (out43.length:Int)=32 then
     some (.inr (.inr ([],4)))
    else
     ck ((0:Int)≤i44∧i44 < (s_0.length:Int)) <|
     if byt s_0 i44=91 then
      (fX n s_0 i44).bind λ r49 =>
      if r49.2.2=0 then
       ck ((out43.length+[r49.1].length)*32≤140737488355328) <|
       some (.inl (out43++[r49.1],r49.2.1))
      else
       some (.inr (.inr ([],r49.2.2)))
     else
      jn (
        if 0 < (out43.length:Int) then
         ck ((0:Int)≤i44∧i44 < (s_0.length:Int)) <|
         if byt s_0 i44=46 then
          ck (inR (i44+1)) <|
          some (.inl (i44+1))
         else
          some (.inr (.inr (.inr ([],2))))
        else
         some (.inl i44)
       : Option (Int⊕(((List aa)×Int)⊕((List aa)⊕((List aa)×Int))))) λ i57 =>
      (cg s_0 n i57).bind λ j75 =>
      ck ((0:Int)≤i57∧i57≤j75∧j75≤(s_0.length:Int)) <|
      (dr n (sub s_0 i57 j75)).bind λ r77 =>
      if (!r77)=true then
       some (.inr (.inr ([],2)))
      else
       ck ((0:Int)≤i57∧i57≤j75∧j75≤(s_0.length:Int)) <|
       ck ((out43.length+[(aa.mk false 0 (sub s_0 i57 j75))].length)*32≤140737488355328) <|
       some (.inl (out43++[(aa.mk false 0 (sub s_0 i57 j75))],j75))
   : Option (((List aa)×Int)⊕((List aa)⊕((List aa)×Int)))) λ q91 =>
  ci n s_0 m q91.1 q91.2
 else
  some (.inl out43)
def iO (n:Nat)(s_0:Bytes):Option ((List aa)×Int) :=
 if 65536 < (s_0.length:Int) then
  some ([],3)
 else
  jn (ci n s_0 n [] 0) λ out86 =>
  (fG n out86).bind λ r87 =>
  if r87=s_0 then
   some (out86,0)
  else
   some ([],2)
theorem pP (n:Nat)(s_0:Bytes)(r:(List aa)×Int)(h0:iO n s_0=some r):au Tryz.prog 13 [eS s_0] (·=.tuple [.p (eL ae r.1),.p (eI r.2)]):=by
 unfold iO at h0
 refine aH good Tryz.func13 rfl rfl rfl λ w0=>mP (λ v:(List aa)×Int=>.tuple [.p (eL ae v.1),.p (eI v.2)]) ?_
 refine nx 9 rfl (oLs rfl ?_)
 refine nx 2 rfl (fD [12] h0 rfl (λ c1 h0=>?_) λ c1 h0=>?_)
 ·exact nx 7 rfl (mQ (oi h0) rfl (am ⟨dm _,sr,trivial⟩))
 refine nx 12 rfl ?_
 obtain ⟨o95,h1,hL0,hR0⟩:=cn h0
 refine kEx 0 (λ v96:(List aa)=>o95=.inl v96) (λ v96=>⟨[(0,.p (eS s_0)),(4,.vec 80 3 0 (v96.map ae))],[]⟩) (λ v96 hv=>?_) ?_
 ·have h0:=hL0 _ hv
  refine nx 5 rfl (bd h0 λ r87 e88 h0=>?_)
  refine oK (kC _ v96 _ e88) rfl ⟨AV.sub_vec _ _ _ _,trivial⟩ Tryz.call25 rfl (nx 1 rfl ?_)
  refine oS rfl rfl (nx 1 rfl ?_)
  refine fN [85] h0 rfl (λ c89 h0=>?_) λ c89 h0=>?_
  ·exact nx 9 rfl (mQ (oi h0) rfl (am ⟨AV.sub_vec _ _ _ _,sr,trivial⟩))
  exact nx 7 rfl (mQ (oi h0) rfl (am ⟨dm _,sr,trivial⟩))
 refine lG (λ (q97:(List aa)×Int)=>⟨[(0,.p (eS s_0)),(4,.vec 80 3 0 (q97.1.map ae)),(5,.p (eI q97.2))],[]⟩) (λ m (q97:(List aa)×Int)=>ci n s_0 m q97.1 q97.2) (λ _=>rfl) ([],0) h1 (cj (gX ⟨er rfl,⟨_,rfl,AV.sub_nilvec _ _ _⟩,er rfl,trivial⟩ trivial)) ?_
 rintro m ⟨out43,i44⟩ h1
 replace h1:ci n s_0 (m+1) out43 i44=some o95:=h1
 rw [ci] at h1
 refine nx 5 rfl (oLs rfl ?_)
 refine nx 2 rfl (fD [16] h1 rfl (λ c45 h1=>?_) λ c45 h1=>?_)
 ·refine nx 2 rfl ?_
  obtain ⟨o98,h2,hL1,hR1⟩:=cn h1
  refine kX (λ v99:(List aa)×Int=>o98=.inl v99) (λ v99=>⟨[(0,.p (eS s_0)),(4,.vec 80 3 0 (v99.1.map ae)),(5,.p (eI v99.2))],[]⟩) (λ v99 hv=>?_) ?_
  ·have h1:=hL1 _ hv
   exact nx 1 rfl (eX (v99.1,v99.2) h1 (gE rfl rfl))
  refine nx 5 rfl (oLl (f:=ae) rfl rfl ?_)
  refine nx 2 rfl (fD [19] h2 rfl (λ c46 h2=>?_) λ c46 h2=>?_)
  ·exact nx 7 rfl (mQ (hR0 _ (hR1 _ (oi h2).symm).symm) rfl (am ⟨dm _,sr,trivial⟩))
  refine nx 7 rfl (oI h2 rfl λ hk47 h2=>?_)
  refine nx 2 rfl (fD [23] h2 rfl (λ c48 h2=>?_) λ c48 h2=>?_)
  ·refine nx 5 rfl (bd h2 λ r49 e50 h2=>?_)
   refine oK (og _ s_0 i44 _ e50) rfl ⟨sr,sr,trivial⟩ Tryz.call39 rfl (nx 15 rfl ?_)
   refine fN [32] h2 rfl (λ c51 h2=>?_) λ c51 h2=>?_
   ·refine nx 6 rfl (mO rfl (aV ae [r49.1] rfl rfl rfl rfl rfl rfl rfl rfl rfl rfl rfl rfl rfl (by first | rfl | (simp only [List.map_cons,List.map_nil,aa.agg_eq]; done) | (simp only [List.map_cons,List.map_nil,aa.agg_eq]; rfl)) ?_))
    refine cc' h2 λ hk52 h2=>mO rfl (dl ae out43 [r49.1] rfl rfl rfl rfl rfl rfl rfl rfl rfl rfl rfl rfl rfl (λ x=>congrArg List.length (aa.cells_eq x)) rfl rfl rfl rfl hk52 ?_)
    refine nx 2 rfl (mG (gE (t:=⟨[(0,.p (eS s_0)),(4,.vec 37 3 0 ((out43++[r49.1]).map ae)),(7,.p (eI r49.2.1))],[]⟩) rfl rfl) ?_)
    exact nx 6 rfl (eX _ (oi h2).symm (aN (bf 37 80 rfl rfl rfl rfl rfl) (gE rfl rfl)))
   refine nx 7 rfl (mG (gE (t:=⟨[(2,.p (.val (.slice none 0 0))),(3,.p (eI r49.2.2))],[]⟩) rfl rfl) ?_)
   exact nx 1 rfl (mQ (hR0 _ (hR1 _ (oi h2).symm).symm) rfl (am ⟨dm _,sr,trivial⟩))
  refine nx 3 rfl ?_
  obtain ⟨o100,h3,hL2,hR2⟩:=cn h2
  refine kX (λ v101:Int=>o100=.inl v101) (λ v101=>⟨[(0,.p (eS s_0)),(4,.vec 80 3 0 (out43.map ae)),(5,.p (eI v101))],[]⟩) (λ v101 hv=>?_) ?_
  ·have h2:=hL2 _ hv
   refine nx 8 rfl (bd h2 λ o102 h3 h2=>?_)
   refine kE 2 o102 (λ v103=>⟨[(0,.p (eS s_0)),(4,.vec 80 3 0 (out43.map ae)),(5,.p (eI v101)),(9,.p (eI v103))],[]⟩) ?_ ?_
   ·refine nx 7 rfl (oP h2 rfl rfl rfl λ hk76 h2=>?_)
    refine bd h2 λ r77 e78 h2=>oK (i7 _ (sub s_0 v101 o102) _ e78) rfl ⟨sr,trivial⟩ Tryz.call40 rfl (nx 2 rfl ?_)
    refine fB [72] h2 rfl (λ c79 h2=>?_) λ c79 h2=>?_
    ·exact nx 7 rfl (mQ (hR0 _ (hR1 _ (oi h2).symm).symm) rfl (am ⟨dm _,sr,trivial⟩))
    refine nx 8 rfl (oP h2 rfl rfl rfl λ hk80 h2=>?_)
    refine nx 1 rfl (mO rfl (aV ae [(aa.mk false 0 (sub s_0 v101 o102))] rfl rfl rfl rfl rfl rfl rfl rfl rfl rfl rfl rfl rfl (by first | rfl | (simp only [List.map_cons,List.map_nil,aa.agg_eq]; done) | (simp only [List.map_cons,List.map_nil,aa.agg_eq]; rfl)) ?_))
    refine cc' h2 λ hk81 h2=>mO rfl (dl ae out43 [(aa.mk false 0 (sub s_0 v101 o102))] rfl rfl rfl rfl rfl rfl rfl rfl rfl rfl rfl rfl rfl (λ x=>congrArg List.length (aa.cells_eq x)) rfl rfl rfl rfl hk81 ?_)
    exact nx 6 rfl (eX _ (oi h2).symm (gE rfl rfl))
   refine lG (λ (q104:Int)=>⟨[(0,.p (eS s_0)),(4,.vec 80 3 0 (out43.map ae)),(5,.p (eI v101)),(9,.p (eI q104))],[]⟩) (λ m (q104:Int)=>cg s_0 m q104) (λ _=>rfl) v101 h3 (gE rfl rfl) ?_
   rintro m j66 h3
   replace h3:cg s_0 (m+1) j66=some o102:=h3
   rw [cg] at h3
   refine nx 2 rfl (bd h3 λ o105 h4 h3=>?_)
   refine kN o105 (λ v106=>⟨[(0,.p (eS s_0)),(4,.vec 80 3 0 (out43.map ae)),(5,.p (eI v101)),(9,.p (eI j66)),(64,.p (eB v106))],[]⟩) ?_ ?_
   ·refine nx 1 rfl (fB [64] h3 rfl (λ c72 h3=>?_) λ c72 h3=>?_)
    ·refine nx 5 rfl (oA h3 rfl rfl λ hk73 h3=>?_)
     exact nx 2 rfl (eX (j66+1) h3 (gE rfl rfl))
    exact nx 2 rfl (eXi _ (oi h3).symm (gE rfl rfl))
   refine nx 3 rfl (oLs rfl ?_)
   refine nx 2 rfl (fD [52,53] h4 rfl (λ c67 h4=>?_) λ c67 h4=>?_)
   ·refine nx 2 rfl (oI h4 rfl λ hk68 h4=>?_)
    refine nx 3 rfl (fN [57,58,59] h4 rfl (λ c69 h4=>?_) λ c69 h4=>?_)
    ·exact nx 6 rfl (eX _ (oi h4).symm (gE rfl rfl))
    refine nx 2 rfl (oI h4 rfl λ hk70 h4=>?_)
    exact nx 3 rfl (eX _ (oi h4).symm (gE rfl rfl))
   exact nx 12 rfl (eX _ (oi h4).symm (gE rfl rfl))
  refine nx 3 rfl (oLl (f:=ae) rfl rfl ?_)
  refine nx 2 rfl (fD [41] h3 rfl (λ c53 h3=>?_) λ c53 h3=>?_)
  ·refine nx 6 rfl (oI h3 rfl λ hk54 h3=>?_)
   refine nx 2 rfl (fN [45] h3 rfl (λ c55 h3=>?_) λ c55 h3=>?_)
   ·refine nx 4 rfl (oA h3 rfl rfl λ hk56 h3=>?_)
    exact nx 2 rfl (eX _ (oi h3).symm (gE rfl rfl))
   exact nx 7 rfl (mQ (hR0 _ (hR1 _ (hR2 _ (oi h3).symm).symm).symm) rfl (am ⟨dm _,sr,trivial⟩))
  exact nx 2 rfl (eX _ (oi h3).symm (gE rfl rfl))
 exact nx 2 rfl (eXi _ (oi h1).symm (gE rfl rfl))
def kf (v_0:ab):Option Bool :=
 (
   if v_0.fKind < 0 then
    some true
   else
    some (decide (6 < v_0.fKind))
  : Option Bool).bind λ t2 =>
 if t2=true then
  some false
 else
  jn (
    if v_0.fKind=1 then
     (
       if v_0.fNum=0 then
        some false
       else
        some (!decide (v_0.fNum=1))
      : Option Bool).bind λ t6 =>
     if t6=true then
      some (.inr false)
     else
      some (.inl ())
    else
     if v_0.fKind=2 then
      some (.inl ())
     else
      if v_0.fNum=0 then
       some (.inl ())
      else
       some (.inr false)
   : Option (Unit⊕Bool)) λ _q20 =>
  (
    if v_0.fKind=3 then
     if v_0.fKind=4 then
      some false
     else
      if v_0.fKind=5 then
       some false
      else
       some (decide (0 < (v_0.fItems.length:Int)))
    else
     if v_0.fStr=([]:Bytes) then
      if v_0.fKind=4 then
       some false
      else
       if v_0.fKind=5 then
        some false
       else
        some (decide (0 < (v_0.fItems.length:Int)))
     else
      some true
   : Option Bool).bind λ t16 =>
  if t16=true then
   some false
  else
   if v_0.fKind=5 then
    some (decide ((v_0.fKeys.length:Int)=(v_0.fItems.length:Int)))
   else
    some (decide ((v_0.fKeys.length:Int)=0))
theorem pi (v_0:ab)(r:Bool)(h0:kf v_0=some r):au Tryz.prog 105 [.agg (ab.cs v_0)] (·=.p (eB r)):=by
 unfold kf at h0
 refine aH good Tryz.func105 rfl rfl rfl λ w0=>mP (λ v:Bool=>.p (eB v)) ?_
 refine nx 7 rfl (bd h0 λ o23 h1 h0=>?_)
 refine kN o23 (λ v24=>⟨[(1,.ptr 1 0),(10,.p (eB v24))],[(1,(ab.cs v_0).map .p)]⟩) ?_ ?_
 ·refine nx 1 rfl (fB [10] h0 rfl (λ c3 h0=>?_) λ c3 h0=>?_)
  ·exact nx 6 rfl (mQ (oi h0) rfl (sr))
  refine nx 8 rfl ?_
  obtain ⟨o25,h1,hL0,hR0⟩:=cn h0
  refine kX (λ v26:Unit=>o25=.inl v26) (λ v26=>⟨[(1,.ptr 1 0)],[(1,(ab.cs v_0).map .p)]⟩) (λ v26 hv=>?_) ?_
  ·have h0:=hL0 _ hv
   refine nx 3 rfl (bd h0 λ o27 h1 h0=>?_)
   refine kN o27 (λ v28=>⟨[(1,.ptr 1 0),(51,.p (eB v28))],[(1,(ab.cs v_0).map .p)]⟩) ?_ ?_
   ·refine nx 1 rfl (fB [51] h0 rfl (λ c17 h0=>?_) λ c17 h0=>?_)
    ·exact nx 6 rfl (mQ (oi h0) rfl (sr))
    refine nx 9 rfl (fD [54] h0 rfl (λ c18 h0=>?_) λ c18 h0=>?_)
    ·refine nx 5 rfl (oLl (f:=eS) rfl rfl ?_)
     refine nx 2 rfl (oLl (f:=ah) rfl rfl ?_)
     exact nx 4 rfl (mQ (oi h0) rfl (sr))
    refine nx 6 rfl (oLl (f:=eS) rfl rfl ?_)
    exact nx 4 rfl (mQ (oi h0) rfl (sr))
   refine nx 5 rfl (fN [30,31] h1 rfl (λ c10 h1=>?_) λ c10 h1=>?_)
   ·refine nx 9 rfl (fN [39,40] h1 rfl (λ c11 h1=>?_) λ c11 h1=>?_)
    ·exact nx 12 rfl (eX _ (oi h1).symm (gE rfl rfl))
    refine nx 5 rfl (fN [43,44,45] h1 rfl (λ c12 h1=>?_) λ c12 h1=>?_)
    ·exact nx 7 rfl (eX _ (oi h1).symm (gE rfl rfl))
    refine nx 2 rfl (oLl (f:=ah) rfl rfl ?_)
    exact nx 4 rfl (eX _ (oi h1).symm (gE rfl rfl))
   refine nx 2 rfl (oS rfl rfl ?_)
   refine nx 2 rfl (fN [34,35,36] h1 rfl (λ c13 h1=>?_) λ c13 h1=>?_)
   ·refine nx 4 rfl (fN [39,40] h1 rfl (λ c14 h1=>?_) λ c14 h1=>?_)
    ·exact nx 12 rfl (eX _ (oi h1).symm (gE rfl rfl))
    refine nx 5 rfl (fN [43,44,45] h1 rfl (λ c15 h1=>?_) λ c15 h1=>?_)
    ·exact nx 7 rfl (eX _ (oi h1).symm (gE rfl rfl))
    refine nx 2 rfl (oLl (f:=ah) rfl rfl ?_)
    exact nx 4 rfl (eX _ (oi h1).symm (gE rfl rfl))
   exact nx 16 rfl (eX _ (oi h1).symm (gE rfl rfl))
  refine nx 6 rfl (fD [16,17] h1 rfl (λ c4 h1=>?_) λ c4 h1=>?_)
  ·refine nx 2 rfl (bd h1 λ o29 h2 h1=>?_)
   refine kN o29 (λ v30=>⟨[(1,.ptr 1 0),(25,.p (eB v30))],[(1,(ab.cs v_0).map .p)]⟩) ?_ ?_
   ·refine nx 1 rfl (fB [25] h1 rfl (λ c7 h1=>?_) λ c7 h1=>?_)
    ·exact nx 6 rfl (mQ (hR0 _ (oi h1).symm) rfl (sr))
    exact nx 2 rfl (eX _ (oi h1).symm (gE rfl rfl))
   refine nx 5 rfl (fN [20,21] h2 rfl (λ c5 h2=>?_) λ c5 h2=>?_)
   ·exact nx 5 rfl (eX _ (oi h2).symm (gE rfl rfl))
   exact nx 5 rfl (eX _ (oi h2).symm (gE rfl rfl))
  refine nx 6 rfl (fD [26,27] h1 rfl (λ c8 h1=>?_) λ c8 h1=>?_)
  ·exact nx 2 rfl (eX _ (oi h1).symm (gE rfl rfl))
  refine nx 7 rfl (fN [15] h1 rfl (λ c9 h1=>?_) λ c9 h1=>?_)
  ·exact nx 2 rfl (eX _ (oi h1).symm (gE rfl rfl))
  exact nx 6 rfl (mQ (hR0 _ (oi h1).symm) rfl (sr))
 refine nx 5 rfl (fD [5,6] h1 rfl (λ c1 h1=>?_) λ c1 h1=>?_)
 ·exact nx 5 rfl (eX _ (oi h1).symm (gE rfl rfl))
 exact nx 5 rfl (eX _ (oi h1).symm (gE rfl rfl))
def km (s_0:Bytes):Option Int :=
 if 4096 < (s_0.length:Int) then
  some 3
 else
  (en s_0).bind λ r2 =>
  if (!r2)=true then
   some 1
  else
   some 0
theorem mi (s_0:Bytes)(r:Int)(h0:km s_0=some r):au Tryz.prog 107 [eS s_0] (·=.p (eI r)):=by
 unfold km at h0
 refine aH good Tryz.func107 rfl rfl rfl λ w0=>mP (λ v:Int=>.p (eI v)) ?_
 refine nx 8 rfl (oLs rfl ?_)
 refine nx 2 rfl (fD [5] h0 rfl (λ c1 h0=>?_) λ c1 h0=>?_)
 ·exact nx 6 rfl (mQ (oi h0) rfl (sr))
 refine nx 6 rfl (bd h0 λ r2 e3 h0=>?_)
 refine oK (iU s_0 _ e3) rfl ⟨sr,trivial⟩ Tryz.call48 rfl (nx 2 rfl ?_)
 refine fB [8] h0 rfl (λ c4 h0=>?_) λ c4 h0=>?_
 ·exact nx 6 rfl (mQ (oi h0) rfl (sr))
 exact nx 7 rfl (mQ (oi h0) rfl (sr))
def dX (v_0:ab):Nat→Int→Option (Unit⊕(Unit⊕Int))
 | 0,_=>none
 | m+1,t24 =>
 if t24 < (v_0.fKeys.length:Int) then
  ck ((0:Int)≤t24∧t24 < (v_0.fKeys.length:Int)) <|
  (km (lat v_0.fKeys t24)).bind λ r27 =>
  if r27=0 then
   (
     if 0 < t24 then
      ck (inR (t24 - 1)) <|
      ck ((0:Int)≤t24 - 1∧t24 - 1 < (v_0.fKeys.length:Int)) <|
      some (Op.bytesLess (lat v_0.fKeys t24) (lat v_0.fKeys (t24 - 1))||decide (lat v_0.fKeys t24=lat v_0.fKeys (t24 - 1)))
     else
      some false
    : Option Bool).bind λ t33 =>
   if t33=true then
    some (.inr (.inr 1))
   else
    ck (inR (t24+1)) <|
    dX v_0 m (t24+1)
  else
   some (.inr (.inr r27))
 else
  some (.inl ())
def ip (n:Nat)(v_0:ab):Option Int :=
 (kf v_0).bind λ r1 =>
 if (!r1)=true then
  some 1
 else
  jn (
    if v_0.fKind=2 then
     (fH v_0.fNum).bind λ r5 =>
     if (!r5)=true then
      some (.inr 5)
     else
      some (.inl ())
    else
     if v_0.fKind=3 then
      (km v_0.fStr).bind λ r9 =>
      some (.inr r9)
     else
      if v_0.fKind=5 then
       jn (dX v_0 n 0) λ _q38 =>
       some (.inl ())
      else
       some (.inl ())
   : Option (Unit⊕Int)) λ _q37 =>
  some 0
theorem qL (n:Nat)(v_0:ab)(r:Int)(h0:ip n v_0=some r):au Tryz.prog 76 [.agg (ab.cs v_0)] (·=.p (eI r)):=by
 unfold ip at h0
 refine aH good Tryz.func76 rfl rfl rfl λ w0=>mP (λ v:Int=>.p (eI v)) ?_
 refine nx 9 rfl (bd h0 λ r1 e2 h0=>?_)
 refine oK (pi v_0 _ e2) rfl ⟨sr,trivial⟩ Tryz.call105 rfl (nx 2 rfl ?_)
 refine fB [8] h0 rfl (λ c3 h0=>?_) λ c3 h0=>?_
 ·exact nx 6 rfl (mQ (oi h0) rfl (sr))
 refine nx 8 rfl ?_
 obtain ⟨o40,h1,hL0,hR0⟩:=cn h0
 refine kX (λ v41:Unit=>o40=.inl v41) (λ v41=>⟨[],[]⟩) (λ v41 hv=>?_) ?_
 ·have h0:=hL0 _ hv
  exact nx 6 rfl (mQ (oi h0) rfl (sr))
 refine nx 6 rfl (fD [11,12] h1 rfl (λ c4 h1=>?_) λ c4 h1=>?_)
 ·refine nx 5 rfl (bd h1 λ r5 e6 h1=>?_)
  refine oK (kD v_0.fNum _ e6) rfl ⟨sr,trivial⟩ Tryz.call106 rfl (nx 2 rfl ?_)
  refine fB [16] h1 rfl (λ c7 h1=>?_) λ c7 h1=>?_
  ·exact nx 6 rfl (mQ (hR0 _ (oi h1).symm) rfl (sr))
  exact nx 2 rfl (eX _ (oi h1).symm (gE rfl rfl))
 refine nx 6 rfl (fD [17,18] h1 rfl (λ c8 h1=>?_) λ c8 h1=>?_)
 ·refine nx 5 rfl (bd h1 λ r9 e10 h1=>?_)
  refine oK (mi v_0.fStr _ e10) rfl ⟨sr,trivial⟩ Tryz.call107 rfl (nx 3 rfl ?_)
  exact mQ (hR0 _ (oi h1).symm) rfl (sr)
 refine nx 6 rfl (fD [22,23] h1 rfl (λ c11 h1=>?_) λ c11 h1=>?_)
 ·refine nx 5 rfl (oLl (f:=eS) rfl rfl ?_)
  refine nx 3 rfl ?_
  obtain ⟨o42,h2,hL1,hR1⟩:=cn h1
  refine kEx 1 (λ v43:Unit=>o42=.inl v43) (λ v43=>⟨[],[]⟩) (λ v43 hv=>?_) ?_
  ·have h1:=hL1 _ hv
   exact nx 1 rfl (eX _ (oi h1).symm (gE rfl rfl))
  refine lG (λ (q44:Int)=>⟨[(1,.ptr 1 0),(25,.p (eL eS v_0.fKeys)),(26,.p (eI (v_0.fKeys.length:Int))),(27,.p (eI q44))],[(1,(ab.cs v_0).map .p)]⟩) (λ m (q44:Int)=>dX v_0 m q44) (λ _=>rfl) 0 h2 (gE rfl rfl) ?_
  rintro m t24 h2
  replace h2:dX v_0 (m+1) t24=some o42:=h2
  rw [dX] at h2
  refine nx 5 rfl (fD [28] h2 rfl (λ c25 h2=>?_) λ c25 h2=>?_)
  ·refine nx 7 rfl (oE h2 (λ _=>rfl) rfl rfl (λ _=>rfl) λ hk26 h2=>?_)
   refine nx 8 rfl (bd h2 λ r27 e28 h2=>?_)
   refine oK (mi (lat v_0.fKeys t24) _ e28) rfl ⟨sr,trivial⟩ Tryz.call107 rfl (nx 7 rfl ?_)
   refine fN [35] h2 rfl (λ c29 h2=>?_) λ c29 h2=>?_
   ·refine nx 3 rfl (bd h2 λ o45 h3 h2=>?_)
    refine kN o45 (λ v46=>⟨[(1,.ptr 1 0),(25,.p (eL eS v_0.fKeys)),(26,.p (eI (v_0.fKeys.length:Int))),(27,.p (eI t24)),(48,.p (eB v46))],[(1,(ab.cs v_0).map .p)]⟩) ?_ ?_
    ·refine nx 1 rfl (fB [48] h2 rfl (λ c34 h2=>?_) λ c34 h2=>?_)
     ·exact nx 6 rfl (mQ (hR0 _ (hR1 _ (oi h2).symm).symm) rfl (sr))
     refine nx 3 rfl (oA h2 rfl rfl λ hk35 h2=>?_)
     exact nx 2 rfl (eX (t24+1) h2 (gE rfl rfl))
    refine nx 4 rfl (fD [38,39] h3 rfl (λ c30 h3=>?_) λ c30 h3=>?_)
    ·refine nx 4 rfl (oA h3 rfl rfl λ hk31 h3=>?_)
     refine oE h3 (λ _=>rfl) rfl rfl (λ _=>rfl) λ hk32 h3=>nx 1 rfl (oS rfl rfl ?_)
     exact nx 2 rfl (eX _ (oi h3).symm (gE rfl rfl))
    exact nx 10 rfl (eX _ (oi h3).symm (gE rfl rfl))
   exact nx 7 rfl (mQ (hR0 _ (hR1 _ (oi h2).symm).symm) rfl (sr))
  exact nx 2 rfl (eXi _ (oi h2).symm (gE rfl rfl))
 exact nx 2 rfl (eX _ (oi h1).symm (gE rfl rfl))
def cN (r_value_Check_1:ab→Int→Int→Option (Int×Int))(v_0:ab)(level_1:Int):Nat→Int→Int→Option (Int⊕(Int×Int))
 | 0,_,_=>none
 | m+1,t16,f17 =>
 if t16 < (v_0.fItems.length:Int) then
  ck ((0:Int)≤t16∧t16 < (v_0.fItems.length:Int)) <|
  ck (inR (level_1+1)) <|
  (r_value_Check_1 (lat v_0.fItems t16) (level_1+1) f17).bind λ r21 =>
  if r21.1=0 then
   ck (inR (t16+1)) <|
   cN r_value_Check_1 v_0 level_1 m (t16+1) r21.2
  else
   some (.inr (r21.1,r21.2))
 else
  some (.inl f17)
def cE:Nat→ab→Int→Int→Option (Int×Int)
 | 0,_,_,_=>none
 | n+1,v_0,level_1,cap_0 =>
 if 32 < level_1 then
  some (4,cap_0)
 else
  if 4096≤cap_0 then
   some (14,cap_0)
  else
   ck (inR (cap_0+1)) <|
   (ip n v_0).bind λ r4 =>
   if r4=0 then
    jn (cN (cE n) v_0 level_1 n 0 (cap_0+1)) λ f27 =>
    some (0,f27)
   else
    some (r4,cap_0+1)
theorem nS (n:Nat):∀ (v_0:ab) (level_1:Int) (cap_0:Int) (r:Int×Int),cE n v_0 level_1 cap_0=some r→bH Tryz.prog 75 [.p (.agg (ab.cs v_0)),.p (eI level_1),.ptr 1000000 0,.ptr 1000001 0] [(1000000,[.p (eI cap_0)]),(1000001,[.func (.func 75) [.ptr 1000000 0,.ptr 1000001 0]])] (λ x y=>x=.p (eI r.1)∧y=[(1000000,[.p (eI r.2)]),(1000001,[.func (.func 75) [.ptr 1000000 0,.ptr 1000001 0]])]):=by
 induction n with
 | zero=>intro v_0 level_1 cap_0 r h0; cases h0
 | succ n ih =>
 have ih_value_Check_1_ok:=ih
 intro v_0 level_1 cap_0 r h0
 rw [cE] at h0
 refine hH good [] [1000000,1000001] Tryz.func75 rfl rfl rfl rfl rfl λ w0 F=>mPo (λ v:Int×Int=>.p (eI v.1)) (λ v=>[(1000000,[.p (eI v.2)]),(1000001,[.func (.func 75) [.ptr 1000000 0,.ptr 1000001 0]])]) ?_
 refine nx 11 rfl (fD [12] h0 rfl (λ c1 h0=>?_) λ c1 h0=>?_)
 ·exact nx 6 rfl (mQo (oi h0) (bu _) rfl rfl rfl rfl (sr) ⟨⟨_,rfl,⟨sr,trivial⟩⟩,⟨_,rfl,⟨sr,trivial⟩⟩,trivial⟩)
 refine nx 8 rfl (fD [14] h0 rfl (λ c2 h0=>?_) λ c2 h0=>?_)
 ·exact nx 6 rfl (mQo (oi h0) (bu _) rfl rfl rfl rfl (sr) ⟨⟨_,rfl,⟨sr,trivial⟩⟩,⟨_,rfl,⟨sr,trivial⟩⟩,trivial⟩)
 refine nx 5 rfl (oA h0 rfl rfl λ hk3 h0=>?_)
 refine nx 6 rfl (bd h0 λ r4 e5 h0=>?_)
 refine oK (qL _ v_0 _ e5) rfl ⟨sr,trivial⟩ Tryz.call76 rfl (nx 7 rfl ?_)
 refine fN [20] h0 rfl (λ c6 h0=>?_) λ c6 h0=>?_
 ·refine nx 7 rfl (oLl (f:=ah) rfl rfl ?_)
  refine nx 3 rfl ?_
  obtain ⟨o29,h1,hL0,hR0⟩:=cn h0
  refine kEx 0 (λ v30:Int=>o29=.inl v30) (λ v30=>⟨[],[(1000000,[.p (eI v30)]),(1000001,[.func (.func 75) [.ptr 1000000 0,.ptr 1000001 0]])]⟩) (λ v30 hv=>?_) ?_
  ·have h0:=hL0 _ hv
   exact nx 6 rfl (mQo (oi h0) (bu _) rfl rfl rfl rfl (sr) ⟨⟨_,rfl,⟨sr,trivial⟩⟩,⟨_,rfl,⟨sr,trivial⟩⟩,trivial⟩)
  refine lG (λ (q31:Int×Int)=>⟨[(1,.p (eI level_1)),(3,.ptr 1000001 0),(23,.p (eL ah v_0.fItems)),(24,.p (eI (v_0.fItems.length:Int))),(25,.p (eI q31.1))],[(1000000,[.p (eI q31.2)]),(1000001,[.func (.func 75) [.ptr 1000000 0,.ptr 1000001 0]])]⟩) (λ m (q31:Int×Int)=>cN (cE n) v_0 level_1 m q31.1 q31.2) (λ _=>rfl) (0,cap_0+1) h1 (gE rfl rfl) ?_
  rintro m ⟨t16,f17⟩ h1
  replace h1:cN (cE n) v_0 level_1 (m+1) t16 f17=some o29:=h1
  rw [cN] at h1
  refine nx 5 rfl (fD [26] h1 rfl (λ c18 h1=>?_) λ c18 h1=>?_)
  ·refine nx 6 rfl (oE h1 ab.cells_eq rfl rfl (λ _=>rfl) λ hk19 h1=>?_)
   refine nx 9 rfl (oA h1 rfl rfl λ hk20 h1=>?_)
   refine bd h1 λ r21 e22 h1=>mO rfl (ra [1000000,1000001] [] 102000 102000 (ih_value_Check_1_ok (lat v_0.fItems t16) (level_1+1) f17 _ e22) rfl rfl rfl rfl rfl rfl ⟨sr,sr,sr,sr,trivial⟩ rfl rfl ⟨⟨_,rfl,⟨sr,trivial⟩⟩,⟨_,rfl,⟨sr,trivial⟩⟩,trivial⟩ rfl rfl rfl rfl rfl rfl rfl rfl Tryz.call75 rfl rfl ?_)
   refine nx 7 rfl (fN [35] h1 rfl (λ c23 h1=>?_) λ c23 h1=>?_)
   ·refine nx 3 rfl (oA h1 rfl rfl λ hk24 h1=>?_)
    exact nx 2 rfl (eX (t16+1,r21.2) h1 (gE rfl rfl))
   exact nx 7 rfl (mQo (hR0 _ (oi h1).symm) (bu _) rfl rfl rfl rfl (sr) ⟨⟨_,rfl,⟨sr,trivial⟩⟩,⟨_,rfl,⟨sr,trivial⟩⟩,trivial⟩)
  exact nx 2 rfl (eXi _ (oi h1).symm (gE rfl rfl))
 exact nx 7 rfl (mQo (oi h0) (bu _) rfl rfl rfl rfl (sr) ⟨⟨_,rfl,⟨sr,trivial⟩⟩,⟨_,rfl,⟨sr,trivial⟩⟩,trivial⟩)
def gz (n:Nat)(v_0:ab):Option Int :=
 (cE n v_0 1 0).bind λ r1 =>
 some r1.1
theorem pF (n:Nat)(v_0:ab)(r:Int)(h0:gz n v_0=some r):au Tryz.prog 46 [.agg (ab.cs v_0)] (·=.p (eI r)):=by
 unfold gz at h0
 refine aH good Tryz.func46 rfl rfl rfl λ w0=>mP (λ v:Int=>.p (eI v)) ?_
 refine nx 16 rfl (mO rfl (tr rfl rfl rfl rfl ?_))
 refine nx 6 rfl (bd h0 λ r1 e2 h0=>?_)
 refine mO rfl (ra [3,4] [] 101000 101000 (nS _ v_0 1 0 _ e2) rfl rfl rfl rfl rfl rfl ⟨sr,sr,sr,sr,trivial⟩ rfl rfl ⟨⟨_,rfl,⟨sr,trivial⟩⟩,⟨_,rfl,⟨sr,trivial⟩⟩,trivial⟩ rfl rfl rfl rfl rfl rfl rfl rfl Tryz.call75 rfl rfl ?_)
 exact nx 3 rfl (mQ (oi h0) rfl (sr))
def a8 (s1_0:List Bytes)(s2_1:List Bytes):Nat→Int→Option (Unit⊕Bool)
 | 0,_=>none
 | m+1,t8 =>
 if t8 < (s1_0.length:Int) then
  ck ((0:Int)≤t8∧t8 < (s1_0.length:Int)) <|
  ck ((0:Int)≤t8∧t8 < (s2_1.length:Int)) <|
  if lat s1_0 t8=lat s2_1 t8 then
   ck (inR (t8+1)) <|
   a8 s1_0 s2_1 m (t8+1)
  else
   some (.inr false)
 else
  some (.inl ())
def ba (n:Nat)(s1_0:List Bytes)(s2_1:List Bytes):Option Bool :=
 if (s1_0.length:Int)=(s2_1.length:Int) then
  jn (a8 s1_0 s2_1 n 0) λ _q15 =>
  some true
 else
  some false
theorem dC (n:Nat)(s1_0:List Bytes)(s2_1:List Bytes)(r:Bool)(h0:ba n s1_0 s2_1=some r):au Tryz.prog 60 [eL eS s1_0,eL eS s2_1] (·=.p (eB r)):=by
 unfold ba at h0
 refine aH good Tryz.func60 rfl rfl rfl λ w0=>mP (λ v:Bool=>.p (eB v)) ?_
 refine nx 8 rfl (oLl (f:=eS) rfl rfl ?_)
 refine nx 1 rfl (oLl (f:=eS) rfl rfl ?_)
 refine nx 2 rfl (fN [10] h0 rfl (λ c1 h0=>?_) λ c1 h0=>?_)
 ·refine nx 6 rfl (oLl (f:=eS) rfl rfl ?_)
  refine nx 3 rfl ?_
  obtain ⟨o16,h1,hL0,hR0⟩:=cn h0
  refine kEx 0 (λ v17:Unit=>o16=.inl v17) (λ v17=>⟨[],[]⟩) (λ v17 hv=>?_) ?_
  ·have h0:=hL0 _ hv
   exact nx 6 rfl (mQ (oi h0) rfl (sr))
  refine lG (λ (q18:Int)=>⟨[(0,.p (eL eS s1_0)),(1,.p (eL eS s2_1)),(12,.p (eI (s1_0.length:Int))),(13,.p (eI q18))],[]⟩) (λ m (q18:Int)=>a8 s1_0 s2_1 m q18) (λ _=>rfl) 0 h1 (gE rfl rfl) ?_
  rintro m t8 h1
  replace h1:a8 s1_0 s2_1 (m+1) t8=some o16:=h1
  rw [a8] at h1
  refine nx 5 rfl (fD [14] h1 rfl (λ c9 h1=>?_) λ c9 h1=>?_)
  ·refine nx 10 rfl (cc' h1 λ hk10 h1=>?_)
   refine cc' h1 λ hk11 h1=>mD [(0,.p (eL eS s1_0)),(1,.p (eL eS s2_1)),(5,.p (eI t8)),(12,.p (eI (s1_0.length:Int))),(13,.p (eI t8))] rfl ⟨rfl,rfl,rfl,rfl,rfl,trivial⟩ rfl (dR 2 rfl ?_)
   refine dq (.rptr [eS (lat s1_0 t8)]) [16,17] rfl (λ _ e _ q=>af rfl (dQ (f:=eS) (l:=s1_0) (λ x=>[eS x]) rfl rfl rfl rfl rfl rfl (e _ _ rfl) rfl (e _ _ rfl) hk10 (λ _=>rfl) (λ _=>rfl) q)) rfl (dR 3 rfl ?_)
   refine dq (.rptr [eS (lat s2_1 t8)]) [20,21] rfl (λ _ e _ q=>af rfl (dQ (f:=eS) (l:=s2_1) (λ x=>[eS x]) rfl rfl rfl rfl rfl rfl (e _ _ rfl) rfl (e _ _ rfl) hk11 (λ _=>rfl) (λ _=>rfl) q)) rfl (dR 1 rfl ?_)
   refine dq (.p (eB (!decide (lat s1_0 t8=lat s2_1 t8)))) [19,23] rfl (λ _ e _ q=>af rfl (lS rfl rfl rfl (e _ _ rfl) (e _ _ rfl) rfl q)) rfl (dE rfl ?_)
   refine nx 1 rfl (fN [24] h1 rfl (λ c12 h1=>?_) λ c12 h1=>?_)
   ·refine nx 3 rfl (oA h1 rfl rfl λ hk13 h1=>?_)
    exact nx 2 rfl (eX (t8+1) h1 (gE rfl rfl))
   exact nx 6 rfl (mQ (hR0 _ (oi h1).symm) rfl (sr))
  exact nx 2 rfl (eXi _ (oi h1).symm (gE rfl rfl))
 exact nx 6 rfl (mQ (oi h0) rfl (sr))
def ay (s1_0:List ab)(s2_1:List ab)(eq_2:ab→ab→Option Bool):Nat→Int→Option (Unit⊕Bool)
 | 0,_=>none
 | m+1,t10 =>
 if t10 < (s1_0.length:Int) then
  ck ((0:Int)≤t10∧t10 < (s1_0.length:Int)) <|
  ck ((0:Int)≤t10∧t10 < (s2_1.length:Int)) <|
  (eq_2 (lat s1_0 t10) (lat s2_1 t10)).bind λ r14 =>
  if (!r14)=true then
   some (.inr false)
  else
   ck (inR (t10+1)) <|
   ay s1_0 s2_1 eq_2 m (t10+1)
 else
  some (.inl ())
def aL (n:Nat)(s1_0:List ab)(s2_1:List ab)(eq_2:ab→ab→Option Bool):Option Bool :=
 if (s1_0.length:Int)=(s2_1.length:Int) then
  jn (ay s1_0 s2_1 eq_2 n 0) λ _q19 =>
  some true
 else
  some false
theorem dp (n:Nat)(s1_0:List ab)(s2_1:List ab)(eq_2:ab→ab→Option Bool)(F_eq_2:FuncId)(C_eq_2:List AV)(K_eq_2:AV.mapA.go (λ _=>none) C_eq_2=some C_eq_2)(E_eq_2:∀ vs w,(callFunc F_eq_2 vs).run Tryz.prog w=.ok (.enter F_eq_2 vs) w)(H_eq_2:∀ (x0:ab) (x1:ab) r,eq_2 x0 x1=some r→iZ Tryz.prog F_eq_2 ([.p (.agg (ab.cs x0)),.p (.agg (ab.cs x1))]++C_eq_2) (·=.p (eB r)))(r:Bool)(h0:aL n s1_0 s2_1 eq_2=some r):iZ Tryz.prog 61 [.p (eL ah s1_0),.p (eL ah s2_1),.func (.func F_eq_2) C_eq_2] (·=.p (eB r)):=by
 unfold aL at h0
 refine AR good Tryz.func61 rfl rfl rfl λ w0=>mP (λ v:Bool=>.p (eB v)) ?_
 refine nx 8 rfl (oLl (f:=ah) rfl rfl ?_)
 refine nx 1 rfl (oLl (f:=ah) rfl rfl ?_)
 refine nx 2 rfl (fN [14] h0 rfl (λ c1 h0=>?_) λ c1 h0=>?_)
 ·refine nx 6 rfl (oLl (f:=ah) rfl rfl ?_)
  refine nx 3 rfl ?_
  obtain ⟨o20,h1,hL0,hR0⟩:=cn h0
  refine kEx 0 (λ v21:Unit=>o20=.inl v21) (λ v21=>⟨[],[]⟩) (λ v21 hv=>?_) ?_
  ·have h0:=hL0 _ hv
   exact nx 6 rfl (mQ (oi h0) rfl (sr))
  refine lG (λ (q22:Int)=>⟨[(1,.p (eL ah s2_1)),(2,.func (.func F_eq_2) C_eq_2),(15,.p (eL ah s1_0)),(16,.p (eI (s1_0.length:Int))),(17,.p (eI q22))],[]⟩) (λ m (q22:Int)=>ay s1_0 s2_1 eq_2 m q22) (λ _=>rfl) 0 h1 (gE rfl rfl) ?_
  rintro m t10 h1
  replace h1:ay s1_0 s2_1 eq_2 (m+1) t10=some o20:=h1
  rw [ay] at h1
  refine nx 5 rfl (fD [18] h1 rfl (λ c11 h1=>?_) λ c11 h1=>?_)
  ·refine nx 7 rfl (oE h1 ab.cells_eq rfl rfl (λ _=>rfl) λ hk12 h1=>?_)
   refine nx 9 rfl (oE h1 ab.cells_eq rfl rfl (λ _=>rfl) λ hk13 h1=>?_)
   refine nx 9 rfl (bd h1 λ r14 e15 h1=>?_)
   refine mG (gFn 2 C_eq_2 rfl (by simp only [tj K_eq_2])) (mG (gFn 26 C_eq_2 rfl (by simp only [tj K_eq_2])) ?_)
   refine mO rfl (yp (q:=[.p (.agg (ab.cs (lat s1_0 t10))),.p (.agg (ab.cs (lat s2_1 t10)))]) (H_eq_2 (lat s1_0 t10) (lat s2_1 t10) _ e15) rfl rfl rfl rfl K_eq_2 rfl rfl ⟨sr,sr,trivial⟩ E_eq_2 rfl ?_)
   refine nx 2 rfl (fB [30] h1 rfl (λ c16 h1=>?_) λ c16 h1=>?_)
   ·exact nx 6 rfl (mQ (hR0 _ (oi h1).symm) rfl (sr))
   refine nx 3 rfl (oA h1 rfl rfl λ hk17 h1=>?_)
   exact nx 2 rfl (eX (t10+1) h1 (gE rfl rfl))
  exact nx 2 rfl (eXi _ (oi h1).symm (gE rfl rfl))
 exact nx 6 rfl (mQ (oi h0) rfl (sr))
def eG:Nat→ab→ab→Option Bool
 | 0,_,_=>none
 | n+1,a_0,b_1 =>
 (
   if a_0.fKind=b_1.fKind then
    if a_0.fNum=b_1.fNum then
     if a_0.fStr=b_1.fStr then
      (ba n a_0.fKeys b_1.fKeys).bind λ r4 =>
      if r4=true then
       (aL n a_0.fItems b_1.fItems (λ x0 x1=>(eG n) x0 x1)).bind λ r8 =>
       some r8
      else
       some false
     else
      some false
    else
     some false
   else
    some false
  : Option Bool).bind λ t10 =>
 some t10
theorem qk (n:Nat):∀ (a_0:ab) (b_1:ab) (r:Bool),eG n a_0 b_1=some r→au Tryz.prog 29 [.agg (ab.cs a_0),.agg (ab.cs b_1)] (·=.p (eB r)):=by
 induction n with
 | zero=>intro a_0 b_1 r h0; cases h0
 | succ n ih =>
 have ih_value_Equal_ok:=ih
 intro a_0 b_1 r h0
 rw [eG] at h0
 refine aH good Tryz.func29 rfl rfl rfl λ w0=>mP (λ v:Bool=>.p (eB v)) ?_
 refine nx 7 rfl (bd h0 λ o12 h1 h0=>?_)
 refine kN o12 (λ v13=>⟨[(4,.p (eB v13))],[]⟩) ?_ ?_
 ·exact nx 2 rfl (mQ (oi h0) rfl (sr))
 refine nx 7 rfl (fD [9,10] h1 rfl (λ c1 h1=>?_) λ c1 h1=>?_)
 ·refine nx 7 rfl (fD [15,16,17] h1 rfl (λ c2 h1=>?_) λ c2 h1=>?_)
  ·refine nx 4 rfl (oS rfl rfl ?_)
   refine nx 2 rfl (fD [22,23,24] h1 rfl (λ c3 h1=>?_) λ c3 h1=>?_)
   ·refine nx 4 rfl (bd h1 λ r4 e5 h1=>?_)
    refine oK (dC _ a_0.fKeys b_1.fKeys _ e5) rfl ⟨sr,sr,trivial⟩ Tryz.call60 rfl (nx 2 rfl ?_)
    refine fB [29,30,31] h1 rfl (λ c6 h1=>?_) λ c6 h1=>?_
    ·refine nx 4 rfl (bd h1 λ r8 e9 h1=>?_)
     refine mO rfl (wZ (dp _ a_0.fItems b_1.fItems (λ x0 x1=>(eG n) x0 x1) 29 [] rfl Tryz.call29 (λ x0 x1 r h=>(ih_value_Equal_ok x0 x1 r h).q) _ e9) rfl rfl rfl rfl (lv rfl (lv rfl (lv (wj rfl) uC))) ⟨sr,sr,sr,trivial⟩ Tryz.call61 rfl ?_)
     exact nx 3 rfl (eX _ (oi h1).symm (gE rfl rfl))
    exact nx 8 rfl (eX _ (oi h1).symm (gE rfl rfl))
   exact nx 15 rfl (eX _ (oi h1).symm (gE rfl rfl))
  exact nx 22 rfl (eX _ (oi h1).symm (gE rfl rfl))
 exact nx 29 rfl (eX _ (oi h1).symm (gE rfl rfl))
def dy (p_0:List aa):Nat→Int→Option (Unit⊕Int)
 | 0,_=>none
 | m+1,t21 =>
 if t21 < (p_0.length:Int) then
  ck ((0:Int)≤t21∧t21 < (p_0.length:Int)) <|
  (
    if ((lat p_0 t21).fIndex)=true then
     if (lat p_0 t21).fName=([]:Bytes) then
      if (!((lat p_0 t21).fIndex))=true then
       if (lat p_0 t21).fNum=0 then
        (en ((lat p_0 t21).fName)).bind λ r28 =>
        some (!r28)
       else
        some true
      else
       some false
     else
      some true
    else
     if (!((lat p_0 t21).fIndex))=true then
      if (lat p_0 t21).fNum=0 then
       (en ((lat p_0 t21).fName)).bind λ r32 =>
       some (!r32)
      else
       some true
     else
      some false
   : Option Bool).bind λ t34 =>
  if t34=true then
   some (.inr 1)
  else
   (
     if (lat p_0 t21).fNum < 0 then
      some true
     else
      some (decide (9007199254740992 < (lat p_0 t21).fNum))
    : Option Bool).bind λ t37 =>
   if t37=true then
    some (.inr 5)
   else
    ck (inR (t21+1)) <|
    dy p_0 m (t21+1)
 else
  some (.inl ())
def gp (n:Nat)(p_0:List aa):Option Int :=
 if 32 < (p_0.length:Int) then
  some 4
 else
  jn (dy p_0 n 0) λ _q41 =>
  some 0
theorem jV (n:Nat)(p_0:List aa)(r:Int)(h0:gp n p_0=some r):au Tryz.prog 23 [eL ae p_0] (·=.p (eI r)):=by
 unfold gp at h0
 refine aH good Tryz.func23 rfl rfl rfl λ w0=>mP (λ v:Int=>.p (eI v)) ?_
 refine nx 8 rfl (oLl (f:=ae) rfl rfl ?_)
 refine nx 2 rfl (fD [7] h0 rfl (λ c1 h0=>?_) λ c1 h0=>?_)
 ·exact nx 6 rfl (mQ (oi h0) rfl (sr))
 refine nx 6 rfl (oLl (f:=ae) rfl rfl ?_)
 refine nx 3 rfl ?_
 obtain ⟨o44,h1,hL0,hR0⟩:=cn h0
 refine kEx 0 (λ v45:Unit=>o44=.inl v45) (λ v45=>⟨[],[]⟩) (λ v45 hv=>?_) ?_
 ·have h0:=hL0 _ hv
  exact nx 6 rfl (mQ (oi h0) rfl (sr))
 refine lG (λ (q46:Int)=>⟨[(8,.p (eL ae p_0)),(9,.p (eI (p_0.length:Int))),(10,.p (eI q46))],[]⟩) (λ m (q46:Int)=>dy p_0 m q46) (λ _=>rfl) 0 h1 (gE rfl rfl) ?_
 rintro m t21 h1
 replace h1:dy p_0 (m+1) t21=some o44:=h1
 rw [dy] at h1
 refine nx 5 rfl (fD [11] h1 rfl (λ c22 h1=>?_) λ c22 h1=>?_)
 ·refine nx 6 rfl (oE h1 aa.cells_eq rfl rfl (λ _=>rfl) λ hk23 h1=>?_)
  refine nx 6 rfl (bd h1 λ o47 h2 h1=>?_)
  refine kN o47 (λ v48=>⟨[(4,.ptr 4 0),(8,.p (eL ae p_0)),(9,.p (eI (p_0.length:Int))),(10,.p (eI t21)),(36,.p (eB v48))],[(4,(aa.cs (lat p_0 t21)).map .p)]⟩) ?_ ?_
  ·refine nx 1 rfl (fB [36] h1 rfl (λ c35 h1=>?_) λ c35 h1=>?_)
   ·exact nx 6 rfl (mQ (hR0 _ (oi h1).symm) rfl (sr))
   refine nx 3 rfl (bd h1 λ o49 h2 h1=>?_)
   refine kN o49 (λ v50=>⟨[(8,.p (eL ae p_0)),(9,.p (eI (p_0.length:Int))),(10,.p (eI t21)),(44,.p (eB v50))],[]⟩) ?_ ?_
   ·refine nx 1 rfl (fB [44] h1 rfl (λ c38 h1=>?_) λ c38 h1=>?_)
    ·exact nx 6 rfl (mQ (hR0 _ (oi h1).symm) rfl (sr))
    refine nx 3 rfl (oA h1 rfl rfl λ hk39 h1=>?_)
    exact nx 2 rfl (eX (t21+1) h1 (gE rfl rfl))
   refine nx 5 rfl (fD [39,40] h2 rfl (λ c36 h2=>?_) λ c36 h2=>?_)
   ·exact nx 5 rfl (eX _ (oi h2).symm (gE rfl rfl))
   exact nx 5 rfl (eX _ (oi h2).symm (gE rfl rfl))
  refine nx 4 rfl (fB [15,16] h2 rfl (λ c24 h2=>?_) λ c24 h2=>?_)
  ·refine nx 2 rfl (oS rfl rfl ?_)
   refine nx 2 rfl (fN [19,20,21] h2 rfl (λ c25 h2=>?_) λ c25 h2=>?_)
   ·refine nx 4 rfl (fB [24,25] h2 rfl (λ c26 h2=>?_) λ c26 h2=>?_)
    ·refine nx 4 rfl (fN [28,29] h2 rfl (λ c27 h2=>?_) λ c27 h2=>?_)
     ·refine nx 2 rfl (bd h2 λ r28 e29 h2=>?_)
      refine oK (iU ((lat p_0 t21).fName) _ e29) rfl ⟨sr,trivial⟩ Tryz.call48 rfl (nx 5 rfl ?_)
      exact eX _ (oi h2).symm (gE rfl rfl)
     exact nx 8 rfl (eX _ (oi h2).symm (gE rfl rfl))
    exact nx 12 rfl (eX _ (oi h2).symm (gE rfl rfl))
   exact nx 16 rfl (eX _ (oi h2).symm (gE rfl rfl))
  refine nx 9 rfl (fB [24,25] h2 rfl (λ c30 h2=>?_) λ c30 h2=>?_)
  ·refine nx 4 rfl (fN [28,29] h2 rfl (λ c31 h2=>?_) λ c31 h2=>?_)
   ·refine nx 2 rfl (bd h2 λ r32 e33 h2=>?_)
    refine oK (iU ((lat p_0 t21).fName) _ e33) rfl ⟨sr,trivial⟩ Tryz.call48 rfl (nx 5 rfl ?_)
    exact eX _ (oi h2).symm (gE rfl rfl)
   exact nx 8 rfl (eX _ (oi h2).symm (gE rfl rfl))
  exact nx 12 rfl (eX _ (oi h2).symm (gE rfl rfl))
 exact nx 2 rfl (eXi _ (oi h1).symm (gE rfl rfl))
def bC (s_0:Bytes):Nat→Int→Option (Unit⊕Bool)
 | 0,_=>none
 | m+1,t19 =>
 if t19 < (s_0.length:Int) then
  ck ((0:Int)≤t19∧t19 < (s_0.length:Int)) <|
  (
    ck ((0:Int)≤t19∧t19 < (s_0.length:Int)) <|
    if byt s_0 t19=95 then
     some false
    else
     if iOr .u8 (byt s_0 t19) 32 < 97 then
      if t19=0 then
       some true
      else
       ck ((0:Int)≤t19∧t19 < (s_0.length:Int)) <|
       if byt s_0 t19 < 48 then
        some true
       else
        ck ((0:Int)≤t19∧t19 < (s_0.length:Int)) <|
        some (decide (57 < byt s_0 t19))
     else
      if 122 < iOr .u8 (byt s_0 t19) 32 then
       if t19=0 then
        some true
       else
        ck ((0:Int)≤t19∧t19 < (s_0.length:Int)) <|
        if byt s_0 t19 < 48 then
         some true
        else
         ck ((0:Int)≤t19∧t19 < (s_0.length:Int)) <|
         some (decide (57 < byt s_0 t19))
      else
       some false
   : Option Bool).bind λ t34 =>
  if t34=true then
   some (.inr false)
  else
   ck (inR (t19+1)) <|
   bC s_0 m (t19+1)
 else
  some (.inl ())
def co (n:Nat)(s_0:Bytes):Option Bool :=
 jn (bC s_0 n 0) λ _q40 =>
 (
   if s_0=([]:Bytes) then
    some false
   else
    some (decide ((s_0.length:Int)≤64))
  : Option Bool).bind λ t39 =>
 some t39
theorem jy (n:Nat)(s_0:Bytes)(r:Bool)(h0:co n s_0=some r):au Tryz.prog 51 [eS s_0] (·=.p (eB r)):=by
 unfold co at h0
 refine aH good Tryz.func51 rfl rfl rfl λ w0=>mP (λ v:Bool=>.p (eB v)) ?_
 refine nx 8 rfl (oLs rfl ?_)
 refine nx 3 rfl ?_
 obtain ⟨o43,h1,hL0,hR0⟩:=cn h0
 refine kEx 0 (λ v44:Unit=>o43=.inl v44) (λ v44=>⟨[(0,.p (eS s_0))],[]⟩) (λ v44 hv=>?_) ?_
 ·have h0:=hL0 _ hv
  refine nx 2 rfl (bd h0 λ o45 h1 h0=>?_)
  refine kN o45 (λ v46=>⟨[(2,.p (eB v46))],[]⟩) ?_ ?_
  ·exact nx 2 rfl (mQ (oi h0) rfl (sr))
  refine nx 2 rfl (oS rfl rfl ?_)
  refine nx 1 rfl (fN [44,45] h1 rfl (λ c38 h1=>?_) λ c38 h1=>?_)
  ·exact nx 6 rfl (eX _ (oi h1).symm (gE rfl rfl))
  refine nx 1 rfl (oLs rfl ?_)
  exact nx 4 rfl (eX _ (oi h1).symm (gE rfl rfl))
 refine lG (λ (q47:Int)=>⟨[(0,.p (eS s_0)),(6,.p (eI (s_0.length:Int))),(7,.p (eI q47))],[]⟩) (λ m (q47:Int)=>bC s_0 m q47) (λ _=>rfl) 0 h1 (gE rfl rfl) ?_
 rintro m t19 h1
 replace h1:bC s_0 (m+1) t19=some o43:=h1
 rw [bC] at h1
 refine nx 5 rfl (fD [8] h1 rfl (λ c20 h1=>?_) λ c20 h1=>?_)
 ·refine nx 13 rfl (oI h1 rfl λ hk21 h1=>?_)
  refine nx 4 rfl (bd h1 λ o48 h2 h1=>?_)
  refine kN o48 (λ v49=>⟨[(0,.p (eS s_0)),(6,.p (eI (s_0.length:Int))),(7,.p (eI t19)),(41,.p (eB v49))],[]⟩) ?_ ?_
  ·refine nx 1 rfl (fB [41] h1 rfl (λ c35 h1=>?_) λ c35 h1=>?_)
   ·exact nx 6 rfl (mQ (hR0 _ (oi h1).symm) rfl (sr))
   refine nx 3 rfl (oA h1 rfl rfl λ hk36 h1=>?_)
   exact nx 2 rfl (eX (t19+1) h1 (gE rfl rfl))
  refine nx 3 rfl (oI h2 rfl λ hk22 h2=>?_)
  refine nx 2 rfl (fN [17,18] h2 rfl (λ c23 h2=>?_) λ c23 h2=>?_)
  ·exact nx 24 rfl (eX _ (oi h2).symm (gE rfl rfl))
  refine nx 3 rfl (fD [20,21] h2 rfl (λ c24 h2=>?_) λ c24 h2=>?_)
  ·refine nx 8 rfl (fD [28,29] h2 rfl (λ c25 h2=>?_) λ c25 h2=>?_)
   ·exact nx 13 rfl (eX _ (oi h2).symm (gE rfl rfl))
   refine nx 2 rfl (oI h2 rfl λ hk26 h2=>?_)
   refine nx 3 rfl (fD [33,34,35] h2 rfl (λ c27 h2=>?_) λ c27 h2=>?_)
   ·exact nx 7 rfl (eX _ (oi h2).symm (gE rfl rfl))
   refine nx 2 rfl (oI h2 rfl λ hk28 h2=>?_)
   exact nx 4 rfl (eX _ (oi h2).symm (gE rfl rfl))
  refine nx 5 rfl (fD [23,24,25,26] h2 rfl (λ c29 h2=>?_) λ c29 h2=>?_)
  ·refine nx 3 rfl (fD [28,29] h2 rfl (λ c30 h2=>?_) λ c30 h2=>?_)
   ·exact nx 13 rfl (eX _ (oi h2).symm (gE rfl rfl))
   refine nx 2 rfl (oI h2 rfl λ hk31 h2=>?_)
   refine nx 3 rfl (fD [33,34,35] h2 rfl (λ c32 h2=>?_) λ c32 h2=>?_)
   ·exact nx 7 rfl (eX _ (oi h2).symm (gE rfl rfl))
   refine nx 2 rfl (oI h2 rfl λ hk33 h2=>?_)
   exact nx 4 rfl (eX _ (oi h2).symm (gE rfl rfl))
  exact nx 16 rfl (eX _ (oi h2).symm (gE rfl rfl))
 exact nx 2 rfl (eXi _ (oi h1).symm (gE rfl rfl))
def bQ (n:Nat)(p_0:List aa):Nat→Int→(List UInt8)→Option (List UInt8)
 | 0,_,_=>none
 | m+1,t29,f30 =>
 if t29 < (p_0.length:Int) then
  ck ((0:Int)≤t29∧t29 < (p_0.length:Int)) <|
  (
    if ((lat p_0 t29).fIndex)=true then
     (f0 ((lat p_0 t29).fNum)).bind λ r34 =>
     ck (([91]:Bytes).length+r34.length≤9223372036854775807) <|
     ck ((([91]:Bytes)++r34).length+([93]:Bytes).length≤9223372036854775807) <|
     (aJ (az.mk f30) ((([91]:Bytes)++r34)++([93]:Bytes))).bind λ r38 =>
     some r38.2.2.fbuf
    else
     (co n ((lat p_0 t29).fName)).bind λ r40 =>
     if (!r40)=true then
      (ep n ((lat p_0 t29).fName)).bind λ r43 =>
      ck (([91]:Bytes).length+r43.length≤9223372036854775807) <|
      ck ((([91]:Bytes)++r43).length+([93]:Bytes).length≤9223372036854775807) <|
      (aJ (az.mk f30) ((([91]:Bytes)++r43)++([93]:Bytes))).bind λ r47 =>
      some r47.2.2.fbuf
     else
      if 0 < t29 then
       ck (([46]:Bytes).length+((lat p_0 t29).fName).length≤9223372036854775807) <|
       (aJ (az.mk f30) (([46]:Bytes)++((lat p_0 t29).fName))).bind λ r51 =>
       some r51.2.2.fbuf
      else
       (aJ (az.mk f30) ((lat p_0 t29).fName)).bind λ r53 =>
       some r53.2.2.fbuf
   : Option (List UInt8)).bind λ f55 =>
  ck (inR (t29+1)) <|
  bQ n p_0 m (t29+1) f55
 else
  some f30
def dk (n:Nat)(p_0:List aa):Option Bytes :=
 (bQ n p_0 n 0 []).bind λ f59 =>
 (ct (az.mk f59)).bind λ r60 =>
 some r60.1
theorem fq (n:Nat)(p_0:List aa)(r:Bytes)(h0:dk n p_0=some r):au Tryz.prog 24 [eL ae p_0] (·=.p (eS r)):=by
 unfold dk at h0
 refine aH good Tryz.func24 rfl rfl rfl λ w0=>mP (λ v:Bytes=>.p (eS v)) ?_
 refine nx 6 rfl (mO rfl (om rfl rfl rfl rfl rfl rfl rfl ?_))
 refine nx 5 rfl (oLl (f:=ae) rfl rfl ?_)
 refine nx 3 rfl (bd h0 λ o64 h1 h0=>?_)
 refine kE 0 o64 (λ v65=>⟨[(3,.ptr 3 0)],[(3,[.bptr 65 2 3,.vec 104000 1 (5+1) (v65.map eU)])]⟩) ?_ ?_
 ·refine nx 3 rfl (bd h0 λ r60 e61 h0=>?_)
  refine mO rfl (br [3] [104000] 109000 109000 (ef (az.mk o64) _ e61) rfl rfl rfl rfl rfl ⟨sr,trivial⟩ rfl rfl ⟨⟨_,rfl,⟨sr,sr,trivial⟩⟩,trivial⟩ rfl rfl rfl rfl rfl rfl rfl rfl Tryz.call53 rfl rfl ?_)
  exact nx 3 rfl (mQ (oi h0) rfl (sr))
 refine lG (λ (q66:Int×(List UInt8))=>⟨[(3,.ptr 3 0),(6,.p (eL ae p_0)),(7,.p (eI (p_0.length:Int))),(8,.p (eI q66.1))],[(3,[.bptr 65 2 3,.vec 104000 1 (5+1) (q66.2.map eU)])]⟩) (λ m (q66:Int×(List UInt8))=>bQ n p_0 m q66.1 q66.2) (λ _=>rfl) (0,[]) h1 (cj (gX ⟨er rfl,er rfl,er rfl,er rfl,trivial⟩ ⟨⟨_,rfl,⟨sr,AV.sub_nilvec _ _ _,trivial⟩⟩,trivial⟩)) ?_
 rintro m ⟨t29,f30⟩ h1
 replace h1:bQ n p_0 (m+1) t29 f30=some o64:=h1
 rw [bQ] at h1
 refine nx 5 rfl (fD [9] h1 rfl (λ c31 h1=>?_) λ c31 h1=>?_)
 ·refine nx 7 rfl (oE h1 aa.cells_eq rfl rfl (λ _=>rfl) λ hk32 h1=>?_)
  refine nx 5 rfl (bd h1 λ o67 h2 h1=>?_)
  refine kN o67 (λ v68=>⟨[(3,.ptr 3 0),(6,.p (eL ae p_0)),(7,.p (eI (p_0.length:Int))),(8,.p (eI t29))],[(3,[.bptr 65 2 3,.vec 108000 1 (5+1) (v68.map eU)])]⟩) ?_ ?_
  ·refine nx 2 rfl (oA h1 rfl rfl λ hk56 h1=>?_)
   exact nx 2 rfl (eX (t29+1,o67) h1 (aN (bf 108000 104000 rfl rfl rfl rfl rfl) (gE rfl rfl)))
  refine nx 7 rfl (fB [16,18] h2 rfl (λ c33 h2=>?_) λ c33 h2=>?_)
  ·refine nx 4 rfl (bd h2 λ r34 e35 h2=>?_)
   refine oK (nK ((lat p_0 t29).fNum) _ e35) rfl ⟨sr,trivial⟩ Tryz.call50 rfl (oC h2 rfl λ hk36 h2=>?_)
   refine oC h2 rfl λ hk37 h2=>bd h2 λ r38 e39 h2=>mO rfl (br [3] [104000] 105000 105001 (aY (az.mk f30) ((([91]:Bytes)++r34)++([93]:Bytes)) _ e39) rfl rfl rfl rfl rfl ⟨sr,sr,trivial⟩ rfl rfl ⟨⟨_,rfl,⟨sr,sr,trivial⟩⟩,trivial⟩ rfl rfl rfl rfl rfl rfl rfl rfl Tryz.call49 rfl rfl ?_)
   exact nx 1 rfl (eX _ (oi h2).symm (aN (bf 105000 108000 rfl rfl rfl rfl rfl) (gE rfl rfl)))
  refine nx 5 rfl (bd h2 λ r40 e41 h2=>?_)
  refine oK (jy _ ((lat p_0 t29).fName) _ e41) rfl ⟨sr,trivial⟩ Tryz.call51 rfl (nx 3 rfl ?_)
  refine fB [25,29] h2 rfl (λ c42 h2=>?_) λ c42 h2=>?_
  ·refine nx 4 rfl (bd h2 λ r43 e44 h2=>?_)
   refine oK (pk _ ((lat p_0 t29).fName) _ e44) rfl ⟨sr,trivial⟩ Tryz.call52 rfl (oC h2 rfl λ hk45 h2=>?_)
   refine oC h2 rfl λ hk46 h2=>bd h2 λ r47 e48 h2=>mO rfl (br [3] [104000] 106000 106001 (aY (az.mk f30) ((([91]:Bytes)++r43)++([93]:Bytes)) _ e48) rfl rfl rfl rfl rfl ⟨sr,sr,trivial⟩ rfl rfl ⟨⟨_,rfl,⟨sr,sr,trivial⟩⟩,trivial⟩ rfl rfl rfl rfl rfl rfl rfl rfl Tryz.call49 rfl rfl ?_)
   exact nx 1 rfl (eX _ (oi h2).symm (aN (bf 106000 108000 rfl rfl rfl rfl rfl) (gE rfl rfl)))
  refine nx 7 rfl (fD [36,38] h2 rfl (λ c49 h2=>?_) λ c49 h2=>?_)
  ·refine nx 4 rfl (oC h2 rfl λ hk50 h2=>?_)
   refine bd h2 λ r51 e52 h2=>mO rfl (br [3] [104000] 107000 107001 (aY (az.mk f30) (([46]:Bytes)++((lat p_0 t29).fName)) _ e52) rfl rfl rfl rfl rfl ⟨sr,sr,trivial⟩ rfl rfl ⟨⟨_,rfl,⟨sr,sr,trivial⟩⟩,trivial⟩ rfl rfl rfl rfl rfl rfl rfl rfl Tryz.call49 rfl rfl ?_)
   exact nx 1 rfl (eX _ (oi h2).symm (aN (bf 107000 108000 rfl rfl rfl rfl rfl) (gE rfl rfl)))
  refine nx 4 rfl (bd h2 λ r53 e54 h2=>?_)
  refine mO rfl (br [3] [104000] 108000 108001 (aY (az.mk f30) ((lat p_0 t29).fName) _ e54) rfl rfl rfl rfl rfl ⟨sr,sr,trivial⟩ rfl rfl ⟨⟨_,rfl,⟨sr,sr,trivial⟩⟩,trivial⟩ rfl rfl rfl rfl rfl rfl rfl rfl Tryz.call49 rfl rfl ?_)
  exact nx 1 rfl (eX _ (oi h2).symm (gE rfl rfl))
 exact nx 2 rfl (eXi _ (oi h1).symm (gE rfl rfl))
def bB (s_0:Bytes):Nat→Int→Option Int
 | 0,_=>none
 | m+1,n18 =>
 (
   if n18 < (s_0.length:Int) then
    ck ((0:Int)≤n18∧n18 < (s_0.length:Int)) <|
    if 48≤byt s_0 n18 then
     ck ((0:Int)≤n18∧n18 < (s_0.length:Int)) <|
     some (decide (byt s_0 n18≤57))
    else
     some false
   else
    some false
  : Option Bool).bind λ t23 =>
 if t23=true then
  ck (inR (n18+1)) <|
  bB s_0 m (n18+1)
 else
  some n18
def ei (n:Nat)(s_0:Bytes):Option (aa×Int×Int) :=
 jn (
   ck ((0:Int)≤1∧1≤(s_0.length:Int)∧(s_0.length:Int)≤(s_0.length:Int)) <|
   (strings_HasPrefix (sub s_0 1 (s_0.length:Int)) ([34]:Bytes)).bind λ r2 =>
   if r2=true then
    ck ((0:Int)≤1∧1≤(s_0.length:Int)∧(s_0.length:Int)≤(s_0.length:Int)) <|
    (dJ n (sub s_0 1 (s_0.length:Int))).bind λ r6 =>
    if r6.2.2=0 then
     ck (inR (1+r6.2.1)) <|
     some (.inl (1+r6.2.1,false,0,r6.1))
    else
     some (.inr ((aa.mk false 0 ([]:Bytes)),0,r6.2.2))
   else
    (bB s_0 n 1).bind λ n27 =>
    ck ((0:Int)≤1∧1≤n27∧n27≤(s_0.length:Int)) <|
    (em n (sub s_0 1 n27)).bind λ r29 =>
    if r29.2=0 then
     some (.inl (n27,true,r29.1,([]:Bytes)))
    else
     some (.inr ((aa.mk false 0 ([]:Bytes)),0,r29.2))
  : Option ((Int×Bool×Int×Bytes)⊕(aa×Int×Int))) λ q41 =>
 (
   if q41.1=(s_0.length:Int) then
    some true
   else
    ck ((0:Int)≤q41.1∧q41.1 < (s_0.length:Int)) <|
    some (!decide (byt s_0 q41.1=93))
  : Option Bool).bind λ t38 =>
 if t38=true then
  some ((aa.mk q41.2.1 q41.2.2.1 q41.2.2.2),0,2)
 else
  ck (inR (q41.1+1)) <|
  some ((aa.mk q41.2.1 q41.2.2.1 q41.2.2.2),q41.1+1,0)
theorem pj (n:Nat)(s_0:Bytes)(r:aa×Int×Int)(h0:ei n s_0=some r):au Tryz.prog 65 [eS s_0] (·=.tuple [.p (.agg (aa.cs r.1)),.p (eI r.2.1),.p (eI r.2.2)]):=by
 unfold ei at h0
 refine aH good Tryz.func65 rfl rfl rfl λ w0=>mP (λ v:aa×Int×Int=>.tuple [.p (.agg (aa.cs v.1)),.p (eI v.2.1),.p (eI v.2.2)]) ?_
 refine nx 15 rfl ?_
 obtain ⟨o45,h1,hL0,hR0⟩:=cn h0
 refine kX (λ v46:Int×Bool×Int×Bytes=>o45=.inl v46) (λ v46=>⟨[(0,.p (eS s_0)),(2,.ptr 2 0),(5,.ptr 5 0),(6,.p (eI v46.1))],[(2,[.p (eB false),.p (eI 0),.p (eS ([]:Bytes))]),(5,[.p (eB v46.2.1),.p (eI v46.2.2.1),.p (eS v46.2.2.2)])]⟩) (λ v46 hv=>?_) ?_
 ·have h0:=hL0 _ hv
  refine nx 3 rfl (bd h0 λ o47 h1 h0=>?_)
  refine kN o47 (λ v48=>⟨[(2,.ptr 2 0),(5,.ptr 5 0),(6,.p (eI v46.1)),(72,.p (eB v48))],[(2,[.p (eB false),.p (eI 0),.p (eS ([]:Bytes))]),(5,[.p (eB v46.2.1),.p (eI v46.2.2.1),.p (eS v46.2.2.2)])]⟩) ?_ ?_
  ·refine nx 1 rfl (fB [72] h0 rfl (λ c39 h0=>?_) λ c39 h0=>?_)
   ·exact nx 9 rfl (mQ (oi h0) rfl (am ⟨sr,sr,sr,trivial⟩))
   refine nx 6 rfl (oA h0 rfl rfl λ hk40 h0=>?_)
   exact nx 5 rfl (mQ (oi h0) rfl (am ⟨sr,sr,sr,trivial⟩))
  refine nx 3 rfl (oLs rfl ?_)
  refine nx 2 rfl (fD [66,67] h1 rfl (λ c36 h1=>?_) λ c36 h1=>?_)
  ·exact nx 6 rfl (eX _ (oi h1).symm (gE rfl rfl))
  refine nx 2 rfl (oI h1 rfl λ hk37 h1=>?_)
  exact nx 3 rfl (eX _ (oi h1).symm (gE rfl rfl))
 refine nx 3 rfl (oP h1 rfl rfl rfl λ hk1 h1=>?_)
 refine bd h1 λ r2 e3 h1=>oK (lB (sub s_0 1 (s_0.length:Int)) ([34]:Bytes) _ e3) rfl ⟨sr,sr,trivial⟩ Tryz.call89 rfl (nx 1 rfl ?_)
 refine fB [14] h1 rfl (λ c4 h1=>?_) λ c4 h1=>?_
 ·refine nx 4 rfl (oP h1 rfl rfl rfl λ hk5 h1=>?_)
  refine bd h1 λ r6 e7 h1=>oK (nq _ (sub s_0 1 (s_0.length:Int)) _ e7) rfl ⟨sr,trivial⟩ Tryz.call90 rfl (nx 14 rfl ?_)
  refine fN [23] h1 rfl (λ c8 h1=>?_) λ c8 h1=>?_
  ·refine nx 11 rfl (oA h1 rfl rfl λ hk9 h1=>?_)
   exact nx 2 rfl (eX _ (oi h1).symm (gE rfl rfl))
  exact nx 10 rfl (mQ (hR0 _ (oi h1).symm) rfl (am ⟨sr,sr,sr,trivial⟩))
 refine nx 3 rfl (bd h1 λ o49 h2 h1=>?_)
 refine kE 0 o49 (λ v50=>⟨[(0,.p (eS s_0)),(2,.ptr 2 0),(5,.ptr 5 0),(6,.p (eI v50))],[(2,[.p (eB false),.p (eI 0),.p (eS ([]:Bytes))]),(5,[.p (eB false),.p (eI 0),.p (eS ([]:Bytes))])]⟩) ?_ ?_
 ·refine nx 5 rfl (oP h1 rfl rfl rfl λ hk28 h1=>?_)
  refine bd h1 λ r29 e30 h1=>oK (po _ (sub s_0 1 o49) _ e30) rfl ⟨sr,trivial⟩ Tryz.call91 rfl (nx 12 rfl ?_)
  refine fN [57] h1 rfl (λ c31 h1=>?_) λ c31 h1=>?_
  ·exact nx 9 rfl (eX _ (oi h1).symm (gE rfl rfl))
  exact nx 10 rfl (mQ (hR0 _ (oi h1).symm) rfl (am ⟨sr,sr,sr,trivial⟩))
 refine lG (λ (q51:Int)=>⟨[(0,.p (eS s_0)),(2,.ptr 2 0),(5,.ptr 5 0),(6,.p (eI q51))],[(2,[.p (eB false),.p (eI 0),.p (eS ([]:Bytes))]),(5,[.p (eB false),.p (eI 0),.p (eS ([]:Bytes))])]⟩) (λ m (q51:Int)=>bB s_0 m q51) (λ _=>rfl) 1 h2 (gE rfl rfl) ?_
 rintro m n18 h2
 replace h2:bB s_0 (m+1) n18=some o49:=h2
 rw [bB] at h2
 refine nx 2 rfl (bd h2 λ o52 h3 h2=>?_)
 refine kN o52 (λ v53=>⟨[(0,.p (eS s_0)),(2,.ptr 2 0),(5,.ptr 5 0),(6,.p (eI n18)),(46,.p (eB v53))],[(2,[.p (eB false),.p (eI 0),.p (eS ([]:Bytes))]),(5,[.p (eB false),.p (eI 0),.p (eS ([]:Bytes))])]⟩) ?_ ?_
 ·refine nx 1 rfl (fB [46] h2 rfl (λ c24 h2=>?_) λ c24 h2=>?_)
  ·refine nx 5 rfl (oA h2 rfl rfl λ hk25 h2=>?_)
   exact nx 2 rfl (eX (n18+1) h2 (gE rfl rfl))
  exact nx 2 rfl (eXi _ (oi h2).symm (gE rfl rfl))
 refine nx 3 rfl (oLs rfl ?_)
 refine nx 2 rfl (fD [34,35] h3 rfl (λ c19 h3=>?_) λ c19 h3=>?_)
 ·refine nx 2 rfl (oI h3 rfl λ hk20 h3=>?_)
  refine nx 3 rfl (fD [39,40,41] h3 rfl (λ c21 h3=>?_) λ c21 h3=>?_)
  ·refine nx 2 rfl (oI h3 rfl λ hk22 h3=>?_)
   exact nx 3 rfl (eX _ (oi h3).symm (gE rfl rfl))
  exact nx 6 rfl (eX _ (oi h3).symm (gE rfl rfl))
 exact nx 12 rfl (eX _ (oi h3).symm (gE rfl rfl))
def gx (n:Nat)(s_0:Bytes)(first_1:Bool):Option (aa×Int×Int) :=
 ck ((0:Int)≤0∧0 < (s_0.length:Int)) <|
 if byt s_0 0=91 then
  (ei n s_0).bind λ r3 =>
  some (r3.1,r3.2.1,r3.2.2)
 else
  jn (
    if (!first_1)=true then
     ck ((0:Int)≤0∧0 < (s_0.length:Int)) <|
     if byt s_0 0=46 then
      some (.inl 1)
     else
      some (.inr ((aa.mk false 0 ([]:Bytes)),0,2))
    else
     some (.inl 0)
   : Option (Int⊕(aa×Int×Int))) λ from8 =>
  ck ((0:Int)≤from8∧from8≤(s_0.length:Int)∧(s_0.length:Int)≤(s_0.length:Int)) <|
  (strings_IndexAny (sub s_0 from8 (s_0.length:Int)) ([46,91]:Bytes)).bind λ r10 =>
  (
    if r10 < 0 then
     ck (inR ((s_0.length:Int) - from8)) <|
     some ((s_0.length:Int) - from8)
    else
     some r10
   : Option Int).bind λ n14 =>
  ck (inR (from8+n14)) <|
  ck ((0:Int)≤from8∧from8≤from8+n14∧from8+n14≤(s_0.length:Int)) <|
  (co n (sub s_0 from8 (from8+n14))).bind λ r17 =>
  if (!r17)=true then
   some ((aa.mk false 0 ([]:Bytes)),0,2)
  else
   ck (inR (from8+n14)) <|
   some ((aa.mk false 0 (sub s_0 from8 (from8+n14))),from8+n14,0)
theorem rF (n:Nat)(s_0:Bytes)(first_1:Bool)(r:aa×Int×Int)(h0:gx n s_0 first_1=some r):au Tryz.prog 38 [eS s_0,eB first_1] (·=.tuple [.p (.agg (aa.cs r.1)),.p (eI r.2.1),.p (eI r.2.2)]):=by
 unfold gx at h0
 refine aH good Tryz.func38 rfl rfl rfl λ w0=>mP (λ v:aa×Int×Int=>.tuple [.p (.agg (aa.cs v.1)),.p (eI v.2.1),.p (eI v.2.2)]) ?_
 refine nx 10 rfl (oI h0 rfl λ hk1 h0=>?_)
 refine nx 2 rfl (fD [12] h0 rfl (λ c2 h0=>?_) λ c2 h0=>?_)
 ·refine nx 4 rfl (bd h0 λ r3 e4 h0=>?_)
  refine oK (pj _ s_0 _ e4) rfl ⟨sr,trivial⟩ Tryz.call65 rfl (nx 8 rfl ?_)
  exact mQ (oi h0) rfl (am ⟨sr,sr,sr,trivial⟩)
 refine nx 7 rfl ?_
 obtain ⟨o23,h1,hL0,hR0⟩:=cn h0
 refine kX (λ v24:Int=>o23=.inl v24) (λ v24=>⟨[(0,.p (eS s_0)),(4,.ptr 4 0),(7,.p (eI v24))],[(4,[.p (eB false),.p (eI 0),.p (eS ([]:Bytes))])]⟩) (λ v24 hv=>?_) ?_
 ·have h0:=hL0 _ hv
  refine nx 5 rfl (oP h0 rfl rfl rfl λ hk9 h0=>?_)
  refine bd h0 λ r10 e11 h0=>oK (md (sub s_0 v24 (s_0.length:Int)) ([46,91]:Bytes) _ e11) rfl ⟨sr,sr,trivial⟩ Tryz.call66 rfl (nx 3 rfl ?_)
  refine bd h0 λ o25 h1 h0=>kN o25 (λ v26=>⟨[(0,.p (eS s_0)),(4,.ptr 4 0),(7,.p (eI v24)),(8,.p (eI v26))],[(4,[.p (eB false),.p (eI 0),.p (eS ([]:Bytes))])]⟩) ?_ ?_
  ·refine nx 7 rfl (oA h0 rfl rfl λ hk15 h0=>?_)
   refine oP h0 rfl rfl rfl λ hk16 h0=>nx 6 rfl (bd h0 λ r17 e18 h0=>?_)
   refine oK (jy _ (sub s_0 v24 (v24+o25)) _ e18) rfl ⟨sr,trivial⟩ Tryz.call51 rfl (nx 2 rfl ?_)
   refine fB [42] h0 rfl (λ c19 h0=>?_) λ c19 h0=>?_
   ·exact nx 9 rfl (mQ (oi h0) rfl (am ⟨sr,sr,sr,trivial⟩))
   refine nx 8 rfl (oA h0 rfl rfl λ hk20 h0=>?_)
   exact nx 5 rfl (mQ (oi h0) rfl (am ⟨sr,sr,sr,trivial⟩))
  refine nx 5 rfl (fD [29] h1 rfl (λ c12 h1=>?_) λ c12 h1=>?_)
  ·refine nx 3 rfl (oLs rfl ?_)
   refine nx 1 rfl (oA h1 rfl rfl λ hk13 h1=>?_)
   exact nx 2 rfl (eX _ (oi h1).symm (gE rfl rfl))
  exact nx 2 rfl (eX _ (oi h1).symm (gE rfl rfl))
 refine nx 5 rfl (fB [19] h1 rfl (λ c5 h1=>?_) λ c5 h1=>?_)
 ·refine nx 5 rfl (oI h1 rfl λ hk6 h1=>?_)
  refine nx 2 rfl (fN [22] h1 rfl (λ c7 h1=>?_) λ c7 h1=>?_)
  ·exact nx 5 rfl (eX _ (oi h1).symm (gE rfl rfl))
  exact nx 9 rfl (mQ (hR0 _ (oi h1).symm) rfl (am ⟨sr,sr,sr,trivial⟩))
 exact nx 2 rfl (eX _ (oi h1).symm (gE rfl rfl))
def cY (n:Nat):Nat→(List aa)→Bytes→Option ((List aa)⊕((List aa)×Int))
 | 0,_,_=>none
 | m+1,p11,rest12 =>
 if rest12=([]:Bytes) then
  some (.inl p11)
 else
  if (p11.length:Int)=32 then
   some (.inr ([],4))
  else
   (gx n rest12 (decide ((p11.length:Int)=0))).bind λ r15 =>
   if r15.2.2=0 then
    ck ((p11.length+[r15.1].length)*32≤140737488355328) <|
    ck ((0:Int)≤r15.2.1∧r15.2.1≤(rest12.length:Int)∧(rest12.length:Int)≤(rest12.length:Int)) <|
    cY n m (p11++[r15.1]) (sub rest12 r15.2.1 (rest12.length:Int))
   else
    some (.inr ([],r15.2.2))
def d9 (n:Nat)(s_0:Bytes):Option ((List aa)×Int) :=
 if 65536 < (s_0.length:Int) then
  some ([],3)
 else
  jn (cY n n [] s_0) λ p22 =>
  (dk n p22).bind λ r23 =>
  if r23=s_0 then
   some (p22,0)
  else
   some ([],2)
theorem iD (n:Nat)(s_0:Bytes)(r:(List aa)×Int)(h0:d9 n s_0=some r):au Tryz.prog 12 [eS s_0] (·=.tuple [.p (eL ae r.1),.p (eI r.2)]):=by
 unfold d9 at h0
 refine aH good Tryz.func12 rfl rfl rfl λ w0=>mP (λ v:(List aa)×Int=>.tuple [.p (eL ae v.1),.p (eI v.2)]) ?_
 refine nx 9 rfl (oLs rfl ?_)
 refine nx 2 rfl (fD [11] h0 rfl (λ c1 h0=>?_) λ c1 h0=>?_)
 ·exact nx 7 rfl (mQ (oi h0) rfl (am ⟨dm _,sr,trivial⟩))
 refine nx 13 rfl ?_
 obtain ⟨o27,h1,hL0,hR0⟩:=cn h0
 refine kEx 0 (λ v28:(List aa)=>o27=.inl v28) (λ v28=>⟨[(0,.p (eS s_0)),(4,.vec 33 3 0 (v28.map ae))],[]⟩) (λ v28 hv=>?_) ?_
 ·have h0:=hL0 _ hv
  refine nx 5 rfl (bd h0 λ r23 e24 h0=>?_)
  refine oK (fq _ v28 _ e24) rfl ⟨AV.sub_vec _ _ _ _,trivial⟩ Tryz.call24 rfl (nx 1 rfl ?_)
  refine oS rfl rfl (nx 1 rfl ?_)
  refine fN [40] h0 rfl (λ c25 h0=>?_) λ c25 h0=>?_
  ·exact nx 9 rfl (mQ (oi h0) rfl (am ⟨AV.sub_vec _ _ _ _,sr,trivial⟩))
  exact nx 7 rfl (mQ (oi h0) rfl (am ⟨dm _,sr,trivial⟩))
 refine lG (λ (q29:(List aa)×Bytes)=>⟨[(0,.p (eS s_0)),(4,.vec 33 3 0 (q29.1.map ae)),(5,.p (eS q29.2))],[]⟩) (λ m (q29:(List aa)×Bytes)=>cY n m q29.1 q29.2) (λ _=>rfl) ([],s_0) h1 (cj (gX ⟨er rfl,⟨_,rfl,AV.sub_nilvec _ _ _⟩,er rfl,trivial⟩ trivial)) ?_
 rintro m ⟨p11,rest12⟩ h1
 replace h1:cY n (m+1) p11 rest12=some o27:=h1
 rw [cY] at h1
 refine nx 4 rfl (oS rfl rfl ?_)
 refine nx 1 rfl (fN [14] h1 rfl (λ c13 h1=>?_) λ c13 h1=>?_)
 ·exact nx 2 rfl (eXi _ (oi h1).symm (gE rfl rfl))
 refine nx 7 rfl (oLl (f:=ae) rfl rfl ?_)
 refine nx 2 rfl (fD [17] h1 rfl (λ c14 h1=>?_) λ c14 h1=>?_)
 ·exact nx 7 rfl (mQ (hR0 _ (oi h1).symm) rfl (am ⟨dm _,sr,trivial⟩))
 refine nx 6 rfl (oLl (f:=ae) rfl rfl ?_)
 refine nx 1 rfl (bd h1 λ r15 e16 h1=>?_)
 refine oK (rF _ rest12 (decide ((p11.length:Int)=0)) _ e16) rfl ⟨sr,sr,trivial⟩ Tryz.call38 rfl (nx 15 rfl ?_)
 refine fN [28] h1 rfl (λ c17 h1=>?_) λ c17 h1=>?_
 ·refine nx 6 rfl (mO rfl (aV ae [r15.1] rfl rfl rfl rfl rfl rfl rfl rfl rfl rfl rfl rfl rfl (by first | rfl | (simp only [List.map_cons,List.map_nil,aa.agg_eq]; done) | (simp only [List.map_cons,List.map_nil,aa.agg_eq]; rfl)) ?_))
  refine cc' h1 λ hk18 h1=>mO rfl (dl ae p11 [r15.1] rfl rfl rfl rfl rfl rfl rfl rfl rfl rfl rfl rfl rfl (λ x=>congrArg List.length (aa.cells_eq x)) rfl rfl rfl rfl hk18 ?_)
  refine nx 5 rfl (oP h1 rfl rfl rfl λ hk19 h1=>?_)
  exact nx 2 rfl (eX (p11++[r15.1],sub rest12 r15.2.1 (rest12.length:Int)) h1 (gE rfl rfl))
 exact nx 8 rfl (mQ (hR0 _ (oi h1).symm) rfl (am ⟨dm _,sr,trivial⟩))
def cmp_isNaN_string (x_0:Bytes):Option Bool :=
 some (!decide (x_0=x_0))
theorem ja (x_0:Bytes)(r:Bool)(h0:cmp_isNaN_string x_0=some r):au Tryz.prog 127 [eS x_0] (·=.p (eB r)):=by
 unfold cmp_isNaN_string at h0
 refine aH good Tryz.func127 rfl rfl rfl λ w0=>mP (λ v:Bool=>.p (eB v)) ?_
 refine nx 8 rfl (oS rfl rfl ?_)
 exact nx 3 rfl (mQ (oi h0) rfl (sr))
def cmp_Less_string (x_0:Bytes)(y_1:Bytes):Option Bool :=
 (
   (cmp_isNaN_string x_0).bind λ r1 =>
   if r1=true then
    (cmp_isNaN_string y_1).bind λ r4 =>
    if (!r4)=true then
     some true
    else
     some (Op.bytesLess x_0 y_1)
   else
    some (Op.bytesLess x_0 y_1)
  : Option Bool).bind λ t7 =>
 some t7
theorem mJ (x_0:Bytes)(y_1:Bytes)(r:Bool)(h0:cmp_Less_string x_0 y_1=some r):au Tryz.prog 100 [eS x_0,eS y_1] (·=.p (eB r)):=by
 unfold cmp_Less_string at h0
 refine aH good Tryz.func100 rfl rfl rfl λ w0=>mP (λ v:Bool=>.p (eB v)) ?_
 refine nx 5 rfl (bd h0 λ o9 h1 h0=>?_)
 refine kN o9 (λ v10=>⟨[(4,.p (eB v10))],[]⟩) ?_ ?_
 ·exact nx 2 rfl (mQ (oi h0) rfl (sr))
 refine nx 2 rfl (bd h1 λ r1 e2 h1=>?_)
 refine oK (ja x_0 _ e2) rfl ⟨sr,trivial⟩ Tryz.call127 rfl (nx 1 rfl ?_)
 refine fB [6,7] h1 rfl (λ c3 h1=>?_) λ c3 h1=>?_
 ·refine nx 1 rfl (bd h1 λ r4 e5 h1=>?_)
  refine oK (ja y_1 _ e5) rfl ⟨sr,trivial⟩ Tryz.call127 rfl (nx 3 rfl ?_)
  refine fB [10,11,12] h1 rfl (λ c6 h1=>?_) λ c6 h1=>?_
  ·exact nx 6 rfl (eX _ (oi h1).symm (gE rfl rfl))
  refine nx 2 rfl (oS rfl rfl ?_)
  exact nx 3 rfl (eX _ (oi h1).symm (gE rfl rfl))
 refine nx 7 rfl (oS rfl rfl ?_)
 exact nx 3 rfl (eX _ (oi h1).symm (gE rfl rfl))
def slices_isNaN_string (x_0:Bytes):Option Bool :=
 some (!decide (x_0=x_0))
theorem g8 (x_0:Bytes)(r:Bool)(h0:slices_isNaN_string x_0=some r):au Tryz.prog 101 [eS x_0] (·=.p (eB r)):=by
 unfold slices_isNaN_string at h0
 refine aH good Tryz.func101 rfl rfl rfl λ w0=>mP (λ v:Bool=>.p (eB v)) ?_
 refine nx 8 rfl (oS rfl rfl ?_)
 exact nx 3 rfl (mQ (oi h0) rfl (sr))
def aB (x_0:List Bytes)(target_1:Bytes):Nat→Int→Int→Option Int
 | 0,_,_=>none
 | m+1,i14,j15 =>
 if i14 < j15 then
  (
    ck (inR (i14+j15)) <|
    ck ((0:Int)≤1) <|
    ck (inR (bM .u64 (IntKind.wrap .u64 (i14+j15)) 1)) <|
    ck ((0:Int)≤bM .u64 (IntKind.wrap .u64 (i14+j15)) 1∧bM .u64 (IntKind.wrap .u64 (i14+j15)) 1 < (x_0.length:Int)) <|
    (cmp_Less_string (lat x_0 (bM .u64 (IntKind.wrap .u64 (i14+j15)) 1)) target_1).bind λ r21 =>
    if r21=true then
     ck (inR ((bM .u64 (IntKind.wrap .u64 (i14+j15)) 1)+1)) <|
     some ((bM .u64 (IntKind.wrap .u64 (i14+j15)) 1)+1,j15)
    else
     some (i14,bM .u64 (IntKind.wrap .u64 (i14+j15)) 1)
   : Option (Int×Int)).bind λ q41 =>
  aB x_0 target_1 m q41.1 q41.2
 else
  some i14
def aM (n:Nat)(x_0:List Bytes)(target_1:Bytes):Option (Int×Bool) :=
 (aB x_0 target_1 n 0 (x_0.length:Int)).bind λ i29 =>
 (
   if i29 < (x_0.length:Int) then
    ck ((0:Int)≤i29∧i29 < (x_0.length:Int)) <|
    if lat x_0 i29=target_1 then
     some true
    else
     ck ((0:Int)≤i29∧i29 < (x_0.length:Int)) <|
     (slices_isNaN_string (lat x_0 i29)).bind λ r34 =>
     if r34=true then
      (slices_isNaN_string target_1).bind λ r37 =>
      some r37
     else
      some false
   else
    some false
  : Option Bool).bind λ t39 =>
 some (i29,t39)
theorem dT (n:Nat)(x_0:List Bytes)(target_1:Bytes)(r:Int×Bool)(h0:aM n x_0 target_1=some r):au Tryz.prog 71 [eL eS x_0,eS target_1] (·=.tuple [.p (eI r.1),.p (eB r.2)]):=by
 unfold aM at h0
 refine aH good Tryz.func71 rfl rfl rfl λ w0=>mP (λ v:Int×Bool=>.tuple [.p (eI v.1),.p (eB v.2)]) ?_
 refine nx 8 rfl (oLl (f:=eS) rfl rfl ?_)
 refine nx 10 rfl (bd h0 λ o43 h1 h0=>?_)
 refine kE 0 o43 (λ v44=>⟨[(0,.p (eL eS x_0)),(1,.p (eS target_1)),(6,.p (eI (x_0.length:Int))),(7,.p (eI v44))],[]⟩) ?_ ?_
 ·refine nx 2 rfl (bd h0 λ o45 h1 h0=>?_)
  refine kN o45 (λ v46=>⟨[(4,.p (eI o43)),(5,.p (eB v46))],[]⟩) ?_ ?_
  ·exact nx 2 rfl (mQ (oi h0) rfl (am ⟨sr,sr,trivial⟩))
  refine nx 6 rfl (fD [34,35] h1 rfl (λ c30 h1=>?_) λ c30 h1=>?_)
  ·refine nx 2 rfl (oE h1 (λ _=>rfl) rfl rfl (λ _=>rfl) λ hk31 h1=>?_)
   refine nx 2 rfl (oS rfl rfl ?_)
   refine nx 1 rfl (fD [41,42] h1 rfl (λ c32 h1=>?_) λ c32 h1=>?_)
   ·exact nx 14 rfl (eX _ (oi h1).symm (gE rfl rfl))
   refine nx 2 rfl (oE h1 (λ _=>rfl) rfl rfl (λ _=>rfl) λ hk33 h1=>?_)
   refine nx 1 rfl (bd h1 λ r34 e35 h1=>?_)
   refine oK (g8 (lat x_0 o43) _ e35) rfl ⟨sr,trivial⟩ Tryz.call101 rfl (nx 1 rfl ?_)
   refine fB [47,48] h1 rfl (λ c36 h1=>?_) λ c36 h1=>?_
   ·refine nx 1 rfl (bd h1 λ r37 e38 h1=>?_)
    refine oK (g8 target_1 _ e38) rfl ⟨sr,trivial⟩ Tryz.call101 rfl (nx 6 rfl ?_)
    exact eX _ (oi h1).symm (gE rfl rfl)
   exact nx 8 rfl (eX _ (oi h1).symm (gE rfl rfl))
  exact nx 21 rfl (eX _ (oi h1).symm (gE rfl rfl))
 refine lG (λ (q47:Int×Int)=>⟨[(0,.p (eL eS x_0)),(1,.p (eS target_1)),(6,.p (eI (x_0.length:Int))),(7,.p (eI q47.1)),(8,.p (eI q47.2))],[]⟩) (λ m (q47:Int×Int)=>aB x_0 target_1 m q47.1 q47.2) (λ _=>rfl) (0,(x_0.length:Int)) h1 (gE rfl rfl) ?_
 rintro m ⟨i14,j15⟩ h1
 replace h1:aB x_0 target_1 (m+1) i14 j15=some o43:=h1
 rw [aB] at h1
 refine nx 7 rfl (fD [15] h1 rfl (λ c16 h1=>?_) λ c16 h1=>?_)
 ·refine nx 2 rfl (bd h1 λ o48 h2 h1=>?_)
  refine kN o48 (λ v49=>⟨[(0,.p (eL eS x_0)),(1,.p (eS target_1)),(6,.p (eI (x_0.length:Int))),(7,.p (eI v49.1)),(8,.p (eI v49.2))],[]⟩) ?_ ?_
  ·exact nx 1 rfl (eX (o48.1,o48.2) h1 (gE rfl rfl))
  refine nx 5 rfl (oA h2 rfl rfl λ hk17 h2=>?_)
  refine nx 1 rfl (cc' h2 λ hk18 h2=>?_)
  refine mO rfl (g0 rfl rfl rfl rfl rfl rfl hk18 ?_)
  refine cc' h2 λ hk19 h2=>mO rfl (cy rfl rfl rfl rfl rfl rfl rfl rfl (ey hk19) ?_)
  refine nx 6 rfl (oE h2 (λ _=>rfl) rfl rfl (λ _=>rfl) λ hk20 h2=>?_)
  refine nx 2 rfl (bd h2 λ r21 e22 h2=>?_)
  refine oK (mJ (lat x_0 (bM .u64 (IntKind.wrap .u64 (i14+j15)) 1)) target_1 _ e22) rfl ⟨sr,sr,trivial⟩ Tryz.call100 rfl (nx 1 rfl ?_)
  refine fB [27] h2 rfl (λ c23 h2=>?_) λ c23 h2=>?_
  ·refine nx 3 rfl (oA h2 rfl rfl λ hk24 h2=>?_)
   exact nx 2 rfl (eX _ (oi h2).symm (gE rfl rfl))
  exact nx 5 rfl (eX _ (oi h2).symm (gE rfl rfl))
 exact nx 2 rfl (eXi _ (oi h1).symm (gE rfl rfl))
def fF (n:Nat)(v_0:ab)(s_1:aa):Option (Int×Int) :=
 if v_0.fKind=6 then
  some (0,11)
 else
  (
    if s_1.fIndex=true then
     if v_0.fKind=4 then
      if (!s_1.fIndex)=true then
       some (!decide (v_0.fKind=5))
      else
       some false
     else
      some true
    else
     if (!s_1.fIndex)=true then
      some (!decide (v_0.fKind=5))
     else
      some false
   : Option Bool).bind λ t6 =>
  if t6=true then
   some (0,6)
  else
   if s_1.fIndex=true then
    if (v_0.fItems.length:Int)≤s_1.fNum then
     some (0,16)
    else
     some (s_1.fNum,0)
   else
    (aM n v_0.fKeys s_1.fName).bind λ r10 =>
    if (!r10.2)=true then
     some (0,16)
    else
     some (r10.1,0)
theorem nC (n:Nat)(v_0:ab)(s_1:aa)(r:Int×Int)(h0:fF n v_0 s_1=some r):au Tryz.prog 42 [.agg (ab.cs v_0),.agg (aa.cs s_1)] (·=.tuple [.p (eI r.1),.p (eI r.2)]):=by
 unfold fF at h0
 refine aH good Tryz.func42 rfl rfl rfl λ w0=>mP (λ v:Int×Int=>.tuple [.p (eI v.1),.p (eI v.2)]) ?_
 refine nx 14 rfl (fD [10] h0 rfl (λ c1 h0=>?_) λ c1 h0=>?_)
 ·exact nx 7 rfl (mQ (oi h0) rfl (am ⟨sr,sr,trivial⟩))
 refine nx 4 rfl (bd h0 λ o14 h1 h0=>?_)
 refine kN o14 (λ v15=>⟨[(2,.ptr 2 0),(3,.ptr 3 0),(27,.p (eB v15))],[(2,(ab.cs v_0).map .p),(3,(aa.cs s_1).map .p)]⟩) ?_ ?_
 ·refine nx 1 rfl (fB [27] h0 rfl (λ c7 h0=>?_) λ c7 h0=>?_)
  ·exact nx 7 rfl (mQ (oi h0) rfl (am ⟨sr,sr,trivial⟩))
  refine nx 8 rfl (fB [29] h0 rfl (λ c8 h0=>?_) λ c8 h0=>?_)
  ·refine nx 8 rfl (oLl (f:=ah) rfl rfl ?_)
   refine nx 2 rfl (fD [35] h0 rfl (λ c9 h0=>?_) λ c9 h0=>?_)
   ·exact nx 7 rfl (mQ (oi h0) rfl (am ⟨sr,sr,trivial⟩))
   exact nx 10 rfl (mQ (oi h0) rfl (am ⟨sr,sr,trivial⟩))
  refine nx 8 rfl (bd h0 λ r10 e11 h0=>?_)
  refine oK (dT _ v_0.fKeys s_1.fName _ e11) rfl ⟨sr,sr,trivial⟩ Tryz.call71 rfl (nx 12 rfl ?_)
  refine fB [47] h0 rfl (λ c12 h0=>?_) λ c12 h0=>?_
  ·exact nx 7 rfl (mQ (oi h0) rfl (am ⟨sr,sr,trivial⟩))
  exact nx 9 rfl (mQ (oi h0) rfl (am ⟨sr,sr,trivial⟩))
 refine nx 4 rfl (fB [12,13] h1 rfl (λ c2 h1=>?_) λ c2 h1=>?_)
 ·refine nx 5 rfl (fN [16,17,18] h1 rfl (λ c3 h1=>?_) λ c3 h1=>?_)
  ·refine nx 4 rfl (fB [21,22] h1 rfl (λ c4 h1=>?_) λ c4 h1=>?_)
   ·exact nx 6 rfl (eX _ (oi h1).symm (gE rfl rfl))
   exact nx 6 rfl (eX _ (oi h1).symm (gE rfl rfl))
  exact nx 10 rfl (eX _ (oi h1).symm (gE rfl rfl))
 refine nx 9 rfl (fB [21,22] h1 rfl (λ c5 h1=>?_) λ c5 h1=>?_)
 ·exact nx 6 rfl (eX _ (oi h1).symm (gE rfl rfl))
 exact nx 6 rfl (eX _ (oi h1).symm (gE rfl rfl))
def dd (r_path_copied:ab→Option ab):Nat→Option Unit
 | 0=>none
 | _m+1 =>
 if 0 < (([]:List ab).length:Int) then
  ck ((0:Int)≤0∧0 < (([]:List ab).length:Int)) <|
  (r_path_copied (lat ([]:List ab) 0)).bind λ _r6 =>
  ck ((0:Int)≤0∧0 < (([]:List ab).length:Int)) <|
  none
 else
  some ()
def bW (r_path_copied:ab→Option ab)(v_0:ab):Nat→Int→(List ab)→Option (List ab)
 | 0,_,_=>none
 | m+1,t17,l18 =>
 if t17 < (v_0.fItems.length:Int) then
  ck ((0:Int)≤t17∧t17 < (l18.length:Int)) <|
  (r_path_copied (lat l18 t17)).bind λ r21 =>
  ck ((0:Int)≤t17∧t17 < (l18.length:Int)) <|
  ck (inR (t17+1)) <|
  bW r_path_copied v_0 m (t17+1) (l18.set t17.toNat r21)
 else
  some l18
def bz:Nat→ab→Option ab
 | 0,_=>none
 | n+1,v_0 =>
 ck (v_0.fKeys.length*16≤140737488355328) <|
 if v_0.fItems.isEmpty=true then
  (dd (bz n) n ).bind λ _q28 =>
  some (ab.mk v_0.fKind v_0.fNum v_0.fStr ([]:List ab) v_0.fKeys)
 else
  ck (v_0.fItems.length*80≤140737488355328) <|
  (bW (bz n) v_0 n 0 v_0.fItems).bind λ l27 =>
  some (ab.mk v_0.fKind v_0.fNum v_0.fStr l27 v_0.fKeys)
theorem g6 (n:Nat):∀ (v_0:ab) (r:ab),bz n v_0=some r→au Tryz.prog 43 [.agg (ab.cs v_0)] (·=.p (.agg (ab.cs r))):=by
 induction n with
 | zero=>intro v_0 r h0; cases h0
 | succ n ih =>
 have ih_path_copied_ok:=ih
 intro v_0 r h0
 rw [bz] at h0
 refine aH good Tryz.func43 rfl rfl rfl λ w0=>mP (λ v:ab=>.p (.agg (ab.cs v))) ?_
 refine nx 9 rfl (cc' h0 λ hk1 h0=>?_)
 refine oK (iG v_0.fKeys hk1) rfl ⟨sr,trivial⟩ Tryz.call72 rfl (nx 7 rfl ?_)
 refine yH (b:=v_0.fItems.isEmpty) (λ c2=>?_) (λ c2=>?_)
 ·replace h0:=yM c2 h0
  refine mO rfl (aF (fO v_0.fItems c2) rfl rfl rfl rfl ⟨sr,trivial⟩ Tryz.call73 rfl ?_)
  refine nx 8 rfl (oLl (f:=ah) rfl rfl ?_)
  refine nx 3 rfl (bd h0 λ o30 h1 h0=>?_)
  refine kE 0 o30 (λ v31=>⟨[(1,.ptr 1 0),(2,.ptr 2 0)],[(1,[.p (eI v_0.fKind),.p (eI v_0.fNum),.p (eS v_0.fStr),.p (eL ah ([]:List ab)),.p (eL eS v_0.fKeys)]),(2,[.p (eI 0),.p (eI 0),.p (eS ([]:Bytes)),.p (.val (.slice none 0 0)),.p (.val (.slice none 0 0))])]⟩) ?_ ?_
  ·exact nx 7 rfl (mQ (oi h0) rfl (sr))
  refine lG (λ (q32:Unit)=>⟨[(1,.ptr 1 0),(2,.ptr 2 0),(14,.p (eI (([]:List ab).length:Int))),(15,.p (eI 0))],[(1,[.p (eI v_0.fKind),.p (eI v_0.fNum),.p (eS v_0.fStr),.p (eL ah ([]:List ab)),.p (eL eS v_0.fKeys)]),(2,[.p (eI 0),.p (eI 0),.p (eS ([]:Bytes)),.p (.val (.slice none 0 0)),.p (.val (.slice none 0 0))])]⟩) (λ m (q32:Unit)=>dd (bz n) m ) (λ _=>rfl) () h1 (gE rfl rfl) ?_
  rintro m _ h1
  replace h1:dd (bz n) (m+1)  = some o30:=h1
  rw [dd] at h1
  refine nx 5 rfl (fD [16] h1 rfl (λ c4 h1=>?_) λ c4 h1=>?_)
  ·refine nx 9 rfl (cc' h1 λ hk5 h1=>?_)
   refine bd h1 λ r6 e7 h1=>cc' h1 λ hk8 h1=>?_
   cases h1
  exact nx 2 rfl (eXi _ (oi h1).symm (gE rfl rfl))
 replace h0:=zL c2 h0
 refine cc' h0 λ hk3 h0=>mO rfl (br [] [] 101000 101001 (fR v_0.fItems c2 hk3) rfl rfl rfl rfl rfl ⟨sr,trivial⟩ rfl rfl trivial rfl rfl rfl rfl rfl rfl rfl rfl Tryz.call73 rfl (nX rfl (lM _) rfl) ?_)
 refine nx 12 rfl (bd h0 λ o33 h1 h0=>?_)
 refine kE 0 o33 (λ v34=>⟨[(1,.ptr 1 0),(2,.ptr 2 0)],[(1,[.p (eI v_0.fKind),.p (eI v_0.fNum),.p (eS v_0.fStr),.arr 101000 5 0 v34.length,.p (eL eS v_0.fKeys)]),(2,[.p (eI 0),.p (eI 0),.p (eS ([]:Bytes)),.p (.val (.slice none 0 0)),.p (.val (.slice none 0 0))]),(101000,i6 ah v34)]⟩) ?_ ?_
 ·refine nx 3 rfl (mG (qR (sl':=[(1,.ptr 1 0),(2,.ptr 2 0)]) (ob':=[(1,[.p (eI v_0.fKind),.p (eI v_0.fNum),.p (eS v_0.fStr),.p (eL ah o33),.p (eL eS v_0.fKeys)]),(2,[.p (eI 0),.p (eI 0),.p (eS ([]:Bytes)),.p (.val (.slice none 0 0)),.p (.val (.slice none 0 0))])]) 101000 5 ah o33 rfl rfl rfl (λ x=>⟨congrArg List.length (ab.cells_eq x),by rw [ab.cells_eq]; rfl⟩) ⟨⟨_,rfl,.inl rfl⟩,⟨_,rfl,.inl rfl⟩,trivial⟩ ⟨⟨rfl,_,rfl,⟨.inl rfl,.inl rfl,.inl rfl,.inr ⟨(by simp),rfl⟩,.inl rfl,trivial⟩⟩,⟨rfl,_,rfl,⟨.inl rfl,.inl rfl,.inl rfl,.inl rfl,.inl rfl,trivial⟩⟩,trivial⟩) ?_)
  exact nx 4 rfl (mQ (oi h0) rfl (sr))
 refine lG (λ (q35:Int×(List ab))=>⟨[(1,.ptr 1 0),(2,.ptr 2 0),(14,.p (eI (v_0.fItems.length:Int))),(15,.p (eI q35.1))],[(1,[.p (eI v_0.fKind),.p (eI v_0.fNum),.p (eS v_0.fStr),.arr 101000 5 0 q35.2.length,.p (eL eS v_0.fKeys)]),(2,[.p (eI 0),.p (eI 0),.p (eS ([]:Bytes)),.p (.val (.slice none 0 0)),.p (.val (.slice none 0 0))]),(101000,i6 ah q35.2)]⟩) (λ m (q35:Int×(List ab))=>bW (bz n) v_0 m q35.1 q35.2) (λ _=>rfl) (0,v_0.fItems) h1 (cj (gX ⟨er rfl,er rfl,er rfl,er rfl,trivial⟩ ⟨⟨_,rfl,⟨sr,sr,sr,AV.sub_of_eq (congrArg (AV.arr 101000 5 0) (by simp)),sr,trivial⟩⟩,⟨_,rfl,⟨sr,sr,sr,sr,sr,trivial⟩⟩,⟨_,rfl,eV _⟩,trivial⟩)) ?_
 rintro m ⟨t17,l18⟩ h1
 replace h1:bW (bz n) v_0 (m+1) t17 l18=some o33:=h1
 rw [bW] at h1
 refine nx 5 rfl (fD [16] h1 rfl (λ c19 h1=>?_) λ c19 h1=>?_)
 ·refine nx 9 rfl (cc' h1 λ hk20 h1=>?_)
  refine bd h1 λ r21 e22 h1=>cc' h1 λ hk23 h1=>mG (cj (t:=⟨[(1,.ptr 1 0),(2,.ptr 2 0),(3,.p (eI t17)),(14,.p (eI (v_0.fItems.length:Int))),(15,.p (eI t17))],[(1,[.p (eI v_0.fKind),.p (eI v_0.fNum),.p (eS v_0.fStr),.arr 101000 5 0 l18.length,.p (eL eS v_0.fKeys)]),(2,[.p (eI 0),.p (eI 0),.p (eS ([]:Bytes)),.p (.val (.slice none 0 0)),.p (.val (.slice none 0 0))]),(101000,i6 ah l18)]⟩) (gX ⟨er rfl,er rfl,er rfl,er rfl,er rfl,trivial⟩ ⟨⟨_,rfl,⟨sr,sr,sr,AV.sub_of_eq (congrArg (AV.arr 101000 5 0) (by simp)),sr,trivial⟩⟩,⟨_,rfl,⟨sr,sr,sr,sr,sr,trivial⟩⟩,⟨_,rfl,eV _⟩,trivial⟩)) (mS ⟨1,[10],(λ _=>.none),(λ _=>[(1,.ptr 1 0),(2,.ptr 2 0),(3,.p (eI t17)),(14,.p (eI (v_0.fItems.length:Int))),(15,.p (eI t17))]),(by2 ([(1,[.p (eI v_0.fKind),.p (eI v_0.fNum),.p (eS v_0.fStr),.arr 101000 5 0 l18.length,.p (eL eS v_0.fKeys)]),(2,[.p (eI 0),.p (eI 0),.p (eS ([]:Bytes)),.p (.val (.slice none 0 0)),.p (.val (.slice none 0 0))]),(101000,i6 ah l18)]) ([(101000,i6 ah (l18.set t17.toNat r21)),(1,[.p (eI v_0.fKind),.p (eI v_0.fNum),.p (eS v_0.fStr),.arr 101000 5 0 l18.length,.p (eL eS v_0.fKeys)]),(2,[.p (eI 0),.p (eI 0),.p (eS ([]:Bytes)),.p (.val (.slice none 0 0)),.p (.val (.slice none 0 0))]),(101000,i6 ah l18)]))⟩ rfl rfl rfl ⟨rfl,rfl,rfl,rfl,rfl,trivial⟩ (lt1 ⟨rfl,rfl,rfl,rfl,rfl,trivial⟩) rfl rfl rfl rfl ?_)
  refine ap (λ _=>.ptr 1 3) rfl rfl rfl (dV rfl (λ _=>rfl)) (lt1 rfl) (ar rfl (ag [(1,_)] ⟨.inl rfl,trivial⟩ (λ sl hsl K hK=>af rfl (bs rfl rfl rfl rfl rfl rfl rfl rfl (hsl _ _ rfl) hK)) ao)) (ap (λ _=>.arr 101000 5 0 l18.length) rfl rfl rfl (dV rfl (λ _=>rfl)) (lt1 rfl) (ar rfl (ag [(18,_)] ⟨.inr ⟨0,_,rfl,rfl,rfl⟩,trivial⟩ (λ sl hsl K hK=>af rfl (cD rfl rfl rfl rfl rfl (hsl _ _ rfl) rfl rfl hK)) ao)) ?_)
  refine ap (λ _=>.p (eI t17)) rfl rfl rfl (dV rfl (λ _=>rfl)) (lt1 rfl) (ar rfl (ag [(3,_)] ⟨.inl rfl,trivial⟩ (λ sl hsl K hK=>af rfl (aI rfl rfl rfl (hsl _ _ rfl) hK)) ao)) (ap (λ _=>.ptr 1 3) rfl rfl rfl (dV rfl (λ _=>rfl)) (lt1 rfl) (ar rfl (ag [(1,_)] ⟨.inl rfl,trivial⟩ (λ sl hsl K hK=>af rfl (bs rfl rfl rfl rfl rfl rfl rfl rfl (hsl _ _ rfl) hK)) ao)) ?_)
  refine ap (λ _=>.arr 101000 5 0 l18.length) rfl rfl rfl (dV rfl (λ _=>rfl)) (lt1 rfl) (ar rfl (ag [(21,_)] ⟨.inr ⟨3,_,rfl,rfl,rfl⟩,trivial⟩ (λ sl hsl K hK=>af rfl (cD rfl rfl rfl rfl rfl (hsl _ _ rfl) rfl rfl hK)) ao)) (ap (λ _=>.p (eI t17)) rfl rfl rfl (dV rfl (λ _=>rfl)) (lt1 rfl) (ar rfl (ag [(3,_)] ⟨.inl rfl,trivial⟩ (λ sl hsl K hK=>af rfl (aI rfl rfl rfl (hsl _ _ rfl) hK)) ao)) ?_)
  refine ap (λ _=>.ptr 101000 (0+t17.toNat*5)) rfl rfl rfl (dV rfl (λ _=>rfl)) (lt1 rfl) (ar rfl (ag [(22,_),(23,_)] ⟨.inr ⟨4,_,rfl,rfl,rfl⟩,.inr ⟨5,_,rfl,rfl,rfl⟩,trivial⟩ (λ sl hsl K hK=>af rfl (ml rfl rfl rfl rfl rfl rfl (hsl _ _ rfl) (hsl _ _ rfl) rfl hk20 hK)) ao)) (ap (λ _=>.p (.agg (ab.cs (lat l18 t17)))) rfl rfl rfl (dV rfl (λ _=>rfl)) (lt1 rfl) (ar rfl (ag [(24,_)] ⟨.inr ⟨6,_,rfl,rfl,rfl⟩,trivial⟩ (λ sl hsl K hK=>af rfl (uW ah ab.cs l18 rfl rfl rfl rfl rfl (hsl _ _ rfl) rfl rfl rfl hk20 ab.cells_eq (λ _=>rfl) hK)) ao)) ?_)
  refine ap (λ _=>.p (.agg (ab.cs r21))) rfl rfl rfl (dV rfl (λ _=>rfl)) (lt1 rfl) (ar rfl (ag [(25,_)] ⟨.inr ⟨7,_,rfl,rfl,rfl⟩,trivial⟩ (λ sl hsl K hK=>af rfl (aF (ih_path_copied_ok (lat l18 t17) _ e22) rfl rfl rfl (aj (hsl _ _ rfl) aE) ⟨sr,trivial⟩ Tryz.call43 rfl hK)) ao)) (ap (λ _=>.ptr 101000 (0+t17.toNat*5)) rfl rfl rfl (dV rfl (λ _=>rfl)) (lt1 rfl) (ar rfl (ag [(19,_),(20,_)] ⟨.inr ⟨1,_,rfl,rfl,rfl⟩,.inr ⟨2,_,rfl,rfl,rfl⟩,trivial⟩ (λ sl hsl K hK=>af rfl (ml rfl rfl rfl rfl rfl rfl (hsl _ _ rfl) (hsl _ _ rfl) rfl hk23 hK)) ao)) ?_)
  refine gQ [(26,_),(27,_)] rfl ⟨.inr ⟨8,_,rfl,rfl,rfl⟩,.inr ⟨9,_,rfl,rfl,rfl⟩,trivial⟩ rfl (λ sl hsl K hK=>af rfl (sK ah ab.cs l18 r21 (n:=t17) rfl rfl rfl (hsl _ _ rfl) (hsl _ _ rfl) rfl rfl rfl hk23 ab.cells_eq (λ _=>rfl) (λ _=>rfl) hK)) (hC ?_)
  refine nx 2 rfl (oA h1 rfl rfl λ hk24 h1=>?_)
  exact nx 2 rfl (eX (t17+1,l18.set t17.toNat r21) h1 (cj (gX ⟨er rfl,er rfl,er rfl,er rfl,trivial⟩ ⟨⟨_,rfl,⟨sr,sr,sr,AV.sub_of_eq (congrArg (AV.arr 101000 5 0) (by simp)),sr,trivial⟩⟩,⟨_,rfl,⟨sr,sr,sr,sr,sr,trivial⟩⟩,⟨_,rfl,eV _⟩,trivial⟩)))
 exact nx 2 rfl (eXi _ (oi h1).symm (cj (gX ⟨er rfl,er rfl,trivial⟩ ⟨⟨_,rfl,⟨sr,sr,sr,AV.sub_of_eq (congrArg (AV.arr 101000 5 0) (by simp)),sr,trivial⟩⟩,⟨_,rfl,⟨sr,sr,sr,sr,sr,trivial⟩⟩,⟨_,rfl,eV _⟩,trivial⟩)))
def cK (n:Nat)(p_1:List aa):Nat→Int→Int→Int→Bytes→(List ab)→(List Bytes)→Option ((Int×Int×Bytes×(List ab)×(List Bytes))⊕(ab×Int))
 | 0,_,_,_,_,_,_=>none
 | m+1,t14,f15,f16,f17,f18,f19 =>
 if t14 < (p_1.length:Int) then
  ck ((0:Int)≤t14∧t14 < (p_1.length:Int)) <|
  (fF n (ab.mk f15 f16 f17 f18 f19) (lat p_1 t14)).bind λ r22 =>
  if r22.2=0 then
   ck ((0:Int)≤r22.1∧r22.1 < (f18.length:Int)) <|
   ck (inR (t14+1)) <|
   cK n p_1 m (t14+1) ((lat f18 r22.1).fKind) ((lat f18 r22.1).fNum) ((lat f18 r22.1).fStr) ((lat f18 r22.1).fItems) ((lat f18 r22.1).fKeys)
  else
   some (.inr ((ab.mk 0 0 ([]:Bytes) [] []),r22.2))
 else
  some (.inl (f15,f16,f17,f18,f19))
def fU (n:Nat)(v_0:ab)(p_1:List aa):Option (ab×Int) :=
 jn (cK n p_1 n 0 v_0.fKind v_0.fNum v_0.fStr v_0.fItems v_0.fKeys) λ q40 =>
 (bz n (ab.mk q40.1 q40.2.1 q40.2.2.1 q40.2.2.2.1 q40.2.2.2.2)).bind λ r38 =>
 some (r38,0)
theorem gG (n:Nat)(v_0:ab)(p_1:List aa)(r:ab×Int)(h0:fU n v_0 p_1=some r):au Tryz.prog 18 [.agg (ab.cs v_0),eL ae p_1] (·=.tuple [.p (.agg (ab.cs r.1)),.p (eI r.2)]):=by
 unfold fU at h0
 refine aH good Tryz.func18 rfl rfl rfl λ w0=>mP (λ v:ab×Int=>.tuple [.p (.agg (ab.cs v.1)),.p (eI v.2)]) ?_
 refine nx 10 rfl (oLl (f:=ae) rfl rfl ?_)
 refine nx 3 rfl ?_
 obtain ⟨o41,h1,hL0,hR0⟩:=cn h0
 refine kEx 0 (λ v42:Int×Int×Bytes×(List ab)×(List Bytes)=>o41=.inl v42) (λ v42=>⟨[(2,.ptr 2 0),(4,.ptr 4 0)],[(2,[.p (eI v42.1),.p (eI v42.2.1),.p (eS v42.2.2.1),.p (eL ah v42.2.2.2.1),.p (eL eS v42.2.2.2.2)]),(4,[.p (eI 0),.p (eI 0),.p (eS ([]:Bytes)),.p (.val (.slice none 0 0)),.p (.val (.slice none 0 0))])]⟩) (λ v42 hv=>?_) ?_
 ·have h0:=hL0 _ hv
  refine nx 4 rfl (bd h0 λ r38 e39 h0=>?_)
  refine oK (g6 _ (ab.mk v42.1 v42.2.1 v42.2.2.1 v42.2.2.2.1 v42.2.2.2.2) _ e39) rfl ⟨sr,trivial⟩ Tryz.call43 rfl (nx 4 rfl ?_)
  exact mQ (oi h0) rfl (am ⟨sr,sr,trivial⟩)
 refine lG (λ (q43:Int×Int×Int×Bytes×(List ab)×(List Bytes))=>⟨[(2,.ptr 2 0),(4,.ptr 4 0),(10,.p (eL ae p_1)),(11,.p (eI (p_1.length:Int))),(12,.p (eI q43.1))],[(2,[.p (eI q43.2.1),.p (eI q43.2.2.1),.p (eS q43.2.2.2.1),.p (eL ah q43.2.2.2.2.1),.p (eL eS q43.2.2.2.2.2)]),(4,[.p (eI 0),.p (eI 0),.p (eS ([]:Bytes)),.p (.val (.slice none 0 0)),.p (.val (.slice none 0 0))])]⟩) (λ m (q43:Int×Int×Int×Bytes×(List ab)×(List Bytes))=>cK n p_1 m q43.1 q43.2.1 q43.2.2.1 q43.2.2.2.1 q43.2.2.2.2.1 q43.2.2.2.2.2) (λ _=>rfl) (0,v_0.fKind,v_0.fNum,v_0.fStr,v_0.fItems,v_0.fKeys) h1 (gE rfl rfl) ?_
 rintro m ⟨t14,f15,f16,f17,f18,f19⟩ h1
 replace h1:cK n p_1 (m+1) t14 f15 f16 f17 f18 f19=some o41:=h1
 rw [cK] at h1
 refine nx 5 rfl (fD [13] h1 rfl (λ c20 h1=>?_) λ c20 h1=>?_)
 ·refine nx 6 rfl (oE h1 aa.cells_eq rfl rfl (λ _=>rfl) λ hk21 h1=>?_)
  refine nx 8 rfl (bd h1 λ r22 e23 h1=>?_)
  refine oK (nC _ (ab.mk f15 f16 f17 f18 f19) (lat p_1 t14) _ e23) rfl ⟨sr,sr,trivial⟩ Tryz.call42 rfl (nx 12 rfl ?_)
  refine fN [23] h1 rfl (λ c24 h1=>?_) λ c24 h1=>?_
  ·refine nx 6 rfl (oE h1 ab.cells_eq rfl rfl (λ _=>rfl) λ hk25 h1=>?_)
   refine nx 4 rfl (oA h1 rfl rfl λ hk26 h1=>?_)
   exact nx 2 rfl (eX (t14+1,(lat f18 r22.1).fKind,(lat f18 r22.1).fNum,(lat f18 r22.1).fStr,(lat f18 r22.1).fItems,(lat f18 r22.1).fKeys) h1 (gE rfl rfl))
  exact nx 9 rfl (mQ (hR0 _ (oi h1).symm) rfl (am ⟨iq ⟨.inl rfl,.inl rfl,.inl rfl,.inr ⟨rfl,rfl⟩,.inr ⟨rfl,rfl⟩,trivial⟩,sr,trivial⟩))
 exact nx 2 rfl (eXi _ (oi h1).symm (gE rfl rfl))
def dj (r_value_copied:ab→Option ab)(l_0:List ab):Nat→(List ab)→Int→Option (List ab)
 | 0,_,_=>none
 | m+1,out11,t12 =>
 if t12 < (l_0.length:Int) then
  ck ((0:Int)≤t12∧t12 < (l_0.length:Int)) <|
  (r_value_copied (lat l_0 t12)).bind λ r15 =>
  ck ((out11.length+[(ab.mk r15.fKind r15.fNum r15.fStr r15.fItems r15.fKeys)].length)*80≤140737488355328) <|
  ck (inR (t12+1)) <|
  dj r_value_copied l_0 m (out11++[(ab.mk r15.fKind r15.fNum r15.fStr r15.fItems r15.fKeys)]) (t12+1)
 else
  some out11
mutual
def cw:Nat→ab→Option ab
 | 0,_=>none
 | n+1,v_0 =>
 ck (v_0.fKeys.length*16≤140737488355328) <|
 ((fI n) v_0.fItems).bind λ r2 =>
 some (ab.mk v_0.fKind v_0.fNum v_0.fStr r2 v_0.fKeys)
def fI:Nat→(List ab)→Option (List ab)
 | 0,_=>none
 | n+1,l_0 =>
 if (l_0.length:Int)=0 then
  some []
 else
  ck ((0:Int)≤(l_0.length:Int)∧(l_0.length:Int)≤9223372036854775807∧(80:Int)*(l_0.length:Int)≤281474976710656) <|
  (dj (cw n) l_0 n ([]:List ab) 0).bind λ out21 =>
  some out21
end
theorem oc (n:Nat):(∀ (v_0:ab) (r:ab),cw n v_0=some r→bH Tryz.prog 102 [.p (.agg (ab.cs v_0))] [] (λ x y=>x=.agg [.p (eI r.fKind),.p (eI r.fNum),.p (eS r.fStr),.vec 2000000 5 0 (r.fItems.map ah),.vec 2000001 1 0 (r.fKeys.map eS)]∧y=[]))∧(∀ (l_0:List ab) (r:(List ab)),fI n l_0=some r→bH Tryz.prog 128 [.p (eL ah l_0)] [] (λ x y=>x=.vec 2000000 5 0 (r.map ah)∧y=[])):=by
 induction n with
 | zero=>exact ⟨(by intro v_0 r h0; cases h0),(by intro l_0 r h0; cases h0)⟩
 | succ n ih =>
 obtain ⟨ih_value_copied_ok,ih_value_copies_ok⟩:=ih
 refine ⟨?_,?_⟩
 ·skip
  intro v_0 r h0
  rw [cw] at h0
  refine hH good [800000,800001] [] Tryz.func102 rfl rfl rfl rfl rfl λ w0 F=>mPo (λ v:ab=>.agg [.p (eI v.fKind),.p (eI v.fNum),.p (eS v.fStr),.vec 2000000 5 0 (v.fItems.map ah),.vec 2000001 1 0 (v.fKeys.map eS)]) (λ v=>[]) ?_
  refine nx 9 rfl (cc' h0 λ hk1 h0=>?_)
  refine mO rfl (br [] [] 101000 101001 (il v_0.fKeys hk1) rfl rfl rfl rfl rfl ⟨sr,trivial⟩ rfl rfl trivial rfl rfl rfl rfl rfl rfl rfl rfl Tryz.call72 rfl rfl ?_)
  refine nx 7 rfl (bd h0 λ r2 e3 h0=>?_)
  refine mO rfl (br [] [] 102000 102001 (ih_value_copies_ok v_0.fItems _ e3) rfl rfl rfl rfl rfl ⟨sr,trivial⟩ rfl rfl trivial rfl rfl rfl rfl rfl rfl rfl rfl Tryz.call128 rfl rfl ?_)
  exact nx 9 rfl (mQo (oi h0) (aN (bf 102000 800000 rfl rfl rfl rfl rfl) (aN (bf 101000 800001 rfl rfl rfl rfl rfl) (bu _))) rfl rfl rfl rfl (sr) trivial)
 ·skip
  intro l_0 r h0
  rw [fI] at h0
  refine hH good [800000] [] Tryz.func128 rfl rfl rfl rfl rfl λ w0 F=>mPo (λ v:(List ab)=>.vec 2000000 5 0 (v.map ah)) (λ v=>[]) ?_
  refine nx 8 rfl (oLl (f:=ah) rfl rfl ?_)
  refine nx 2 rfl (fD [8] h0 rfl (λ c1 h0=>?_) λ c1 h0=>?_)
  ·exact nx 6 rfl (mQo (oi h0) (bu _) rfl rfl rfl rfl (AV.sub_nilvec _ _ _) trivial)
  refine nx 5 rfl (oLl (f:=ah) rfl rfl ?_)
  refine cc' h0 λ hk2 h0=>mO rfl (wO rfl rfl rfl rfl rfl rfl rfl rfl hk2 rfl rfl ?_)
  refine nx 6 rfl (oLl (f:=ah) rfl rfl ?_)
  refine nx 3 rfl (bd h0 λ o23 h1 h0=>?_)
  refine kE 0 o23 (λ v24=>⟨[(3,.vec 22 5 0 (v24.map ah))],[]⟩) ?_ ?_
  ·exact nx 7 rfl (mQo (oi h0) (aN (bf 22 800000 rfl rfl rfl rfl rfl) (bu _)) rfl rfl rfl rfl (sr) trivial)
  refine lG (λ (q25:(List ab)×Int)=>⟨[(3,.vec 22 5 0 (q25.1.map ah)),(12,.p (eL ah l_0)),(13,.p (eI (l_0.length:Int))),(14,.p (eI q25.2))],[]⟩) (λ m (q25:(List ab)×Int)=>dj (cw n) l_0 m q25.1 q25.2) (λ _=>rfl) (([]:List ab),0) h1 (aN (bf 11 22 rfl rfl rfl rfl rfl) (gE rfl rfl)) ?_
  rintro m ⟨out11,t12⟩ h1
  replace h1:dj (cw n) l_0 (m+1) out11 t12=some o23:=h1
  rw [dj] at h1
  refine nx 5 rfl (fD [15] h1 rfl (λ c13 h1=>?_) λ c13 h1=>?_)
  ·refine nx 6 rfl (oE h1 ab.cells_eq rfl rfl (λ _=>rfl) λ hk14 h1=>?_)
   refine nx 7 rfl (bd h1 λ r15 e16 h1=>?_)
   refine mO rfl (br [] [] 102000 102002 (ih_value_copied_ok (lat l_0 t12) _ e16) rfl rfl rfl rfl rfl ⟨sr,trivial⟩ rfl rfl trivial rfl rfl rfl rfl rfl rfl rfl rfl Tryz.call102 rfl rfl ?_)
   refine mG (ii 20 (y:=.p (.agg (ab.cs (ab.mk r15.fKind r15.fNum r15.fStr r15.fItems r15.fKeys)))) rfl (pQ ⟨sr,sr,sr,AV.sub_vec _ _ _ _,AV.sub_vec _ _ _ _,trivial⟩)) (mO rfl (aV ah [(ab.mk r15.fKind r15.fNum r15.fStr r15.fItems r15.fKeys)] rfl rfl rfl rfl rfl rfl rfl rfl rfl rfl rfl rfl rfl (by first | rfl | (simp only [List.map_cons,List.map_nil,ab.agg_eq]; done) | (simp only [List.map_cons,List.map_nil,ab.agg_eq]; rfl)) ?_))
   refine cc' h1 λ hk17 h1=>mO rfl (dl ah out11 [(ab.mk r15.fKind r15.fNum r15.fStr r15.fItems r15.fKeys)] rfl rfl rfl rfl rfl rfl rfl rfl rfl rfl rfl rfl rfl (λ x=>congrArg List.length (ab.cells_eq x)) rfl rfl rfl rfl hk17 ?_)
   refine nx 3 rfl (oA h1 rfl rfl λ hk18 h1=>?_)
   exact nx 2 rfl (eX (out11++[(ab.mk r15.fKind r15.fNum r15.fStr r15.fItems r15.fKeys)],t12+1) h1 (gE rfl rfl))
  exact nx 2 rfl (eXi _ (oi h1).symm (gE rfl rfl))
theorem ky (n:Nat):∀ (v_0:ab) (r:ab),cw n v_0=some r→bH Tryz.prog 102 [.p (.agg (ab.cs v_0))] [] (λ x y=>x=.agg [.p (eI r.fKind),.p (eI r.fNum),.p (eS r.fStr),.vec 2000000 5 0 (r.fItems.map ah),.vec 2000001 1 0 (r.fKeys.map eS)]∧y=[]):=(oc n).1
def bO (_n:Nat)(s_0:List Bytes)(i_1:Int)(v_2:List Bytes):Option (List Bytes) :=
 ck ((0:Int)≤i_1∧i_1≤(s_0.length:Int)∧(s_0.length:Int)≤(s_0.length:Int)) <|
 if (v_2.length:Int)=0 then
  some s_0
 else
  if i_1=(s_0.length:Int) then
   ck ((s_0.length+v_2.length)*16≤140737488355328) <|
   some (s_0++v_2)
  else
   ck (inR ((s_0.length:Int)+(v_2.length:Int))) <|
   none
theorem ic (n:Nat)(s_0:List Bytes)(i_1:Int)(v_2:List Bytes)(r:(List Bytes))(h0:bO n s_0 i_1 v_2=some r):bH Tryz.prog 103 [.vec 900000 1 0 (s_0.map eS),.p (eI i_1),.p (eL eS v_2)] [] (λ x y=>x=.vec 2000000 1 0 (r.map eS)∧y=[]):=by
 unfold bO at h0
 refine hH good [800000] [] Tryz.func103 rfl rfl rfl rfl rfl λ w0 F=>mPo (λ v:(List Bytes)=>.vec 2000000 1 0 (v.map eS)) (λ v=>[]) ?_
 refine nx 8 rfl (cc' h0 λ hk1 h0=>?_)
 refine mO rfl (lR (f:=eS) (l:=s_0) rfl rfl rfl rfl rfl rfl rfl rfl rfl rfl hk1 (λ _=>rfl) ?_)
 refine nx 4 rfl (oLl (f:=eS) rfl rfl ?_)
 refine nx 8 rfl (fD [16] h0 rfl (λ c2 h0=>?_) λ c2 h0=>?_)
 ·exact nx 7 rfl (mQo (oi h0) (aN (bf 900000 800000 rfl rfl rfl rfl rfl) (bu _)) rfl rfl rfl rfl (sr) trivial)
 refine nx 5 rfl (oLl (f:=eS) rfl rfl ?_)
 refine nx 9 rfl (fD [22] h0 rfl (λ c3 h0=>?_) λ c3 h0=>?_)
 ·refine nx 5 rfl (cc' h0 λ hk4 h0=>?_)
  refine mO rfl (dl eS s_0 v_2 rfl rfl rfl rfl rfl rfl rfl rfl rfl rfl rfl rfl rfl (λ _=>rfl) rfl rfl rfl rfl hk4 ?_)
  exact nx 3 rfl (mQo (oi h0) (aN (bf 25 800000 rfl rfl rfl rfl rfl) (bu _)) rfl rfl rfl rfl (sr) trivial)
 refine nx 7 rfl (oA h0 rfl rfl λ hk5 h0=>?_)
 refine nx 1 rfl ?_
 cases h0
def jl (n:Nat)(v_0:ab)(key_1:Bytes)(x_2:ab):Option ab :=
 (cw n v_0).bind λ r1 =>
 (aM n r1.fKeys key_1).bind λ r3 =>
 (
   if (r1.fItems.length:Int) < r3.1 then
    some true
   else
    if r3.2=true then
     some (decide (r3.1=(r1.fItems.length:Int)))
    else
     some false
  : Option Bool).bind λ t7 =>
 if t7=true then
  some (ab.mk r1.fKind r1.fNum r1.fStr r1.fItems r1.fKeys)
 else
  if (!r3.2)=true then
   (bO n r1.fKeys r3.1 [key_1]).bind λ r10 =>
   (cQ r1.fItems r3.1 ([(ab.mk 0 0 ([]:Bytes) [] [])])).bind λ r12 =>
   (cw n x_2).bind λ r14 =>
   ck (r3.1=(r12.length:Int)) <|
   some (ab.mk r1.fKind r1.fNum r1.fStr (r12++[r14]) r10)
  else
   none
theorem rS (n:Nat)(v_0:ab)(key_1:Bytes)(x_2:ab)(r:ab)(h0:jl n v_0 key_1 x_2=some r):au Tryz.prog 74 [.agg (ab.cs v_0),eS key_1,.agg (ab.cs x_2)] (·=.p (.agg (ab.cs r))):=by
 unfold jl at h0
 refine aH good Tryz.func74 rfl rfl rfl λ w0=>mP (λ v:ab=>.p (.agg (ab.cs v))) ?_
 refine nx 9 rfl (bd h0 λ r1 e2 h0=>?_)
 refine mO rfl (br [] [] 101000 101002 (ky _ v_0 _ e2) rfl rfl rfl rfl rfl ⟨sr,trivial⟩ rfl rfl trivial rfl rfl rfl rfl rfl rfl rfl rfl Tryz.call102 rfl rfl ?_)
 refine nx 8 rfl (bd h0 λ r3 e4 h0=>?_)
 refine oK (dT _ r1.fKeys key_1 _ e4) rfl ⟨AV.sub_vec _ _ _ _,sr,trivial⟩ Tryz.call71 rfl (nx 8 rfl ?_)
 refine bd h0 λ o21 h1 h0=>kN o21 (λ v22=>⟨[(1,.p (eS key_1)),(5,.ptr 5 0),(6,.ptr 6 0),(7,.ptr 7 0),(8,.p (eI r3.1)),(9,.p (eB r3.2)),(33,.p (eB v22))],[(5,(ab.cs x_2).map .p),(6,[.p (eI 0),.p (eI 0),.p (eS ([]:Bytes)),.p (.val (.slice none 0 0)),.p (.val (.slice none 0 0))]),(7,[.p (eI r1.fKind),.p (eI r1.fNum),.p (eS r1.fStr),.vec 101000 5 0 (r1.fItems.map ah),.vec 101001 1 0 (r1.fKeys.map eS)])]⟩) ?_ ?_
 ·refine nx 1 rfl (fB [33] h0 rfl (λ c8 h0=>?_) λ c8 h0=>?_)
  ·exact nx 7 rfl (mQ (oi h0) rfl (pQ ⟨sr,sr,sr,AV.sub_vec _ _ _ _,AV.sub_vec _ _ _ _,trivial⟩))
  refine nx 8 rfl (fB [36] h0 rfl (λ c9 h0=>?_) λ c9 h0=>?_)
  ·refine nx 7 rfl (mO rfl (aV eS [key_1] rfl rfl rfl rfl rfl rfl rfl rfl rfl rfl rfl rfl rfl rfl ?_))
   refine bd h0 λ r10 e11 h0=>mO rfl (br [] [101001] 102000 102001 (ic _ r1.fKeys r3.1 [key_1] _ e11) rfl rfl rfl rfl rfl ⟨sr,sr,sr,trivial⟩ rfl rfl trivial rfl rfl rfl rfl rfl rfl rfl rfl Tryz.call103 rfl rfl ?_)
   refine nx 8 rfl (mG (ii 47 (y:=.p (.agg (ab.cs (ab.mk 0 0 ([]:Bytes) [] [])))) rfl (iq ⟨.inl rfl,.inl rfl,.inl rfl,.inr ⟨rfl,rfl⟩,.inr ⟨rfl,rfl⟩,trivial⟩)) ?_)
   refine mO rfl (aV ah [(ab.mk 0 0 ([]:Bytes) [] [])] rfl rfl rfl rfl rfl rfl rfl rfl rfl rfl rfl rfl rfl (by first | rfl | (simp only [List.map_cons,List.map_nil,ab.agg_eq]; done) | (simp only [List.map_cons,List.map_nil,ab.agg_eq]; rfl)) ?_)
   refine bd h0 λ r12 e13 h0=>mO rfl (br [] [101000] 103000 103001 (fQ r1.fItems r3.1 ([(ab.mk 0 0 ([]:Bytes) [] [])]) _ e13) rfl rfl rfl rfl rfl ⟨sr,sr,sr,trivial⟩ rfl rfl trivial rfl rfl rfl rfl rfl rfl rfl rfl Tryz.call104 rfl rfl ?_)
   refine nx 4 rfl (bd h0 λ r14 e15 h0=>?_)
   refine cc' h0 λ hk16 h0=>mG (gE (t:=⟨[(5,.ptr 5 0),(6,.ptr 6 0),(7,.ptr 7 0),(8,.p (eI r3.1))],[(5,(ab.cs x_2).map .p),(6,[.p (eI 0),.p (eI 0),.p (eS ([]:Bytes)),.p (.val (.slice none 0 0)),.p (.val (.slice none 0 0))]),(7,[.p (eI r1.fKind),.p (eI r1.fNum),.p (eS r1.fStr),.vecp 103000 5 0 (r12.map ah),.vec 102000 1 0 (r10.map eS)])]⟩) rfl rfl) (mS ⟨2,[4,6],(by3 (.some (cz [] 104000 104002)) (.fn (upP 103000 5 (.agg (ab.cs r14)))) .none),(λ _=>[(5,.ptr 5 0),(6,.ptr 6 0),(7,.ptr 7 0),(8,.p (eI r3.1))]),(by3 ([(5,[.p (eI x_2.fKind),.p (eI x_2.fNum),.p (eS x_2.fStr),.p (eL ah x_2.fItems),.p (eL eS x_2.fKeys)]),(6,[.p (eI 0),.p (eI 0),.p (eS ([]:Bytes)),.p (.val (.slice none 0 0)),.p (.val (.slice none 0 0))]),(7,[.p (eI r1.fKind),.p (eI r1.fNum),.p (eS r1.fStr),.vecp 103000 5 0 (r12.map ah),.vec 102000 1 0 (r10.map eS)])]) ([(5,[.p (eI x_2.fKind),.p (eI x_2.fNum),.p (eS x_2.fStr),.p (eL ah x_2.fItems),.p (eL eS x_2.fKeys)]),(6,[.p (eI 0),.p (eI 0),.p (eS ([]:Bytes)),.p (.val (.slice none 0 0)),.p (.val (.slice none 0 0))]),(7,[.p (eI r1.fKind),.p (eI r1.fNum),.p (eS r1.fStr),.vecp 103000 5 0 (r12.map ah),.vec 102000 1 0 (r10.map eS)])]) ([(5,[.p (eI x_2.fKind),.p (eI x_2.fNum),.p (eS x_2.fStr),.p (eL ah x_2.fItems),.p (eL eS x_2.fKeys)]),(6,[.p (eI 0),.p (eI 0),.p (eS ([]:Bytes)),.p (.val (.slice none 0 0)),.p (.val (.slice none 0 0))]),(7,[.p (eI r1.fKind),.p (eI r1.fNum),.p (eS r1.fStr),.vec 103000 5 0 (r12.map ah++[.agg (ab.cs r14)]),.vec 102000 1 0 (r10.map eS)])]))⟩ rfl rfl rfl ⟨rfl,rfl,rfl,rfl,trivial⟩ (lt2 ⟨rfl,rfl,rfl,rfl,trivial⟩ ⟨rfl,rfl,rfl,rfl,trivial⟩) rfl rfl rfl rfl ?_)
   refine ap (λ _=>.ptr 7 3) rfl rfl rfl (bc rfl rfl (λ _=>rfl)) (lt2 rfl rfl) (ar rfl (ag [(7,_)] ⟨.inl rfl,trivial⟩ (λ sl hsl K hK=>af rfl (bs rfl rfl rfl rfl rfl rfl rfl rfl (hsl _ _ rfl) hK)) (ag [(7,_)] ⟨.inl rfl,trivial⟩ (λ sl hsl K hK=>af rfl (bs rfl rfl rfl rfl rfl rfl rfl rfl (hsl _ _ rfl) hK)) ao))) (ap (by3 (.vecp 103000 5 0 (r12.map ah)) (.vecp 103000 5 0 (r12.map ah)) (.vec 103000 5 0 (r12.map ah++[.agg (ab.cs r14)]))) rfl rfl rfl (bc rfl rfl (λ _=>rfl)) (lt2 rfl rfl) (ar rfl (ag [(51,_)] ⟨.inr ⟨0,_,rfl,rfl,rfl⟩,trivial⟩ (λ sl hsl K hK=>af rfl (cD rfl rfl rfl rfl rfl (hsl _ _ rfl) rfl rfl hK)) (ag [(51,_)] ⟨.inr ⟨0,_,rfl,rfl,rfl⟩,trivial⟩ (λ sl hsl K hK=>af rfl (cD rfl rfl rfl rfl rfl (hsl _ _ rfl) rfl rfl hK)) ao))) ?_)
   refine ap (λ _=>.p (eI r3.1)) rfl rfl rfl (bc rfl rfl (λ _=>rfl)) (lt2 rfl rfl) (ar rfl (ag [(8,_)] ⟨.inl rfl,trivial⟩ (λ sl hsl K hK=>af rfl (aI rfl rfl rfl (hsl _ _ rfl) hK)) (ag [(8,_)] ⟨.inl rfl,trivial⟩ (λ sl hsl K hK=>af rfl (aI rfl rfl rfl (hsl _ _ rfl) hK)) ao))) (ap (λ _=>.p (.agg (ab.cs x_2))) rfl rfl rfl (bc rfl rfl (λ _=>rfl)) (lt2 rfl rfl) (ar rfl (ar rfl (ag [(5,_)] ⟨.inl rfl,trivial⟩ (λ sl hsl K hK=>af rfl (bg rfl rfl rfl rfl rfl (hsl _ _ rfl) rfl rfl rfl hK)) ao))) ?_)
   refine fv (λ _=>.agg [.p (eI r14.fKind),.p (eI r14.fNum),.p (eS r14.fStr),.vec 104000 5 0 (r14.fItems.map ah),.vec 104001 1 0 (r14.fKeys.map eS)]) [(54,_)] rfl ⟨.inr ⟨3,_,rfl,rfl,rfl⟩,trivial⟩ rfl rfl (dV rfl (λ _=>rfl)) (lt2 (λ h=>absurd h (by decide)) (λ _=>rfl)) (λ sl hsl K hK=>af rfl (br [] [] 104000 104002 (ky _ x_2 _ e15) rfl rfl rfl (aj (hsl _ _ rfl) aE) rfl ⟨sr,trivial⟩ rfl rfl trivial rfl rfl rfl rfl rfl rfl rfl rfl Tryz.call102 rfl rfl hK)) (ap (by3 (.elp 103000 5) (.elp 103000 5) .undef) rfl rfl rfl (bc rfl rfl (λ _=>rfl)) (lt2 rfl rfl) (ar rfl (ag [(52,_),(53,_)] ⟨.inr ⟨1,_,rfl,rfl,rfl⟩,.inr ⟨2,_,rfl,rfl,rfl⟩,trivial⟩ (λ sl hsl K hK=>af rfl (yC rfl rfl rfl rfl rfl rfl rfl (hsl _ _ rfl) (hsl _ _ rfl) (by rw [List.length_map]; exact hk16) hK)) (ar rfl ao))) ?_)
   refine gQ [(55,_),(56,_)] rfl ⟨.inr ⟨4,_,rfl,rfl,rfl⟩,.inr ⟨5,_,rfl,rfl,rfl⟩,trivial⟩ rfl (λ sl hsl K hK=>af rfl (zB (z:=.agg (ab.cs r14)) rfl rfl rfl rfl (hsl _ _ rfl) (hsl _ _ rfl) (xX rfl) rfl rfl rfl rfl rfl hK)) (hC ?_)
   refine mG (cj (t:=⟨[(6,.ptr 6 0),(7,.ptr 7 0)],[(6,[.p (eI 0),.p (eI 0),.p (eS ([]:Bytes)),.p (.val (.slice none 0 0)),.p (.val (.slice none 0 0))]),(7,[.p (eI r1.fKind),.p (eI r1.fNum),.p (eS r1.fStr),.vec 103000 5 0 ((r12++[r14]).map ah),.vec 102000 1 0 (r10.map eS)])]⟩) (gX ⟨er rfl,er rfl,trivial⟩ ⟨⟨_,rfl,⟨sr,sr,sr,sr,sr,trivial⟩⟩,⟨_,rfl,⟨sr,sr,sr,AV.sub_of_eq (by first | (simp only [List.map_append,List.map_cons,List.map_nil,ab.agg_eq]; done) | (simp only [List.map_append,List.map_cons,List.map_nil,ab.agg_eq]; rfl)),sr,trivial⟩⟩,trivial⟩)) (nx 7 rfl ?_)
   exact mQ (oi h0) rfl (pQ ⟨sr,sr,sr,AV.sub_vec _ _ _ _,AV.sub_vec _ _ _ _,trivial⟩)
  refine nx 3 rfl ?_
  cases h0
 refine nx 4 rfl (oLl (f:=ah) rfl rfl ?_)
 refine nx 2 rfl (fD [23,24] h1 rfl (λ c5 h1=>?_) λ c5 h1=>?_)
 ·exact nx 10 rfl (eX _ (oi h1).symm (gE rfl rfl))
 refine nx 2 rfl (fB [9,18,25,26] h1 rfl (λ c6 h1=>?_) λ c6 h1=>?_)
 ·refine nx 3 rfl (oLl (f:=ah) rfl rfl ?_)
  exact nx 4 rfl (eX _ (oi h1).symm (cj (gX ⟨er rfl,er rfl,er rfl,er rfl,er rfl,⟨_,rfl,j3 c6.symm⟩,er rfl,trivial⟩ ⟨⟨_,rfl,⟨sr,sr,sr,sr,sr,trivial⟩⟩,⟨_,rfl,⟨sr,sr,sr,sr,sr,trivial⟩⟩,⟨_,rfl,⟨sr,sr,sr,sr,sr,trivial⟩⟩,trivial⟩)))
 exact nx 8 rfl (eX _ (oi h1).symm (cj (gX ⟨er rfl,er rfl,er rfl,er rfl,er rfl,⟨_,rfl,j3 c6.symm⟩,er rfl,trivial⟩ ⟨⟨_,rfl,⟨sr,sr,sr,sr,sr,trivial⟩⟩,⟨_,rfl,⟨sr,sr,sr,sr,sr,trivial⟩⟩,⟨_,rfl,⟨sr,sr,sr,sr,sr,trivial⟩⟩,trivial⟩)))
def gY:Nat→ab→(List aa)→ab→Option (ab×Int)
 | 0,_,_,_=>none
 | n+1,v_0,p_1,x_2 =>
 if (p_1.length:Int)=0 then
  (bz n x_2).bind λ r2 =>
  some (r2,0)
 else
  ck ((0:Int)≤0∧0 < (p_1.length:Int)) <|
  (fF n v_0 (lat p_1 0)).bind λ r5 =>
  (
    if r5.2=16 then
     if (p_1.length:Int)=1 then
      ck ((0:Int)≤0∧0 < (p_1.length:Int)) <|
      some (!((lat p_1 0).fIndex))
     else
      some false
    else
     some false
   : Option Bool).bind λ t10 =>
  if t10=true then
   ck ((0:Int)≤0∧0 < (p_1.length:Int)) <|
   (jl n v_0 ((lat p_1 0).fName) x_2).bind λ r13 =>
   some (r13,0)
  else
   if r5.2=0 then
    ck ((0:Int)≤r5.1∧r5.1 < (v_0.fItems.length:Int)) <|
    ck ((0:Int)≤1∧1≤(p_1.length:Int)∧(p_1.length:Int)≤(p_1.length:Int)) <|
    ((gY n) (lat v_0.fItems r5.1) (sub p_1 1 (p_1.length:Int)) x_2).bind λ r18 =>
    if r18.2=0 then
     ck ((0:Int)≤r5.1∧r5.1 < (v_0.fItems.length:Int)) <|
     none
    else
     some ((ab.mk 0 0 ([]:Bytes) [] []),r18.2)
   else
    some ((ab.mk 0 0 ([]:Bytes) [] []),r5.2)
theorem oz (n:Nat):∀ (v_0:ab) (p_1:List aa) (x_2:ab) (r:ab×Int),gY n v_0 p_1 x_2=some r→au Tryz.prog 45 [.agg (ab.cs v_0),eL ae p_1,.agg (ab.cs x_2)] (·=.tuple [.p (.agg (ab.cs r.1)),.p (eI r.2)]):=by
 induction n with
 | zero=>intro v_0 p_1 x_2 r h0; cases h0
 | succ n ih =>
 have ih_path_set_ok:=ih
 intro v_0 p_1 x_2 r h0
 rw [gY] at h0
 refine aH good Tryz.func45 rfl rfl rfl λ w0=>mP (λ v:ab×Int=>.tuple [.p (.agg (ab.cs v.1)),.p (eI v.2)]) ?_
 refine nx 11 rfl (oLl (f:=ae) rfl rfl ?_)
 refine nx 2 rfl (fD [13] h0 rfl (λ c1 h0=>?_) λ c1 h0=>?_)
 ·refine nx 4 rfl (bd h0 λ r2 e3 h0=>?_)
  refine oK (g6 _ x_2 _ e3) rfl ⟨sr,trivial⟩ Tryz.call43 rfl (nx 4 rfl ?_)
  exact mQ (oi h0) rfl (am ⟨sr,sr,trivial⟩)
 refine nx 3 rfl (cc' h0 λ hk4 h0=>?_)
 refine bd h0 λ r5 e6 h0=>mD [(1,.p (eL ae p_1)),(3,.ptr 3 0),(5,.ptr 5 0),(6,.ptr 6 0)] rfl ⟨rfl,rfl,rfl,rfl,trivial⟩ rfl (dR 2 rfl ?_)
 refine dq (.rptr (aa.cs (lat p_1 0))) [18] rfl (λ _ e _ q=>af rfl (dQ (f:=ae) (l:=p_1) aa.cs rfl rfl rfl rfl rfl rfl (e _ _ rfl) rfl rfl hk4 aa.cells_eq (λ _=>rfl) q)) rfl (dR 1 rfl ?_)
 refine dq (.tuple [.p (eI r5.1),.p (eI r5.2)]) [17,20] rfl (λ _ e _ q=>af rfl (aF (nC _ v_0 (lat p_1 0) _ e6) rfl rfl rfl (aj (e _ _ rfl) (aj (e _ _ rfl) aE)) ⟨sr,sr,trivial⟩ Tryz.call42 rfl q)) rfl (dR 5 rfl ?_)
 refine dE rfl (nx 3 rfl ?_)
 refine bd h0 λ o23 h1 h0=>kN o23 (λ v24=>⟨[(1,.p (eL ae p_1)),(3,.ptr 3 0),(5,.ptr 5 0),(6,.ptr 6 0),(8,.p (eI r5.1)),(9,.p (eI r5.2)),(37,.p (eB v24))],[(3,(ab.cs v_0).map .p),(5,(ab.cs x_2).map .p),(6,[.p (eI 0),.p (eI 0),.p (eS ([]:Bytes)),.p (.val (.slice none 0 0)),.p (.val (.slice none 0 0))])]⟩) ?_ ?_
 ·refine nx 1 rfl (fB [37] h0 rfl (λ c11 h0=>?_) λ c11 h0=>?_)
  ·refine nx 2 rfl (cc' h0 λ hk12 h0=>?_)
   refine bd h0 λ r13 e14 h0=>mG (gE (t:=⟨[(1,.p (eL ae p_1)),(3,.ptr 3 0),(5,.ptr 5 0),(6,.ptr 6 0)],[(3,(ab.cs v_0).map .p),(5,(ab.cs x_2).map .p),(6,[.p (eI 0),.p (eI 0),.p (eS ([]:Bytes)),.p (.val (.slice none 0 0)),.p (.val (.slice none 0 0))])]⟩) rfl rfl) (mS ⟨1,[7],(λ _=>.none),(λ _=>[(1,.p (eL ae p_1)),(3,.ptr 3 0),(5,.ptr 5 0),(6,.ptr 6 0)]),(by2 ([(3,[.p (eI v_0.fKind),.p (eI v_0.fNum),.p (eS v_0.fStr),.p (eL ah v_0.fItems),.p (eL eS v_0.fKeys)]),(5,[.p (eI x_2.fKind),.p (eI x_2.fNum),.p (eS x_2.fStr),.p (eL ah x_2.fItems),.p (eL eS x_2.fKeys)]),(6,[.p (eI 0),.p (eI 0),.p (eS ([]:Bytes)),.p (.val (.slice none 0 0)),.p (.val (.slice none 0 0))])]) ([(6,[.p (eI r13.fKind),.p (eI r13.fNum),.p (eS r13.fStr),.p (eL ah r13.fItems),.p (eL eS r13.fKeys)]),(3,[.p (eI v_0.fKind),.p (eI v_0.fNum),.p (eS v_0.fStr),.p (eL ah v_0.fItems),.p (eL eS v_0.fKeys)]),(5,[.p (eI x_2.fKind),.p (eI x_2.fNum),.p (eS x_2.fStr),.p (eL ah x_2.fItems),.p (eL eS x_2.fKeys)]),(6,[.p (eI 0),.p (eI 0),.p (eS ([]:Bytes)),.p (.val (.slice none 0 0)),.p (.val (.slice none 0 0))])]))⟩ rfl rfl rfl ⟨rfl,rfl,rfl,rfl,trivial⟩ (lt1 ⟨rfl,rfl,rfl,rfl,trivial⟩) rfl rfl rfl rfl ?_)
   refine ap (λ _=>.p (.agg (ab.cs v_0))) rfl rfl rfl (dV rfl (λ _=>rfl)) (lt1 rfl) (ar rfl (ag [(3,_)] ⟨.inl rfl,trivial⟩ (λ sl hsl K hK=>af rfl (bg rfl rfl rfl rfl rfl (hsl _ _ rfl) rfl rfl rfl hK)) ao)) (ap (λ _=>.p (eL ae p_1)) rfl rfl rfl (dV rfl (λ _=>rfl)) (lt1 rfl) (ar rfl (ag [(1,_)] ⟨.inl rfl,trivial⟩ (λ sl hsl K hK=>af rfl (aI rfl rfl rfl (hsl _ _ rfl) hK)) ao)) ?_)
   refine ap (λ _=>.rptr (aa.cs (lat p_1 0))) rfl rfl rfl (dV rfl (λ _=>rfl)) (lt1 rfl) (ar rfl (ag [(39,_)] ⟨.inr ⟨1,_,rfl,rfl,rfl⟩,trivial⟩ (λ sl hsl K hK=>af rfl (dQ (f:=ae) (l:=p_1) aa.cs rfl rfl rfl rfl rfl rfl (hsl _ _ rfl) rfl rfl hk12 aa.cells_eq (λ _=>rfl) hK)) ao)) (ap (λ _=>.rptr (List.drop 2 (aa.cs (lat p_1 0)))) rfl rfl rfl (dV rfl (λ _=>rfl)) (lt1 rfl) (ar rfl (ag [(40,_)] ⟨.inr ⟨2,_,rfl,rfl,rfl⟩,trivial⟩ (λ sl hsl K hK=>af rfl (mg rfl rfl rfl rfl rfl rfl rfl rfl (hsl _ _ rfl) hK)) ao)) ?_)
   refine ap (λ _=>.p (eS ((lat p_1 0).fName))) rfl rfl rfl (dV rfl (λ _=>rfl)) (lt1 rfl) (ar rfl (ag [(41,_)] ⟨.inr ⟨3,_,rfl,rfl,rfl⟩,trivial⟩ (λ sl hsl K hK=>af rfl (lL rfl rfl rfl rfl rfl (hsl _ _ rfl) rfl hK)) ao)) (ap (λ _=>.p (.agg (ab.cs x_2))) rfl rfl rfl (dV rfl (λ _=>rfl)) (lt1 rfl) (ar rfl (ag [(5,_)] ⟨.inl rfl,trivial⟩ (λ sl hsl K hK=>af rfl (bg rfl rfl rfl rfl rfl (hsl _ _ rfl) rfl rfl rfl hK)) ao)) ?_)
   refine ap (λ _=>.p (.agg (ab.cs r13))) rfl rfl rfl (dV rfl (λ _=>rfl)) (lt1 rfl) (ar rfl (ag [(38,_),(42,_),(43,_)] ⟨.inr ⟨0,_,rfl,rfl,rfl⟩,.inr ⟨4,_,rfl,rfl,rfl⟩,.inr ⟨5,_,rfl,rfl,rfl⟩,trivial⟩ (λ sl hsl K hK=>af rfl (aF (rS _ v_0 ((lat p_1 0).fName) x_2 _ e14) rfl rfl rfl (aj (hsl _ _ rfl) (aj (hsl _ _ rfl) (aj (hsl _ _ rfl) aE))) ⟨sr,sr,sr,trivial⟩ Tryz.call74 rfl hK)) ao)) (gQ [(6,_),(44,_)] rfl ⟨.inl rfl,.inr ⟨6,_,rfl,rfl,rfl⟩,trivial⟩ rfl (λ sl hsl K hK=>af rfl (fW rfl rfl rfl (hsl _ _ rfl) (hsl _ _ rfl) rfl rfl rfl (Nat.le_of_ble_eq_true rfl) hK)) ?_)
   refine ap (λ _=>.p (eI 0)) rfl rfl rfl (dV rfl (λ _=>rfl)) (lt1 rfl) (ag [] trivial (λ sl hsl K hK=>af rfl (bw rfl rfl rfl rfl hK)) (ar rfl ao)) (hC ?_)
   exact nx 2 rfl (mQ (oi h0) rfl (am ⟨sr,sr,trivial⟩))
  refine nx 8 rfl (fN [46] h0 rfl (λ c15 h0=>?_) λ c15 h0=>?_)
  ·refine nx 3 rfl (cc' h0 λ hk16 h0=>?_)
   refine cc' h0 λ hk17 h0=>bd h0 λ r18 e19 h0=>mG (gE (t:=⟨[(1,.p (eL ae p_1)),(3,.ptr 3 0),(5,.ptr 5 0),(6,.ptr 6 0),(8,.p (eI r5.1))],[(3,(ab.cs v_0).map .p),(5,(ab.cs x_2).map .p),(6,[.p (eI 0),.p (eI 0),.p (eS ([]:Bytes)),.p (.val (.slice none 0 0)),.p (.val (.slice none 0 0))])]⟩) rfl rfl) (mS ⟨2,[12,13],(by3 (.some λ i=>Nat.beq i 10) .none .none),(λ _=>[(1,.p (eL ae p_1)),(3,.ptr 3 0),(5,.ptr 5 0),(6,.ptr 6 0),(8,.p (eI r5.1))]),(by3 ([(3,[.p (eI v_0.fKind),.p (eI v_0.fNum),.p (eS v_0.fStr),.p (eL ah v_0.fItems),.p (eL eS v_0.fKeys)]),(5,[.p (eI x_2.fKind),.p (eI x_2.fNum),.p (eS x_2.fStr),.p (eL ah x_2.fItems),.p (eL eS x_2.fKeys)]),(6,[.p (eI 0),.p (eI 0),.p (eS ([]:Bytes)),.p (.val (.slice none 0 0)),.p (.val (.slice none 0 0))])]) ([(10,[.p (eI 0),.p (eI 0),.p (eS ([]:Bytes)),.p (.val (.slice none 0 0)),.p (.val (.slice none 0 0))]),(3,[.p (eI v_0.fKind),.p (eI v_0.fNum),.p (eS v_0.fStr),.p (eL ah v_0.fItems),.p (eL eS v_0.fKeys)]),(5,[.p (eI x_2.fKind),.p (eI x_2.fNum),.p (eS x_2.fStr),.p (eL ah x_2.fItems),.p (eL eS x_2.fKeys)]),(6,[.p (eI 0),.p (eI 0),.p (eS ([]:Bytes)),.p (.val (.slice none 0 0)),.p (.val (.slice none 0 0))])]) ([(10,[.p (eI r18.1.fKind),.p (eI r18.1.fNum),.p (eS r18.1.fStr),.p (eL ah r18.1.fItems),.p (eL eS r18.1.fKeys)]),(10,[.p (eI 0),.p (eI 0),.p (eS ([]:Bytes)),.p (.val (.slice none 0 0)),.p (.val (.slice none 0 0))]),(3,[.p (eI v_0.fKind),.p (eI v_0.fNum),.p (eS v_0.fStr),.p (eL ah v_0.fItems),.p (eL eS v_0.fKeys)]),(5,[.p (eI x_2.fKind),.p (eI x_2.fNum),.p (eS x_2.fStr),.p (eL ah x_2.fItems),.p (eL eS x_2.fKeys)]),(6,[.p (eI 0),.p (eI 0),.p (eS ([]:Bytes)),.p (.val (.slice none 0 0)),.p (.val (.slice none 0 0))])]))⟩ rfl rfl rfl ⟨rfl,rfl,rfl,rfl,rfl,trivial⟩ (lt2 ⟨rfl,rfl,rfl,rfl,rfl,trivial⟩ ⟨rfl,rfl,rfl,rfl,rfl,trivial⟩) rfl rfl rfl rfl ?_)
   refine ap (λ _=>.ptr 3 3) rfl rfl rfl (bc rfl rfl (λ _=>rfl)) (lt2 rfl rfl) (ar rfl (ag [(3,_)] ⟨.inl rfl,trivial⟩ (λ sl hsl K hK=>af rfl (bs rfl rfl rfl rfl rfl rfl rfl rfl (hsl _ _ rfl) hK)) (ag [(3,_)] ⟨.inl rfl,trivial⟩ (λ sl hsl K hK=>af rfl (bs rfl rfl rfl rfl rfl rfl rfl rfl (hsl _ _ rfl) hK)) ao))) (ap (λ _=>.p (eL ah v_0.fItems)) rfl rfl rfl (bc rfl rfl (λ _=>rfl)) (lt2 rfl rfl) (ar rfl (ag [(50,_)] ⟨.inr ⟨0,_,rfl,rfl,rfl⟩,trivial⟩ (λ sl hsl K hK=>af rfl (cD rfl rfl rfl rfl rfl (hsl _ _ rfl) rfl rfl hK)) (ag [(50,_)] ⟨.inr ⟨0,_,rfl,rfl,rfl⟩,trivial⟩ (λ sl hsl K hK=>af rfl (cD rfl rfl rfl rfl rfl (hsl _ _ rfl) rfl rfl hK)) ao))) ?_)
   refine ap (λ _=>.p (eI r5.1)) rfl rfl rfl (bc rfl rfl (λ _=>rfl)) (lt2 rfl rfl) (ar rfl (ag [(8,_)] ⟨.inl rfl,trivial⟩ (λ sl hsl K hK=>af rfl (aI rfl rfl rfl (hsl _ _ rfl) hK)) (ag [(8,_)] ⟨.inl rfl,trivial⟩ (λ sl hsl K hK=>af rfl (aI rfl rfl rfl (hsl _ _ rfl) hK)) ao))) (ap (λ _=>.rptr (ab.cs (lat v_0.fItems r5.1))) rfl rfl rfl (bc rfl rfl (λ _=>rfl)) (lt2 rfl rfl) (ar rfl (ag [(51,_),(52,_)] ⟨.inr ⟨1,_,rfl,rfl,rfl⟩,.inr ⟨2,_,rfl,rfl,rfl⟩,trivial⟩ (λ sl hsl K hK=>af rfl (dQ (f:=ah) (l:=v_0.fItems) ab.cs rfl rfl rfl rfl rfl rfl (hsl _ _ rfl) rfl (hsl _ _ rfl) hk16 ab.cells_eq (λ _=>rfl) hK)) (ag [(51,_),(52,_)] ⟨.inr ⟨1,_,rfl,rfl,rfl⟩,.inr ⟨2,_,rfl,rfl,rfl⟩,trivial⟩ (λ sl hsl K hK=>af rfl (dQ (f:=ah) (l:=v_0.fItems) ab.cs rfl rfl rfl rfl rfl rfl (hsl _ _ rfl) rfl (hsl _ _ rfl) hk16 ab.cells_eq (λ _=>rfl) hK)) ao))) ?_)
   refine ap (λ _=>.p (.agg (ab.cs (lat v_0.fItems r5.1)))) rfl rfl rfl (bc rfl rfl (λ _=>rfl)) (lt2 rfl rfl) (ar rfl (ag [(53,_)] ⟨.inr ⟨3,_,rfl,rfl,rfl⟩,trivial⟩ (λ sl hsl K hK=>af rfl (dZ rfl rfl rfl rfl rfl (hsl _ _ rfl) rfl hK)) (ag [(53,_)] ⟨.inr ⟨3,_,rfl,rfl,rfl⟩,trivial⟩ (λ sl hsl K hK=>af rfl (dZ rfl rfl rfl rfl rfl (hsl _ _ rfl) rfl hK)) ao))) (ap (λ _=>.p (eL ae p_1)) rfl rfl rfl (bc rfl rfl (λ _=>rfl)) (lt2 rfl rfl) (ar rfl (ag [(1,_)] ⟨.inl rfl,trivial⟩ (λ sl hsl K hK=>af rfl (aI rfl rfl rfl (hsl _ _ rfl) hK)) (ag [(1,_)] ⟨.inl rfl,trivial⟩ (λ sl hsl K hK=>af rfl (aI rfl rfl rfl (hsl _ _ rfl) hK)) ao))) ?_)
   refine ap (λ _=>.p (eL ae (sub p_1 1 (p_1.length:Int)))) rfl rfl rfl (bc rfl rfl (λ _=>rfl)) (lt2 rfl rfl) (ar rfl (ag [(55,_)] ⟨.inr ⟨5,_,rfl,rfl,rfl⟩,trivial⟩ (λ sl hsl K hK=>af rfl (lR (f:=ae) (l:=p_1) rfl rfl rfl rfl rfl rfl (hsl _ _ rfl) rfl rfl rfl hk17 (λ x=>congrArg List.length (aa.cells_eq x)) hK)) (ag [(55,_)] ⟨.inr ⟨5,_,rfl,rfl,rfl⟩,trivial⟩ (λ sl hsl K hK=>af rfl (lR (f:=ae) (l:=p_1) rfl rfl rfl rfl rfl rfl (hsl _ _ rfl) rfl rfl rfl hk17 (λ x=>congrArg List.length (aa.cells_eq x)) hK)) ao))) (ap (λ _=>.p (.agg (ab.cs x_2))) rfl rfl rfl (bc rfl rfl (λ _=>rfl)) (lt2 rfl rfl) (ar rfl (ag [(5,_)] ⟨.inl rfl,trivial⟩ (λ sl hsl K hK=>af rfl (bg rfl rfl rfl rfl rfl (hsl _ _ rfl) rfl rfl rfl hK)) (ag [(5,_)] ⟨.inl rfl,trivial⟩ (λ sl hsl K hK=>af rfl (bg rfl rfl rfl rfl rfl (hsl _ _ rfl) rfl rfl rfl hK)) ao))) ?_)
   refine ap (λ _=>.tuple [.p (.agg (ab.cs r18.1)),.p (eI r18.2)]) rfl rfl rfl (bc rfl rfl (λ _=>rfl)) (lt2 rfl rfl) (ar rfl (ag [(54,_),(56,_),(57,_)] ⟨.inr ⟨4,_,rfl,rfl,rfl⟩,.inr ⟨6,_,rfl,rfl,rfl⟩,.inr ⟨7,_,rfl,rfl,rfl⟩,trivial⟩ (λ sl hsl K hK=>af rfl (aF (ih_path_set_ok (lat v_0.fItems r5.1) (sub p_1 1 (p_1.length:Int)) x_2 _ e19) rfl rfl rfl (aj (hsl _ _ rfl) (aj (hsl _ _ rfl) (aj (hsl _ _ rfl) aE))) ⟨sr,sr,sr,trivial⟩ Tryz.call45 rfl hK)) (ag [(54,_),(56,_),(57,_)] ⟨.inr ⟨4,_,rfl,rfl,rfl⟩,.inr ⟨6,_,rfl,rfl,rfl⟩,.inr ⟨7,_,rfl,rfl,rfl⟩,trivial⟩ (λ sl hsl K hK=>af rfl (aF (ih_path_set_ok (lat v_0.fItems r5.1) (sub p_1 1 (p_1.length:Int)) x_2 _ e19) rfl rfl rfl (aj (hsl _ _ rfl) (aj (hsl _ _ rfl) (aj (hsl _ _ rfl) aE))) ⟨sr,sr,sr,trivial⟩ Tryz.call45 rfl hK)) ao))) (ap (λ _=>.tuple [.p (.agg (ab.cs r18.1)),.p (eI r18.2)]) rfl rfl rfl (bc rfl rfl (λ _=>rfl)) (lt2 rfl rfl) (ar rfl (ag [(58,_)] ⟨.inr ⟨8,_,rfl,rfl,rfl⟩,trivial⟩ (λ sl hsl K hK=>af rfl (aI rfl rfl rfl (hsl _ _ rfl) hK)) (ag [(58,_)] ⟨.inr ⟨8,_,rfl,rfl,rfl⟩,trivial⟩ (λ sl hsl K hK=>af rfl (aI rfl rfl rfl (hsl _ _ rfl) hK)) ao))) ?_)
   refine ap (λ _=>.p (.agg (ab.cs r18.1))) rfl rfl rfl (bc rfl rfl (λ _=>rfl)) (lt2 rfl rfl) (ar rfl (ag [(49,_)] ⟨.inr ⟨9,_,rfl,rfl,rfl⟩,trivial⟩ (λ sl hsl K hK=>af rfl (aW rfl rfl rfl (hsl _ _ rfl) rfl hK)) (ag [(49,_)] ⟨.inr ⟨9,_,rfl,rfl,rfl⟩,trivial⟩ (λ sl hsl K hK=>af rfl (aW rfl rfl rfl (hsl _ _ rfl) rfl hK)) ao))) (ap (λ _=>.p (eI r18.2)) rfl rfl rfl (bc rfl rfl (λ _=>rfl)) (lt2 rfl rfl) (ag [(49,_)] ⟨.inr ⟨9,_,rfl,rfl,rfl⟩,trivial⟩ (λ sl hsl K hK=>af rfl (aW rfl rfl rfl (hsl _ _ rfl) rfl hK)) (ag [(49,_)] ⟨.inr ⟨9,_,rfl,rfl,rfl⟩,trivial⟩ (λ sl hsl K hK=>af rfl (aW rfl rfl rfl (hsl _ _ rfl) rfl hK)) (ag [(49,_)] ⟨.inr ⟨9,_,rfl,rfl,rfl⟩,trivial⟩ (λ sl hsl K hK=>af rfl (aW rfl rfl rfl (hsl _ _ rfl) rfl hK)) ao))) ?_)
   refine fv (λ _=>.ptr 10 0) [] rfl trivial rfl rfl (dV rfl (λ _=>rfl)) (lt2 (λ h=>absurd h (by decide)) (λ _=>rfl)) (λ sl hsl K hK=>af rfl (jq rfl rfl rfl rfl rfl hK)) (gQ [(10,_),(59,_)] rfl ⟨.inr ⟨12,_,rfl,rfl,rfl⟩,.inr ⟨10,_,rfl,rfl,rfl⟩,trivial⟩ rfl (λ sl hsl K hK=>af rfl (fW rfl rfl rfl (hsl _ _ rfl) (hsl _ _ rfl) rfl rfl rfl (Nat.le_of_ble_eq_true rfl) hK)) ?_)
   refine ap (λ _=>.p (eI r18.2)) rfl rfl rfl (bc rfl rfl (λ _=>rfl)) (lt2 rfl rfl) (ag [(60,_)] ⟨.inr ⟨11,_,rfl,rfl,rfl⟩,trivial⟩ (λ sl hsl K hK=>af rfl (bw rfl rfl rfl (hsl _ _ rfl) hK)) (ar rfl (ar rfl ao))) (hC ?_)
   refine nx 7 rfl (fN [62] h0 rfl (λ c20 h0=>?_) λ c20 h0=>?_)
   ·refine nx 8 rfl (oE h0 ab.cells_eq rfl rfl (λ _=>rfl) λ hk21 h0=>?_)
    cases h0
   exact nx 9 rfl (mQ (oi h0) rfl (am ⟨iq ⟨.inl rfl,.inl rfl,.inl rfl,.inr ⟨rfl,rfl⟩,.inr ⟨rfl,rfl⟩,trivial⟩,sr,trivial⟩))
  exact nx 9 rfl (mQ (oi h0) rfl (am ⟨iq ⟨.inl rfl,.inl rfl,.inl rfl,.inr ⟨rfl,rfl⟩,.inr ⟨rfl,rfl⟩,trivial⟩,sr,trivial⟩))
 refine nx 4 rfl (fD [25,26] h1 rfl (λ c7 h1=>?_) λ c7 h1=>?_)
 ·refine nx 1 rfl (oLl (f:=ae) rfl rfl ?_)
  refine nx 3 rfl (fD [29,30,31] h1 rfl (λ c8 h1=>?_) λ c8 h1=>?_)
  ·refine nx 1 rfl (oE h1 aa.cells_eq rfl rfl (λ _=>rfl) λ hk9 h1=>?_)
   exact nx 5 rfl (eX _ (oi h1).symm (gE rfl rfl))
  exact nx 7 rfl (eX _ (oi h1).symm (gE rfl rfl))
 exact nx 12 rfl (eX _ (oi h1).symm (gE rfl rfl))
def j4 (n:Nat)(v_0:ab)(p_1:List aa)(x_2:ab):Option (ab×Int) :=
 (bz n v_0).bind λ r1 =>
 (gY n r1 p_1 x_2).bind λ r3 =>
 (
   if r3.2=0 then
    (gz n r3.1).bind λ r6 =>
    some r6
   else
    some r3.2
  : Option Int).bind λ e8 =>
 if e8=0 then
  some (r3.1,0)
 else
  some ((ab.mk 0 0 ([]:Bytes) [] []),e8)
theorem oy (n:Nat)(v_0:ab)(p_1:List aa)(x_2:ab)(r:ab×Int)(h0:j4 n v_0 p_1 x_2=some r):au Tryz.prog 20 [.agg (ab.cs v_0),eL ae p_1,.agg (ab.cs x_2)] (·=.tuple [.p (.agg (ab.cs r.1)),.p (eI r.2)]):=by
 unfold j4 at h0
 refine aH good Tryz.func20 rfl rfl rfl λ w0=>mP (λ v:ab×Int=>.tuple [.p (.agg (ab.cs v.1)),.p (eI v.2)]) ?_
 refine nx 8 rfl (bd h0 λ r1 e2 h0=>?_)
 refine bd h0 λ r3 e4 h0=>mG (gE (t:=⟨[(1,.p (eL ae p_1)),(3,.ptr 3 0),(5,.ptr 5 0),(6,.ptr 6 0)],[(3,(ab.cs v_0).map .p),(5,(ab.cs x_2).map .p),(6,[.p (eI 0),.p (eI 0),.p (eS ([]:Bytes)),.p (.val (.slice none 0 0)),.p (.val (.slice none 0 0))])]⟩) rfl rfl) (mS ⟨2,[8,9],(by3 (.some λ i=>Nat.beq i 8) .none .none),(λ _=>[(1,.p (eL ae p_1)),(3,.ptr 3 0),(5,.ptr 5 0),(6,.ptr 6 0)]),(by3 ([(3,[.p (eI v_0.fKind),.p (eI v_0.fNum),.p (eS v_0.fStr),.p (eL ah v_0.fItems),.p (eL eS v_0.fKeys)]),(5,[.p (eI x_2.fKind),.p (eI x_2.fNum),.p (eS x_2.fStr),.p (eL ah x_2.fItems),.p (eL eS x_2.fKeys)]),(6,[.p (eI 0),.p (eI 0),.p (eS ([]:Bytes)),.p (.val (.slice none 0 0)),.p (.val (.slice none 0 0))])]) ([(8,[.p (eI 0),.p (eI 0),.p (eS ([]:Bytes)),.p (.val (.slice none 0 0)),.p (.val (.slice none 0 0))]),(3,[.p (eI v_0.fKind),.p (eI v_0.fNum),.p (eS v_0.fStr),.p (eL ah v_0.fItems),.p (eL eS v_0.fKeys)]),(5,[.p (eI x_2.fKind),.p (eI x_2.fNum),.p (eS x_2.fStr),.p (eL ah x_2.fItems),.p (eL eS x_2.fKeys)]),(6,[.p (eI 0),.p (eI 0),.p (eS ([]:Bytes)),.p (.val (.slice none 0 0)),.p (.val (.slice none 0 0))])]) ([(8,[.p (eI r3.1.fKind),.p (eI r3.1.fNum),.p (eS r3.1.fStr),.p (eL ah r3.1.fItems),.p (eL eS r3.1.fKeys)]),(8,[.p (eI 0),.p (eI 0),.p (eS ([]:Bytes)),.p (.val (.slice none 0 0)),.p (.val (.slice none 0 0))]),(3,[.p (eI v_0.fKind),.p (eI v_0.fNum),.p (eS v_0.fStr),.p (eL ah v_0.fItems),.p (eL eS v_0.fKeys)]),(5,[.p (eI x_2.fKind),.p (eI x_2.fNum),.p (eS x_2.fStr),.p (eL ah x_2.fItems),.p (eL eS x_2.fKeys)]),(6,[.p (eI 0),.p (eI 0),.p (eS ([]:Bytes)),.p (.val (.slice none 0 0)),.p (.val (.slice none 0 0))])]))⟩ rfl rfl rfl ⟨rfl,rfl,rfl,rfl,trivial⟩ (lt2 ⟨rfl,rfl,rfl,rfl,trivial⟩ ⟨rfl,rfl,rfl,rfl,trivial⟩) rfl rfl rfl rfl ?_)
 refine ap (λ _=>.p (.agg (ab.cs v_0))) rfl rfl rfl (bc rfl rfl (λ _=>rfl)) (lt2 rfl rfl) (ar rfl (ag [(3,_)] ⟨.inl rfl,trivial⟩ (λ sl hsl K hK=>af rfl (bg rfl rfl rfl rfl rfl (hsl _ _ rfl) rfl rfl rfl hK)) (ag [(3,_)] ⟨.inl rfl,trivial⟩ (λ sl hsl K hK=>af rfl (bg rfl rfl rfl rfl rfl (hsl _ _ rfl) rfl rfl rfl hK)) ao))) (ap (λ _=>.p (.agg (ab.cs r1))) rfl rfl rfl (bc rfl rfl (λ _=>rfl)) (lt2 rfl rfl) (ar rfl (ag [(11,_)] ⟨.inr ⟨0,_,rfl,rfl,rfl⟩,trivial⟩ (λ sl hsl K hK=>af rfl (aF (g6 _ v_0 _ e2) rfl rfl rfl (aj (hsl _ _ rfl) aE) ⟨sr,trivial⟩ Tryz.call43 rfl hK)) (ag [(11,_)] ⟨.inr ⟨0,_,rfl,rfl,rfl⟩,trivial⟩ (λ sl hsl K hK=>af rfl (aF (g6 _ v_0 _ e2) rfl rfl rfl (aj (hsl _ _ rfl) aE) ⟨sr,trivial⟩ Tryz.call43 rfl hK)) ao))) ?_)
 refine ap (λ _=>.p (eL ae p_1)) rfl rfl rfl (bc rfl rfl (λ _=>rfl)) (lt2 rfl rfl) (ar rfl (ag [(1,_)] ⟨.inl rfl,trivial⟩ (λ sl hsl K hK=>af rfl (aI rfl rfl rfl (hsl _ _ rfl) hK)) (ag [(1,_)] ⟨.inl rfl,trivial⟩ (λ sl hsl K hK=>af rfl (aI rfl rfl rfl (hsl _ _ rfl) hK)) ao))) (ap (λ _=>.p (.agg (ab.cs x_2))) rfl rfl rfl (bc rfl rfl (λ _=>rfl)) (lt2 rfl rfl) (ar rfl (ag [(5,_)] ⟨.inl rfl,trivial⟩ (λ sl hsl K hK=>af rfl (bg rfl rfl rfl rfl rfl (hsl _ _ rfl) rfl rfl rfl hK)) (ag [(5,_)] ⟨.inl rfl,trivial⟩ (λ sl hsl K hK=>af rfl (bg rfl rfl rfl rfl rfl (hsl _ _ rfl) rfl rfl rfl hK)) ao))) ?_)
 refine ap (λ _=>.tuple [.p (.agg (ab.cs r3.1)),.p (eI r3.2)]) rfl rfl rfl (bc rfl rfl (λ _=>rfl)) (lt2 rfl rfl) (ar rfl (ag [(12,_),(13,_),(14,_)] ⟨.inr ⟨1,_,rfl,rfl,rfl⟩,.inr ⟨2,_,rfl,rfl,rfl⟩,.inr ⟨3,_,rfl,rfl,rfl⟩,trivial⟩ (λ sl hsl K hK=>af rfl (aF (oz _ r1 p_1 x_2 _ e4) rfl rfl rfl (aj (hsl _ _ rfl) (aj (hsl _ _ rfl) (aj (hsl _ _ rfl) aE))) ⟨sr,sr,sr,trivial⟩ Tryz.call45 rfl hK)) (ag [(12,_),(13,_),(14,_)] ⟨.inr ⟨1,_,rfl,rfl,rfl⟩,.inr ⟨2,_,rfl,rfl,rfl⟩,.inr ⟨3,_,rfl,rfl,rfl⟩,trivial⟩ (λ sl hsl K hK=>af rfl (aF (oz _ r1 p_1 x_2 _ e4) rfl rfl rfl (aj (hsl _ _ rfl) (aj (hsl _ _ rfl) (aj (hsl _ _ rfl) aE))) ⟨sr,sr,sr,trivial⟩ Tryz.call45 rfl hK)) ao))) (ap (λ _=>.tuple [.p (.agg (ab.cs r3.1)),.p (eI r3.2)]) rfl rfl rfl (bc rfl rfl (λ _=>rfl)) (lt2 rfl rfl) (ar rfl (ag [(15,_)] ⟨.inr ⟨4,_,rfl,rfl,rfl⟩,trivial⟩ (λ sl hsl K hK=>af rfl (aI rfl rfl rfl (hsl _ _ rfl) hK)) (ag [(15,_)] ⟨.inr ⟨4,_,rfl,rfl,rfl⟩,trivial⟩ (λ sl hsl K hK=>af rfl (aI rfl rfl rfl (hsl _ _ rfl) hK)) ao))) ?_)
 refine ap (λ _=>.p (.agg (ab.cs r3.1))) rfl rfl rfl (bc rfl rfl (λ _=>rfl)) (lt2 rfl rfl) (ar rfl (ag [(10,_)] ⟨.inr ⟨5,_,rfl,rfl,rfl⟩,trivial⟩ (λ sl hsl K hK=>af rfl (aW rfl rfl rfl (hsl _ _ rfl) rfl hK)) (ag [(10,_)] ⟨.inr ⟨5,_,rfl,rfl,rfl⟩,trivial⟩ (λ sl hsl K hK=>af rfl (aW rfl rfl rfl (hsl _ _ rfl) rfl hK)) ao))) (ap (λ _=>.p (eI r3.2)) rfl rfl rfl (bc rfl rfl (λ _=>rfl)) (lt2 rfl rfl) (ag [(10,_)] ⟨.inr ⟨5,_,rfl,rfl,rfl⟩,trivial⟩ (λ sl hsl K hK=>af rfl (aW rfl rfl rfl (hsl _ _ rfl) rfl hK)) (ag [(10,_)] ⟨.inr ⟨5,_,rfl,rfl,rfl⟩,trivial⟩ (λ sl hsl K hK=>af rfl (aW rfl rfl rfl (hsl _ _ rfl) rfl hK)) (ag [(10,_)] ⟨.inr ⟨5,_,rfl,rfl,rfl⟩,trivial⟩ (λ sl hsl K hK=>af rfl (aW rfl rfl rfl (hsl _ _ rfl) rfl hK)) ao))) ?_)
 refine fv (λ _=>.ptr 8 0) [] rfl trivial rfl rfl (dV rfl (λ _=>rfl)) (lt2 (λ h=>absurd h (by decide)) (λ _=>rfl)) (λ sl hsl K hK=>af rfl (jq rfl rfl rfl rfl rfl hK)) (gQ [(8,_),(16,_)] rfl ⟨.inr ⟨8,_,rfl,rfl,rfl⟩,.inr ⟨6,_,rfl,rfl,rfl⟩,trivial⟩ rfl (λ sl hsl K hK=>af rfl (fW rfl rfl rfl (hsl _ _ rfl) (hsl _ _ rfl) rfl rfl rfl (Nat.le_of_ble_eq_true rfl) hK)) ?_)
 refine ap (λ _=>.p (eI r3.2)) rfl rfl rfl (bc rfl rfl (λ _=>rfl)) (lt2 rfl rfl) (ag [(17,_)] ⟨.inr ⟨7,_,rfl,rfl,rfl⟩,trivial⟩ (λ sl hsl K hK=>af rfl (bw rfl rfl rfl (hsl _ _ rfl) hK)) (ar rfl (ar rfl ao))) (hC ?_)
 refine nx 2 rfl (bd h0 λ o11 h1 h0=>?_)
 refine kN o11 (λ v12=>⟨[(6,.ptr 6 0),(8,.ptr 8 0),(9,.p (eI v12))],[(6,[.p (eI 0),.p (eI 0),.p (eS ([]:Bytes)),.p (.val (.slice none 0 0)),.p (.val (.slice none 0 0))]),(8,(ab.cs r3.1).map .p)]⟩) ?_ ?_
 ·refine nx 7 rfl (fN [23] h0 rfl (λ c9 h0=>?_) λ c9 h0=>?_)
  ·exact nx 9 rfl (mQ (oi h0) rfl (am ⟨sr,sr,trivial⟩))
  exact nx 9 rfl (mQ (oi h0) rfl (am ⟨iq ⟨.inl rfl,.inl rfl,.inl rfl,.inr ⟨rfl,rfl⟩,.inr ⟨rfl,rfl⟩,trivial⟩,sr,trivial⟩))
 refine nx 5 rfl (fD [19] h1 rfl (λ c5 h1=>?_) λ c5 h1=>?_)
 ·refine nx 3 rfl (bd h1 λ r6 e7 h1=>?_)
  refine oK (pF _ r3.1 _ e7) rfl ⟨sr,trivial⟩ Tryz.call46 rfl (nx 2 rfl ?_)
  exact eX _ (oi h1).symm (gE rfl rfl)
 exact nx 2 rfl (eX _ (oi h1).symm (gE rfl rfl))
def gS (n_0:Int):Option ab :=
 some (ab.mk 2 n_0 ([]:Bytes) [] [])
theorem gf (n_0:Int)(r:ab)(h0:gS n_0=some r):au Tryz.prog 35 [eI n_0] (·=.p (.agg (ab.cs r))):=by
 unfold gS at h0
 refine aH good Tryz.func35 rfl rfl rfl λ w0=>mP (λ v:ab=>.p (.agg (ab.cs v))) ?_
 exact nx 11 rfl (mQ (oi h0) rfl (iq ⟨.inl rfl,.inl rfl,.inl rfl,.inr ⟨rfl,rfl⟩,.inr ⟨rfl,rfl⟩,trivial⟩))
def gu (s_0:Bytes):Option aa :=
 some (aa.mk false 0 s_0)
theorem dv (s_0:Bytes)(r:aa)(h0:gu s_0=some r):au Tryz.prog 36 [eS s_0] (·=.p (.agg (aa.cs r))):=by
 unfold gu at h0
 refine aH good Tryz.func36 rfl rfl rfl λ w0=>mP (λ v:aa=>.p (.agg (aa.cs v))) ?_
 exact nx 11 rfl (mQ (oi h0) rfl (sr))
def jL (n_0:Int):Option aa :=
 some (aa.mk true n_0 ([]:Bytes))
theorem jH (n_0:Int)(r:aa)(h0:jL n_0=some r):au Tryz.prog 37 [eI n_0] (·=.p (.agg (aa.cs r))):=by
 unfold jL at h0
 refine aH good Tryz.func37 rfl rfl rfl λ w0=>mP (λ v:aa=>.p (.agg (aa.cs v))) ?_
 exact nx 11 rfl (mQ (oi h0) rfl (sr))
def bK (n:Nat):Option Bool :=
 (gS 1).bind λ r1 =>
 (gS 2).bind λ r3 =>
 (gu ([97]:Bytes)).bind λ r5 =>
 (jL 1).bind λ r7 =>
 (fU n (ab.mk 5 0 ([]:Bytes) ([(ab.mk 4 0 ([]:Bytes) [r1,r3] [])]) ([([97]:Bytes)])) [r5,r7]).bind λ r9 =>
 (gu ([97]:Bytes)).bind λ r11 =>
 (gu ([98]:Bytes)).bind λ r13 =>
 (fU n (ab.mk 5 0 ([]:Bytes) ([(ab.mk 4 0 ([]:Bytes) [r1,r3] [])]) ([([97]:Bytes)])) [r11,r13]).bind λ r15 =>
 (gu ([98]:Bytes)).bind λ r17 =>
 (gS 2).bind λ r19 =>
 (j4 n (ab.mk 5 0 ([]:Bytes) ([(ab.mk 4 0 ([]:Bytes) [r1,r3] [])]) ([([97]:Bytes)])) [r17] r19).bind λ r21 =>
 (d9 n ([91,34,97,34,93]:Bytes)).bind λ r23 =>
 (
   if r9.2=0 then
    if r9.1.fNum=2 then
     if r15.2=6 then
      if r21.2=0 then
       if (r21.1.fKeys.length:Int)=2 then
        if r23.2=2 then
         (gu ([97]:Bytes)).bind λ r31 =>
         (jL 0).bind λ r33 =>
         (gu ([98,32,99]:Bytes)).bind λ r35 =>
         (dk n [r31,r33,r35]).bind λ r37 =>
         some (decide (r37=([97,91,48,93,91,34,98,32,99,34,93]:Bytes)))
        else
         some false
       else
        some false
      else
       some false
     else
      some false
    else
     some false
   else
    some false
  : Option Bool).bind λ t39 =>
 some t39
theorem bZ (n:Nat)(r:Bool)(h0:bK n=some r):au Tryz.prog 11 [] (·=.p (eB r)):=by
 unfold bK at h0
 refine aH good Tryz.func11 rfl rfl rfl λ w0=>mP (λ v:Bool=>.p (eB v)) ?_
 refine nx 6 rfl (bd h0 λ r1 e2 h0=>?_)
 refine oK (gf 1 _ e2) rfl ⟨sr,trivial⟩ Tryz.call35 rfl (bd h0 λ r3 e4 h0=>?_)
 refine oK (gf 2 _ e4) rfl ⟨sr,trivial⟩ Tryz.call35 rfl (mO rfl (aV ah [r1,r3] rfl rfl rfl rfl rfl rfl rfl rfl rfl rfl rfl rfl rfl (by first | rfl | (simp only [List.map_cons,List.map_nil,ab.agg_eq]; done) | (simp only [List.map_cons,List.map_nil,ab.agg_eq]; rfl)) ?_))
 refine nx 6 rfl (mO rfl (aV eS [([97]:Bytes)] rfl rfl rfl rfl rfl rfl rfl rfl rfl rfl rfl rfl rfl rfl ?_))
 refine nx 1 rfl (mG (ii 16 (y:=.p (.agg (ab.cs (ab.mk 4 0 ([]:Bytes) [r1,r3] [])))) rfl (iq ⟨.inl rfl,.inl rfl,.inl rfl,.inl rfl,.inr ⟨rfl,rfl⟩,trivial⟩)) ?_)
 refine mO rfl (aV ah [(ab.mk 4 0 ([]:Bytes) [r1,r3] [])] rfl rfl rfl rfl rfl rfl rfl rfl rfl rfl rfl rfl rfl (by first | rfl | (simp only [List.map_cons,List.map_nil,ab.agg_eq]; done) | (simp only [List.map_cons,List.map_nil,ab.agg_eq]; rfl)) ?_)
 refine nx 5 rfl (bd h0 λ r5 e6 h0=>?_)
 refine bd h0 λ r7 e8 h0=>bd h0 λ r9 e10 h0=>mG (gE (t:=⟨[(2,.ptr 2 0)],[(2,[.p (eI 5),.p (eI 0),.p (eS ([]:Bytes)),.p (eL ah ([(ab.mk 4 0 ([]:Bytes) [r1,r3] [])])),.p (eL eS ([([97]:Bytes)]))])]⟩) rfl rfl) (mS ⟨2,[8,9],(by3 (.some λ i=>Nat.beq i 3) .none .none),(λ _=>[(2,.ptr 2 0)]),(by3 ([(2,[.p (eI 5),.p (eI 0),.p (eS ([]:Bytes)),.p (eL ah ([(ab.mk 4 0 ([]:Bytes) [r1,r3] [])])),.p (eL eS ([([97]:Bytes)]))])]) ([(3,[.p (eI 0),.p (eI 0),.p (eS ([]:Bytes)),.p (.val (.slice none 0 0)),.p (.val (.slice none 0 0))]),(2,[.p (eI 5),.p (eI 0),.p (eS ([]:Bytes)),.p (eL ah ([(ab.mk 4 0 ([]:Bytes) [r1,r3] [])])),.p (eL eS ([([97]:Bytes)]))])]) ([(3,[.p (eI r9.1.fKind),.p (eI r9.1.fNum),.p (eS r9.1.fStr),.p (eL ah r9.1.fItems),.p (eL eS r9.1.fKeys)]),(3,[.p (eI 0),.p (eI 0),.p (eS ([]:Bytes)),.p (.val (.slice none 0 0)),.p (.val (.slice none 0 0))]),(2,[.p (eI 5),.p (eI 0),.p (eS ([]:Bytes)),.p (eL ah ([(ab.mk 4 0 ([]:Bytes) [r1,r3] [])])),.p (eL eS ([([97]:Bytes)]))])]))⟩ rfl rfl rfl ⟨rfl,trivial⟩ (lt2 ⟨rfl,trivial⟩ ⟨rfl,trivial⟩) rfl rfl rfl rfl ?_)
 refine ap (λ _=>.p (.agg [eI 5,eI 0,eS ([]:Bytes),eL ah ([(ab.mk 4 0 ([]:Bytes) [r1,r3] [])]),eL eS ([([97]:Bytes)])])) rfl rfl rfl (bc rfl rfl (λ _=>rfl)) (lt2 rfl rfl) (ar rfl (ag [(2,_)] ⟨.inl rfl,trivial⟩ (λ sl hsl K hK=>af rfl (bg rfl rfl rfl rfl rfl (hsl _ _ rfl) rfl rfl rfl hK)) (ag [(2,_)] ⟨.inl rfl,trivial⟩ (λ sl hsl K hK=>af rfl (bg rfl rfl rfl rfl rfl (hsl _ _ rfl) rfl rfl rfl hK)) ao))) (ap (λ _=>.p (.agg (aa.cs r5))) rfl rfl rfl (bc rfl rfl (λ _=>rfl)) (lt2 rfl rfl) (ar rfl (ag [] trivial (λ sl hsl K hK=>af rfl (aF (dv ([97]:Bytes) _ e6) rfl rfl rfl (aj rfl aE) ⟨sr,trivial⟩ Tryz.call36 rfl hK)) (ag [] trivial (λ sl hsl K hK=>af rfl (aF (dv ([97]:Bytes) _ e6) rfl rfl rfl (aj rfl aE) ⟨sr,trivial⟩ Tryz.call36 rfl hK)) ao))) ?_)
 refine ap (λ _=>.p (.agg (aa.cs r7))) rfl rfl rfl (bc rfl rfl (λ _=>rfl)) (lt2 rfl rfl) (ar rfl (ag [] trivial (λ sl hsl K hK=>af rfl (aF (jH 1 _ e8) rfl rfl rfl (aj rfl aE) ⟨sr,trivial⟩ Tryz.call37 rfl hK)) (ag [] trivial (λ sl hsl K hK=>af rfl (aF (jH 1 _ e8) rfl rfl rfl (aj rfl aE) ⟨sr,trivial⟩ Tryz.call37 rfl hK)) ao))) (ap (λ _=>.p (eL ae [r5,r7])) rfl rfl rfl (bc rfl rfl (λ _=>rfl)) (lt2 rfl rfl) (ar rfl (ag [(21,_),(22,_)] ⟨.inr ⟨1,_,rfl,rfl,rfl⟩,.inr ⟨2,_,rfl,rfl,rfl⟩,trivial⟩ (λ sl hsl K hK=>af rfl (aV ae [r5,r7] rfl rfl rfl rfl rfl rfl (dO (hsl _ _ rfl) rfl (dO (hsl _ _ rfl) rfl gH)) rfl rfl rfl rfl rfl rfl (by first | rfl | (simp only [List.map_cons,List.map_nil,aa.agg_eq]; done) | (simp only [List.map_cons,List.map_nil,aa.agg_eq]; rfl)) hK)) (ag [(21,_),(22,_)] ⟨.inr ⟨1,_,rfl,rfl,rfl⟩,.inr ⟨2,_,rfl,rfl,rfl⟩,trivial⟩ (λ sl hsl K hK=>af rfl (aV ae [r5,r7] rfl rfl rfl rfl rfl rfl (dO (hsl _ _ rfl) rfl (dO (hsl _ _ rfl) rfl gH)) rfl rfl rfl rfl rfl rfl (by first | rfl | (simp only [List.map_cons,List.map_nil,aa.agg_eq]; done) | (simp only [List.map_cons,List.map_nil,aa.agg_eq]; rfl)) hK)) ao))) ?_)
 refine ap (λ _=>.tuple [.p (.agg (ab.cs r9.1)),.p (eI r9.2)]) rfl rfl rfl (bc rfl rfl (λ _=>rfl)) (lt2 rfl rfl) (ar rfl (ag [(20,_),(23,_)] ⟨.inr ⟨0,_,rfl,rfl,rfl⟩,.inr ⟨3,_,rfl,rfl,rfl⟩,trivial⟩ (λ sl hsl K hK=>af rfl (aF (gG _ (ab.mk 5 0 ([]:Bytes) ([(ab.mk 4 0 ([]:Bytes) [r1,r3] [])]) ([([97]:Bytes)])) [r5,r7] _ e10) rfl rfl rfl (aj (hsl _ _ rfl) (aj (hsl _ _ rfl) aE)) ⟨sr,sr,trivial⟩ Tryz.call18 rfl hK)) (ag [(20,_),(23,_)] ⟨.inr ⟨0,_,rfl,rfl,rfl⟩,.inr ⟨3,_,rfl,rfl,rfl⟩,trivial⟩ (λ sl hsl K hK=>af rfl (aF (gG _ (ab.mk 5 0 ([]:Bytes) ([(ab.mk 4 0 ([]:Bytes) [r1,r3] [])]) ([([97]:Bytes)])) [r5,r7] _ e10) rfl rfl rfl (aj (hsl _ _ rfl) (aj (hsl _ _ rfl) aE)) ⟨sr,sr,trivial⟩ Tryz.call18 rfl hK)) ao))) (ap (λ _=>.tuple [.p (.agg (ab.cs r9.1)),.p (eI r9.2)]) rfl rfl rfl (bc rfl rfl (λ _=>rfl)) (lt2 rfl rfl) (ar rfl (ag [(24,_)] ⟨.inr ⟨4,_,rfl,rfl,rfl⟩,trivial⟩ (λ sl hsl K hK=>af rfl (aI rfl rfl rfl (hsl _ _ rfl) hK)) (ag [(24,_)] ⟨.inr ⟨4,_,rfl,rfl,rfl⟩,trivial⟩ (λ sl hsl K hK=>af rfl (aI rfl rfl rfl (hsl _ _ rfl) hK)) ao))) ?_)
 refine ap (λ _=>.p (.agg (ab.cs r9.1))) rfl rfl rfl (bc rfl rfl (λ _=>rfl)) (lt2 rfl rfl) (ar rfl (ag [(19,_)] ⟨.inr ⟨5,_,rfl,rfl,rfl⟩,trivial⟩ (λ sl hsl K hK=>af rfl (aW rfl rfl rfl (hsl _ _ rfl) rfl hK)) (ag [(19,_)] ⟨.inr ⟨5,_,rfl,rfl,rfl⟩,trivial⟩ (λ sl hsl K hK=>af rfl (aW rfl rfl rfl (hsl _ _ rfl) rfl hK)) ao))) (ap (λ _=>.p (eI r9.2)) rfl rfl rfl (bc rfl rfl (λ _=>rfl)) (lt2 rfl rfl) (ag [(19,_)] ⟨.inr ⟨5,_,rfl,rfl,rfl⟩,trivial⟩ (λ sl hsl K hK=>af rfl (aW rfl rfl rfl (hsl _ _ rfl) rfl hK)) (ag [(19,_)] ⟨.inr ⟨5,_,rfl,rfl,rfl⟩,trivial⟩ (λ sl hsl K hK=>af rfl (aW rfl rfl rfl (hsl _ _ rfl) rfl hK)) (ag [(19,_)] ⟨.inr ⟨5,_,rfl,rfl,rfl⟩,trivial⟩ (λ sl hsl K hK=>af rfl (aW rfl rfl rfl (hsl _ _ rfl) rfl hK)) ao))) ?_)
 refine fv (λ _=>.ptr 3 0) [] rfl trivial rfl rfl (dV rfl (λ _=>rfl)) (lt2 (λ h=>absurd h (by decide)) (λ _=>rfl)) (λ sl hsl K hK=>af rfl (jq rfl rfl rfl rfl rfl hK)) (gQ [(3,_),(25,_)] rfl ⟨.inr ⟨8,_,rfl,rfl,rfl⟩,.inr ⟨6,_,rfl,rfl,rfl⟩,trivial⟩ rfl (λ sl hsl K hK=>af rfl (fW rfl rfl rfl (hsl _ _ rfl) (hsl _ _ rfl) rfl rfl rfl (Nat.le_of_ble_eq_true rfl) hK)) ?_)
 refine ap (λ _=>.p (eI r9.2)) rfl rfl rfl (bc rfl rfl (λ _=>rfl)) (lt2 rfl rfl) (ag [(26,_)] ⟨.inr ⟨7,_,rfl,rfl,rfl⟩,trivial⟩ (λ sl hsl K hK=>af rfl (bw rfl rfl rfl (hsl _ _ rfl) hK)) (ar rfl (ar rfl ao))) (hC ?_)
 refine nx 2 rfl (bd h0 λ r11 e12 h0=>?_)
 refine bd h0 λ r13 e14 h0=>bd h0 λ r15 e16 h0=>mG (gE (t:=⟨[(2,.ptr 2 0),(3,.ptr 3 0),(4,.p (eI r9.2))],[(2,[.p (eI 5),.p (eI 0),.p (eS ([]:Bytes)),.p (eL ah ([(ab.mk 4 0 ([]:Bytes) [r1,r3] [])])),.p (eL eS ([([97]:Bytes)]))]),(3,(ab.cs r9.1).map .p)]⟩) rfl rfl) (mS ⟨2,[8,9],(by3 (.some λ i=>Nat.beq i 5) .none .none),(λ _=>[(2,.ptr 2 0),(3,.ptr 3 0),(4,.p (eI r9.2))]),(by3 ([(2,[.p (eI 5),.p (eI 0),.p (eS ([]:Bytes)),.p (eL ah ([(ab.mk 4 0 ([]:Bytes) [r1,r3] [])])),.p (eL eS ([([97]:Bytes)]))]),(3,[.p (eI r9.1.fKind),.p (eI r9.1.fNum),.p (eS r9.1.fStr),.p (eL ah r9.1.fItems),.p (eL eS r9.1.fKeys)])]) ([(5,[.p (eI 0),.p (eI 0),.p (eS ([]:Bytes)),.p (.val (.slice none 0 0)),.p (.val (.slice none 0 0))]),(2,[.p (eI 5),.p (eI 0),.p (eS ([]:Bytes)),.p (eL ah ([(ab.mk 4 0 ([]:Bytes) [r1,r3] [])])),.p (eL eS ([([97]:Bytes)]))]),(3,[.p (eI r9.1.fKind),.p (eI r9.1.fNum),.p (eS r9.1.fStr),.p (eL ah r9.1.fItems),.p (eL eS r9.1.fKeys)])]) ([(5,[.p (eI r15.1.fKind),.p (eI r15.1.fNum),.p (eS r15.1.fStr),.p (eL ah r15.1.fItems),.p (eL eS r15.1.fKeys)]),(5,[.p (eI 0),.p (eI 0),.p (eS ([]:Bytes)),.p (.val (.slice none 0 0)),.p (.val (.slice none 0 0))]),(2,[.p (eI 5),.p (eI 0),.p (eS ([]:Bytes)),.p (eL ah ([(ab.mk 4 0 ([]:Bytes) [r1,r3] [])])),.p (eL eS ([([97]:Bytes)]))]),(3,[.p (eI r9.1.fKind),.p (eI r9.1.fNum),.p (eS r9.1.fStr),.p (eL ah r9.1.fItems),.p (eL eS r9.1.fKeys)])]))⟩ rfl rfl rfl ⟨rfl,rfl,rfl,trivial⟩ (lt2 ⟨rfl,rfl,rfl,trivial⟩ ⟨rfl,rfl,rfl,trivial⟩) rfl rfl rfl rfl ?_)
 refine ap (λ _=>.p (.agg [eI 5,eI 0,eS ([]:Bytes),eL ah ([(ab.mk 4 0 ([]:Bytes) [r1,r3] [])]),eL eS ([([97]:Bytes)])])) rfl rfl rfl (bc rfl rfl (λ _=>rfl)) (lt2 rfl rfl) (ar rfl (ag [(2,_)] ⟨.inl rfl,trivial⟩ (λ sl hsl K hK=>af rfl (bg rfl rfl rfl rfl rfl (hsl _ _ rfl) rfl rfl rfl hK)) (ag [(2,_)] ⟨.inl rfl,trivial⟩ (λ sl hsl K hK=>af rfl (bg rfl rfl rfl rfl rfl (hsl _ _ rfl) rfl rfl rfl hK)) ao))) (ap (λ _=>.p (.agg (aa.cs r11))) rfl rfl rfl (bc rfl rfl (λ _=>rfl)) (lt2 rfl rfl) (ar rfl (ag [] trivial (λ sl hsl K hK=>af rfl (aF (dv ([97]:Bytes) _ e12) rfl rfl rfl (aj rfl aE) ⟨sr,trivial⟩ Tryz.call36 rfl hK)) (ag [] trivial (λ sl hsl K hK=>af rfl (aF (dv ([97]:Bytes) _ e12) rfl rfl rfl (aj rfl aE) ⟨sr,trivial⟩ Tryz.call36 rfl hK)) ao))) ?_)
 refine ap (λ _=>.p (.agg (aa.cs r13))) rfl rfl rfl (bc rfl rfl (λ _=>rfl)) (lt2 rfl rfl) (ar rfl (ag [] trivial (λ sl hsl K hK=>af rfl (aF (dv ([98]:Bytes) _ e14) rfl rfl rfl (aj rfl aE) ⟨sr,trivial⟩ Tryz.call36 rfl hK)) (ag [] trivial (λ sl hsl K hK=>af rfl (aF (dv ([98]:Bytes) _ e14) rfl rfl rfl (aj rfl aE) ⟨sr,trivial⟩ Tryz.call36 rfl hK)) ao))) (ap (λ _=>.p (eL ae [r11,r13])) rfl rfl rfl (bc rfl rfl (λ _=>rfl)) (lt2 rfl rfl) (ar rfl (ag [(29,_),(30,_)] ⟨.inr ⟨1,_,rfl,rfl,rfl⟩,.inr ⟨2,_,rfl,rfl,rfl⟩,trivial⟩ (λ sl hsl K hK=>af rfl (aV ae [r11,r13] rfl rfl rfl rfl rfl rfl (dO (hsl _ _ rfl) rfl (dO (hsl _ _ rfl) rfl gH)) rfl rfl rfl rfl rfl rfl (by first | rfl | (simp only [List.map_cons,List.map_nil,aa.agg_eq]; done) | (simp only [List.map_cons,List.map_nil,aa.agg_eq]; rfl)) hK)) (ag [(29,_),(30,_)] ⟨.inr ⟨1,_,rfl,rfl,rfl⟩,.inr ⟨2,_,rfl,rfl,rfl⟩,trivial⟩ (λ sl hsl K hK=>af rfl (aV ae [r11,r13] rfl rfl rfl rfl rfl rfl (dO (hsl _ _ rfl) rfl (dO (hsl _ _ rfl) rfl gH)) rfl rfl rfl rfl rfl rfl (by first | rfl | (simp only [List.map_cons,List.map_nil,aa.agg_eq]; done) | (simp only [List.map_cons,List.map_nil,aa.agg_eq]; rfl)) hK)) ao))) ?_)
 refine ap (λ _=>.tuple [.p (.agg (ab.cs r15.1)),.p (eI r15.2)]) rfl rfl rfl (bc rfl rfl (λ _=>rfl)) (lt2 rfl rfl) (ar rfl (ag [(28,_),(31,_)] ⟨.inr ⟨0,_,rfl,rfl,rfl⟩,.inr ⟨3,_,rfl,rfl,rfl⟩,trivial⟩ (λ sl hsl K hK=>af rfl (aF (gG _ (ab.mk 5 0 ([]:Bytes) ([(ab.mk 4 0 ([]:Bytes) [r1,r3] [])]) ([([97]:Bytes)])) [r11,r13] _ e16) rfl rfl rfl (aj (hsl _ _ rfl) (aj (hsl _ _ rfl) aE)) ⟨sr,sr,trivial⟩ Tryz.call18 rfl hK)) (ag [(28,_),(31,_)] ⟨.inr ⟨0,_,rfl,rfl,rfl⟩,.inr ⟨3,_,rfl,rfl,rfl⟩,trivial⟩ (λ sl hsl K hK=>af rfl (aF (gG _ (ab.mk 5 0 ([]:Bytes) ([(ab.mk 4 0 ([]:Bytes) [r1,r3] [])]) ([([97]:Bytes)])) [r11,r13] _ e16) rfl rfl rfl (aj (hsl _ _ rfl) (aj (hsl _ _ rfl) aE)) ⟨sr,sr,trivial⟩ Tryz.call18 rfl hK)) ao))) (ap (λ _=>.tuple [.p (.agg (ab.cs r15.1)),.p (eI r15.2)]) rfl rfl rfl (bc rfl rfl (λ _=>rfl)) (lt2 rfl rfl) (ar rfl (ag [(32,_)] ⟨.inr ⟨4,_,rfl,rfl,rfl⟩,trivial⟩ (λ sl hsl K hK=>af rfl (aI rfl rfl rfl (hsl _ _ rfl) hK)) (ag [(32,_)] ⟨.inr ⟨4,_,rfl,rfl,rfl⟩,trivial⟩ (λ sl hsl K hK=>af rfl (aI rfl rfl rfl (hsl _ _ rfl) hK)) ao))) ?_)
 refine ap (λ _=>.p (.agg (ab.cs r15.1))) rfl rfl rfl (bc rfl rfl (λ _=>rfl)) (lt2 rfl rfl) (ar rfl (ag [(27,_)] ⟨.inr ⟨5,_,rfl,rfl,rfl⟩,trivial⟩ (λ sl hsl K hK=>af rfl (aW rfl rfl rfl (hsl _ _ rfl) rfl hK)) (ag [(27,_)] ⟨.inr ⟨5,_,rfl,rfl,rfl⟩,trivial⟩ (λ sl hsl K hK=>af rfl (aW rfl rfl rfl (hsl _ _ rfl) rfl hK)) ao))) (ap (λ _=>.p (eI r15.2)) rfl rfl rfl (bc rfl rfl (λ _=>rfl)) (lt2 rfl rfl) (ag [(27,_)] ⟨.inr ⟨5,_,rfl,rfl,rfl⟩,trivial⟩ (λ sl hsl K hK=>af rfl (aW rfl rfl rfl (hsl _ _ rfl) rfl hK)) (ag [(27,_)] ⟨.inr ⟨5,_,rfl,rfl,rfl⟩,trivial⟩ (λ sl hsl K hK=>af rfl (aW rfl rfl rfl (hsl _ _ rfl) rfl hK)) (ag [(27,_)] ⟨.inr ⟨5,_,rfl,rfl,rfl⟩,trivial⟩ (λ sl hsl K hK=>af rfl (aW rfl rfl rfl (hsl _ _ rfl) rfl hK)) ao))) ?_)
 refine fv (λ _=>.ptr 5 0) [] rfl trivial rfl rfl (dV rfl (λ _=>rfl)) (lt2 (λ h=>absurd h (by decide)) (λ _=>rfl)) (λ sl hsl K hK=>af rfl (jq rfl rfl rfl rfl rfl hK)) (gQ [(5,_),(33,_)] rfl ⟨.inr ⟨8,_,rfl,rfl,rfl⟩,.inr ⟨6,_,rfl,rfl,rfl⟩,trivial⟩ rfl (λ sl hsl K hK=>af rfl (fW rfl rfl rfl (hsl _ _ rfl) (hsl _ _ rfl) rfl rfl rfl (Nat.le_of_ble_eq_true rfl) hK)) ?_)
 refine ap (λ _=>.p (eI r15.2)) rfl rfl rfl (bc rfl rfl (λ _=>rfl)) (lt2 rfl rfl) (ag [(34,_)] ⟨.inr ⟨7,_,rfl,rfl,rfl⟩,trivial⟩ (λ sl hsl K hK=>af rfl (bw rfl rfl rfl (hsl _ _ rfl) hK)) (ar rfl (ar rfl ao))) (hC ?_)
 refine nx 2 rfl (bd h0 λ r17 e18 h0=>?_)
 refine bd h0 λ r19 e20 h0=>bd h0 λ r21 e22 h0=>mG (gE (t:=⟨[(2,.ptr 2 0),(3,.ptr 3 0),(4,.p (eI r9.2)),(6,.p (eI r15.2))],[(2,[.p (eI 5),.p (eI 0),.p (eS ([]:Bytes)),.p (eL ah ([(ab.mk 4 0 ([]:Bytes) [r1,r3] [])])),.p (eL eS ([([97]:Bytes)]))]),(3,(ab.cs r9.1).map .p)]⟩) rfl rfl) (mS ⟨2,[8,9],(by3 (.some λ i=>Nat.beq i 7) .none .none),(λ _=>[(2,.ptr 2 0),(3,.ptr 3 0),(4,.p (eI r9.2)),(6,.p (eI r15.2))]),(by3 ([(2,[.p (eI 5),.p (eI 0),.p (eS ([]:Bytes)),.p (eL ah ([(ab.mk 4 0 ([]:Bytes) [r1,r3] [])])),.p (eL eS ([([97]:Bytes)]))]),(3,[.p (eI r9.1.fKind),.p (eI r9.1.fNum),.p (eS r9.1.fStr),.p (eL ah r9.1.fItems),.p (eL eS r9.1.fKeys)])]) ([(7,[.p (eI 0),.p (eI 0),.p (eS ([]:Bytes)),.p (.val (.slice none 0 0)),.p (.val (.slice none 0 0))]),(2,[.p (eI 5),.p (eI 0),.p (eS ([]:Bytes)),.p (eL ah ([(ab.mk 4 0 ([]:Bytes) [r1,r3] [])])),.p (eL eS ([([97]:Bytes)]))]),(3,[.p (eI r9.1.fKind),.p (eI r9.1.fNum),.p (eS r9.1.fStr),.p (eL ah r9.1.fItems),.p (eL eS r9.1.fKeys)])]) ([(7,[.p (eI r21.1.fKind),.p (eI r21.1.fNum),.p (eS r21.1.fStr),.p (eL ah r21.1.fItems),.p (eL eS r21.1.fKeys)]),(7,[.p (eI 0),.p (eI 0),.p (eS ([]:Bytes)),.p (.val (.slice none 0 0)),.p (.val (.slice none 0 0))]),(2,[.p (eI 5),.p (eI 0),.p (eS ([]:Bytes)),.p (eL ah ([(ab.mk 4 0 ([]:Bytes) [r1,r3] [])])),.p (eL eS ([([97]:Bytes)]))]),(3,[.p (eI r9.1.fKind),.p (eI r9.1.fNum),.p (eS r9.1.fStr),.p (eL ah r9.1.fItems),.p (eL eS r9.1.fKeys)])]))⟩ rfl rfl rfl ⟨rfl,rfl,rfl,rfl,trivial⟩ (lt2 ⟨rfl,rfl,rfl,rfl,trivial⟩ ⟨rfl,rfl,rfl,rfl,trivial⟩) rfl rfl rfl rfl ?_)
 refine ap (λ _=>.p (.agg [eI 5,eI 0,eS ([]:Bytes),eL ah ([(ab.mk 4 0 ([]:Bytes) [r1,r3] [])]),eL eS ([([97]:Bytes)])])) rfl rfl rfl (bc rfl rfl (λ _=>rfl)) (lt2 rfl rfl) (ar rfl (ag [(2,_)] ⟨.inl rfl,trivial⟩ (λ sl hsl K hK=>af rfl (bg rfl rfl rfl rfl rfl (hsl _ _ rfl) rfl rfl rfl hK)) (ag [(2,_)] ⟨.inl rfl,trivial⟩ (λ sl hsl K hK=>af rfl (bg rfl rfl rfl rfl rfl (hsl _ _ rfl) rfl rfl rfl hK)) ao))) (ap (λ _=>.p (.agg (aa.cs r17))) rfl rfl rfl (bc rfl rfl (λ _=>rfl)) (lt2 rfl rfl) (ar rfl (ag [] trivial (λ sl hsl K hK=>af rfl (aF (dv ([98]:Bytes) _ e18) rfl rfl rfl (aj rfl aE) ⟨sr,trivial⟩ Tryz.call36 rfl hK)) (ag [] trivial (λ sl hsl K hK=>af rfl (aF (dv ([98]:Bytes) _ e18) rfl rfl rfl (aj rfl aE) ⟨sr,trivial⟩ Tryz.call36 rfl hK)) ao))) ?_)
 refine ap (λ _=>.p (eL ae [r17])) rfl rfl rfl (bc rfl rfl (λ _=>rfl)) (lt2 rfl rfl) (ar rfl (ag [(37,_)] ⟨.inr ⟨1,_,rfl,rfl,rfl⟩,trivial⟩ (λ sl hsl K hK=>af rfl (aV ae [r17] rfl rfl rfl rfl rfl rfl (dO (hsl _ _ rfl) rfl gH) rfl rfl rfl rfl rfl rfl (by first | rfl | (simp only [List.map_cons,List.map_nil,aa.agg_eq]; done) | (simp only [List.map_cons,List.map_nil,aa.agg_eq]; rfl)) hK)) (ag [(37,_)] ⟨.inr ⟨1,_,rfl,rfl,rfl⟩,trivial⟩ (λ sl hsl K hK=>af rfl (aV ae [r17] rfl rfl rfl rfl rfl rfl (dO (hsl _ _ rfl) rfl gH) rfl rfl rfl rfl rfl rfl (by first | rfl | (simp only [List.map_cons,List.map_nil,aa.agg_eq]; done) | (simp only [List.map_cons,List.map_nil,aa.agg_eq]; rfl)) hK)) ao))) (ap (λ _=>.p (.agg (ab.cs r19))) rfl rfl rfl (bc rfl rfl (λ _=>rfl)) (lt2 rfl rfl) (ar rfl (ag [] trivial (λ sl hsl K hK=>af rfl (aF (gf 2 _ e20) rfl rfl rfl (aj rfl aE) ⟨sr,trivial⟩ Tryz.call35 rfl hK)) (ag [] trivial (λ sl hsl K hK=>af rfl (aF (gf 2 _ e20) rfl rfl rfl (aj rfl aE) ⟨sr,trivial⟩ Tryz.call35 rfl hK)) ao))) ?_)
 refine ap (λ _=>.tuple [.p (.agg (ab.cs r21.1)),.p (eI r21.2)]) rfl rfl rfl (bc rfl rfl (λ _=>rfl)) (lt2 rfl rfl) (ar rfl (ag [(36,_),(38,_),(39,_)] ⟨.inr ⟨0,_,rfl,rfl,rfl⟩,.inr ⟨2,_,rfl,rfl,rfl⟩,.inr ⟨3,_,rfl,rfl,rfl⟩,trivial⟩ (λ sl hsl K hK=>af rfl (aF (oy _ (ab.mk 5 0 ([]:Bytes) ([(ab.mk 4 0 ([]:Bytes) [r1,r3] [])]) ([([97]:Bytes)])) [r17] r19 _ e22) rfl rfl rfl (aj (hsl _ _ rfl) (aj (hsl _ _ rfl) (aj (hsl _ _ rfl) aE))) ⟨sr,sr,sr,trivial⟩ Tryz.call20 rfl hK)) (ag [(36,_),(38,_),(39,_)] ⟨.inr ⟨0,_,rfl,rfl,rfl⟩,.inr ⟨2,_,rfl,rfl,rfl⟩,.inr ⟨3,_,rfl,rfl,rfl⟩,trivial⟩ (λ sl hsl K hK=>af rfl (aF (oy _ (ab.mk 5 0 ([]:Bytes) ([(ab.mk 4 0 ([]:Bytes) [r1,r3] [])]) ([([97]:Bytes)])) [r17] r19 _ e22) rfl rfl rfl (aj (hsl _ _ rfl) (aj (hsl _ _ rfl) (aj (hsl _ _ rfl) aE))) ⟨sr,sr,sr,trivial⟩ Tryz.call20 rfl hK)) ao))) (ap (λ _=>.tuple [.p (.agg (ab.cs r21.1)),.p (eI r21.2)]) rfl rfl rfl (bc rfl rfl (λ _=>rfl)) (lt2 rfl rfl) (ar rfl (ag [(40,_)] ⟨.inr ⟨4,_,rfl,rfl,rfl⟩,trivial⟩ (λ sl hsl K hK=>af rfl (aI rfl rfl rfl (hsl _ _ rfl) hK)) (ag [(40,_)] ⟨.inr ⟨4,_,rfl,rfl,rfl⟩,trivial⟩ (λ sl hsl K hK=>af rfl (aI rfl rfl rfl (hsl _ _ rfl) hK)) ao))) ?_)
 refine ap (λ _=>.p (.agg (ab.cs r21.1))) rfl rfl rfl (bc rfl rfl (λ _=>rfl)) (lt2 rfl rfl) (ar rfl (ag [(35,_)] ⟨.inr ⟨5,_,rfl,rfl,rfl⟩,trivial⟩ (λ sl hsl K hK=>af rfl (aW rfl rfl rfl (hsl _ _ rfl) rfl hK)) (ag [(35,_)] ⟨.inr ⟨5,_,rfl,rfl,rfl⟩,trivial⟩ (λ sl hsl K hK=>af rfl (aW rfl rfl rfl (hsl _ _ rfl) rfl hK)) ao))) (ap (λ _=>.p (eI r21.2)) rfl rfl rfl (bc rfl rfl (λ _=>rfl)) (lt2 rfl rfl) (ag [(35,_)] ⟨.inr ⟨5,_,rfl,rfl,rfl⟩,trivial⟩ (λ sl hsl K hK=>af rfl (aW rfl rfl rfl (hsl _ _ rfl) rfl hK)) (ag [(35,_)] ⟨.inr ⟨5,_,rfl,rfl,rfl⟩,trivial⟩ (λ sl hsl K hK=>af rfl (aW rfl rfl rfl (hsl _ _ rfl) rfl hK)) (ag [(35,_)] ⟨.inr ⟨5,_,rfl,rfl,rfl⟩,trivial⟩ (λ sl hsl K hK=>af rfl (aW rfl rfl rfl (hsl _ _ rfl) rfl hK)) ao))) ?_)
 refine fv (λ _=>.ptr 7 0) [] rfl trivial rfl rfl (dV rfl (λ _=>rfl)) (lt2 (λ h=>absurd h (by decide)) (λ _=>rfl)) (λ sl hsl K hK=>af rfl (jq rfl rfl rfl rfl rfl hK)) (gQ [(7,_),(41,_)] rfl ⟨.inr ⟨8,_,rfl,rfl,rfl⟩,.inr ⟨6,_,rfl,rfl,rfl⟩,trivial⟩ rfl (λ sl hsl K hK=>af rfl (fW rfl rfl rfl (hsl _ _ rfl) (hsl _ _ rfl) rfl rfl rfl (Nat.le_of_ble_eq_true rfl) hK)) ?_)
 refine ap (λ _=>.p (eI r21.2)) rfl rfl rfl (bc rfl rfl (λ _=>rfl)) (lt2 rfl rfl) (ag [(42,_)] ⟨.inr ⟨7,_,rfl,rfl,rfl⟩,trivial⟩ (λ sl hsl K hK=>af rfl (bw rfl rfl rfl (hsl _ _ rfl) hK)) (ar rfl (ar rfl ao))) (hC ?_)
 refine nx 3 rfl (bd h0 λ r23 e24 h0=>?_)
 refine oK (iD _ ([91,34,97,34,93]:Bytes) _ e24) rfl ⟨sr,trivial⟩ Tryz.call12 rfl (nx 7 rfl ?_)
 refine bd h0 λ o41 h1 h0=>kN o41 (λ v42=>⟨[(0,.p (eB v42))],[]⟩) ?_ ?_
 ·exact nx 2 rfl (mQ (oi h0) rfl (sr))
 refine nx 4 rfl (fD [48,49] h1 rfl (λ c25 h1=>?_) λ c25 h1=>?_)
 ·refine nx 5 rfl (fD [52,53,54] h1 rfl (λ c26 h1=>?_) λ c26 h1=>?_)
  ·refine nx 4 rfl (fD [56,57,58] h1 rfl (λ c27 h1=>?_) λ c27 h1=>?_)
   ·refine nx 4 rfl (fD [60,61,62] h1 rfl (λ c28 h1=>?_) λ c28 h1=>?_)
    ·refine nx 2 rfl (oLl (f:=eS) rfl rfl ?_)
     refine nx 3 rfl (fD [66,67,68] h1 rfl (λ c29 h1=>?_) λ c29 h1=>?_)
     ·refine nx 4 rfl (fD [70,71,72] h1 rfl (λ c30 h1=>?_) λ c30 h1=>?_)
      ·refine bd h1 λ r31 e32 h1=>oK (dv ([97]:Bytes) _ e32) rfl ⟨sr,trivial⟩ Tryz.call36 rfl (bd h1 λ r33 e34 h1=>?_)
       refine oK (jH 0 _ e34) rfl ⟨sr,trivial⟩ Tryz.call37 rfl (bd h1 λ r35 e36 h1=>?_)
       refine oK (dv ([98,32,99]:Bytes) _ e36) rfl ⟨sr,trivial⟩ Tryz.call36 rfl (mO rfl (aV ae [r31,r33,r35] rfl rfl rfl rfl rfl rfl rfl rfl rfl rfl rfl rfl rfl (by first | rfl | (simp only [List.map_cons,List.map_nil,aa.agg_eq]; done) | (simp only [List.map_cons,List.map_nil,aa.agg_eq]; rfl)) ?_))
       refine bd h1 λ r37 e38 h1=>oK (fq _ [r31,r33,r35] _ e38) rfl ⟨sr,trivial⟩ Tryz.call24 rfl (oS rfl rfl ?_)
       exact nx 3 rfl (eX _ (oi h1).symm (gE rfl rfl))
      exact nx 9 rfl (eX _ (oi h1).symm (gE rfl rfl))
     exact nx 13 rfl (eX _ (oi h1).symm (gE rfl rfl))
    exact nx 19 rfl (eX _ (oi h1).symm (gE rfl rfl))
   exact nx 23 rfl (eX _ (oi h1).symm (gE rfl rfl))
  exact nx 27 rfl (eX _ (oi h1).symm (gE rfl rfl))
 exact nx 32 rfl (eX _ (oi h1).symm (gE rfl rfl))
def db (p_0:List aa):Nat→Int→Int→Option Int
 | 0,_,_=>none
 | m+1,n10,i11 =>
 (
   if i11 < (p_0.length:Int) then
    some (decide (n10 < 20000))
   else
    some false
  : Option Bool).bind λ t13 =>
 if t13=true then
  ck (inR (n10+1)) <|
  ck ((0:Int)≤i11∧i11 < (p_0.length:Int)) <|
  ck (inR ((n10+1)+(((lat p_0 i11).fName).length:Int))) <|
  ck (inR (i11+1)) <|
  db p_0 m ((n10+1)+(((lat p_0 i11).fName).length:Int)) (i11+1)
 else
  some n10
def gD (n:Nat)(p_0:List aa):Option Bool :=
 (db p_0 n 0 0).bind λ n21 =>
 some (decide (n21 < 20000))
theorem lD (n:Nat)(p_0:List aa)(r:Bool)(h0:gD n p_0=some r):au Tryz.prog 16 [eL ae p_0] (·=.p (eB r)):=by
 unfold gD at h0
 refine aH good Tryz.func16 rfl rfl rfl λ w0=>mP (λ v:Bool=>.p (eB v)) ?_
 refine nx 14 rfl (bd h0 λ o24 h1 h0=>?_)
 refine kE 0 o24 (λ v25=>⟨[(3,.p (eI v25))],[]⟩) ?_ ?_
 ·exact nx 8 rfl (mQ (oi h0) rfl (sr))
 refine lG (λ (q26:Int×Int)=>⟨[(0,.p (eL ae p_0)),(3,.p (eI q26.1)),(4,.p (eI q26.2))],[]⟩) (λ m (q26:Int×Int)=>db p_0 m q26.1 q26.2) (λ _=>rfl) (0,0) h1 (gE rfl rfl) ?_
 rintro m ⟨n10,i11⟩ h1
 replace h1:db p_0 (m+1) n10 i11=some o24:=h1
 rw [db] at h1
 refine nx 2 rfl (bd h1 λ o27 h2 h1=>?_)
 refine kN o27 (λ v28=>⟨[(0,.p (eL ae p_0)),(3,.p (eI n10)),(4,.p (eI i11)),(12,.p (eB v28))],[]⟩) ?_ ?_
 ·refine nx 1 rfl (fB [12] h1 rfl (λ c14 h1=>?_) λ c14 h1=>?_)
  ·refine nx 6 rfl (oA h1 rfl rfl λ hk15 h1=>?_)
   refine nx 2 rfl (oE h1 aa.cells_eq rfl rfl (λ _=>rfl) λ hk16 h1=>?_)
   refine nx 2 rfl (oLs rfl ?_)
   refine oA h1 rfl rfl λ hk17 h1=>nx 4 rfl (oA h1 rfl rfl λ hk18 h1=>?_)
   exact nx 2 rfl (eX ((n10+1)+(((lat p_0 i11).fName).length:Int),i11+1) h1 (gE rfl rfl))
  exact nx 2 rfl (eXi _ (oi h1).symm (gE rfl rfl))
 refine nx 3 rfl (oLl (f:=ae) rfl rfl ?_)
 refine nx 2 rfl (fD [8,9] h2 rfl (λ c12 h2=>?_) λ c12 h2=>?_)
 ·exact nx 4 rfl (eX _ (oi h2).symm (gE rfl rfl))
 exact nx 4 rfl (eX _ (oi h2).symm (gE rfl rfl))
def bN (a_0:List aa)(b_1:List aa):Nat→Int→Option (Unit⊕Bool)
 | 0,_=>none
 | m+1,i8 =>
 if i8 < (a_0.length:Int) then
  ck ((0:Int)≤i8∧i8 < (a_0.length:Int)) <|
  ck ((0:Int)≤i8∧i8 < (b_1.length:Int)) <|
  if (lat a_0 i8).fIndex=(lat b_1 i8).fIndex∧(lat a_0 i8).fNum=(lat b_1 i8).fNum∧(lat a_0 i8).fName=(lat b_1 i8).fName then
   ck (inR (i8+1)) <|
   bN a_0 b_1 m (i8+1)
  else
   some (.inr false)
 else
  some (.inl ())
def et (n:Nat)(a_0:List aa)(b_1:List aa):Option Bool :=
 if (a_0.length:Int)=(b_1.length:Int) then
  jn (bN a_0 b_1 n 0) λ _q15 =>
  some true
 else
  some false
theorem iy (n:Nat)(a_0:List aa)(b_1:List aa)(r:Bool)(h0:et n a_0 b_1=some r):au Tryz.prog 14 [eL ae a_0,eL ae b_1] (·=.p (eB r)):=by
 unfold et at h0
 refine aH good Tryz.func14 rfl rfl rfl λ w0=>mP (λ v:Bool=>.p (eB v)) ?_
 refine nx 8 rfl (oLl (f:=ae) rfl rfl ?_)
 refine nx 1 rfl (oLl (f:=ae) rfl rfl ?_)
 refine nx 2 rfl (fN [10] h0 rfl (λ c1 h0=>?_) λ c1 h0=>?_)
 ·refine nx 8 rfl ?_
  obtain ⟨o16,h1,hL0,hR0⟩:=cn h0
  refine kEx 0 (λ v17:Unit=>o16=.inl v17) (λ v17=>⟨[],[]⟩) (λ v17 hv=>?_) ?_
  ·have h0:=hL0 _ hv
   exact nx 6 rfl (mQ (oi h0) rfl (sr))
  refine lG (λ (q18:Int)=>⟨[(0,.p (eL ae a_0)),(1,.p (eL ae b_1)),(5,.p (eI q18))],[]⟩) (λ m (q18:Int)=>bN a_0 b_1 m q18) (λ _=>rfl) 0 h1 (gE rfl rfl) ?_
  rintro m i8 h1
  replace h1:bN a_0 b_1 (m+1) i8=some o16:=h1
  rw [bN] at h1
  refine nx 5 rfl (oLl (f:=ae) rfl rfl ?_)
  refine nx 2 rfl (fD [14] h1 rfl (λ c9 h1=>?_) λ c9 h1=>?_)
  ·refine nx 5 rfl (cc' h1 λ hk10 h1=>?_)
   refine cc' h1 λ hk11 h1=>mD [(0,.p (eL ae a_0)),(1,.p (eL ae b_1)),(5,.p (eI i8))] rfl ⟨rfl,rfl,rfl,trivial⟩ rfl (dR 2 rfl ?_)
   refine dq (.rptr (aa.cs (lat a_0 i8))) [17,18] rfl (λ _ e _ q=>af rfl (dQ (f:=ae) (l:=a_0) aa.cs rfl rfl rfl rfl rfl rfl (e _ _ rfl) rfl (e _ _ rfl) hk10 aa.cells_eq (λ _=>rfl) q)) rfl (dR 3 rfl ?_)
   refine dq (.rptr (aa.cs (lat b_1 i8))) [21,22] rfl (λ _ e _ q=>af rfl (dQ (f:=ae) (l:=b_1) aa.cs rfl rfl rfl rfl rfl rfl (e _ _ rfl) rfl (e _ _ rfl) hk11 aa.cells_eq (λ _=>rfl) q)) rfl (dR 1 rfl ?_)
   refine dq (.p (eB (!decide ((lat a_0 i8).fIndex=(lat b_1 i8).fIndex∧(lat a_0 i8).fNum=(lat b_1 i8).fNum∧(lat a_0 i8).fName=(lat b_1 i8).fName)))) [20,24] rfl (λ _ e _ q=>af rfl (Ao ((lat a_0 i8).fIndex=(lat b_1 i8).fIndex∧(lat a_0 i8).fNum=(lat b_1 i8).fNum∧(lat a_0 i8).fName=(lat b_1 i8).fName) rfl rfl rfl rfl rfl (e _ _ rfl) (e _ _ rfl) (by kernel_rfl) rfl rfl (.inr ⟨rfl,rfl⟩) q)) rfl (dE rfl ?_)
   refine nx 1 rfl (fN [25] h1 rfl (λ c12 h1=>?_) λ c12 h1=>?_)
   ·refine nx 4 rfl (oA h1 rfl rfl λ hk13 h1=>?_)
    exact nx 2 rfl (eX (i8+1) h1 (gE rfl rfl))
   exact nx 6 rfl (mQ (hR0 _ (oi h1).symm) rfl (sr))
  exact nx 2 rfl (eXi _ (oi h1).symm (gE rfl rfl))
 exact nx 6 rfl (mQ (oi h0) rfl (sr))
def dw (n:Nat)(a_0:List (List aa))(b_1:List (List aa)):Nat→Int→Option (Unit⊕Bool)
 | 0,_=>none
 | m+1,i10 =>
 if i10 < (a_0.length:Int) then
  ck ((0:Int)≤i10∧i10 < (a_0.length:Int)) <|
  ck ((0:Int)≤i10∧i10 < (b_1.length:Int)) <|
  (et n (lat a_0 i10) (lat b_1 i10)).bind λ r14 =>
  if (!r14)=true then
   some (.inr false)
  else
   ck (inR (i10+1)) <|
   dw n a_0 b_1 m (i10+1)
 else
  some (.inl ())
def jh (n:Nat)(a_0:List (List aa))(b_1:List (List aa)):Option Bool :=
 if (a_0.length:Int)=(b_1.length:Int) then
  jn (dw n a_0 b_1 n 0) λ _q19 =>
  some true
 else
  some false
theorem gZ (n:Nat)(a_0:List (List aa))(b_1:List (List aa))(r:Bool)(h0:jh n a_0 b_1=some r):au Tryz.prog 32 [eL (eL ae) a_0,eL (eL ae) b_1] (·=.p (eB r)):=by
 unfold jh at h0
 refine aH good Tryz.func32 rfl rfl rfl λ w0=>mP (λ v:Bool=>.p (eB v)) ?_
 refine nx 8 rfl (oLl (f:=(eL ae)) rfl rfl ?_)
 refine nx 1 rfl (oLl (f:=(eL ae)) rfl rfl ?_)
 refine nx 2 rfl (fN [10] h0 rfl (λ c1 h0=>?_) λ c1 h0=>?_)
 ·refine nx 8 rfl ?_
  obtain ⟨o20,h1,hL0,hR0⟩:=cn h0
  refine kEx 0 (λ v21:Unit=>o20=.inl v21) (λ v21=>⟨[],[]⟩) (λ v21 hv=>?_) ?_
  ·have h0:=hL0 _ hv
   exact nx 6 rfl (mQ (oi h0) rfl (sr))
  refine lG (λ (q22:Int)=>⟨[(0,.p (eL (eL ae) a_0)),(1,.p (eL (eL ae) b_1)),(5,.p (eI q22))],[]⟩) (λ m (q22:Int)=>dw n a_0 b_1 m q22) (λ _=>rfl) 0 h1 (gE rfl rfl) ?_
  rintro m i10 h1
  replace h1:dw n a_0 b_1 (m+1) i10=some o20:=h1
  rw [dw] at h1
  refine nx 5 rfl (oLl (f:=(eL ae)) rfl rfl ?_)
  refine nx 2 rfl (fD [14] h1 rfl (λ c11 h1=>?_) λ c11 h1=>?_)
  ·refine nx 5 rfl (cc' h1 λ hk12 h1=>?_)
   refine cc' h1 λ hk13 h1=>bd h1 λ r14 e15 h1=>mD [(0,.p (eL (eL ae) a_0)),(1,.p (eL (eL ae) b_1)),(5,.p (eI i10))] rfl ⟨rfl,rfl,rfl,trivial⟩ rfl (dR 2 rfl ?_)
   refine dq (.rptr [(eL ae) (lat a_0 i10)]) [17,18] rfl (λ _ e _ q=>af rfl (dQ (f:=(eL ae)) (l:=a_0) (λ x=>[(eL ae) x]) rfl rfl rfl rfl rfl rfl (e _ _ rfl) rfl (e _ _ rfl) hk12 (λ _=>rfl) (λ _=>rfl) q)) rfl (dR 3 rfl ?_)
   refine dq (.rptr [(eL ae) (lat b_1 i10)]) [21,22] rfl (λ _ e _ q=>af rfl (dQ (f:=(eL ae)) (l:=b_1) (λ x=>[(eL ae) x]) rfl rfl rfl rfl rfl rfl (e _ _ rfl) rfl (e _ _ rfl) hk13 (λ _=>rfl) (λ _=>rfl) q)) rfl (dR 1 rfl ?_)
   refine dq (.p (eB r14)) [20,24] rfl (λ _ e _ q=>af rfl (aF (iy _ (lat a_0 i10) (lat b_1 i10) _ e15) rfl rfl rfl (aj (e _ _ rfl) (aj (e _ _ rfl) aE)) ⟨sr,sr,trivial⟩ Tryz.call14 rfl q)) rfl (dR 1 rfl ?_)
   refine dE rfl (nx 1 rfl ?_)
   refine fB [26] h1 rfl (λ c16 h1=>?_) λ c16 h1=>?_
   ·exact nx 6 rfl (mQ (hR0 _ (oi h1).symm) rfl (sr))
   refine nx 4 rfl (oA h1 rfl rfl λ hk17 h1=>?_)
   exact nx 2 rfl (eX (i10+1) h1 (gE rfl rfl))
  exact nx 2 rfl (eXi _ (oi h1).symm (gE rfl rfl))
 exact nx 6 rfl (mQ (oi h0) rfl (sr))
end Go.Ab.R06
end
