/- Texts of the proof, one behind the other. No statement is proved here. -/
import Derived.Lib.MapLaws
import Derived.Lib.ValidLaws
import Derived.Test.YtgdcfenbmcflkaaGreatDoorZ42Sa
import Derived.Test.YtgdcfenbmcflkaaGreatDoorZ42Sb
import Derived.Test.YtgdcfenbmcflkaaGreatDoorZ42Sc
import Derived.Test.YtgdcfenbmcflkaaGreatDoorZ42Sd
set_option maxHeartbeats 4000000
section
namespace Go.Ab.R06
open Go.Proofs Go.Ab Go.Ab.RB
attribute [local irreducible] awp d8 aP aw bH AV.sub M dD
abbrev sk:List AV:=[.p (eS ([]:Bytes)),.p (eS ([]:Bytes)),.p (eS ([]:Bytes)),.p (eI 0),.p (eI 0),.p (eI 0),.p (eI 0),.p (eS ([]:Bytes)),.p (.val (.slice none 0 0)),.p (.val (.slice none 0 0)),.p (eI 0),.p (eI 0),.p (eS ([]:Bytes)),.p (.val (.slice none 0 0)),.p (.val (.slice none 0 0)),.p (eS ([]:Bytes)),.p (.val (.slice none 0 0)),.p (eB false),.p (eB false),.p (eB false),.p (.val (.slice none 0 0)),.p (.val (.slice none 0 0))]
abbrev m8:List AV:=[.p (eI 0),.p (eI 0),.p (eS ([]:Bytes)),.p (.val (.slice none 0 0)),.p (.val (.slice none 0 0))]
def cD (targets_0:List Bytes):Nat→Int→Option (Unit⊕Int)
 | 0,_=>none
 | m+1,t8 =>
 if t8 < (targets_0.length:Int) then
  ck ((0:Int)≤t8∧t8 < (targets_0.length:Int)) <|
  ck ((lat targets_0 t8).length≤65536) <|
  if Glob.check (lat targets_0 t8)=0 then
   ck (inR (t8+1)) <|
   cD targets_0 m (t8+1)
  else
   some (.inr (Glob.check (lat targets_0 t8)))
 else
  some (.inl ())
def eP (n:Nat)(targets_0:List Bytes):Option Int :=
 if 64 < (targets_0.length:Int) then
  some 14
 else
  jn (cD targets_0 n 0) λ q15 =>
  some 0
theorem nv (n:Nat)(targets_0:List Bytes)(r:Int)(h0:eP n targets_0=some r):aw Tryz.prog 11 [eL eS targets_0] (·=.p (eI r)):=by
 unfold eP at h0
 refine a6 good Tryz.func11 rfl rfl rfl λ w0=>mP (λ v:Int=>.p (eI v)) ?_
 refine nx 8 rfl (oLl (f:=eS) rfl rfl (nx 2 rfl (fD [8] h0 rfl (λ c1 h0=>?_) λ c1 h0=>?_)))
 ·exact nx 6 rfl (mQ (oi h0) rfl (sr))
 refine nx 6 rfl (oLl (f:=eS) rfl rfl (nx 3 rfl ?_))
 obtain ⟨o16,h1,hL0,hR0⟩:=fQ h0
 refine kEx 0 (λ v17:Unit=>o16=.inl v17) (λ v17=>⟨[],[]⟩) (λ v17 hv=>?_) ?_
 ·have h0:=hL0 _ hv
  exact nx 6 rfl (mQ (oi h0) rfl (sr))
 refine lG (λ (q18:Int)=>⟨[(9,.p (eL eS targets_0)),(10,.p (eI (targets_0.length:Int))),(11,.p (eI q18))],[]⟩) (λ m (q18:Int)=>cD targets_0 m q18) (λ _=>rfl) 0 h1 (gE rfl rfl) ?_
 rintro m t8 h1
 replace h1:cD targets_0 (m+1) t8=some o16:=h1
 rw [cD] at h1
 refine nx 5 rfl (fD [12] h1 rfl (λ c9 h1=>?_) λ c9 h1=>?_)
 ·refine nx 6 rfl (oE h1 (λ _=>rfl) rfl rfl (λ _=>rfl) λ hk10 h1=>nx 6 rfl (cc' h1 λ hk11 h1=>oK (Glob.check_ok (lat targets_0 t8) hk11) rfl ⟨sr,trivial⟩ Tryz.call28 rfl (nx 7 rfl ?_)))
  refine fN [18] h1 rfl (λ c12 h1=>?_) λ c12 h1=>?_
  ·exact nx 3 rfl (oA h1 rfl rfl λ hk13 h1=>nx 2 rfl (eX (t8+1) h1 (gE rfl rfl)))
  exact nx 7 rfl (mQ (hR0 _ (oi h1).symm) rfl (sr))
 exact nx 2 rfl (eXi _ (oi h1).symm (gE rfl rfl))
def cr (n:Nat)(targets_0:List Bytes)(addr_1:Bytes):Option Bool :=
 (
   if (targets_0.length:Int)=0 then
    some true
   else
    (ju n targets_0 addr_1).bind λ r2 =>
    some r2
  : Option Bool).bind λ t4 =>
 if t4=true then
  some true
 else
  (dU n addr_1).bind λ r6 =>
  (
    if r6.2=0 then
     (ju n targets_0 r6.1).bind λ r9 =>
     some r9
    else
     some false
   : Option Bool).bind λ t11 =>
  some t11
theorem fh (n:Nat)(targets_0:List Bytes)(addr_1:Bytes)(r:Bool)(h0:cr n targets_0 addr_1=some r):aw Tryz.prog 15 [eL eS targets_0,eS addr_1] (·=.p (eB r)):=by
 unfold cr at h0
 refine a6 good Tryz.func15 rfl rfl rfl λ w0=>mP (λ v:Bool=>.p (eB v)) ?_
 refine nx 6 rfl (bd h0 λ o14 h1 h0=>?_)
 refine kN o14 (λ v15=>⟨[(0,.p (eL eS targets_0)),(1,.p (eS addr_1)),(14,.p (eB v15))],[]⟩) ?_ ?_
 ·refine nx 1 rfl (fB [14] h0 rfl (λ c5 h0=>?_) λ c5 h0=>?_)
  ·exact nx 6 rfl (mQ (oi h0) rfl (sr))
  refine nx 5 rfl (bd h0 λ r6 e7 h0=>oK (lH _ addr_1 _ e7) rfl ⟨sr,trivial⟩ Tryz.call32 rfl (nx 7 rfl (bd h0 λ o16 h1 h0=>kN o16 (λ v17=>⟨[(4,.p (eB v17))],[]⟩) ?_ ?_)))
  ·exact nx 2 rfl (mQ (oi h0) rfl (sr))
  refine nx 4 rfl (fD [21,22] h1 rfl (λ c8 h1=>?_) λ c8 h1=>?_)
  ·exact nx 2 rfl (bd h1 λ r9 e10 h1=>oK (rB _ targets_0 r6.1 _ e10) rfl ⟨sr,sr,trivial⟩ Tryz.call31 rfl (nx 3 rfl (eX _ (oi h1).symm (gE rfl rfl))))
  exact nx 6 rfl (eX _ (oi h1).symm (gE rfl rfl))
 refine nx 2 rfl (oLl (f:=eS) rfl rfl (nx 2 rfl (fD [9,10] h1 rfl (λ c1 h1=>?_) λ c1 h1=>?_)))
 ·exact nx 5 rfl (eX _ (oi h1).symm (gE rfl rfl))
 exact nx 2 rfl (bd h1 λ r2 e3 h1=>oK (rB _ targets_0 addr_1 _ e3) rfl ⟨sr,sr,trivial⟩ Tryz.call31 rfl (nx 2 rfl (eX _ (oi h1).symm (gE rfl rfl))))
def fu (x_0:dB)(i_1:Int):Option dB :=
 ck ((0:Int)≤i_1∧i_1 < (x_0.fchosen.length:Int)) <|
 if (!(lat x_0.fchosen i_1))=true then
  ck ((0:Int)≤i_1∧i_1 < (x_0.fchosen.length:Int)) <|
  ck ((x_0.ftodo.length+[i_1].length)*8≤140737488355328) <|
  some (dB.mk x_0.fchanges x_0.fresources (x_0.fchosen.set i_1.toNat true) (x_0.ftodo++[i_1]))
 else
  some x_0
theorem iK (x_0:dB)(i_1:Int)(r:dB)(h0:fu x_0 i_1=some r):bH Tryz.prog 39 [.ptr 1000000 0,.p (eI i_1)] [(1000000,[.p (eL ao x_0.fchanges),.arr 1000001 1 0 x_0.fresources.length,.arr 1000002 1 0 x_0.fchosen.length,.stk 900000 1 (x_0.ftodo.map eI)]),(1000001,(x_0.fresources.map eS).map .p),(1000002,(x_0.fchosen.map eB).map .p)] (λ x y=>x=.tuple []∧y=[(1000000,[.p (eL ao r.fchanges),.arr 1000001 1 0 r.fresources.length,.arr 1000002 1 0 r.fchosen.length,.stk 2000000 1 (r.ftodo.map eI)]),(1000001,(r.fresources.map eS).map .p),(1000002,(r.fchosen.map eB).map .p)]):=by
 unfold fu at h0
 refine gh good [800000] [1000000,1000001,1000002] Tryz.func39 rfl rfl rfl rfl rfl λ w0 F=>mPo (λ v:dB=>.tuple []) (λ v=>[(1000000,[.p (eL ao v.fchanges),.arr 1000001 1 0 v.fresources.length,.arr 1000002 1 0 v.fchosen.length,.stk 2000000 1 (v.ftodo.map eI)]),(1000001,(v.fresources.map eS).map .p),(1000002,(v.fchosen.map eB).map .p)]) ?_
 refine nx 7 rfl (cc' h0 λ hk1 h0=>mO rfl (aG rfl rfl rfl rfl rfl rfl rfl rfl rfl hk1 (mO rfl (bh (default:Bool) (f:=eB) (l:=x_0.fchosen) rfl rfl rfl rfl rfl rfl rfl (by have:=hk1; omega) (nx 2 rfl (fB [11] h0 rfl (λ c2 h0=>?_) λ c2 h0=>?_))))))
 ·refine nx 8 rfl (cc' h0 λ hk3 h0=>mO rfl (aG rfl rfl rfl rfl rfl rfl rfl rfl rfl hk3 (mO rfl (bU (f:=eB) (l:=x_0.fchosen) (b:=true) rfl rfl rfl rfl rfl rfl rfl rfl (by have:=hk3; omega) (nx 8 rfl (mO rfl (bn eI [i_1] rfl rfl rfl rfl rfl rfl rfl rfl rfl rfl rfl rfl rfl rfl (cc' h0 λ hk4 h0=>?_))))))))
  skip; refine mO rfl (tX eI (λ _=>⟨rfl,rfl⟩) x_0.ftodo [i_1] rfl rfl rfl rfl rfl rfl rfl rfl rfl rfl rfl rfl (Nat.zero_lt_succ _) rfl rfl rfl hk4 rfl (by repeat (first | exact rfl | apply mJ rfl | apply dmO_drop rfl | apply nc rfl rfl)) ?_)
  refine nx 4 rfl ?_
  skip; refine mG (bm 900000 800000 rfl rfl rfl rfl (by repeat (first | exact rfl | exact aJ _ | apply aF))) ?_
  exact Bn (oi h0) (bM _) rfl rfl rfl (aF rfl rfl (aF rfl (aJ _) (aF rfl (aJ _) rfl))) (sr) ⟨⟨_,rfl,⟨sr,sr,AV.sub_of_eq (by first | rfl | (simp; done) | (simp [AV.dem]; rfl)),sr,trivial⟩⟩,⟨_,rfl,ag _⟩,⟨_,rfl,ag _⟩,trivial⟩
 refine nx 2 rfl ?_
 skip; refine mG (bm 900000 800000 rfl rfl rfl rfl (by repeat (first | exact rfl | exact aJ _ | apply aF))) ?_
 exact Bn (oi h0) (bM _) rfl rfl rfl (aF rfl rfl (aF rfl (aJ _) (aF rfl (aJ _) rfl))) (sr) ⟨⟨_,rfl,⟨sr,sr,sr,sr,trivial⟩⟩,⟨_,rfl,ag _⟩,⟨_,rfl,ag _⟩,trivial⟩
def bq (s_0:List Bytes)(v_1:Bytes):Nat→Int→Option (Unit⊕Int)
 | 0,_=>none
 | m+1,t6 =>
 if t6 < (s_0.length:Int) then
  ck ((0:Int)≤t6∧t6 < (s_0.length:Int)) <|
  if v_1=lat s_0 t6 then
   some (.inr t6)
  else
   ck (inR (t6+1)) <|
   bq s_0 v_1 m (t6+1)
 else
  some (.inl ())
def ct (n:Nat)(s_0:List Bytes)(v_1:Bytes):Option Int :=
 jn (bq s_0 v_1 n 0) λ q12 =>
 some (-1)
theorem kl (n:Nat)(s_0:List Bytes)(v_1:Bytes)(r:Int)(h0:ct n s_0 v_1=some r):aw Tryz.prog 89 [eL eS s_0,eS v_1] (·=.p (eI r)):=by
 unfold ct at h0
 refine a6 good Tryz.func89 rfl rfl rfl λ w0=>mP (λ v:Int=>.p (eI v)) ?_
 refine nx 8 rfl (oLl (f:=eS) rfl rfl (nx 3 rfl ?_))
 obtain ⟨o13,h1,hL0,hR0⟩:=fQ h0
 refine kEx 0 (λ v14:Unit=>o13=.inl v14) (λ v14=>⟨[],[]⟩) (λ v14 hv=>?_) ?_
 ·have h0:=hL0 _ hv
  exact nx 6 rfl (mQ (oi h0) rfl (sr))
 refine lG (λ (q15:Int)=>⟨[(0,.p (eL eS s_0)),(1,.p (eS v_1)),(7,.p (eI (s_0.length:Int))),(8,.p (eI q15))],[]⟩) (λ m (q15:Int)=>bq s_0 v_1 m q15) (λ _=>rfl) 0 h1 (gE rfl rfl) ?_
 rintro m t6 h1
 replace h1:bq s_0 v_1 (m+1) t6=some o13:=h1
 rw [bq] at h1
 refine nx 5 rfl (fD [9] h1 rfl (λ c7 h1=>?_) λ c7 h1=>?_)
 ·refine nx 14 rfl (oE h1 (λ _=>rfl) rfl rfl (λ _=>rfl) λ hk8 h1=>nx 1 rfl (oS rfl rfl (nx 1 rfl (fD [16] h1 rfl (λ c9 h1=>?_) λ c9 h1=>?_))))
  ·exact nx 7 rfl (mQ (hR0 _ (oi h1).symm) rfl (sr))
  exact nx 3 rfl (oA h1 rfl rfl λ hk10 h1=>nx 2 rfl (eX (t6+1) h1 (gE rfl rfl)))
 exact nx 2 rfl (eXi _ (oi h1).symm (gE rfl rfl))
def bP (n:Nat)(s_0:List Bytes)(v_1:Bytes):Option Bool :=
 (ct n s_0 v_1).bind λ r1 =>
 some (decide (0≤r1))
theorem ci (n:Nat)(s_0:List Bytes)(v_1:Bytes)(r:Bool)(h0:bP n s_0 v_1=some r):aw Tryz.prog 62 [eL eS s_0,eS v_1] (·=.p (eB r)):=by
 unfold bP at h0
 refine a6 good Tryz.func62 rfl rfl rfl λ w0=>mP (λ v:Bool=>.p (eB v)) ?_
 exact nx 8 rfl (bd h0 λ r1 e2 h0=>oK (kl _ s_0 v_1 _ e2) rfl ⟨sr,sr,trivial⟩ Tryz.call89 rfl (nx 4 rfl (mQ (oi h0) rfl (sr))))
def lf (c_0:az):Option Bool :=
 (
   if c_0.fAction=4 then
    some true
   else
    some (decide (c_0.fAction=3))
  : Option Bool).bind λ t2 =>
 some t2
theorem jw (c_0:az)(r:Bool)(h0:lf c_0=some r):aw Tryz.prog 63 [.agg (az.cs c_0)] (·=.p (eB r)):=by
 unfold lf at h0
 refine a6 good Tryz.func63 rfl rfl rfl λ w0=>mP (λ v:Bool=>.p (eB v)) ?_
 refine nx 6 rfl (bd h0 λ o4 h1 h0=>?_)
 refine kN o4 (λ v5=>⟨[(2,.p (eB v5))],[]⟩) ?_ ?_
 ·exact nx 2 rfl (mQ (oi h0) rfl (sr))
 refine nx 5 rfl (fD [5,6] h1 rfl (λ c1 h1=>?_) λ c1 h1=>?_)
 ·exact nx 6 rfl (eX _ (oi h1).symm (gE rfl rfl))
 exact nx 6 rfl (eX _ (oi h1).symm (gE rfl rfl))
def b7 (n:Nat)(x_0:dB)(i_1:Int):Nat→Int→(List az)→(List Int)→(List Bytes)→(List Bool)→Option ((List az)×(List Int)×(List Bytes)×(List Bool))
 | 0,_,_,_,_,_=>none
 | m+1,t29,f30,f31,l32,l33 =>
 if t29 < (x_0.fchanges.length:Int) then
  (
    ck ((0:Int)≤t29∧t29 < (x_0.fchanges.length:Int)) <|
    (
      ck ((0:Int)≤t29∧t29 < (l32.length:Int)) <|
      (bP n ((lat x_0.fchanges i_1).fDeps) (lat l32 t29)).bind λ r37 =>
      if r37=true then
       some true
      else
       (lf (lat x_0.fchanges i_1)).bind λ r40 =>
       if r40=true then
        if (lat x_0.fchanges t29).fAction=0 then
         some false
        else
         ck ((0:Int)≤i_1∧i_1 < (l32.length:Int)) <|
         (bP n ((lat x_0.fchanges t29).fOldDeps) (lat l32 i_1)).bind λ r45 =>
         some r45
       else
        some false
     : Option Bool).bind λ t47 =>
    if t47=true then
     (fu (dB.mk f30 l32 l33 f31) t29).bind λ r49 =>
     some (r49.fchanges,r49.ftodo,r49.fresources,r49.fchosen)
    else
     some (f30,f31,l32,l33)
   : Option ((List az)×(List Int)×(List Bytes)×(List Bool))).bind λ q66 =>
  ck (inR (t29+1)) <|
  b7 n x_0 i_1 m (t29+1) q66.1 q66.2.1 q66.2.2.1 q66.2.2.2
 else
  some (f30,f31,l32,l33)
def dz (n:Nat)(x_0:dB)(i_1:Int):Option dB :=
 ck ((0:Int)≤i_1∧i_1 < (x_0.fchanges.length:Int)) <|
 (b7 n x_0 i_1 n 0 x_0.fchanges x_0.ftodo x_0.fresources x_0.fchosen).bind λ q65 =>
 some (dB.mk q65.1 q65.2.2.1 q65.2.2.2 q65.2.1)
theorem lZ (n:Nat)(x_0:dB)(i_1:Int)(r:dB)(h0:dz n x_0 i_1=some r):bH Tryz.prog 40 [.ptr 1000000 0,.p (eI i_1)] [(1000000,[.p (eL ao x_0.fchanges),.arr 1000001 1 0 x_0.fresources.length,.arr 1000002 1 0 x_0.fchosen.length,.stk 900000 1 (x_0.ftodo.map eI)]),(1000001,(x_0.fresources.map eS).map .p),(1000002,(x_0.fchosen.map eB).map .p)] (λ x y=>x=.tuple []∧y=[(1000000,[.p (eL ao r.fchanges),.arr 1000001 1 0 r.fresources.length,.arr 1000002 1 0 r.fchosen.length,.stk 2000000 1 (r.ftodo.map eI)]),(1000001,(r.fresources.map eS).map .p),(1000002,(r.fchosen.map eB).map .p)]):=by
 unfold dz at h0
 refine gh good [800000] [1000000,1000001,1000002] Tryz.func40 rfl rfl rfl rfl rfl λ w0 F=>mPo (λ v:dB=>.tuple []) (λ v=>[(1000000,[.p (eL ao v.fchanges),.arr 1000001 1 0 v.fresources.length,.arr 1000002 1 0 v.fchosen.length,.stk 2000000 1 (v.ftodo.map eI)]),(1000001,(v.fresources.map eS).map .p),(1000002,(v.fchosen.map eB).map .p)]) ?_
 refine nx 7 rfl (oE h0 az.cells_eq rfl rfl (λ _=>rfl) λ hk1 h0=>nx 1 rfl (mO rfl (md rfl rfl rfl rfl rfl (mG (mj (show lJ _ _=_ from (by repeat (first | exact ja _ | apply demOb_drop rfl | apply dh rfl (nb _ _) | apply dh rfl rfl)))) (nx 8 rfl (oLl (f:=ao) rfl rfl (nx 3 rfl (bd h0 λ o68 h1 h0=>kE 0 o68 (λ v69=>⟨[],[(1000000,[.p (eL ao v69.1),.arr 1000001 1 0 v69.2.2.1.length,.arr 1000002 1 0 v69.2.2.2.length,.stk 900000 1 (v69.2.1.map eI)]),(1000001,(v69.2.2.1.map eS).map .p),(1000002,(v69.2.2.2.map eB).map .p)]⟩) ?_ ?_))))))))
 ·refine nx 1 rfl ?_
  skip; refine mG (bm 900000 800000 rfl rfl rfl rfl (by repeat (first | exact rfl | exact aJ _ | apply aF))) ?_
  exact Bn (oi h0) (bM _) rfl rfl rfl (aF rfl rfl (aF rfl (aJ _) (aF rfl (aJ _) rfl))) (sr) ⟨⟨_,rfl,⟨sr,sr,sr,sr,trivial⟩⟩,⟨_,rfl,ag _⟩,⟨_,rfl,ag _⟩,trivial⟩
 refine lG (λ (q70:Int×(List az)×(List Int)×(List Bytes)×(List Bool))=>⟨[(0,.ptr 1000000 0),(1,.p (eI i_1)),(4,.ptr 4 0),(17,.p (eL ao x_0.fchanges)),(18,.p (eI (x_0.fchanges.length:Int))),(19,.p (eI q70.1))],[(4,(az.cs (lat x_0.fchanges i_1)).map .p),(1000000,[.p (eL ao q70.2.1),.arr 1000001 1 0 q70.2.2.2.1.length,.arr 1000002 1 0 q70.2.2.2.2.length,.stk 900000 1 (q70.2.2.1.map eI)]),(1000001,(q70.2.2.2.1.map eS).map .p),(1000002,(q70.2.2.2.2.map eB).map .p)]⟩) (λ m (q70:Int×(List az)×(List Int)×(List Bytes)×(List Bool))=>b7 n x_0 i_1 m q70.1 q70.2.1 q70.2.2.1 q70.2.2.2.1 q70.2.2.2.2) (λ _=>rfl) (0,x_0.fchanges,x_0.ftodo,x_0.fresources,x_0.fchosen) h1 (aW (bo ⟨er rfl,er rfl,er rfl,er rfl,er rfl,er rfl,trivial⟩ ⟨⟨_,rfl,⟨sr,sr,sr,sr,sr,sr,sr,sr,sr,sr,sr,sr,sr,sr,sr,sr,sr,sr,sr,sr,sr,sr,trivial⟩⟩,⟨_,rfl,⟨sr,AV.sub_of_eq (by first | rfl | (simp; done) | (simp [AV.dem]; rfl)),AV.sub_of_eq (by first | rfl | (simp; done) | (simp [AV.dem]; rfl)),sr,trivial⟩⟩,⟨_,rfl,ag _⟩,⟨_,rfl,ag _⟩,trivial⟩)) ?_
 rintro m ⟨t29,f30,f31,l32,l33⟩ h1
 replace h1:b7 n x_0 i_1 (m+1) t29 f30 f31 l32 l33=some o68:=h1
 rw [b7] at h1
 refine nx 5 rfl (fD [20] h1 rfl (λ c34 h1=>?_) λ c34 h1=>?_)
 ·refine nx 3 rfl (bd h1 λ o71 h2 h1=>?_)
  refine kN o71 (λ v72=>⟨[(0,.ptr 1000000 0),(1,.p (eI i_1)),(4,.ptr 4 0),(17,.p (eL ao x_0.fchanges)),(18,.p (eI (x_0.fchanges.length:Int))),(19,.p (eI t29))],[(4,(az.cs (lat x_0.fchanges i_1)).map .p),(1000000,[.p (eL ao v72.1),.arr 1000001 1 0 v72.2.2.1.length,.arr 1000002 1 0 v72.2.2.2.length,.stk 900000 1 (v72.2.1.map eI)]),(1000001,(v72.2.2.1.map eS).map .p),(1000002,(v72.2.2.2.map eB).map .p)]⟩) ?_ ?_
  ·exact nx 2 rfl (oA h1 rfl rfl λ hk55 h1=>nx 2 rfl (eX (t29+1,o71.1,o71.2.1,o71.2.2.1,o71.2.2.2) h1 (aW (bo ⟨er rfl,er rfl,er rfl,er rfl,er rfl,er rfl,trivial⟩ ⟨⟨_,rfl,⟨sr,sr,sr,sr,sr,sr,sr,sr,sr,sr,sr,sr,sr,sr,sr,sr,sr,sr,sr,sr,sr,sr,trivial⟩⟩,⟨_,rfl,⟨sr,AV.sub_of_eq (by first | rfl | (simp; done) | (simp [AV.dem]; rfl)),AV.sub_of_eq (by first | rfl | (simp; done) | (simp [AV.dem]; rfl)),sr,trivial⟩⟩,⟨_,rfl,ag _⟩,⟨_,rfl,ag _⟩,trivial⟩))))
  refine nx 4 rfl (oE h2 az.cells_eq rfl rfl (λ _=>rfl) λ hk35 h2=>nx 1 rfl (mO rfl (md rfl rfl rfl rfl rfl (mG (mj (show lJ _ _=_ from (by repeat (first | exact ja _ | apply demOb_drop rfl | apply dh rfl (nb _ _) | apply dh rfl rfl)))) (nx 4 rfl (bd h2 λ o73 h3 h2=>kN o73 (λ v74=>⟨[(0,.ptr 1000000 0),(1,.p (eI i_1)),(4,.ptr 4 0),(5,.p (eI t29)),(17,.p (eL ao x_0.fchanges)),(18,.p (eI (x_0.fchanges.length:Int))),(19,.p (eI t29)),(54,.p (eB v74))],[(4,(az.cs (lat x_0.fchanges i_1)).map .p),(1000000,[.p (eL ao f30),.arr 1000001 1 0 l32.length,.arr 1000002 1 0 l33.length,.stk 900000 1 (f31.map eI)]),(1000001,(l32.map eS).map .p),(1000002,(l33.map eB).map .p)]⟩) ?_ ?_))))))
  ·refine nx 1 rfl (fB [54] h2 rfl (λ c48 h2=>?_) λ c48 h2=>?_)
   ·refine nx 4 rfl (bd h2 λ r49 e50 h2=>mO rfl (bS [1000000,1000001,1000002] [900000] 102000 102001 (iK (dB.mk f30 l32 l33 f31) t29 _ e50) rfl rfl rfl rfl rfl ⟨sr,sr,trivial⟩ rfl (aF rfl rfl (aF rfl (aJ _) (aF rfl (aJ _) rfl))) ⟨⟨_,rfl,⟨sr,sr,sr,sr,trivial⟩⟩,⟨_,rfl,ag _⟩,⟨_,rfl,ag _⟩,trivial⟩ rfl rfl rfl rfl rfl rfl rfl rfl Tryz.call39 rfl (aF rfl rfl (aF rfl (aJ _) (aF rfl (aJ _) rfl))) (nx 1 rfl ?_)))
    skip; refine mG (bm 102000 900000 rfl rfl rfl rfl (by repeat (first | exact rfl | exact aJ _ | apply aF))) ?_
    exact eX _ (oi h2).symm (aW (bo ⟨er rfl,er rfl,er rfl,er rfl,er rfl,er rfl,trivial⟩ ⟨⟨_,rfl,⟨sr,sr,sr,sr,sr,sr,sr,sr,sr,sr,sr,sr,sr,sr,sr,sr,sr,sr,sr,sr,sr,sr,trivial⟩⟩,⟨_,rfl,⟨sr,AV.sub_of_eq (by first | rfl | (simp; done) | (simp [AV.dem]; rfl)),AV.sub_of_eq (by first | rfl | (simp; done) | (simp [AV.dem]; rfl)),sr,trivial⟩⟩,⟨_,rfl,ag _⟩,⟨_,rfl,ag _⟩,trivial⟩))
   exact nx 2 rfl (eX _ (oi h2).symm (aW (bo ⟨er rfl,er rfl,er rfl,er rfl,er rfl,er rfl,trivial⟩ ⟨⟨_,rfl,⟨sr,sr,sr,sr,sr,sr,sr,sr,sr,sr,sr,sr,sr,sr,sr,sr,sr,sr,sr,sr,sr,sr,trivial⟩⟩,⟨_,rfl,⟨sr,AV.sub_of_eq (by first | rfl | (simp; done) | (simp [AV.dem]; rfl)),AV.sub_of_eq (by first | rfl | (simp; done) | (simp [AV.dem]; rfl)),sr,trivial⟩⟩,⟨_,rfl,ag _⟩,⟨_,rfl,ag _⟩,trivial⟩)))
  refine cc' h3 λ hk36 h3=>bd h3 λ r37 e38 h3=>fB (p:=r37) [] h3 rfl (λ c39 h3=>?_) λ c39 h3=>?_
  ·exact mD [(0,.ptr 1000000 0),(1,.p (eI i_1)),(4,.ptr 4 0),(5,.p (eI t29)),(6,.ptr 6 0),(17,.p (eL ao x_0.fchanges)),(18,.p (eI (x_0.fchanges.length:Int))),(19,.p (eI t29))] rfl ⟨rfl,rfl,rfl,rfl,rfl,rfl,rfl,rfl,trivial⟩ rfl (dR 7 rfl (dq (.ptr 1000001 t29.toNat) [29,30] rfl (λ _ e _ q=>ay rfl (aG rfl rfl rfl rfl rfl rfl (e _ _ rfl) (e _ _ rfl) rfl hk36 q)) rfl (dq (.p (eS (lat l32 t29))) [31] rfl (λ _ e _ q=>ay rfl (bh (default:Bytes) (f:=eS) (l:=l32) rfl rfl rfl rfl rfl (e _ _ rfl) rfl (by have:=hk36; omega) q)) rfl (dq (.p (eB r37)) [25,32] rfl (λ _ e _ q=>ay rfl (b6 (ci _ ((lat x_0.fchanges i_1).fDeps) (lat l32 t29) _ e38) rfl rfl rfl (aX (e _ _ rfl) (aX (e _ _ rfl) b5)) ⟨sr,sr,trivial⟩ Tryz.call62 rfl q)) rfl (dL (c39) rfl (dR 20 rfl (dE rfl (nx 1 rfl (eX _ (oi h3).symm (gE rfl rfl))))))))))
  refine bd h3 λ r40 e41 h3=>fB (p:=r40) [] h3 rfl (λ c42 h3=>?_) λ c42 h3=>?_
  ·refine fN (p:=(lat x_0.fchanges t29).fAction=0) [] h3 rfl (λ c43 h3=>?_) λ c43 h3=>?_
   ·refine mD [(0,.ptr 1000000 0),(1,.p (eI i_1)),(4,.ptr 4 0),(5,.p (eI t29)),(6,.ptr 6 0),(17,.p (eL ao x_0.fchanges)),(18,.p (eI (x_0.fchanges.length:Int))),(19,.p (eI t29))] rfl ⟨rfl,rfl,rfl,rfl,rfl,rfl,rfl,rfl,trivial⟩ rfl (dR 7 rfl (dq (.ptr 1000001 t29.toNat) [29,30] rfl (λ _ e _ q=>ay rfl (aG rfl rfl rfl rfl rfl rfl (e _ _ rfl) (e _ _ rfl) rfl hk36 q)) rfl (dq (.p (eS (lat l32 t29))) [31] rfl (λ _ e _ q=>ay rfl (bh (default:Bytes) (f:=eS) (l:=l32) rfl rfl rfl rfl rfl (e _ _ rfl) rfl (by have:=hk36; omega) q)) rfl (dq (.p (eB r37)) [25,32] rfl (λ _ e _ q=>ay rfl (b6 (ci _ ((lat x_0.fchanges i_1).fDeps) (lat l32 t29) _ e38) rfl rfl rfl (aX (e _ _ rfl) (aX (e _ _ rfl) b5)) ⟨sr,sr,trivial⟩ Tryz.call62 rfl q)) rfl (dL (c39) rfl (dR 1 rfl (dq (.p (eB r40)) [34,35] rfl (λ _ e _ q=>cm (b6 (jw (lat x_0.fchanges i_1) _ e41) rfl rfl rfl (aX (e _ _ rfl) b5) ⟨sr,trivial⟩ Tryz.call63 rfl q) rfl rfl (e _ _ rfl) (rfl)) rfl (dL (c42) rfl (dR 2 rfl (dL (aE c43) rfl (dR 14 rfl ?_)))))))))))
    refine dE rfl (nx 1 rfl ?_)
    exact eX _ (oi h3).symm (gE rfl rfl)
   refine cc' h3 λ hk44 h3=>bd h3 λ r45 e46 h3=>mD [(0,.ptr 1000000 0),(1,.p (eI i_1)),(4,.ptr 4 0),(5,.p (eI t29)),(6,.ptr 6 0),(17,.p (eL ao x_0.fchanges)),(18,.p (eI (x_0.fchanges.length:Int))),(19,.p (eI t29))] rfl ⟨rfl,rfl,rfl,rfl,rfl,rfl,rfl,rfl,trivial⟩ rfl (dR 7 rfl (dq (.ptr 1000001 t29.toNat) [29,30] rfl (λ _ e _ q=>ay rfl (aG rfl rfl rfl rfl rfl rfl (e _ _ rfl) (e _ _ rfl) rfl hk36 q)) rfl (dq (.p (eS (lat l32 t29))) [31] rfl (λ _ e _ q=>ay rfl (bh (default:Bytes) (f:=eS) (l:=l32) rfl rfl rfl rfl rfl (e _ _ rfl) rfl (by have:=hk36; omega) q)) rfl (dq (.p (eB r37)) [25,32] rfl (λ _ e _ q=>ay rfl (b6 (ci _ ((lat x_0.fchanges i_1).fDeps) (lat l32 t29) _ e38) rfl rfl rfl (aX (e _ _ rfl) (aX (e _ _ rfl) b5)) ⟨sr,sr,trivial⟩ Tryz.call62 rfl q)) rfl (dL (c39) rfl (dR 1 rfl (dq (.p (eB r40)) [34,35] rfl (λ _ e _ q=>cm (b6 (jw (lat x_0.fchanges i_1) _ e41) rfl rfl rfl (aX (e _ _ rfl) b5) ⟨sr,trivial⟩ Tryz.call63 rfl q) rfl rfl (e _ _ rfl) (rfl)) rfl (dL (c42) rfl (dR 2 rfl (dL (aN c43) rfl (dR 9 rfl (dq (.ptr 1000001 i_1.toNat) [42,48,49] rfl (λ _ e _ q=>cm (aG rfl rfl rfl rfl rfl rfl (e _ _ rfl) (e _ _ rfl) rfl hk44 q) rfl rfl (e _ _ rfl) (rfl)) rfl (dq (.p (eS (lat l32 i_1))) [42,50] rfl (λ _ e _ q=>cm (bh (default:Bytes) (f:=eS) (l:=l32) rfl rfl rfl rfl rfl (e _ _ rfl) rfl (by have:=hk44; omega) q) rfl rfl (e _ _ rfl) (rfl)) rfl ?_)))))))))))))
   refine dq (.p (eB r45)) [42,44,51] rfl (λ _ e _ q=>cm (b6 (ci _ ((lat x_0.fchanges t29).fOldDeps) (lat l32 i_1) _ e46) rfl rfl rfl (aX (e _ _ rfl) (aX (e _ _ rfl) b5)) ⟨sr,sr,trivial⟩ Tryz.call62 rfl q) rfl rfl (e _ _ rfl) (rfl)) rfl (dR 2 rfl ?_)
   refine dE rfl (nx 1 rfl ?_)
   exact eX _ (oi h3).symm (gE rfl rfl)
  refine mD [(0,.ptr 1000000 0),(1,.p (eI i_1)),(4,.ptr 4 0),(5,.p (eI t29)),(6,.ptr 6 0),(17,.p (eL ao x_0.fchanges)),(18,.p (eI (x_0.fchanges.length:Int))),(19,.p (eI t29))] rfl ⟨rfl,rfl,rfl,rfl,rfl,rfl,rfl,rfl,trivial⟩ rfl (dR 7 rfl (dq (.ptr 1000001 t29.toNat) [29,30] rfl (λ _ e _ q=>ay rfl (aG rfl rfl rfl rfl rfl rfl (e _ _ rfl) (e _ _ rfl) rfl hk36 q)) rfl (dq (.p (eS (lat l32 t29))) [31] rfl (λ _ e _ q=>ay rfl (bh (default:Bytes) (f:=eS) (l:=l32) rfl rfl rfl rfl rfl (e _ _ rfl) rfl (by have:=hk36; omega) q)) rfl (dq (.p (eB r37)) [25,32] rfl (λ _ e _ q=>ay rfl (b6 (ci _ ((lat x_0.fchanges i_1).fDeps) (lat l32 t29) _ e38) rfl rfl rfl (aX (e _ _ rfl) (aX (e _ _ rfl) b5)) ⟨sr,sr,trivial⟩ Tryz.call62 rfl q)) rfl (dL (c39) rfl (dR 1 rfl (dq (.p (eB r40)) [34,35] rfl (λ _ e _ q=>cm (b6 (jw (lat x_0.fchanges i_1) _ e41) rfl rfl rfl (aX (e _ _ rfl) b5) ⟨sr,trivial⟩ Tryz.call63 rfl q) rfl rfl (e _ _ rfl) (rfl)) rfl (dL (c42) rfl (dR 17 rfl ?_)))))))))
  refine dE rfl (nx 1 rfl ?_)
  exact eX _ (oi h3).symm (gE rfl rfl)
 exact nx 2 rfl (eXi _ (oi h1).symm (aW (bo trivial ⟨⟨_,rfl,⟨sr,AV.sub_of_eq (by first | rfl | (simp; done) | (simp [AV.dem]; rfl)),AV.sub_of_eq (by first | rfl | (simp; done) | (simp [AV.dem]; rfl)),sr,trivial⟩⟩,⟨_,rfl,ag _⟩,⟨_,rfl,ag _⟩,trivial⟩)))
def ea (r_target_copied:aH→Option aH):Nat→Option Unit
 | 0=>none
 | m+1 =>
 if 0 < (([]:List aH).length:Int) then
  ck ((0:Int)≤0∧0 < (([]:List aH).length:Int)) <|
  (r_target_copied (lat ([]:List aH) 0)).bind λ r6 =>
  ck ((0:Int)≤0∧0 < (([]:List aH).length:Int)) <|
  none
 else
  some ()
def dT (r_target_copied:aH→Option aH)(v_0:aH):Nat→Int→(List aH)→Option (List aH)
 | 0,_,_=>none
 | m+1,t17,l18 =>
 if t17 < (v_0.fItems.length:Int) then
  ck ((0:Int)≤t17∧t17 < (l18.length:Int)) <|
  (r_target_copied (lat l18 t17)).bind λ r21 =>
  ck ((0:Int)≤t17∧t17 < (l18.length:Int)) <|
  ck (inR (t17+1)) <|
  dT r_target_copied v_0 m (t17+1) (l18.set t17.toNat r21)
 else
  some l18
def cp:Nat→aH→Option aH
 | 0,_=>none
 | n+1,v_0 =>
 ck (v_0.fKeys.length*16≤140737488355328) <|
 if v_0.fItems.isEmpty=true then
  (ea (cp n) n ).bind λ q28 =>
  some (aH.mk v_0.fKind v_0.fNum v_0.fStr ([]:List aH) v_0.fKeys)
 else
  ck (v_0.fItems.length*80≤140737488355328) <|
  (dT (cp n) v_0 n 0 v_0.fItems).bind λ l27 =>
  some (aH.mk v_0.fKind v_0.fNum v_0.fStr l27 v_0.fKeys)
theorem mF (n:Nat):∀ (v_0:aH) (r:aH),cp n v_0=some r→aw Tryz.prog 64 [.agg (aH.cs v_0)] (·=.p (.agg (aH.cs r))):=by
 induction n with
 | zero=>intro v_0 r h0; cases h0
 | succ n ih =>
 have ih_target_copied_ok:=ih
 intro v_0 r h0
 rw [cp] at h0
 refine a6 good Tryz.func64 rfl rfl rfl λ w0=>mP (λ v:aH=>.p (.agg (aH.cs v))) ?_
 refine nx 9 rfl (cc' h0 λ hk1 h0=>oK (cy v_0.fKeys hk1) rfl ⟨sr,trivial⟩ Tryz.call65 rfl (nx 7 rfl ?_))
 refine yu (b:=v_0.fItems.isEmpty) (λ c2=>?_) (λ c2=>?_)
 ·replace h0:=Ak c2 h0
  refine mO rfl (b6 (iz v_0.fItems c2) rfl rfl rfl rfl ⟨sr,trivial⟩ Tryz.call90 rfl (nx 8 rfl (oLl (f:=b4) rfl rfl (nx 3 rfl (bd h0 λ o30 h1 h0=>?_)))))
  refine kE 0 o30 (λ v31=>⟨[(1,.ptr 1 0),(2,.ptr 2 0)],[(1,[.p (eI v_0.fKind),.p (eI v_0.fNum),.p (eS v_0.fStr),.p (eL b4 ([]:List aH)),.p (eL eS v_0.fKeys)]),(2,m8)]⟩) ?_ ?_
  ·exact nx 7 rfl (mQ (oi h0) rfl (sr))
  refine lG (λ (q32:Unit)=>⟨[(1,.ptr 1 0),(2,.ptr 2 0),(14,.p (eI (([]:List aH).length:Int))),(15,.p (eI 0))],[(1,[.p (eI v_0.fKind),.p (eI v_0.fNum),.p (eS v_0.fStr),.p (eL b4 ([]:List aH)),.p (eL eS v_0.fKeys)]),(2,m8)]⟩) (λ m (q32:Unit)=>ea (cp n) m ) (λ _=>rfl) () h1 (gE rfl rfl) ?_
  rintro m _ h1
  replace h1:ea (cp n) (m+1)  = some o30:=h1
  rw [ea] at h1
  refine nx 5 rfl (fD [16] h1 rfl (λ c4 h1=>?_) λ c4 h1=>?_)
  ·refine nx 9 rfl (cc' h1 λ hk5 h1=>bd h1 λ r6 e7 h1=>cc' h1 λ hk8 h1=>?_)
   cases h1
  exact nx 2 rfl (eXi _ (oi h1).symm (gE rfl rfl))
 replace h0:=Bs c2 h0
 refine cc' h0 λ hk3 h0=>mO rfl (bS [] [] 101000 101001 (ix v_0.fItems c2 hk3) rfl rfl rfl rfl rfl ⟨sr,trivial⟩ rfl rfl trivial rfl rfl rfl rfl rfl rfl rfl rfl Tryz.call90 rfl (aF rfl (aJ _) rfl) (nx 12 rfl (bd h0 λ o33 h1 h0=>?_)))
 refine kE 0 o33 (λ v34=>⟨[(1,.ptr 1 0),(2,.ptr 2 0)],[(1,[.p (eI v_0.fKind),.p (eI v_0.fNum),.p (eS v_0.fStr),.arr 101000 5 0 v34.length,.p (eL eS v_0.fKeys)]),(2,m8),(101000,iF b4 v34)]⟩) ?_ ?_
 ·exact nx 3 rfl (mG (po (sl':=[(1,.ptr 1 0),(2,.ptr 2 0)]) (ob':=[(1,[.p (eI v_0.fKind),.p (eI v_0.fNum),.p (eS v_0.fStr),.p (eL b4 o33),.p (eL eS v_0.fKeys)]),(2,m8)]) 101000 5 b4 o33 rfl rfl rfl (λ x=>⟨congrArg List.length (aH.cells_eq x),by rw [aH.cells_eq]; rfl⟩) ⟨⟨_,rfl,.inl rfl⟩,⟨_,rfl,.inl rfl⟩,trivial⟩ ⟨⟨rfl,_,rfl,⟨.inl rfl,.inl rfl,.inl rfl,.inr ⟨(by simp),rfl⟩,.inl rfl,trivial⟩⟩,⟨rfl,_,rfl,⟨.inl rfl,.inl rfl,.inl rfl,.inl rfl,.inl rfl,trivial⟩⟩,trivial⟩) (nx 4 rfl (mQ (oi h0) rfl (sr))))
 refine lG (λ (q35:Int×(List aH))=>⟨[(1,.ptr 1 0),(2,.ptr 2 0),(14,.p (eI (v_0.fItems.length:Int))),(15,.p (eI q35.1))],[(1,[.p (eI v_0.fKind),.p (eI v_0.fNum),.p (eS v_0.fStr),.arr 101000 5 0 q35.2.length,.p (eL eS v_0.fKeys)]),(2,m8),(101000,iF b4 q35.2)]⟩) (λ m (q35:Int×(List aH))=>dT (cp n) v_0 m q35.1 q35.2) (λ _=>rfl) (0,v_0.fItems) h1 (aW (bo ⟨er rfl,er rfl,er rfl,er rfl,trivial⟩ ⟨⟨_,rfl,⟨sr,sr,sr,AV.sub_of_eq (congrArg (AV.arr 101000 5 0) (by simp)),sr,trivial⟩⟩,⟨_,rfl,⟨sr,sr,sr,sr,sr,trivial⟩⟩,⟨_,rfl,ag _⟩,trivial⟩)) ?_
 rintro m ⟨t17,l18⟩ h1
 replace h1:dT (cp n) v_0 (m+1) t17 l18=some o33:=h1
 rw [dT] at h1
 refine nx 5 rfl (fD [16] h1 rfl (λ c19 h1=>?_) λ c19 h1=>?_)
 ·refine nx 9 rfl (cc' h1 λ hk20 h1=>bd h1 λ r21 e22 h1=>cc' h1 λ hk23 h1=>mG (aW (t:=⟨[(1,.ptr 1 0),(2,.ptr 2 0),(3,.p (eI t17)),(14,.p (eI (v_0.fItems.length:Int))),(15,.p (eI t17))],[(1,[.p (eI v_0.fKind),.p (eI v_0.fNum),.p (eS v_0.fStr),.arr 101000 5 0 l18.length,.p (eL eS v_0.fKeys)]),(2,m8),(101000,iF b4 l18)]⟩) (bo ⟨er rfl,er rfl,er rfl,er rfl,er rfl,trivial⟩ ⟨⟨_,rfl,⟨sr,sr,sr,AV.sub_of_eq (congrArg (AV.arr 101000 5 0) (by simp)),sr,trivial⟩⟩,⟨_,rfl,⟨sr,sr,sr,sr,sr,trivial⟩⟩,⟨_,rfl,ag _⟩,trivial⟩)) (mSq ⟨1,[10],(λ _=>.none),(λ _=>[(1,.ptr 1 0),(2,.ptr 2 0),(3,.p (eI t17)),(14,.p (eI (v_0.fItems.length:Int))),(15,.p (eI t17))]),(ob2 ([(1,[.p (eI v_0.fKind),.p (eI v_0.fNum),.p (eS v_0.fStr),.arr 101000 5 0 l18.length,.p (eL eS v_0.fKeys)]),(2,m8),(101000,iF b4 l18)]) (101000,iF b4 (l18.set t17.toNat r21)))⟩ rfl (dPc (.ptr 1 3) rfl (dPc (.arr 101000 5 0 l18.length) rfl (dPc (.p (eI t17)) rfl (dPc (.ptr 1 3) rfl (dPc (.arr 101000 5 0 l18.length) rfl (dPc (.p (eI t17)) rfl ?_))))))))
  refine bs (λ _=>.ptr 101000 (0+t17.toNat*5)) rfl rfl rfl (gP rfl (λ _=>rfl)) (lt1 rfl) (bi rfl (aT [(22,_),(23,_)] ⟨.inr ⟨4,_,rfl,rfl,rfl⟩,.inr ⟨5,_,rfl,rfl,rfl⟩,trivial⟩ (λ sl hsl K hK=>ay rfl (iH rfl rfl rfl rfl rfl rfl (hsl _ _ rfl) (hsl _ _ rfl) rfl hk20 hK)) bp)) (bs (λ _=>.p (.agg (aH.cs (lat l18 t17)))) rfl rfl rfl (gP rfl (λ _=>rfl)) (lt1 rfl) (bi rfl (aT [(24,_)] ⟨.inr ⟨6,_,rfl,rfl,rfl⟩,trivial⟩ (λ sl hsl K hK=>ay rfl (xh b4 aH.cs l18 rfl rfl rfl rfl rfl (hsl _ _ rfl) rfl rfl rfl hk20 aH.cells_eq (λ _=>rfl) hK)) bp)) ?_)
  refine bs (λ _=>.p (.agg (aH.cs r21))) rfl rfl rfl (gP rfl (λ _=>rfl)) (lt1 rfl) (bi rfl (aT [(25,_)] ⟨.inr ⟨7,_,rfl,rfl,rfl⟩,trivial⟩ (λ sl hsl K hK=>ay rfl (b6 (ih_target_copied_ok (lat l18 t17) _ e22) rfl rfl rfl (aX (hsl _ _ rfl) b5) ⟨sr,trivial⟩ Tryz.call64 rfl hK)) bp)) (bs (λ _=>.ptr 101000 (0+t17.toNat*5)) rfl rfl rfl (gP rfl (λ _=>rfl)) (lt1 rfl) (bi rfl (aT [(19,_),(20,_)] ⟨.inr ⟨1,_,rfl,rfl,rfl⟩,.inr ⟨2,_,rfl,rfl,rfl⟩,trivial⟩ (λ sl hsl K hK=>ay rfl (iH rfl rfl rfl rfl rfl rfl (hsl _ _ rfl) (hsl _ _ rfl) rfl hk23 hK)) bp)) ?_)
  refine qj [(26,_),(27,_)] rfl ⟨.inr ⟨8,_,rfl,rfl,rfl⟩,.inr ⟨9,_,rfl,rfl,rfl⟩,trivial⟩ rfl (λ sl hsl K hK=>ay rfl (ws b4 aH.cs l18 r21 (n:=t17) rfl rfl rfl (hsl _ _ rfl) (hsl _ _ rfl) rfl rfl rfl hk23 aH.cells_eq (λ _=>rfl) (λ _=>rfl) hK)) (iq ?_)
  exact nx 2 rfl (oA h1 rfl rfl λ hk24 h1=>nx 2 rfl (eX (t17+1,l18.set t17.toNat r21) h1 (aW (bo ⟨er rfl,er rfl,er rfl,er rfl,trivial⟩ ⟨⟨_,rfl,⟨sr,sr,sr,AV.sub_of_eq (congrArg (AV.arr 101000 5 0) (by simp)),sr,trivial⟩⟩,⟨_,rfl,⟨sr,sr,sr,sr,sr,trivial⟩⟩,⟨_,rfl,ag _⟩,trivial⟩))))
 exact nx 2 rfl (eXi _ (oi h1).symm (aW (bo ⟨er rfl,er rfl,trivial⟩ ⟨⟨_,rfl,⟨sr,sr,sr,AV.sub_of_eq (congrArg (AV.arr 101000 5 0) (by simp)),sr,trivial⟩⟩,⟨_,rfl,⟨sr,sr,sr,sr,sr,trivial⟩⟩,⟨_,rfl,ag _⟩,trivial⟩)))
def gD (n:Nat)(c_0:az):Option az :=
 (cp n c_0.fBefore).bind λ r1 =>
 (cp n c_0.fAfter).bind λ r3 =>
 ck (c_0.fReplace.length*16≤140737488355328) <|
 ck (c_0.fDeps.length*16≤140737488355328) <|
 ck (c_0.fOldDeps.length*16≤140737488355328) <|
 some (az.mk c_0.fAddr c_0.fDeposed c_0.fType c_0.fAction c_0.fReason r1 r3 c_0.fID c_0.fReplace c_0.fCreateFirst c_0.fProtect c_0.fImport c_0.fDeps c_0.fOldDeps)
theorem qU (n:Nat)(c_0:az)(r:az)(h0:gD n c_0=some r):aw Tryz.prog 41 [.agg (az.cs c_0)] (·=.p (.agg (az.cs r))):=by
 unfold gD at h0
 refine a6 good Tryz.func41 rfl rfl rfl λ w0=>mP (λ v:az=>.p (.agg (az.cs v))) ?_
 refine nx 6 rfl (bd h0 λ r1 e2 h0=>bd h0 λ r3 e4 h0=>mG (gE (t:=⟨[(1,.ptr 1 0),(2,.ptr 2 0)],[(1,(az.cs c_0).map .p),(2,sk)]⟩) rfl rfl) (mSq ⟨2,[7,9],(λ _=>.none),(λ _=>[(1,.ptr 1 0),(2,.ptr 2 0)]),(ob3 ([(1,((az.cs c_0).map .p)),(2,sk)]) (1,[.p (eS c_0.fAddr),.p (eS c_0.fDeposed),.p (eS c_0.fType),.p (eI c_0.fAction),.p (eI c_0.fReason),.p (eI r1.fKind),.p (eI r1.fNum),.p (eS r1.fStr),.p (eL b4 r1.fItems),.p (eL eS r1.fKeys),.p (eI c_0.fAfter.fKind),.p (eI c_0.fAfter.fNum),.p (eS c_0.fAfter.fStr),.p (eL b4 c_0.fAfter.fItems),.p (eL eS c_0.fAfter.fKeys),.p (eS c_0.fID),.p (eL eS c_0.fReplace),.p (eB c_0.fCreateFirst),.p (eB c_0.fProtect),.p (eB c_0.fImport),.p (eL eS c_0.fDeps),.p (eL eS c_0.fOldDeps)]) (1,[.p (eS c_0.fAddr),.p (eS c_0.fDeposed),.p (eS c_0.fType),.p (eI c_0.fAction),.p (eI c_0.fReason),.p (eI r1.fKind),.p (eI r1.fNum),.p (eS r1.fStr),.p (eL b4 r1.fItems),.p (eL eS r1.fKeys),.p (eI r3.fKind),.p (eI r3.fNum),.p (eS r3.fStr),.p (eL b4 r3.fItems),.p (eL eS r3.fKeys),.p (eS c_0.fID),.p (eL eS c_0.fReplace),.p (eB c_0.fCreateFirst),.p (eB c_0.fProtect),.p (eB c_0.fImport),.p (eL eS c_0.fDeps),.p (eL eS c_0.fOldDeps)]))⟩ rfl (dPc (.ptr 1 5) rfl (dPc (.p (.agg (aH.cs c_0.fBefore))) rfl ?_))))
 refine bs (λ _=>.p (.agg (aH.cs r1))) rfl rfl rfl (vb rfl rfl (λ _=>rfl)) (lt2 rfl rfl) (bi rfl (bi rfl (aT [(4,_)] ⟨.inr ⟨1,_,rfl,rfl,rfl⟩,trivial⟩ (λ sl hsl K hK=>ay rfl (b6 (mF _ c_0.fBefore _ e2) rfl rfl rfl (aX (hsl _ _ rfl) b5) ⟨sr,trivial⟩ Tryz.call64 rfl hK)) bp))) (dPc (.ptr 1 10) rfl ?_)
 refine dPc (.p (.agg (aH.cs c_0.fAfter))) rfl (bs (λ _=>.p (.agg (aH.cs r3))) rfl rfl rfl (vb rfl rfl (λ _=>rfl)) (lt2 rfl rfl) (bi rfl (bi rfl (aT [(7,_)] ⟨.inr ⟨4,_,rfl,rfl,rfl⟩,trivial⟩ (λ sl hsl K hK=>ay rfl (b6 (mF _ c_0.fAfter _ e4) rfl rfl rfl (aX (hsl _ _ rfl) b5) ⟨sr,trivial⟩ Tryz.call64 rfl hK)) bp))) (dPc (.ptr 1 5) rfl (dS rfl (dPc (.ptr 1 10) rfl (dS rfl ?_)))))
 refine iq (nx 2 rfl ?_)
 refine cc' h0 λ hk5 h0=>cc' h0 λ hk6 h0=>cc' h0 λ hk7 h0=>mG (gE (t:=⟨[(1,.ptr 1 0),(2,.ptr 2 0)],[(1,[.p (eS c_0.fAddr),.p (eS c_0.fDeposed),.p (eS c_0.fType),.p (eI c_0.fAction),.p (eI c_0.fReason),.p (eI r1.fKind),.p (eI r1.fNum),.p (eS r1.fStr),.p (eL b4 r1.fItems),.p (eL eS r1.fKeys),.p (eI r3.fKind),.p (eI r3.fNum),.p (eS r3.fStr),.p (eL b4 r3.fItems),.p (eL eS r3.fKeys),.p (eS c_0.fID),.p (eL eS c_0.fReplace),.p (eB c_0.fCreateFirst),.p (eB c_0.fProtect),.p (eB c_0.fImport),.p (eL eS c_0.fDeps),.p (eL eS c_0.fOldDeps)]),(2,sk)]⟩) rfl rfl) (mSq ⟨3,[10,12,14],(λ _=>.none),(λ _=>[(1,.ptr 1 0),(2,.ptr 2 0)]),(ob4 ([(1,[.p (eS c_0.fAddr),.p (eS c_0.fDeposed),.p (eS c_0.fType),.p (eI c_0.fAction),.p (eI c_0.fReason),.p (eI r1.fKind),.p (eI r1.fNum),.p (eS r1.fStr),.p (eL b4 r1.fItems),.p (eL eS r1.fKeys),.p (eI r3.fKind),.p (eI r3.fNum),.p (eS r3.fStr),.p (eL b4 r3.fItems),.p (eL eS r3.fKeys),.p (eS c_0.fID),.p (eL eS c_0.fReplace),.p (eB c_0.fCreateFirst),.p (eB c_0.fProtect),.p (eB c_0.fImport),.p (eL eS c_0.fDeps),.p (eL eS c_0.fOldDeps)]),(2,sk)]) (1,[.p (eS c_0.fAddr),.p (eS c_0.fDeposed),.p (eS c_0.fType),.p (eI c_0.fAction),.p (eI c_0.fReason),.p (eI r1.fKind),.p (eI r1.fNum),.p (eS r1.fStr),.p (eL b4 r1.fItems),.p (eL eS r1.fKeys),.p (eI r3.fKind),.p (eI r3.fNum),.p (eS r3.fStr),.p (eL b4 r3.fItems),.p (eL eS r3.fKeys),.p (eS c_0.fID),.p (eL eS c_0.fReplace),.p (eB c_0.fCreateFirst),.p (eB c_0.fProtect),.p (eB c_0.fImport),.p (eL eS c_0.fDeps),.p (eL eS c_0.fOldDeps)]) (1,[.p (eS c_0.fAddr),.p (eS c_0.fDeposed),.p (eS c_0.fType),.p (eI c_0.fAction),.p (eI c_0.fReason),.p (eI r1.fKind),.p (eI r1.fNum),.p (eS r1.fStr),.p (eL b4 r1.fItems),.p (eL eS r1.fKeys),.p (eI r3.fKind),.p (eI r3.fNum),.p (eS r3.fStr),.p (eL b4 r3.fItems),.p (eL eS r3.fKeys),.p (eS c_0.fID),.p (eL eS c_0.fReplace),.p (eB c_0.fCreateFirst),.p (eB c_0.fProtect),.p (eB c_0.fImport),.p (eL eS c_0.fDeps),.p (eL eS c_0.fOldDeps)]) (1,[.p (eS c_0.fAddr),.p (eS c_0.fDeposed),.p (eS c_0.fType),.p (eI c_0.fAction),.p (eI c_0.fReason),.p (eI r1.fKind),.p (eI r1.fNum),.p (eS r1.fStr),.p (eL b4 r1.fItems),.p (eL eS r1.fKeys),.p (eI r3.fKind),.p (eI r3.fNum),.p (eS r3.fStr),.p (eL b4 r3.fItems),.p (eL eS r3.fKeys),.p (eS c_0.fID),.p (eL eS c_0.fReplace),.p (eB c_0.fCreateFirst),.p (eB c_0.fProtect),.p (eB c_0.fImport),.p (eL eS c_0.fDeps),.p (eL eS c_0.fOldDeps)]))⟩ rfl (dPc (.ptr 1 16) rfl (dPc (.p (eL eS c_0.fReplace)) rfl ?_)))
 refine bs (λ _=>.p (eL eS c_0.fReplace)) rfl rfl rfl (pY rfl rfl rfl (λ _=>rfl)) (lt3 rfl rfl rfl) (bi rfl (bi rfl (bi rfl (aT [(12,_)] ⟨.inr ⟨1,_,rfl,rfl,rfl⟩,trivial⟩ (λ sl hsl K hK=>ay rfl (b6 (cy c_0.fReplace hk5) rfl rfl rfl (aX (hsl _ _ rfl) b5) ⟨sr,trivial⟩ Tryz.call65 rfl hK)) bp)))) (dPc (.ptr 1 20) rfl ?_)
 refine dPc (.p (eL eS c_0.fDeps)) rfl (bs (λ _=>.p (eL eS c_0.fDeps)) rfl rfl rfl (pY rfl rfl rfl (λ _=>rfl)) (lt3 rfl rfl rfl) (bi rfl (bi rfl (aT [(15,_)] ⟨.inr ⟨4,_,rfl,rfl,rfl⟩,trivial⟩ (λ sl hsl K hK=>ay rfl (b6 (cy c_0.fDeps hk6) rfl rfl rfl (aX (hsl _ _ rfl) b5) ⟨sr,trivial⟩ Tryz.call65 rfl hK)) (aT [(15,_)] ⟨.inr ⟨4,_,rfl,rfl,rfl⟩,trivial⟩ (λ sl hsl K hK=>ay rfl (b6 (cy c_0.fDeps hk6) rfl rfl rfl (aX (hsl _ _ rfl) b5) ⟨sr,trivial⟩ Tryz.call65 rfl hK)) bp)))) (dPc (.ptr 1 21) rfl (dPc (.p (eL eS c_0.fOldDeps)) rfl ?_)))
 refine bs (λ _=>.p (eL eS c_0.fOldDeps)) rfl rfl rfl (pY rfl rfl rfl (λ _=>rfl)) (lt3 rfl rfl rfl) (bi rfl (bi rfl (bi rfl (aT [(18,_)] ⟨.inr ⟨7,_,rfl,rfl,rfl⟩,trivial⟩ (λ sl hsl K hK=>ay rfl (b6 (cy c_0.fOldDeps hk7) rfl rfl rfl (aX (hsl _ _ rfl) b5) ⟨sr,trivial⟩ Tryz.call65 rfl hK)) bp)))) (dPc (.ptr 1 16) rfl ?_)
 exact dS rfl (dPc (.ptr 1 20) rfl (dS rfl (dPc (.ptr 1 21) rfl (dS rfl (iq (nx 7 rfl (mQ (oi h0) rfl (sr))))))))
def dG (n:Nat)(l_1:List az):Nat→Int→(List Bytes)→Option (List Bytes)
 | 0,_,_=>none
 | m+1,t11,l12 =>
 if t11 < (l_1.length:Int) then
  ck ((0:Int)≤t11∧t11 < (l_1.length:Int)) <|
  (dU n ((lat l_1 t11).fAddr)).bind λ r15 =>
  ck ((0:Int)≤t11∧t11 < (l12.length:Int)) <|
  ck (inR (t11+1)) <|
  dG n l_1 m (t11+1) (l12.set t11.toNat r15.1)
 else
  some l12
def dI (n:Nat)(targets_0:List Bytes)(l_1:List az):Nat→Int→(List az)→(List Int)→(List Bytes)→(List Bool)→Option ((List az)×(List Int)×(List Bytes)×(List Bool))
 | 0,_,_,_,_,_=>none
 | m+1,t39,f40,f41,l42,l43 =>
 if t39 < (l_1.length:Int) then
  (
    ck ((0:Int)≤t39∧t39 < (l_1.length:Int)) <|
    (cr n targets_0 ((lat l_1 t39).fAddr)).bind λ r46 =>
    if r46=true then
     (fu (dB.mk f40 l42 l43 f41) t39).bind λ r49 =>
     some (r49.fchanges,r49.ftodo,r49.fresources,r49.fchosen)
    else
     some (f40,f41,l42,l43)
   : Option ((List az)×(List Int)×(List Bytes)×(List Bool))).bind λ q122 =>
  ck (inR (t39+1)) <|
  dI n targets_0 l_1 m (t39+1) q122.1 q122.2.1 q122.2.2.1 q122.2.2.2
 else
  some (f40,f41,l42,l43)
def dQ (n:Nat):Nat→(List az)→(List Int)→(List Bytes)→(List Bool)→Option ((List az)×(List Int)×(List Bytes)×(List Bool))
 | 0,_,_,_,_=>none
 | m+1,f76,f77,l78,l79 =>
 if 0 < (f77.length:Int) then
  ck (inR ((f77.length:Int) - 1)) <|
  ck ((0:Int)≤(f77.length:Int) - 1∧(f77.length:Int) - 1 < (f77.length:Int)) <|
  ck (inR ((f77.length:Int) - 1)) <|
  ck ((0:Int)≤(f77.length:Int) - 1∧(f77.length:Int) - 1≤(f77.length:Int)) <|
  (dz n (dB.mk f76 l78 l79 (f77.take ((f77.length:Int) - 1).toNat)) (lat f77 ((f77.length:Int) - 1))).bind λ r85 =>
  dQ n m r85.fchanges r85.ftodo r85.fresources r85.fchosen
 else
  some (f76,f77,l78,l79)
def dM (n:Nat)(l_1:List az)(l94:List Bool):Nat→(List az)→Int→Option (List az)
 | 0,_,_=>none
 | m+1,out106,t107 =>
 if t107 < (l_1.length:Int) then
  (
    ck ((0:Int)≤t107∧t107 < (l_1.length:Int)) <|
    ck ((0:Int)≤t107∧t107 < (l94.length:Int)) <|
    if (lat l94 t107)=true then
     (gD n (lat l_1 t107)).bind λ r112 =>
     ck ((out106.length+[r112].length)*320≤140737488355328) <|
     some (out106++[r112])
    else
     some out106
   : Option (List az)).bind λ out115 =>
  ck (inR (t107+1)) <|
  dM n l_1 l94 m out115 (t107+1)
 else
  some out106
def eg (n:Nat)(targets_0:List Bytes)(l_1:List az):Option (List az) :=
 ck ((0:Int)≤(l_1.length:Int)∧(l_1.length:Int)≤9223372036854775807∧(16:Int)*(l_1.length:Int)≤281474976710656) <|
 ck ((0:Int)≤(l_1.length:Int)∧(l_1.length:Int)≤9223372036854775807∧(1:Int)*(l_1.length:Int)≤281474976710656) <|
 (dG n l_1 n 0 (List.replicate (l_1.length:Int).toNat ([]:Bytes))).bind λ l21 =>
 (dI n targets_0 l_1 n 0 l_1 [] l21 (List.replicate (l_1.length:Int).toNat (false:Bool))).bind λ q121 =>
 (dQ n n q121.1 q121.2.1 q121.2.2.1 q121.2.2.2).bind λ q123 =>
 (dM n l_1 q123.2.2.2 n [] 0).bind λ out119 =>
 some out119
theorem ij (n:Nat)(targets_0:List Bytes)(l_1:List az)(r:(List az))(h0:eg n targets_0 l_1=some r):aw Tryz.prog 23 [eL eS targets_0,eL ao l_1] (·=.p (eL ao r)):=by
 unfold eg at h0
 refine a6 good Tryz.func23 rfl rfl rfl λ w0=>mP (λ v:(List az)=>.p (eL ao v)) ?_
 refine nx 5 rfl (cc' h0 λ hk1 h0=>cc' h0 λ hk2 h0=>mG (gE (t:=⟨[(0,.p (eL eS targets_0)),(1,.p (eL ao l_1))],[]⟩) rfl rfl) (mSS ⟨3,[3,6,8],(by4 (.some λ i=>Nat.beq i 17) (.some λ i=>Nat.beq i 20) (.some λ i=>Nat.beq i 22) .none),(λ _=>[(0,.p (eL eS targets_0)),(1,.p (eL ao l_1))]),(by4 [] ([(17,((List.replicate (l_1.length:Int).toNat ([]:Bytes)).map eS).map .p)]) ([(20,((List.replicate (l_1.length:Int).toNat (false:Bool)).map eB).map .p),(17,((List.replicate (l_1.length:Int).toNat ([]:Bytes)).map eS).map .p)]) ([(22,[.p (eL ao l_1),.arr 17 1 0 ((List.replicate (l_1.length:Int).toNat ([]:Bytes)).length),.arr 20 1 0 ((List.replicate (l_1.length:Int).toNat (false:Bool)).length),.p (.val (.slice none 0 0))]),(20,((List.replicate (l_1.length:Int).toNat (false:Bool)).map eB).map .p),(17,((List.replicate (l_1.length:Int).toNat ([]:Bytes)).map eS).map .p)]))⟩ ⟨3,[6,3,8],(by4 (.some λ i=>Nat.beq i 20) (.some λ i=>Nat.beq i 17) (.some λ i=>Nat.beq i 22) .none),(λ _=>[(0,.p (eL eS targets_0)),(1,.p (eL ao l_1))]),(by4 [] [(20,((List.replicate (l_1.length:Int).toNat (false:Bool)).map eB).map .p)] ([(17,((List.replicate (l_1.length:Int).toNat ([]:Bytes)).map eS).map .p),(20,((List.replicate (l_1.length:Int).toNat (false:Bool)).map eB).map .p)]) ([(22,[.p (eL ao l_1),.arr 17 1 0 ((List.replicate (l_1.length:Int).toNat ([]:Bytes)).length),.arr 20 1 0 ((List.replicate (l_1.length:Int).toNat (false:Bool)).length),.p (.val (.slice none 0 0))]),(17,((List.replicate (l_1.length:Int).toNat ([]:Bytes)).map eS).map .p),(20,((List.replicate (l_1.length:Int).toNat (false:Bool)).map eB).map .p)]))⟩ rfl rfl rfl rfl rfl rfl rfl ⟨rfl,rfl,trivial⟩ rfl (lt3 ⟨rfl,rfl,trivial⟩ ⟨rfl,rfl,trivial⟩ ⟨rfl,rfl,trivial⟩) (lt3 ⟨rfl,rfl,trivial⟩ ⟨rfl,rfl,trivial⟩ ⟨rfl,rfl,trivial⟩) rfl rfl rfl rfl rfl (dPc (.p (eL ao l_1)) rfl (dPc (.p (eL ao l_1)) rfl ?_))))
 refine bs (λ _=>.p (eI (l_1.length:Int))) rfl rfl rfl (pY rfl rfl rfl (λ _=>rfl)) (lt3 rfl rfl rfl) (bi rfl (bi rfl (bi rfl (aT [(15,_)] ⟨.inr ⟨1,_,rfl,rfl,rfl⟩,trivial⟩ (λ sl hsl K hK=>ay rfl (na (f:=ao) (l:=l_1) rfl rfl rfl rfl rfl (hsl _ _ rfl) rfl hK)) bp)))) ?_
 skip; refine gx (λ _=>.arr 17 1 0 ((List.replicate (l_1.length:Int).toNat ([]:Bytes)).length)) [(16,_)] rfl ⟨.inr ⟨2,_,rfl,rfl,rfl⟩,trivial⟩ rfl rfl (vb rfl rfl (λ _=>rfl)) (lt3 (λ h=>absurd h (by decide)) (λ _=>rfl) (λ _=>rfl)) (λ sl hsl K hK=>ay rfl (pE eS ([]:Bytes) rfl rfl rfl rfl rfl rfl rfl rfl rfl (hsl _ _ rfl) (hsl _ _ rfl) hk1 (by repeat (first | exact rfl | apply mJ rfl | apply dmO_drop rfl | apply nc rfl rfl)) hK)) ?_
 refine dPc (.p (eL ao l_1)) rfl (bs (λ _=>.p (eI (l_1.length:Int))) rfl rfl rfl (pY rfl rfl rfl (λ _=>rfl)) (lt3 rfl rfl rfl) (bi rfl (bi rfl (aT [(18,_)] ⟨.inr ⟨4,_,rfl,rfl,rfl⟩,trivial⟩ (λ sl hsl K hK=>ay rfl (na (f:=ao) (l:=l_1) rfl rfl rfl rfl rfl (hsl _ _ rfl) rfl hK)) (aT [(18,_)] ⟨.inr ⟨4,_,rfl,rfl,rfl⟩,trivial⟩ (λ sl hsl K hK=>ay rfl (na (f:=ao) (l:=l_1) rfl rfl rfl rfl rfl (hsl _ _ rfl) rfl hK)) bp)))) ?_)
 skip; refine gx (λ _=>.arr 20 1 0 ((List.replicate (l_1.length:Int).toNat (false:Bool)).length)) [(19,_)] rfl ⟨.inr ⟨5,_,rfl,rfl,rfl⟩,trivial⟩ rfl rfl (gP rfl (λ _=>rfl)) (lt3 (λ h=>absurd h (by decide)) (λ h=>absurd h (by decide)) (λ _=>rfl)) (λ sl hsl K hK=>ay rfl (pE eB (false:Bool) rfl rfl rfl rfl rfl rfl rfl rfl rfl (hsl _ _ rfl) (hsl _ _ rfl) hk2 (by repeat (first | exact rfl | apply mJ rfl | apply dmO_drop rfl | apply nc rfl rfl)) hK)) ?_
 refine qc (λ _=>.agg [.p (eL ao l_1),.arr 17 1 0 ((List.replicate (l_1.length:Int).toNat ([]:Bytes)).length),.arr 20 1 0 ((List.replicate (l_1.length:Int).toNat (false:Bool)).length),.p (.val (.slice none 0 0))]) rfl rfl rfl (pY rfl rfl rfl (λ _=>rfl)) (lt3 (nl rfl) (nl rfl) (λ _=>rfl)) (bi rfl (aT [(14,_),(17,_),(20,_)] ⟨.inr ⟨0,_,rfl,rfl,rfl⟩,.inr ⟨3,_,rfl,rfl,rfl⟩,.inr ⟨6,_,rfl,rfl,rfl⟩,trivial⟩ (λ sl hsl K hK=>ay rfl (sR rfl rfl rfl rfl rfl rfl (jZ (hsl _ _ rfl) (jZ (hsl _ _ rfl) (jZ (hsl _ _ rfl) uP))) rfl rfl hK)) (bi rfl (bi rfl bp)))) ?_
 skip; refine gx (λ _=>.ptr 22 0) [(21,_)] rfl ⟨.inr ⟨7,_,rfl,rfl,rfl⟩,trivial⟩ rfl rfl (λ _=>rfl) (lt3 (λ h=>absurd h (by decide)) (λ h=>absurd h (by decide)) (λ h=>absurd h (by decide))) (λ sl hsl K hK=>ay rfl (yp rfl rfl rfl (hsl _ _ rfl) rfl rfl (by repeat (first | exact rfl | apply mJ rfl | apply dmO_drop rfl | apply nc rfl rfl)) hK)) ?_
 refine qc (λ _=>.ptr 22 0) rfl rfl rfl (pY rfl rfl rfl (λ _=>rfl)) (lt3 (λ _=>rfl) (λ _=>rfl) (nl rfl)) (aT [(22,_)] ⟨.inr ⟨8,_,rfl,rfl,rfl⟩,trivial⟩ (λ sl hsl K hK=>ay rfl (bc rfl rfl rfl (hsl _ _ rfl) hK)) (bi rfl (bi rfl (bi rfl bp)))) ?_
 skip; refine Dg (dPc (.p (eL ao l_1)) rfl (dPc (.p (eL ao l_1)) rfl (bs (λ _=>.p (eI (l_1.length:Int))) rfl rfl rfl (pY rfl rfl rfl (λ _=>rfl)) (lt3 rfl rfl rfl) (bi rfl (bi rfl (aT [(15,_)] ⟨.inr ⟨1,_,rfl,rfl,rfl⟩,trivial⟩ (λ sl hsl K hK=>ay rfl (na (f:=ao) (l:=l_1) rfl rfl rfl rfl rfl (hsl _ _ rfl) rfl hK)) (aT [(15,_)] ⟨.inr ⟨1,_,rfl,rfl,rfl⟩,trivial⟩ (λ sl hsl K hK=>ay rfl (na (f:=ao) (l:=l_1) rfl rfl rfl rfl rfl (hsl _ _ rfl) rfl hK)) bp)))) (gx (λ _=>.arr 17 1 0 ((List.replicate (l_1.length:Int).toNat ([]:Bytes)).length)) [(16,_)] rfl ⟨.inr ⟨2,_,rfl,rfl,rfl⟩,trivial⟩ rfl rfl (gP rfl (λ _=>rfl)) (lt3 (λ h=>absurd h (by decide)) (λ h=>absurd h (by decide)) (λ _=>rfl)) (λ sl hsl K hK=>ay rfl (pE eS ([]:Bytes) rfl rfl rfl rfl rfl rfl rfl rfl rfl (hsl _ _ rfl) (hsl _ _ rfl) hk1 (by repeat (first | exact rfl | apply mJ rfl | apply dmO_drop rfl | apply nc rfl rfl)) hK)) (dPc (.p (eL ao l_1)) rfl (bs (λ _=>.p (eI (l_1.length:Int))) rfl rfl rfl (pY rfl rfl rfl (λ _=>rfl)) (lt3 rfl rfl rfl) (bi rfl (bi rfl (bi rfl (aT [(18,_)] ⟨.inr ⟨4,_,rfl,rfl,rfl⟩,trivial⟩ (λ sl hsl K hK=>ay rfl (na (f:=ao) (l:=l_1) rfl rfl rfl rfl rfl (hsl _ _ rfl) rfl hK)) bp)))) (gx (λ _=>.arr 20 1 0 ((List.replicate (l_1.length:Int).toNat (false:Bool)).length)) [(19,_)] rfl ⟨.inr ⟨5,_,rfl,rfl,rfl⟩,trivial⟩ rfl rfl (vb rfl rfl (λ _=>rfl)) (lt3 (λ h=>absurd h (by decide)) (λ _=>rfl) (λ _=>rfl)) (λ sl hsl K hK=>ay rfl (pE eB (false:Bool) rfl rfl rfl rfl rfl rfl rfl rfl rfl (hsl _ _ rfl) (hsl _ _ rfl) hk2 (by repeat (first | exact rfl | apply mJ rfl | apply dmO_drop rfl | apply nc rfl rfl)) hK)) (qc (λ _=>.agg [.p (eL ao l_1),.arr 17 1 0 ((List.replicate (l_1.length:Int).toNat ([]:Bytes)).length),.arr 20 1 0 ((List.replicate (l_1.length:Int).toNat (false:Bool)).length),.p (.val (.slice none 0 0))]) rfl rfl rfl (pY rfl rfl rfl (λ _=>rfl)) (lt3 (nl rfl) (nl rfl) (λ _=>rfl)) (bi rfl (aT [(14,_),(17,_),(20,_)] ⟨.inr ⟨0,_,rfl,rfl,rfl⟩,.inr ⟨3,_,rfl,rfl,rfl⟩,.inr ⟨6,_,rfl,rfl,rfl⟩,trivial⟩ (λ sl hsl K hK=>ay rfl (sR rfl rfl rfl rfl rfl rfl (jZ (hsl _ _ rfl) (jZ (hsl _ _ rfl) (jZ (hsl _ _ rfl) uP))) rfl rfl hK)) (bi rfl (bi rfl bp)))) (gx (λ _=>.ptr 22 0) [(21,_)] rfl ⟨.inr ⟨7,_,rfl,rfl,rfl⟩,trivial⟩ rfl rfl (λ _=>rfl) (lt3 (λ h=>absurd h (by decide)) (λ h=>absurd h (by decide)) (λ h=>absurd h (by decide))) (λ sl hsl K hK=>ay rfl (yp rfl rfl rfl (hsl _ _ rfl) rfl rfl (by repeat (first | exact rfl | apply mJ rfl | apply dmO_drop rfl | apply nc rfl rfl)) hK)) (qc (λ _=>.ptr 22 0) rfl rfl rfl (pY rfl rfl rfl (λ _=>rfl)) (lt3 (λ _=>rfl) (λ _=>rfl) (nl rfl)) (aT [(22,_)] ⟨.inr ⟨8,_,rfl,rfl,rfl⟩,trivial⟩ (λ sl hsl K hK=>ay rfl (bc rfl rfl rfl (hsl _ _ rfl) hK)) (bi rfl (bi rfl (bi rfl bp)))) (DU rfl ⟨rfl,rfl,rfl,trivial⟩ ⟨⟨rfl,rfl,.inr rfl⟩,⟨⟨rfl,rfl,.inl rfl⟩,⟨⟨rfl,rfl,.inr rfl⟩,⟨⟨rfl,rfl,.inl rfl⟩,⟨⟨rfl,rfl,.inr rfl⟩,⟨⟨rfl,rfl,.inr rfl⟩,⟨⟨rfl,rfl,.inl rfl⟩,⟨⟨rfl,rfl,.inr rfl⟩,⟨⟨rfl,rfl,.inr rfl⟩,⟨⟨rfl,rfl,.inr rfl⟩,trivial⟩⟩⟩⟩⟩⟩⟩⟩⟩⟩))))))))))) ?_
 refine nx 5 rfl (oLl (f:=ao) rfl rfl (nx 3 rfl (bd h0 λ o126 h1 h0=>?_)))
 refine kE 0 o126 (λ v127=>⟨[(0,.p (eL eS targets_0)),(1,.p (eL ao l_1)),(5,.ptr 22 0)],[(22,[.p (eL ao l_1),.arr 17 1 0 v127.length,.arr 20 1 0 ((List.replicate (l_1.length:Int).toNat (false:Bool)).length),.p (.val (.slice none 0 0))]),(17,(v127.map eS).map .p),(20,((List.replicate (l_1.length:Int).toNat (false:Bool)).map eB).map .p)]⟩) ?_ ?_
 ·refine nx 5 rfl (oLl (f:=ao) rfl rfl (nx 3 rfl (bd h0 λ o128 h1 h0=>?_)))
  refine kE 2 o128 (λ v129=>⟨[(1,.p (eL ao l_1)),(5,.ptr 22 0)],[(22,[.p (eL ao v129.1),.arr 17 1 0 v129.2.2.1.length,.arr 20 1 0 v129.2.2.2.length,.stk 101000 1 (v129.2.1.map eI)]),(17,(v129.2.2.1.map eS).map .p),(20,(v129.2.2.2.map eB).map .p)]⟩) ?_ ?_
  ·refine nx 3 rfl (bd h0 λ o130 h1 h0=>?_)
   refine kE 4 o130 (λ v131=>⟨[(1,.p (eL ao l_1)),(5,.ptr 22 0)],[(22,[.p (eL ao v131.1),.arr 17 1 0 v131.2.2.1.length,.arr 20 1 0 v131.2.2.2.length,.stk 103000 1 (v131.2.1.map eI)]),(17,(v131.2.2.1.map eS).map .p),(20,(v131.2.2.2.map eB).map .p)]⟩) ?_ ?_
   ·refine nx 9 rfl (oLl (f:=ao) rfl rfl (nx 3 rfl (bd h0 λ o132 h1 h0=>?_)))
    refine kE 6 o132 (λ v133=>⟨[(11,.vec 111 22 0 (v133.map ao))],[]⟩) ?_ ?_
    ·exact nx 7 rfl (mQ (oi h0) rfl (AV.sub_vec _ _ _ _))
    refine lG (λ (q134:(List az)×Int)=>⟨[(5,.ptr 22 0),(11,.vec 111 22 0 (q134.1.map ao)),(93,.p (eL ao l_1)),(94,.p (eI (l_1.length:Int))),(95,.p (eI q134.2))],[(22,[.p (eL ao o130.1),.arr 17 1 0 o130.2.2.1.length,.arr 20 1 0 o130.2.2.2.length,.stk 103000 1 (o130.2.1.map eI)]),(17,(o130.2.2.1.map eS).map .p),(20,(o130.2.2.2.map eB).map .p)]⟩) (λ m (q134:(List az)×Int)=>dM n l_1 o130.2.2.2 m q134.1 q134.2) (λ _=>rfl) ([],0) h1 (aW (bo ⟨er rfl,⟨_,rfl,AV.sub_nilvec _ _ _⟩,er rfl,er rfl,er rfl,trivial⟩ ⟨⟨_,rfl,⟨sr,sr,sr,sr,trivial⟩⟩,⟨_,rfl,ag _⟩,⟨_,rfl,ag _⟩,trivial⟩)) ?_
    rintro m ⟨out106,t107⟩ h1
    replace h1:dM n l_1 o130.2.2.2 (m+1) out106 t107=some o132:=h1
    rw [dM] at h1
    refine nx 5 rfl (fD [96] h1 rfl (λ c108 h1=>?_) λ c108 h1=>?_)
    ·refine nx 3 rfl (bd h1 λ o135 h2 h1=>?_)
     refine kN o135 (λ v136=>⟨[(5,.ptr 22 0),(11,.vec 111 22 0 (v136.map ao)),(93,.p (eL ao l_1)),(94,.p (eI (l_1.length:Int))),(95,.p (eI t107))],[(22,[.p (eL ao o130.1),.arr 17 1 0 o130.2.2.1.length,.arr 20 1 0 o130.2.2.2.length,.stk 103000 1 (o130.2.1.map eI)]),(17,(o130.2.2.1.map eS).map .p),(20,(o130.2.2.2.map eB).map .p)]⟩) ?_ ?_
     ·exact nx 2 rfl (oA h1 rfl rfl λ hk116 h1=>nx 2 rfl (eX (o135,t107+1) h1 (gE rfl rfl)))
     refine nx 4 rfl (oE h2 az.cells_eq rfl rfl (λ _=>rfl) λ hk109 h2=>nx 1 rfl (mO rfl (md rfl rfl rfl rfl rfl (mG (mj (show lJ _ _=_ from (by repeat (first | exact ja _ | apply demOb_drop rfl | apply dh rfl (nb _ _) | apply dh rfl rfl)))) (nx 10 rfl (cc' h2 λ hk110 h2=>mO rfl (aG rfl rfl rfl rfl rfl rfl rfl rfl rfl hk110 (mO rfl (bh (default:Bool) (f:=eB) (l:=o130.2.2.2) rfl rfl rfl rfl rfl rfl rfl (by have:=hk110; omega) (nx 1 rfl (fB [106] h2 rfl (λ c111 h2=>?_) λ c111 h2=>?_)))))))))))
     ·exact nx 4 rfl (bd h2 λ r112 e113 h2=>oK (qU _ (lat l_1 t107) _ e113) rfl ⟨sr,trivial⟩ Tryz.call41 rfl (mO rfl (bn ao [r112] rfl rfl rfl rfl rfl rfl rfl rfl rfl rfl rfl rfl rfl (by first | rfl | (simp only [List.map_cons,List.map_nil,az.agg_eq]; done) | (simp only [List.map_cons,List.map_nil,az.agg_eq]; rfl)) (cc' h2 λ hk114 h2=>mO rfl (gw ao out106 [r112] rfl rfl rfl rfl rfl rfl rfl rfl rfl rfl rfl rfl rfl (λ x=>congrArg List.length (az.cells_eq x)) rfl rfl rfl rfl hk114 (mG (Az (show lJ _ _=_ from (by repeat (first | exact ja _ | apply demOb_drop rfl | apply dh rfl (nb _ _) | apply dh rfl rfl)))) (nx 2 rfl (eX _ (oi h2).symm (gE rfl rfl)))))))))
     exact nx 2 rfl (eX _ (oi h2).symm (gE rfl rfl))
    exact nx 2 rfl (eXi _ (oi h1).symm (gE rfl rfl))
   skip; refine mG (bm 101000 103000 rfl rfl rfl rfl (by repeat (first | exact rfl | exact aJ _ | apply aF))) ?_
   refine lG (λ (q137:(List az)×(List Int)×(List Bytes)×(List Bool))=>⟨[(1,.p (eL ao l_1)),(5,.ptr 22 0)],[(22,[.p (eL ao q137.1),.arr 17 1 0 q137.2.2.1.length,.arr 20 1 0 q137.2.2.2.length,.stk 103000 1 (q137.2.1.map eI)]),(17,(q137.2.2.1.map eS).map .p),(20,(q137.2.2.2.map eB).map .p)]⟩) (λ m (q137:(List az)×(List Int)×(List Bytes)×(List Bool))=>dQ n m q137.1 q137.2.1 q137.2.2.1 q137.2.2.2) (λ _=>rfl) (o128.1,o128.2.1,o128.2.2.1,o128.2.2.2) h1 (aW (bo ⟨er rfl,er rfl,trivial⟩ ⟨⟨_,rfl,⟨sr,AV.sub_of_eq (by first | rfl | (simp; done) | (simp [AV.dem]; rfl)),AV.sub_of_eq (by first | rfl | (simp; done) | (simp [AV.dem]; rfl)),sr,trivial⟩⟩,⟨_,rfl,ag _⟩,⟨_,rfl,ag _⟩,trivial⟩)) ?_
   rintro m ⟨f76,f77,l78,l79⟩ h1
   replace h1:dQ n (m+1) f76 f77 l78 l79=some o130:=h1
   rw [dQ] at h1
   refine nx 7 rfl (mO rfl (mi eI f77 rfl rfl rfl rfl rfl rfl (nx 2 rfl (fD [63] h1 rfl (λ c80 h1=>?_) λ c80 h1=>?_))))
   ·refine nx 4 rfl (cc' h1 λ hk81 h1=>cc' h1 λ hk82 h1=>mD [(1,.p (eL ao l_1)),(5,.ptr 22 0)] rfl ⟨rfl,rfl,trivial⟩ rfl (dR 8 rfl (dq (.p (eI (f77.length:Int))) [71] rfl (λ _ e _ q=>ay rfl (mi eI f77 rfl rfl rfl rfl rfl (e _ _ rfl) q)) rfl (dq (.p (eI ((f77.length:Int) - 1))) [72] rfl (λ _ e _ q=>ay rfl (d4 rfl rfl rfl (e _ _ rfl) rfl rfl hk81 q)) rfl (dq (.ptr 103000 ((f77.length:Int) - 1).toNat) [67,73] rfl (λ _ e _ q=>ay rfl (nW eI f77 rfl rfl rfl rfl rfl rfl (e _ _ rfl) (e _ _ rfl) rfl hk82 q)) rfl (dq (.p (eI (lat f77 ((f77.length:Int) - 1)))) [74] rfl (λ _ e _ q=>ay rfl (xp eI (λ _=>⟨rfl,rfl⟩) f77 22 3 rfl rfl rfl rfl rfl (e _ _ rfl) rfl rfl hk82 q)) rfl (dR 1 rfl (dE rfl (nx 2 rfl (cc' h1 λ hk83 h1=>cc' h1 λ hk84 h1=>mG (gE (t:=⟨[(1,.p (eL ao l_1)),(5,.ptr 22 0),(10,.p (eI (lat f77 ((f77.length:Int) - 1))))],[(22,[.p (eL ao f76),.arr 17 1 0 l78.length,.arr 20 1 0 l79.length,.stk 103000 1 (f77.map eI)]),(17,(l78.map eS).map .p),(20,(l79.map eB).map .p)]⟩) rfl rfl) (mSq ⟨1,[14],(λ _=>.none),(λ _=>[(1,.p (eL ao l_1)),(5,.ptr 22 0),(10,.p (eI (lat f77 ((f77.length:Int) - 1))))]),(ob2 ([(22,[.p (eL ao f76),.arr 17 1 0 l78.length,.arr 20 1 0 l79.length,.stk 103000 1 (f77.map eI)]),(17,(l78.map eS).map .p),(20,(l79.map eB).map .p)]) (22,[.p (eL ao f76),.arr 17 1 0 l78.length,.arr 20 1 0 l79.length,.stk 103000 1 ((f77.take ((f77.length:Int) - 1).toNat).map eI)]))⟩ rfl ?_)))))))))))
    refine dPc (.ptr 22 0) rfl (dPc (.ptr 22 0) rfl (dPc (.ptr 22 0) rfl (dPc (.ptr 22 3) rfl (dPc (.stk 103000 1 (f77.map eI)) rfl (dPc (.ptr 22 0) rfl (dPc (.ptr 22 0) rfl (dPc (.ptr 22 3) rfl (dPc (.stk 103000 1 (f77.map eI)) rfl (bs (λ _=>.p (eI (f77.length:Int))) rfl rfl rfl (gP rfl (λ _=>rfl)) (lt1 rfl) (bi rfl (aT [(84,_)] ⟨.inr ⟨8,_,rfl,rfl,rfl⟩,trivial⟩ (λ sl hsl K hK=>ay rfl (mi eI f77 rfl rfl rfl rfl rfl (hsl _ _ rfl) hK)) bp)) ?_)))))))))
    refine bs (λ _=>.p (eI ((f77.length:Int) - 1))) rfl rfl rfl (gP rfl (λ _=>rfl)) (lt1 rfl) (bi rfl (aT [(85,_)] ⟨.inr ⟨9,_,rfl,rfl,rfl⟩,trivial⟩ (λ sl hsl K hK=>ay rfl (d4 rfl rfl rfl (hsl _ _ rfl) rfl rfl hk83 hK)) bp)) (bs (λ _=>.stk 103000 1 ((f77.take ((f77.length:Int) - 1).toNat).map eI)) rfl rfl rfl (gP rfl (λ _=>rfl)) (lt1 rfl) (bi rfl (aT [(80,_),(86,_)] ⟨.inr ⟨4,_,rfl,rfl,rfl⟩,.inr ⟨10,_,rfl,rfl,rfl⟩,trivial⟩ (λ sl hsl K hK=>ay rfl (tN (h:=(f77.length:Int) - 1) eI f77 rfl rfl rfl rfl rfl rfl (hsl _ _ rfl) (pT (hsl _ _ rfl)) hk84 rfl hK)) bp)) ?_)
    refine dPc (.ptr 22 0) rfl (dPc (.ptr 22 3) rfl (dS rfl (iq (nx 4 rfl (bd h1 λ r85 e86 h1=>mO rfl (bS [22,17,20] [103000] 104000 104001 (lZ _ (dB.mk f76 l78 l79 (f77.take ((f77.length:Int) - 1).toNat)) (lat f77 ((f77.length:Int) - 1)) _ e86) rfl rfl rfl rfl rfl ⟨sr,sr,trivial⟩ rfl (aF rfl rfl (aF rfl (aJ _) (aF rfl (aJ _) rfl))) ⟨⟨_,rfl,⟨sr,sr,sr,sr,trivial⟩⟩,⟨_,rfl,ag _⟩,⟨_,rfl,ag _⟩,trivial⟩ rfl rfl rfl rfl rfl rfl rfl rfl Tryz.call40 rfl (aF rfl rfl (aF rfl (aJ _) (aF rfl (aJ _) rfl))) (nx 1 rfl ?_)))))))
    skip; refine mG (bm 104000 103000 rfl rfl rfl rfl (by repeat (first | exact rfl | exact aJ _ | apply aF))) ?_
    exact eX (r85.fchanges,r85.ftodo,r85.fresources,r85.fchosen) h1 (aW (bo ⟨er rfl,er rfl,trivial⟩ ⟨⟨_,rfl,⟨sr,AV.sub_of_eq (by first | rfl | (simp; done) | (simp [AV.dem]; rfl)),AV.sub_of_eq (by first | rfl | (simp; done) | (simp [AV.dem]; rfl)),sr,trivial⟩⟩,⟨_,rfl,ag _⟩,⟨_,rfl,ag _⟩,trivial⟩))
   exact nx 2 rfl (eXi _ (oi h1).symm (aW (bo ⟨er rfl,er rfl,trivial⟩ ⟨⟨_,rfl,⟨sr,AV.sub_of_eq (by first | rfl | (simp; done) | (simp [AV.dem]; rfl)),AV.sub_of_eq (by first | rfl | (simp; done) | (simp [AV.dem]; rfl)),sr,trivial⟩⟩,⟨_,rfl,ag _⟩,⟨_,rfl,ag _⟩,trivial⟩)))
  refine lG (λ (q138:Int×(List az)×(List Int)×(List Bytes)×(List Bool))=>⟨[(0,.p (eL eS targets_0)),(1,.p (eL ao l_1)),(5,.ptr 22 0),(43,.p (eL ao l_1)),(44,.p (eI (l_1.length:Int))),(45,.p (eI q138.1))],[(22,[.p (eL ao q138.2.1),.arr 17 1 0 q138.2.2.2.1.length,.arr 20 1 0 q138.2.2.2.2.length,.stk 101000 1 (q138.2.2.1.map eI)]),(17,(q138.2.2.2.1.map eS).map .p),(20,(q138.2.2.2.2.map eB).map .p)]⟩) (λ m (q138:Int×(List az)×(List Int)×(List Bytes)×(List Bool))=>dI n targets_0 l_1 m q138.1 q138.2.1 q138.2.2.1 q138.2.2.2.1 q138.2.2.2.2) (λ _=>rfl) (0,l_1,[],o126,List.replicate (l_1.length:Int).toNat (false:Bool)) h1 (aW (bo ⟨er rfl,er rfl,er rfl,er rfl,er rfl,er rfl,trivial⟩ ⟨⟨_,rfl,⟨sr,AV.sub_of_eq (by first | rfl | (simp; done) | (simp [AV.dem]; rfl)),AV.sub_of_eq (by first | rfl | (simp; done) | (simp [AV.dem]; rfl)),AV.sub_nilstk _ _,trivial⟩⟩,⟨_,rfl,ag _⟩,⟨_,rfl,ag _⟩,trivial⟩)) ?_
  rintro m ⟨t39,f40,f41,l42,l43⟩ h1
  replace h1:dI n targets_0 l_1 (m+1) t39 f40 f41 l42 l43=some o128:=h1
  rw [dI] at h1
  refine nx 5 rfl (fD [46] h1 rfl (λ c44 h1=>?_) λ c44 h1=>?_)
  ·refine nx 3 rfl (bd h1 λ o139 h2 h1=>?_)
   refine kN o139 (λ v140=>⟨[(0,.p (eL eS targets_0)),(1,.p (eL ao l_1)),(5,.ptr 22 0),(43,.p (eL ao l_1)),(44,.p (eI (l_1.length:Int))),(45,.p (eI t39))],[(22,[.p (eL ao v140.1),.arr 17 1 0 v140.2.2.1.length,.arr 20 1 0 v140.2.2.2.length,.stk 102000 1 (v140.2.1.map eI)]),(17,(v140.2.2.1.map eS).map .p),(20,(v140.2.2.2.map eB).map .p)]⟩) ?_ ?_
   ·refine nx 2 rfl (oA h1 rfl rfl λ hk55 h1=>nx 2 rfl ?_)
    skip; refine mG (bm 102000 101000 rfl rfl rfl rfl (by repeat (first | exact rfl | exact aJ _ | apply aF))) ?_
    exact eX (t39+1,o139.1,o139.2.1,o139.2.2.1,o139.2.2.2) h1 (aW (bo ⟨er rfl,er rfl,er rfl,er rfl,er rfl,er rfl,trivial⟩ ⟨⟨_,rfl,⟨sr,AV.sub_of_eq (by first | rfl | (simp; done) | (simp [AV.dem]; rfl)),AV.sub_of_eq (by first | rfl | (simp; done) | (simp [AV.dem]; rfl)),sr,trivial⟩⟩,⟨_,rfl,ag _⟩,⟨_,rfl,ag _⟩,trivial⟩))
   refine nx 4 rfl (oE h2 az.cells_eq rfl rfl (λ _=>rfl) λ hk45 h2=>nx 1 rfl (mO rfl (md rfl rfl rfl rfl rfl (mG (mj (show lJ _ _=_ from (by repeat (first | exact ja _ | apply demOb_drop rfl | apply dh rfl (nb _ _) | apply dh rfl rfl)))) (nx 8 rfl (bd h2 λ r46 e47 h2=>oK (fh _ targets_0 ((lat l_1 t39).fAddr) _ e47) rfl ⟨sr,sr,trivial⟩ Tryz.call15 rfl (nx 1 rfl ?_)))))))
   refine fB [53] h2 rfl (λ c48 h2=>?_) λ c48 h2=>?_
   ·exact nx 4 rfl (bd h2 λ r49 e50 h2=>mO rfl (bS [22,17,20] [101000] 102000 102001 (iK (dB.mk f40 l42 l43 f41) t39 _ e50) rfl rfl rfl rfl rfl ⟨sr,sr,trivial⟩ rfl (aF rfl rfl (aF rfl (aJ _) (aF rfl (aJ _) rfl))) ⟨⟨_,rfl,⟨sr,sr,sr,sr,trivial⟩⟩,⟨_,rfl,ag _⟩,⟨_,rfl,ag _⟩,trivial⟩ rfl rfl rfl rfl rfl rfl rfl rfl Tryz.call39 rfl (aF rfl rfl (aF rfl (aJ _) (aF rfl (aJ _) rfl))) (nx 1 rfl (eX _ (oi h2).symm (aW (bo ⟨er rfl,er rfl,er rfl,er rfl,er rfl,er rfl,trivial⟩ ⟨⟨_,rfl,⟨sr,AV.sub_of_eq (by first | rfl | (simp; done) | (simp [AV.dem]; rfl)),AV.sub_of_eq (by first | rfl | (simp; done) | (simp [AV.dem]; rfl)),sr,trivial⟩⟩,⟨_,rfl,ag _⟩,⟨_,rfl,ag _⟩,trivial⟩))))))
   refine nx 2 rfl ?_
   skip; refine mG (bm 101000 102000 rfl rfl rfl rfl (by repeat (first | exact rfl | exact aJ _ | apply aF))) ?_
   exact eX _ (oi h2).symm (aW (bo ⟨er rfl,er rfl,er rfl,er rfl,er rfl,er rfl,trivial⟩ ⟨⟨_,rfl,⟨sr,AV.sub_of_eq (by first | rfl | (simp; done) | (simp [AV.dem]; rfl)),AV.sub_of_eq (by first | rfl | (simp; done) | (simp [AV.dem]; rfl)),sr,trivial⟩⟩,⟨_,rfl,ag _⟩,⟨_,rfl,ag _⟩,trivial⟩))
  exact nx 2 rfl (eXi _ (oi h1).symm (aW (bo ⟨er rfl,er rfl,trivial⟩ ⟨⟨_,rfl,⟨sr,AV.sub_of_eq (by first | rfl | (simp; done) | (simp [AV.dem]; rfl)),AV.sub_of_eq (by first | rfl | (simp; done) | (simp [AV.dem]; rfl)),sr,trivial⟩⟩,⟨_,rfl,ag _⟩,⟨_,rfl,ag _⟩,trivial⟩)))
 refine lG (λ (q141:Int×(List Bytes))=>⟨[(0,.p (eL eS targets_0)),(1,.p (eL ao l_1)),(5,.ptr 22 0),(23,.p (eL ao l_1)),(24,.p (eI (l_1.length:Int))),(25,.p (eI q141.1))],[(22,[.p (eL ao l_1),.arr 17 1 0 q141.2.length,.arr 20 1 0 ((List.replicate (l_1.length:Int).toNat (false:Bool)).length),.p (.val (.slice none 0 0))]),(17,(q141.2.map eS).map .p),(20,((List.replicate (l_1.length:Int).toNat (false:Bool)).map eB).map .p)]⟩) (λ m (q141:Int×(List Bytes))=>dG n l_1 m q141.1 q141.2) (λ _=>rfl) (0,List.replicate (l_1.length:Int).toNat ([]:Bytes)) h1 (aW (bo ⟨er rfl,er rfl,er rfl,er rfl,er rfl,er rfl,trivial⟩ ⟨⟨_,rfl,⟨sr,AV.sub_of_eq (by first | rfl | (simp; done) | (simp [AV.dem]; rfl)),sr,sr,trivial⟩⟩,⟨_,rfl,ag _⟩,⟨_,rfl,ag _⟩,trivial⟩)) ?_
 rintro m ⟨t11,l12⟩ h1
 replace h1:dG n l_1 (m+1) t11 l12=some o126:=h1
 rw [dG] at h1
 refine nx 5 rfl (fD [26] h1 rfl (λ c13 h1=>?_) λ c13 h1=>?_)
 ·refine nx 7 rfl (oE h1 az.cells_eq rfl rfl (λ _=>rfl) λ hk14 h1=>nx 1 rfl (mO rfl (md rfl rfl rfl rfl rfl (mG (mj (show lJ _ _=_ from (by repeat (first | exact ja _ | apply demOb_drop rfl | apply dh rfl (nb _ _) | apply dh rfl rfl)))) (nx 3 rfl (bd h1 λ r15 e16 h1=>cc' h1 λ hk17 h1=>mG (gE (t:=⟨[(0,.p (eL eS targets_0)),(1,.p (eL ao l_1)),(5,.ptr 22 0),(6,.p (eI t11)),(7,.ptr 7 0),(23,.p (eL ao l_1)),(24,.p (eI (l_1.length:Int))),(25,.p (eI t11))],[(7,(az.cs (lat l_1 t11)).map .p),(22,[.p (eL ao l_1),.arr 17 1 0 l12.length,.arr 20 1 0 ((List.replicate (l_1.length:Int).toNat (false:Bool)).length),.p (.val (.slice none 0 0))]),(17,(l12.map eS).map .p),(20,((List.replicate (l_1.length:Int).toNat (false:Bool)).map eB).map .p)]⟩) rfl rfl) (mSq ⟨1,[12],(λ _=>.none),(λ _=>[(0,.p (eL eS targets_0)),(1,.p (eL ao l_1)),(5,.ptr 22 0),(6,.p (eI t11)),(7,.ptr 7 0),(23,.p (eL ao l_1)),(24,.p (eI (l_1.length:Int))),(25,.p (eI t11))]),(ob2 ([(7,[.p (eS ((lat l_1 t11).fAddr)),.p (eS ((lat l_1 t11).fDeposed)),.p (eS ((lat l_1 t11).fType)),.p (eI ((lat l_1 t11).fAction)),.p (eI ((lat l_1 t11).fReason)),.p (eI (((lat l_1 t11).fBefore).fKind)),.p (eI (((lat l_1 t11).fBefore).fNum)),.p (eS (((lat l_1 t11).fBefore).fStr)),.p (eL b4 (((lat l_1 t11).fBefore).fItems)),.p (eL eS (((lat l_1 t11).fBefore).fKeys)),.p (eI (((lat l_1 t11).fAfter).fKind)),.p (eI (((lat l_1 t11).fAfter).fNum)),.p (eS (((lat l_1 t11).fAfter).fStr)),.p (eL b4 (((lat l_1 t11).fAfter).fItems)),.p (eL eS (((lat l_1 t11).fAfter).fKeys)),.p (eS ((lat l_1 t11).fID)),.p (eL eS ((lat l_1 t11).fReplace)),.p (eB ((lat l_1 t11).fCreateFirst)),.p (eB ((lat l_1 t11).fProtect)),.p (eB ((lat l_1 t11).fImport)),.p (eL eS ((lat l_1 t11).fDeps)),.p (eL eS ((lat l_1 t11).fOldDeps))]),(22,[.p (eL ao l_1),.arr 17 1 0 l12.length,.arr 20 1 0 ((List.replicate (l_1.length:Int).toNat (false:Bool)).length),.p (.val (.slice none 0 0))]),(17,(l12.map eS).map .p),(20,((List.replicate (l_1.length:Int).toNat (false:Bool)).map eB).map .p)]) (17,((l12.set t11.toNat r15.1).map eS).map .p))⟩ rfl (dPc (.ptr 22 0) rfl (dPc (.ptr 22 0) rfl (dPc (.ptr 22 1) rfl (dPc (.arr 17 1 0 l12.length) rfl (dPc (.p (eI t11)) rfl (dPc (.ptr 7 0) rfl ?_)))))))))))))
  refine dPc (.p (eS ((lat l_1 t11).fAddr))) rfl (bs (λ _=>.tuple [.p (eS r15.1),.p (eI r15.2)]) rfl rfl rfl (gP rfl (λ _=>rfl)) (lt1 rfl) (bi rfl (aT [(37,_)] ⟨.inr ⟨6,_,rfl,rfl,rfl⟩,trivial⟩ (λ sl hsl K hK=>ay rfl (b6 (lH _ ((lat l_1 t11).fAddr) _ e16) rfl rfl rfl (aX (hsl _ _ rfl) b5) ⟨sr,trivial⟩ Tryz.call32 rfl hK)) bp)) (dPc (.tuple [.p (eS r15.1),.p (eI r15.2)]) rfl (dPc (.p (eS r15.1)) rfl (dPc (.p (eI r15.2)) rfl (bs (λ _=>.ptr 17 t11.toNat) rfl rfl rfl (gP rfl (λ _=>rfl)) (lt1 rfl) (bi rfl (aT [(34,_),(35,_)] ⟨.inr ⟨3,_,rfl,rfl,rfl⟩,.inr ⟨4,_,rfl,rfl,rfl⟩,trivial⟩ (λ sl hsl K hK=>ay rfl (aG rfl rfl rfl rfl rfl rfl (hsl _ _ rfl) (hsl _ _ rfl) rfl hk17 hK)) bp)) ?_)))))
  refine qj [(39,_),(41,_)] rfl ⟨.inr ⟨9,_,rfl,rfl,rfl⟩,.inr ⟨11,_,rfl,rfl,rfl⟩,trivial⟩ rfl (λ sl hsl K hK=>ay rfl (bU (f:=eS) (l:=l12) (b:=r15.1) rfl rfl rfl rfl (hsl _ _ rfl) rfl (hsl _ _ rfl) rfl (by have:=hk17; omega) hK)) (iq ?_)
  exact nx 2 rfl (oA h1 rfl rfl λ hk18 h1=>nx 2 rfl (eX (t11+1,l12.set t11.toNat r15.1) h1 (aW (bo ⟨er rfl,er rfl,er rfl,er rfl,er rfl,er rfl,trivial⟩ ⟨⟨_,rfl,⟨sr,AV.sub_of_eq (by first | rfl | (simp; done) | (simp [AV.dem]; rfl)),sr,sr,trivial⟩⟩,⟨_,rfl,ag _⟩,⟨_,rfl,ag _⟩,trivial⟩))))
 exact nx 2 rfl (eXi _ (oi h1).symm (aW (bo ⟨er rfl,er rfl,er rfl,trivial⟩ ⟨⟨_,rfl,⟨sr,AV.sub_of_eq (by first | rfl | (simp; done) | (simp [AV.dem]; rfl)),sr,sr,trivial⟩⟩,⟨_,rfl,ag _⟩,⟨_,rfl,ag _⟩,trivial⟩)))
def il (n:Nat)(g_0:fT)(statics_1:List Bytes):Option (List Bytes) :=
 (jc n g_0 statics_1).bind λ r1 =>
 some r1
theorem rS (n:Nat)(g_0:fT)(statics_1:List Bytes)(r:(List Bytes))(h0:il n g_0 statics_1=some r):aw Tryz.prog 18 [.agg (fT.cs g_0),eL eS statics_1] (·=.p (eL eS r)):=by
 unfold il at h0
 refine a6 good Tryz.func18 rfl rfl rfl λ w0=>mP (λ v:(List Bytes)=>.p (eL eS v)) ?_
 exact nx 9 rfl (bd h0 λ r1 e2 h0=>oK (tH _ g_0 statics_1 _ e2) rfl ⟨sr,sr,trivial⟩ Tryz.call37 rfl (nx 3 rfl (mQ (oi h0) rfl (sr))))
def ic (addr_0:Bytes)(a_1:Int)(deps_2:List Bytes)(old_3:List Bytes):Option az :=
 some (az.mk addr_0 ([]:Bytes) ([]:Bytes) a_1 0 (aH.mk 0 0 ([]:Bytes) [] []) (aH.mk 0 0 ([]:Bytes) [] []) ([]:Bytes) [] false false false deps_2 old_3)
theorem iP (addr_0:Bytes)(a_1:Int)(deps_2:List Bytes)(old_3:List Bytes)(r:az)(h0:ic addr_0 a_1 deps_2 old_3=some r):aw Tryz.prog 30 [eS addr_0,eI a_1,eL eS deps_2,eL eS old_3] (·=.p (.agg (az.cs r))):=by
 unfold ic at h0
 refine a6 good Tryz.func30 rfl rfl rfl λ w0=>mP (λ v:az=>.p (.agg (az.cs v))) ?_
 exact nx 14 rfl (mQ (oi h0) rfl (im ⟨.inl rfl,.inl rfl,.inl rfl,.inl rfl,.inl rfl,.inl rfl,.inl rfl,.inl rfl,.inr ⟨rfl,rfl⟩,.inr ⟨rfl,rfl⟩,.inl rfl,.inl rfl,.inl rfl,.inr ⟨rfl,rfl⟩,.inr ⟨rfl,rfl⟩,.inl rfl,.inr ⟨rfl,rfl⟩,.inl rfl,.inl rfl,.inl rfl,.inl rfl,.inl rfl,trivial⟩))
def fO (n:Nat):Option Bool :=
 (ic ([97,46,120]:Bytes) 4 [] []).bind λ r1 =>
 (ic ([98,46,121]:Bytes) 4 [] ([([97,46,120]:Bytes)])).bind λ r3 =>
 (ic ([110,101,116,46,110]:Bytes) 1 [] []).bind λ r5 =>
 (ic ([115,101,114,118,101,114,46,115,91,48,93]:Bytes) 1 ([([110,101,116,46,110]:Bytes)]) []).bind λ r7 =>
 (eg n ([([97,46,120]:Bytes)]) [r1,r3,r5,r7]).bind λ r9 =>
 (eg n ([([98,46,121]:Bytes)]) [r1,r3,r5,r7]).bind λ r11 =>
 (eg n ([([115,101,114,118,101,114,46,115]:Bytes)]) [r1,r3,r5,r7]).bind λ r13 =>
 (il n (fT.mk ([([97]:Bytes),([98]:Bytes)]) ([(lB.mk ([97]:Bytes) ([98]:Bytes))])) ([([97]:Bytes)])).bind λ r15 =>
 (
   if (r9.length:Int)=2 then
    if (r11.length:Int)=1 then
     ck ((0:Int)≤0∧0 < (r11.length:Int)) <|
     if (lat r11 0).fAddr=([98,46,121]:Bytes) then
      if (r13.length:Int)=2 then
       ck ((0:Int)≤0∧0 < (r13.length:Int)) <|
       if (lat r13 0).fAddr=([110,101,116,46,110]:Bytes) then
        (eg n [] [r1,r3,r5,r7]).bind λ r24 =>
        if (r24.length:Int)=4 then
         if (r15.length:Int)=2 then
          (cr n ([([97,46,98]:Bytes)]) ([97,46,98,91,48,93]:Bytes)).bind λ r28 =>
          if r28=true then
           (cr n ([([97,46,98]:Bytes)]) ([97,46,99]:Bytes)).bind λ r31 =>
           if (!r31)=true then
            (eP n ([([97,46,98]:Bytes)])).bind λ r34 =>
            if r34=0 then
             (eP n ([([]:Bytes)])).bind λ r37 =>
             some (!decide (r37=0))
            else
             some false
           else
            some false
          else
           some false
         else
          some false
        else
         some false
       else
        some false
      else
       some false
     else
      some false
    else
     some false
   else
    some false
  : Option Bool).bind λ t39 =>
 some t39
theorem nT (n:Nat)(r:Bool)(h0:fO n=some r):aw Tryz.prog 13 [] (·=.p (eB r)):=by
 unfold fO at h0
 refine a6 good Tryz.func13 rfl rfl rfl λ w0=>mP (λ v:Bool=>.p (eB v)) ?_
 refine nx 6 rfl (bd h0 λ r1 e2 h0=>oK (iP ([97,46,120]:Bytes) 4 [] [] _ e2) rfl ⟨sr,sr,gA _,gA _,trivial⟩ Tryz.call30 rfl (mO rfl (bn eS [([97,46,120]:Bytes)] rfl rfl rfl rfl rfl rfl rfl rfl rfl rfl rfl rfl rfl rfl (bd h0 λ r3 e4 h0=>oK (iP ([98,46,121]:Bytes) 4 [] ([([97,46,120]:Bytes)]) _ e4) rfl ⟨sr,sr,gA _,sr,trivial⟩ Tryz.call30 rfl (bd h0 λ r5 e6 h0=>oK (iP ([110,101,116,46,110]:Bytes) 1 [] [] _ e6) rfl ⟨sr,sr,gA _,gA _,trivial⟩ Tryz.call30 rfl (mO rfl (bn eS [([110,101,116,46,110]:Bytes)] rfl rfl rfl rfl rfl rfl rfl rfl rfl rfl rfl rfl rfl rfl (bd h0 λ r7 e8 h0=>oK (iP ([115,101,114,118,101,114,46,115,91,48,93]:Bytes) 1 ([([110,101,116,46,110]:Bytes)]) [] _ e8) rfl ⟨sr,sr,sr,gA _,trivial⟩ Tryz.call30 rfl (mO rfl (bn ao [r1,r3,r5,r7] rfl rfl rfl rfl rfl rfl rfl rfl rfl rfl rfl rfl rfl (by first | rfl | (simp only [List.map_cons,List.map_nil,az.agg_eq]; done) | (simp only [List.map_cons,List.map_nil,az.agg_eq]; rfl)) (nx 4 rfl (mO rfl (bn eS [([97,46,120]:Bytes)] rfl rfl rfl rfl rfl rfl rfl rfl rfl rfl rfl rfl rfl rfl (nx 1 rfl (bd h0 λ r9 e10 h0=>?_)))))))))))))))
 refine oK (ij _ ([([97,46,120]:Bytes)]) [r1,r3,r5,r7] _ e10) rfl ⟨sr,sr,trivial⟩ Tryz.call23 rfl (nx 4 rfl (mO rfl (bn eS [([98,46,121]:Bytes)] rfl rfl rfl rfl rfl rfl rfl rfl rfl rfl rfl rfl rfl rfl (nx 1 rfl (bd h0 λ r11 e12 h0=>oK (ij _ ([([98,46,121]:Bytes)]) [r1,r3,r5,r7] _ e12) rfl ⟨sr,sr,trivial⟩ Tryz.call23 rfl (nx 4 rfl (mO rfl (bn eS [([115,101,114,118,101,114,46,115]:Bytes)] rfl rfl rfl rfl rfl rfl rfl rfl rfl rfl rfl rfl rfl rfl (nx 1 rfl (bd h0 λ r13 e14 h0=>oK (ij _ ([([115,101,114,118,101,114,46,115]:Bytes)]) [r1,r3,r5,r7] _ e14) rfl ⟨sr,sr,trivial⟩ Tryz.call23 rfl (nx 4 rfl ?_)))))))))))
 refine mO rfl (bn eS [([97]:Bytes),([98]:Bytes)] rfl rfl rfl rfl rfl rfl rfl rfl rfl rfl rfl rfl rfl rfl (nx 1 rfl (mO rfl (bn lX [(lB.mk ([97]:Bytes) ([98]:Bytes))] rfl rfl rfl rfl rfl rfl rfl rfl rfl rfl rfl rfl rfl (by first | rfl | (simp only [List.map_cons,List.map_nil,lB.agg_eq]; done) | (simp only [List.map_cons,List.map_nil,lB.agg_eq]; rfl)) (nx 7 rfl (mO rfl (bn eS [([97]:Bytes)] rfl rfl rfl rfl rfl rfl rfl rfl rfl rfl rfl rfl rfl rfl (bd h0 λ r15 e16 h0=>oK (rS _ (fT.mk ([([97]:Bytes),([98]:Bytes)]) ([(lB.mk ([97]:Bytes) ([98]:Bytes))])) ([([97]:Bytes)]) _ e16) rfl ⟨sr,sr,trivial⟩ Tryz.call18 rfl (nx 2 rfl (mG (gE (t:=⟨[(1,.p (eL ao [r1,r3,r5,r7])),(2,.p (eL ao r9)),(3,.p (eL ao r11)),(4,.p (eL ao r13)),(6,.p (eL eS r15))],[]⟩) rfl rfl) (nx 1 rfl (bd h0 λ o41 h1 h0=>kN o41 (λ v42=>⟨[(0,.p (eB v42))],[]⟩) ?_ ?_))))))))))))
 ·exact nx 2 rfl (mQ (oi h0) rfl (sr))
 refine nx 2 rfl (oLl (f:=ao) rfl rfl (nx 2 rfl (fD [32,33] h1 rfl (λ c17 h1=>?_) λ c17 h1=>?_)))
 ·refine nx 1 rfl (oLl (f:=ao) rfl rfl (nx 3 rfl (fD [36,37,38] h1 rfl (λ c18 h1=>?_) λ c18 h1=>?_)))
  ·refine nx 1 rfl (oE h1 az.cells_eq rfl rfl (λ _=>rfl) λ hk19 h1=>nx 2 rfl (oS rfl rfl (nx 2 rfl (fD [43,44,45] h1 rfl (λ c20 h1=>?_) λ c20 h1=>?_))))
   ·refine nx 1 rfl (oLl (f:=ao) rfl rfl (nx 3 rfl (fD [48,49,50] h1 rfl (λ c21 h1=>?_) λ c21 h1=>?_)))
    ·refine nx 1 rfl (oE h1 az.cells_eq rfl rfl (λ _=>rfl) λ hk22 h1=>nx 2 rfl (oS rfl rfl (nx 2 rfl (fD [55,56,57] h1 rfl (λ c23 h1=>?_) λ c23 h1=>?_))))
     ·refine nx 1 rfl (bd h1 λ r24 e25 h1=>oK (ij _ [] [r1,r3,r5,r7] _ e25) rfl ⟨gA _,sr,trivial⟩ Tryz.call23 rfl (oLl (f:=ao) rfl rfl (nx 3 rfl (fD [61,62,63] h1 rfl (λ c26 h1=>?_) λ c26 h1=>?_))))
      ·refine nx 1 rfl (oLl (f:=eS) rfl rfl (nx 3 rfl (fD [66,67,68] h1 rfl (λ c27 h1=>?_) λ c27 h1=>?_)))
       ·refine mO rfl (bn eS [([97,46,98]:Bytes)] rfl rfl rfl rfl rfl rfl rfl rfl rfl rfl rfl rfl rfl rfl (bd h1 λ r28 e29 h1=>oK (fh _ ([([97,46,98]:Bytes)]) ([97,46,98,91,48,93]:Bytes) _ e29) rfl ⟨sr,sr,trivial⟩ Tryz.call15 rfl (nx 2 rfl ?_)))
        refine fB [70,71,72] h1 rfl (λ c30 h1=>?_) λ c30 h1=>?_
        ·refine mO rfl (bn eS [([97,46,98]:Bytes)] rfl rfl rfl rfl rfl rfl rfl rfl rfl rfl rfl rfl rfl rfl (bd h1 λ r31 e32 h1=>oK (fh _ ([([97,46,98]:Bytes)]) ([97,46,99]:Bytes) _ e32) rfl ⟨sr,sr,trivial⟩ Tryz.call15 rfl (nx 3 rfl ?_)))
         refine fB [75,76,77] h1 rfl (λ c33 h1=>?_) λ c33 h1=>?_
         ·refine mO rfl (bn eS [([97,46,98]:Bytes)] rfl rfl rfl rfl rfl rfl rfl rfl rfl rfl rfl rfl rfl rfl (bd h1 λ r34 e35 h1=>oK (nv _ ([([97,46,98]:Bytes)]) _ e35) rfl ⟨sr,trivial⟩ Tryz.call11 rfl (nx 3 rfl ?_)))
          refine fD [80,81,82] h1 rfl (λ c36 h1=>?_) λ c36 h1=>?_
          ·exact mO rfl (bn eS [([]:Bytes)] rfl rfl rfl rfl rfl rfl rfl rfl rfl rfl rfl rfl rfl rfl (bd h1 λ r37 e38 h1=>oK (nv _ ([([]:Bytes)]) _ e38) rfl ⟨sr,trivial⟩ Tryz.call11 rfl (nx 4 rfl (eX _ (oi h1).symm (gE rfl rfl)))))
          exact nx 6 rfl (eX _ (oi h1).symm (gE rfl rfl))
         exact nx 11 rfl (eX _ (oi h1).symm (gE rfl rfl))
        exact nx 16 rfl (eX _ (oi h1).symm (gE rfl rfl))
       exact nx 20 rfl (eX _ (oi h1).symm (gE rfl rfl))
      exact nx 25 rfl (eX _ (oi h1).symm (gE rfl rfl))
     exact nx 31 rfl (eX _ (oi h1).symm (gE rfl rfl))
    exact nx 38 rfl (eX _ (oi h1).symm (gE rfl rfl))
   exact nx 43 rfl (eX _ (oi h1).symm (gE rfl rfl))
  exact nx 50 rfl (eX _ (oi h1).symm (gE rfl rfl))
 exact nx 55 rfl (eX _ (oi h1).symm (gE rfl rfl))
def en (l_0:List Bytes):Nat→Int→Option (Unit⊕Bool)
 | 0,_=>none
 | m+1,i7 =>
 if i7 < (l_0.length:Int) then
  ck ((0:Int)≤i7∧i7 < (l_0.length:Int)) <|
  if 300 < ((lat l_0 i7).length:Int) then
   some (.inr false)
  else
   ck (inR (i7+1)) <|
   en l_0 m (i7+1)
 else
  some (.inl ())
def g0 (n:Nat)(l_0:List Bytes)(most_1:Int):Option Bool :=
 if most_1 < (l_0.length:Int) then
  some false
 else
  jn (en l_0 n 0) λ q13 =>
  some true
theorem lw (n:Nat)(l_0:List Bytes)(most_1:Int)(r:Bool)(h0:g0 n l_0 most_1=some r):aw Tryz.prog 10 [eL eS l_0,eI most_1] (·=.p (eB r)):=by
 unfold g0 at h0
 refine a6 good Tryz.func10 rfl rfl rfl λ w0=>mP (λ v:Bool=>.p (eB v)) ?_
 refine nx 8 rfl (oLl (f:=eS) rfl rfl (nx 3 rfl (fD [9] h0 rfl (λ c1 h0=>?_) λ c1 h0=>?_)))
 ·exact nx 6 rfl (mQ (oi h0) rfl (sr))
 refine nx 8 rfl ?_
 obtain ⟨o14,h1,hL0,hR0⟩:=fQ h0
 refine kEx 0 (λ v15:Unit=>o14=.inl v15) (λ v15=>⟨[],[]⟩) (λ v15 hv=>?_) ?_
 ·have h0:=hL0 _ hv
  exact nx 6 rfl (mQ (oi h0) rfl (sr))
 refine lG (λ (q16:Int)=>⟨[(0,.p (eL eS l_0)),(5,.p (eI q16))],[]⟩) (λ m (q16:Int)=>en l_0 m q16) (λ _=>rfl) 0 h1 (gE rfl rfl) ?_
 rintro m i7 h1
 replace h1:en l_0 (m+1) i7=some o14:=h1
 rw [en] at h1
 refine nx 5 rfl (oLl (f:=eS) rfl rfl (nx 2 rfl (fD [13] h1 rfl (λ c8 h1=>?_) λ c8 h1=>?_)))
 ·refine nx 8 rfl (oE h1 (λ _=>rfl) rfl rfl (λ _=>rfl) λ hk9 h1=>nx 1 rfl (oLs rfl (nx 2 rfl (fD [21] h1 rfl (λ c10 h1=>?_) λ c10 h1=>?_))))
  ·exact nx 6 rfl (mQ (hR0 _ (oi h1).symm) rfl (sr))
  exact nx 4 rfl (oA h1 rfl rfl λ hk11 h1=>nx 2 rfl (eX (i7+1) h1 (gE rfl rfl)))
 exact nx 2 rfl (eXi _ (oi h1).symm (gE rfl rfl))
def eA (targets_0:List Bytes):Nat→Int→Option (Unit⊕Int)
 | 0,_=>none
 | m+1,i8 =>
 if i8 < (targets_0.length:Int) then
  ck ((0:Int)≤i8∧i8 < (targets_0.length:Int)) <|
  ck ((lat targets_0 i8).length≤65536) <|
  if Glob.rcheck (lat targets_0 i8)=0 then
   ck (inR (i8+1)) <|
   eA targets_0 m (i8+1)
  else
   some (.inr (Glob.rcheck (lat targets_0 i8)))
 else
  some (.inl ())
def kd (n:Nat)(targets_0:List Bytes):Option Int :=
 if 64 < (targets_0.length:Int) then
  some 14
 else
  jn (eA targets_0 n 0) λ q15 =>
  some 0
theorem sB (n:Nat)(targets_0:List Bytes)(r:Int)(h0:kd n targets_0=some r):aw Tryz.prog 12 [eL eS targets_0] (·=.p (eI r)):=by
 unfold kd at h0
 refine a6 good Tryz.func12 rfl rfl rfl λ w0=>mP (λ v:Int=>.p (eI v)) ?_
 refine nx 8 rfl (oLl (f:=eS) rfl rfl (nx 2 rfl (fD [7] h0 rfl (λ c1 h0=>?_) λ c1 h0=>?_)))
 ·exact nx 6 rfl (mQ (oi h0) rfl (sr))
 refine nx 8 rfl ?_
 obtain ⟨o16,h1,hL0,hR0⟩:=fQ h0
 refine kEx 0 (λ v17:Unit=>o16=.inl v17) (λ v17=>⟨[],[]⟩) (λ v17 hv=>?_) ?_
 ·have h0:=hL0 _ hv
  exact nx 6 rfl (mQ (oi h0) rfl (sr))
 refine lG (λ (q18:Int)=>⟨[(0,.p (eL eS targets_0)),(3,.p (eI q18))],[]⟩) (λ m (q18:Int)=>eA targets_0 m q18) (λ _=>rfl) 0 h1 (gE rfl rfl) ?_
 rintro m i8 h1
 replace h1:eA targets_0 (m+1) i8=some o16:=h1
 rw [eA] at h1
 refine nx 5 rfl (oLl (f:=eS) rfl rfl (nx 2 rfl (fD [11] h1 rfl (λ c9 h1=>?_) λ c9 h1=>?_)))
 ·refine nx 8 rfl (oE h1 (λ _=>rfl) rfl rfl (λ _=>rfl) λ hk10 h1=>nx 1 rfl (cc' h1 λ hk11 h1=>oK (Glob.rcheck_ok (lat targets_0 i8) hk11) rfl ⟨sr,trivial⟩ Tryz.call29 rfl (nx 7 rfl ?_)))
  refine fN [20] h1 rfl (λ c12 h1=>?_) λ c12 h1=>?_
  ·exact nx 4 rfl (oA h1 rfl rfl λ hk13 h1=>nx 2 rfl (eX (i8+1) h1 (gE rfl rfl)))
  exact nx 7 rfl (mQ (hR0 _ (oi h1).symm) rfl (sr))
 exact nx 2 rfl (eXi _ (oi h1).symm (gE rfl rfl))
def fJ (n:Nat)(l_1:List az):Nat→Int→Option (Unit⊕Bool)
 | 0,_=>none
 | m+1,i23 =>
 if i23 < (l_1.length:Int) then
  (
    ck ((0:Int)≤i23∧i23 < (l_1.length:Int)) <|
    if 300 < (((lat l_1 i23).fAddr).length:Int) then
     some true
    else
     ck ((0:Int)≤i23∧i23 < (l_1.length:Int)) <|
     (g0 n ((lat l_1 i23).fDeps) 10).bind λ r28 =>
     if (!r28)=true then
      some true
     else
      ck ((0:Int)≤i23∧i23 < (l_1.length:Int)) <|
      (g0 n ((lat l_1 i23).fOldDeps) 10).bind λ r32 =>
      some (!r32)
   : Option Bool).bind λ t34 =>
  if t34=true then
   some (.inr false)
  else
   ck (inR (i23+1)) <|
   fJ n l_1 m (i23+1)
 else
  some (.inl ())
def l9 (n:Nat)(targets_0:List Bytes)(l_1:List az):Option Bool :=
 (
   (g0 n targets_0 16).bind λ r1 =>
   if (!r1)=true then
    some true
   else
    (kd n targets_0).bind λ r4 =>
    if r4=0 then
     some (decide (20 < (l_1.length:Int)))
    else
     some true
  : Option Bool).bind λ t7 =>
 if t7=true then
  some false
 else
  jn (fJ n l_1 n 0) λ q39 =>
  some true
theorem vc (n:Nat)(targets_0:List Bytes)(l_1:List az)(r:Bool)(h0:l9 n targets_0 l_1=some r):aw Tryz.prog 14 [eL eS targets_0,eL ao l_1] (·=.p (eB r)):=by
 unfold l9 at h0
 refine a6 good Tryz.func14 rfl rfl rfl λ w0=>mP (λ v:Bool=>.p (eB v)) ?_
 refine nx 6 rfl (bd h0 λ o41 h1 h0=>?_)
 refine kN o41 (λ v42=>⟨[(1,.p (eL ao l_1)),(18,.p (eB v42))],[]⟩) ?_ ?_
 ·refine nx 1 rfl (fB [18] h0 rfl (λ c8 h0=>?_) λ c8 h0=>?_)
  ·exact nx 6 rfl (mQ (oi h0) rfl (sr))
  refine nx 8 rfl ?_
  obtain ⟨o43,h1,hL0,hR0⟩:=fQ h0
  refine kEx 0 (λ v44:Unit=>o43=.inl v44) (λ v44=>⟨[],[]⟩) (λ v44 hv=>?_) ?_
  ·have h0:=hL0 _ hv
   exact nx 6 rfl (mQ (oi h0) rfl (sr))
  refine lG (λ (q45:Int)=>⟨[(1,.p (eL ao l_1)),(5,.p (eI q45))],[]⟩) (λ m (q45:Int)=>fJ n l_1 m q45) (λ _=>rfl) 0 h1 (gE rfl rfl) ?_
  rintro m i23 h1
  replace h1:fJ n l_1 (m+1) i23=some o43:=h1
  rw [fJ] at h1
  refine nx 5 rfl (oLl (f:=ao) rfl rfl (nx 2 rfl (fD [22] h1 rfl (λ c24 h1=>?_) λ c24 h1=>?_)))
  ·refine nx 5 rfl (bd h1 λ o46 h2 h1=>?_)
   refine kN o46 (λ v47=>⟨[(1,.p (eL ao l_1)),(5,.p (eI i23)),(49,.p (eB v47))],[]⟩) ?_ ?_
   ·refine nx 1 rfl (fB [49] h1 rfl (λ c35 h1=>?_) λ c35 h1=>?_)
    ·exact nx 6 rfl (mQ (hR0 _ (oi h1).symm) rfl (sr))
    exact nx 4 rfl (oA h1 rfl rfl λ hk36 h1=>nx 2 rfl (eX (i23+1) h1 (gE rfl rfl)))
   refine nx 3 rfl (oE h2 az.cells_eq rfl rfl (λ _=>rfl) λ hk25 h2=>nx 2 rfl (oLs rfl (nx 2 rfl (fD [31,32] h2 rfl (λ c26 h2=>?_) λ c26 h2=>?_))))
   ·exact nx 18 rfl (eX _ (oi h2).symm (gE rfl rfl))
   refine nx 2 rfl (oE h2 az.cells_eq rfl rfl (λ _=>rfl) λ hk27 h2=>nx 2 rfl (bd h2 λ r28 e29 h2=>oK (lw _ ((lat l_1 i23).fDeps) 10 _ e29) rfl ⟨sr,sr,trivial⟩ Tryz.call10 rfl (nx 3 rfl ?_)))
   refine fB [39,40,41] h2 rfl (λ c30 h2=>?_) λ c30 h2=>?_
   ·exact nx 9 rfl (eX _ (oi h2).symm (gE rfl rfl))
   exact nx 2 rfl (oE h2 az.cells_eq rfl rfl (λ _=>rfl) λ hk31 h2=>nx 2 rfl (bd h2 λ r32 e33 h2=>oK (lw _ ((lat l_1 i23).fOldDeps) 10 _ e33) rfl ⟨sr,sr,trivial⟩ Tryz.call10 rfl (nx 3 rfl (eX _ (oi h2).symm (gE rfl rfl)))))
  exact nx 2 rfl (eXi _ (oi h1).symm (gE rfl rfl))
 refine nx 2 rfl (bd h1 λ r1 e2 h1=>oK (lw _ targets_0 16 _ e2) rfl ⟨sr,sr,trivial⟩ Tryz.call10 rfl (nx 2 rfl ?_))
 refine fB [8,9] h1 rfl (λ c3 h1=>?_) λ c3 h1=>?_
 ·exact nx 10 rfl (eX _ (oi h1).symm (gE rfl rfl))
 refine nx 1 rfl (bd h1 λ r4 e5 h1=>oK (sB _ targets_0 _ e5) rfl ⟨sr,trivial⟩ Tryz.call12 rfl (nx 3 rfl ?_))
 refine fN [12,13,14] h1 rfl (λ c6 h1=>?_) λ c6 h1=>?_
 ·exact nx 1 rfl (oLl (f:=ao) rfl rfl (nx 3 rfl (eX _ (oi h1).symm (gE rfl rfl))))
 exact nx 5 rfl (eX _ (oi h1).symm (gE rfl rfl))
end Go.Ab.R06
end
section
namespace Go.Ab.R06
open Go.Ab
theorem py {targets_0:List Bytes}:∀ (m m':Nat),m≤m'→∀ (y0:Int),Le (cD targets_0 m y0) (cD targets_0 m' y0):=by
 intro m
 induction m with
 | zero=>intro m' _ y0; exact dk _
 | succ m ih =>
 intro m' hm y0
 cases m' with
 | zero=>omega
 | succ m' =>
 simp only [cD]
 repeat' (with_reducible (first | exact af _ | apply ih | refine co ?_ | refine bz ?_ ?_ | refine ba ?_ (λ _=>?_) | refine cn ?_ (λ _=>?_) | omega | intro _))
theorem rO {n n':Nat}(hn:n≤n'){targets_0:List Bytes}:Le (eP n targets_0) (eP n' targets_0):=by
 simp only [eP]
 repeat' (with_reducible (first | exact af _ | apply py | refine co ?_ | refine bz ?_ ?_ | refine ba ?_ (λ _=>?_) | refine cn ?_ (λ _=>?_) | omega | intro _))
theorem sK {patterns_0:List Bytes}{s_1:Bytes}:∀ (m m':Nat),m≤m'→∀ (y0:Int),Le (ew patterns_0 s_1 m y0) (ew patterns_0 s_1 m' y0):=by
 intro m
 induction m with
 | zero=>intro m' _ y0; exact dk _
 | succ m ih =>
 intro m' hm y0
 cases m' with
 | zero=>omega
 | succ m' =>
 simp only [ew]
 repeat' (with_reducible (first | exact af _ | apply ih | refine co ?_ | refine bz ?_ ?_ | refine ba ?_ (λ _=>?_) | refine cn ?_ (λ _=>?_) | omega | intro _))
theorem wa {n n':Nat}(hn:n≤n'){patterns_0:List Bytes}{s_1:Bytes}:Le (ju n patterns_0 s_1) (ju n' patterns_0 s_1):=by
 simp only [ju]
 repeat' (with_reducible (first | exact af _ | apply sK | refine co ?_ | refine bz ?_ ?_ | refine ba ?_ (λ _=>?_) | refine cn ?_ (λ _=>?_) | omega | intro _))
theorem lT {s_0:Bytes}:∀ (m m':Nat),m≤m'→∀ (y0:Int),Le (bG s_0 m y0) (bG s_0 m' y0):=by
 intro m
 induction m with
 | zero=>intro m' _ y0; exact dk _
 | succ m ih =>
 intro m' hm y0
 cases m' with
 | zero=>omega
 | succ m' =>
 simp only [bG]
 repeat' (with_reducible (first | exact af _ | apply ih | refine co ?_ | refine bz ?_ ?_ | refine ba ?_ (λ _=>?_) | refine cn ?_ (λ _=>?_) | omega | intro _))
theorem fv {n n':Nat}(hn:n≤n'){s_0:Bytes}:Le (b8 n s_0) (b8 n' s_0):=by
 simp only [b8]
 repeat' (with_reducible (first | exact af _ | apply lT | refine co ?_ | refine bz ?_ ?_ | refine ba ?_ (λ _=>?_) | refine cn ?_ (λ _=>?_) | omega | intro _))
theorem jr {n n':Nat}(hn:n≤n'){r_0:ah}:Le (ca n r_0) (ca n' r_0):=by
 simp only [ca]
 repeat' (with_reducible (first | exact af _ | apply fv | refine co ?_ | refine bz ?_ ?_ | refine ba ?_ (λ _=>?_) | refine cn ?_ (λ _=>?_) | omega | intro _))
theorem lW {s_0:Bytes}:∀ (m m':Nat),m≤m'→∀ (y0:Int) (y1:Int),Le (bI s_0 m y0 y1) (bI s_0 m' y0 y1):=by
 intro m
 induction m with
 | zero=>intro m' _ y0 y1; exact dk _
 | succ m ih =>
 intro m' hm y0 y1
 cases m' with
 | zero=>omega
 | succ m' =>
 simp only [bI]
 repeat' (with_reducible (first | exact af _ | apply ih | refine co ?_ | refine bz ?_ ?_ | refine ba ?_ (λ _=>?_) | refine cn ?_ (λ _=>?_) | omega | intro _))
theorem ny {n n':Nat}(hn:n≤n'){s_0:Bytes}:Le (cz n s_0) (cz n' s_0):=by
 simp only [cz]
 repeat' (with_reducible (first | exact af _ | apply lW | refine co ?_ | refine bz ?_ ?_ | refine ba ?_ (λ _=>?_) | refine cn ?_ (λ _=>?_) | omega | intro _))
theorem rf {n n':Nat}(hn:n≤n'){s_0:Bytes}:Le (eR n s_0) (eR n' s_0):=by
 simp only [eR]
 repeat' (with_reducible (first | exact af _ | apply ny | refine co ?_ | refine bz ?_ ?_ | refine ba ?_ (λ _=>?_) | refine cn ?_ (λ _=>?_) | omega | intro _))
theorem nH {n n':Nat}(hn:n≤n'){s_0:Bytes}:∀ (m m':Nat),m≤m'→∀ (y0:Int) (y1:List UInt8),Le (cx n s_0 m y0 y1) (cx n' s_0 m' y0 y1):=by
 intro m
 induction m with
 | zero=>intro m' _ y0 y1; exact dk _
 | succ m ih =>
 intro m' hm y0 y1
 cases m' with
 | zero=>omega
 | succ m' =>
 simp only [cx]
 repeat' (with_reducible (first | exact af _ | apply ih | apply rf | refine co ?_ | refine bz ?_ ?_ | refine ba ?_ (λ _=>?_) | refine cn ?_ (λ _=>?_) | omega | intro _))
theorem p6 {n n':Nat}(hn:n≤n'){s_0:Bytes}:Le (eF n s_0) (eF n' s_0):=by
 simp only [eF]
 repeat' (with_reducible (first | exact af _ | apply nH | refine co ?_ | refine bz ?_ ?_ | refine ba ?_ (λ _=>?_) | refine cn ?_ (λ _=>?_) | omega | intro _))
theorem pq {s_0:Bytes}:∀ (m m':Nat),m≤m'→∀ (y0:Int) (y1:List UInt8),Le (cE s_0 m y0 y1) (cE s_0 m' y0 y1):=by
 intro m
 induction m with
 | zero=>intro m' _ y0 y1; exact dk _
 | succ m ih =>
 intro m' hm y0 y1
 cases m' with
 | zero=>omega
 | succ m' =>
 simp only [cE]
 repeat' (with_reducible (first | exact af _ | apply ih | refine co ?_ | refine bz ?_ ?_ | refine ba ?_ (λ _=>?_) | refine cn ?_ (λ _=>?_) | omega | intro _))
theorem nw {n n':Nat}(hn:n≤n'){s_0:Bytes}:Le (eQ n s_0) (eQ n' s_0):=by
 simp only [eQ]
 repeat' (with_reducible (first | exact af _ | apply pq | refine co ?_ | refine bz ?_ ?_ | refine ba ?_ (λ _=>?_) | refine cn ?_ (λ _=>?_) | omega | intro _))
theorem ni {s7:Bytes}:∀ (m m':Nat),m≤m'→∀ (y0:Int),Le (bN s7 m y0) (bN s7 m' y0):=by
 intro m
 induction m with
 | zero=>intro m' _ y0; exact dk _
 | succ m ih =>
 intro m' hm y0
 cases m' with
 | zero=>omega
 | succ m' =>
 simp only [bN]
 repeat' (with_reducible (first | exact af _ | apply ih | refine co ?_ | refine bz ?_ ?_ | refine ba ?_ (λ _=>?_) | refine cn ?_ (λ _=>?_) | omega | intro _))
theorem oO {n n':Nat}(hn:n≤n'){s_0:Bytes}:Le (dO n s_0) (dO n' s_0):=by
 simp only [dO]
 repeat' (with_reducible (first | exact af _ | apply ni | refine co ?_ | refine bz ?_ ?_ | refine ba ?_ (λ _=>?_) | refine cn ?_ (λ _=>?_) | omega | intro _))
theorem rX {n n':Nat}(hn:n≤n'){s_0:Bytes}:Le (fI n s_0) (fI n' s_0):=by
 simp only [fI]
 repeat' (with_reducible (first | exact af _ | apply oO | refine co ?_ | refine bz ?_ ?_ | refine ba ?_ (λ _=>?_) | refine cn ?_ (λ _=>?_) | omega | intro _))
theorem jL {n n':Nat}(hn:n≤n'){r_0:ah}:Le (cA n r_0) (cA n' r_0):=by
 simp only [cA]
 repeat' (with_reducible (first | exact af _ | apply p6 | apply nw | apply rX | refine co ?_ | refine bz ?_ ?_ | refine ba ?_ (λ _=>?_) | refine cn ?_ (λ _=>?_) | omega | intro _))
theorem nh {n n':Nat}(hn:n≤n'){r_0:ah}:Le (cK n r_0) (cK n' r_0):=by
 simp only [cK]
 repeat' (with_reducible (first | exact af _ | apply jr | apply jL | refine co ?_ | refine bz ?_ ?_ | refine ba ?_ (λ _=>?_) | refine cn ?_ (λ _=>?_) | omega | intro _))
theorem ns {n n':Nat}(hn:n≤n'){s_0:Bytes}:Le (dV n s_0) (dV n' s_0):=by
 simp only [dV]
 repeat' (with_reducible (first | exact af _ | apply fv | refine co ?_ | refine bz ?_ ?_ | refine ba ?_ (λ _=>?_) | refine cn ?_ (λ _=>?_) | omega | intro _))
theorem oU {n n':Nat}(hn:n≤n'):∀ (m m':Nat),m≤m'→∀ (y0:List ab) (y1:Bytes) (y2:Bool),Le (cI n m y0 y1 y2) (cI n' m' y0 y1 y2):=by
 intro m
 induction m with
 | zero=>intro m' _ y0 y1 y2; exact dk _
 | succ m ih =>
 intro m' hm y0 y1 y2
 cases m' with
 | zero=>omega
 | succ m' =>
 simp only [cI]
 repeat' (with_reducible (first | exact af _ | apply ih | apply nh | refine co ?_ | refine bz ?_ ?_ | refine ba ?_ (λ _=>?_) | refine cn ?_ (λ _=>?_) | omega | intro _))
theorem rb {n n':Nat}(hn:n≤n'){s_0:Bytes}:Le (eT n s_0) (eT n' s_0):=by
 simp only [eT]
 repeat' (with_reducible (first | exact af _ | apply oU | apply jr | apply jL | apply ns | refine co ?_ | refine bz ?_ ?_ | refine ba ?_ (λ _=>?_) | refine cn ?_ (λ _=>?_) | omega | intro _))
theorem oL {n n':Nat}(hn:n≤n'){a_0:ae}:∀ (m m':Nat),m≤m'→∀ (y0:Int),Le (cv n a_0 m y0) (cv n' a_0 m' y0):=by
 intro m
 induction m with
 | zero=>intro m' _ y0; exact dk _
 | succ m ih =>
 intro m' hm y0
 cases m' with
 | zero=>omega
 | succ m' =>
 simp only [cv]
 repeat' (with_reducible (first | exact af _ | apply ih | apply fv | refine co ?_ | refine bz ?_ ?_ | refine ba ?_ (λ _=>?_) | refine cn ?_ (λ _=>?_) | omega | intro _))
theorem qL {n n':Nat}(hn:n≤n'){a_0:ae}:Le (eZ n a_0) (eZ n' a_0):=by
 simp only [eZ]
 repeat' (with_reducible (first | exact af _ | apply oL | apply ns | apply fv | refine co ?_ | refine bz ?_ ?_ | refine ba ?_ (λ _=>?_) | refine cn ?_ (λ _=>?_) | omega | intro _))
theorem kg {n n':Nat}(hn:n≤n'){k_0:bJ}:Le (cP n k_0) (cP n' k_0):=by
 simp only [cP]
 repeat' (with_reducible (first | exact af _ | apply nw | refine co ?_ | refine bz ?_ ?_ | refine ba ?_ (λ _=>?_) | refine cn ?_ (λ _=>?_) | omega | intro _))
theorem nM {n n':Nat}(hn:n≤n'){a_0:ae}:∀ (m m':Nat),m≤m'→∀ (y0:Int) (y1:List UInt8),Le (cj n a_0 m y0 y1) (cj n' a_0 m' y0 y1):=by
 intro m
 induction m with
 | zero=>intro m' _ y0 y1; exact dk _
 | succ m ih =>
 intro m' hm y0 y1
 cases m' with
 | zero=>omega
 | succ m' =>
 simp only [cj]
 repeat' (with_reducible (first | exact af _ | apply ih | apply kg | refine co ?_ | refine bz ?_ ?_ | refine ba ?_ (λ _=>?_) | refine cn ?_ (λ _=>?_) | omega | intro _))
theorem pL {n n':Nat}(hn:n≤n'){a_0:ae}:Le (eq n a_0) (eq n' a_0):=by
 simp only [eq]
 repeat' (with_reducible (first | exact af _ | apply qL | apply nM | apply kg | refine co ?_ | refine bz ?_ ?_ | refine ba ?_ (λ _=>?_) | refine cn ?_ (λ _=>?_) | omega | intro _))
theorem oc:∀ (m m':Nat),m≤m'→Le (dl m ) (dl m' ):=by
 intro m
 induction m with
 | zero=>intro m' _ ; exact dk _
 | succ m ih =>
 intro m' hm 
 cases m' with
 | zero=>omega
 | succ m' =>
 simp only [dl]
 repeat' (with_reducible (first | exact af _ | apply ih | refine co ?_ | refine bz ?_ ?_ | refine ba ?_ (λ _=>?_) | refine cn ?_ (λ _=>?_) | omega | intro _))
theorem nQ {a_0:ae}:∀ (m m':Nat),m≤m'→∀ (y0:Int) (y1:List ab),Le (cg a_0 m y0 y1) (cg a_0 m' y0 y1):=by
 intro m
 induction m with
 | zero=>intro m' _ y0 y1; exact dk _
 | succ m ih =>
 intro m' hm y0 y1
 cases m' with
 | zero=>omega
 | succ m' =>
 simp only [cg]
 repeat' (with_reducible (first | exact af _ | apply ih | refine co ?_ | refine bz ?_ ?_ | refine ba ?_ (λ _=>?_) | refine cn ?_ (λ _=>?_) | omega | intro _))
theorem pR {n n':Nat}(hn:n≤n'){a_0:ae}:Le (eC n a_0) (eC n' a_0):=by
 simp only [eC]
 repeat' (with_reducible (first | exact af _ | apply oc | apply nQ | refine co ?_ | refine bz ?_ ?_ | refine ba ?_ (λ _=>?_) | refine cn ?_ (λ _=>?_) | omega | intro _))
theorem lI {n n':Nat}(hn:n≤n'){s_0:Bytes}:Le (dU n s_0) (dU n' s_0):=by
 simp only [dU]
 repeat' (with_reducible (first | exact af _ | apply rb | apply pR | apply pL | refine co ?_ | refine bz ?_ ?_ | refine ba ?_ (λ _=>?_) | refine cn ?_ (λ _=>?_) | omega | intro _))
theorem lg {n n':Nat}(hn:n≤n'){targets_0:List Bytes}{addr_1:Bytes}:Le (cr n targets_0 addr_1) (cr n' targets_0 addr_1):=by
 simp only [cr]
 repeat' (with_reducible (first | exact af _ | apply wa | apply lI | refine co ?_ | refine bz ?_ ?_ | refine ba ?_ (λ _=>?_) | refine cn ?_ (λ _=>?_) | omega | intro _))
theorem qT {l_0:List Bytes}{in_1:List (Bytes×Bool)}:∀ (m m':Nat),m≤m'→∀ (y0:List Bytes) (y1:Int),Le (eV l_0 in_1 m y0 y1) (eV l_0 in_1 m' y0 y1):=by
 intro m
 induction m with
 | zero=>intro m' _ y0 y1; exact dk _
 | succ m ih =>
 intro m' hm y0 y1
 cases m' with
 | zero=>omega
 | succ m' =>
 simp only [eV]
 repeat' (with_reducible (first | exact af _ | apply ih | refine co ?_ | refine bz ?_ ?_ | refine ba ?_ (λ _=>?_) | refine cn ?_ (λ _=>?_) | omega | intro _))
theorem ul {n n':Nat}(hn:n≤n'){l_0:List Bytes}{in_1:List (Bytes×Bool)}:Le (iS n l_0 in_1) (iS n' l_0 in_1):=by
 simp only [iS]
 repeat' (with_reducible (first | exact af _ | apply qT | refine co ?_ | refine bz ?_ ?_ | refine ba ?_ (λ _=>?_) | refine cn ?_ (λ _=>?_) | omega | intro _))
theorem sc {l_0:List Bytes}:∀ (m m':Nat),m≤m'→∀ (y0:List (Bytes×Bool)) (y1:Int),Le (fH l_0 m y0 y1) (fH l_0 m' y0 y1):=by
 intro m
 induction m with
 | zero=>intro m' _ y0 y1; exact dk _
 | succ m ih =>
 intro m' hm y0 y1
 cases m' with
 | zero=>omega
 | succ m' =>
 simp only [fH]
 repeat' (with_reducible (first | exact af _ | apply ih | refine co ?_ | refine bz ?_ ?_ | refine ba ?_ (λ _=>?_) | refine cn ?_ (λ _=>?_) | omega | intro _))
theorem qp {n n':Nat}(hn:n≤n'){l_0:List Bytes}:Le (jT n l_0) (jT n' l_0):=by
 simp only [jT]
 repeat' (with_reducible (first | exact af _ | apply sc | refine co ?_ | refine bz ?_ ?_ | refine ba ?_ (λ _=>?_) | refine cn ?_ (λ _=>?_) | omega | intro _))
theorem oM {to_0:List (Bytes×(List Bytes))}{todo39:List Bytes}:∀ (m m':Nat),m≤m'→∀ (y0:List (Bytes×Bool)) (y1:List Bytes) (y2:Int),Le (dJ to_0 todo39 m y0 y1 y2) (dJ to_0 todo39 m' y0 y1 y2):=by
 intro m
 induction m with
 | zero=>intro m' _ y0 y1 y2; exact dk _
 | succ m ih =>
 intro m' hm y0 y1 y2
 cases m' with
 | zero=>omega
 | succ m' =>
 simp only [dJ]
 repeat' (with_reducible (first | exact af _ | apply ih | refine co ?_ | refine bz ?_ ?_ | refine ba ?_ (λ _=>?_) | refine cn ?_ (λ _=>?_) | omega | intro _))
theorem oH {n n':Nat}(hn:n≤n'){to_0:List (Bytes×(List Bytes))}:∀ (m m':Nat),m≤m'→∀ (y0:List (Bytes×Bool)) (y1:List Bytes),Le (dN n to_0 m y0 y1) (dN n' to_0 m' y0 y1):=by
 intro m
 induction m with
 | zero=>intro m' _ y0 y1; exact dk _
 | succ m ih =>
 intro m' hm y0 y1
 cases m' with
 | zero=>omega
 | succ m' =>
 simp only [dN]
 repeat' (with_reducible (first | exact af _ | apply ih | apply oM | refine co ?_ | refine bz ?_ ?_ | refine ba ?_ (λ _=>?_) | refine cn ?_ (λ _=>?_) | omega | intro _))
theorem qI {n n':Nat}(hn:n≤n'){to_0:List (Bytes×(List Bytes))}{from_1:List Bytes}:Le (gC n to_0 from_1) (gC n' to_0 from_1):=by
 simp only [gC]
 repeat' (with_reducible (first | exact af _ | apply qp | apply oH | refine co ?_ | refine bz ?_ ?_ | refine ba ?_ (λ _=>?_) | refine cn ?_ (λ _=>?_) | omega | intro _))
theorem qQ {g_0:fT}:∀ (m m':Nat),m≤m'→∀ (y0:List (Bytes×List Bytes)) (y1:Int),Le (eW g_0 m y0 y1) (eW g_0 m' y0 y1):=by
 intro m
 induction m with
 | zero=>intro m' _ y0 y1; exact dk _
 | succ m ih =>
 intro m' hm y0 y1
 cases m' with
 | zero=>omega
 | succ m' =>
 simp only [eW]
 repeat' (with_reducible (first | exact af _ | apply ih | refine co ?_ | refine bz ?_ ?_ | refine ba ?_ (λ _=>?_) | refine cn ?_ (λ _=>?_) | omega | intro _))
theorem ug {n n':Nat}(hn:n≤n'){g_0:fT}:Le (jR n g_0) (jR n' g_0):=by
 simp only [jR]
 repeat' (with_reducible (first | exact af _ | apply qQ | refine co ?_ | refine bz ?_ ?_ | refine ba ?_ (λ _=>?_) | refine cn ?_ (λ _=>?_) | omega | intro _))
theorem sO {n n':Nat}(hn:n≤n'){g_0:fT}{from_1:List Bytes}:Le (jc n g_0 from_1) (jc n' g_0 from_1):=by
 simp only [jc]
 repeat' (with_reducible (first | exact af _ | apply ug | apply qp | apply ul | apply qI | refine co ?_ | refine bz ?_ ?_ | refine ba ?_ (λ _=>?_) | refine cn ?_ (λ _=>?_) | omega | intro _))
theorem rR {n n':Nat}(hn:n≤n'){g_0:fT}{statics_1:List Bytes}:Le (il n g_0 statics_1) (il n' g_0 statics_1):=by
 simp only [il]
 repeat' (with_reducible (first | exact af _ | apply sO | refine co ?_ | refine bz ?_ ?_ | refine ba ?_ (λ _=>?_) | refine cn ?_ (λ _=>?_) | omega | intro _))
theorem jm {s_0:List Bytes}{v_1:Bytes}:∀ (m m':Nat),m≤m'→∀ (y0:Int),Le (bq s_0 v_1 m y0) (bq s_0 v_1 m' y0):=by
 intro m
 induction m with
 | zero=>intro m' _ y0; exact dk _
 | succ m ih =>
 intro m' hm y0
 cases m' with
 | zero=>omega
 | succ m' =>
 simp only [bq]
 repeat' (with_reducible (first | exact af _ | apply ih | refine co ?_ | refine bz ?_ ?_ | refine ba ?_ (λ _=>?_) | refine cn ?_ (λ _=>?_) | omega | intro _))
theorem ke {n n':Nat}(hn:n≤n'){s_0:List Bytes}{v_1:Bytes}:Le (ct n s_0 v_1) (ct n' s_0 v_1):=by
 simp only [ct]
 repeat' (with_reducible (first | exact af _ | apply jm | refine co ?_ | refine bz ?_ ?_ | refine ba ?_ (λ _=>?_) | refine cn ?_ (λ _=>?_) | omega | intro _))
theorem jl {n n':Nat}(hn:n≤n'){s_0:List Bytes}{v_1:Bytes}:Le (bP n s_0 v_1) (bP n' s_0 v_1):=by
 simp only [bP]
 repeat' (with_reducible (first | exact af _ | apply ke | refine co ?_ | refine bz ?_ ?_ | refine ba ?_ (λ _=>?_) | refine cn ?_ (λ _=>?_) | omega | intro _))
theorem kL {n n':Nat}(hn:n≤n'){x_0:dB}{i_1:Int}:∀ (m m':Nat),m≤m'→∀ (y0:Int) (y1:List az) (y2:List Int) (y3:List Bytes) (y4:List Bool),Le (b7 n x_0 i_1 m y0 y1 y2 y3 y4) (b7 n' x_0 i_1 m' y0 y1 y2 y3 y4):=by
 intro m
 induction m with
 | zero=>intro m' _ y0 y1 y2 y3 y4; exact dk _
 | succ m ih =>
 intro m' hm y0 y1 y2 y3 y4
 cases m' with
 | zero=>omega
 | succ m' =>
 simp only [b7]
 repeat' (with_reducible (first | exact af _ | apply ih | apply jl | refine co ?_ | refine bz ?_ ?_ | refine ba ?_ (λ _=>?_) | refine cn ?_ (λ _=>?_) | omega | intro _))
theorem lV {n n':Nat}(hn:n≤n'){x_0:dB}{i_1:Int}:Le (dz n x_0 i_1) (dz n' x_0 i_1):=by
 simp only [dz]
 repeat' (with_reducible (first | exact af _ | apply kL | refine co ?_ | refine bz ?_ ?_ | refine ba ?_ (λ _=>?_) | refine cn ?_ (λ _=>?_) | omega | intro _))
theorem oN {r_target_copied r_target_copied':aH→Option aH}(h_target_copied:∀ x0,Le (r_target_copied x0) (r_target_copied' x0)):∀ (m m':Nat),m≤m'→Le (ea r_target_copied m ) (ea r_target_copied' m' ):=by
 intro m
 induction m with
 | zero=>intro m' _ ; exact dk _
 | succ m ih =>
 intro m' hm 
 cases m' with
 | zero=>omega
 | succ m' =>
 simp only [ea]
 repeat' (with_reducible (first | exact af _ | apply ih | apply h_target_copied | refine co ?_ | refine bz ?_ ?_ | refine ba ?_ (λ _=>?_) | refine cn ?_ (λ _=>?_) | omega | intro _))
theorem pb {r_target_copied r_target_copied':aH→Option aH}(h_target_copied:∀ x0,Le (r_target_copied x0) (r_target_copied' x0)){v_0:aH}:∀ (m m':Nat),m≤m'→∀ (y0:Int) (y1:List aH),Le (dT r_target_copied v_0 m y0 y1) (dT r_target_copied' v_0 m' y0 y1):=by
 intro m
 induction m with
 | zero=>intro m' _ y0 y1; exact dk _
 | succ m ih =>
 intro m' hm y0 y1
 cases m' with
 | zero=>omega
 | succ m' =>
 simp only [dT]
 repeat' (with_reducible (first | exact af _ | apply ih | apply h_target_copied | refine co ?_ | refine bz ?_ ?_ | refine ba ?_ (λ _=>?_) | refine cn ?_ (λ _=>?_) | omega | intro _))
theorem qe (n:Nat):∀ n':Nat,n≤n'→(∀ (v_0:aH),Le (cp n v_0) (cp n' v_0)):=by
 induction n with
 | zero=>exact λ n' _=>(by intro v_0; exact dk _)
 | succ n ih =>
 intro n' hn
 cases n' with
 | zero=>omega
 | succ n' =>
 have hn':n≤n':=by omega
 have ih_target_copied_le:=ih n' hn'
 intro v_0
 simp only [cp]
 repeat' (with_reducible (first | exact af _ | apply ih_target_copied_le | apply oN | apply pb | refine co ?_ | refine bz ?_ ?_ | refine ba ?_ (λ _=>?_) | refine cn ?_ (λ _=>?_) | omega | intro _))
theorem qH {n n':Nat}(hn:n≤n'):∀ (v_0:aH),Le (cp n v_0) (cp n' v_0):=(qe n n' hn)
theorem rc {n n':Nat}(hn:n≤n'){c_0:az}:Le (gD n c_0) (gD n' c_0):=by
 simp only [gD]
 repeat' (with_reducible (first | exact af _ | apply qH | refine co ?_ | refine bz ?_ ?_ | refine ba ?_ (λ _=>?_) | refine cn ?_ (λ _=>?_) | omega | intro _))
theorem oR {n n':Nat}(hn:n≤n'){l_1:List az}:∀ (m m':Nat),m≤m'→∀ (y0:Int) (y1:List Bytes),Le (dG n l_1 m y0 y1) (dG n' l_1 m' y0 y1):=by
 intro m
 induction m with
 | zero=>intro m' _ y0 y1; exact dk _
 | succ m ih =>
 intro m' hm y0 y1
 cases m' with
 | zero=>omega
 | succ m' =>
 simp only [dG]
 repeat' (with_reducible (first | exact af _ | apply ih | apply lI | refine co ?_ | refine bz ?_ ?_ | refine ba ?_ (λ _=>?_) | refine cn ?_ (λ _=>?_) | omega | intro _))
theorem o0 {n n':Nat}(hn:n≤n'){targets_0:List Bytes}{l_1:List az}:∀ (m m':Nat),m≤m'→∀ (y0:Int) (y1:List az) (y2:List Int) (y3:List Bytes) (y4:List Bool),Le (dI n targets_0 l_1 m y0 y1 y2 y3 y4) (dI n' targets_0 l_1 m' y0 y1 y2 y3 y4):=by
 intro m
 induction m with
 | zero=>intro m' _ y0 y1 y2 y3 y4; exact dk _
 | succ m ih =>
 intro m' hm y0 y1 y2 y3 y4
 cases m' with
 | zero=>omega
 | succ m' =>
 simp only [dI]
 repeat' (with_reducible (first | exact af _ | apply ih | apply lg | refine co ?_ | refine bz ?_ ?_ | refine ba ?_ (λ _=>?_) | refine cn ?_ (λ _=>?_) | omega | intro _))
theorem oZ {n n':Nat}(hn:n≤n'):∀ (m m':Nat),m≤m'→∀ (y0:List az) (y1:List Int) (y2:List Bytes) (y3:List Bool),Le (dQ n m y0 y1 y2 y3) (dQ n' m' y0 y1 y2 y3):=by
 intro m
 induction m with
 | zero=>intro m' _ y0 y1 y2 y3; exact dk _
 | succ m ih =>
 intro m' hm y0 y1 y2 y3
 cases m' with
 | zero=>omega
 | succ m' =>
 simp only [dQ]
 repeat' (with_reducible (first | exact af _ | apply ih | apply lV | refine co ?_ | refine bz ?_ ?_ | refine ba ?_ (λ _=>?_) | refine cn ?_ (λ _=>?_) | omega | intro _))
theorem oT {n n':Nat}(hn:n≤n'){l_1:List az}{l94:List Bool}:∀ (m m':Nat),m≤m'→∀ (y0:List az) (y1:Int),Le (dM n l_1 l94 m y0 y1) (dM n' l_1 l94 m' y0 y1):=by
 intro m
 induction m with
 | zero=>intro m' _ y0 y1; exact dk _
 | succ m ih =>
 intro m' hm y0 y1
 cases m' with
 | zero=>omega
 | succ m' =>
 simp only [dM]
 repeat' (with_reducible (first | exact af _ | apply ih | apply rc | refine co ?_ | refine bz ?_ ?_ | refine ba ?_ (λ _=>?_) | refine cn ?_ (λ _=>?_) | omega | intro _))
theorem qS {n n':Nat}(hn:n≤n'){targets_0:List Bytes}{l_1:List az}:Le (eg n targets_0 l_1) (eg n' targets_0 l_1):=by
 simp only [eg]
 repeat' (with_reducible (first | exact af _ | apply oR | apply o0 | apply oZ | apply oT | refine co ?_ | refine bz ?_ ?_ | refine ba ?_ (λ _=>?_) | refine cn ?_ (λ _=>?_) | omega | intro _))
theorem tU {n n':Nat}(hn:n≤n'):Le (fO n) (fO n'):=by
 simp only [fO]
 repeat' (with_reducible (first | exact af _ | apply qS | apply rR | apply lg | apply rO | refine co ?_ | refine bz ?_ ?_ | refine ba ?_ (λ _=>?_) | refine cn ?_ (λ _=>?_) | omega | intro _))
theorem wY:fO 60=some true:=by decide +kernel
theorem wL:Ev2 (λ n _=>fO n) (·=true):=Cl 60 wY (λ n hn=>tU hn) rfl
end Go.Ab.R06
end
section
namespace Go.Ab
set_option autoImplicit false
theorem yW {α:Type}{tt:List (Nat×TI)}{n t s b:Nat}{cs:List PV}{z:List Value}(f:α→PV)(Q:α→Prop){e:Nat}(hl:look tt t=some ⟨.slice e,s,b,z⟩)(h:WTf tt n t cs)
  (he:∀ m x,m < n→WTf tt m e x.cells→x=mkE (((look tt e).map (·.k.isAgg)).getD false) x.cells→∃ y,x=f y∧Q y):∃ l:List α,cs=[eL f l]∧l.length*(((look tt e).map (·.bytes)).getD 0)≤iu∧∀ y∈l,Q y:=by
 cases n with
 | zero=>exact h.elim
 | succ n =>
  obtain ⟨l,h1,h2,h3⟩:=BE f Q hl h (λ x k1 k2=>he n x (by omega) k1 k2)
  exact ⟨l,h1,h2.2,h3⟩
inductive aH.Bd:aH→Prop where
 | mk {x:aH} (bKind:inR x.fKind) (bNum:inR x.fNum) (bStr:x.fStr.length≤iu) (bItems:x.fItems.length*80≤iu) (eItems:∀ y∈x.fItems,aH.Bd y) (bKeys:x.fKeys.length*16≤iu) (eKeys:∀ y∈x.fKeys,y.length≤iu):aH.Bd x
inductive az.Bd:az→Prop where
 | mk {x:az} (bAddr:x.fAddr.length≤iu) (bDeposed:x.fDeposed.length≤iu) (bType:x.fType.length≤iu) (bAction:inR x.fAction) (bReason:inR x.fReason) (bBefore:aH.Bd x.fBefore) (bAfter:aH.Bd x.fAfter) (bID:x.fID.length≤iu) (bReplace:x.fReplace.length*16≤iu) (eReplace:∀ y∈x.fReplace,y.length≤iu) (bDeps:x.fDeps.length*16≤iu) (eDeps:∀ y∈x.fDeps,y.length≤iu) (bOldDeps:x.fOldDeps.length*16≤iu) (eOldDeps:∀ y∈x.fOldDeps,y.length≤iu):az.Bd x
theorem az.Bd.bDeps {x:az}(h:az.Bd x):x.fDeps.length*16≤iu:=by cases h; assumption
theorem az.Bd.bOldDeps {x:az}(h:az.Bd x):x.fOldDeps.length*16≤iu:=by cases h; assumption
end Go.Ab
end
section
namespace Go.Ab.R06
open Go.Ab Go.Ab.RB Go.Lib
theorem iE {α β:Type}{P:α→Prop}{g:Nat→Nat→Option β}{k:Nat→Nat→β→Option α}(x:β)(h:Ev2 g (·=x))(hk:Ev2 (λ n m=>k n m x) P):Ev2 (λ n m=>(g n m).bind (k n m)) P:=kY (·=x) h (λ _ e=>by subst e; exact hk)
theorem yf:iu≤9000000000000000000:=by decide
def ly (l:List Bytes)(most:Int):Bool:=decide ((l.length:Int)≤most)&&l.all λ s=>decide (s.length≤300)
theorem AX (l:List Bytes)(hb:l.length≤iu):∀ (k i:Nat),i+k=l.length→Ev2 (λ _ m=>en l m (i:Int)) (·=if ((l.drop i).all λ s=>decide (s.length≤300))=true then .inl () else .inr false):=by
 have hW:=yf
 intro k
 induction k with
 | zero =>
  intro i hi
  refine aS ?_
  simp only [en]
  exact av (by omega) (aa (by rw [List.drop_of_length_le (by omega)]; simp))
 | succ k ih =>
  intro i hi
  have h1:i < l.length:=by omega
  refine aS ?_
  simp only [en]
  refine au (by omega) (ai (by omega) ?_)
  rw [gV _ _ h1,List.drop_eq_getElem_cons h1,List.all_cons]
  refine aA (λ h=>aa (by rw [decide_eq_false (by omega)]; rfl)) (λ h=>ai (aV (by omega) (by omega)) ?_)
  have:=ih (i+1) (by omega)
  rw [Int.natCast_add,Int.natCast_one] at this
  refine iQ this λ r hr=>?_
  rw [hr,decide_eq_true (show l[i].length≤300 by omega),Bool.true_and]
theorem sE (l:List Bytes)(most:Int)(hb:l.length≤iu):Ev2 (λ n _=>g0 n l most) (·=ly l most):=by
 simp only [g0]
 unfold ly
 refine aA (λ h=>aa (by rw [decide_eq_false (by omega)]; rfl)) (λ h=>?_)
 rw [decide_eq_true (show (l.length:Int)≤most by omega),Bool.true_and]
 have l1:=AX l hb l.length 0 (by omega)
 rw [List.drop_zero] at l1
 cases hq:l.all λ s=>decide (s.length≤300)
 ·rw [if_neg (by simp [hq])] at l1
  exact gO false (bu l1) rfl
 ·rw [if_pos hq] at l1
  exact gZ () (bu l1) (aa rfl)
theorem tj {l:List Bytes}{most:Int}(h:ly l most=true):(l.length:Int)≤most∧∀ s∈l,s.length≤300:=by
 unfold ly at h
 rw [Bool.and_eq_true,decide_eq_true_eq,List.all_eq_true] at h
 exact ⟨h.1,λ s hs=>by simpa using h.2 s hs⟩
def jE (f:Bytes→Int):List Bytes→Int
 | []=>0
 | s::r=>if f s=0 then jE f r else f s
theorem zH (l:List Bytes)(hb:l.length≤65536)(hs:∀ s∈l,s.length≤65536):∀ (k i:Nat),i+k=l.length→Ev2 (λ _ m=>cD l m (i:Int)) (·=if jE Glob.check (l.drop i)=0 then .inl () else .inr (jE Glob.check (l.drop i))):=by
 intro k
 induction k with
 | zero =>
  intro i hi
  refine aS ?_
  simp only [cD]
  exact av (by omega) (aa (by rw [List.drop_of_length_le (by omega)]; rfl))
 | succ k ih =>
  intro i hi
  have h1:i < l.length:=by omega
  refine aS ?_
  simp only [cD]
  refine au (by omega) (ai (by omega) ?_)
  rw [gV _ _ h1,List.drop_eq_getElem_cons h1]
  refine ai (hs _ (List.getElem_mem h1)) ?_
  refine aA (λ h=>ai (aV (by omega) (by omega)) ?_) (λ h=>aa ?_)
  ·have:=ih (i+1) (by omega)
   rw [Int.natCast_add,Int.natCast_one] at this
   have e:jE Glob.check (l[i]::l.drop (i+1))=jE Glob.check (l.drop (i+1)):=if_pos h
   simp only [e]; exact this
  ·have e:jE Glob.check (l[i]::l.drop (i+1))=Glob.check l[i]:=if_neg h
   simp only [e,if_neg h]
def tgP (l:List Bytes):Int:=if 64 < (l.length:Int) then 14 else jE Glob.check l
theorem Em (l:List Bytes)(hs:∀ s∈l,s.length≤65536):Ev2 (λ n _=>eP n l) (·=tgP l):=by
 simp only [eP]
 unfold tgP
 refine aA (λ h=>aa (by rw [if_pos h])) (λ h=>?_)
 rw [if_neg h]
 have l1:=zH l (by omega) hs l.length 0 (by omega)
 rw [List.drop_zero] at l1
 by_cases hq:jE Glob.check l=0
 ·rw [if_pos hq] at l1
  exact gZ () (bu l1) (aa hq.symm)
 ·rw [if_neg hq] at l1
  exact gO _ (bu l1) rfl
theorem DG (l:List Bytes)(hb:l.length≤65536)(hs:∀ s∈l,s.length≤65536):∀ (k i:Nat),i+k=l.length→Ev2 (λ _ m=>eA l m (i:Int)) (·=if jE Glob.check (l.drop i)=0 then .inl () else .inr (jE Glob.check (l.drop i))):=by
 intro k
 induction k with
 | zero =>
  intro i hi
  refine aS ?_
  simp only [eA]
  exact av (by omega) (aa (by rw [List.drop_of_length_le (by omega)]; rfl))
 | succ k ih =>
  intro i hi
  have h1:i < l.length:=by omega
  refine aS ?_
  simp only [eA,← Glob.check_eq]
  refine au (by omega) (ai (by omega) ?_)
  rw [gV _ _ h1,List.drop_eq_getElem_cons h1]
  refine ai (hs _ (List.getElem_mem h1)) ?_
  refine aA (λ h=>ai (aV (by omega) (by omega)) ?_) (λ h=>aa ?_)
  ·have:=ih (i+1) (by omega)
   rw [Int.natCast_add,Int.natCast_one] at this
   have e:jE Glob.check (l[i]::l.drop (i+1))=jE Glob.check (l.drop (i+1)):=if_pos h
   simp only [e]; exact this
  ·have e:jE Glob.check (l[i]::l.drop (i+1))=Glob.check l[i]:=if_neg h
   simp only [e,if_neg h]
theorem Dn (l:List Bytes)(hs:∀ s∈l,s.length≤65536):Ev2 (λ n _=>kd n l) (·=tgP l):=by
 simp only [kd]
 unfold tgP
 refine aA (λ h=>aa (by rw [if_pos h])) (λ h=>?_)
 rw [if_neg h]
 have l1:=DG l (by omega) hs l.length 0 (by omega)
 rw [List.drop_zero] at l1
 by_cases hq:jE Glob.check l=0
 ·rw [if_pos hq] at l1
  exact gZ () (bu l1) (aa hq.symm)
 ·rw [if_neg hq] at l1
  exact gO _ (bu l1) rfl
def uy (c:az):Bool:=decide (c.fAddr.length≤300)&&ly c.fDeps 10&&ly c.fOldDeps 10
theorem Dx (l:List az)(hb:l.length≤20)(hB:∀ c∈l,az.Bd c):∀ (k i:Nat),i+k=l.length→Ev2 (λ n m=>fJ n l m (i:Int)) (·=if (l.drop i).all uy=true then .inl () else .inr false):=by
 have hW:=yf
 intro k
 induction k with
 | zero =>
  intro i hi
  refine aS ?_
  simp only [fJ]
  exact av (by omega) (aa (by rw [List.drop_of_length_le (by omega)]; simp))
 | succ k ih =>
  intro i hi
  have h1:i < l.length:=by omega
  have hc:=hB _ (List.getElem_mem h1)
  have d1:=hc.bDeps
  have d2:=hc.bOldDeps
  refine aS ?_
  simp only [fJ]
  refine au (by omega) ?_
  rw [gV _ _ h1,List.drop_eq_getElem_cons h1,List.all_cons]
  refine kY (·=!uy l[i]) (ai (by omega) ?_) (λ x hx=>?_)
  ·unfold uy
   refine aA (λ h=>aa (by rw [decide_eq_false (by omega)]; rfl)) (λ h=>ai (by omega) ?_)
   rw [decide_eq_true (show l[i].fAddr.length≤300 by omega),Bool.true_and]
   refine iE _ (sE l[i].fDeps 10 (by omega)) ?_
   cases ly l[i].fDeps 10
   ·exact au rfl (aa rfl)
   ·refine av (by decide) (ai (by omega) ?_)
    exact iE _ (sE l[i].fOldDeps 10 (by omega)) (aa (by rw [Bool.true_and]))
  ·subst hx
   cases hq:uy l[i]
   ·exact au rfl (aa rfl)
   ·refine av (by decide) (ai (aV (by omega) (by omega)) ?_)
    have:=ih (i+1) (by omega)
    rw [Int.natCast_add,Int.natCast_one] at this
    exact this
def B8 (t:List Bytes)(l:List az):Bool:=ly t 16&&decide (tgP t=0)&&decide (l.length≤20)&&l.all uy
theorem Eb (t:List Bytes)(l:List az)(ht:t.length≤iu)(hB:∀ c∈l,az.Bd c):Ev2 (λ n _=>l9 n t l) (·=B8 t l):=by
 simp only [l9]
 unfold B8
 refine kY (·=!(ly t 16&&decide (tgP t=0)&&decide (l.length≤20))) ?_ (λ x hx=>?_)
 ·refine iE _ (sE t 16 ht) ?_
  cases hq:ly t 16
  ·exact au rfl (aa rfl)
  ·refine av (by decide) (iE _ (Dn t (λ s hs=>by have:=(tj hq).2 s hs; omega)) ?_)
   refine aA (λ h=>aa ?_) (λ h=>aa ?_)
   ·rw [decide_eq_true h]
    by_cases h2:l.length≤20
    ·rw [decide_eq_true h2,decide_eq_false (by omega)]; rfl
    ·rw [decide_eq_false h2,decide_eq_true (by omega)]; rfl
   ·rw [decide_eq_false h]; rfl
 ·subst hx
  cases hq:(ly t 16&&decide (tgP t=0)&&decide (l.length≤20))
  ·exact au rfl (aa rfl)
  ·refine av (by decide) ?_
   rw [Bool.and_eq_true,decide_eq_true_eq] at hq
   have l1:=Dx l hq.2 hB l.length 0 (by omega)
   rw [List.drop_zero] at l1
   rw [Bool.true_and]
   cases hp:l.all uy
   ·rw [if_neg (by simp [hp])] at l1
    exact gO false (bu l1) rfl
   ·rw [if_pos hp] at l1
    exact gZ () (bu l1) (aa rfl)
end Go.Ab.R06
end
section
namespace Go.Ab.R06
open Go.Ab Go.Ab.RB
section
variable {α β:Type} {P:α→Prop}
theorem ak {g:Nat→Nat→Option β}{k:Nat→Nat→β→Option α}(x:β)(h:Ev2 g (·=x))(hk:Ev2 (λ n m=>k n m x) P):Ev2 (λ n m=>(g n m).bind (k n m)) P :=
 kY (·=x) h λ y hy=>by subst hy; exact hk
end
def oY (b:UInt8):Bool:=(decide (97≤b.toNat)&&decide (b.toNat≤122))||(decide (65≤b.toNat)&&decide (b.toNat≤90))||decide (b.toNat=95)
def di (b:UInt8):Bool:=decide (48≤b.toNat)&&decide (b.toNat≤57)
def idB (b:UInt8):Bool:=oY b||di b
def bO:Bytes→Bool
 | []=>false
 | b::r=>decide ((b::r).length≤64)&&oY b&&r.all idB
def wu (s:Bytes)(i:Nat):Bool:=oY (s.getD i 0)||(decide (i≠0)&&di (s.getD i 0))
def l5 (p:Nat→Bool):Nat→Nat→Bool
 | _,0=>true
 | i,k+1=>p i&&l5 p (i+1) k
theorem nC (p:Nat→Bool):∀ (k i:Nat),l5 p i k=true↔∀ j,i≤j→j < i+k→p j=true
 | 0,i=>by simp [l5]; intro j h1 h2; omega
 | k+1,i=>by
  rw [l5,Bool.and_eq_true,nC p k (i+1)]
  constructor
  ·rintro ⟨h1,h2⟩ j h3 h4
   by_cases e:j=i
   ·rw [e]; exact h1
   ·exact h2 j (by omega) (by omega)
  ·intro h
   exact ⟨h i (by omega) (by omega),λ j h1 h2=>h j (by omega) (by omega)⟩
theorem or32:(List.range 256).all (λ n=>(decide ((97:Int)≤iOr .u8 (n:Int) 32)&&decide (iOr .u8 (n:Int) 32≤122)) == ((decide (97≤n)&&decide (n≤122))||(decide (65≤n)&&decide (n≤90))))=true:=by kernel_rfl
theorem Eg (b:UInt8):(97≤iOr .u8 ((b.toNat:Nat):Int) 32∧iOr .u8 ((b.toNat:Nat):Int) 32≤122)↔((97≤b.toNat∧b.toNat≤122)∨(65≤b.toNat∧b.toNat≤90)):=by
 have h:=List.all_eq_true.1 or32 b.toNat (List.mem_range.2 b.toNat_lt)
 have h:=eq_of_beq h
 rw [Bool.eq_iff_iff] at h
 simpa using h
theorem pK (b:UInt8):oY b=true↔(97≤b.toNat∧b.toNat≤122)∨(65≤b.toNat∧b.toNat≤90)∨b.toNat=95:=by
 simp [oY,or_assoc]
theorem iJ (b:UInt8):di b=true↔48≤b.toNat∧b.toNat≤57:=by simp [di]
theorem eqB {a b:Bool}(h:a=true↔b=true):a=b:=Bool.eq_iff_iff.2 h
theorem lb (s:Bytes)(i:Nat):wu s i=true↔oY (s.getD i 0)=true∨(i≠0∧di (s.getD i 0)=true):=by simp [wu]
theorem px (s:Bytes):bO s=true↔s≠[]∧s.length≤64∧l5 (wu s) 0 s.length=true:=by
 rw [nC]
 cases s with
 | nil=>simp [bO]
 | cons b r =>
  simp only [bO,Bool.and_eq_true,decide_eq_true_eq,List.all_eq_true]
  constructor
  ·rintro ⟨⟨h1,h2⟩,h3⟩
   refine ⟨by simp,h1,λ j _ hj=>?_⟩
   rw [lb]
   cases j with
   | zero=>exact .inl h2
   | succ j =>
    have hm:r.getD j 0∈r:=by
     rw [List.getD_eq_getElem?_getD,List.getElem?_eq_getElem (by simp at hj; omega)]
     exact List.getElem_mem _
    have:=h3 _ hm
    simp only [idB,Bool.or_eq_true] at this
    rcases this with h | h
    ·exact .inl h
    ·exact .inr ⟨by omega,h⟩
  ·rintro ⟨_,h1,h2⟩
   refine ⟨⟨h1,?_⟩,λ x hx=>?_⟩
   ·have:=(lb _ _).1 (h2 0 (by omega) (by simp))
    simpa using this
   ·obtain ⟨j,hj,rfl⟩:=List.getElem_of_mem hx
    have:=(lb _ _).1 (h2 (j+1) (by omega) (by simp; omega))
    rw [show (b::r).getD (j+1) 0=r[j] by simp [hj]] at this
    simp only [idB,Bool.or_eq_true]
    rcases this with h | h
    ·exact .inl h
    ·exact .inr h.2
theorem rk (s:Bytes):bO s=true↔s≠[]∧s.length≤64∧oY (s.getD 0 0)=true∧l5 (λ j=>idB (s.getD j 0)) 0 s.length=true:=by
 rw [px,nC,nC]
 constructor
 ·rintro ⟨h1,h2,h3⟩
  have hl:0 < s.length:=List.length_pos_iff.2 h1
  refine ⟨h1,h2,?_,λ j _ hj=>?_⟩
  ·have:=(lb s 0).1 (h3 0 (by omega) (by omega))
   simpa using this
  ·have:=(lb s j).1 (h3 j (by omega) hj)
   simp only [idB,Bool.or_eq_true]
   rcases this with h | h
   ·exact .inl h
   ·exact .inr h.2
 ·rintro ⟨h1,h2,h3,h4⟩
  refine ⟨h1,h2,λ j _ hj=>(lb s j).2 ?_⟩
  have:=h4 j (by omega) hj
  simp only [idB,Bool.or_eq_true] at this
  by_cases e:j=0
  ·subst e; exact .inl h3
  ·rcases this with h | h
   ·exact .inl h
   ·exact .inr ⟨e,h⟩
end Go.Ab.R06
namespace Go.Ab.R06
open Go.Ab Go.Ab.RB Go.Lib
def fx (acc:Nat)(l:Bytes):Nat:=l.foldl (λ a b=>a*10+(b.toNat - 48)) acc
theorem mz (a:Nat):fx a []=a:=rfl
theorem oz (a:Nat)(b:UInt8)(l:Bytes):fx a (b::l)=fx (a*10+(b.toNat - 48)) l:=by simp only [fx,List.foldl_cons]
theorem wg (a:Nat)(l m:Bytes):fx a (l++m)=fx (fx a l) m:=by simp [fx]
theorem qX (a:Nat)(l:Bytes)(b:UInt8):fx a (l++[b])=fx a l*10+(b.toNat - 48):=by rw [wg]; rfl
theorem yw:∀ (l:Bytes) (a:Nat),a≤fx a l
 | [],a=>Nat.le_of_eq (mz a).symm
 | b::r,a=>by
  rw [oz]
  have:=yw r (a*10+(b.toNat - 48))
  generalize fx (a*10+(b.toNat - 48)) r=v at this ⊢
  omega
theorem j6 {l:Bytes}(h:l.all di=true){b:UInt8}(hb:b∈l):48≤b.toNat∧b.toNat≤57:=(iJ b).1 (List.all_eq_true.1 h b hb)
theorem BH:∀ (l:Bytes) (acc:Nat),l.all di=true→(fx acc l≤18446744073709551615→parseUintM 18446744073709551615 acc l=.ok (fx acc l))∧(18446744073709551615 < fx acc l→acc≤18446744073709551615→parseUintM 18446744073709551615 acc l=.range)
 | [],acc,_=>by
  rw [mz]
  exact ⟨λ _=>rfl,λ h h'=>by omega⟩
 | b::r,acc,h=>by
  have hb:=j6 h List.mem_cons_self
  have hr:r.all di=true:=by simp only [List.all_cons,Bool.and_eq_true] at h; exact h.2
  rw [parseUintM,if_pos hb,oz]
  have hg:=yw r (acc*10+(b.toNat - 48))
  have ih:=BH r (acc*10+(b.toNat - 48)) hr
  generalize fx (acc*10+(b.toNat - 48)) r=v at hg ih ⊢
  by_cases h1:1844674407370955162≤acc
  ·rw [if_pos h1]
   exact ⟨λ h2=>by omega,λ _ _=>rfl⟩
  ·rw [if_neg h1]
   by_cases h2:18446744073709551615 < acc*10+(b.toNat - 48)
   ·rw [if_pos h2]
    exact ⟨λ h3=>by omega,λ _ _=>rfl⟩
   ·rw [if_neg h2]
    exact ⟨ih.1,λ h3 _=>ih.2 h3 (by omega)⟩
theorem DI (l:Bytes)(hne:l≠[])(h:l.all di=true):parseUintB 64 l=if fx 0 l≤18446744073709551615 then .ok (fx 0 l) else .range:=by
 rw [parseUintB,if_neg hne]
 show parseUintM (2 ^ 64 - 1) 0 l=_
 rw [show (2 ^ 64 - 1:Nat)=18446744073709551615 from rfl]
 have:=BH l 0 h
 generalize fx 0 l=v at this ⊢
 by_cases q:v≤18446744073709551615
 ·rw [if_pos q]; exact this.1 q
 ·rw [if_neg q]; exact this.2 (by omega) (by omega)
def pA (l:Bytes):Bool:=!l.isEmpty&&l.all di&&(decide (l.getD 0 0≠48)||decide (l.length=1))
theorem jB (l:Bytes):pA l=true↔l≠[]∧l.all di=true∧(l.getD 0 0≠48∨l.length=1):=by
 simp [pA,and_assoc]
def oX (s:Bytes):Bool:=decide (0 < s.length)&&decide (s.getD 0 0=45)
def digits (s:Bytes):Bytes:=if oX s=true then s.drop 1 else s
def pO (s:Bytes):Bool:=!(oX s&&decide (s.drop 1=[48]))&&pA (digits s)
def me (s:Bytes):Int:=if oX s=true then -(fx 0 (digits s):Int) else (fx 0 (digits s):Int)
def iD:Int:=9007199254740992
def qW (s:Bytes):Int×Int:=if pO s=true then (if -iD≤me s∧me s≤iD then (me s,0) else (0,5)) else (0,2)
theorem Bc (s:Bytes)(hs:s.length≤1000000000):∀ (k i:Nat),i+k=s.length→Ev2 (λ _ m=>bN s m (i:Int)) (·=if l5 (λ j=>di (s.getD j 0)) i k then .inl () else .inr false):=by
 intro k
 induction k with
 | zero =>
  intro i hi
  refine aS ?_
  simp only [bN]
  refine av (by omega) (aa rfl)
 | succ k ih =>
  intro i hi
  refine aS ?_
  simp only [bN]
  refine au (by omega) ?_
  have hb:byt s i=((s.getD i 0).toNat:Int):=cO s i
  rw [hb]
  refine ak (!di (s.getD i 0)) ?_ ?_
  ·have h:=iJ (s.getD i 0)
   generalize s.getD i 0=b at h ⊢
   refine ai (by omega) (aA (λ h1=>aa ?_) (λ h1=>ai (by omega) (aa ?_)))
   ·have:di b=false:=by rw [← Bool.not_eq_true,h]; omega
    simp [this]
   ·refine eqB ?_
    rw [decide_eq_true_eq,Bool.not_eq_true',← Bool.not_eq_true,h]
    omega
  ·cases hk:di (s.getD i 0) with
   | false=>exact au rfl (aa (by simp only [l5,hk,Bool.false_and]; rfl))
   | true =>
    refine av (by simp) (ai (aV (by omega) (by omega)) ?_)
    have:=ih (i+1) (by omega)
    rw [Int.natCast_add,Int.natCast_one] at this
    simp only [l5,hk,Bool.true_and]
    exact this
theorem tP (s:Bytes)(p:UInt8→Bool):l5 (λ j=>p (s.getD j 0)) 0 s.length=s.all p:=by
 refine eqB ?_
 rw [nC,List.all_eq_true]
 constructor
 ·intro h x hx
  obtain ⟨j,hj,rfl⟩:=List.getElem_of_mem hx
  have:=h j (by omega) (by omega)
  simpa [hj] using this
 ·intro h j _ hj
  have hj:j < s.length:=by omega
  have:=h s[j] (List.getElem_mem hj)
  simpa [hj] using this
theorem vl (s:Bytes)(hs:s.length≤1000000000):Ev2 (λ n _=>dO n s) (·=pO s):=by
 simp only [dO]
 have hb:byt s 0=((s.getD 0 0).toNat:Int):=cO s 0
 have hneg:oX s=true↔0 < s.length∧s.getD 0 0=45:=by simp [oX]
 have h45:(s.getD 0 0).toNat=45↔s.getD 0 0=45:=⟨λ h=>UInt8.toNat_inj.1 h,λ h=>by rw [h]; rfl⟩
 have body:∀ t:Bytes,t.length≤1000000000→Ev2 (λ n m=>jn (bN t n 0) λ q31 =>
   ((if t=([]:Bytes) then some false else ck ((0:Int)≤0∧0 < (t.length:Int)) <| if byt t 0=48 then some (decide ((t.length:Int)=1)) else some true):Option Bool).bind λ t28=>some t28) (·=pA t):=by
  intro t ht
  have l:=Bc t ht t.length 0 (by omega)
  rw [tP] at l
  have hc:=jB t
  have hb':byt t 0=((t.getD 0 0).toNat:Int):=cO t 0
  have h48:(t.getD 0 0).toNat=48↔t.getD 0 0=48:=⟨λ h=>UInt8.toNat_inj.1 h,λ h=>by rw [h]; rfl⟩
  cases ha:t.all di with
  | false =>
   rw [ha] at l hc
   refine gO false (bu l) (eqB ?_)
   rw [hc]; simp
  | true =>
   rw [ha] at l hc
   refine gZ () (bu l) (kY (·=pA t) ?_ (λ x hx=>aa hx))
   refine aA (λ h=>aa (eqB ?_)) (λ h=>ai ?_ ?_)
   ·rw [hc]; simp [h]
   ·have:=List.length_pos_iff.2 h; omega
   ·rw [hb']
    refine aA (λ h1=>aa (eqB ?_)) (λ h1=>aa (eqB ?_))
    ·have h2:=h48.1 (by omega)
     rw [hc,decide_eq_true_eq]
     constructor
     ·intro q; exact ⟨h,by simp,.inr (by omega)⟩
     ·rintro ⟨_,_,q | q⟩
      ·exact absurd h2 q
      ·omega
    ·rw [hc]; simp only [true_iff]
     exact ⟨h,by simp,.inl λ q=>h1 (by have:=h48.2 q; omega)⟩
 refine pn (ak (oX s) ?_ ?_)
 ·refine aA (λ h=>ai (by omega) (aa (eqB ?_))) (λ h=>aa (eqB ?_))
  ·rw [hneg,hb,decide_eq_true_eq]
   constructor
   ·intro q; exact ⟨by omega,h45.1 (by omega)⟩
   ·rintro ⟨_,q⟩; have:=h45.2 q; omega
  ·rw [hneg]
   constructor
   ·intro q; cases q
   ·rintro ⟨q,_⟩; omega
 ·rw [fg]
  show Ev2 (λ n m=>if oX s=true then ck _ (if s.drop 1=[48] then some (Sum.inr false) else some (Sum.inl (s.drop 1))) else some (Sum.inl s)) _
  refine aA (λ h=>ai ?_ (aA (λ h1=>aa ?_) (λ h1=>aa ?_))) (λ h=>aa ?_)
  ·have:=hneg.1 h; omega
  ·simp [pO,h,h1]
  ·have e:pO s=pA (s.drop 1):=by unfold pO digits; rw [if_pos h,decide_eq_false h1]; simp
   rw [e]
   exact body _ (by simp; omega)
  ·have e:pO s=pA s:=by simp [pO,h,digits]
   rw [e]
   exact body _ hs
theorem Ee (v:Int):jz v=some (decide (-iD≤v∧v≤iD)):=by
 simp only [jz]
 by_cases h:(-9007199254740992:Int)≤v
 ·rw [if_pos h]
  by_cases h2:v≤9007199254740992
  ·simp [h2,iD,h]
  ·simp [h2,iD]
 ·rw [if_neg h,Option.bind_some]
  refine congrArg some (eqB ?_)
  rw [decide_eq_true_eq]; unfold iD
  constructor
  ·intro q; cases q
  ·intro q; exact absurd q.1 h
theorem rE {s:Bytes}(h:pO s=true):digits s≠[]∧(digits s).all di=true:=by
 simp only [pO,Bool.and_eq_true] at h
 have:=(jB _).1 h.2
 exact ⟨this.1,this.2.1⟩
theorem Dv (s:Bytes)(h:pO s=true):parseIntB 64 s=if (if oX s=true then 9223372036854775808 < fx 0 (digits s) else 9223372036854775808≤fx 0 (digits s)) then .range else .ok (me s):=by
 obtain ⟨h1,h2⟩:=rE h
 cases s with
 | nil=>exact absurd (by simp [digits,oX]) h1
 | cons c r =>
  have e45:c.toNat=45↔c=45:=⟨λ h=>UInt8.toNat_inj.1 h,λ h=>by rw [h]; rfl⟩
  have hneg:oX (c::r)=decide (c=45):=by simp [oX]
  have hd:(if c.toNat=43∨c.toNat=45 then r else c::r)=digits (c::r):=by
   unfold digits
   rw [hneg]
   by_cases q:c=45
   ·rw [if_pos (.inr (e45.2 q)),if_pos (by simp [q])]; rfl
   ·have e:digits (c::r)=c::r:=by unfold digits; rw [hneg,if_neg (by simp [q])]
    have e2:(if decide (c=45)=true then List.drop 1 (c::r) else c::r)=c::r:=if_neg (by simp [q])
    rw [e2,if_neg]
    rintro (k | k)
    ·rw [e] at h2
     have:=j6 h2 List.mem_cons_self
     omega
    ·exact q (e45.1 k)
  have hp:=DI _ h1 h2
  unfold parseIntB
  simp only [hd,hp]
  rw [hneg]
  unfold me
  rw [hneg]
  generalize fx 0 (digits (c::r))=v
  by_cases q:c=45
  ·subst q
   by_cases hv:v≤18446744073709551615
   ·simp only [hv,if_true]
    by_cases hw:9223372036854775808 < v
    ·simp [hw]
    ·simp [hw]
   ·simp only [hv,if_false]
    rw [if_pos]; simp; omega
  ·have q':¬ c.toNat=45:=λ k=>q (e45.1 k)
   by_cases hv:v≤18446744073709551615
   ·simp only [hv,if_true]
    by_cases hw:9223372036854775808≤v
    ·simp [q,q',hw]
    ·simp [q,q',hw]
   ·simp only [hv,if_false]
    rw [if_pos]; simp [q]; omega
theorem vY (s:Bytes)(hs:s.length≤1000000000):Ev2 (λ n _=>fI n s) (·=qW s):=by
 simp only [fI]
 refine ak _ (vl s hs) ?_
 cases hc:pO s with
 | false=>exact au rfl (aa (by simp [qW,hc]))
 | true =>
  refine av (by simp) ?_
  have hp:hZ s 10 64=some (match parseIntB 64 s with | .ok v=>(v,false) | .range=>(intSat 64 s,true) | _=>(0,true)):=by
   unfold hZ
   exact aM ⟨rfl,rfl,by omega⟩
  rw [Dv s hc] at hp
  have e:qW s=(if -iD≤me s∧me s≤iD then (me s,0) else (0,5)):=by simp [qW,hc]
  rw [e]
  by_cases hr:(if oX s=true then 9223372036854775808 < fx 0 (digits s) else 9223372036854775808≤fx 0 (digits s))
  ·rw [if_pos hr] at hp
   refine ak _ (aQ hp rfl) ?_
   refine ak true (au rfl (aa rfl)) (au rfl (aa ?_))
   rw [if_neg]
   unfold me iD
   cases hn:oX s with
   | true=>rw [hn,if_pos rfl] at hr; rw [if_pos rfl]; omega
   | false=>rw [hn,if_neg (by simp)] at hr; rw [if_neg (by simp)]; omega
  ·rw [if_neg hr] at hp
   refine ak _ (aQ hp rfl) ?_
   refine ak (!decide (-iD≤me s∧me s≤iD)) ?_ ?_
   ·exact av (by simp) (ak _ (aQ (Ee _) rfl) (aa rfl))
   ·by_cases q:-iD≤me s∧me s≤iD
    ·rw [if_pos q]
     exact av (by simp [q]) (aa rfl)
    ·rw [if_neg q]
     exact au (by simp only [q,decide_false,Bool.not_false]) (aa rfl)
theorem ve:∀ (n u:Nat),u < n→fx 0 (decDigits u)=u∧(decDigits u).all di=true∧decDigits u≠[]∧((decDigits u).getD 0 0≠48∨(decDigits u).length=1)∧(1≤u→(decDigits u).getD 0 0≠48):=by
 intro n
 induction n with
 | zero=>intro u h; omega
 | succ n ih =>
  intro u hu
  have hdig:∀ k,k < 10→(UInt8.ofNat (48+k)).toNat=48+k:=λ k hk=>by
   rw [UInt8.toNat_ofNat']; omega
  rw [decDigits]
  by_cases h:u < 10
  ·rw [dif_pos h]
   have:=hdig u h
   refine ⟨by rw [oz,mz,this]; omega,by simp only [List.all_cons,List.all_nil,Bool.and_true,iJ,this]; omega,by simp,.inr rfl,λ h1=>?_⟩
   intro q
   have q':(UInt8.ofNat (48+u))=48:=q
   rw [q'] at this
   have:(48:UInt8).toNat=48:=rfl
   omega
  ·rw [dif_neg h]
   obtain ⟨a1,a2,a3,a4,a5⟩:=ih (u / 10) (by omega)
   have hd:=hdig (u % 10) (by omega)
   have hh:(decDigits (u / 10)++[UInt8.ofNat (48+u % 10)]).getD 0 0=(decDigits (u / 10)).getD 0 0:=by
    cases hx:decDigits (u / 10) with
    | nil=>exact absurd hx a3
    | cons c r=>rfl
   refine ⟨?_,?_,by simp,?_,?_⟩
   ·rw [qX,a1,hd]; omega
   ·rw [List.all_append,a2]; simp only [List.all_cons,List.all_nil,Bool.and_true,Bool.true_and,iJ,hd]; omega
   ·rw [hh]; exact .inl (a5 (by omega))
   ·rw [hh]; exact λ _=>a5 (by omega)
theorem rq:∀ (n:Nat) (l:Bytes),l.length≤n→pA l=true→decDigits (fx 0 l)=l∧(l.getD 0 0≠48→1≤fx 0 l):=by
 intro n
 induction n with
 | zero=>intro l hl h; have:=((jB l).1 h).1; cases l <;> simp_all
 | succ n ih =>
  intro l hl h
  obtain ⟨h1,h2,h3⟩:=(jB l).1 h
  have hof:∀ b:UInt8,48≤b.toNat→UInt8.ofNat (48+(b.toNat - 48))=b:=λ b hb=>by
   rw [show 48+(b.toNat - 48)=b.toNat by omega]; simp
  rcases List.eq_nil_or_concat l with rfl | ⟨m,b,rfl⟩
  ·exact absurd rfl h1
  ·simp only [List.concat_eq_append] at *
   have hb:=j6 h2 (b:=b) (by simp)
   rw [qX]
   by_cases hm:m=[]
   ·subst hm
    rw [mz,decDigits,dif_pos (by omega)]
    refine ⟨by simp [hof b hb.1],λ q=>?_⟩
    have q:b≠48:=q
    have:b.toNat≠48:=λ k=>q (UInt8.toNat_inj.1 k)
    omega
   ·have hcm:pA m=true:=by
     rw [jB]
     refine ⟨hm,?_,?_⟩
     ·rw [List.all_append,Bool.and_eq_true] at h2; exact h2.1
     ·rcases h3 with q | q
      ·left
       cases m with
       | nil=>exact absurd rfl hm
       | cons c r=>exact q
      ·cases m with
       | nil=>exact absurd rfl hm
       | cons c r=>simp at q
    obtain ⟨i1,i2⟩:=ih m (by simp at hl; omega) hcm
    have hne:m.getD 0 0≠48:=by
     rcases h3 with q | q
     ·cases m with
      | nil=>exact absurd rfl hm
      | cons c r=>exact q
     ·cases m with
      | nil=>exact absurd rfl hm
      | cons c r=>simp at q
    have hpos:=i2 hne
    refine ⟨?_,λ _=>by omega⟩
    rw [decDigits,dif_neg (by omega)]
    rw [show (fx 0 m*10+(b.toNat - 48)) / 10=fx 0 m by omega,show (fx 0 m*10+(b.toNat - 48)) % 10=b.toNat - 48 by omega,i1,hof b hb.1]
theorem zj (v:Int)(h0:0≤v)(h1:v≤iD):qW (itoa v)=(v,0):=by
 obtain ⟨u,rfl⟩:∃ u:Nat,v=u:=⟨v.toNat,by omega⟩
 have e:itoa (u:Int)=decDigits u:=by unfold itoa; rw [if_neg (by omega)]; simp
 obtain ⟨a1,a2,a3,a4,a5⟩:=ve (u+1) u (by omega)
 have hn:oX (decDigits u)=false:=by
  rw [← Bool.not_eq_true]
  intro q
  simp only [oX,Bool.and_eq_true,decide_eq_true_eq] at q
  have hm:(decDigits u).getD 0 0∈decDigits u:=by
   rw [List.getD_eq_getElem?_getD,List.getElem?_eq_getElem q.1]; exact List.getElem_mem _
  have:=j6 a2 hm
  rw [q.2] at this
  have:(45:UInt8).toNat=45:=rfl
  omega
 have hd:digits (decDigits u)=decDigits u:=by simp [digits,hn]
 have hc:pO (decDigits u)=true:=by
  simp only [pO,hn,hd,Bool.false_and,Bool.not_false,Bool.true_and]
  exact (jB _).2 ⟨a3,a2,a4⟩
 have hv:me (decDigits u)=u:=by simp [me,hn,hd,a1]
 rw [e,qW,if_pos hc,hv,if_pos ⟨by unfold iD at *; omega,h1⟩]
theorem zc (s:Bytes)(v:Int)(h:qW s=(v,0))(h0:0≤v):itoa v=s∧v≤iD:=by
 unfold qW at h
 split at h
 ·rename_i hc
  split at h
  ·rename_i hr
   have hv:me s=v:=congrArg Prod.fst h
   obtain ⟨h1,h2⟩:=rE hc
   simp only [pO,Bool.and_eq_true] at hc
   have hb:=(rq _ (digits s) (Nat.le_refl _) hc.2)
   have hcn:=(jB _).1 hc.2
   cases hn:oX s with
   | true =>
    exfalso
    have hv2:me s=-(fx 0 (digits s):Int):=by simp [me,hn]
    have hz:fx 0 (digits s)=0:=by omega
    have:decDigits 0=digits s:=by rw [← hz]; exact hb.1
    rw [decDigits,dif_pos (by omega)] at this
    have hd:digits s=s.drop 1:=by simp [digits,hn]
    rw [hd] at this
    have h48:s.drop 1=[48]:=this.symm
    simp [hn,h48] at hc
   | false =>
    have hd:digits s=s:=by simp [digits,hn]
    have hv2:me s=(fx 0 s:Int):=by simp [me,hn,hd]
    rw [hd] at hb
    refine ⟨?_,by rw [← hv]; exact hr.2⟩
    rw [← hv,hv2]
    unfold itoa
    rw [if_neg (by omega)]
    simpa using hb.1
  ·have:=congrArg Prod.snd h; simp at this
 ·have:=congrArg Prod.snd h; simp at this
end Go.Ab.R06
namespace Go.Ab.R06
open Go.Ab Go.Ab.RB Go.Lib
theorem pH (x:Int):IntKind.wrap .u8 x=x % 256:=by simp [IntKind.wrap,IntKind.bits,IntKind.signed]
theorem wrap32 (x:Int):IntKind.wrap .u32 x=x % 4294967296:=by simp [IntKind.wrap,IntKind.bits,IntKind.signed]
theorem shr6 (x:Int):cC .i32 x 6=x / 64:=by
 show x.fdiv (2 ^ 6)=x / 64
 rw [Int.fdiv_eq_ediv_of_nonneg _ (by decide)]; rfl
theorem EA (x:Int):cC .i32 x 12=x / 4096:=by
 show x.fdiv (2 ^ 12)=x / 4096
 rw [Int.fdiv_eq_ediv_of_nonneg _ (by decide)]; rfl
theorem ED (x:Int):cC .i32 x 18=x / 262144:=by
 show x.fdiv (2 ^ 18)=x / 262144
 rw [Int.fdiv_eq_ediv_of_nonneg _ (by decide)]; rfl
theorem t63:(List.range 256).all (λ n=>bw .u8 (n:Int) 63 == ((n % 64:Nat):Int))=true:=by kernel_rfl
theorem t128:(List.range 64).all (λ n=>iOr .u8 128 (n:Int) == ((128+n:Nat):Int))=true:=by kernel_rfl
theorem t192:(List.range 32).all (λ n=>iOr .u8 192 (n:Int) == ((192+n:Nat):Int))=true:=by kernel_rfl
theorem t224:(List.range 16).all (λ n=>iOr .u8 224 (n:Int) == ((224+n:Nat):Int))=true:=by kernel_rfl
theorem t240:(List.range 8).all (λ n=>iOr .u8 240 (n:Int) == ((240+n:Nat):Int))=true:=by kernel_rfl
theorem tab {f g:Nat→Int}{m:Nat}(h:(List.range m).all (λ n=>f n == g n)=true)(n:Nat)(hn:n < m):f n=g n:=eq_of_beq (List.all_eq_true.1 h n (List.mem_range.2 hn))
theorem Ad (x:Int):bw .u8 (IntKind.wrap .u8 x) 63=x % 64:=by
 rw [pH]
 obtain ⟨n,hn⟩:∃ n:Nat,x % 256=n:=⟨(x % 256).toNat,by omega⟩
 rw [hn,tab t63 n (by omega)]; omega
theorem AH {x:Int}(h0:0≤x)(h1:x < 64):iOr .u8 128 x=128+x:=by
 obtain ⟨n,rfl⟩:∃ n:Nat,x=n:=⟨x.toNat,by omega⟩
 rw [tab t128 n (by omega)]; omega
theorem EG {x:Int}(h0:0≤x)(h1:x < 32):iOr .u8 192 x=192+x:=by
 obtain ⟨n,rfl⟩:∃ n:Nat,x=n:=⟨x.toNat,by omega⟩
 rw [tab t192 n (by omega)]; omega
theorem Ey {x:Int}(h0:0≤x)(h1:x < 16):iOr .u8 224 x=224+x:=by
 obtain ⟨n,rfl⟩:∃ n:Nat,x=n:=⟨x.toNat,by omega⟩
 rw [tab t224 n (by omega)]; omega
theorem EF {x:Int}(h0:0≤x)(h1:x < 8):iOr .u8 240 x=240+x:=by
 obtain ⟨n,rfl⟩:∃ n:Nat,x=n:=⟨x.toNat,by omega⟩
 rw [tab t240 n (by omega)]; omega
def fy (r:Int):Prop:=(0≤r∧r < 55296)∨(57343 < r∧r≤1114111)
theorem wy (p:Bytes)(r:Int)(h:fy r)(hp:p.length≤100000000000):dH p r=some (p++encodeRune r):=by
 have h0:0≤r∧r≤1114111:=by unfold fy at h; omega
 have hw:IntKind.wrap .u32 r=r:=by rw [wrap32]; omega
 unfold dH
 rw [hw]
 by_cases h1:r≤127
 ·have hw8:IntKind.wrap .u8 r=r:=by rw [pH]; omega
  rw [if_pos h1,hw8,aM (by omega),aM (by simp; omega)]
  simp only [encodeRune,encodeRuneZ,if_pos (show 0≤r∧r≤127 from ⟨h0.1,h1⟩),List.map_cons,List.map_nil,u8]
 rw [if_neg h1]
 unfold cV
 rw [hw,Ad,shr6,EA,ED,Ad,Ad]
 have o1:iOr .u8 128 (r % 64)=128+r % 64:=AH (by omega) (by omega)
 have o2:iOr .u8 128 (r / 64 % 64)=128+r / 64 % 64:=AH (by omega) (by omega)
 have o3:iOr .u8 128 (r / 4096 % 64)=128+r / 4096 % 64:=AH (by omega) (by omega)
 rw [o1,o2,o3]
 have n1:¬ (0≤r∧r≤127):=by omega
 by_cases h2:r≤2047
 ·have hw8:IntKind.wrap .u8 (r / 64)=r / 64:=by rw [pH]; omega
  rw [if_pos h2,hw8,EG (by omega) (by omega),aM (by omega),aM (by omega),aM (by omega),aM (by simp; omega)]
  simp only [encodeRune,encodeRuneZ,if_neg n1,if_pos (show 128≤r∧r≤2047 by omega),List.map_cons,List.map_nil,u8,Option.bind_some]
 rw [if_neg h2]
 have n2:¬ (128≤r∧r≤2047):=by omega
 by_cases h3:r < 55296∨(57343 < r∧r≤65535)
 ·have hw8:IntKind.wrap .u8 (r / 4096)=r / 4096:=by rw [pH]; omega
  have e:((if r < 55296 then some true else if 57343 < r then some (decide (r≤65535)) else some false):Option Bool)=some true:=by
   rcases h3 with q | q
   ·rw [if_pos q]
   ·rw [if_neg (by omega),if_pos q.1]; simp [q.2]
  rw [e,Option.bind_some,if_pos rfl,hw8,Ey (by omega) (by omega),aM (by omega),aM (by omega),aM (by omega),aM (by omega),aM (by omega),aM (by simp; omega)]
  simp only [encodeRune,encodeRuneZ,if_neg n1,if_neg n2,if_pos (show (2048≤r∧r < 55296)∨(57343 < r∧r≤65535) by omega),List.map_cons,List.map_nil,u8,Option.bind_some]
 ·have h4:65535 < r:=by unfold fy at h; omega
  have hw8:IntKind.wrap .u8 (r / 262144)=r / 262144:=by rw [pH]; omega
  have e:((if r < 55296 then some true else if 57343 < r then some (decide (r≤65535)) else some false):Option Bool)=some false:=by
   rw [if_neg (by omega),if_pos (by omega)]; simp; omega
  have e2:((if 65535 < r then some (decide (r≤1114111)) else some false):Option Bool)=some true:=by rw [if_pos h4]; simp; omega
  rw [e,Option.bind_some,if_neg (by simp),e2,Option.bind_some,if_pos rfl,hw8,EF (by omega) (by omega),aM (by omega),aM (by omega),aM (by omega),aM (by omega),aM (by omega),aM (by omega),aM (by omega),aM (by simp; omega)]
  simp only [encodeRune,encodeRuneZ,if_neg n1,if_neg n2,if_neg (show ¬ ((2048≤r∧r < 55296)∨(57343 < r∧r≤65535)) by omega),if_pos (show 65536≤r∧r≤1114111 by omega),List.map_cons,List.map_nil,u8,Option.bind_some]
theorem sj (l:Bytes)(h:l≠[]):decodeGo (str l)=decodeL l:=by
 unfold decodeGo
 rw [if_neg]
 ·rfl
 ·rw [g7]; intro q; exact h (List.length_eq_zero_iff.1 q)
theorem lP (r:Int)(h:fy r):1≤(encodeRune r).length∧(encodeRune r).length≤4:=by
 unfold encodeRune encodeRuneZ
 rw [List.length_map]
 repeat' split
 all_goals simp
theorem yh (r:Int)(h:fy r)(t:Bytes):decodeL (encodeRune r++t)=(r.toNat,(encodeRune r).length):=by
 have h0:0≤r∧r≤1114111:=by unfold fy at h; omega
 have hb:∀ x:Int,0≤x→x < 256→(x.toNat.toUInt8).toNat=x.toNat:=λ x a b=>by
  show (UInt8.ofNat x.toNat).toNat=_
  rw [UInt8.toNat_ofNat']; omega
 rw [decodeL_N]
 by_cases h1:r≤127
 ·have e:encodeRune r=[r.toNat.toUInt8]:=by simp only [encodeRune,encodeRuneZ,if_pos (show 0≤r∧r≤127 from ⟨h0.1,h1⟩),List.map_cons,List.map_nil]
  rw [e]
  have b0:=hb r (by omega) (by omega)
  simp only [List.cons_append,List.getD_cons_zero,b0]
  unfold decodeN
  rw [if_pos (by omega)]; rfl
 have n1:¬ (0≤r∧r≤127):=by omega
 by_cases h2:r≤2047
 ·have e:encodeRune r=[(192+r / 64).toNat.toUInt8,(128+r % 64).toNat.toUInt8]:=by
   simp only [encodeRune,encodeRuneZ,if_neg n1,if_pos (show 128≤r∧r≤2047 by omega),List.map_cons,List.map_nil]
  rw [e]
  have b0:=hb (192+r / 64) (by omega) (by omega)
  have b1:=hb (128+r % 64) (by omega) (by omega)
  simp only [List.cons_append,List.getD_cons_zero,List.getD_cons_succ,b0,b1,List.length_cons,List.nil_append]
  unfold decodeN
  rw [if_neg (by omega),if_pos (by omega),if_pos (by omega)]
  refine Prod.ext ?_ rfl
  show _=r.toNat
  simp only; omega
 have n2:¬ (128≤r∧r≤2047):=by omega
 by_cases h3:r < 55296∨(57343 < r∧r≤65535)
 ·have e:encodeRune r=[(224+r / 4096).toNat.toUInt8,(128+r / 64 % 64).toNat.toUInt8,(128+r % 64).toNat.toUInt8]:=by
   simp only [encodeRune,encodeRuneZ,if_neg n1,if_neg n2,if_pos (show (2048≤r∧r < 55296)∨(57343 < r∧r≤65535) by omega),List.map_cons,List.map_nil]
  rw [e]
  have b0:=hb (224+r / 4096) (by omega) (by omega)
  have b1:=hb (128+r / 64 % 64) (by omega) (by omega)
  have b2:=hb (128+r % 64) (by omega) (by omega)
  simp only [List.cons_append,List.getD_cons_zero,List.getD_cons_succ,b0,b1,b2,List.length_cons,List.nil_append]
  unfold decodeN
  rw [if_neg (by omega),if_neg (by omega),if_pos (by omega),if_pos (by omega)]
  refine Prod.ext ?_ rfl
  show _=r.toNat
  simp only; omega
 ·have h4:65535 < r:=by unfold fy at h; omega
  have e:encodeRune r=[(240+r / 262144).toNat.toUInt8,(128+r / 4096 % 64).toNat.toUInt8,(128+r / 64 % 64).toNat.toUInt8,(128+r % 64).toNat.toUInt8]:=by
   simp only [encodeRune,encodeRuneZ,if_neg n1,if_neg n2,if_neg (show ¬ ((2048≤r∧r < 55296)∨(57343 < r∧r≤65535)) by omega),if_pos (show 65536≤r∧r≤1114111 by omega),List.map_cons,List.map_nil]
  rw [e]
  have b0:=hb (240+r / 262144) (by omega) (by omega)
  have b1:=hb (128+r / 4096 % 64) (by omega) (by omega)
  have b2:=hb (128+r / 64 % 64) (by omega) (by omega)
  have b3:=hb (128+r % 64) (by omega) (by omega)
  simp only [List.cons_append,List.getD_cons_zero,List.getD_cons_succ,b0,b1,b2,b3,List.length_cons,List.nil_append]
  unfold decodeN
  rw [if_neg (by omega),if_neg (by omega),if_neg (by omega),if_pos (by omega),if_pos (by omega)]
  refine Prod.ext ?_ rfl
  show _=r.toNat
  simp only; omega
theorem uH (r:Int)(h:fy r)(t:Bytes):validD (encodeRune r++t)=validD t:=by
 have hl:=lP r h
 have hne:encodeRune r++t≠[]:=by
  intro q; rw [List.append_eq_nil_iff] at q; rw [q.1] at hl; simp at hl
 rw [validD_step _ hne,yh r h t,if_neg]
 ·simp
 ·rintro ⟨a,b⟩
  have hr:r=65533:=by omega
  subst hr
  simp [encodeRune,encodeRuneZ] at b
theorem kS (l:Bytes)(h:l≠[]):1≤(decodeL l).2∧(decodeL l).2≤l.length∧(¬ ((decodeL l).1=65533∧(decodeL l).2=1)→fy ((decodeL l).1:Int)∧encodeRune ((decodeL l).1:Int)=l.take (decodeL l).2):=by
 have hl:0 < l.length:=List.length_pos_iff.2 h
 have hd:=C5 l.length (l.getD 0 0).toNat (l.getD 1 0).toNat (l.getD 2 0).toNat (l.getD 3 0).toNat (by omega) (UInt8.toNat_lt _)
 rw [← decodeL_N] at hd
 refine ⟨hd.1,hd.2.1,λ q=>⟨?_,encode_decode l h q⟩⟩
 have:=hd.2.2.2.2.2
 unfold fy; omega
theorem tZ (l:Bytes)(h:l≠[]):validD l=true↔¬ ((decodeL l).1=65533∧(decodeL l).2=1)∧validD (l.drop (decodeL l).2)=true:=by
 rw [validD_step l h]
 by_cases q:(decodeL l).1=65533∧(decodeL l).2=1
 ·simp [q]
 ·simp [q]
end Go.Ab.R06
namespace Go.Ab.R06
open Go.Ab Go.Ab.RB Go.Lib
theorem xO (f x:Bytes)(h:f.length+x.length≤100000000000):a8 (aB.mk f) x=some ((x.length:Int),false,aB.mk (f++x)):=by
 unfold a8 ce
 rw [Option.bind_some,aM (by simp only; omega)]
theorem wc (f:Bytes)(b:UInt8)(h:f.length≤100000000000):bF (aB.mk f) (b.toNat:Int)=some (false,aB.mk (f++[b])):=by
 have:=b.toNat_lt
 unfold bF ce
 rw [Option.bind_some,aM (by omega),aM (by simp; omega),Au]
theorem C7 (f:Bytes)(r:Int)(hr:fy r)(h:f.length≤10000000000):de (aB.mk f) r=some (((encodeRune r).length:Int),false,aB.mk (f++encodeRune r)):=by
 have hl:=lP r hr
 unfold de ce
 rw [Option.bind_some,wy f r hr (by omega),Option.bind_some]
 have e:((f++encodeRune r).length:Int) - (f.length:Int)=(encodeRune r).length:=by rw [List.length_append]; omega
 rw [e,aM (aV (by omega) (by omega))]
theorem El (f:Bytes)(h:f.length≤1000000000000):dc (aB.mk f)=some (f,aB.mk f):=by
 unfold dc
 rw [aM (by simp only; omega)]
def fF (b:UInt8):Bytes :=
 if b.toNat=10 then [92,110] else if b.toNat=13 then [92,114] else if b.toNat=9 then [92,116]
 else if b.toNat=34∨b.toNat=92 then [92,b] else if b.toNat < 32∨b.toNat=127 then [92,117,123]++dm b.toNat++[125] else [b]
def dA (s:Bytes):Bytes:=34::(s.flatMap fF++[34])
theorem yA {b:UInt8}(h:b.toNat=10):fF b=[92,110]:=by unfold fF; rw [if_pos h]
theorem yD {b:UInt8}(h:b.toNat=13):fF b=[92,114]:=by unfold fF; rw [if_neg (by omega),if_pos h]
theorem yB {b:UInt8}(h:b.toNat=9):fF b=[92,116]:=by unfold fF; rw [if_neg (by omega),if_neg (by omega),if_pos h]
theorem AR {b:UInt8}(h:b.toNat=34∨b.toNat=92):fF b=[92,b]:=by unfold fF; rw [if_neg (by omega),if_neg (by omega),if_neg (by omega),if_pos h]
theorem yH {b:UInt8}(h1:b.toNat≠10)(h2:b.toNat≠13)(h3:b.toNat≠9)(h:b.toNat < 32∨b.toNat=127):fF b=[92,117,123]++dm b.toNat++[125]:=by
 unfold fF; rw [if_neg h1,if_neg h2,if_neg h3,if_neg (by omega),if_pos h]
theorem vX {b:UInt8}(h1:b.toNat≠34)(h2:b.toNat≠92)(h:¬ (b.toNat < 32∨b.toNat=127)):fF b=[b]:=by
 unfold fF; rw [if_neg (by omega),if_neg (by omega),if_neg (by omega),if_neg (by omega),if_neg h]
theorem nU (n:Nat):1≤(dm n).length∧(dm n).length≤2:=by
 unfold dm; split <;> simp
theorem qk (b:UInt8):1≤(fF b).length∧(fF b).length≤6:=by
 have:=nU b.toNat
 unfold fF
 repeat' split
 all_goals (simp; try omega)
theorem tV (s:Bytes):s.length≤(s.flatMap fF).length∧(s.flatMap fF).length≤6*s.length:=by
 induction s with
 | nil=>simp
 | cons b r ih=>have:=qk b; simp only [List.flatMap_cons,List.length_append,List.length_cons]; omega
theorem AB (s:Bytes)(hs:s.length≤1000000000):∀ (k i:Nat) (f:Bytes),i+k=s.length→f.length≤6*i+1→Ev2 (λ _ m=>cE s m (i:Int) f) (·=f++(s.drop i).flatMap fF):=by
 intro k
 induction k with
 | zero =>
  intro i f hi hf
  refine aS ?_
  simp only [cE]
  refine av (by omega) (aa ?_)
  rw [List.drop_of_length_le (by omega)]; simp
 | succ k ih =>
  intro i f hi hf
  refine aS ?_
  simp only [cE]
  refine au (by omega) (ai (by omega) ?_)
  have hb:byt s i=((s.getD i 0).toNat:Int):=cO s i
  rw [hb]
  have hd:s.drop i=s.getD i 0::s.drop (i+1):=by
   rw [List.getD_eq_getElem?_getD,List.getElem?_eq_getElem (by omega),Option.getD_some]
   exact List.drop_eq_getElem_cons (by omega)
  rw [hd,List.flatMap_cons]
  generalize s.getD i 0=b
  have hbl:=b.toNat_lt
  have he:=qk b
  refine ak (f++fF b) ?_ ?_
  ·refine aA (λ h1=>?_) (λ h1=>aA (λ h2=>?_) (λ h2=>aA (λ h3=>?_) (λ h3=>?_)))
   ·rw [yA (by omega)]
    exact ak _ (aQ (xO f [92,110] (by simp only [List.length_cons,List.length_nil]; omega)) rfl) (aa rfl)
   ·rw [yD (by omega)]
    exact ak _ (aQ (xO f [92,114] (by simp only [List.length_cons,List.length_nil]; omega)) rfl) (aa rfl)
   ·rw [yB (by omega)]
    exact ak _ (aQ (xO f [92,116] (by simp only [List.length_cons,List.length_nil]; omega)) rfl) (aa rfl)
   refine ak (decide (b.toNat=34∨b.toNat=92)) ?_ ?_
   ·by_cases h:b.toNat=34
    ·exact au (by omega) (aa (by simp [h]))
    ·exact av (by omega) (aa (eqB (by rw [decide_eq_true_eq,decide_eq_true_eq]; omega)))
   by_cases h4:b.toNat=34∨b.toNat=92
   ·rw [AR h4]
    refine au (by simp [h4]) ?_
    refine ak _ (aQ (wc f 92 (by omega)) rfl) (ak _ (aQ (wc (f++[92]) b (by simp only [List.length_append,List.length_cons,List.length_nil]; omega)) rfl) (aa ?_))
    simp
   refine av (by simp only [decide_eq_true_eq]; exact h4) ?_
   refine ak (decide (b.toNat < 32∨b.toNat=127)) ?_ ?_
   ·by_cases h:b.toNat < 32
    ·exact au (by omega) (aa (by simp [h]))
    ·exact av (by omega) (aa (eqB (by rw [decide_eq_true_eq,decide_eq_true_eq]; omega)))
   by_cases h5:b.toNat < 32∨b.toNat=127
   ·rw [yH (by omega) (by omega) (by omega) h5]
    refine au (by simp [h5]) (ai (aV (by omega) (by omega)) ?_)
    have hx:gW (b.toNat:Int) 16=some (dm b.toNat):=by
     unfold gW
     rw [aM ⟨rfl,by omega,by omega⟩]; rfl
    have hxl:=nU b.toNat
    refine ak _ (aQ hx rfl) (ai (by simp only [List.length_cons,List.length_nil]; omega) (ai (by simp only [List.length_append,List.length_cons,List.length_nil]; omega) ?_))
    exact ak _ (aQ (xO f _ (by simp only [List.length_append,List.length_cons,List.length_nil]; omega)) rfl) (aa (by simp))
   ·rw [vX (by omega) (by omega) h5]
    refine av (by simp only [decide_eq_true_eq]; exact h5) ?_
    exact ak _ (aQ (wc f b (by omega)) rfl) (aa rfl)
  ·refine ai (aV (by omega) (by omega)) ?_
   have:=ih (i+1) (f++fF b) (by omega) (by rw [List.length_append]; omega)
   rw [Int.natCast_add,Int.natCast_one] at this
   simpa using this
theorem sY (s:Bytes)(hs:s.length≤1000000000):Ev2 (λ n _=>eQ n s) (·=dA s):=by
 simp only [eQ]
 have hf:=tV s
 refine ak _ (aQ (wc [] 34 (by simp)) rfl) ?_
 have l:=AB s hs s.length 0 [34] (by omega) (by simp)
 rw [List.drop_zero] at l
 refine ak _ (bu l) ?_
 refine ak _ (aQ (wc _ 34 (by simp only [List.length_append,List.length_cons,List.length_nil]; omega)) rfl) (ak _ (aQ (El _ (by simp only [List.length_append,List.length_cons,List.length_nil]; omega)) rfl) (aa ?_))
 simp [dA]
theorem Ej (s:Bytes):jv s=some (decide (s.length≤4096)&&validD s):=by
 unfold jv
 by_cases h:(s.length:Int)≤4096
 ·have hv:ef s=some (validD s):=by unfold ef; exact aM (by omega)
  rw [if_pos h,hv]
  simp; omega
 ·rw [if_neg h]
  simp; intro q; omega
end Go.Ab.R06
namespace Go.Ab.R06
open Go.Ab Go.Ab.RB Go.Lib
def qx (b:UInt8):Option Nat:=if 48≤b.toNat∧b.toNat≤57 then some (b.toNat - 48) else if 97≤b.toNat∧b.toNat≤102 then some (b.toNat - 87) else none
def C2:Bytes:=[48,49,50,51,52,53,54,55,56,57,97,98,99,100,101,102]
theorem hexT:(List.range 256).all (λ n=>indexByte C2 (UInt8.ofNat n) == (match qx (UInt8.ofNat n) with | some d=>(d:Int) | none=>-1))=true:=by kernel_rfl
theorem zl (b:UInt8):indexByte C2 b=match qx b with | some d=>(d:Int) | none=>-1:=by
 have:=eq_of_beq (List.all_eq_true.1 hexT b.toNat (List.mem_range.2 b.toNat_lt))
 simpa using this
theorem yg {b:UInt8}{d:Nat}(h:qx b=some d):d < 16:=by
 unfold qx at h
 split at h
 ·cases h; omega
 ·split at h
  ·cases h; omega
  ·cases h
def cX:Nat→Bytes→Nat→Nat×Nat
 | 0,_,a=>(a,0)
 | _+1,[],a=>(a,0)
 | k+1,b::r,a=>match qx b with
  | some d=>((cX k r (16*a+d)).1,(cX k r (16*a+d)).2+1)
  | none=>(a,0)
theorem oG:∀ (k:Nat) (l:Bytes) (a:Nat),(cX k l a).2≤k∧(cX k l a).2≤l.length
 | 0,_,_=>⟨Nat.le_refl _,Nat.zero_le _⟩
 | _+1,[],_=>⟨Nat.zero_le _,Nat.le_refl _⟩
 | k+1,b::r,a=>by
  unfold cX
  cases qx b with
  | none=>exact ⟨Nat.zero_le _,Nat.zero_le _⟩
  | some d=>have:=oG k r (16*a+d); simp only [List.length_cons]; omega
theorem om (n:Int)(h0:0≤n)(h1:n < 2147483648):IntKind.wrap .i32 n=n:=by
 simp [IntKind.wrap,IntKind.bits,IntKind.signed]
 omega
theorem Ed (s:Bytes)(hs:s.length≤1000000000):∀ (k i a:Nat),i+k=6→i≤s.length→a < 16 ^ i→Ev2 (λ _ m=>bI s m (a:Int) (i:Int))
  (·=(((cX k (s.drop i) a).1:Int),((i+(cX k (s.drop i) a).2:Nat):Int))):=by
 intro k
 induction k with
 | zero =>
  intro i a hi hl ha
  refine aS ?_
  simp only [bI]
  refine ak false ?_ (av (by simp) (aa (by simp [cX])))
  exact aA (λ h=>aa (by simp; omega)) (λ h=>aa rfl)
 | succ k ih =>
  intro i a hi hl ha
  refine aS ?_
  simp only [bI]
  by_cases h:i < s.length
  ·refine ak true (au (by omega) (aa (by simp; omega))) (au rfl (ai (by omega) ?_))
   have hb:byt s i=((s.getD i 0).toNat:Int):=cO s i
   rw [hb]
   have hd:s.drop i=s.getD i 0::s.drop (i+1):=by
    rw [List.getD_eq_getElem?_getD,List.getElem?_eq_getElem h,Option.getD_some]
    exact List.drop_eq_getElem_cons h
   rw [hd]
   generalize s.getD i 0=b
   have hx:strings_IndexByte ([48,49,50,51,52,53,54,55,56,57,97,98,99,100,101,102]:Bytes) (b.toNat:Int)=some (indexByte C2 b):=by
    unfold strings_IndexByte
    have:((b.toNat:Int).toNat.toUInt8)=b:=by simp
    rw [this]; rfl
   refine ak _ (aQ hx rfl) ?_
   rw [zl]
   unfold cX
   cases hh:qx b with
   | none=>exact au (by decide) (aa (by simp))
   | some d =>
    have hlt:=yg hh
    have hp:16 ^ i≤16 ^ 5:=Nat.pow_le_pow_right (by decide) (by omega)
    have hp5:(16:Nat) ^ 5=1048576:=rfl
    refine av (by simp) (ai (aV (by omega) (by omega)) ?_)
    have e1:IntKind.wrap .i32 (16*(a:Int))=16*(a:Int):=om _ (by omega) (by omega)
    have e2:IntKind.wrap .i32 (d:Int)=(d:Int):=om _ (by omega) (by omega)
    have e3:IntKind.wrap .i32 (16*(a:Int)+(d:Int))=((16*a+d:Nat):Int):=by
     rw [om _ (by omega) (by omega)]; omega
    rw [e1,e2,e3]
    have:=ih (i+1) (16*a+d) (by omega) (by omega) (by rw [Nat.pow_succ]; omega)
    rw [show (((i+1:Nat)):Int)=(i:Int)+1 by omega] at this
    refine iQ this λ r hr=>?_
    rw [hr]
    refine Prod.ext rfl ?_
    show ((i+1+_:Nat):Int)=((i+(_+1):Nat):Int)
    omega
  ·refine ak false (av (by omega) (aa rfl)) (av (by simp) (aa ?_))
   rw [List.drop_of_length_le (by omega)]
   simp [cX]
def jh (s:Bytes):Int×Int×Int :=
 let h:=cX 6 s 0
 if h.2=s.length then (0,0,40)
 else if s.getD h.2 0≠125∨h.2=0∨(1 < h.2∧s.getD 0 0=48)∨validRune (h.1:Int)=false then (0,0,2)
 else ((h.1:Int),((h.2+1:Nat):Int),0)
theorem lA {b:UInt8}{n:Nat}(hn:n < 256):b.toNat=n↔b=UInt8.ofNat n:=by
 constructor
 ·intro h; apply UInt8.toNat_inj.1; rw [h,UInt8.toNat_ofNat']; omega
 ·intro h; rw [h,UInt8.toNat_ofNat']; omega
theorem sv {s:Bytes}{v c:Nat}(h:cX 6 s 0=(v,c)):jh s=if c=s.length then (0,0,40) else if s.getD c 0≠125∨c=0∨(1 < c∧s.getD 0 0=48)∨validRune (v:Int)=false then (0,0,2) else ((v:Int),((c+1:Nat):Int),0):=by
 unfold jh; rw [h]
theorem B5 (s:Bytes)(hs:s.length≤1000000000):Ev2 (λ n _=>cz n s) (·=jh s):=by
 simp only [cz]
 have l:=Ed s hs 6 0 0 rfl (Nat.zero_le _) (by decide)
 rw [List.drop_zero,Nat.zero_add] at l
 have hle:=oG 6 s 0
 refine ak _ (bu l) ?_
 obtain ⟨v,c,hh⟩:∃ v c,cX 6 s 0=(v,c):=⟨_,_,rfl⟩
 have hP:=sv hh
 rw [hh] at hle ⊢
 simp only at hle ⊢
 refine aA (λ h=>aa ?_) (λ h=>?_)
 ·rw [hP,if_pos (by omega)]
 rw [if_neg (show ¬ c=s.length by omega)] at hP
 have hb:byt s c=((s.getD c 0).toNat:Int):=cO s c
 have hb0:byt s 0=((s.getD 0 0).toNat:Int):=cO s 0
 have h125:(s.getD c 0).toNat=125↔s.getD c 0=125:=lA (by decide)
 have h48:(s.getD 0 0).toNat=48↔s.getD 0 0=48:=lA (by decide)
 have hv:dd (v:Int)=some (validRune (v:Int)):=rfl
 have key:Ev2 (λ _ _=>(ck ((0:Int)≤(c:Int)∧(c:Int) < (s.length:Int)) <|
  if byt s c=125 then
   if (c:Int)=0 then some true
   else
   if 1 < (c:Int) then
    ck ((0:Int)≤0∧0 < (s.length:Int)) <|
    if byt s 0=48 then some true
    else (dd (v:Int)).bind λ r32=>some (!r32)
   else (dd (v:Int)).bind λ r34=>some (!r34)
  else some true:Option Bool)) (·=decide (s.getD c 0≠125∨c=0∨(1 < c∧s.getD 0 0=48)∨validRune (v:Int)=false)):=by
  refine ai (by omega) ?_
  rw [hb,hb0]
  refine aA (λ h1=>aA (λ h2=>aa ?_) (λ h2=>aA (λ h3=>ai (by omega) (aA (λ h4=>aa ?_) (λ h4=>?_))) (λ h3=>?_))) (λ h1=>aa ?_)
  ·symm; rw [decide_eq_true_eq]; right; left; omega
  ·symm; rw [decide_eq_true_eq]; right; right; left; exact ⟨by omega,h48.1 (by omega)⟩
  ·have q1:¬ s.getD c 0≠125:=λ q=>q (h125.1 (by omega))
   have q2:¬ (1 < c∧s.getD 0 0=48):=λ q=>h4 (by have:=h48.2 q.2; omega)
   refine ak _ (aQ hv rfl) (aa (eqB ?_))
   rw [decide_eq_true_eq]
   have:¬ c=0:=by omega
   simp only [q1,q2,false_or,this,Bool.not_eq_true']
  ·have q1:¬ s.getD c 0≠125:=λ q=>q (h125.1 (by omega))
   refine ak _ (aQ hv rfl) (aa (eqB ?_))
   rw [decide_eq_true_eq]
   have a1:¬ c=0:=by omega
   have a2:¬ 1 < c:=by omega
   simp only [q1,a1,a2,false_or,false_and,Bool.not_eq_true']
  ·symm; rw [decide_eq_true_eq]; left; intro q; exact h1 (by have:=h125.2 q; omega)
 refine ak _ key ?_
 refine aA (λ h1=>aa ?_) (λ h1=>ai (aV (by omega) (by omega)) (aa ?_))
 ·rw [hP,if_pos (of_decide_eq_true h1)]
 ·rw [hP,if_neg (λ q=>h1 (decide_eq_true q))]
  refine Prod.ext rfl (Prod.ext ?_ rfl)
  show (c:Int)+1=((c+1:Nat):Int)
  omega
def jM (s:Bytes):Int×Int×Int:=match s with
 | []=>(0,0,40)
 | b::r=>if b.toNat=110 then (10,1,0) else if b.toNat=114 then (13,1,0) else if b.toNat=116 then (9,1,0)
  else if b.toNat=34∨b.toNat=92 then ((b.toNat:Int),1,0)
  else if b.toNat=117 then (match r with
   | []=>(0,0,40)
   | c::t=>if c.toNat=123 then ((jh t).1,(jh t).2.1+2,(jh t).2.2) else (0,0,2))
  else (0,0,2)
theorem oo (b:UInt8)(r:Bytes):jM (b::r)=if b.toNat=110 then (10,1,0) else if b.toNat=114 then (13,1,0) else if b.toNat=116 then (9,1,0)
  else if b.toNat=34∨b.toNat=92 then ((b.toNat:Int),1,0)
  else if b.toNat=117 then (match r with
   | []=>(0,0,40)
   | c::t=>if c.toNat=123 then ((jh t).1,(jh t).2.1+2,(jh t).2.2) else (0,0,2))
  else (0,0,2):=rfl
theorem vM (s:Bytes):0≤(jh s).2.1∧(jh s).2.1≤s.length∧((jh s).2.2=0→fy (jh s).1)∧0≤(jh s).2.2:=by
 have hle:=oG 6 s 0
 unfold jh
 generalize cX 6 s 0=h at hle ⊢
 obtain ⟨v,c⟩:=h
 simp only at hle ⊢
 split
 ·simp <;> omega
 ·split
  ·simp <;> omega
  ·rename_i h1 h2
   refine ⟨by simp only; omega,by simp only; omega,λ _=>?_,by simp⟩
   have:validRune (v:Int)=true:=by
    cases hv:validRune (v:Int) with
    | true=>rfl
    | false=>exact absurd (.inr (.inr (.inr hv))) h2
   simp only [validRune,decide_eq_true_eq] at this
   unfold fy; simp only; omega
theorem vN (s:Bytes):0≤(jM s).2.1∧(jM s).2.1≤s.length+1∧((jM s).2.2=0→fy (jM s).1∧(jM s).2.1≤s.length)∧0≤(jM s).2.2:=by
 unfold jM
 split
 ·simp
 ·rename_i b r
  have hb:=b.toNat_lt
  split
  ·simp [fy] <;> omega
  split
  ·simp [fy] <;> omega
  split
  ·simp [fy] <;> omega
  split
  ·simp [fy] <;> omega
  split
  ·split
   ·simp
   ·rename_i c t
    have:=vM t
    split
    ·refine ⟨by simp only; omega,by simp only [List.length_cons]; omega,λ q=>⟨this.2.2.1 q,by simp only [List.length_cons]; omega⟩,this.2.2.2⟩
    ·simp <;> omega
  ·simp <;> omega
theorem CG (s:Bytes)(hs:s.length≤1000000000):Ev2 (λ n _=>eR n s) (·=jM s):=by
 simp only [eR]
 cases s with
 | nil=>exact au rfl (aa rfl)
 | cons b r =>
  have hl:((b::r).length:Int)=(r.length:Int)+1:=by simp
  refine av (by simp) (ai (by omega) ?_)
  have hb:byt (b::r) 0=(b.toNat:Int):=rfl
  have hbl:=b.toNat_lt
  rw [hb]
  have hP:=oo b r
  refine aA (λ h=>aa (by rw [hP,if_pos (by omega)])) (λ h1=>?_)
  rw [if_neg (show ¬ b.toNat=110 by omega)] at hP
  refine aA (λ h=>aa (by rw [hP,if_pos (by omega)])) (λ h2=>?_)
  rw [if_neg (show ¬ b.toNat=114 by omega)] at hP
  refine aA (λ h=>aa (by rw [hP,if_pos (by omega)])) (λ h3=>?_)
  rw [if_neg (show ¬ b.toNat=116 by omega)] at hP
  refine ak (decide (b.toNat=34∨b.toNat=92)) ?_ ?_
  ·by_cases h:b.toNat=34
   ·exact au (by omega) (aa (by simp [h]))
   ·exact av (by omega) (aa (eqB (by rw [decide_eq_true_eq,decide_eq_true_eq]; omega)))
  by_cases h4:b.toNat=34∨b.toNat=92
  ·rw [if_pos h4] at hP
   rw [hP]
   refine au (by simp [h4]) (ai (by omega) (aa ?_))
   rw [om _ (by omega) (by omega)]
  rw [if_neg h4] at hP
  refine av (by simp only [decide_eq_true_eq]; exact h4) ?_
  refine aA (λ h5=>?_) (λ h5=>aa (by rw [hP,if_neg (by omega)]))
  rw [if_pos (show b.toNat=117 by omega)] at hP
  rw [hP]
  cases r with
  | nil=>exact au (by simp) (aa rfl)
  | cons c t =>
   have hl2:((b::c::t).length:Int)=(t.length:Int)+2:=by simp <;> omega
   refine av (by omega) (ai (by omega) ?_)
   have hc:byt (b::c::t) 1=(c.toNat:Int):=rfl
   rw [hc]
   refine aA (λ h6=>ai (by omega) ?_) (λ h6=>aa (by show _=if c.toNat=123 then _ else _; rw [if_neg (by omega)]))
   have e6:(if c.toNat=123 then ((jh t).1,(jh t).2.1+2,(jh t).2.2) else ((0,0,2):Int×Int×Int))=((jh t).1,(jh t).2.1+2,(jh t).2.2):=if_pos (by omega)
   show Ev2 _ (·=if c.toNat=123 then ((jh t).1,(jh t).2.1+2,(jh t).2.2) else ((0,0,2):Int×Int×Int))
   rw [e6,fg]
   show Ev2 (λ n m=>(cz n t).bind _) _
   have hle:=vM t
   have htl:t.length≤1000000000:=by simp at hs; omega
   exact ak _ (B5 t htl) (ai (aV (by omega) (by omega)) (aa rfl))
end Go.Ab.R06
namespace Go.Ab.R06
open Go.Ab Go.Ab.RB Go.Lib
def pC (c:Nat×Nat):Prop:=(c.1=65533∧c.2=1)∨c.1 < 32∨c.1=127
instance (c:Nat×Nat):Decidable (pC c):=inferInstanceAs (Decidable (_∨_))
def kI:Nat→Bytes→Nat→Bytes→(Int×Bytes)⊕(Bytes×Int×Int)
 | 0,_,at',acc=>.inl ((at':Int),acc)
 | _+1,[],at',acc=>.inl ((at':Int),acc)
 | n+1,b::r,at',acc=>if b.toNat=34 then .inl ((at':Int),acc)
  else if (decodeL (b::r)).1=92 then
   (if (jM r).2.2=0 then kI n (r.drop (jM r).2.1.toNat) (at'+((jM r).2.1.toNat+1)) (acc++encodeRune (jM r).1) else .inr ([],0,(jM r).2.2))
  else if pC (decodeL (b::r)) then .inr ([],0,2)
  else kI n ((b::r).drop (decodeL (b::r)).2) (at'+(decodeL (b::r)).2) (acc++encodeRune ((decodeL (b::r)).1:Int))
theorem jf (n:Nat)(b:UInt8)(r:Bytes)(at':Nat)(acc:Bytes):kI (n+1) (b::r) at' acc=if b.toNat=34 then .inl ((at':Int),acc)
  else if (decodeL (b::r)).1=92 then
   (if (jM r).2.2=0 then kI n (r.drop (jM r).2.1.toNat) (at'+((jM r).2.1.toNat+1)) (acc++encodeRune (jM r).1) else .inr ([],0,(jM r).2.2))
  else if pC (decodeL (b::r)) then .inr ([],0,2)
  else kI n ((b::r).drop (decodeL (b::r)).2) (at'+(decodeL (b::r)).2) (acc++encodeRune ((decodeL (b::r)).1:Int)):=by rw [kI]
theorem Df (s:Bytes)(hs:s.length≤1000000000):∀ (k:Nat) (l:Bytes) (i:Nat) (f:Bytes),l.length < k→s.drop i=l→i+l.length=s.length→f.length≤4*i→Ev2 (λ n m=>cx n s m (i:Int) f) (·=kI k l i f):=by
 intro k
 induction k with
 | zero=>intro l i f h; omega
 | succ k ih =>
  intro l i f hk hl hi hf
  refine aS ?_
  simp only [cx]
  cases l with
  | nil =>
   simp only [List.length_nil] at hi
   refine ak false (av (by omega) (aa rfl)) (av (by simp) (aa ?_))
   rw [kI]
  | cons b r =>
   have hil:i < s.length:=by simp only [List.length_cons] at hi; omega
   have hb:byt s i=(b.toNat:Int):=by
    rw [cO]
    have:s.getD i 0=b:=by
     have:=List.drop_eq_getElem_cons hil
     rw [hl] at this
     rw [List.getD_eq_getElem?_getD,List.getElem?_eq_getElem hil]
     exact (List.cons.inj this).1.symm
    rw [this]
   have hr:s.drop (i+1)=r:=by
    have:=List.drop_eq_getElem_cons hil
    rw [hl] at this
    exact (List.cons.inj this).2.symm
   have hlr:r.length+i+1=s.length:=by simp only [List.length_cons] at hi; omega
   have hU:=jf k b r i f
   rw [hb]
   by_cases h34:b.toNat=34
   ·rw [if_pos h34] at hU
    exact ak false (au (by omega) (ai (by omega) (aa (by simp; omega)))) (av (by simp) (aa hU.symm))
   rw [if_neg h34] at hU
   refine ak true (au (by omega) (ai (by omega) (aa (by simp; omega)))) (au rfl (ai (by omega) ?_))
   rw [fg,Int.toNat_natCast,hl]
   have hd:cU (b::r)=some (((decodeL (b::r)).1:Int),((decodeL (b::r)).2:Int)):=by
    unfold cU
    rw [sj _ (by simp)]
   refine ak _ (aQ hd rfl) ?_
   have hdf:=kS (b::r) (by simp)
   generalize hD:decodeL (b::r)=D at hU hdf ⊢
   obtain ⟨c,w⟩:=D
   simp only at hU hdf ⊢
   by_cases h92:c=92
   ·rw [if_pos h92] at hU
    have hes:=vN r
    have hev:=CG r (by omega)
    have sub1:sub s ((i:Int)+1) (s.length:Int)=r:=by
     rw [fg,show ((i:Int)+1).toNat=i+1 by omega,hr]
    generalize jM r=E at hU hes hev
    obtain ⟨x,y,z⟩:=E
    simp only at hU hes hev
    by_cases hz:z=0
    ·rw [if_pos hz] at hU
     refine pn (au (by omega) (ai (aV (by omega) (by omega)) (ai (by omega) ?_)))
     rw [sub1]
     obtain ⟨e1,e2⟩:=hes.2.2.1 hz
     obtain ⟨y',rfl⟩:∃ y':Nat,y=y':=⟨y.toNat,by omega⟩
     rw [Int.toNat_natCast] at hU
     refine ak _ hev (au hz (ai (aV (by dsimp only; omega) (by dsimp only; omega)) (aa ?_)))
     refine ak _ (aQ (C7 f x e1 (by omega)) rfl) (ai (aV (by dsimp only; omega) (by dsimp only; omega)) ?_)
     have hle:=lP x e1
     have:=ih (r.drop y') (i+(y'+1)) (f++encodeRune x) (by rw [List.length_drop]; simp only [List.length_cons] at hk; omega) (by rw [← hr,List.drop_drop]; congr 1; omega) (by rw [List.length_drop]; omega) (by rw [List.length_append]; omega)
     rw [← hU] at this
     rw [show ((i+(y'+1):Nat):Int)=(i:Int)+((y':Int)+1) by omega] at this
     exact this
    ·rw [if_neg hz] at hU
     refine pn (au (by omega) (ai (aV (by omega) (by omega)) (ai (by omega) ?_)))
     rw [sub1]
     refine ak _ hev (av hz (aa ?_))
     exact hU.symm
   ·rw [if_neg h92] at hU
    have hbad:Ev2 (λ _ _=>(if (c:Int)=65533 then if (w:Int)=1 then some true else if (c:Int) < 32 then some true else some (decide ((c:Int)=127)) else if (c:Int) < 32 then some true else some (decide ((c:Int)=127)):Option Bool)) (·=decide (pC (c,w))):=by
     refine aA (λ h1=>aA (λ h2=>aa ?_) (λ h2=>aA (λ h3=>aa ?_) (λ h3=>aa (eqB ?_)))) (λ h1=>aA (λ h3=>aa ?_) (λ h3=>aa (eqB ?_)))
     ·symm; rw [decide_eq_true_eq]; left; simp only; omega
     ·symm; rw [decide_eq_true_eq]; right; left; simp only; omega
     ·rw [decide_eq_true_eq,decide_eq_true_eq]; unfold pC; simp only; omega
     ·symm; rw [decide_eq_true_eq]; right; left; simp only; omega
     ·rw [decide_eq_true_eq,decide_eq_true_eq]; unfold pC; simp only; omega
    by_cases hbd:pC (c,w)
    ·rw [if_pos hbd] at hU
     refine pn (av (by omega) (ak _ hbad (au (by simp only [decide_eq_true_eq]; exact hbd) (aa ?_))))
     exact hU.symm
    ·rw [if_neg hbd] at hU
     refine pn (av (by omega) (ak _ hbad (av (by simp only [decide_eq_true_eq]; exact hbd) (aa ?_))))
     have hgood:=hdf.2.2 (λ q=>hbd (.inl q))
     refine ak _ (aQ (C7 f c hgood.1 (by omega)) rfl) (ai (aV (by simp only [List.length_cons] at hdf; omega) (by simp only [List.length_cons] at hdf; omega)) ?_)
     have hle:=lP c hgood.1
     have hw:w≤r.length+1:=by simpa using hdf.2.1
     have hw1:=hdf.1
     have:=ih ((b::r).drop w) (i+w) (f++encodeRune (c:Int)) (by rw [List.length_drop]; simp only [List.length_cons] at hk ⊢; omega) (by rw [← hl,List.drop_drop]) (by rw [List.length_drop]; simp only [List.length_cons]; omega) (by rw [List.length_append]; omega)
     rw [← hU] at this
     rw [show ((i+w:Nat):Int)=(i:Int)+(w:Int) by omega] at this
     exact this
def jW:Bytes→Bytes×Int×Int
 | []=>([],0,40)
 | b::r=>if b.toNat=34 then (match kI (r.length+1) r 1 [] with
   | .inl q=>if q.1=((r.length+1:Nat):Int) then ([],0,40) else if 4096 < q.2.length then ([],0,3) else (q.2,q.1+1,0)
   | .inr e=>e)
  else ([],0,2)
theorem mE (b:UInt8)(r:Bytes):jW (b::r)=if b.toNat=34 then (match kI (r.length+1) r 1 [] with
   | .inl q=>if q.1=((r.length+1:Nat):Int) then ([],0,40) else if 4096 < q.2.length then ([],0,3) else (q.2,q.1+1,0)
   | .inr e=>e)
  else ([],0,2):=rfl
theorem va:∀ (k:Nat) (l:Bytes) (i:Nat) (f:Bytes),(∀ a g,kI k l i f=.inl (a,g)→(i:Int)≤a∧a≤((i+l.length:Nat):Int)∧g.length≤f.length+4*l.length∧((∀ t,validD (f++t)=validD t)→∀ t,validD (g++t)=validD t))∧(∀ x,kI k l i f=.inr x→x.1=[]∧x.2.1=0∧x.2.2≠0):=by
 intro k
 induction k with
 | zero =>
  intro l i f
  refine ⟨λ a g h=>?_,λ x h=>(by rw [kI] at h; cases h)⟩
  rw [kI] at h; cases h
  exact ⟨by omega,by omega,by omega,λ q=>q⟩
 | succ k ih =>
  intro l i f
  cases l with
  | nil =>
   refine ⟨λ a g h=>?_,λ x h=>(by rw [kI] at h; cases h)⟩
   rw [kI] at h; cases h
   exact ⟨by omega,by simp,by simp,λ q=>q⟩
  | cons b r =>
   rw [jf]
   have hdf:=kS (b::r) (by simp)
   have hes:=vN r
   split
   ·refine ⟨λ a g h=>?_,λ x h=>(by cases h)⟩
    cases h
    exact ⟨by omega,by simp only [List.length_cons]; omega,by omega,λ q=>q⟩
   split
   ·split
    ·rename_i hz
     obtain ⟨e1,e2⟩:=hes.2.2.1 hz
     have hle:=lP _ e1
     have hi:=ih (r.drop (jM r).2.1.toNat) (i+((jM r).2.1.toNat+1)) (f++encodeRune (jM r).1)
     refine ⟨λ a g h=>?_,hi.2⟩
     have:=hi.1 a g h
     rw [List.length_drop,List.length_append] at this
     refine ⟨by omega,by simp only [List.length_cons]; omega,by simp only [List.length_cons]; omega,λ q=>this.2.2.2 λ t=>?_⟩
     rw [List.append_assoc,q,uH _ e1]
    ·rename_i hz
     refine ⟨λ a g h=>(by cases h),λ x h=>?_⟩
     cases h
     exact ⟨rfl,rfl,hz⟩
   split
   ·refine ⟨λ a g h=>(by cases h),λ x h=>?_⟩
    cases h
    exact ⟨rfl,rfl,by decide⟩
   ·rename_i hbd
    have hgood:=hdf.2.2 (λ q=>hbd (.inl q))
    have hle:=lP _ hgood.1
    have hi:=ih ((b::r).drop (decodeL (b::r)).2) (i+(decodeL (b::r)).2) (f++encodeRune ((decodeL (b::r)).1:Int))
    refine ⟨λ a g h=>?_,hi.2⟩
    have:=hi.1 a g h
    rw [List.length_drop,List.length_append] at this
    simp only [List.length_cons] at this hdf ⊢
    refine ⟨by omega,by omega,by omega,λ q=>this.2.2.2 λ t=>?_⟩
    rw [List.append_assoc,q,uH _ hgood.1]
theorem DJ (s:Bytes)(hs:s.length≤1000000000):Ev2 (λ n _=>eF n s) (·=jW s):=by
 simp only [eF]
 cases s with
 | nil=>exact au rfl (aa rfl)
 | cons b r =>
  have hl:((b::r).length:Int)=(r.length:Int)+1:=by simp
  have hln:(b::r).length=r.length+1:=by simp
  refine av (by simp) (ai (by omega) ?_)
  have hb:byt (b::r) 0=(b.toNat:Int):=rfl
  rw [hb]
  rw [mE]
  refine aA (λ h=>?_) (λ h=>aa (by rw [if_neg (show ¬ b.toNat=34 by omega)]))
  have l:=Df (b::r) hs (r.length+1) r 1 [] (by omega) rfl (by omega) (by simp)
  have hle:=va (r.length+1) r 1 []
  have e34:b.toNat=34:=by omega
  simp only [e34,if_true]
  generalize kI (r.length+1) r 1 []=U at l hle ⊢
  cases U with
  | inr e=>exact gO e (bu l) rfl
  | inl q =>
   obtain ⟨a,g⟩:=q
   have hq:=hle.1 a g rfl
   simp only [List.length_nil,Nat.zero_add] at hq
   refine gZ (a,g) (bu l) ?_
   refine aA (λ h=>aa (by simp only at h ⊢; rw [if_pos (by omega)])) (λ h=>?_)
   simp only at h ⊢
   rw [if_neg (by omega)]
   refine ak _ (aQ rfl rfl) (aA (λ h1=>aa (by simp only at h1; rw [if_pos (by omega)])) (λ h1=>?_))
   simp only at h1
   rw [if_neg (by omega)]
   refine ak _ (aQ (El g (by omega)) rfl) (ai (aV (by omega) (by omega)) (aa rfl))
theorem vE {s x:Bytes}{n:Int}(h:jW s=(x,n,0)):x.length≤4096∧validD x=true∧2≤n∧n≤s.length:=by
 cases s with
 | nil=>cases h
 | cons b r =>
  rw [mE] at h
  split at h
  ·have hle:=va (r.length+1) r 1 []
   split at h
   ·rename_i q hq
    obtain ⟨a,g⟩:=q
    have hg:=hle.1 a g hq
    simp only at h
    split at h
    ·cases h
    ·split at h
     ·cases h
     ·rename_i h1 h2
      cases h
      simp only [List.length_cons]
      refine ⟨by omega,?_,by omega,by omega⟩
      have:=hg.2.2.2 (λ t=>by simp) []
      simpa [validD_nil] using this
   ·rename_i e he
    subst h
    exact absurd rfl (hle.2 _ he).2.2
  ·cases h
theorem x7 (s:Bytes):0≤(jW s).2.1∧(jW s).2.1≤s.length∧((jW s).2.2≠0→(jW s).1=[]∧(jW s).2.1=0)∧(jW s).1.length≤4096:=by
 cases s with
 | nil=>exact ⟨Int.le_refl _,Int.le_refl _,λ _=>⟨rfl,rfl⟩,Nat.zero_le _⟩
 | cons b r =>
  rw [mE]
  split
  ·have hle:=va (r.length+1) r 1 []
   split
   ·rename_i q hq
    obtain ⟨a,g⟩:=q
    have hg:=hle.1 a g hq
    simp only
    split
    ·simp; omega
    ·split
     ·simp; omega
     ·rename_i h1 h2
      simp only [List.length_cons] at *
      exact ⟨by omega,by omega,λ q=>absurd rfl q,by omega⟩
   ·rename_i e he
    have:=hle.2 _ he
    rw [this.1,this.2.1]
    simp; omega
  ·simp; omega
theorem sX:∀ n:Fin 16,qx (hexDigit n.1)=some n.1∧((hexDigit n.1)=48→n.1=0):=by decide
theorem tu {n:Nat}(h:n < 16):qx (hexDigit n)=some n:=(sX ⟨n,h⟩).1
theorem z1 (u:Nat)(h:u < 256)(t:Bytes):jh (dm u++125::t)=((u:Int),(((dm u).length+1:Nat):Int),0):=by
 have hv:validRune (u:Int)=true:=by simp only [validRune,decide_eq_true_eq]; omega
 have h125:qx 125=none:=by decide
 by_cases h1:u < 16
 ·have e:dm u=[hexDigit u]:=if_pos h1
  have hr:cX 6 (dm u++125::t) 0=(u,1):=by
   rw [e]
   show cX (5+1) (hexDigit u::125::t) 0=_
   rw [cX,tu h1]
   show ((cX (4+1) (125::t) (16*0+u)).1,(cX (4+1) (125::t) (16*0+u)).2+1)=_
   rw [cX,h125]; simp
  rw [sv hr,e,if_neg (by simp),if_neg]
  ·simp
  ·rintro (q | q | q | q)
   ·exact q rfl
   ·cases q
   ·omega
   ·rw [hv] at q; cases q
 ·have e:dm u=[hexDigit (u / 16),hexDigit (u % 16)]:=if_neg h1
  have hr:cX 6 (dm u++125::t) 0=(u,2):=by
   rw [e]
   show cX (5+1) (hexDigit (u / 16)::hexDigit (u % 16)::125::t) 0=_
   rw [cX,tu (by omega)]
   show ((cX (4+1) (hexDigit (u % 16)::125::t) (16*0+u / 16)).1,(cX (4+1) (hexDigit (u % 16)::125::t) (16*0+u / 16)).2+1)=_
   rw [cX,tu (by omega)]
   show ((cX (3+1) (125::t) (16*(16*0+u / 16)+u % 16)).1,(cX (3+1) (125::t) (16*(16*0+u / 16)+u % 16)).2+1+1)=_
   rw [cX,h125]
   refine Prod.ext ?_ rfl
   show 16*(16*0+u / 16)+u % 16=u
   omega
  rw [sv hr,e,if_neg (by simp),if_neg]
  ·simp
  ·rintro (q | q | q | q)
   ·exact q rfl
   ·cases q
   ·have:=(sX ⟨u / 16,by omega⟩).2 q.2
    simp only at this; omega
   ·rw [hv] at q; cases q
theorem q9 (b:UInt8)(h:b.toNat < 128):encodeRune (b.toNat:Int)=[b]:=by
 simp only [encodeRune,encodeRuneZ,if_pos (show (0:Int)≤(b.toNat:Int)∧(b.toNat:Int)≤127 by omega),List.map_cons,List.map_nil]
 simp
theorem AF (b:UInt8)(h:b.toNat < 128)(c:UInt8)(rest:Bytes)(he:fF b=92::c::rest)(t:Bytes):jM (c::rest++t)=((b.toNat:Int),((rest.length+1:Nat):Int),0):=by
 have hl:∀ x y:UInt8,([x,y]:Bytes)=92::c::rest→c=y∧rest=[]:=λ x y q=>by
  have:=(List.cons.inj q).2
  exact ⟨((List.cons.inj this).1).symm,((List.cons.inj this).2).symm⟩
 by_cases h10:b.toNat=10
 ·rw [yA h10] at he
  obtain ⟨rfl,rfl⟩:=hl _ _ he
  rw [h10]; rfl
 by_cases h13:b.toNat=13
 ·rw [yD h13] at he
  obtain ⟨rfl,rfl⟩:=hl _ _ he
  rw [h13]; rfl
 by_cases h9:b.toNat=9
 ·rw [yB h9] at he
  obtain ⟨rfl,rfl⟩:=hl _ _ he
  rw [h9]; rfl
 by_cases hq:b.toNat=34∨b.toNat=92
 ·rw [AR hq] at he
  obtain ⟨rfl,rfl⟩:=hl _ _ he
  rw [List.cons_append,oo,if_neg (by omega),if_neg (by omega),if_neg (by omega),if_pos hq]
  rfl
 by_cases hu:b.toNat < 32∨b.toNat=127
 ·rw [yH h10 h13 h9 hu] at he
  have he:(92:UInt8)::117::(123::(dm b.toNat++[125]))=92::c::rest:=he
  obtain ⟨hc,hr⟩:=List.cons.inj (List.cons.inj he).2
  subst hc
  subst hr
  have hh:=z1 b.toNat (by omega) t
  have e2:(123::(dm b.toNat++[125]):Bytes)++t=123::(dm b.toNat++125::t):=by simp
  rw [List.cons_append,e2,oo,if_neg (by decide),if_neg (by decide),if_neg (by decide),if_neg (by decide),if_pos (by decide)]
  show (if (123:UInt8).toNat=123 then _ else _)=_
  rw [if_pos (by decide),hh]
  refine Prod.ext rfl (Prod.ext ?_ rfl)
  simp only [List.length_cons,List.length_append,List.length_nil]
  omega
 ·rw [vX (by omega) (by omega) hu] at he
  cases he
theorem uM:∀ p:Bytes,(∀ y∈p,128≤y.toNat)→p.flatMap fF=p
 | [],_=>rfl
 | y::r,h=>by
  have hy:=h y List.mem_cons_self
  rw [List.flatMap_cons,uM r (λ z hz=>h z (List.mem_cons_of_mem _ hz)),vX (by omega) (by omega) (by omega)]
  rfl
theorem xq:∀ (n:Nat) (x:Bytes) (k i:Nat) (acc t:Bytes),x.length≤n→validD x=true→(x.flatMap fF++34::t).length < k →
  kI k (x.flatMap fF++34::t) i acc=.inl (((i+(x.flatMap fF).length:Nat):Int),acc++x):=by
 intro n
 induction n with
 | zero =>
  intro x k i acc t hx hv hk
  obtain rfl:x=[]:=by cases x <;> simp_all
  obtain ⟨k,rfl⟩:∃ k',k=k'+1:=⟨k - 1,by omega⟩
  show kI (k+1) (34::t) i acc=_
  rw [jf,if_pos (by decide)]
  simp
 | succ n ih =>
  intro x k i acc t hx hv hk
  obtain ⟨k,rfl⟩:∃ k',k=k'+1:=⟨k - 1,by omega⟩
  cases x with
  | nil =>
   show kI (k+1) (34::t) i acc=_
   rw [jf,if_pos (by decide)]
   simp
  | cons b r =>
   by_cases hb:b.toNat < 128
   ·have hvr:validD r=true:=by rw [← validD_cons b r hb]; exact hv
    rw [List.flatMap_cons] at hk ⊢
    have hlen:=qk b
    have hxr:r.length≤n:=by simpa using hx
    by_cases hp:b.toNat≠34∧b.toNat≠92∧¬ (b.toNat < 32∨b.toNat=127)
    ·rw [vX hp.1 hp.2.1 hp.2.2] at hk ⊢
     show kI (k+1) (b::(r.flatMap fF++34::t)) i acc=_
     rw [jf,if_neg hp.1,decodeL_ascii b _ hb,if_neg (by simp only; omega),if_neg]
     ·have:=ih r k (i+1) (acc++[b]) t hxr hvr (by simp only [List.length_append,List.length_cons,List.length_nil] at hk ⊢; omega)
      simp only [List.drop_succ_cons,List.drop_zero]
      rw [q9 b hb,this]
      refine congrArg Sum.inl (Prod.ext ?_ ?_)
      ·simp only [List.length_append,List.length_cons,List.length_nil]; omega
      ·simp
     ·unfold pC; simp only; omega
    ·obtain ⟨c,rest,he⟩:∃ c rest,fF b=92::c::rest:=by
      by_cases h10:b.toNat=10
      ·exact ⟨_,_,yA h10⟩
      by_cases h13:b.toNat=13
      ·exact ⟨_,_,yD h13⟩
      by_cases h9:b.toNat=9
      ·exact ⟨_,_,yB h9⟩
      by_cases hq:b.toNat=34∨b.toNat=92
      ·exact ⟨_,_,AR hq⟩
      ·exact ⟨_,_,yH h10 h13 h9 (by omega)⟩
     have hesc:=AF b hb c rest he (r.flatMap fF++34::t)
     rw [he] at hk ⊢
     have e:(92::c::rest++r.flatMap fF)++34::t=92::(c::rest++(r.flatMap fF++34::t)):=by simp
     rw [e,jf,if_neg (by decide),decodeL_ascii 92 _ (by decide),if_pos (by decide),hesc]
     simp only [if_true,Int.toNat_natCast]
     have hd:(c::rest++(r.flatMap fF++34::t)).drop (rest.length+1)=r.flatMap fF++34::t:=by
      have:rest.length+1=(c::rest).length:=by simp
      rw [this,List.drop_left]
     rw [hd,q9 b hb]
     have:=ih r k (i+(rest.length+1+1)) (acc++[b]) t hxr hvr (by simp only [List.length_append,List.length_cons,List.length_nil] at hk ⊢; omega)
     rw [this]
     refine congrArg Sum.inl (Prod.ext ?_ ?_)
     ·simp only [List.length_append,List.length_cons,List.length_nil]; omega
     ·simp
   ·have hne:b::r≠[]:=by simp
    obtain ⟨hnb,hvr⟩:=(tZ _ hne).1 hv
    have hdf:=kS _ hne
    have hgood:=hdf.2.2 hnb
    have hN:=C5 (b::r).length ((b::r).getD 0 0).toNat ((b::r).getD 1 0).toNat ((b::r).getD 2 0).toNat ((b::r).getD 3 0).toNat (by simp) (UInt8.toNat_lt _)
    rw [← decodeL_N] at hN
    generalize hD:decodeL (b::r)=D at hnb hvr hdf hgood hN
    obtain ⟨c,w⟩:=D
    simp only at hnb hvr hdf hgood hN
    have hc:128≤c:=by
     rcases Nat.lt_or_ge c 128 with q | q
     ·have:=(hN.2.2.2.1 q).2
      have hb0:((b::r).getD 0 0).toNat=b.toNat:=rfl
      omega
     ·exact q
    have hhigh:=hN.2.2.2.2.1 hc
    have hp:∀ y∈(b::r).take w,128≤y.toNat:=by
     intro y hy
     obtain ⟨j,hj,rfl⟩:=List.getElem_of_mem hy
     rw [List.length_take] at hj
     have hj2:j < (b::r).length:=by omega
     have hg:((b::r).getD j 0)=((b::r).take w)[j]'(by rw [List.length_take]; exact hj):=by
      rw [List.getElem_take,List.getD_eq_getElem?_getD,List.getElem?_eq_getElem hj2]; rfl
     rw [← hg]
     obtain rfl | rfl | rfl | rfl:j=0∨j=1∨j=2∨j=3:=by omega
     ·exact hhigh.1
     ·exact hhigh.2.1 (by omega)
     ·exact hhigh.2.2.1 (by omega)
     ·exact hhigh.2.2.2 (by omega)
    have hsplit:(b::r).flatMap fF=encodeRune (c:Int)++((b::r).drop w).flatMap fF:=by
     conv=>lhs; rw [← List.take_append_drop w (b::r)]
     rw [List.flatMap_append,uM _ hp,hgood.2]
    have hel:(encodeRune (c:Int)).length=w:=by
     rw [hgood.2,List.length_take]; omega
    obtain ⟨y,p',hp'⟩:∃ y p',encodeRune (c:Int)=y::p':=by
     cases hx:encodeRune (c:Int) with
     | nil=>rw [hx] at hel; simp at hel; omega
     | cons y p'=>exact ⟨y,p',rfl⟩
    have hy:128≤y.toNat:=hp y (by rw [← hgood.2,hp']; exact List.mem_cons_self)
    have hdec:=yh (c:Int) hgood.1 (((b::r).drop w).flatMap fF++34::t)
    rw [hsplit,List.append_assoc] at hk ⊢
    have hlk:(encodeRune (c:Int)++(((b::r).drop w).flatMap fF++34::t)).drop w=((b::r).drop w).flatMap fF++34::t:=by
     rw [← hel,List.drop_left]
    have:=ih ((b::r).drop w) k (i+w) (acc++encodeRune (c:Int)) t (by rw [List.length_drop]; simp only [List.length_cons] at hx ⊢; omega) hvr (by rw [List.length_append] at hk; omega)
    rw [hp',List.cons_append] at hdec hlk ⊢
    rw [jf,if_neg (by omega),hdec]
    simp only [Int.toNat_natCast]
    rw [if_neg (by omega),if_neg]
    ·rw [← hp',hel,hlk,this]
     refine congrArg Sum.inl (Prod.ext ?_ ?_)
     ·rw [hp'] at hel
      simp only [List.length_append,hel,hp']; omega
     ·rw [List.append_assoc,hgood.2,List.take_append_drop]
    ·rw [← hp',hel]
     unfold pC; simp only; omega
theorem tF (x t:Bytes)(hv:validD x=true)(hl:x.length≤4096):jW (dA x++t)=(x,((dA x).length:Int),0):=by
 have e:dA x++t=34::(x.flatMap fF++34::t):=by simp [dA]
 rw [e,mE,if_pos (by decide),xq x.length x _ 1 [] t (Nat.le_refl _) hv (by omega)]
 simp only
 rw [if_neg (by simp only [List.length_append,List.length_cons]; omega),if_neg (by simp only [List.nil_append]; omega)]
 refine Prod.ext (by simp) (Prod.ext ?_ rfl)
 simp only [dA,List.length_cons,List.length_append,List.length_nil]; omega
theorem BW:∀ (k u:Nat),u < 10 ^ (k+1)→(decDigits u).length≤k+1:=by
 intro k
 induction k with
 | zero=>intro u h; rw [decDigits,dif_pos (by simpa using h)]; simp
 | succ k ih =>
  intro u h
  rw [decDigits]
  split
  ·simp
  ·have:=ih (u / 10) (by rw [Nat.pow_succ] at h; omega)
   rw [List.length_append]; simp; omega
theorem qg {v:Int}(h0:0≤v)(h1:v≤iD):(itoa v).length≤16:=by
 obtain ⟨u,rfl⟩:∃ u:Nat,v=u:=⟨v.toNat,by omega⟩
 unfold itoa
 rw [if_neg (by omega),Int.toNat_natCast]
 exact BW 15 u (by unfold iD at h1; omega)
end Go.Ab.R06
end
section
namespace Go.Ab.R06
open Go.Proofs Go.Ab Go.Ab.RB
attribute [local irreducible] awp d8 aP aw bH AV.sub M dD
def d5 (s_0:Bytes):Nat→Int→Option (Unit⊕Bool)
 | 0,_=>none
 | m+1,i9 =>
 if i9 < (s_0.length:Int) then
  (
    ck ((0:Int)≤i9∧i9 < (s_0.length:Int)) <|
    if byt s_0 i9 < 48 then
     some true
    else
     ck ((0:Int)≤i9∧i9 < (s_0.length:Int)) <|
     some (decide (57 < byt s_0 i9))
   : Option Bool).bind λ t14 =>
  if t14=true then
   some (.inr false)
  else
   ck (inR (i9+1)) <|
   d5 s_0 m (i9+1)
 else
  some (.inl ())
def jC (n:Nat)(s_0:Bytes):Option Bool :=
 jn (d5 s_0 n 0) λ q22 =>
 (
   if s_0=([48]:Bytes) then
    some true
   else
    if s_0=([]:Bytes) then
     some false
    else
     ck ((0:Int)≤0∧0 < (s_0.length:Int)) <|
     some (!decide (byt s_0 0=48))
  : Option Bool).bind λ t21 =>
 some t21
theorem rP (n:Nat)(s_0:Bytes)(r:Bool)(h0:jC n s_0=some r):aw Tryz.prog 147 [eS s_0] (·=.p (eB r)):=by
 unfold jC at h0
 refine a6 good Tryz.func147 rfl rfl rfl λ w0=>mP (λ v:Bool=>.p (eB v)) ?_
 refine nx 10 rfl ?_
 obtain ⟨o25,h1,hL0,hR0⟩:=fQ h0
 refine kEx 0 (λ v26:Unit=>o25=.inl v26) (λ v26=>⟨[(0,.p (eS s_0))],[]⟩) (λ v26 hv=>?_) ?_
 ·have h0:=hL0 _ hv
  refine nx 2 rfl (bd h0 λ o27 h1 h0=>?_)
  refine kN o27 (λ v28=>⟨[(2,.p (eB v28))],[]⟩) ?_ ?_
  ·exact nx 2 rfl (mQ (oi h0) rfl (sr))
  refine nx 2 rfl (oS rfl rfl (nx 1 rfl (fD [21,22] h1 rfl (λ c18 h1=>?_) λ c18 h1=>?_)))
  ·exact nx 10 rfl (eX _ (oi h1).symm (gE rfl rfl))
  refine nx 1 rfl (oS rfl rfl (nx 1 rfl (fN [24,25] h1 rfl (λ c19 h1=>?_) λ c19 h1=>?_)))
  ·exact nx 7 rfl (eX _ (oi h1).symm (gE rfl rfl))
  exact nx 1 rfl (oI h1 rfl λ hk20 h1=>nx 5 rfl (eX _ (oi h1).symm (gE rfl rfl)))
 refine lG (λ (q29:Int)=>⟨[(0,.p (eS s_0)),(3,.p (eI q29))],[]⟩) (λ m (q29:Int)=>d5 s_0 m q29) (λ _=>rfl) 0 h1 (gE rfl rfl) ?_
 rintro m i9 h1
 replace h1:d5 s_0 (m+1) i9=some o25:=h1
 rw [d5] at h1
 refine nx 5 rfl (oLs rfl (nx 2 rfl (fD [7] h1 rfl (λ c10 h1=>?_) λ c10 h1=>?_)))
 ·refine nx 5 rfl (bd h1 λ o30 h2 h1=>?_)
  refine kN o30 (λ v31=>⟨[(0,.p (eS s_0)),(3,.p (eI i9)),(19,.p (eB v31))],[]⟩) ?_ ?_
  ·refine nx 1 rfl (fB [19] h1 rfl (λ c15 h1=>?_) λ c15 h1=>?_)
   ·exact nx 6 rfl (mQ (hR0 _ (oi h1).symm) rfl (sr))
   exact nx 4 rfl (oA h1 rfl rfl λ hk16 h1=>nx 2 rfl (eX (i9+1) h1 (gE rfl rfl)))
  refine nx 3 rfl (oI h2 rfl λ hk11 h2=>nx 2 rfl (fD [13,14] h2 rfl (λ c12 h2=>?_) λ c12 h2=>?_))
  ·exact nx 6 rfl (eX _ (oi h2).symm (gE rfl rfl))
  exact nx 2 rfl (oI h2 rfl λ hk13 h2=>nx 3 rfl (eX _ (oi h2).symm (gE rfl rfl)))
 exact nx 2 rfl (eXi _ (oi h1).symm (gE rfl rfl))
def lS (n_0:Int):Option Bool :=
 (
   if (-9007199254740992)≤n_0 then
    some (decide (n_0≤9007199254740992))
   else
    some false
  : Option Bool).bind λ t2 =>
 some t2
theorem tB (n_0:Int)(r:Bool)(h0:lS n_0=some r):aw Tryz.prog 148 [eI n_0] (·=.p (eB r)):=by
 unfold lS at h0
 refine a6 good Tryz.func148 rfl rfl rfl λ w0=>mP (λ v:Bool=>.p (eB v)) ?_
 refine nx 5 rfl (bd h0 λ o4 h1 h0=>?_)
 refine kN o4 (λ v5=>⟨[(2,.p (eB v5))],[]⟩) ?_ ?_
 ·exact nx 2 rfl (mQ (oi h0) rfl (sr))
 refine nx 4 rfl (fD [4,5] h1 rfl (λ c1 h1=>?_) λ c1 h1=>?_)
 ·exact nx 5 rfl (eX _ (oi h1).symm (gE rfl rfl))
 exact nx 5 rfl (eX _ (oi h1).symm (gE rfl rfl))
def eG (t6:Bytes):Nat→Int→Int→Option Int
 | 0,_,_=>none
 | m+1,n22,i23 =>
 if i23 < (t6.length:Int) then
  ck (inR (10*n22)) <|
  ck ((0:Int)≤i23∧i23 < (t6.length:Int)) <|
  ck (inR (IntKind.wrap .u8 ((byt t6 i23) - 48))) <|
  ck (inR ((10*n22)+(IntKind.wrap .u8 ((byt t6 i23) - 48)))) <|
  ck (inR (i23+1)) <|
  eG t6 m ((10*n22)+(IntKind.wrap .u8 ((byt t6 i23) - 48))) (i23+1)
 else
  some n22
def ko (n:Nat)(s_0:Bytes):Option (Int×Int) :=
 (
   if 0 < (s_0.length:Int) then
    ck ((0:Int)≤0∧0 < (s_0.length:Int)) <|
    some (decide (byt s_0 0=45))
   else
    some false
  : Option Bool).bind λ minus3 =>
 (
   if minus3=true then
    ck ((0:Int)≤1∧1≤(s_0.length:Int)∧(s_0.length:Int)≤(s_0.length:Int)) <|
    some (sub s_0 1 (s_0.length:Int))
   else
    some s_0
  : Option Bytes).bind λ t6 =>
 (
   (jC n t6).bind λ r7 =>
   if (!r7)=true then
    some true
   else
    if minus3=true then
     some (decide (t6=([48]:Bytes)))
    else
     some false
  : Option Bool).bind λ t11 =>
 if t11=true then
  some (0,2)
 else
  if 16 < (t6.length:Int) then
   some (0,5)
  else
   (eG t6 n 0 0).bind λ n32 =>
   (
     if minus3=true then
      ck (inR (0 - n32)) <|
      some (0 - n32)
     else
      some n32
    : Option Int).bind λ n35 =>
   (lS n35).bind λ r36 =>
   if (!r36)=true then
    some (0,5)
   else
    some (n35,0)
theorem t1 (n:Nat)(s_0:Bytes)(r:Int×Int)(h0:ko n s_0=some r):aw Tryz.prog 131 [eS s_0] (·=.tuple [.p (eI r.1),.p (eI r.2)]):=by
 unfold ko at h0
 refine a6 good Tryz.func131 rfl rfl rfl λ w0=>mP (λ v:Int×Int=>.tuple [.p (eI v.1),.p (eI v.2)]) ?_
 refine nx 6 rfl (bd h0 λ o44 h1 h0=>?_)
 refine kN o44 (λ v45=>⟨[(0,.p (eS s_0)),(4,.p (eB v45))],[]⟩) ?_ ?_
 ·refine nx 7 rfl (bd h0 λ o46 h1 h0=>?_)
  refine kN o46 (λ v47=>⟨[(4,.p (eB o44)),(5,.p (eS v47))],[]⟩) ?_ ?_
  ·refine nx 3 rfl (bd h0 λ o48 h1 h0=>?_)
   refine kN o48 (λ v49=>⟨[(4,.p (eB o44)),(5,.p (eS o46)),(29,.p (eB v49))],[]⟩) ?_ ?_
   ·refine nx 1 rfl (fB [29] h0 rfl (λ c12 h0=>?_) λ c12 h0=>?_)
    ·exact nx 7 rfl (mQ (oi h0) rfl (ar ⟨sr,sr,trivial⟩))
    refine nx 6 rfl (oLs rfl (nx 2 rfl (fD [32] h0 rfl (λ c13 h0=>?_) λ c13 h0=>?_)))
    ·exact nx 7 rfl (mQ (oi h0) rfl (ar ⟨sr,sr,trivial⟩))
    refine nx 12 rfl (bd h0 λ o50 h1 h0=>?_)
    refine kE 0 o50 (λ v51=>⟨[(4,.p (eB o44)),(6,.p (eI v51))],[]⟩) ?_ ?_
    ·refine nx 2 rfl (bd h0 λ o52 h1 h0=>?_)
     refine kN o52 (λ v53=>⟨[(6,.p (eI v53))],[]⟩) ?_ ?_
     ·refine nx 5 rfl (bd h0 λ r36 e37 h0=>oK (tB o52 _ e37) rfl ⟨sr,trivial⟩ Tryz.call148 rfl (nx 2 rfl ?_))
      refine fB [52] h0 rfl (λ c38 h0=>?_) λ c38 h0=>?_
      ·exact nx 7 rfl (mQ (oi h0) rfl (ar ⟨sr,sr,trivial⟩))
      exact nx 9 rfl (mQ (oi h0) rfl (ar ⟨sr,sr,trivial⟩))
     refine nx 4 rfl (fB [4,47] h1 rfl (λ c33 h1=>?_) λ c33 h1=>?_)
     ·exact nx 3 rfl (cc' h1 λ hk34 h1=>mO rfl (xo rfl rfl rfl rfl hk34 (nx 2 rfl (eX _ (oi h1).symm (gE rfl rfl)))))
     exact nx 2 rfl (eX _ (oi h1).symm (gE rfl rfl))
    refine lG (λ (q54:Int×Int)=>⟨[(4,.p (eB o44)),(5,.p (eS o46)),(6,.p (eI q54.1)),(7,.p (eI q54.2))],[]⟩) (λ m (q54:Int×Int)=>eG o46 m q54.1 q54.2) (λ _=>rfl) (0,0) h1 (gE rfl rfl) ?_
    rintro m ⟨n22,i23⟩ h1
    replace h1:eG o46 (m+1) n22 i23=some o50:=h1
    rw [eG] at h1
    refine nx 5 rfl (oLs rfl (nx 2 rfl (fD [36] h1 rfl (λ c24 h1=>?_) λ c24 h1=>?_)))
    ·exact nx 6 rfl (oA h1 rfl rfl λ hk25 h1=>nx 2 rfl (oI h1 rfl λ hk26 h1=>nx 1 rfl (cc' h1 λ hk27 h1=>mO rfl (dF rfl rfl rfl rfl rfl rfl rfl rfl (gt hk27) (oA h1 rfl rfl λ hk28 h1=>nx 4 rfl (oA h1 rfl rfl λ hk29 h1=>nx 2 rfl (eX ((10*n22)+(IntKind.wrap .u8 ((byt o46 i23) - 48)),i23+1) h1 (gE rfl rfl))))))))
    exact nx 2 rfl (eXi _ (oi h1).symm (gE rfl rfl))
   refine nx 2 rfl (bd h1 λ r7 e8 h1=>oK (rP _ o46 _ e8) rfl ⟨sr,trivial⟩ Tryz.call147 rfl (nx 2 rfl ?_))
   refine fB [22,23] h1 rfl (λ c9 h1=>?_) λ c9 h1=>?_
   ·exact nx 7 rfl (eX _ (oi h1).symm (gE rfl rfl))
   refine nx 2 rfl (fB [4,24,25] h1 rfl (λ c10 h1=>?_) λ c10 h1=>?_)
   ·exact nx 1 rfl (oS rfl rfl (nx 3 rfl (eX _ (oi h1).symm (aW (bo ⟨⟨_,rfl,cu c10.symm⟩,er rfl,er rfl,trivial⟩ trivial)))))
   exact nx 5 rfl (eX _ (oi h1).symm (aW (bo ⟨⟨_,rfl,cu c10.symm⟩,er rfl,er rfl,trivial⟩ trivial)))
  refine nx 4 rfl (fB [4,17] h1 rfl (λ c4 h1=>?_) λ c4 h1=>?_)
  ·exact nx 3 rfl (oP h1 rfl rfl rfl λ hk5 h1=>nx 2 rfl (eX _ (oi h1).symm (aW (bo ⟨⟨_,rfl,cu c4.symm⟩,er rfl,trivial⟩ trivial))))
  exact nx 2 rfl (eX _ (oi h1).symm (aW (bo ⟨⟨_,rfl,cu c4.symm⟩,er rfl,trivial⟩ trivial)))
 refine nx 2 rfl (oLs rfl (nx 2 rfl (fD [10,11] h1 rfl (λ c1 h1=>?_) λ c1 h1=>?_)))
 ·exact nx 1 rfl (oI h1 rfl λ hk2 h1=>nx 4 rfl (eX _ (oi h1).symm (gE rfl rfl)))
 exact nx 6 rfl (eX _ (oi h1).symm (gE rfl rfl))
def dC:Nat→Int→Option Bytes
 | 0,_=>none
 | n+1,n_0 =>
 (
   if 0≤n_0 then
    some (decide (n_0≤9))
   else
    some false
  : Option Bool).bind λ t2 =>
 if t2=true then
  ck (inR (48+n_0)) <|
  ck ((0:Int)≤IntKind.wrap .u8 (48+n_0)∧IntKind.wrap .u8 (48+n_0) < 256) <|
  some [u8 (IntKind.wrap .u8 (48+n_0))]
 else
  (
    if n_0 < 0 then
     some (decide ((-10) < n_0))
    else
     some false
   : Option Bool).bind λ t7 =>
  if t7=true then
   ck (inR (0 - n_0)) <|
   ((dC n) (0 - n_0)).bind λ r10 =>
   ck (([45]:Bytes).length+r10.length≤9223372036854775807) <|
   some (([45]:Bytes)++r10)
  else
   if n_0 < 0 then
    ck ((10:Int)≠0) <|
    ((dC n) (IntKind.wrap .i64 (n_0.tdiv 10))).bind λ r15 =>
    ck ((10:Int)≠0) <|
    ck (inR (0 - (n_0.tmod 10))) <|
    ((dC n) (0 - (n_0.tmod 10))).bind λ r19 =>
    ck (r15.length+r19.length≤9223372036854775807) <|
    some (r15++r19)
   else
    ck ((10:Int)≠0) <|
    ((dC n) (IntKind.wrap .i64 (n_0.tdiv 10))).bind λ r23 =>
    ck ((10:Int)≠0) <|
    ((dC n) (n_0.tmod 10)).bind λ r26 =>
    ck (r23.length+r26.length≤9223372036854775807) <|
    some (r23++r26)
theorem sd (n:Nat):∀ (n_0:Int) (r:Bytes),dC n n_0=some r→aw Tryz.prog 109 [eI n_0] (·=.p (eS r)):=by
 induction n with
 | zero=>intro n_0 r h0; cases h0
 | succ n ih =>
 have ih_ref01_Format_ok:=ih
 intro n_0 r h0
 rw [dC] at h0
 refine a6 good Tryz.func109 rfl rfl rfl λ w0=>mP (λ v:Bytes=>.p (eS v)) ?_
 refine nx 6 rfl (bd h0 λ o31 h1 h0=>?_)
 refine kN o31 (λ v32=>⟨[(0,.p (eI n_0)),(8,.p (eB v32))],[]⟩) ?_ ?_
 ·refine nx 1 rfl (fB [8] h0 rfl (λ c3 h0=>?_) λ c3 h0=>?_)
  ·exact nx 4 rfl (oA h0 rfl rfl λ hk4 h0=>nx 1 rfl (cc' h0 λ hk5 h0=>mO rfl (bn eU [u8 (IntKind.wrap .u8 (48+n_0))] rfl rfl rfl rfl rfl rfl rfl rfl rfl rfl rfl rfl rfl (congr (congrArg List.cons (g8 hk5)) rfl) (mO rfl (kQ [u8 (IntKind.wrap .u8 (48+n_0))] rfl rfl rfl rfl rfl rfl rfl rfl rfl rfl rfl (nx 3 rfl (mQ (oi h0) rfl (sr))))))))
  refine nx 4 rfl (bd h0 λ o33 h1 h0=>?_)
  refine kN o33 (λ v34=>⟨[(0,.p (eI n_0)),(19,.p (eB v34))],[]⟩) ?_ ?_
  ·refine nx 1 rfl (fB [19] h0 rfl (λ c8 h0=>?_) λ c8 h0=>?_)
   ·exact nx 4 rfl (cc' h0 λ hk9 h0=>mO rfl (xo rfl rfl rfl rfl hk9 (bd h0 λ r10 e11 h0=>oK (ih_ref01_Format_ok (0 - n_0) _ e11) rfl ⟨sr,trivial⟩ Tryz.call109 rfl (oC h0 rfl λ hk12 h0=>nx 3 rfl (mQ (oi h0) rfl (sr))))))
   refine nx 8 rfl (fD [25] h0 rfl (λ c13 h0=>?_) λ c13 h0=>?_)
   ·exact nx 4 rfl (cc' h0 λ hk14 h0=>mO rfl (td rfl rfl rfl rfl rfl rfl hk14 (bd h0 λ r15 e16 h0=>oK (ih_ref01_Format_ok (IntKind.wrap .i64 (n_0.tdiv 10)) _ e16) rfl ⟨sr,trivial⟩ Tryz.call109 rfl (nx 1 rfl (cc' h0 λ hk17 h0=>mO rfl (td rfl rfl rfl rfl rfl rfl hk17 (cc' h0 λ hk18 h0=>mO rfl (xo rfl rfl rfl rfl hk18 (bd h0 λ r19 e20 h0=>oK (ih_ref01_Format_ok (0 - (n_0.tmod 10)) _ e20) rfl ⟨sr,trivial⟩ Tryz.call109 rfl (oC h0 rfl λ hk21 h0=>nx 3 rfl (mQ (oi h0) rfl (sr))))))))))))
   exact nx 5 rfl (cc' h0 λ hk22 h0=>mO rfl (td rfl rfl rfl rfl rfl rfl hk22 (bd h0 λ r23 e24 h0=>oK (ih_ref01_Format_ok (IntKind.wrap .i64 (n_0.tdiv 10)) _ e24) rfl ⟨sr,trivial⟩ Tryz.call109 rfl (nx 1 rfl (cc' h0 λ hk25 h0=>mO rfl (td rfl rfl rfl rfl rfl rfl hk25 (bd h0 λ r26 e27 h0=>oK (ih_ref01_Format_ok (n_0.tmod 10) _ e27) rfl ⟨sr,trivial⟩ Tryz.call109 rfl (oC h0 rfl λ hk28 h0=>nx 3 rfl (mQ (oi h0) rfl (sr))))))))))
  refine nx 4 rfl (fD [15,16] h1 rfl (λ c6 h1=>?_) λ c6 h1=>?_)
  ·exact nx 4 rfl (eX _ (oi h1).symm (gE rfl rfl))
  exact nx 4 rfl (eX _ (oi h1).symm (gE rfl rfl))
 refine nx 4 rfl (fD [4,5] h1 rfl (λ c1 h1=>?_) λ c1 h1=>?_)
 ·exact nx 4 rfl (eX _ (oi h1).symm (gE rfl rfl))
 exact nx 4 rfl (eX _ (oi h1).symm (gE rfl rfl))
def dX (s_0:Bytes)(i_1:Int)(lo_2:Int)(hi_3:Int):Option Bool :=
 (
   if i_1 < (s_0.length:Int) then
    ck ((0:Int)≤i_1∧i_1 < (s_0.length:Int)) <|
    if lo_2≤byt s_0 i_1 then
     ck ((0:Int)≤i_1∧i_1 < (s_0.length:Int)) <|
     some (decide (byt s_0 i_1≤hi_3))
    else
     some false
   else
    some false
  : Option Bool).bind λ t5 =>
 some t5
theorem gG (s_0:Bytes)(i_1:Int)(lo_2:Int)(hi_3:Int)(r:Bool)(h0:dX s_0 i_1 lo_2 hi_3=some r):aw Tryz.prog 163 [eS s_0,eI i_1,eK .u8 lo_2,eK .u8 hi_3] (·=.p (eB r)):=by
 unfold dX at h0
 refine a6 good Tryz.func163 rfl rfl rfl λ w0=>mP (λ v:Bool=>.p (eB v)) ?_
 refine nx 5 rfl (bd h0 λ o7 h1 h0=>?_)
 refine kN o7 (λ v8=>⟨[(8,.p (eB v8))],[]⟩) ?_ ?_
 ·exact nx 2 rfl (mQ (oi h0) rfl (sr))
 refine nx 3 rfl (oLs rfl (nx 2 rfl (fD [12,13] h1 rfl (λ c1 h1=>?_) λ c1 h1=>?_)))
 ·refine nx 2 rfl (oI h1 rfl λ hk2 h1=>nx 4 rfl (fD [18,19,20] h1 rfl (λ c3 h1=>?_) λ c3 h1=>?_))
  ·exact nx 2 rfl (oI h1 rfl λ hk4 h1=>nx 5 rfl (eX _ (oi h1).symm (gE rfl rfl)))
  exact nx 8 rfl (eX _ (oi h1).symm (gE rfl rfl))
 exact nx 15 rfl (eX _ (oi h1).symm (gE rfl rfl))
def ia (s_0:Bytes)(i_1:Int):Option (Int×Int) :=
 (
   if i_1 < 0 then
    some true
   else
    some (decide ((s_0.length:Int)≤i_1))
  : Option Bool).bind λ t2 =>
 if t2=true then
  some (0,0)
 else
  ck ((0:Int)≤i_1∧i_1 < (s_0.length:Int)) <|
  if byt s_0 i_1 < 128 then
   ck (inR (byt s_0 i_1)) <|
   some (byt s_0 i_1,1)
  else
   (
     if 194≤byt s_0 i_1 then
      if byt s_0 i_1≤223 then
       ck (inR (i_1+1)) <|
       (dX s_0 (i_1+1) 128 191).bind λ r10 =>
       some r10
      else
       some false
     else
      some false
    : Option Bool).bind λ t12 =>
   if t12=true then
    ck (inR (bw .u8 (byt s_0 i_1) 31)) <|
    ck ((0:Int)≤6) <|
    ck (inR (i_1+1)) <|
    ck ((0:Int)≤i_1+1∧i_1+1 < (s_0.length:Int)) <|
    ck (inR (bw .u8 (byt s_0 (i_1+1)) 63)) <|
    some (iOr .i64 (ji .i64 (bw .u8 (byt s_0 i_1) 31) 6) (bw .u8 (byt s_0 (i_1+1)) 63),2)
   else
    (
      if byt s_0 i_1=224 then
       some 160
      else
       some 128
     : Option Int).bind λ lo20 =>
    (
      if byt s_0 i_1=237 then
       some 159
      else
       some 191
     : Option Int).bind λ hi22 =>
    (
      if 224≤byt s_0 i_1 then
       if byt s_0 i_1≤239 then
        ck (inR (i_1+1)) <|
        (dX s_0 (i_1+1) lo20 hi22).bind λ r26 =>
        if r26=true then
         ck (inR (i_1+2)) <|
         (dX s_0 (i_1+2) 128 191).bind λ r30 =>
         some r30
        else
         some false
       else
        some false
      else
       some false
     : Option Bool).bind λ t32 =>
    if t32=true then
     ck (inR (bw .u8 (byt s_0 i_1) 15)) <|
     ck ((0:Int)≤12) <|
     ck (inR (i_1+1)) <|
     ck ((0:Int)≤i_1+1∧i_1+1 < (s_0.length:Int)) <|
     ck (inR (bw .u8 (byt s_0 (i_1+1)) 63)) <|
     ck ((0:Int)≤6) <|
     ck (inR (i_1+2)) <|
     ck ((0:Int)≤i_1+2∧i_1+2 < (s_0.length:Int)) <|
     ck (inR (bw .u8 (byt s_0 (i_1+2)) 63)) <|
     some (iOr .i64 (iOr .i64 (ji .i64 (bw .u8 (byt s_0 i_1) 15) 12) (ji .i64 (bw .u8 (byt s_0 (i_1+1)) 63) 6)) (bw .u8 (byt s_0 (i_1+2)) 63),3)
    else
     (
       if byt s_0 i_1=240 then
        some 144
       else
        some 128
      : Option Int).bind λ lo44 =>
     (
       if byt s_0 i_1=244 then
        some 143
       else
        some 191
      : Option Int).bind λ hi46 =>
     (
       if 240≤byt s_0 i_1 then
        if byt s_0 i_1≤244 then
         ck (inR (i_1+1)) <|
         (dX s_0 (i_1+1) lo44 hi46).bind λ r50 =>
         if r50=true then
          ck (inR (i_1+2)) <|
          (dX s_0 (i_1+2) 128 191).bind λ r54 =>
          if r54=true then
           ck (inR (i_1+3)) <|
           (dX s_0 (i_1+3) 128 191).bind λ r58 =>
           some r58
          else
           some false
         else
          some false
        else
         some false
       else
        some false
      : Option Bool).bind λ t60 =>
     if t60=true then
      ck (inR (bw .u8 (byt s_0 i_1) 7)) <|
      ck ((0:Int)≤18) <|
      ck (inR (i_1+1)) <|
      ck ((0:Int)≤i_1+1∧i_1+1 < (s_0.length:Int)) <|
      ck (inR (bw .u8 (byt s_0 (i_1+1)) 63)) <|
      ck ((0:Int)≤12) <|
      ck (inR (i_1+2)) <|
      ck ((0:Int)≤i_1+2∧i_1+2 < (s_0.length:Int)) <|
      ck (inR (bw .u8 (byt s_0 (i_1+2)) 63)) <|
      ck ((0:Int)≤6) <|
      ck (inR (i_1+3)) <|
      ck ((0:Int)≤i_1+3∧i_1+3 < (s_0.length:Int)) <|
      ck (inR (bw .u8 (byt s_0 (i_1+3)) 63)) <|
      some (iOr .i64 (iOr .i64 (iOr .i64 (ji .i64 (bw .u8 (byt s_0 i_1) 7) 18) (ji .i64 (bw .u8 (byt s_0 (i_1+1)) 63) 12)) (ji .i64 (bw .u8 (byt s_0 (i_1+2)) 63) 6)) (bw .u8 (byt s_0 (i_1+3)) 63),4)
     else
      some (0,0)
theorem nu (s_0:Bytes)(i_1:Int)(r:Int×Int)(h0:ia s_0 i_1=some r):aw Tryz.prog 149 [eS s_0,eI i_1] (·=.tuple [.p (eI r.1),.p (eI r.2)]):=by
 unfold ia at h0
 refine a6 good Tryz.func149 rfl rfl rfl λ w0=>mP (λ v:Int×Int=>.tuple [.p (eI v.1),.p (eI v.2)]) ?_
 refine nx 7 rfl (bd h0 λ o83 h1 h0=>?_)
 refine kN o83 (λ v84=>⟨[(0,.p (eS s_0)),(1,.p (eI i_1)),(16,.p (eB v84))],[]⟩) ?_ ?_
 ·refine nx 1 rfl (fB [16] h0 rfl (λ c3 h0=>?_) λ c3 h0=>?_)
  ·exact nx 7 rfl (mQ (oi h0) rfl (ar ⟨sr,sr,trivial⟩))
  refine nx 6 rfl (oI h0 rfl λ hk4 h0=>nx 8 rfl (fD [21] h0 rfl (λ c5 h0=>?_) λ c5 h0=>?_))
  ·exact nx 4 rfl (cc' h0 λ hk6 h0=>mO rfl (dF rfl rfl rfl rfl rfl rfl rfl rfl (gt hk6) (nx 4 rfl (mQ (oi h0) rfl (ar ⟨sr,sr,trivial⟩)))))
  refine nx 4 rfl (bd h0 λ o85 h1 h0=>?_)
  refine kN o85 (λ v86=>⟨[(0,.p (eS s_0)),(1,.p (eI i_1)),(6,.p (eK .u8 (byt s_0 i_1))),(35,.p (eB v86))],[]⟩) ?_ ?_
  ·refine nx 1 rfl (fB [35] h0 rfl (λ c13 h0=>?_) λ c13 h0=>?_)
   ·exact nx 5 rfl (cc' h0 λ hk14 h0=>mO rfl (dF rfl rfl rfl rfl rfl rfl rfl rfl (gt hk14) (cc' h0 λ hk15 h0=>mO rfl (jJ rfl rfl rfl rfl rfl rfl hk15 (nx 2 rfl (oA h0 rfl rfl λ hk16 h0=>oI h0 rfl λ hk17 h0=>nx 1 rfl (cc' h0 λ hk18 h0=>mO rfl (dF rfl rfl rfl rfl rfl rfl rfl rfl (gt hk18) (nx 5 rfl (mQ (oi h0) rfl (ar ⟨sr,sr,trivial⟩)))))))))))
   refine nx 8 rfl (bd h0 λ o87 h1 h0=>?_)
   refine kN o87 (λ v88=>⟨[(0,.p (eS s_0)),(1,.p (eI i_1)),(6,.p (eK .u8 (byt s_0 i_1))),(7,.p (eK .u8 v88)),(8,.p (eK .u8 191))],[]⟩) ?_ ?_
   ·refine nx 2 rfl (bd h0 λ o89 h1 h0=>?_)
    refine kN o89 (λ v90=>⟨[(0,.p (eS s_0)),(1,.p (eI i_1)),(6,.p (eK .u8 (byt s_0 i_1))),(7,.p (eK .u8 o87)),(8,.p (eK .u8 v90))],[]⟩) ?_ ?_
    ·refine nx 3 rfl (bd h0 λ o91 h1 h0=>?_)
     refine kN o91 (λ v92=>⟨[(0,.p (eS s_0)),(1,.p (eI i_1)),(6,.p (eK .u8 (byt s_0 i_1))),(70,.p (eB v92))],[]⟩) ?_ ?_
     ·refine nx 1 rfl (fB [70] h0 rfl (λ c33 h0=>?_) λ c33 h0=>?_)
      ·refine nx 2 rfl (cc' h0 λ hk34 h0=>cc' h0 λ hk35 h0=>cc' h0 λ hk36 h0=>cc' h0 λ hk37 h0=>cc' h0 λ hk38 h0=>cc' h0 λ hk39 h0=>cc' h0 λ hk40 h0=>cc' h0 λ hk41 h0=>cc' h0 λ hk42 h0=>mD [(0,.p (eS s_0)),(1,.p (eI i_1)),(6,.p (eK .u8 (byt s_0 i_1)))] rfl ⟨rfl,rfl,rfl,trivial⟩ rfl (dR 2 rfl (dq (.p (eI (bw .u8 (byt s_0 i_1) 15))) [72] rfl (λ _ e _ q=>ay rfl (dF rfl rfl rfl rfl rfl rfl rfl (e _ _ rfl) (gt hk34) q)) rfl (dq (.p (eI (ji .i64 (bw .u8 (byt s_0 i_1) 15) 12))) [73] rfl (λ _ e _ q=>ay rfl (jJ rfl rfl rfl (e _ _ rfl) rfl rfl hk35 q)) rfl (dR 2 rfl (dq (.p (eI (i_1+1))) [76] rfl (λ _ e _ q=>ay rfl (d4 rfl rfl rfl (e _ _ rfl) rfl rfl hk36 q)) rfl (dq (.p (eK .u8 (byt s_0 (i_1+1)))) [75,77] rfl (λ _ e _ q=>ay rfl (ib rfl rfl rfl rfl rfl (e _ _ rfl) (e _ _ rfl) hk37 q)) rfl (dR 1 rfl (dq (.p (eI (bw .u8 (byt s_0 (i_1+1)) 63))) [79] rfl (λ _ e _ q=>ay rfl (dF rfl rfl rfl rfl rfl rfl rfl (e _ _ rfl) (gt hk38) q)) rfl (dq (.p (eI (ji .i64 (bw .u8 (byt s_0 (i_1+1)) 63) 6))) [80] rfl (λ _ e _ q=>ay rfl (jJ rfl rfl rfl (e _ _ rfl) rfl rfl hk39 q)) rfl (dR 3 rfl (dq (.p (eI (i_1+2))) [84] rfl (λ _ e _ q=>ay rfl (d4 rfl rfl rfl (e _ _ rfl) rfl rfl hk40 q)) rfl ?_))))))))))))
       refine dq (.p (eK .u8 (byt s_0 (i_1+2)))) [83,85] rfl (λ _ e _ q=>ay rfl (ib rfl rfl rfl rfl rfl (e _ _ rfl) (e _ _ rfl) hk41 q)) rfl (dR 1 rfl (dq (.p (eI (bw .u8 (byt s_0 (i_1+2)) 63))) [87] rfl (λ _ e _ q=>ay rfl (dF rfl rfl rfl rfl rfl rfl rfl (e _ _ rfl) (gt hk42) q)) rfl (dR 3 rfl ?_)))
       refine dE rfl (nx 2 rfl ?_)
       exact mQ (oi h0) rfl (ar ⟨sr,sr,trivial⟩)
      refine nx 8 rfl (bd h0 λ o93 h1 h0=>?_)
      refine kN o93 (λ v94=>⟨[(0,.p (eS s_0)),(1,.p (eI i_1)),(6,.p (eK .u8 (byt s_0 i_1))),(7,.p (eK .u8 v94)),(8,.p (eK .u8 191))],[]⟩) ?_ ?_
      ·refine nx 2 rfl (bd h0 λ o95 h1 h0=>?_)
       refine kN o95 (λ v96=>⟨[(0,.p (eS s_0)),(1,.p (eI i_1)),(6,.p (eK .u8 (byt s_0 i_1))),(7,.p (eK .u8 o93)),(8,.p (eK .u8 v96))],[]⟩) ?_ ?_
       ·refine nx 3 rfl (bd h0 λ o97 h1 h0=>?_)
        refine kN o97 (λ v98=>⟨[(0,.p (eS s_0)),(1,.p (eI i_1)),(6,.p (eK .u8 (byt s_0 i_1))),(119,.p (eB v98))],[]⟩) ?_ ?_
        ·refine nx 1 rfl (fB [119] h0 rfl (λ c61 h0=>?_) λ c61 h0=>?_)
         ·refine nx 2 rfl (cc' h0 λ hk62 h0=>cc' h0 λ hk63 h0=>cc' h0 λ hk64 h0=>cc' h0 λ hk65 h0=>cc' h0 λ hk66 h0=>cc' h0 λ hk67 h0=>cc' h0 λ hk68 h0=>cc' h0 λ hk69 h0=>cc' h0 λ hk70 h0=>cc' h0 λ hk71 h0=>cc' h0 λ hk72 h0=>cc' h0 λ hk73 h0=>cc' h0 λ hk74 h0=>mD [(0,.p (eS s_0)),(1,.p (eI i_1)),(6,.p (eK .u8 (byt s_0 i_1)))] rfl ⟨rfl,rfl,rfl,trivial⟩ rfl (dR 2 rfl (dq (.p (eI (bw .u8 (byt s_0 i_1) 7))) [121] rfl (λ _ e _ q=>ay rfl (dF rfl rfl rfl rfl rfl rfl rfl (e _ _ rfl) (gt hk62) q)) rfl (dq (.p (eI (ji .i64 (bw .u8 (byt s_0 i_1) 7) 18))) [122] rfl (λ _ e _ q=>ay rfl (jJ rfl rfl rfl (e _ _ rfl) rfl rfl hk63 q)) rfl (dR 2 rfl (dq (.p (eI (i_1+1))) [125] rfl (λ _ e _ q=>ay rfl (d4 rfl rfl rfl (e _ _ rfl) rfl rfl hk64 q)) rfl (dq (.p (eK .u8 (byt s_0 (i_1+1)))) [124,126] rfl (λ _ e _ q=>ay rfl (ib rfl rfl rfl rfl rfl (e _ _ rfl) (e _ _ rfl) hk65 q)) rfl (dR 1 rfl (dq (.p (eI (bw .u8 (byt s_0 (i_1+1)) 63))) [128] rfl (λ _ e _ q=>ay rfl (dF rfl rfl rfl rfl rfl rfl rfl (e _ _ rfl) (gt hk66) q)) rfl (dq (.p (eI (ji .i64 (bw .u8 (byt s_0 (i_1+1)) 63) 12))) [129] rfl (λ _ e _ q=>ay rfl (jJ rfl rfl rfl (e _ _ rfl) rfl rfl hk67 q)) rfl ?_))))))))))
          refine dR 3 rfl (dq (.p (eI (i_1+2))) [133] rfl (λ _ e _ q=>ay rfl (d4 rfl rfl rfl (e _ _ rfl) rfl rfl hk68 q)) rfl (dq (.p (eK .u8 (byt s_0 (i_1+2)))) [132,134] rfl (λ _ e _ q=>ay rfl (ib rfl rfl rfl rfl rfl (e _ _ rfl) (e _ _ rfl) hk69 q)) rfl (dR 1 rfl (dq (.p (eI (bw .u8 (byt s_0 (i_1+2)) 63))) [136] rfl (λ _ e _ q=>ay rfl (dF rfl rfl rfl rfl rfl rfl rfl (e _ _ rfl) (gt hk70) q)) rfl (dq (.p (eI (ji .i64 (bw .u8 (byt s_0 (i_1+2)) 63) 6))) [137] rfl (λ _ e _ q=>ay rfl (jJ rfl rfl rfl (e _ _ rfl) rfl rfl hk71 q)) rfl (dR 3 rfl (dq (.p (eI (i_1+3))) [141] rfl (λ _ e _ q=>ay rfl (d4 rfl rfl rfl (e _ _ rfl) rfl rfl hk72 q)) rfl (dq (.p (eK .u8 (byt s_0 (i_1+3)))) [140,142] rfl (λ _ e _ q=>ay rfl (ib rfl rfl rfl rfl rfl (e _ _ rfl) (e _ _ rfl) hk73 q)) rfl (dR 1 rfl (dq (.p (eI (bw .u8 (byt s_0 (i_1+3)) 63))) [144] rfl (λ _ e _ q=>ay rfl (dF rfl rfl rfl rfl rfl rfl rfl (e _ _ rfl) (gt hk74) q)) rfl (dR 3 rfl ?_)))))))))))
          refine dE rfl (nx 1 rfl ?_)
          exact mG (gE (t:=⟨[(4,.p (eI (iOr .i64 (iOr .i64 (iOr .i64 (ji .i64 (bw .u8 (byt s_0 i_1) 7) 18) (ji .i64 (bw .u8 (byt s_0 (i_1+1)) 63) 12)) (ji .i64 (bw .u8 (byt s_0 (i_1+2)) 63) 6)) (bw .u8 (byt s_0 (i_1+3)) 63)))),(5,.p (eI 4))],[]⟩) rfl rfl) (nx 1 rfl (mQ (oi h0) rfl (ar ⟨sr,sr,trivial⟩)))
         exact nx 8 rfl (mQ (oi h0) rfl (ar ⟨sr,sr,trivial⟩))
        refine nx 4 rfl (fD [95,96] h1 rfl (λ c47 h1=>?_) λ c47 h1=>?_)
        ·refine nx 4 rfl (fD [98,99,100] h1 rfl (λ c48 h1=>?_) λ c48 h1=>?_)
         ·refine nx 2 rfl (oA h1 rfl rfl λ hk49 h1=>nx 2 rfl (bd h1 λ r50 e51 h1=>oK (gG s_0 (i_1+1) o93 o95 _ e51) rfl ⟨sr,sr,sr,sr,trivial⟩ Tryz.call163 rfl (nx 2 rfl ?_)))
          refine fB [106,107,108] h1 rfl (λ c52 h1=>?_) λ c52 h1=>?_
          ·refine nx 2 rfl (oA h1 rfl rfl λ hk53 h1=>bd h1 λ r54 e55 h1=>oK (gG s_0 (i_1+2) 128 191 _ e55) rfl ⟨sr,sr,sr,sr,trivial⟩ Tryz.call163 rfl (nx 2 rfl ?_))
           refine fB [112,113,114] h1 rfl (λ c56 h1=>?_) λ c56 h1=>?_
           ·exact nx 2 rfl (oA h1 rfl rfl λ hk57 h1=>bd h1 λ r58 e59 h1=>oK (gG s_0 (i_1+3) 128 191 _ e59) rfl ⟨sr,sr,sr,sr,trivial⟩ Tryz.call163 rfl (nx 2 rfl (eX _ (oi h1).symm (gE rfl rfl))))
           exact nx 6 rfl (eX _ (oi h1).symm (gE rfl rfl))
          exact nx 12 rfl (eX _ (oi h1).symm (gE rfl rfl))
         exact nx 20 rfl (eX _ (oi h1).symm (gE rfl rfl))
        exact nx 24 rfl (eX _ (oi h1).symm (gE rfl rfl))
       refine nx 5 rfl (fD [93] h1 rfl (λ c45 h1=>?_) λ c45 h1=>?_)
       ·exact nx 4 rfl (eX _ (oi h1).symm (gE rfl rfl))
       exact nx 2 rfl (eX _ (oi h1).symm (gE rfl rfl))
      refine nx 5 rfl (fD [91] h1 rfl (λ c43 h1=>?_) λ c43 h1=>?_)
      ·exact nx 4 rfl (eX _ (oi h1).symm (gE rfl rfl))
      exact nx 2 rfl (eX _ (oi h1).symm (gE rfl rfl))
     refine nx 4 rfl (fD [52,53] h1 rfl (λ c23 h1=>?_) λ c23 h1=>?_)
     ·refine nx 4 rfl (fD [55,56,57] h1 rfl (λ c24 h1=>?_) λ c24 h1=>?_)
      ·refine nx 2 rfl (oA h1 rfl rfl λ hk25 h1=>nx 2 rfl (bd h1 λ r26 e27 h1=>oK (gG s_0 (i_1+1) o87 o89 _ e27) rfl ⟨sr,sr,sr,sr,trivial⟩ Tryz.call163 rfl (nx 2 rfl ?_)))
       refine fB [63,64,65] h1 rfl (λ c28 h1=>?_) λ c28 h1=>?_
       ·exact nx 2 rfl (oA h1 rfl rfl λ hk29 h1=>bd h1 λ r30 e31 h1=>oK (gG s_0 (i_1+2) 128 191 _ e31) rfl ⟨sr,sr,sr,sr,trivial⟩ Tryz.call163 rfl (nx 2 rfl (eX _ (oi h1).symm (gE rfl rfl))))
       exact nx 6 rfl (eX _ (oi h1).symm (gE rfl rfl))
      exact nx 14 rfl (eX _ (oi h1).symm (gE rfl rfl))
     exact nx 18 rfl (eX _ (oi h1).symm (gE rfl rfl))
    refine nx 5 rfl (fD [50] h1 rfl (λ c21 h1=>?_) λ c21 h1=>?_)
    ·exact nx 4 rfl (eX _ (oi h1).symm (gE rfl rfl))
    exact nx 2 rfl (eX _ (oi h1).symm (gE rfl rfl))
   refine nx 5 rfl (fD [48] h1 rfl (λ c19 h1=>?_) λ c19 h1=>?_)
   ·exact nx 4 rfl (eX _ (oi h1).symm (gE rfl rfl))
   exact nx 2 rfl (eX _ (oi h1).symm (gE rfl rfl))
  refine nx 4 rfl (fD [25,26] h1 rfl (λ c7 h1=>?_) λ c7 h1=>?_)
  ·refine nx 4 rfl (fD [28,29,30] h1 rfl (λ c8 h1=>?_) λ c8 h1=>?_)
   ·exact nx 2 rfl (oA h1 rfl rfl λ hk9 h1=>bd h1 λ r10 e11 h1=>oK (gG s_0 (i_1+1) 128 191 _ e11) rfl ⟨sr,sr,sr,sr,trivial⟩ Tryz.call163 rfl (nx 2 rfl (eX _ (oi h1).symm (gE rfl rfl))))
   exact nx 6 rfl (eX _ (oi h1).symm (gE rfl rfl))
  exact nx 10 rfl (eX _ (oi h1).symm (gE rfl rfl))
 refine nx 4 rfl (fD [10,11] h1 rfl (λ c1 h1=>?_) λ c1 h1=>?_)
 ·exact nx 6 rfl (eX _ (oi h1).symm (gE rfl rfl))
 exact nx 2 rfl (oLs rfl (nx 3 rfl (eX _ (oi h1).symm (gE rfl rfl))))
def kR (b_0:Int):Option Int :=
 (
   if 48≤b_0 then
    some (decide (b_0≤57))
   else
    some false
  : Option Bool).bind λ t2 =>
 if t2=true then
  ck (inR (IntKind.wrap .u8 (b_0 - 48))) <|
  some (IntKind.wrap .u8 (b_0 - 48))
 else
  (
    if 97≤b_0 then
     some (decide (b_0≤102))
    else
     some false
   : Option Bool).bind λ t6 =>
  if t6=true then
   ck (inR (IntKind.wrap .u8 (b_0 - 97))) <|
   ck (inR ((IntKind.wrap .u8 (b_0 - 97))+10)) <|
   some ((IntKind.wrap .u8 (b_0 - 97))+10)
  else
   some (-1)
theorem qf (b_0:Int)(r:Int)(h0:kR b_0=some r):aw Tryz.prog 177 [eK .u8 b_0] (·=.p (eI r)):=by
 unfold kR at h0
 refine a6 good Tryz.func177 rfl rfl rfl λ w0=>mP (λ v:Int=>.p (eI v)) ?_
 refine nx 6 rfl (bd h0 λ o12 h1 h0=>?_)
 refine kN o12 (λ v13=>⟨[(0,.p (eK .u8 b_0)),(8,.p (eB v13))],[]⟩) ?_ ?_
 ·refine nx 1 rfl (fB [8] h0 rfl (λ c3 h0=>?_) λ c3 h0=>?_)
  ·exact nx 5 rfl (cc' h0 λ hk4 h0=>mO rfl (dF rfl rfl rfl rfl rfl rfl rfl rfl (gt hk4) (nx 3 rfl (mQ (oi h0) rfl (sr)))))
  refine nx 4 rfl (bd h0 λ o14 h1 h0=>?_)
  refine kN o14 (λ v15=>⟨[(0,.p (eK .u8 b_0)),(17,.p (eB v15))],[]⟩) ?_ ?_
  ·refine nx 1 rfl (fB [17] h0 rfl (λ c7 h0=>?_) λ c7 h0=>?_)
   ·exact nx 5 rfl (cc' h0 λ hk8 h0=>mO rfl (dF rfl rfl rfl rfl rfl rfl rfl rfl (gt hk8) (oA h0 rfl rfl λ hk9 h0=>nx 3 rfl (mQ (oi h0) rfl (sr)))))
   exact nx 7 rfl (mQ (oi h0) rfl (sr))
  refine nx 4 rfl (fD [13,14] h1 rfl (λ c5 h1=>?_) λ c5 h1=>?_)
  ·exact nx 4 rfl (eX _ (oi h1).symm (gE rfl rfl))
  exact nx 4 rfl (eX _ (oi h1).symm (gE rfl rfl))
 refine nx 4 rfl (fD [4,5] h1 rfl (λ c1 h1=>?_) λ c1 h1=>?_)
 ·exact nx 4 rfl (eX _ (oi h1).symm (gE rfl rfl))
 exact nx 4 rfl (eX _ (oi h1).symm (gE rfl rfl))
def ep (s_0:Bytes)(i_1:Int):Nat→Int→Int→Option (Int×Int)
 | 0,_,_=>none
 | m+1,c19,n20 =>
 (
   ck (inR (i_1+n20)) <|
   if i_1+n20 < (s_0.length:Int) then
    if n20 < 6 then
     ck (inR (i_1+n20)) <|
     ck ((0:Int)≤i_1+n20∧i_1+n20 < (s_0.length:Int)) <|
     (kR (byt s_0 (i_1+n20))).bind λ r26 =>
     some (decide (0≤r26))
    else
     some false
   else
    some false
  : Option Bool).bind λ t28 =>
 if t28=true then
  ck (inR (16*c19)) <|
  ck (inR (i_1+n20)) <|
  ck ((0:Int)≤i_1+n20∧i_1+n20 < (s_0.length:Int)) <|
  (kR (byt s_0 (i_1+n20))).bind λ r33 =>
  ck (inR ((16*c19)+r33)) <|
  ck (inR (n20+1)) <|
  ep s_0 i_1 m ((16*c19)+r33) (n20+1)
 else
  some (c19,n20)
def ki (n:Nat)(s_0:Bytes)(i_1:Int):Option (Int×Int×Int) :=
 (ep s_0 i_1 n 0 0).bind λ q58 =>
 ck (inR (i_1+q58.2)) <|
 if (s_0.length:Int)≤i_1+q58.2 then
  some (0,0,40)
 else
  (
    if q58.2=0 then
     some true
    else
     ck (inR (i_1+q58.2)) <|
     ck ((0:Int)≤i_1+q58.2∧i_1+q58.2 < (s_0.length:Int)) <|
     if byt s_0 (i_1+q58.2)=125 then
      if 1 < q58.2 then
       ck ((0:Int)≤i_1∧i_1 < (s_0.length:Int)) <|
       if byt s_0 i_1=48 then
        some true
       else
        if 1114111 < q58.1 then
         some true
        else
         if 55296≤q58.1 then
          some (decide (q58.1≤57343))
         else
          some false
      else
       if 1114111 < q58.1 then
        some true
       else
        if 55296≤q58.1 then
         some (decide (q58.1≤57343))
        else
         some false
     else
      some true
   : Option Bool).bind λ t54 =>
  if t54=true then
   some (0,0,2)
  else
   ck (inR (i_1+q58.2)) <|
   ck (inR ((i_1+q58.2)+1)) <|
   some (q58.1,(i_1+q58.2)+1,0)
theorem sF (n:Nat)(s_0:Bytes)(i_1:Int)(r:Int×Int×Int)(h0:ki n s_0 i_1=some r):aw Tryz.prog 173 [eS s_0,eI i_1] (·=.tuple [.p (eI r.1),.p (eI r.2.1),.p (eI r.2.2)]):=by
 unfold ki at h0
 refine a6 good Tryz.func173 rfl rfl rfl λ w0=>mP (λ v:Int×Int×Int=>.tuple [.p (eI v.1),.p (eI v.2.1),.p (eI v.2.2)]) ?_
 refine nx 13 rfl (bd h0 λ o61 h1 h0=>?_)
 refine kE 0 o61 (λ v62=>⟨[(0,.p (eS s_0)),(1,.p (eI i_1)),(7,.p (eI v62.1)),(8,.p (eI v62.2))],[]⟩) ?_ ?_
 ·refine nx 6 rfl (oA h0 rfl rfl λ hk41 h0=>nx 1 rfl (oLs rfl (nx 2 rfl (fD [44] h0 rfl (λ c42 h0=>?_) λ c42 h0=>?_))))
  ·exact nx 8 rfl (mQ (oi h0) rfl (ar ⟨sr,sr,sr,trivial⟩))
  refine nx 4 rfl (bd h0 λ o63 h1 h0=>?_)
  refine kN o63 (λ v64=>⟨[(1,.p (eI i_1)),(7,.p (eI o61.1)),(8,.p (eI o61.2)),(76,.p (eB v64))],[]⟩) ?_ ?_
  ·refine nx 1 rfl (fB [76] h0 rfl (λ c55 h0=>?_) λ c55 h0=>?_)
   ·exact nx 8 rfl (mQ (oi h0) rfl (ar ⟨sr,sr,sr,trivial⟩))
   exact nx 7 rfl (oA h0 rfl rfl λ hk56 h0=>oA h0 rfl rfl λ hk57 h0=>nx 5 rfl (mQ (oi h0) rfl (ar ⟨sr,sr,sr,trivial⟩)))
  refine nx 4 rfl (fD [46,47] h1 rfl (λ c43 h1=>?_) λ c43 h1=>?_)
  ·exact nx 30 rfl (eX _ (oi h1).symm (gE rfl rfl))
  refine nx 3 rfl (oA h1 rfl rfl λ hk44 h1=>oI h1 rfl λ hk45 h1=>nx 3 rfl (fN [53,54,55] h1 rfl (λ c46 h1=>?_) λ c46 h1=>?_))
  ·refine nx 3 rfl (fD [57,58] h1 rfl (λ c47 h1=>?_) λ c47 h1=>?_)
   ·refine nx 2 rfl (oI h1 rfl λ hk48 h1=>nx 4 rfl (fD [62,63,64,65] h1 rfl (λ c49 h1=>?_) λ c49 h1=>?_))
    ·exact nx 12 rfl (eX _ (oi h1).symm (gE rfl rfl))
    refine nx 4 rfl (fD [67,68,69] h1 rfl (λ c50 h1=>?_) λ c50 h1=>?_)
    ·exact nx 8 rfl (eX _ (oi h1).symm (gE rfl rfl))
    refine nx 3 rfl (fD [71,72] h1 rfl (λ c51 h1=>?_) λ c51 h1=>?_)
    ·exact nx 5 rfl (eX _ (oi h1).symm (gE rfl rfl))
    exact nx 5 rfl (eX _ (oi h1).symm (gE rfl rfl))
   refine nx 11 rfl (fD [67,68,69] h1 rfl (λ c52 h1=>?_) λ c52 h1=>?_)
   ·exact nx 8 rfl (eX _ (oi h1).symm (gE rfl rfl))
   refine nx 3 rfl (fD [71,72] h1 rfl (λ c53 h1=>?_) λ c53 h1=>?_)
   ·exact nx 5 rfl (eX _ (oi h1).symm (gE rfl rfl))
   exact nx 5 rfl (eX _ (oi h1).symm (gE rfl rfl))
  exact nx 22 rfl (eX _ (oi h1).symm (gE rfl rfl))
 refine lG (λ (q65:Int×Int)=>⟨[(0,.p (eS s_0)),(1,.p (eI i_1)),(7,.p (eI q65.1)),(8,.p (eI q65.2))],[]⟩) (λ m (q65:Int×Int)=>ep s_0 i_1 m q65.1 q65.2) (λ _=>rfl) (0,0) h1 (gE rfl rfl) ?_
 rintro m ⟨c19,n20⟩ h1
 replace h1:ep s_0 i_1 (m+1) c19 n20=some o61:=h1
 rw [ep] at h1
 refine nx 2 rfl (bd h1 λ o66 h2 h1=>?_)
 refine kN o66 (λ v67=>⟨[(0,.p (eS s_0)),(1,.p (eI i_1)),(7,.p (eI c19)),(8,.p (eI n20)),(27,.p (eB v67))],[]⟩) ?_ ?_
 ·refine nx 1 rfl (fB [27] h1 rfl (λ c29 h1=>?_) λ c29 h1=>?_)
  ·exact nx 6 rfl (oA h1 rfl rfl λ hk30 h1=>nx 3 rfl (oA h1 rfl rfl λ hk31 h1=>oI h1 rfl λ hk32 h1=>bd h1 λ r33 e34 h1=>oK (qf (byt s_0 (i_1+n20)) _ e34) rfl ⟨sr,trivial⟩ Tryz.call177 rfl (oA h1 rfl rfl λ hk35 h1=>nx 4 rfl (oA h1 rfl rfl λ hk36 h1=>nx 2 rfl (eX ((16*c19)+r33,n20+1) h1 (gE rfl rfl))))))
  exact nx 2 rfl (eXi _ (oi h1).symm (gE rfl rfl))
 refine nx 3 rfl (oA h2 rfl rfl λ hk21 h2=>nx 1 rfl (oLs rfl (nx 2 rfl (fD [14,15] h2 rfl (λ c22 h2=>?_) λ c22 h2=>?_))))
 ·refine nx 4 rfl (fD [17,18,19] h2 rfl (λ c23 h2=>?_) λ c23 h2=>?_)
  ·exact nx 3 rfl (oA h2 rfl rfl λ hk24 h2=>oI h2 rfl λ hk25 h2=>bd h2 λ r26 e27 h2=>oK (qf (byt s_0 (i_1+n20)) _ e27) rfl ⟨sr,trivial⟩ Tryz.call177 rfl (nx 3 rfl (eX _ (oi h2).symm (gE rfl rfl))))
  exact nx 9 rfl (eX _ (oi h2).symm (gE rfl rfl))
 exact nx 13 rfl (eX _ (oi h2).symm (gE rfl rfl))
def jt (c_0:Int):Option Bytes :=
 if c_0 < 128 then
  ck ((0:Int)≤IntKind.wrap .u8 (c_0)∧IntKind.wrap .u8 (c_0) < 256) <|
  some [u8 (IntKind.wrap .u8 (c_0))]
 else
  if c_0 < 2048 then
   ck ((0:Int)≤6) <|
   ck ((0:Int)≤IntKind.wrap .u8 (iOr .i64 192 (cC .i64 c_0 6))∧IntKind.wrap .u8 (iOr .i64 192 (cC .i64 c_0 6)) < 256) <|
   ck ((0:Int)≤IntKind.wrap .u8 (iOr .i64 128 (bw .i64 c_0 63))∧IntKind.wrap .u8 (iOr .i64 128 (bw .i64 c_0 63)) < 256) <|
   some [u8 (IntKind.wrap .u8 (iOr .i64 192 (cC .i64 c_0 6))),u8 (IntKind.wrap .u8 (iOr .i64 128 (bw .i64 c_0 63)))]
  else
   if c_0 < 65536 then
    ck ((0:Int)≤12) <|
    ck ((0:Int)≤6) <|
    ck ((0:Int)≤IntKind.wrap .u8 (iOr .i64 224 (cC .i64 c_0 12))∧IntKind.wrap .u8 (iOr .i64 224 (cC .i64 c_0 12)) < 256) <|
    ck ((0:Int)≤IntKind.wrap .u8 (iOr .i64 128 (bw .i64 (cC .i64 c_0 6) 63))∧IntKind.wrap .u8 (iOr .i64 128 (bw .i64 (cC .i64 c_0 6) 63)) < 256) <|
    ck ((0:Int)≤IntKind.wrap .u8 (iOr .i64 128 (bw .i64 c_0 63))∧IntKind.wrap .u8 (iOr .i64 128 (bw .i64 c_0 63)) < 256) <|
    some [u8 (IntKind.wrap .u8 (iOr .i64 224 (cC .i64 c_0 12))),u8 (IntKind.wrap .u8 (iOr .i64 128 (bw .i64 (cC .i64 c_0 6) 63))),u8 (IntKind.wrap .u8 (iOr .i64 128 (bw .i64 c_0 63)))]
   else
    ck ((0:Int)≤18) <|
    ck ((0:Int)≤12) <|
    ck ((0:Int)≤6) <|
    ck ((0:Int)≤IntKind.wrap .u8 (iOr .i64 240 (cC .i64 c_0 18))∧IntKind.wrap .u8 (iOr .i64 240 (cC .i64 c_0 18)) < 256) <|
    ck ((0:Int)≤IntKind.wrap .u8 (iOr .i64 128 (bw .i64 (cC .i64 c_0 12) 63))∧IntKind.wrap .u8 (iOr .i64 128 (bw .i64 (cC .i64 c_0 12) 63)) < 256) <|
    ck ((0:Int)≤IntKind.wrap .u8 (iOr .i64 128 (bw .i64 (cC .i64 c_0 6) 63))∧IntKind.wrap .u8 (iOr .i64 128 (bw .i64 (cC .i64 c_0 6) 63)) < 256) <|
    ck ((0:Int)≤IntKind.wrap .u8 (iOr .i64 128 (bw .i64 c_0 63))∧IntKind.wrap .u8 (iOr .i64 128 (bw .i64 c_0 63)) < 256) <|
    some [u8 (IntKind.wrap .u8 (iOr .i64 240 (cC .i64 c_0 18))),u8 (IntKind.wrap .u8 (iOr .i64 128 (bw .i64 (cC .i64 c_0 12) 63))),u8 (IntKind.wrap .u8 (iOr .i64 128 (bw .i64 (cC .i64 c_0 6) 63))),u8 (IntKind.wrap .u8 (iOr .i64 128 (bw .i64 c_0 63)))]
theorem sb (c_0:Int)(r:Bytes)(h0:jt c_0=some r):aw Tryz.prog 174 [eI c_0] (·=.p (eS r)):=by
 unfold jt at h0
 refine a6 good Tryz.func174 rfl rfl rfl λ w0=>mP (λ v:Bytes=>.p (eS v)) ?_
 refine nx 10 rfl (fD [4] h0 rfl (λ c1 h0=>?_) λ c1 h0=>?_)
 ·exact nx 5 rfl (cc' h0 λ hk2 h0=>mO rfl (bn eU [u8 (IntKind.wrap .u8 (c_0))] rfl rfl rfl rfl rfl rfl rfl rfl rfl rfl rfl rfl rfl (congr (congrArg List.cons (g8 hk2)) rfl) (mO rfl (kQ [u8 (IntKind.wrap .u8 (c_0))] rfl rfl rfl rfl rfl rfl rfl rfl rfl rfl rfl (nx 3 rfl (mQ (oi h0) rfl (sr)))))))
 refine nx 8 rfl (fD [10] h0 rfl (λ c3 h0=>?_) λ c3 h0=>?_)
 ·exact nx 4 rfl (cc' h0 λ hk4 h0=>mO rfl (jJ rfl rfl rfl rfl rfl rfl hk4 (nx 6 rfl (cc' h0 λ hk6 h0=>cc' h0 λ hk5 h0=>mO rfl (bn eU [u8 (IntKind.wrap .u8 (iOr .i64 192 (cC .i64 c_0 6))),u8 (IntKind.wrap .u8 (iOr .i64 128 (bw .i64 c_0 63)))] rfl rfl rfl rfl rfl rfl rfl rfl rfl rfl rfl rfl rfl (congr (congrArg List.cons (g8 hk6)) (congr (congrArg List.cons (g8 hk5)) rfl)) (mO rfl (kQ [u8 (IntKind.wrap .u8 (iOr .i64 192 (cC .i64 c_0 6))),u8 (IntKind.wrap .u8 (iOr .i64 128 (bw .i64 c_0 63)))] rfl rfl rfl rfl rfl rfl rfl rfl rfl rfl rfl (nx 3 rfl (mQ (oi h0) rfl (sr))))))))))
 refine nx 8 rfl (fD [22] h0 rfl (λ c7 h0=>?_) λ c7 h0=>?_)
 ·refine nx 4 rfl (cc' h0 λ hk8 h0=>mO rfl (jJ rfl rfl rfl rfl rfl rfl hk8 (nx 3 rfl (cc' h0 λ hk9 h0=>mO rfl (jJ rfl rfl rfl rfl rfl rfl hk9 (nx 7 rfl (cc' h0 λ hk12 h0=>cc' h0 λ hk11 h0=>cc' h0 λ hk10 h0=>mO rfl (bn eU [u8 (IntKind.wrap .u8 (iOr .i64 224 (cC .i64 c_0 12))),u8 (IntKind.wrap .u8 (iOr .i64 128 (bw .i64 (cC .i64 c_0 6) 63))),u8 (IntKind.wrap .u8 (iOr .i64 128 (bw .i64 c_0 63)))] rfl rfl rfl rfl rfl rfl rfl rfl rfl rfl rfl rfl rfl (congr (congrArg List.cons (g8 hk12)) (congr (congrArg List.cons (g8 hk11)) (congr (congrArg List.cons (g8 hk10)) rfl))) (mO rfl (kQ [u8 (IntKind.wrap .u8 (iOr .i64 224 (cC .i64 c_0 12))),u8 (IntKind.wrap .u8 (iOr .i64 128 (bw .i64 (cC .i64 c_0 6) 63))),u8 (IntKind.wrap .u8 (iOr .i64 128 (bw .i64 c_0 63)))] rfl rfl rfl rfl rfl rfl rfl rfl rfl rfl rfl ?_))))))))))
  exact nx 3 rfl (mQ (oi h0) rfl (sr))
 refine nx 5 rfl (cc' h0 λ hk13 h0=>mO rfl (jJ rfl rfl rfl rfl rfl rfl hk13 (nx 3 rfl (cc' h0 λ hk14 h0=>mO rfl (jJ rfl rfl rfl rfl rfl rfl hk14 (nx 4 rfl (cc' h0 λ hk15 h0=>mO rfl (jJ rfl rfl rfl rfl rfl rfl hk15 (nx 7 rfl (cc' h0 λ hk19 h0=>?_))))))))))
 exact cc' h0 λ hk18 h0=>cc' h0 λ hk17 h0=>cc' h0 λ hk16 h0=>mO rfl (bn eU [u8 (IntKind.wrap .u8 (iOr .i64 240 (cC .i64 c_0 18))),u8 (IntKind.wrap .u8 (iOr .i64 128 (bw .i64 (cC .i64 c_0 12) 63))),u8 (IntKind.wrap .u8 (iOr .i64 128 (bw .i64 (cC .i64 c_0 6) 63))),u8 (IntKind.wrap .u8 (iOr .i64 128 (bw .i64 c_0 63)))] rfl rfl rfl rfl rfl rfl rfl rfl rfl rfl rfl rfl rfl (congr (congrArg List.cons (g8 hk19)) (congr (congrArg List.cons (g8 hk18)) (congr (congrArg List.cons (g8 hk17)) (congr (congrArg List.cons (g8 hk16)) rfl)))) (mO rfl (kQ [u8 (IntKind.wrap .u8 (iOr .i64 240 (cC .i64 c_0 18))),u8 (IntKind.wrap .u8 (iOr .i64 128 (bw .i64 (cC .i64 c_0 12) 63))),u8 (IntKind.wrap .u8 (iOr .i64 128 (bw .i64 (cC .i64 c_0 6) 63))),u8 (IntKind.wrap .u8 (iOr .i64 128 (bw .i64 c_0 63)))] rfl rfl rfl rfl rfl rfl rfl rfl rfl rfl rfl (nx 2 rfl (mG (gE (t:=⟨[(2,.p (eS [u8 (IntKind.wrap .u8 (iOr .i64 240 (cC .i64 c_0 18))),u8 (IntKind.wrap .u8 (iOr .i64 128 (bw .i64 (cC .i64 c_0 12) 63))),u8 (IntKind.wrap .u8 (iOr .i64 128 (bw .i64 (cC .i64 c_0 6) 63))),u8 (IntKind.wrap .u8 (iOr .i64 128 (bw .i64 c_0 63)))]))],[]⟩) rfl rfl) (nx 1 rfl (mQ (oi h0) rfl (sr))))))))
def iA (n:Nat)(s_0:Bytes)(i_1:Int):Option (Bytes×Int×Int) :=
 ck (inR (i_1+1)) <|
 if (s_0.length:Int)≤i_1+1 then
  some (([]:Bytes),0,40)
 else
  ck (inR (i_1+1)) <|
  ck ((0:Int)≤i_1+1∧i_1+1 < (s_0.length:Int)) <|
  if byt s_0 (i_1+1)=110 then
   ck (inR (i_1+2)) <|
   some (([10]:Bytes),i_1+2,0)
  else
   if byt s_0 (i_1+1)=114 then
    ck (inR (i_1+2)) <|
    some (([13]:Bytes),i_1+2,0)
   else
    if byt s_0 (i_1+1)=116 then
     ck (inR (i_1+2)) <|
     some (([9]:Bytes),i_1+2,0)
    else
     (
       if byt s_0 (i_1+1)=34 then
        some true
       else
        some (decide (byt s_0 (i_1+1)=92))
      : Option Bool).bind λ t12 =>
     if t12=true then
      ck (inR (i_1+1)) <|
      ck (inR (i_1+2)) <|
      ck ((0:Int)≤i_1+1∧i_1+1≤i_1+2∧i_1+2≤(s_0.length:Int)) <|
      ck (inR (i_1+2)) <|
      some (sub s_0 (i_1+1) (i_1+2),i_1+2,0)
     else
      if byt s_0 (i_1+1)=117 then
       ck (inR (i_1+2)) <|
       if (s_0.length:Int)≤i_1+2 then
        some (([]:Bytes),0,40)
       else
        ck (inR (i_1+2)) <|
        ck ((0:Int)≤i_1+2∧i_1+2 < (s_0.length:Int)) <|
        if byt s_0 (i_1+2)=123 then
         ck (inR (i_1+3)) <|
         (ki n s_0 (i_1+3)).bind λ r25 =>
         if r25.2.2=0 then
          (jt r25.1).bind λ r28 =>
          some (r28,r25.2.1,0)
         else
          some (([]:Bytes),0,r25.2.2)
        else
         some (([]:Bytes),0,2)
      else
       some (([]:Bytes),0,2)
theorem qC (n:Nat)(s_0:Bytes)(i_1:Int)(r:Bytes×Int×Int)(h0:iA n s_0 i_1=some r):aw Tryz.prog 162 [eS s_0,eI i_1] (·=.tuple [.p (eS r.1),.p (eI r.2.1),.p (eI r.2.2)]):=by
 unfold iA at h0
 refine a6 good Tryz.func162 rfl rfl rfl λ w0=>mP (λ v:Bytes×Int×Int=>.tuple [.p (eS v.1),.p (eI v.2.1),.p (eI v.2.2)]) ?_
 refine nx 10 rfl (oA h0 rfl rfl λ hk1 h0=>nx 1 rfl (oLs rfl (nx 2 rfl (fD [14] h0 rfl (λ c2 h0=>?_) λ c2 h0=>?_))))
 ·exact nx 8 rfl (mQ (oi h0) rfl (ar ⟨sr,sr,sr,trivial⟩))
 refine nx 7 rfl (oA h0 rfl rfl λ hk3 h0=>oI h0 rfl λ hk4 h0=>nx 7 rfl (fD [19,20] h0 rfl (λ c5 h0=>?_) λ c5 h0=>?_))
 ·exact nx 4 rfl (oA h0 rfl rfl λ hk6 h0=>nx 5 rfl (mQ (oi h0) rfl (ar ⟨sr,sr,sr,trivial⟩)))
 refine nx 6 rfl (fD [23,24] h0 rfl (λ c7 h0=>?_) λ c7 h0=>?_)
 ·exact nx 4 rfl (oA h0 rfl rfl λ hk8 h0=>nx 5 rfl (mQ (oi h0) rfl (ar ⟨sr,sr,sr,trivial⟩)))
 refine nx 6 rfl (fD [27,28] h0 rfl (λ c9 h0=>?_) λ c9 h0=>?_)
 ·exact nx 4 rfl (oA h0 rfl rfl λ hk10 h0=>nx 5 rfl (mQ (oi h0) rfl (ar ⟨sr,sr,sr,trivial⟩)))
 refine nx 2 rfl (bd h0 λ o31 h1 h0=>?_)
 refine kN o31 (λ v32=>⟨[(0,.p (eS s_0)),(1,.p (eI i_1)),(18,.p (eK .u8 (byt s_0 (i_1+1)))),(31,.p (eB v32))],[]⟩) ?_ ?_
 ·refine nx 1 rfl (fB [31] h0 rfl (λ c13 h0=>?_) λ c13 h0=>?_)
  ·exact nx 5 rfl (oA h0 rfl rfl λ hk14 h0=>nx 1 rfl (oA h0 rfl rfl λ hk15 h0=>oP h0 rfl rfl rfl λ hk16 h0=>nx 1 rfl (oA h0 rfl rfl λ hk17 h0=>nx 5 rfl (mQ (oi h0) rfl (ar ⟨sr,sr,sr,trivial⟩)))))
  refine nx 6 rfl (fD [42,43] h0 rfl (λ c18 h0=>?_) λ c18 h0=>?_)
  ·refine nx 5 rfl (oA h0 rfl rfl λ hk19 h0=>nx 1 rfl (oLs rfl (nx 2 rfl (fD [48] h0 rfl (λ c20 h0=>?_) λ c20 h0=>?_))))
   ·exact nx 8 rfl (mQ (oi h0) rfl (ar ⟨sr,sr,sr,trivial⟩))
   refine nx 7 rfl (oA h0 rfl rfl λ hk21 h0=>oI h0 rfl λ hk22 h0=>nx 2 rfl (fN [53] h0 rfl (λ c23 h0=>?_) λ c23 h0=>?_))
   ·refine nx 6 rfl (oA h0 rfl rfl λ hk24 h0=>bd h0 λ r25 e26 h0=>oK (sF _ s_0 (i_1+3) _ e26) rfl ⟨sr,sr,trivial⟩ Tryz.call173 rfl (nx 14 rfl (mG (gE (t:=⟨[(7,.p (eI r25.1)),(8,.p (eI r25.2.1)),(9,.p (eI r25.2.2)),(63,.p (eB (!decide (r25.2.2=0))))],[]⟩) rfl rfl) (fN [63] h0 rfl (λ c27 h0=>?_) λ c27 h0=>?_))))
    ·exact nx 5 rfl (bd h0 λ r28 e29 h0=>oK (sb r25.1 _ e29) rfl ⟨sr,trivial⟩ Tryz.call174 rfl (nx 6 rfl (mQ (oi h0) rfl (ar ⟨sr,sr,sr,trivial⟩))))
    exact nx 9 rfl (mQ (oi h0) rfl (ar ⟨sr,sr,sr,trivial⟩))
   exact nx 8 rfl (mQ (oi h0) rfl (ar ⟨sr,sr,sr,trivial⟩))
  exact nx 9 rfl (mQ (oi h0) rfl (ar ⟨sr,sr,sr,trivial⟩))
 refine nx 5 rfl (fD [31,32] h1 rfl (λ c11 h1=>?_) λ c11 h1=>?_)
 ·exact nx 2 rfl (eX _ (oi h1).symm (gE rfl rfl))
 exact nx 5 rfl (eX _ (oi h1).symm (gE rfl rfl))
def mA (n:Nat)(s_0:Bytes)(i_1:Int):Option (Bytes×Int×Int) :=
 ck ((0:Int)≤i_1∧i_1 < (s_0.length:Int)) <|
 if byt s_0 i_1=92 then
  (iA n s_0 i_1).bind λ r3 =>
  some (r3.1,r3.2.1,r3.2.2)
 else
  (ia s_0 i_1).bind λ r5 =>
  (
    if r5.2=0 then
     some true
    else
     ck ((0:Int)≤i_1∧i_1 < (s_0.length:Int)) <|
     if byt s_0 i_1 < 32 then
      some true
     else
      ck ((0:Int)≤i_1∧i_1 < (s_0.length:Int)) <|
      some (decide (byt s_0 i_1=127))
   : Option Bool).bind λ t11 =>
  if t11=true then
   some (([]:Bytes),0,2)
  else
   ck (inR (i_1+r5.2)) <|
   ck ((0:Int)≤i_1∧i_1≤i_1+r5.2∧i_1+r5.2≤(s_0.length:Int)) <|
   ck (inR (i_1+r5.2)) <|
   some (sub s_0 i_1 (i_1+r5.2),i_1+r5.2,0)
theorem vJ (n:Nat)(s_0:Bytes)(i_1:Int)(r:Bytes×Int×Int)(h0:mA n s_0 i_1=some r):aw Tryz.prog 146 [eS s_0,eI i_1] (·=.tuple [.p (eS r.1),.p (eI r.2.1),.p (eI r.2.2)]):=by
 unfold mA at h0
 refine a6 good Tryz.func146 rfl rfl rfl λ w0=>mP (λ v:Bytes×Int×Int=>.tuple [.p (eS v.1),.p (eI v.2.1),.p (eI v.2.2)]) ?_
 refine nx 11 rfl (oI h0 rfl λ hk1 h0=>nx 2 rfl (fD [12] h0 rfl (λ c2 h0=>?_) λ c2 h0=>?_))
 ·exact nx 5 rfl (bd h0 λ r3 e4 h0=>oK (qC _ s_0 i_1 _ e4) rfl ⟨sr,sr,trivial⟩ Tryz.call162 rfl (nx 8 rfl (mQ (oi h0) rfl (ar ⟨sr,sr,sr,trivial⟩))))
 refine nx 6 rfl (bd h0 λ r5 e6 h0=>oK (nu s_0 i_1 _ e6) rfl ⟨sr,sr,trivial⟩ Tryz.call149 rfl (nx 8 rfl (bd h0 λ o17 h1 h0=>kN o17 (λ v18=>⟨[(0,.p (eS s_0)),(1,.p (eI i_1)),(8,.p (eI r5.2)),(38,.p (eB v18))],[]⟩) ?_ ?_)))
 ·refine nx 1 rfl (fB [38] h0 rfl (λ c12 h0=>?_) λ c12 h0=>?_)
  ·exact nx 8 rfl (mQ (oi h0) rfl (ar ⟨sr,sr,sr,trivial⟩))
  exact nx 8 rfl (oA h0 rfl rfl λ hk13 h0=>oP h0 rfl rfl rfl λ hk14 h0=>nx 2 rfl (oA h0 rfl rfl λ hk15 h0=>nx 5 rfl (mQ (oi h0) rfl (ar ⟨sr,sr,sr,trivial⟩))))
 refine nx 4 rfl (fD [26,27] h1 rfl (λ c7 h1=>?_) λ c7 h1=>?_)
 ·exact nx 12 rfl (eX _ (oi h1).symm (gE rfl rfl))
 refine nx 2 rfl (oI h1 rfl λ hk8 h1=>nx 3 rfl (fD [31,32,33] h1 rfl (λ c9 h1=>?_) λ c9 h1=>?_))
 ·exact nx 6 rfl (eX _ (oi h1).symm (gE rfl rfl))
 exact nx 2 rfl (oI h1 rfl λ hk10 h1=>nx 3 rfl (eX _ (oi h1).symm (gE rfl rfl)))
def ed (n:Nat)(s_0:Bytes):Nat→Bytes→Int→Option (Unit⊕(Bytes×Int×Int))
 | 0,_,_=>none
 | m+1,out15,i16 =>
 if i16 < (s_0.length:Int) then
  ck ((0:Int)≤i16∧i16 < (s_0.length:Int)) <|
  if byt s_0 i16=34 then
   if 4096 < (out15.length:Int) then
    some (.inr (([]:Bytes),0,3))
   else
    ck (inR (i16+1)) <|
    some (.inr (out15,i16+1,0))
  else
   (mA n s_0 i16).bind λ r22 =>
   if r22.2.2=0 then
    ck (out15.length+r22.1.length≤9223372036854775807) <|
    ed n s_0 m (out15++r22.1) r22.2.1
   else
    some (.inr (([]:Bytes),0,r22.2.2))
 else
  some (.inl ())
def iB (n:Nat)(s_0:Bytes):Option (Bytes×Int×Int) :=
 if (s_0.length:Int)=0 then
  some (([]:Bytes),0,40)
 else
  ck ((0:Int)≤0∧0 < (s_0.length:Int)) <|
  if byt s_0 0=34 then
   jn (ed n s_0 n ([]:Bytes) 1) λ q28 =>
   some (([]:Bytes),0,40)
  else
   some (([]:Bytes),0,2)
theorem qA (n:Nat)(s_0:Bytes)(r:Bytes×Int×Int)(h0:iB n s_0=some r):aw Tryz.prog 130 [eS s_0] (·=.tuple [.p (eS r.1),.p (eI r.2.1),.p (eI r.2.2)]):=by
 unfold iB at h0
 refine a6 good Tryz.func130 rfl rfl rfl λ w0=>mP (λ v:Bytes×Int×Int=>.tuple [.p (eS v.1),.p (eI v.2.1),.p (eI v.2.2)]) ?_
 refine nx 10 rfl (oLs rfl (nx 2 rfl (fD [12] h0 rfl (λ c1 h0=>?_) λ c1 h0=>?_)))
 ·exact nx 8 rfl (mQ (oi h0) rfl (ar ⟨sr,sr,sr,trivial⟩))
 refine nx 6 rfl (oI h0 rfl λ hk2 h0=>nx 2 rfl (fN [15] h0 rfl (λ c3 h0=>?_) λ c3 h0=>?_))
 ·refine nx 12 rfl ?_
  obtain ⟨o29,h1,hL0,hR0⟩:=fQ h0
  refine kEx 0 (λ v30:Unit=>o29=.inl v30) (λ v30=>⟨[],[]⟩) (λ v30 hv=>?_) ?_
  ·have h0:=hL0 _ hv
   exact nx 8 rfl (mQ (oi h0) rfl (ar ⟨sr,sr,sr,trivial⟩))
  refine lG (λ (q31:Bytes×Int)=>⟨[(0,.p (eS s_0)),(5,.p (eS q31.1)),(6,.p (eI q31.2))],[]⟩) (λ m (q31:Bytes×Int)=>ed n s_0 m q31.1 q31.2) (λ _=>rfl) (([]:Bytes),1) h1 (gE rfl rfl) ?_
  rintro m ⟨out15,i16⟩ h1
  replace h1:ed n s_0 (m+1) out15 i16=some o29:=h1
  rw [ed] at h1
  refine nx 5 rfl (oLs rfl (nx 2 rfl (fD [19] h1 rfl (λ c17 h1=>?_) λ c17 h1=>?_)))
  ·refine nx 8 rfl (oI h1 rfl λ hk18 h1=>nx 2 rfl (fD [23] h1 rfl (λ c19 h1=>?_) λ c19 h1=>?_))
   ·refine nx 5 rfl (oLs rfl (nx 2 rfl (fD [26] h1 rfl (λ c20 h1=>?_) λ c20 h1=>?_)))
    ·exact nx 8 rfl (mQ (hR0 _ (oi h1).symm) rfl (ar ⟨sr,sr,sr,trivial⟩))
    exact nx 6 rfl (oA h1 rfl rfl λ hk21 h1=>nx 5 rfl (mQ (hR0 _ (oi h1).symm) rfl (ar ⟨sr,sr,sr,trivial⟩)))
   refine nx 6 rfl (bd h1 λ r22 e23 h1=>oK (vJ _ s_0 i16 _ e23) rfl ⟨sr,sr,trivial⟩ Tryz.call146 rfl (nx 14 rfl ?_))
   refine fN [38] h1 rfl (λ c24 h1=>?_) λ c24 h1=>?_
   ·exact nx 6 rfl (oC h1 rfl λ hk25 h1=>nx 6 rfl (eX (out15++r22.1,r22.2.1) h1 (gE rfl rfl)))
   exact nx 9 rfl (mQ (hR0 _ (oi h1).symm) rfl (ar ⟨sr,sr,sr,trivial⟩))
  exact nx 2 rfl (eXi _ (oi h1).symm (gE rfl rfl))
 exact nx 8 rfl (mQ (oi h0) rfl (ar ⟨sr,sr,sr,trivial⟩))
def fL:Nat→Int→Option Bytes
 | 0,_=>none
 | n+1,c_0 =>
 ck ((16:Int)≠0) <|
 ck ((16:Int)≠0) <|
 ck (inR ((c_0.tmod 16)+1)) <|
 ck ((0:Int)≤c_0.tmod 16∧c_0.tmod 16≤(c_0.tmod 16)+1∧(c_0.tmod 16)+1≤(([48,49,50,51,52,53,54,55,56,57,97,98,99,100,101,102]:Bytes).length:Int)) <|
 if c_0 < 16 then
  some (sub ([48,49,50,51,52,53,54,55,56,57,97,98,99,100,101,102]:Bytes) (c_0.tmod 16) ((c_0.tmod 16)+1))
 else
  ck ((16:Int)≠0) <|
  ((fL n) (IntKind.wrap .i64 (c_0.tdiv 16))).bind λ r7 =>
  ck (r7.length+(sub ([48,49,50,51,52,53,54,55,56,57,97,98,99,100,101,102]:Bytes) (c_0.tmod 16) ((c_0.tmod 16)+1)).length≤9223372036854775807) <|
  some (r7++(sub ([48,49,50,51,52,53,54,55,56,57,97,98,99,100,101,102]:Bytes) (c_0.tmod 16) ((c_0.tmod 16)+1)))
theorem rZ (n:Nat):∀ (c_0:Int) (r:Bytes),fL n c_0=some r→aw Tryz.prog 150 [eI c_0] (·=.p (eS r)):=by
 induction n with
 | zero=>intro c_0 r h0; cases h0
 | succ n ih =>
 have ih_ref02_digits_ok:=ih
 intro c_0 r h0
 rw [fL] at h0
 refine a6 good Tryz.func150 rfl rfl rfl λ w0=>mP (λ v:Bytes=>.p (eS v)) ?_
 refine nx 7 rfl (cc' h0 λ hk1 h0=>mO rfl (td rfl rfl rfl rfl rfl rfl hk1 (nx 1 rfl (cc' h0 λ hk2 h0=>mO rfl (td rfl rfl rfl rfl rfl rfl hk2 (oA h0 rfl rfl λ hk3 h0=>oP h0 rfl rfl rfl λ hk4 h0=>nx 8 rfl (fD [11] h0 rfl (λ c5 h0=>?_) λ c5 h0=>?_)))))))
 ·exact nx 7 rfl (mQ (oi h0) rfl (sr))
 exact nx 5 rfl (cc' h0 λ hk6 h0=>mO rfl (td rfl rfl rfl rfl rfl rfl hk6 (bd h0 λ r7 e8 h0=>oK (ih_ref02_digits_ok (IntKind.wrap .i64 (c_0.tdiv 16)) _ e8) rfl ⟨sr,trivial⟩ Tryz.call150 rfl (nx 1 rfl (oC h0 rfl λ hk9 h0=>nx 3 rfl (mQ (oi h0) rfl (sr)))))))
def iL (n:Nat)(b_0:Int):Option Bytes :=
 if b_0=10 then
  some ([92,110]:Bytes)
 else
  if b_0=13 then
   some ([92,114]:Bytes)
  else
   if b_0=9 then
    some ([92,116]:Bytes)
   else
    if b_0=34 then
     some ([92,34]:Bytes)
    else
     if b_0=92 then
      some ([92,92]:Bytes)
     else
      (
        if b_0 < 32 then
         some true
        else
         some (decide (b_0=127))
       : Option Bool).bind λ t7 =>
      if t7=true then
       ck (inR (b_0)) <|
       (fL n b_0).bind λ r10 =>
       ck (([92,117,123]:Bytes).length+r10.length≤9223372036854775807) <|
       ck ((([92,117,123]:Bytes)++r10).length+([125]:Bytes).length≤9223372036854775807) <|
       some ((([92,117,123]:Bytes)++r10)++([125]:Bytes))
      else
       ck ((0:Int)≤b_0∧b_0 < 256) <|
       some [u8 b_0]
theorem qF (n:Nat)(b_0:Int)(r:Bytes)(h0:iL n b_0=some r):aw Tryz.prog 133 [eK .u8 b_0] (·=.p (eS r)):=by
 unfold iL at h0
 refine a6 good Tryz.func133 rfl rfl rfl λ w0=>mP (λ v:Bytes=>.p (eS v)) ?_
 refine nx 15 rfl (fD [4,5] h0 rfl (λ c1 h0=>?_) λ c1 h0=>?_)
 ·exact nx 6 rfl (mQ (oi h0) rfl (sr))
 refine nx 6 rfl (fD [6,7] h0 rfl (λ c2 h0=>?_) λ c2 h0=>?_)
 ·exact nx 6 rfl (mQ (oi h0) rfl (sr))
 refine nx 6 rfl (fD [8,9] h0 rfl (λ c3 h0=>?_) λ c3 h0=>?_)
 ·exact nx 6 rfl (mQ (oi h0) rfl (sr))
 refine nx 6 rfl (fD [10,11] h0 rfl (λ c4 h0=>?_) λ c4 h0=>?_)
 ·exact nx 6 rfl (mQ (oi h0) rfl (sr))
 refine nx 6 rfl (fD [12,13] h0 rfl (λ c5 h0=>?_) λ c5 h0=>?_)
 ·exact nx 6 rfl (mQ (oi h0) rfl (sr))
 refine nx 4 rfl (bd h0 λ o16 h1 h0=>?_)
 refine kN o16 (λ v17=>⟨[(0,.p (eK .u8 b_0)),(19,.p (eB v17))],[]⟩) ?_ ?_
 ·refine nx 1 rfl (fB [19] h0 rfl (λ c8 h0=>?_) λ c8 h0=>?_)
  ·exact nx 4 rfl (cc' h0 λ hk9 h0=>mO rfl (dF rfl rfl rfl rfl rfl rfl rfl rfl (gt hk9) (bd h0 λ r10 e11 h0=>oK (rZ _ b_0 _ e11) rfl ⟨sr,trivial⟩ Tryz.call150 rfl (oC h0 rfl λ hk12 h0=>oC h0 rfl λ hk13 h0=>nx 3 rfl (mQ (oi h0) rfl (sr))))))
  exact nx 5 rfl (cc' h0 λ hk14 h0=>mO rfl (bn eU [u8 b_0] rfl rfl rfl rfl rfl rfl rfl rfl rfl rfl rfl rfl rfl (congr (congrArg List.cons (g8 hk14)) rfl) (mO rfl (kQ [u8 b_0] rfl rfl rfl rfl rfl rfl rfl rfl rfl rfl rfl (nx 3 rfl (mQ (oi h0) rfl (sr)))))))
 refine nx 4 rfl (fD [15,16] h1 rfl (λ c6 h1=>?_) λ c6 h1=>?_)
 ·exact nx 4 rfl (eX _ (oi h1).symm (gE rfl rfl))
 exact nx 4 rfl (eX _ (oi h1).symm (gE rfl rfl))
def ez (n:Nat)(s_0:Bytes):Nat→Bytes→Int→Option Bytes
 | 0,_,_=>none
 | m+1,out9,i10 =>
 if i10 < (s_0.length:Int) then
  ck ((0:Int)≤i10∧i10 < (s_0.length:Int)) <|
  (iL n (byt s_0 i10)).bind λ r13 =>
  ck (out9.length+r13.length≤9223372036854775807) <|
  ck (inR (i10+1)) <|
  ez n s_0 m (out9++r13) (i10+1)
 else
  some out9
def jg (n:Nat)(s_0:Bytes):Option Bytes :=
 (ez n s_0 n ([34]:Bytes) 0).bind λ out19 =>
 ck (out19.length+([34]:Bytes).length≤9223372036854775807) <|
 some (out19++([34]:Bytes))
theorem lk (n:Nat)(s_0:Bytes)(r:Bytes)(h0:jg n s_0=some r):aw Tryz.prog 110 [eS s_0] (·=.p (eS r)):=by
 unfold jg at h0
 refine a6 good Tryz.func110 rfl rfl rfl λ w0=>mP (λ v:Bytes=>.p (eS v)) ?_
 refine nx 14 rfl (bd h0 λ o22 h1 h0=>?_)
 refine kE 0 o22 (λ v23=>⟨[(3,.p (eS v23))],[]⟩) ?_ ?_
 ·exact nx 4 rfl (oC h0 rfl λ hk20 h0=>nx 3 rfl (mQ (oi h0) rfl (sr)))
 refine lG (λ (q24:Bytes×Int)=>⟨[(0,.p (eS s_0)),(3,.p (eS q24.1)),(4,.p (eI q24.2))],[]⟩) (λ m (q24:Bytes×Int)=>ez n s_0 m q24.1 q24.2) (λ _=>rfl) (([34]:Bytes),0) h1 (gE rfl rfl) ?_
 rintro m ⟨out9,i10⟩ h1
 replace h1:ez n s_0 (m+1) out9 i10=some o22:=h1
 rw [ez] at h1
 refine nx 5 rfl (oLs rfl (nx 2 rfl (fD [8] h1 rfl (λ c11 h1=>?_) λ c11 h1=>?_)))
 ·exact nx 8 rfl (oI h1 rfl λ hk12 h1=>bd h1 λ r13 e14 h1=>oK (qF _ (byt s_0 i10) _ e14) rfl ⟨sr,trivial⟩ Tryz.call133 rfl (oC h1 rfl λ hk15 h1=>nx 4 rfl (oA h1 rfl rfl λ hk16 h1=>nx 2 rfl (eX (out9++r13,i10+1) h1 (gE rfl rfl)))))
 exact nx 2 rfl (eXi _ (oi h1).symm (gE rfl rfl))
def fk (s_0:Bytes):Nat→Int→Option (Unit⊕Bool)
 | 0,_=>none
 | m+1,i8 =>
 if i8 < (s_0.length:Int) then
  (ia s_0 i8).bind λ r10 =>
  if r10.2=0 then
   some (.inr false)
  else
   ck (inR (i8+r10.2)) <|
   fk s_0 m (i8+r10.2)
 else
  some (.inl ())
def kf (n:Nat)(s_0:Bytes):Option Bool :=
 if 4096 < (s_0.length:Int) then
  some false
 else
  jn (fk s_0 n 0) λ q15 =>
  some true
theorem sN (n:Nat)(s_0:Bytes)(r:Bool)(h0:kf n s_0=some r):aw Tryz.prog 132 [eS s_0] (·=.p (eB r)):=by
 unfold kf at h0
 refine a6 good Tryz.func132 rfl rfl rfl λ w0=>mP (λ v:Bool=>.p (eB v)) ?_
 refine nx 8 rfl (oLs rfl (nx 2 rfl (fD [8] h0 rfl (λ c1 h0=>?_) λ c1 h0=>?_)))
 ·exact nx 6 rfl (mQ (oi h0) rfl (sr))
 refine nx 8 rfl ?_
 obtain ⟨o16,h1,hL0,hR0⟩:=fQ h0
 refine kEx 0 (λ v17:Unit=>o16=.inl v17) (λ v17=>⟨[],[]⟩) (λ v17 hv=>?_) ?_
 ·have h0:=hL0 _ hv
  exact nx 6 rfl (mQ (oi h0) rfl (sr))
 refine lG (λ (q18:Int)=>⟨[(0,.p (eS s_0)),(3,.p (eI q18))],[]⟩) (λ m (q18:Int)=>fk s_0 m q18) (λ _=>rfl) 0 h1 (gE rfl rfl) ?_
 rintro m i8 h1
 replace h1:fk s_0 (m+1) i8=some o16:=h1
 rw [fk] at h1
 refine nx 5 rfl (oLs rfl (nx 2 rfl (fD [12] h1 rfl (λ c9 h1=>?_) λ c9 h1=>?_)))
 ·refine nx 7 rfl (bd h1 λ r10 e11 h1=>oK (nu s_0 i8 _ e11) rfl ⟨sr,sr,trivial⟩ Tryz.call149 rfl (nx 12 rfl ?_))
  refine fD [20] h1 rfl (λ c12 h1=>?_) λ c12 h1=>?_
  ·exact nx 6 rfl (mQ (hR0 _ (oi h1).symm) rfl (sr))
  exact nx 5 rfl (oA h1 rfl rfl λ hk13 h1=>nx 2 rfl (eX (i8+r10.2) h1 (gE rfl rfl)))
 exact nx 2 rfl (eXi _ (oi h1).symm (gE rfl rfl))
def iZ (n:Nat)(k_0:bJ):Option Bool :=
 if k_0.fKind=1 then
  (
    if 0≤k_0.fNum then
     if k_0.fNum≤9007199254740992 then
      some (decide (k_0.fStr=([]:Bytes)))
     else
      some false
    else
     some false
   : Option Bool).bind λ t4 =>
  some t4
 else
  if k_0.fKind=2 then
   (
     if k_0.fNum=0 then
      (kf n k_0.fStr).bind λ r7 =>
      some r7
     else
      some false
    : Option Bool).bind λ t9 =>
   some t9
  else
   some (decide (k_0.fKind=0∧k_0.fNum=0∧k_0.fStr=([]:Bytes)))
theorem kM (n:Nat)(k_0:bJ)(r:Bool)(h0:iZ n k_0=some r):aw Tryz.prog 108 [.agg (bJ.cs k_0)] (·=.p (eB r)):=by
 unfold iZ at h0
 refine a6 good Tryz.func108 rfl rfl rfl λ w0=>mP (λ v:Bool=>.p (eB v)) ?_
 refine nx 12 rfl (fD [5] h0 rfl (λ c1 h0=>?_) λ c1 h0=>?_)
 ·refine nx 2 rfl (bd h0 λ o12 h1 h0=>?_)
  refine kN o12 (λ v13=>⟨[(2,.p (eB v13))],[]⟩) ?_ ?_
  ·exact nx 2 rfl (mQ (oi h0) rfl (sr))
  refine nx 5 rfl (fD [8,9] h1 rfl (λ c2 h1=>?_) λ c2 h1=>?_)
  ·refine nx 5 rfl (fD [12,13,14] h1 rfl (λ c3 h1=>?_) λ c3 h1=>?_)
   ·exact nx 2 rfl (oS rfl rfl (nx 3 rfl (eX _ (oi h1).symm (gE rfl rfl))))
   exact nx 6 rfl (eX _ (oi h1).symm (gE rfl rfl))
  exact nx 11 rfl (eX _ (oi h1).symm (gE rfl rfl))
 refine nx 9 rfl (fD [21] h0 rfl (λ c5 h0=>?_) λ c5 h0=>?_)
 ·refine nx 2 rfl (bd h0 λ o14 h1 h0=>?_)
  refine kN o14 (λ v15=>⟨[(2,.p (eB v15))],[]⟩) ?_ ?_
  ·exact nx 2 rfl (mQ (oi h0) rfl (sr))
  refine nx 5 rfl (fD [24,25] h1 rfl (λ c6 h1=>?_) λ c6 h1=>?_)
  ·exact nx 2 rfl (bd h1 λ r7 e8 h1=>oK (sN _ k_0.fStr _ e8) rfl ⟨sr,trivial⟩ Tryz.call132 rfl (nx 3 rfl (eX _ (oi h1).symm (gE rfl rfl))))
  exact nx 6 rfl (eX _ (oi h1).symm (gE rfl rfl))
 exact nx 6 rfl (mO rfl (Ap (k_0.fKind=0∧k_0.fNum=0∧k_0.fStr=([]:Bytes)) rfl rfl rfl rfl rfl rfl rfl (by kernel_rfl) rfl rfl (.inl ⟨rfl,rfl⟩) (nx 3 rfl (mQ (oi h0) rfl (sr)))))
def fC (n:Nat)(k_0:bJ):Option Bytes :=
 (
   (iZ n k_0).bind λ r1 =>
   if (!r1)=true then
    some true
   else
    some (decide (k_0.fKind=0))
  : Option Bool).bind λ t4 =>
 if t4=true then
  some ([]:Bytes)
 else
  if k_0.fKind=1 then
   (dC n k_0.fNum).bind λ r7 =>
   ck (([91]:Bytes).length+r7.length≤9223372036854775807) <|
   ck ((([91]:Bytes)++r7).length+([93]:Bytes).length≤9223372036854775807) <|
   some ((([91]:Bytes)++r7)++([93]:Bytes))
  else
   (jg n k_0.fStr).bind λ r11 =>
   ck (([91]:Bytes).length+r11.length≤9223372036854775807) <|
   ck ((([91]:Bytes)++r11).length+([93]:Bytes).length≤9223372036854775807) <|
   some ((([91]:Bytes)++r11)++([93]:Bytes))
theorem lv (n:Nat)(k_0:bJ)(r:Bytes)(h0:fC n k_0=some r):aw Tryz.prog 85 [.agg (bJ.cs k_0)] (·=.p (eS r)):=by
 unfold fC at h0
 refine a6 good Tryz.func85 rfl rfl rfl λ w0=>mP (λ v:Bytes=>.p (eS v)) ?_
 refine nx 7 rfl (bd h0 λ o16 h1 h0=>?_)
 refine kN o16 (λ v17=>⟨[(1,.ptr 1 0),(10,.p (eB v17))],[(1,(bJ.cs k_0).map .p)]⟩) ?_ ?_
 ·refine nx 1 rfl (fB [10] h0 rfl (λ c5 h0=>?_) λ c5 h0=>?_)
  ·exact nx 6 rfl (mQ (oi h0) rfl (sr))
  refine nx 9 rfl (fD [13] h0 rfl (λ c6 h0=>?_) λ c6 h0=>?_)
  ·exact nx 5 rfl (bd h0 λ r7 e8 h0=>oK (sd _ k_0.fNum _ e8) rfl ⟨sr,trivial⟩ Tryz.call109 rfl (oC h0 rfl λ hk9 h0=>oC h0 rfl λ hk10 h0=>nx 3 rfl (mQ (oi h0) rfl (sr))))
  exact nx 6 rfl (bd h0 λ r11 e12 h0=>oK (lk _ k_0.fStr _ e12) rfl ⟨sr,trivial⟩ Tryz.call110 rfl (oC h0 rfl λ hk13 h0=>oC h0 rfl λ hk14 h0=>nx 3 rfl (mQ (oi h0) rfl (sr))))
 refine nx 2 rfl (bd h1 λ r1 e2 h1=>oK (kM _ k_0 _ e2) rfl ⟨sr,trivial⟩ Tryz.call108 rfl (nx 2 rfl ?_))
 refine fB [5,6] h1 rfl (λ c3 h1=>?_) λ c3 h1=>?_
 ·exact nx 5 rfl (eX _ (oi h1).symm (gE rfl rfl))
 exact nx 5 rfl (eX _ (oi h1).symm (gE rfl rfl))
def gz (c_0:Int):Option Bool :=
 (
   if 97≤c_0 then
    if c_0≤122 then
     some true
    else
     if 65≤c_0 then
      if c_0≤90 then
       some true
      else
       some (decide (c_0=95))
     else
      some (decide (c_0=95))
   else
    if 65≤c_0 then
     if c_0≤90 then
      some true
     else
      some (decide (c_0=95))
    else
     some (decide (c_0=95))
  : Option Bool).bind λ t7 =>
 some t7
theorem kC (c_0:Int)(r:Bool)(h0:gz c_0=some r):aw Tryz.prog 129 [eK .u8 c_0] (·=.p (eB r)):=by
 unfold gz at h0
 refine a6 good Tryz.func129 rfl rfl rfl λ w0=>mP (λ v:Bool=>.p (eB v)) ?_
 refine nx 5 rfl (bd h0 λ o9 h1 h0=>?_)
 refine kN o9 (λ v10=>⟨[(2,.p (eB v10))],[]⟩) ?_ ?_
 ·exact nx 2 rfl (mQ (oi h0) rfl (sr))
 refine nx 4 rfl (fD [4,5] h1 rfl (λ c1 h1=>?_) λ c1 h1=>?_)
 ·refine nx 4 rfl (fD [7,8,9] h1 rfl (λ c2 h1=>?_) λ c2 h1=>?_)
  ·exact nx 13 rfl (eX _ (oi h1).symm (gE rfl rfl))
  refine nx 3 rfl (fD [11,12] h1 rfl (λ c3 h1=>?_) λ c3 h1=>?_)
  ·refine nx 5 rfl (fD [14,15,16,17] h1 rfl (λ c4 h1=>?_) λ c4 h1=>?_)
   ·exact nx 5 rfl (eX _ (oi h1).symm (gE rfl rfl))
   exact nx 5 rfl (eX _ (oi h1).symm (gE rfl rfl))
  exact nx 10 rfl (eX _ (oi h1).symm (gE rfl rfl))
 refine nx 7 rfl (fD [11,12] h1 rfl (λ c5 h1=>?_) λ c5 h1=>?_)
 ·refine nx 5 rfl (fD [14,15,16,17] h1 rfl (λ c6 h1=>?_) λ c6 h1=>?_)
  ·exact nx 5 rfl (eX _ (oi h1).symm (gE rfl rfl))
  exact nx 5 rfl (eX _ (oi h1).symm (gE rfl rfl))
 exact nx 10 rfl (eX _ (oi h1).symm (gE rfl rfl))
def cM (s_0:Bytes):Nat→Int→Option (Unit⊕Bool)
 | 0,_=>none
 | m+1,i20 =>
 if i20 < (s_0.length:Int) then
  (
    ck ((0:Int)≤i20∧i20 < (s_0.length:Int)) <|
    (gz (byt s_0 i20)).bind λ r23 =>
    if (!r23)=true then
     ck ((0:Int)≤i20∧i20 < (s_0.length:Int)) <|
     if byt s_0 i20 < 48 then
      some true
     else
      ck ((0:Int)≤i20∧i20 < (s_0.length:Int)) <|
      some (decide (57 < byt s_0 i20))
    else
     some false
   : Option Bool).bind λ t29 =>
  if t29=true then
   some (.inr false)
  else
   ck (inR (i20+1)) <|
   cM s_0 m (i20+1)
 else
  some (.inl ())
def cH (n:Nat)(s_0:Bytes):Option Bool :=
 (
   if s_0=([]:Bytes) then
    some true
   else
    if 64 < (s_0.length:Int) then
     some true
    else
     ck ((0:Int)≤0∧0 < (s_0.length:Int)) <|
     (gz (byt s_0 0)).bind λ r4 =>
     some (!r4)
  : Option Bool).bind λ t6 =>
 if t6=true then
  some false
 else
  jn (cM s_0 n 0) λ q34 =>
  some true
theorem dY (n:Nat)(s_0:Bytes)(r:Bool)(h0:cH n s_0=some r):aw Tryz.prog 105 [eS s_0] (·=.p (eB r)):=by
 unfold cH at h0
 refine a6 good Tryz.func105 rfl rfl rfl λ w0=>mP (λ v:Bool=>.p (eB v)) ?_
 refine nx 6 rfl (bd h0 λ o36 h1 h0=>?_)
 refine kN o36 (λ v37=>⟨[(0,.p (eS s_0)),(16,.p (eB v37))],[]⟩) ?_ ?_
 ·refine nx 1 rfl (fB [16] h0 rfl (λ c7 h0=>?_) λ c7 h0=>?_)
  ·exact nx 6 rfl (mQ (oi h0) rfl (sr))
  refine nx 8 rfl ?_
  obtain ⟨o38,h1,hL0,hR0⟩:=fQ h0
  refine kEx 0 (λ v39:Unit=>o38=.inl v39) (λ v39=>⟨[],[]⟩) (λ v39 hv=>?_) ?_
  ·have h0:=hL0 _ hv
   exact nx 6 rfl (mQ (oi h0) rfl (sr))
  refine lG (λ (q40:Int)=>⟨[(0,.p (eS s_0)),(3,.p (eI q40))],[]⟩) (λ m (q40:Int)=>cM s_0 m q40) (λ _=>rfl) 0 h1 (gE rfl rfl) ?_
  rintro m i20 h1
  replace h1:cM s_0 (m+1) i20=some o38:=h1
  rw [cM] at h1
  refine nx 5 rfl (oLs rfl (nx 2 rfl (fD [20] h1 rfl (λ c21 h1=>?_) λ c21 h1=>?_)))
  ·refine nx 5 rfl (bd h1 λ o41 h2 h1=>?_)
   refine kN o41 (λ v42=>⟨[(0,.p (eS s_0)),(3,.p (eI i20)),(39,.p (eB v42))],[]⟩) ?_ ?_
   ·refine nx 1 rfl (fB [39] h1 rfl (λ c30 h1=>?_) λ c30 h1=>?_)
    ·exact nx 6 rfl (mQ (hR0 _ (oi h1).symm) rfl (sr))
    exact nx 4 rfl (oA h1 rfl rfl λ hk31 h1=>nx 2 rfl (eX (i20+1) h1 (gE rfl rfl)))
   refine nx 3 rfl (oI h2 rfl λ hk22 h2=>bd h2 λ r23 e24 h2=>oK (kC (byt s_0 i20) _ e24) rfl ⟨sr,trivial⟩ Tryz.call129 rfl (nx 2 rfl ?_))
   refine fB [27,28] h2 rfl (λ c25 h2=>?_) λ c25 h2=>?_
   ·refine nx 2 rfl (oI h2 rfl λ hk26 h2=>nx 2 rfl (fD [32,33] h2 rfl (λ c27 h2=>?_) λ c27 h2=>?_))
    ·exact nx 7 rfl (eX _ (oi h2).symm (gE rfl rfl))
    exact nx 2 rfl (oI h2 rfl λ hk28 h2=>nx 4 rfl (eX _ (oi h2).symm (gE rfl rfl)))
   exact nx 12 rfl (eX _ (oi h2).symm (gE rfl rfl))
  exact nx 2 rfl (eXi _ (oi h1).symm (gE rfl rfl))
 refine nx 2 rfl (oS rfl rfl (nx 1 rfl (fD [5,6] h1 rfl (λ c1 h1=>?_) λ c1 h1=>?_)))
 ·exact nx 11 rfl (eX _ (oi h1).symm (gE rfl rfl))
 refine nx 1 rfl (oLs rfl (nx 3 rfl (fD [9,10,11] h1 rfl (λ c2 h1=>?_) λ c2 h1=>?_)))
 ·exact nx 6 rfl (eX _ (oi h1).symm (gE rfl rfl))
 exact nx 1 rfl (oI h1 rfl λ hk3 h1=>bd h1 λ r4 e5 h1=>oK (kC (byt s_0 0) _ e5) rfl ⟨sr,trivial⟩ Tryz.call129 rfl (nx 3 rfl (eX _ (oi h1).symm (gE rfl rfl))))
def cS (s_0:Bytes):Nat→Int→Option (Unit⊕Bool)
 | 0,_=>none
 | m+1,i6 =>
 if i6 < (([([109,111,100,117,108,101]:Bytes),([100,97,116,97]:Bytes),([118,97,114]:Bytes),([108,111,99,97,108]:Bytes),([111,117,116,112,117,116]:Bytes),([101,97,99,104]:Bytes),([99,111,117,110,116]:Bytes),([114,101,109,111,116,101]:Bytes),([112,97,116,104]:Bytes),([115,101,108,102]:Bytes),([99,104,97,110,103,101]:Bytes)]).length:Int) then
  ck ((0:Int)≤i6∧i6 < (([([109,111,100,117,108,101]:Bytes),([100,97,116,97]:Bytes),([118,97,114]:Bytes),([108,111,99,97,108]:Bytes),([111,117,116,112,117,116]:Bytes),([101,97,99,104]:Bytes),([99,111,117,110,116]:Bytes),([114,101,109,111,116,101]:Bytes),([112,97,116,104]:Bytes),([115,101,108,102]:Bytes),([99,104,97,110,103,101]:Bytes)]).length:Int)) <|
  if lat ([([109,111,100,117,108,101]:Bytes),([100,97,116,97]:Bytes),([118,97,114]:Bytes),([108,111,99,97,108]:Bytes),([111,117,116,112,117,116]:Bytes),([101,97,99,104]:Bytes),([99,111,117,110,116]:Bytes),([114,101,109,111,116,101]:Bytes),([112,97,116,104]:Bytes),([115,101,108,102]:Bytes),([99,104,97,110,103,101]:Bytes)]) i6=s_0 then
   some (.inr true)
  else
   ck (inR (i6+1)) <|
   cS s_0 m (i6+1)
 else
  some (.inl ())
def f0 (n:Nat)(s_0:Bytes):Option Bool :=
 jn (cS s_0 n 0) λ q12 =>
 some false
theorem lL (n:Nat)(s_0:Bytes)(r:Bool)(h0:f0 n s_0=some r):aw Tryz.prog 106 [eS s_0] (·=.p (eB r)):=by
 unfold f0 at h0
 refine a6 good Tryz.func106 rfl rfl rfl λ w0=>mP (λ v:Bool=>.p (eB v)) ?_
 refine nx 6 rfl (mO rfl (bn eS [([109,111,100,117,108,101]:Bytes),([100,97,116,97]:Bytes),([118,97,114]:Bytes),([108,111,99,97,108]:Bytes),([111,117,116,112,117,116]:Bytes),([101,97,99,104]:Bytes),([99,111,117,110,116]:Bytes),([114,101,109,111,116,101]:Bytes),([112,97,116,104]:Bytes),([115,101,108,102]:Bytes),([99,104,97,110,103,101]:Bytes)] rfl rfl rfl rfl rfl rfl rfl rfl rfl rfl rfl rfl rfl rfl (nx 8 rfl ?_)))
 obtain ⟨o13,h1,hL0,hR0⟩:=fQ h0
 refine kEx 0 (λ v14:Unit=>o13=.inl v14) (λ v14=>⟨[],[]⟩) (λ v14 hv=>?_) ?_
 ·have h0:=hL0 _ hv
  exact nx 6 rfl (mQ (oi h0) rfl (sr))
 refine lG (λ (q15:Int)=>⟨[(0,.p (eS s_0)),(3,.p (eL eS ([([109,111,100,117,108,101]:Bytes),([100,97,116,97]:Bytes),([118,97,114]:Bytes),([108,111,99,97,108]:Bytes),([111,117,116,112,117,116]:Bytes),([101,97,99,104]:Bytes),([99,111,117,110,116]:Bytes),([114,101,109,111,116,101]:Bytes),([112,97,116,104]:Bytes),([115,101,108,102]:Bytes),([99,104,97,110,103,101]:Bytes)]))),(4,.p (eI q15))],[]⟩) (λ m (q15:Int)=>cS s_0 m q15) (λ _=>rfl) 0 h1 (gE rfl rfl) ?_
 rintro m i6 h1
 replace h1:cS s_0 (m+1) i6=some o13:=h1
 rw [cS] at h1
 refine nx 5 rfl (oLl (f:=eS) rfl rfl (nx 2 rfl (fD [9] h1 rfl (λ c7 h1=>?_) λ c7 h1=>?_)))
 ·refine nx 8 rfl (oE h1 (λ _=>rfl) rfl rfl (λ _=>rfl) λ hk8 h1=>nx 2 rfl (oS rfl rfl (nx 1 rfl (fD [17] h1 rfl (λ c9 h1=>?_) λ c9 h1=>?_))))
  ·exact nx 6 rfl (mQ (hR0 _ (oi h1).symm) rfl (sr))
  exact nx 4 rfl (oA h1 rfl rfl λ hk10 h1=>nx 2 rfl (eX (i6+1) h1 (gE rfl rfl)))
 exact nx 2 rfl (eXi _ (oi h1).symm (gE rfl rfl))
def em (n:Nat)(a_0:ae):Nat→Int→Option (Unit⊕Int)
 | 0,_=>none
 | m+1,i13 =>
 if i13 < (a_0.fModule.length:Int) then
  ck ((0:Int)≤i13∧i13 < (a_0.fModule.length:Int)) <|
  (cH n ((lat a_0.fModule i13).fName)).bind λ r16 =>
  if (!r16)=true then
   some (.inr 7)
  else
   ck ((0:Int)≤i13∧i13 < (a_0.fModule.length:Int)) <|
   (iZ n ((lat a_0.fModule i13).fKey)).bind λ r20 =>
   if (!r20)=true then
    some (.inr 1)
   else
    ck (inR (i13+1)) <|
    em n a_0 m (i13+1)
 else
  some (.inl ())
def j7 (n:Nat)(a_0:ae):Option Int :=
 if 16 < (a_0.fModule.length:Int) then
  some 4
 else
  jn (em n a_0 n 0) λ q38 =>
  (
    (cH n a_0.fType).bind λ r25 =>
    if (!r25)=true then
     some true
    else
     (f0 n a_0.fType).bind λ r28 =>
     if r28=true then
      some true
     else
      (cH n a_0.fName).bind λ r31 =>
      some (!r31)
   : Option Bool).bind λ t33 =>
  if t33=true then
   some 7
  else
   (iZ n a_0.fKey).bind λ r35 =>
   if (!r35)=true then
    some 1
   else
    some 0
theorem sZ (n:Nat)(a_0:ae)(r:Int)(h0:j7 n a_0=some r):aw Tryz.prog 83 [.agg (ae.cs a_0)] (·=.p (eI r)):=by
 unfold j7 at h0
 refine a6 good Tryz.func83 rfl rfl rfl λ w0=>mP (λ v:Int=>.p (eI v)) ?_
 refine nx 10 rfl (oLl (f:=ac) rfl rfl (nx 2 rfl (fD [7] h0 rfl (λ c1 h0=>?_) λ c1 h0=>?_)))
 ·exact nx 6 rfl (mQ (oi h0) rfl (sr))
 refine nx 8 rfl ?_
 obtain ⟨o40,h1,hL0,hR0⟩:=fQ h0
 refine kEx 0 (λ v41:Unit=>o40=.inl v41) (λ v41=>⟨[(1,.ptr 1 0)],[(1,(ae.cs a_0).map .p)]⟩) (λ v41 hv=>?_) ?_
 ·have h0:=hL0 _ hv
  refine nx 3 rfl (bd h0 λ o42 h1 h0=>?_)
  refine kN o42 (λ v43=>⟨[(1,.ptr 1 0),(45,.p (eB v43))],[(1,(ae.cs a_0).map .p)]⟩) ?_ ?_
  ·refine nx 1 rfl (fB [45] h0 rfl (λ c34 h0=>?_) λ c34 h0=>?_)
   ·exact nx 6 rfl (mQ (oi h0) rfl (sr))
   refine nx 7 rfl (bd h0 λ r35 e36 h0=>oK (kM _ a_0.fKey _ e36) rfl ⟨sr,trivial⟩ Tryz.call108 rfl (nx 2 rfl ?_))
   refine fB [49] h0 rfl (λ c37 h0=>?_) λ c37 h0=>?_
   ·exact nx 6 rfl (mQ (oi h0) rfl (sr))
   exact nx 7 rfl (mQ (oi h0) rfl (sr))
  refine nx 3 rfl (bd h1 λ r25 e26 h1=>oK (dY _ a_0.fType _ e26) rfl ⟨sr,trivial⟩ Tryz.call105 rfl (nx 2 rfl ?_))
  refine fB [34,35] h1 rfl (λ c27 h1=>?_) λ c27 h1=>?_
  ·exact nx 11 rfl (eX _ (oi h1).symm (gE rfl rfl))
  refine nx 2 rfl (bd h1 λ r28 e29 h1=>oK (lL _ a_0.fType _ e29) rfl ⟨sr,trivial⟩ Tryz.call106 rfl (nx 2 rfl ?_))
  refine fB [38,39,40] h1 rfl (λ c30 h1=>?_) λ c30 h1=>?_
  ·exact nx 6 rfl (eX _ (oi h1).symm (gE rfl rfl))
  exact nx 2 rfl (bd h1 λ r31 e32 h1=>oK (dY _ a_0.fName _ e32) rfl ⟨sr,trivial⟩ Tryz.call105 rfl (nx 3 rfl (eX _ (oi h1).symm (gE rfl rfl))))
 refine lG (λ (q44:Int)=>⟨[(1,.ptr 1 0),(3,.p (eI q44))],[(1,(ae.cs a_0).map .p)]⟩) (λ m (q44:Int)=>em n a_0 m q44) (λ _=>rfl) 0 h1 (gE rfl rfl) ?_
 rintro m i13 h1
 replace h1:em n a_0 (m+1) i13=some o40:=h1
 rw [em] at h1
 refine nx 6 rfl (oLl (f:=ac) rfl rfl (nx 2 rfl (fD [12] h1 rfl (λ c14 h1=>?_) λ c14 h1=>?_)))
 ·refine nx 10 rfl (oE h1 ab.cells_eq rfl rfl (λ _=>rfl) λ hk15 h1=>nx 2 rfl (bd h1 λ r16 e17 h1=>oK (dY _ ((lat a_0.fModule i13).fName) _ e17) rfl ⟨sr,trivial⟩ Tryz.call105 rfl (nx 2 rfl ?_)))
  refine fB [22] h1 rfl (λ c18 h1=>?_) λ c18 h1=>?_
  ·exact nx 6 rfl (mQ (hR0 _ (oi h1).symm) rfl (sr))
  refine nx 7 rfl (oE h1 ab.cells_eq rfl rfl (λ _=>rfl) λ hk19 h1=>nx 2 rfl (bd h1 λ r20 e21 h1=>oK (kM _ ((lat a_0.fModule i13).fKey) _ e21) rfl ⟨sr,trivial⟩ Tryz.call108 rfl (nx 2 rfl ?_)))
  refine fB [30] h1 rfl (λ c22 h1=>?_) λ c22 h1=>?_
  ·exact nx 6 rfl (mQ (hR0 _ (oi h1).symm) rfl (sr))
  exact nx 4 rfl (oA h1 rfl rfl λ hk23 h1=>nx 2 rfl (eX (i13+1) h1 (gE rfl rfl)))
 exact nx 2 rfl (eXi _ (oi h1).symm (gE rfl rfl))
def ey (n:Nat)(l_0:List ab):Nat→Bytes→Int→Option Bytes
 | 0,_,_=>none
 | m+1,s13,i14 =>
 if i14 < (l_0.length:Int) then
  ck (s13.length+([109,111,100,117,108,101,46]:Bytes).length≤9223372036854775807) <|
  ck ((0:Int)≤i14∧i14 < (l_0.length:Int)) <|
  ck ((s13++([109,111,100,117,108,101,46]:Bytes)).length+((lat l_0 i14).fName).length≤9223372036854775807) <|
  ck ((0:Int)≤i14∧i14 < (l_0.length:Int)) <|
  (fC n ((lat l_0 i14).fKey)).bind λ r20 =>
  ck (((s13++([109,111,100,117,108,101,46]:Bytes))++((lat l_0 i14).fName)).length+r20.length≤9223372036854775807) <|
  ck ((((s13++([109,111,100,117,108,101,46]:Bytes))++((lat l_0 i14).fName))++r20).length+([46]:Bytes).length≤9223372036854775807) <|
  ck (inR (i14+1)) <|
  ey n l_0 m ((((s13++([109,111,100,117,108,101,46]:Bytes))++((lat l_0 i14).fName))++r20)++([46]:Bytes)) (i14+1)
 else
  some s13
def lR (n:Nat)(l_0:List ab):Option Bytes :=
 (ey n l_0 n ([]:Bytes) 0).bind λ s27 =>
 some s27
theorem sQ (n:Nat)(l_0:List ab)(r:Bytes)(h0:lR n l_0=some r):aw Tryz.prog 84 [eL ac l_0] (·=.p (eS r)):=by
 unfold lR at h0
 refine a6 good Tryz.func84 rfl rfl rfl λ w0=>mP (λ v:Bytes=>.p (eS v)) ?_
 refine nx 14 rfl (bd h0 λ o29 h1 h0=>?_)
 refine kE 0 o29 (λ v30=>⟨[(3,.p (eS v30))],[]⟩) ?_ ?_
 ·exact nx 7 rfl (mQ (oi h0) rfl (sr))
 refine lG (λ (q31:Bytes×Int)=>⟨[(0,.p (eL ac l_0)),(3,.p (eS q31.1)),(4,.p (eI q31.2))],[]⟩) (λ m (q31:Bytes×Int)=>ey n l_0 m q31.1 q31.2) (λ _=>rfl) (([]:Bytes),0) h1 (gE rfl rfl) ?_
 rintro m ⟨s13,i14⟩ h1
 replace h1:ey n l_0 (m+1) s13 i14=some o29:=h1
 rw [ey] at h1
 refine nx 5 rfl (oLl (f:=ac) rfl rfl (nx 2 rfl (fD [8] h1 rfl (λ c15 h1=>?_) λ c15 h1=>?_)))
 ·refine nx 4 rfl (cc' h1 λ hk16 h1=>cc' h1 λ hk17 h1=>cc' h1 λ hk18 h1=>cc' h1 λ hk19 h1=>bd h1 λ r20 e21 h1=>cc' h1 λ hk22 h1=>cc' h1 λ hk23 h1=>mG (gE (t:=⟨[(0,.p (eL ac l_0)),(3,.p (eS s13)),(4,.p (eI i14))],[]⟩) rfl rfl) (mSq ⟨1,[16],(λ _=>.none),(by2 [(0,.p (eL ac l_0)),(3,.p (eS s13)),(4,.p (eI i14))] [(0,.p (eL ac l_0)),(4,.p (eI i14))]),(λ _=>[])⟩ rfl (dPc (.p (eS s13)) rfl (bs (λ _=>.p (eS (s13++([109,111,100,117,108,101,46]:Bytes)))) rfl rfl rfl (gP rfl (λ _=>rfl)) (lt1 rfl) (bi rfl (aT [(11,_)] ⟨.inr ⟨0,_,rfl,rfl,rfl⟩,trivial⟩ (λ sl hsl K hK=>ay rfl (bg rfl rfl rfl (hsl _ _ rfl) rfl hk16 hK)) bp)) (dPc (.p (eL ac l_0)) rfl (dPc (.p (eI i14)) rfl ?_))))))
  refine bs (λ _=>.rptr (ab.cs (lat l_0 i14))) rfl rfl rfl (gP rfl (λ _=>rfl)) (lt1 rfl) (bi rfl (aT [(13,_),(14,_)] ⟨.inr ⟨2,_,rfl,rfl,rfl⟩,.inr ⟨3,_,rfl,rfl,rfl⟩,trivial⟩ (λ sl hsl K hK=>ay rfl (vU (f:=ac) (l:=l_0) ab.cs rfl rfl rfl rfl rfl rfl (hsl _ _ rfl) rfl (hsl _ _ rfl) hk17 ab.cells_eq (λ _=>rfl) hK)) bp)) (dPc (.rptr (List.drop 0 (ab.cs (lat l_0 i14)))) rfl ?_)
  refine dPc (.p (eS ((lat l_0 i14).fName))) rfl (bs (λ _=>.p (eS ((s13++([109,111,100,117,108,101,46]:Bytes))++((lat l_0 i14).fName)))) rfl rfl rfl (gP rfl (λ _=>rfl)) (lt1 rfl) (bi rfl (aT [(12,_),(17,_)] ⟨.inr ⟨1,_,rfl,rfl,rfl⟩,.inr ⟨6,_,rfl,rfl,rfl⟩,trivial⟩ (λ sl hsl K hK=>ay rfl (bg rfl rfl rfl (hsl _ _ rfl) (hsl _ _ rfl) hk18 hK)) bp)) (dPc (.p (eL ac l_0)) rfl (dPc (.p (eI i14)) rfl ?_)))
  refine bs (λ _=>.rptr (ab.cs (lat l_0 i14))) rfl rfl rfl (gP rfl (λ _=>rfl)) (lt1 rfl) (bi rfl (aT [(19,_),(20,_)] ⟨.inr ⟨8,_,rfl,rfl,rfl⟩,.inr ⟨9,_,rfl,rfl,rfl⟩,trivial⟩ (λ sl hsl K hK=>ay rfl (vU (f:=ac) (l:=l_0) ab.cs rfl rfl rfl rfl rfl rfl (hsl _ _ rfl) rfl (hsl _ _ rfl) hk19 ab.cells_eq (λ _=>rfl) hK)) bp)) (dPc (.rptr (List.drop 1 (ab.cs (lat l_0 i14)))) rfl ?_)
  refine dPc (.p (.agg (bJ.cs ((lat l_0 i14).fKey)))) rfl (bs (λ _=>.p (eS r20)) rfl rfl rfl (gP rfl (λ _=>rfl)) (lt1 rfl) (bi rfl (aT [(23,_)] ⟨.inr ⟨12,_,rfl,rfl,rfl⟩,trivial⟩ (λ sl hsl K hK=>ay rfl (b6 (lv _ ((lat l_0 i14).fKey) _ e21) rfl rfl rfl (aX (hsl _ _ rfl) b5) ⟨sr,trivial⟩ Tryz.call85 rfl hK)) bp)) ?_)
  refine bs (λ _=>.p (eS (((s13++([109,111,100,117,108,101,46]:Bytes))++((lat l_0 i14).fName))++r20))) rfl rfl rfl (gP rfl (λ _=>rfl)) (lt1 rfl) (bi rfl (aT [(18,_),(24,_)] ⟨.inr ⟨7,_,rfl,rfl,rfl⟩,.inr ⟨13,_,rfl,rfl,rfl⟩,trivial⟩ (λ sl hsl K hK=>ay rfl (bg rfl rfl rfl (hsl _ _ rfl) (hsl _ _ rfl) hk22 hK)) bp)) (bs (λ _=>.p (eS ((((s13++([109,111,100,117,108,101,46]:Bytes))++((lat l_0 i14).fName))++r20)++([46]:Bytes)))) rfl rfl rfl (gP rfl (λ _=>rfl)) (lt1 rfl) (bi rfl (aT [(25,_)] ⟨.inr ⟨14,_,rfl,rfl,rfl⟩,trivial⟩ (λ sl hsl K hK=>ay rfl (bg rfl rfl rfl (hsl _ _ rfl) rfl hk23 hK)) bp)) ?_)
  refine gx (λ _=>.p (eS ((((s13++([109,111,100,117,108,101,46]:Bytes))++((lat l_0 i14).fName))++r20)++([46]:Bytes)))) [(26,_)] rfl ⟨.inr ⟨15,_,rfl,rfl,rfl⟩,trivial⟩ rfl rfl (λ _=>rfl) (lt1 (λ h=>absurd h (by decide))) (λ sl hsl K hK=>ay rfl (bc rfl rfl rfl (hsl _ _ rfl) hK)) (iq ?_)
  exact nx 3 rfl (oA h1 rfl rfl λ hk24 h1=>nx 2 rfl (eX ((((s13++([109,111,100,117,108,101,46]:Bytes))++((lat l_0 i14).fName))++r20)++([46]:Bytes),i14+1) h1 (gE rfl rfl)))
 exact nx 2 rfl (eXi _ (oi h1).symm (gE rfl rfl))
def jx (n:Nat)(a_0:ae):Option Bytes :=
 (j7 n a_0).bind λ r1 =>
 if r1=0 then
  (lR n a_0.fModule).bind λ r4 =>
  (
    if a_0.fData=true then
     ck (r4.length+([100,97,116,97,46]:Bytes).length≤9223372036854775807) <|
     some (r4++([100,97,116,97,46]:Bytes))
    else
     some r4
   : Option Bytes).bind λ s8 =>
  ck (s8.length+a_0.fType.length≤9223372036854775807) <|
  ck ((s8++a_0.fType).length+([46]:Bytes).length≤9223372036854775807) <|
  ck (((s8++a_0.fType)++([46]:Bytes)).length+a_0.fName.length≤9223372036854775807) <|
  (fC n a_0.fKey).bind λ r12 =>
  ck ((((s8++a_0.fType)++([46]:Bytes))++a_0.fName).length+r12.length≤9223372036854775807) <|
  some ((((s8++a_0.fType)++([46]:Bytes))++a_0.fName)++r12)
 else
  some ([]:Bytes)
theorem rU (n:Nat)(a_0:ae)(r:Bytes)(h0:jx n a_0=some r):aw Tryz.prog 54 [.agg (ae.cs a_0)] (·=.p (eS r)):=by
 unfold jx at h0
 refine a6 good Tryz.func54 rfl rfl rfl λ w0=>mP (λ v:Bytes=>.p (eS v)) ?_
 refine nx 9 rfl (bd h0 λ r1 e2 h0=>oK (sZ _ a_0 _ e2) rfl ⟨sr,trivial⟩ Tryz.call83 rfl (nx 2 rfl ?_))
 refine fN [6] h0 rfl (λ c3 h0=>?_) λ c3 h0=>?_
 ·refine nx 6 rfl (bd h0 λ r4 e5 h0=>oK (sQ _ a_0.fModule _ e5) rfl ⟨sr,trivial⟩ Tryz.call84 rfl (nx 3 rfl (bd h0 λ o16 h1 h0=>kN o16 (λ v17=>⟨[(1,.ptr 1 0),(3,.p (eS v17))],[(1,(ae.cs a_0).map .p)]⟩) ?_ ?_)))
  ·refine nx 2 rfl (cc' h0 λ hk9 h0=>cc' h0 λ hk10 h0=>cc' h0 λ hk11 h0=>bd h0 λ r12 e13 h0=>cc' h0 λ hk14 h0=>mD [(1,.ptr 1 0),(3,.p (eS o16))] rfl ⟨rfl,rfl,trivial⟩ rfl (dR 3 rfl (dq (.p (eS (o16++a_0.fType))) [14,16] rfl (λ _ e _ q=>ay rfl (bg rfl rfl rfl (e _ _ rfl) (e _ _ rfl) hk9 q)) rfl (dq (.p (eS ((o16++a_0.fType)++([46]:Bytes)))) [17] rfl (λ _ e _ q=>ay rfl (bg rfl rfl rfl (e _ _ rfl) rfl hk10 q)) rfl (dR 2 rfl (dq (.p (eS (((o16++a_0.fType)++([46]:Bytes))++a_0.fName))) [18,20] rfl (λ _ e _ q=>ay rfl (bg rfl rfl rfl (e _ _ rfl) (e _ _ rfl) hk11 q)) rfl (dR 2 rfl (dq (.p (eS r12)) [23] rfl (λ _ e _ q=>ay rfl (b6 (lv _ a_0.fKey _ e13) rfl rfl rfl (aX (e _ _ rfl) b5) ⟨sr,trivial⟩ Tryz.call85 rfl q)) rfl (dq (.p (eS ((((o16++a_0.fType)++([46]:Bytes))++a_0.fName)++r12))) [21,24] rfl (λ _ e _ q=>ay rfl (bg rfl rfl rfl (e _ _ rfl) (e _ _ rfl) hk14 q)) rfl (dR 1 rfl ?_))))))))))
   refine dE rfl (nx 2 rfl ?_)
   exact mQ (oi h0) rfl (sr)
  refine nx 5 rfl (fB [11] h1 rfl (λ c6 h1=>?_) λ c6 h1=>?_)
  ·exact nx 3 rfl (oC h1 rfl λ hk7 h1=>nx 2 rfl (eX _ (oi h1).symm (gE rfl rfl)))
  exact nx 2 rfl (eX _ (oi h1).symm (gE rfl rfl))
 exact nx 6 rfl (mQ (oi h0) rfl (sr))
end Go.Ab.R06
end
