/- Texts of the proof, one behind the other. No statement is proved here. -/
import Derived.Lib.MapLaws
import Derived.Lib.ValidLaws
import Derived.Test.YtgdcfenbmcflkaaGreatDoorZ42Da
import Derived.Test.YtgdcfenbmcflkaaGreatDoorZ42Db
import Derived.Test.YtgdcfenbmcflkaaGreatDoorZ42Dc
import Derived.Test.YtgdcfenbmcflkaaGreatDoorZ42Dd
set_option maxHeartbeats 4000000
section
namespace Go.Ab.R06
open Go.Proofs Go.Ab Go.Ab.RB
attribute [local irreducible] awp ei aS aC bC AV.sub M dN
abbrev sT:List AV:=[.p (eS ([]:Bytes)),.p (eS ([]:Bytes)),.p (eS ([]:Bytes)),.p (eI 0),.p (eI 0),.p (eI 0),.p (eI 0),.p (eS ([]:Bytes)),.p (.val (.slice none 0 0)),.p (.val (.slice none 0 0)),.p (eI 0),.p (eI 0),.p (eS ([]:Bytes)),.p (.val (.slice none 0 0)),.p (.val (.slice none 0 0)),.p (eS ([]:Bytes)),.p (.val (.slice none 0 0)),.p (eB false),.p (eB false),.p (eB false),.p (.val (.slice none 0 0)),.p (.val (.slice none 0 0))]
abbrev nk:List AV:=[.p (eI 0),.p (eI 0),.p (eS ([]:Bytes)),.p (.val (.slice none 0 0)),.p (.val (.slice none 0 0))]
def cT (targets_0:List Bytes):Nat→Int→Option (Unit⊕Int)
 | 0,_=>none
 | m+1,t8 =>
 if t8 < (targets_0.length:Int) then
  ck ((0:Int)≤t8∧t8 < (targets_0.length:Int)) <|
  ck ((lat targets_0 t8).length≤65536) <|
  if Glob.check (lat targets_0 t8)=0 then
   ck (inR (t8+1)) <|
   cT targets_0 m (t8+1)
  else
   some (.inr (Glob.check (lat targets_0 t8)))
 else
  some (.inl ())
def fk (n:Nat)(targets_0:List Bytes):Option Int :=
 if 64 < (targets_0.length:Int) then
  some 14
 else
  jn (cT targets_0 n 0) λ q15 =>
  some 0
theorem nI (n:Nat)(targets_0:List Bytes)(r:Int)(h0:fk n targets_0=some r):aC Tryz.prog 11 [eL eS targets_0] (·=.p (eI r)):=by
 unfold fk at h0
 refine bc good Tryz.func11 Z Z Z λ w0=>mP (λ v:Int=>.p (eI v)) ?_
 refine nx 8 Z (oLl (f:=eS) Z Z (nx 2 Z (fD [8] h0 Z (λ c1 h0=>?_) λ c1 h0=>?_)))
 ·exact nx 6 Z (mQ (oi h0) Z (sr))
 refine nx 6 Z (oLl (f:=eS) Z Z (nx 3 Z ?_))
 obtain ⟨o16,h1,hL0,hR0⟩:=fc h0
 refine kEx 0 (λ v17:Unit=>o16=.inl v17) (λ v17=>⟨[],[]⟩) (λ v17 hv=>?_) ?_
 ·have h0:=hL0 _ hv
  exact nx 6 Z (mQ (oi h0) Z (sr))
 refine lG (λ (q18:Int)=>⟨[(9,.p (eL eS targets_0)),(10,.p (eI (targets_0.length:Int))),(11,.p (eI q18))],[]⟩) (λ m (q18:Int)=>cT targets_0 m q18) Y 0 h1 (gE Z Z) ?_
 rintro m t8 h1
 replace h1:cT targets_0 (m+1) t8=some o16:=h1
 rw [cT] at h1
 refine nx 5 Z (fD [12] h1 Z (λ c9 h1=>?_) λ c9 h1=>?_)
 ·refine nx 6 Z (oE h1 Y Z Z Y λ hk10 h1=>nx 6 Z (cc' h1 λ hk11 h1=>oK (Glob.check_ok (lat targets_0 t8) hk11) Z ⟨sr,trivial⟩ Tryz.call28 Z (nx 7 Z ?_)))
  refine fN [18] h1 Z (λ c12 h1=>?_) λ c12 h1=>?_
  ·exact nx 3 Z (oA h1 Z Z λ hk13 h1=>nx 2 Z (eX (t8+1) h1 (gE Z Z)))
  exact nx 7 Z (mQ (hR0 _ (oi h1).symm) Z (sr))
 exact nx 2 Z (eXi _ (oi h1).symm (gE Z Z))
def cS (n:Nat)(targets_0:List Bytes)(addr_1:Bytes):Option Bool :=
 (
   if (targets_0.length:Int)=0 then
    some true
   else
    (jM n targets_0 addr_1).bind λ r2 =>
    some r2
  : Option Bool).bind λ t4 =>
 if t4=true then
  some true
 else
  (ef n addr_1).bind λ r6 =>
  (
    if r6.2=0 then
     (jM n targets_0 r6.1).bind λ r9 =>
     some r9
    else
     some false
   : Option Bool).bind λ t11 =>
  some t11
theorem gT (n:Nat)(targets_0:List Bytes)(addr_1:Bytes)(r:Bool)(h0:cS n targets_0 addr_1=some r):aC Tryz.prog 15 [eL eS targets_0,eS addr_1] (·=.p (eB r)):=by
 unfold cS at h0
 refine bc good Tryz.func15 Z Z Z λ w0=>mP (λ v:Bool=>.p (eB v)) ?_
 refine nx 6 Z (bd h0 λ o14 h1 h0=>?_)
 refine kN o14 (λ v15=>⟨[(0,.p (eL eS targets_0)),(1,.p (eS addr_1)),(14,.p (eB v15))],[]⟩) ?_ ?_
 ·refine nx 1 Z (fB [14] h0 Z (λ c5 h0=>?_) λ c5 h0=>?_)
  ·exact nx 6 Z (mQ (oi h0) Z (sr))
  refine nx 5 Z (bd h0 λ r6 e7 h0=>oK (me _ addr_1 _ e7) Z ⟨sr,trivial⟩ Tryz.call32 Z (nx 7 Z (bd h0 λ o16 h1 h0=>kN o16 (λ v17=>⟨[(4,.p (eB v17))],[]⟩) ?_ ?_)))
  ·exact nx 2 Z (mQ (oi h0) Z (sr))
  refine nx 4 Z (fD [21,22] h1 Z (λ c8 h1=>?_) λ c8 h1=>?_)
  ·exact nx 2 Z (bd h1 λ r9 e10 h1=>oK (ss _ targets_0 r6.1 _ e10) Z ⟨sr,sr,trivial⟩ Tryz.call31 Z (nx 3 Z (eX _ (oi h1).symm (gE Z Z))))
  exact nx 6 Z (eX _ (oi h1).symm (gE Z Z))
 refine nx 2 Z (oLl (f:=eS) Z Z (nx 2 Z (fD [9,10] h1 Z (λ c1 h1=>?_) λ c1 h1=>?_)))
 ·exact nx 5 Z (eX _ (oi h1).symm (gE Z Z))
 exact nx 2 Z (bd h1 λ r2 e3 h1=>oK (ss _ targets_0 addr_1 _ e3) Z ⟨sr,sr,trivial⟩ Tryz.call31 Z (nx 2 Z (eX _ (oi h1).symm (gE Z Z))))
def dT (x_0:cM)(i_1:Int):Option cM :=
 ck ((0:Int)≤i_1∧i_1 < (x_0.fchosen.length:Int)) <|
 if (!(lat x_0.fchosen i_1))=true then
  ck ((0:Int)≤i_1∧i_1 < (x_0.fchosen.length:Int)) <|
  ck ((x_0.ftodo.length+[i_1].length)*8≤140737488355328) <|
  some (cM.mk x_0.fchanges x_0.fresources (x_0.fchosen.set i_1.toNat true) (x_0.ftodo++[i_1]))
 else
  some x_0
theorem iY (x_0:cM)(i_1:Int)(r:cM)(h0:dT x_0 i_1=some r):bC Tryz.prog 39 [.ptr 1000000 0,.p (eI i_1)] [(1000000,[.p (eL ae x_0.fchanges),.arr 1000001 1 0 x_0.fresources.length,.arr 1000002 1 0 x_0.fchosen.length,.stk 900000 1 (x_0.ftodo.map eI)]),(1000001,(x_0.fresources.map eS).map .p),(1000002,(x_0.fchosen.map eB).map .p)] (λ x y=>x=.tuple []∧y=[(1000000,[.p (eL ae r.fchanges),.arr 1000001 1 0 r.fresources.length,.arr 1000002 1 0 r.fchosen.length,.stk 2000000 1 (r.ftodo.map eI)]),(1000001,(r.fresources.map eS).map .p),(1000002,(r.fchosen.map eB).map .p)]):=by
 unfold dT at h0
 refine gv good [800000] [1000000,1000001,1000002] Tryz.func39 Z Z Z Z Z λ w0 F=>mPo (λ v:cM=>.tuple []) (λ v=>[(1000000,[.p (eL ae v.fchanges),.arr 1000001 1 0 v.fresources.length,.arr 1000002 1 0 v.fchosen.length,.stk 2000000 1 (v.ftodo.map eI)]),(1000001,(v.fresources.map eS).map .p),(1000002,(v.fchosen.map eB).map .p)]) ?_
 refine nx 7 Z (cc' h0 λ hk1 h0=>mO Z (aY Z Z Z Z Z Z Z Z Z hk1 (mO Z (bu (default:Bool) (f:=eB) (l:=x_0.fchosen) Z Z Z Z Z Z Z (by have:=hk1; omega) (nx 2 Z (fB [11] h0 Z (λ c2 h0=>?_) λ c2 h0=>?_))))))
 ·refine nx 8 Z (cc' h0 λ hk3 h0=>mO Z (aY Z Z Z Z Z Z Z Z Z hk3 (mO Z (dm (f:=eB) (l:=x_0.fchosen) (b:=true) Z Z Z Z Z Z Z Z (by have:=hk3; omega) (nx 8 Z (mO Z (bw eI [i_1] Z Z Z Z Z Z Z Z Z Z Z Z Z Z (cc' h0 λ hk4 h0=>?_))))))))
  skip; refine mO Z (tp eI (λ _=>⟨Z,Z⟩) x_0.ftodo [i_1] Z Z Z Z Z Z Z Z Z Z Z Z (Nat.zero_lt_succ _) Z Z Z hk4 Z (by repeat (first | exact rfl | apply ns Z | apply dmO_drop Z | apply np Z Z)) ?_)
  refine nx 4 Z ?_
  skip; refine mG (bv 900000 800000 Z Z Z Z (by repeat (first | exact rfl | exact aN _ | apply aK))) ?_
  exact AM (oi h0) (bU _) Z Z Z (aK Z Z (aK Z (aN _) (aK Z (aN _) Z))) (sr) ⟨⟨_,Z,⟨sr,sr,AV.sub_of_eq (by first | rfl | (simp; done) | (simp [AV.dem]; rfl)),sr,trivial⟩⟩,⟨_,Z,aw _⟩,⟨_,Z,aw _⟩,trivial⟩
 refine nx 2 Z ?_
 skip; refine mG (bv 900000 800000 Z Z Z Z (by repeat (first | exact rfl | exact aN _ | apply aK))) ?_
 exact AM (oi h0) (bU _) Z Z Z (aK Z Z (aK Z (aN _) (aK Z (aN _) Z))) (sr) ⟨⟨_,Z,⟨sr,sr,sr,sr,trivial⟩⟩,⟨_,Z,aw _⟩,⟨_,Z,aw _⟩,trivial⟩
def aW (s_0:List Bytes)(v_1:Bytes):Nat→Int→Option (Unit⊕Int)
 | 0,_=>none
 | m+1,t6 =>
 if t6 < (s_0.length:Int) then
  ck ((0:Int)≤t6∧t6 < (s_0.length:Int)) <|
  if v_1=lat s_0 t6 then
   some (.inr t6)
  else
   ck (inR (t6+1)) <|
   aW s_0 v_1 m (t6+1)
 else
  some (.inl ())
def cm (n:Nat)(s_0:List Bytes)(v_1:Bytes):Option Int :=
 jn (aW s_0 v_1 n 0) λ q12 =>
 some (-1)
theorem kH (n:Nat)(s_0:List Bytes)(v_1:Bytes)(r:Int)(h0:cm n s_0 v_1=some r):aC Tryz.prog 89 [eL eS s_0,eS v_1] (·=.p (eI r)):=by
 unfold cm at h0
 refine bc good Tryz.func89 Z Z Z λ w0=>mP (λ v:Int=>.p (eI v)) ?_
 refine nx 8 Z (oLl (f:=eS) Z Z (nx 3 Z ?_))
 obtain ⟨o13,h1,hL0,hR0⟩:=fc h0
 refine kEx 0 (λ v14:Unit=>o13=.inl v14) (λ v14=>⟨[],[]⟩) (λ v14 hv=>?_) ?_
 ·have h0:=hL0 _ hv
  exact nx 6 Z (mQ (oi h0) Z (sr))
 refine lG (λ (q15:Int)=>⟨[(0,.p (eL eS s_0)),(1,.p (eS v_1)),(7,.p (eI (s_0.length:Int))),(8,.p (eI q15))],[]⟩) (λ m (q15:Int)=>aW s_0 v_1 m q15) Y 0 h1 (gE Z Z) ?_
 rintro m t6 h1
 replace h1:aW s_0 v_1 (m+1) t6=some o13:=h1
 rw [aW] at h1
 refine nx 5 Z (fD [9] h1 Z (λ c7 h1=>?_) λ c7 h1=>?_)
 ·refine nx 14 Z (oE h1 Y Z Z Y λ hk8 h1=>nx 1 Z (oS Z Z (nx 1 Z (fD [16] h1 Z (λ c9 h1=>?_) λ c9 h1=>?_))))
  ·exact nx 7 Z (mQ (hR0 _ (oi h1).symm) Z (sr))
  exact nx 3 Z (oA h1 Z Z λ hk10 h1=>nx 2 Z (eX (t6+1) h1 (gE Z Z)))
 exact nx 2 Z (eXi _ (oi h1).symm (gE Z Z))
def aX (n:Nat)(s_0:List Bytes)(v_1:Bytes):Option Bool :=
 (cm n s_0 v_1).bind λ r1 =>
 some (decide (0≤r1))
theorem ct (n:Nat)(s_0:List Bytes)(v_1:Bytes)(r:Bool)(h0:aX n s_0 v_1=some r):aC Tryz.prog 62 [eL eS s_0,eS v_1] (·=.p (eB r)):=by
 unfold aX at h0
 refine bc good Tryz.func62 Z Z Z λ w0=>mP (λ v:Bool=>.p (eB v)) ?_
 exact nx 8 Z (bd h0 λ r1 e2 h0=>oK (kH _ s_0 v_1 _ e2) Z ⟨sr,sr,trivial⟩ Tryz.call89 Z (nx 4 Z (mQ (oi h0) Z (sr))))
def gI (c_0:ab):Option Bool :=
 (
   if c_0.fAction=4 then
    some true
   else
    some (decide (c_0.fAction=3))
  : Option Bool).bind λ t2 =>
 some t2
theorem jH (c_0:ab)(r:Bool)(h0:gI c_0=some r):aC Tryz.prog 63 [.agg (ab.cs c_0)] (·=.p (eB r)):=by
 unfold gI at h0
 refine bc good Tryz.func63 Z Z Z λ w0=>mP (λ v:Bool=>.p (eB v)) ?_
 refine nx 6 Z (bd h0 λ o4 h1 h0=>?_)
 refine kN o4 (λ v5=>⟨[(2,.p (eB v5))],[]⟩) ?_ ?_
 ·exact nx 2 Z (mQ (oi h0) Z (sr))
 refine nx 5 Z (fD [5,6] h1 Z (λ c1 h1=>?_) λ c1 h1=>?_)
 ·exact nx 6 Z (eX _ (oi h1).symm (gE Z Z))
 exact nx 6 Z (eX _ (oi h1).symm (gE Z Z))
def bq (n:Nat)(x_0:cM)(i_1:Int):Nat→Int→(List ab)→(List Int)→(List Bytes)→(List Bool)→Option ((List ab)×(List Int)×(List Bytes)×(List Bool))
 | 0,_,_,_,_,_=>none
 | m+1,t29,f30,f31,l32,l33 =>
 if t29 < (x_0.fchanges.length:Int) then
  (
    ck ((0:Int)≤t29∧t29 < (x_0.fchanges.length:Int)) <|
    (
      ck ((0:Int)≤t29∧t29 < (l32.length:Int)) <|
      (aX n ((lat x_0.fchanges i_1).fDeps) (lat l32 t29)).bind λ r37 =>
      if r37=true then
       some true
      else
       (gI (lat x_0.fchanges i_1)).bind λ r40 =>
       if r40=true then
        if (lat x_0.fchanges t29).fAction=0 then
         some false
        else
         ck ((0:Int)≤i_1∧i_1 < (l32.length:Int)) <|
         (aX n ((lat x_0.fchanges t29).fOldDeps) (lat l32 i_1)).bind λ r45 =>
         some r45
       else
        some false
     : Option Bool).bind λ t47 =>
    if t47=true then
     (dT (cM.mk f30 l32 l33 f31) t29).bind λ r49 =>
     some (r49.fchanges,r49.ftodo,r49.fresources,r49.fchosen)
    else
     some (f30,f31,l32,l33)
   : Option ((List ab)×(List Int)×(List Bytes)×(List Bool))).bind λ q66 =>
  ck (inR (t29+1)) <|
  bq n x_0 i_1 m (t29+1) q66.1 q66.2.1 q66.2.2.1 q66.2.2.2
 else
  some (f30,f31,l32,l33)
def cz (n:Nat)(x_0:cM)(i_1:Int):Option cM :=
 ck ((0:Int)≤i_1∧i_1 < (x_0.fchanges.length:Int)) <|
 (bq n x_0 i_1 n 0 x_0.fchanges x_0.ftodo x_0.fresources x_0.fchosen).bind λ q65 =>
 some (cM.mk q65.1 q65.2.2.1 q65.2.2.2 q65.2.1)
theorem mz (n:Nat)(x_0:cM)(i_1:Int)(r:cM)(h0:cz n x_0 i_1=some r):bC Tryz.prog 40 [.ptr 1000000 0,.p (eI i_1)] [(1000000,[.p (eL ae x_0.fchanges),.arr 1000001 1 0 x_0.fresources.length,.arr 1000002 1 0 x_0.fchosen.length,.stk 900000 1 (x_0.ftodo.map eI)]),(1000001,(x_0.fresources.map eS).map .p),(1000002,(x_0.fchosen.map eB).map .p)] (λ x y=>x=.tuple []∧y=[(1000000,[.p (eL ae r.fchanges),.arr 1000001 1 0 r.fresources.length,.arr 1000002 1 0 r.fchosen.length,.stk 2000000 1 (r.ftodo.map eI)]),(1000001,(r.fresources.map eS).map .p),(1000002,(r.fchosen.map eB).map .p)]):=by
 unfold cz at h0
 refine gv good [800000] [1000000,1000001,1000002] Tryz.func40 Z Z Z Z Z λ w0 F=>mPo (λ v:cM=>.tuple []) (λ v=>[(1000000,[.p (eL ae v.fchanges),.arr 1000001 1 0 v.fresources.length,.arr 1000002 1 0 v.fchosen.length,.stk 2000000 1 (v.ftodo.map eI)]),(1000001,(v.fresources.map eS).map .p),(1000002,(v.fchosen.map eB).map .p)]) ?_
 refine nx 7 Z (oE h0 ab.cells_eq Z Z Y λ hk1 h0=>nx 1 Z (mO Z (m7 Z Z Z Z Z (mG (nb (show mh _ _=_ from (by repeat (first | exact jx _ | apply demOb_drop Z | apply dG Z (ni _ _) | apply dG Z Z)))) (nx 8 Z (oLl (f:=ae) Z Z (nx 3 Z (bd h0 λ o68 h1 h0=>kE 0 o68 (λ v69=>⟨[],[(1000000,[.p (eL ae v69.1),.arr 1000001 1 0 v69.2.2.1.length,.arr 1000002 1 0 v69.2.2.2.length,.stk 900000 1 (v69.2.1.map eI)]),(1000001,(v69.2.2.1.map eS).map .p),(1000002,(v69.2.2.2.map eB).map .p)]⟩) ?_ ?_))))))))
 ·refine nx 1 Z ?_
  skip; refine mG (bv 900000 800000 Z Z Z Z (by repeat (first | exact rfl | exact aN _ | apply aK))) ?_
  exact AM (oi h0) (bU _) Z Z Z (aK Z Z (aK Z (aN _) (aK Z (aN _) Z))) (sr) ⟨⟨_,Z,⟨sr,sr,sr,sr,trivial⟩⟩,⟨_,Z,aw _⟩,⟨_,Z,aw _⟩,trivial⟩
 refine lG (λ (q70:Int×(List ab)×(List Int)×(List Bytes)×(List Bool))=>⟨[(0,.ptr 1000000 0),(1,.p (eI i_1)),(4,.ptr 4 0),(17,.p (eL ae x_0.fchanges)),(18,.p (eI (x_0.fchanges.length:Int))),(19,.p (eI q70.1))],[(4,(ab.cs (lat x_0.fchanges i_1)).map .p),(1000000,[.p (eL ae q70.2.1),.arr 1000001 1 0 q70.2.2.2.1.length,.arr 1000002 1 0 q70.2.2.2.2.length,.stk 900000 1 (q70.2.2.1.map eI)]),(1000001,(q70.2.2.2.1.map eS).map .p),(1000002,(q70.2.2.2.2.map eB).map .p)]⟩) (λ m (q70:Int×(List ab)×(List Int)×(List Bytes)×(List Bool))=>bq n x_0 i_1 m q70.1 q70.2.1 q70.2.2.1 q70.2.2.2.1 q70.2.2.2.2) Y (0,x_0.fchanges,x_0.ftodo,x_0.fresources,x_0.fchosen) h1 (bR (ci ⟨er Z,er Z,er Z,er Z,er Z,er Z,trivial⟩ ⟨⟨_,Z,⟨sr,sr,sr,sr,sr,sr,sr,sr,sr,sr,sr,sr,sr,sr,sr,sr,sr,sr,sr,sr,sr,sr,trivial⟩⟩,⟨_,Z,⟨sr,AV.sub_of_eq (by first | rfl | (simp; done) | (simp [AV.dem]; rfl)),AV.sub_of_eq (by first | rfl | (simp; done) | (simp [AV.dem]; rfl)),sr,trivial⟩⟩,⟨_,Z,aw _⟩,⟨_,Z,aw _⟩,trivial⟩)) ?_
 rintro m ⟨t29,f30,f31,l32,l33⟩ h1
 replace h1:bq n x_0 i_1 (m+1) t29 f30 f31 l32 l33=some o68:=h1
 rw [bq] at h1
 refine nx 5 Z (fD [20] h1 Z (λ c34 h1=>?_) λ c34 h1=>?_)
 ·refine nx 3 Z (bd h1 λ o71 h2 h1=>?_)
  refine kN o71 (λ v72=>⟨[(0,.ptr 1000000 0),(1,.p (eI i_1)),(4,.ptr 4 0),(17,.p (eL ae x_0.fchanges)),(18,.p (eI (x_0.fchanges.length:Int))),(19,.p (eI t29))],[(4,(ab.cs (lat x_0.fchanges i_1)).map .p),(1000000,[.p (eL ae v72.1),.arr 1000001 1 0 v72.2.2.1.length,.arr 1000002 1 0 v72.2.2.2.length,.stk 900000 1 (v72.2.1.map eI)]),(1000001,(v72.2.2.1.map eS).map .p),(1000002,(v72.2.2.2.map eB).map .p)]⟩) ?_ ?_
  ·exact nx 2 Z (oA h1 Z Z λ hk55 h1=>nx 2 Z (eX (t29+1,o71.1,o71.2.1,o71.2.2.1,o71.2.2.2) h1 (bR (ci ⟨er Z,er Z,er Z,er Z,er Z,er Z,trivial⟩ ⟨⟨_,Z,⟨sr,sr,sr,sr,sr,sr,sr,sr,sr,sr,sr,sr,sr,sr,sr,sr,sr,sr,sr,sr,sr,sr,trivial⟩⟩,⟨_,Z,⟨sr,AV.sub_of_eq (by first | rfl | (simp; done) | (simp [AV.dem]; rfl)),AV.sub_of_eq (by first | rfl | (simp; done) | (simp [AV.dem]; rfl)),sr,trivial⟩⟩,⟨_,Z,aw _⟩,⟨_,Z,aw _⟩,trivial⟩))))
  refine nx 4 Z (oE h2 ab.cells_eq Z Z Y λ hk35 h2=>nx 1 Z (mO Z (m7 Z Z Z Z Z (mG (nb (show mh _ _=_ from (by repeat (first | exact jx _ | apply demOb_drop Z | apply dG Z (ni _ _) | apply dG Z Z)))) (nx 4 Z (bd h2 λ o73 h3 h2=>kN o73 (λ v74=>⟨[(0,.ptr 1000000 0),(1,.p (eI i_1)),(4,.ptr 4 0),(5,.p (eI t29)),(17,.p (eL ae x_0.fchanges)),(18,.p (eI (x_0.fchanges.length:Int))),(19,.p (eI t29)),(54,.p (eB v74))],[(4,(ab.cs (lat x_0.fchanges i_1)).map .p),(1000000,[.p (eL ae f30),.arr 1000001 1 0 l32.length,.arr 1000002 1 0 l33.length,.stk 900000 1 (f31.map eI)]),(1000001,(l32.map eS).map .p),(1000002,(l33.map eB).map .p)]⟩) ?_ ?_))))))
  ·refine nx 1 Z (fB [54] h2 Z (λ c48 h2=>?_) λ c48 h2=>?_)
   ·refine nx 4 Z (bd h2 λ r49 e50 h2=>mO Z (b6 [1000000,1000001,1000002] [900000] 102000 102001 (iY (cM.mk f30 l32 l33 f31) t29 _ e50) Z Z Z Z Z ⟨sr,sr,trivial⟩ Z (aK Z Z (aK Z (aN _) (aK Z (aN _) Z))) ⟨⟨_,Z,⟨sr,sr,sr,sr,trivial⟩⟩,⟨_,Z,aw _⟩,⟨_,Z,aw _⟩,trivial⟩ Z Z Z Z Z Z Z Z Tryz.call39 Z (aK Z Z (aK Z (aN _) (aK Z (aN _) Z))) (nx 1 Z ?_)))
    skip; refine mG (bv 102000 900000 Z Z Z Z (by repeat (first | exact rfl | exact aN _ | apply aK))) ?_
    exact eX _ (oi h2).symm (bR (ci ⟨er Z,er Z,er Z,er Z,er Z,er Z,trivial⟩ ⟨⟨_,Z,⟨sr,sr,sr,sr,sr,sr,sr,sr,sr,sr,sr,sr,sr,sr,sr,sr,sr,sr,sr,sr,sr,sr,trivial⟩⟩,⟨_,Z,⟨sr,AV.sub_of_eq (by first | rfl | (simp; done) | (simp [AV.dem]; rfl)),AV.sub_of_eq (by first | rfl | (simp; done) | (simp [AV.dem]; rfl)),sr,trivial⟩⟩,⟨_,Z,aw _⟩,⟨_,Z,aw _⟩,trivial⟩))
   exact nx 2 Z (eX _ (oi h2).symm (bR (ci ⟨er Z,er Z,er Z,er Z,er Z,er Z,trivial⟩ ⟨⟨_,Z,⟨sr,sr,sr,sr,sr,sr,sr,sr,sr,sr,sr,sr,sr,sr,sr,sr,sr,sr,sr,sr,sr,sr,trivial⟩⟩,⟨_,Z,⟨sr,AV.sub_of_eq (by first | rfl | (simp; done) | (simp [AV.dem]; rfl)),AV.sub_of_eq (by first | rfl | (simp; done) | (simp [AV.dem]; rfl)),sr,trivial⟩⟩,⟨_,Z,aw _⟩,⟨_,Z,aw _⟩,trivial⟩)))
  refine cc' h3 λ hk36 h3=>bd h3 λ r37 e38 h3=>fB (p:=r37) [] h3 Z (λ c39 h3=>?_) λ c39 h3=>?_
  ·exact mD [(0,.ptr 1000000 0),(1,.p (eI i_1)),(4,.ptr 4 0),(5,.p (eI t29)),(6,.ptr 6 0),(17,.p (eL ae x_0.fchanges)),(18,.p (eI (x_0.fchanges.length:Int))),(19,.p (eI t29))] Z ⟨Z,Z,Z,Z,Z,Z,Z,Z,trivial⟩ Z (dR 7 Z (dq (.ptr 1000001 t29.toNat) [29,30] Z (λ _ e _ q=>aj Z (aY Z Z Z Z Z Z (e _ _ Z) (e _ _ Z) Z hk36 q)) Z (dq (.p (eS (lat l32 t29))) [31] Z (λ _ e _ q=>aj Z (bu (default:Bytes) (f:=eS) (l:=l32) Z Z Z Z Z (e _ _ Z) Z (by have:=hk36; omega) q)) Z (dq (.p (eB r37)) [25,32] Z (λ _ e _ q=>aj Z (bj (ct _ ((lat x_0.fchanges i_1).fDeps) (lat l32 t29) _ e38) Z Z Z (aI (e _ _ Z) (aI (e _ _ Z) bh)) ⟨sr,sr,trivial⟩ Tryz.call62 Z q)) Z (dL (c39) Z (dR 20 Z (dE Z (nx 1 Z (eX _ (oi h3).symm (gE Z Z))))))))))
  refine bd h3 λ r40 e41 h3=>fB (p:=r40) [] h3 Z (λ c42 h3=>?_) λ c42 h3=>?_
  ·refine fN (p:=(lat x_0.fchanges t29).fAction=0) [] h3 Z (λ c43 h3=>?_) λ c43 h3=>?_
   ·refine mD [(0,.ptr 1000000 0),(1,.p (eI i_1)),(4,.ptr 4 0),(5,.p (eI t29)),(6,.ptr 6 0),(17,.p (eL ae x_0.fchanges)),(18,.p (eI (x_0.fchanges.length:Int))),(19,.p (eI t29))] Z ⟨Z,Z,Z,Z,Z,Z,Z,Z,trivial⟩ Z (dR 7 Z (dq (.ptr 1000001 t29.toNat) [29,30] Z (λ _ e _ q=>aj Z (aY Z Z Z Z Z Z (e _ _ Z) (e _ _ Z) Z hk36 q)) Z (dq (.p (eS (lat l32 t29))) [31] Z (λ _ e _ q=>aj Z (bu (default:Bytes) (f:=eS) (l:=l32) Z Z Z Z Z (e _ _ Z) Z (by have:=hk36; omega) q)) Z (dq (.p (eB r37)) [25,32] Z (λ _ e _ q=>aj Z (bj (ct _ ((lat x_0.fchanges i_1).fDeps) (lat l32 t29) _ e38) Z Z Z (aI (e _ _ Z) (aI (e _ _ Z) bh)) ⟨sr,sr,trivial⟩ Tryz.call62 Z q)) Z (dL (c39) Z (dR 1 Z (dq (.p (eB r40)) [34,35] Z (λ _ e _ q=>aQ (bj (jH (lat x_0.fchanges i_1) _ e41) Z Z Z (aI (e _ _ Z) bh) ⟨sr,trivial⟩ Tryz.call63 Z q) Z Z (e _ _ Z) (rfl)) Z (dL (c42) Z (dR 2 Z (dL (aE c43) Z (dR 14 Z ?_)))))))))))
    refine dE Z (nx 1 Z ?_)
    exact eX _ (oi h3).symm (gE Z Z)
   refine cc' h3 λ hk44 h3=>bd h3 λ r45 e46 h3=>mD [(0,.ptr 1000000 0),(1,.p (eI i_1)),(4,.ptr 4 0),(5,.p (eI t29)),(6,.ptr 6 0),(17,.p (eL ae x_0.fchanges)),(18,.p (eI (x_0.fchanges.length:Int))),(19,.p (eI t29))] Z ⟨Z,Z,Z,Z,Z,Z,Z,Z,trivial⟩ Z (dR 7 Z (dq (.ptr 1000001 t29.toNat) [29,30] Z (λ _ e _ q=>aj Z (aY Z Z Z Z Z Z (e _ _ Z) (e _ _ Z) Z hk36 q)) Z (dq (.p (eS (lat l32 t29))) [31] Z (λ _ e _ q=>aj Z (bu (default:Bytes) (f:=eS) (l:=l32) Z Z Z Z Z (e _ _ Z) Z (by have:=hk36; omega) q)) Z (dq (.p (eB r37)) [25,32] Z (λ _ e _ q=>aj Z (bj (ct _ ((lat x_0.fchanges i_1).fDeps) (lat l32 t29) _ e38) Z Z Z (aI (e _ _ Z) (aI (e _ _ Z) bh)) ⟨sr,sr,trivial⟩ Tryz.call62 Z q)) Z (dL (c39) Z (dR 1 Z (dq (.p (eB r40)) [34,35] Z (λ _ e _ q=>aQ (bj (jH (lat x_0.fchanges i_1) _ e41) Z Z Z (aI (e _ _ Z) bh) ⟨sr,trivial⟩ Tryz.call63 Z q) Z Z (e _ _ Z) (rfl)) Z (dL (c42) Z (dR 2 Z (dL (aP c43) Z (dR 9 Z (dq (.ptr 1000001 i_1.toNat) [42,48,49] Z (λ _ e _ q=>aQ (aY Z Z Z Z Z Z (e _ _ Z) (e _ _ Z) Z hk44 q) Z Z (e _ _ Z) (rfl)) Z (dq (.p (eS (lat l32 i_1))) [42,50] Z (λ _ e _ q=>aQ (bu (default:Bytes) (f:=eS) (l:=l32) Z Z Z Z Z (e _ _ Z) Z (by have:=hk44; omega) q) Z Z (e _ _ Z) (rfl)) Z ?_)))))))))))))
   refine dq (.p (eB r45)) [42,44,51] Z (λ _ e _ q=>aQ (bj (ct _ ((lat x_0.fchanges t29).fOldDeps) (lat l32 i_1) _ e46) Z Z Z (aI (e _ _ Z) (aI (e _ _ Z) bh)) ⟨sr,sr,trivial⟩ Tryz.call62 Z q) Z Z (e _ _ Z) (rfl)) Z (dR 2 Z ?_)
   refine dE Z (nx 1 Z ?_)
   exact eX _ (oi h3).symm (gE Z Z)
  refine mD [(0,.ptr 1000000 0),(1,.p (eI i_1)),(4,.ptr 4 0),(5,.p (eI t29)),(6,.ptr 6 0),(17,.p (eL ae x_0.fchanges)),(18,.p (eI (x_0.fchanges.length:Int))),(19,.p (eI t29))] Z ⟨Z,Z,Z,Z,Z,Z,Z,Z,trivial⟩ Z (dR 7 Z (dq (.ptr 1000001 t29.toNat) [29,30] Z (λ _ e _ q=>aj Z (aY Z Z Z Z Z Z (e _ _ Z) (e _ _ Z) Z hk36 q)) Z (dq (.p (eS (lat l32 t29))) [31] Z (λ _ e _ q=>aj Z (bu (default:Bytes) (f:=eS) (l:=l32) Z Z Z Z Z (e _ _ Z) Z (by have:=hk36; omega) q)) Z (dq (.p (eB r37)) [25,32] Z (λ _ e _ q=>aj Z (bj (ct _ ((lat x_0.fchanges i_1).fDeps) (lat l32 t29) _ e38) Z Z Z (aI (e _ _ Z) (aI (e _ _ Z) bh)) ⟨sr,sr,trivial⟩ Tryz.call62 Z q)) Z (dL (c39) Z (dR 1 Z (dq (.p (eB r40)) [34,35] Z (λ _ e _ q=>aQ (bj (jH (lat x_0.fchanges i_1) _ e41) Z Z Z (aI (e _ _ Z) bh) ⟨sr,trivial⟩ Tryz.call63 Z q) Z Z (e _ _ Z) (rfl)) Z (dL (c42) Z (dR 17 Z ?_)))))))))
  refine dE Z (nx 1 Z ?_)
  exact eX _ (oi h3).symm (gE Z Z)
 exact nx 2 Z (eXi _ (oi h1).symm (bR (ci trivial ⟨⟨_,Z,⟨sr,AV.sub_of_eq (by first | rfl | (simp; done) | (simp [AV.dem]; rfl)),AV.sub_of_eq (by first | rfl | (simp; done) | (simp [AV.dem]; rfl)),sr,trivial⟩⟩,⟨_,Z,aw _⟩,⟨_,Z,aw _⟩,trivial⟩)))
def dA (r_target_copied:ay→Option ay):Nat→Option Unit
 | 0=>none
 | m+1 =>
 if 0 < (([]:List ay).length:Int) then
  ck ((0:Int)≤0∧0 < (([]:List ay).length:Int)) <|
  (r_target_copied (lat ([]:List ay) 0)).bind λ r6 =>
  ck ((0:Int)≤0∧0 < (([]:List ay).length:Int)) <|
  none
 else
  some ()
def cq (r_target_copied:ay→Option ay)(v_0:ay):Nat→Int→(List ay)→Option (List ay)
 | 0,_,_=>none
 | m+1,t17,l18 =>
 if t17 < (v_0.fItems.length:Int) then
  ck ((0:Int)≤t17∧t17 < (l18.length:Int)) <|
  (r_target_copied (lat l18 t17)).bind λ r21 =>
  ck ((0:Int)≤t17∧t17 < (l18.length:Int)) <|
  ck (inR (t17+1)) <|
  cq r_target_copied v_0 m (t17+1) (l18.set t17.toNat r21)
 else
  some l18
def bM:Nat→ay→Option ay
 | 0,_=>none
 | n+1,v_0 =>
 ck (v_0.fKeys.length*16≤140737488355328) <|
 if v_0.fItems.isEmpty=true then
  (dA (bM n) n ).bind λ q28 =>
  some (ay.mk v_0.fKind v_0.fNum v_0.fStr ([]:List ay) v_0.fKeys)
 else
  ck (v_0.fItems.length*80≤140737488355328) <|
  (cq (bM n) v_0 n 0 v_0.fItems).bind λ l27 =>
  some (ay.mk v_0.fKind v_0.fNum v_0.fStr l27 v_0.fKeys)
theorem mH (n:Nat):∀ (v_0:ay) (r:ay),bM n v_0=some r→aC Tryz.prog 64 [.agg (ay.cs v_0)] (·=.p (.agg (ay.cs r))):=by
 induction n with
 | zero=>intro v_0 r h0; cases h0
 | succ n ih =>
 have ih_target_copied_ok:=ih
 intro v_0 r h0
 rw [bM] at h0
 refine bc good Tryz.func64 Z Z Z λ w0=>mP (λ v:ay=>.p (.agg (ay.cs v))) ?_
 refine nx 9 Z (cc' h0 λ hk1 h0=>oK (cK v_0.fKeys hk1) Z ⟨sr,trivial⟩ Tryz.call65 Z (nx 7 Z ?_))
 refine yH (b:=v_0.fItems.isEmpty) (λ c2=>?_) (λ c2=>?_)
 ·replace h0:=Cm c2 h0
  refine mO Z (bj (iP v_0.fItems c2) Z Z Z Z ⟨sr,trivial⟩ Tryz.call90 Z (nx 8 Z (oLl (f:=bY) Z Z (nx 3 Z (bd h0 λ o30 h1 h0=>?_)))))
  refine kE 0 o30 (λ v31=>⟨[(1,.ptr 1 0),(2,.ptr 2 0)],[(1,[.p (eI v_0.fKind),.p (eI v_0.fNum),.p (eS v_0.fStr),.p (eL bY ([]:List ay)),.p (eL eS v_0.fKeys)]),(2,nk)]⟩) ?_ ?_
  ·exact nx 7 Z (mQ (oi h0) Z (sr))
  refine lG (λ (q32:Unit)=>⟨[(1,.ptr 1 0),(2,.ptr 2 0),(14,.p (eI (([]:List ay).length:Int))),(15,.p (eI 0))],[(1,[.p (eI v_0.fKind),.p (eI v_0.fNum),.p (eS v_0.fStr),.p (eL bY ([]:List ay)),.p (eL eS v_0.fKeys)]),(2,nk)]⟩) (λ m (q32:Unit)=>dA (bM n) m ) Y () h1 (gE Z Z) ?_
  rintro m _ h1
  replace h1:dA (bM n) (m+1)  = some o30:=h1
  rw [dA] at h1
  refine nx 5 Z (fD [16] h1 Z (λ c4 h1=>?_) λ c4 h1=>?_)
  ·refine nx 9 Z (cc' h1 λ hk5 h1=>bd h1 λ r6 e7 h1=>cc' h1 λ hk8 h1=>?_)
   cases h1
  exact nx 2 Z (eXi _ (oi h1).symm (gE Z Z))
 replace h0:=CN c2 h0
 refine cc' h0 λ hk3 h0=>mO Z (b6 [] [] 101000 101001 (iJ v_0.fItems c2 hk3) Z Z Z Z Z ⟨sr,trivial⟩ Z Z trivial Z Z Z Z Z Z Z Z Tryz.call90 Z (aK Z (aN _) Z) (nx 12 Z (bd h0 λ o33 h1 h0=>?_)))
 refine kE 0 o33 (λ v34=>⟨[(1,.ptr 1 0),(2,.ptr 2 0)],[(1,[.p (eI v_0.fKind),.p (eI v_0.fNum),.p (eS v_0.fStr),.arr 101000 5 0 v34.length,.p (eL eS v_0.fKeys)]),(2,nk),(101000,ja bY v34)]⟩) ?_ ?_
 ·exact nx 3 Z (mG (pH (sl':=[(1,.ptr 1 0),(2,.ptr 2 0)]) (ob':=[(1,[.p (eI v_0.fKind),.p (eI v_0.fNum),.p (eS v_0.fStr),.p (eL bY o33),.p (eL eS v_0.fKeys)]),(2,nk)]) 101000 5 bY o33 Z Z Z (λ x=>⟨congrArg List.length (ay.cells_eq x),by rw [ay.cells_eq]; rfl⟩) ⟨⟨_,Z,.inl Z⟩,⟨_,Z,.inl Z⟩,trivial⟩ ⟨⟨Z,_,Z,⟨.inl Z,.inl Z,.inl Z,.inr ⟨G ,Z⟩,.inl Z,trivial⟩⟩,⟨Z,_,Z,⟨.inl Z,.inl Z,.inl Z,.inl Z,.inl Z,trivial⟩⟩,trivial⟩) (nx 4 Z (mQ (oi h0) Z (sr))))
 refine lG (λ (q35:Int×(List ay))=>⟨[(1,.ptr 1 0),(2,.ptr 2 0),(14,.p (eI (v_0.fItems.length:Int))),(15,.p (eI q35.1))],[(1,[.p (eI v_0.fKind),.p (eI v_0.fNum),.p (eS v_0.fStr),.arr 101000 5 0 q35.2.length,.p (eL eS v_0.fKeys)]),(2,nk),(101000,ja bY q35.2)]⟩) (λ m (q35:Int×(List ay))=>cq (bM n) v_0 m q35.1 q35.2) Y (0,v_0.fItems) h1 (bR (ci ⟨er Z,er Z,er Z,er Z,trivial⟩ ⟨⟨_,Z,⟨sr,sr,sr,AV.sub_of_eq (congrArg (AV.arr 101000 5 0) G),sr,trivial⟩⟩,⟨_,Z,⟨sr,sr,sr,sr,sr,trivial⟩⟩,⟨_,Z,aw _⟩,trivial⟩)) ?_
 rintro m ⟨t17,l18⟩ h1
 replace h1:cq (bM n) v_0 (m+1) t17 l18=some o33:=h1
 rw [cq] at h1
 refine nx 5 Z (fD [16] h1 Z (λ c19 h1=>?_) λ c19 h1=>?_)
 ·refine nx 9 Z (cc' h1 λ hk20 h1=>bd h1 λ r21 e22 h1=>cc' h1 λ hk23 h1=>mG (bR (t:=⟨[(1,.ptr 1 0),(2,.ptr 2 0),(3,.p (eI t17)),(14,.p (eI (v_0.fItems.length:Int))),(15,.p (eI t17))],[(1,[.p (eI v_0.fKind),.p (eI v_0.fNum),.p (eS v_0.fStr),.arr 101000 5 0 l18.length,.p (eL eS v_0.fKeys)]),(2,nk),(101000,ja bY l18)]⟩) (ci ⟨er Z,er Z,er Z,er Z,er Z,trivial⟩ ⟨⟨_,Z,⟨sr,sr,sr,AV.sub_of_eq (congrArg (AV.arr 101000 5 0) G),sr,trivial⟩⟩,⟨_,Z,⟨sr,sr,sr,sr,sr,trivial⟩⟩,⟨_,Z,aw _⟩,trivial⟩)) (mSq ⟨1,[10],(λ _=>.none),(λ _=>[(1,.ptr 1 0),(2,.ptr 2 0),(3,.p (eI t17)),(14,.p (eI (v_0.fItems.length:Int))),(15,.p (eI t17))]),(ob2 ([(1,[.p (eI v_0.fKind),.p (eI v_0.fNum),.p (eS v_0.fStr),.arr 101000 5 0 l18.length,.p (eL eS v_0.fKeys)]),(2,nk),(101000,ja bY l18)]) (101000,ja bY (l18.set t17.toNat r21)))⟩ Z (dPc (.ptr 1 3) Z (dPc (.arr 101000 5 0 l18.length) Z (dPc (.p (eI t17)) Z (dPc (.ptr 1 3) Z (dPc (.arr 101000 5 0 l18.length) Z (dPc (.p (eI t17)) Z ?_))))))))
  refine bD (λ _=>.ptr 101000 (0+t17.toNat*5)) Z Z Z (hQ Z Y) (lt1 Z) (bs Z (a6 [(22,_),(23,_)] ⟨.inr ⟨4,_,Z,Z,Z⟩,.inr ⟨5,_,Z,Z,Z⟩,trivial⟩ (λ sl hsl K hK=>aj Z (iX Z Z Z Z Z Z (hsl _ _ Z) (hsl _ _ Z) Z hk20 hK)) bA)) (bD (λ _=>.p (.agg (ay.cs (lat l18 t17)))) Z Z Z (hQ Z Y) (lt1 Z) (bs Z (a6 [(24,_)] ⟨.inr ⟨6,_,Z,Z,Z⟩,trivial⟩ (λ sl hsl K hK=>aj Z (xW bY ay.cs l18 Z Z Z Z Z (hsl _ _ Z) Z Z Z hk20 ay.cells_eq Y hK)) bA)) ?_)
  refine bD (λ _=>.p (.agg (ay.cs r21))) Z Z Z (hQ Z Y) (lt1 Z) (bs Z (a6 [(25,_)] ⟨.inr ⟨7,_,Z,Z,Z⟩,trivial⟩ (λ sl hsl K hK=>aj Z (bj (ih_target_copied_ok (lat l18 t17) _ e22) Z Z Z (aI (hsl _ _ Z) bh) ⟨sr,trivial⟩ Tryz.call64 Z hK)) bA)) (bD (λ _=>.ptr 101000 (0+t17.toNat*5)) Z Z Z (hQ Z Y) (lt1 Z) (bs Z (a6 [(19,_),(20,_)] ⟨.inr ⟨1,_,Z,Z,Z⟩,.inr ⟨2,_,Z,Z,Z⟩,trivial⟩ (λ sl hsl K hK=>aj Z (iX Z Z Z Z Z Z (hsl _ _ Z) (hsl _ _ Z) Z hk23 hK)) bA)) ?_)
  refine qA [(26,_),(27,_)] Z ⟨.inr ⟨8,_,Z,Z,Z⟩,.inr ⟨9,_,Z,Z,Z⟩,trivial⟩ Z (λ sl hsl K hK=>aj Z (wQ bY ay.cs l18 r21 (n:=t17) Z Z Z (hsl _ _ Z) (hsl _ _ Z) Z Z Z hk23 ay.cells_eq Y Y hK)) (iL ?_)
  exact nx 2 Z (oA h1 Z Z λ hk24 h1=>nx 2 Z (eX (t17+1,l18.set t17.toNat r21) h1 (bR (ci ⟨er Z,er Z,er Z,er Z,trivial⟩ ⟨⟨_,Z,⟨sr,sr,sr,AV.sub_of_eq (congrArg (AV.arr 101000 5 0) G),sr,trivial⟩⟩,⟨_,Z,⟨sr,sr,sr,sr,sr,trivial⟩⟩,⟨_,Z,aw _⟩,trivial⟩))))
 exact nx 2 Z (eXi _ (oi h1).symm (bR (ci ⟨er Z,er Z,trivial⟩ ⟨⟨_,Z,⟨sr,sr,sr,AV.sub_of_eq (congrArg (AV.arr 101000 5 0) G),sr,trivial⟩⟩,⟨_,Z,⟨sr,sr,sr,sr,sr,trivial⟩⟩,⟨_,Z,aw _⟩,trivial⟩)))
def fy (n:Nat)(c_0:ab):Option ab :=
 (bM n c_0.fBefore).bind λ r1 =>
 (bM n c_0.fAfter).bind λ r3 =>
 ck (c_0.fReplace.length*16≤140737488355328) <|
 ck (c_0.fDeps.length*16≤140737488355328) <|
 ck (c_0.fOldDeps.length*16≤140737488355328) <|
 some (ab.mk c_0.fAddr c_0.fDeposed c_0.fType c_0.fAction c_0.fReason r1 r3 c_0.fID c_0.fReplace c_0.fCreateFirst c_0.fProtect c_0.fImport c_0.fDeps c_0.fOldDeps)
theorem rt (n:Nat)(c_0:ab)(r:ab)(h0:fy n c_0=some r):aC Tryz.prog 41 [.agg (ab.cs c_0)] (·=.p (.agg (ab.cs r))):=by
 unfold fy at h0
 refine bc good Tryz.func41 Z Z Z λ w0=>mP (λ v:ab=>.p (.agg (ab.cs v))) ?_
 refine nx 6 Z (bd h0 λ r1 e2 h0=>bd h0 λ r3 e4 h0=>mG (gE (t:=⟨[(1,.ptr 1 0),(2,.ptr 2 0)],[(1,(ab.cs c_0).map .p),(2,sT)]⟩) Z Z) (mSq ⟨2,[7,9],(λ _=>.none),(λ _=>[(1,.ptr 1 0),(2,.ptr 2 0)]),(ob3 ([(1,((ab.cs c_0).map .p)),(2,sT)]) (1,[.p (eS c_0.fAddr),.p (eS c_0.fDeposed),.p (eS c_0.fType),.p (eI c_0.fAction),.p (eI c_0.fReason),.p (eI r1.fKind),.p (eI r1.fNum),.p (eS r1.fStr),.p (eL bY r1.fItems),.p (eL eS r1.fKeys),.p (eI c_0.fAfter.fKind),.p (eI c_0.fAfter.fNum),.p (eS c_0.fAfter.fStr),.p (eL bY c_0.fAfter.fItems),.p (eL eS c_0.fAfter.fKeys),.p (eS c_0.fID),.p (eL eS c_0.fReplace),.p (eB c_0.fCreateFirst),.p (eB c_0.fProtect),.p (eB c_0.fImport),.p (eL eS c_0.fDeps),.p (eL eS c_0.fOldDeps)]) (1,[.p (eS c_0.fAddr),.p (eS c_0.fDeposed),.p (eS c_0.fType),.p (eI c_0.fAction),.p (eI c_0.fReason),.p (eI r1.fKind),.p (eI r1.fNum),.p (eS r1.fStr),.p (eL bY r1.fItems),.p (eL eS r1.fKeys),.p (eI r3.fKind),.p (eI r3.fNum),.p (eS r3.fStr),.p (eL bY r3.fItems),.p (eL eS r3.fKeys),.p (eS c_0.fID),.p (eL eS c_0.fReplace),.p (eB c_0.fCreateFirst),.p (eB c_0.fProtect),.p (eB c_0.fImport),.p (eL eS c_0.fDeps),.p (eL eS c_0.fOldDeps)]))⟩ Z (dPc (.ptr 1 5) Z (dPc (.p (.agg (ay.cs c_0.fBefore))) Z ?_))))
 refine bD (λ _=>.p (.agg (ay.cs r1))) Z Z Z (wh Z Z Y) (lt2 Z Z) (bs Z (bs Z (a6 [(4,_)] ⟨.inr ⟨1,_,Z,Z,Z⟩,trivial⟩ (λ sl hsl K hK=>aj Z (bj (mH _ c_0.fBefore _ e2) Z Z Z (aI (hsl _ _ Z) bh) ⟨sr,trivial⟩ Tryz.call64 Z hK)) bA))) (dPc (.ptr 1 10) Z ?_)
 refine dPc (.p (.agg (ay.cs c_0.fAfter))) Z (bD (λ _=>.p (.agg (ay.cs r3))) Z Z Z (wh Z Z Y) (lt2 Z Z) (bs Z (bs Z (a6 [(7,_)] ⟨.inr ⟨4,_,Z,Z,Z⟩,trivial⟩ (λ sl hsl K hK=>aj Z (bj (mH _ c_0.fAfter _ e4) Z Z Z (aI (hsl _ _ Z) bh) ⟨sr,trivial⟩ Tryz.call64 Z hK)) bA))) (dPc (.ptr 1 5) Z (dS Z (dPc (.ptr 1 10) Z (dS Z ?_)))))
 refine iL (nx 2 Z ?_)
 refine cc' h0 λ hk5 h0=>cc' h0 λ hk6 h0=>cc' h0 λ hk7 h0=>mG (gE (t:=⟨[(1,.ptr 1 0),(2,.ptr 2 0)],[(1,[.p (eS c_0.fAddr),.p (eS c_0.fDeposed),.p (eS c_0.fType),.p (eI c_0.fAction),.p (eI c_0.fReason),.p (eI r1.fKind),.p (eI r1.fNum),.p (eS r1.fStr),.p (eL bY r1.fItems),.p (eL eS r1.fKeys),.p (eI r3.fKind),.p (eI r3.fNum),.p (eS r3.fStr),.p (eL bY r3.fItems),.p (eL eS r3.fKeys),.p (eS c_0.fID),.p (eL eS c_0.fReplace),.p (eB c_0.fCreateFirst),.p (eB c_0.fProtect),.p (eB c_0.fImport),.p (eL eS c_0.fDeps),.p (eL eS c_0.fOldDeps)]),(2,sT)]⟩) Z Z) (mSq ⟨3,[10,12,14],(λ _=>.none),(λ _=>[(1,.ptr 1 0),(2,.ptr 2 0)]),(ob4 ([(1,[.p (eS c_0.fAddr),.p (eS c_0.fDeposed),.p (eS c_0.fType),.p (eI c_0.fAction),.p (eI c_0.fReason),.p (eI r1.fKind),.p (eI r1.fNum),.p (eS r1.fStr),.p (eL bY r1.fItems),.p (eL eS r1.fKeys),.p (eI r3.fKind),.p (eI r3.fNum),.p (eS r3.fStr),.p (eL bY r3.fItems),.p (eL eS r3.fKeys),.p (eS c_0.fID),.p (eL eS c_0.fReplace),.p (eB c_0.fCreateFirst),.p (eB c_0.fProtect),.p (eB c_0.fImport),.p (eL eS c_0.fDeps),.p (eL eS c_0.fOldDeps)]),(2,sT)]) (1,[.p (eS c_0.fAddr),.p (eS c_0.fDeposed),.p (eS c_0.fType),.p (eI c_0.fAction),.p (eI c_0.fReason),.p (eI r1.fKind),.p (eI r1.fNum),.p (eS r1.fStr),.p (eL bY r1.fItems),.p (eL eS r1.fKeys),.p (eI r3.fKind),.p (eI r3.fNum),.p (eS r3.fStr),.p (eL bY r3.fItems),.p (eL eS r3.fKeys),.p (eS c_0.fID),.p (eL eS c_0.fReplace),.p (eB c_0.fCreateFirst),.p (eB c_0.fProtect),.p (eB c_0.fImport),.p (eL eS c_0.fDeps),.p (eL eS c_0.fOldDeps)]) (1,[.p (eS c_0.fAddr),.p (eS c_0.fDeposed),.p (eS c_0.fType),.p (eI c_0.fAction),.p (eI c_0.fReason),.p (eI r1.fKind),.p (eI r1.fNum),.p (eS r1.fStr),.p (eL bY r1.fItems),.p (eL eS r1.fKeys),.p (eI r3.fKind),.p (eI r3.fNum),.p (eS r3.fStr),.p (eL bY r3.fItems),.p (eL eS r3.fKeys),.p (eS c_0.fID),.p (eL eS c_0.fReplace),.p (eB c_0.fCreateFirst),.p (eB c_0.fProtect),.p (eB c_0.fImport),.p (eL eS c_0.fDeps),.p (eL eS c_0.fOldDeps)]) (1,[.p (eS c_0.fAddr),.p (eS c_0.fDeposed),.p (eS c_0.fType),.p (eI c_0.fAction),.p (eI c_0.fReason),.p (eI r1.fKind),.p (eI r1.fNum),.p (eS r1.fStr),.p (eL bY r1.fItems),.p (eL eS r1.fKeys),.p (eI r3.fKind),.p (eI r3.fNum),.p (eS r3.fStr),.p (eL bY r3.fItems),.p (eL eS r3.fKeys),.p (eS c_0.fID),.p (eL eS c_0.fReplace),.p (eB c_0.fCreateFirst),.p (eB c_0.fProtect),.p (eB c_0.fImport),.p (eL eS c_0.fDeps),.p (eL eS c_0.fOldDeps)]))⟩ Z (dPc (.ptr 1 16) Z (dPc (.p (eL eS c_0.fReplace)) Z ?_)))
 refine bD (λ _=>.p (eL eS c_0.fReplace)) Z Z Z (qp Z Z Z Y) (lt3 Z Z Z) (bs Z (bs Z (bs Z (a6 [(12,_)] ⟨.inr ⟨1,_,Z,Z,Z⟩,trivial⟩ (λ sl hsl K hK=>aj Z (bj (cK c_0.fReplace hk5) Z Z Z (aI (hsl _ _ Z) bh) ⟨sr,trivial⟩ Tryz.call65 Z hK)) bA)))) (dPc (.ptr 1 20) Z ?_)
 refine dPc (.p (eL eS c_0.fDeps)) Z (bD (λ _=>.p (eL eS c_0.fDeps)) Z Z Z (qp Z Z Z Y) (lt3 Z Z Z) (bs Z (bs Z (a6 [(15,_)] ⟨.inr ⟨4,_,Z,Z,Z⟩,trivial⟩ (λ sl hsl K hK=>aj Z (bj (cK c_0.fDeps hk6) Z Z Z (aI (hsl _ _ Z) bh) ⟨sr,trivial⟩ Tryz.call65 Z hK)) (a6 [(15,_)] ⟨.inr ⟨4,_,Z,Z,Z⟩,trivial⟩ (λ sl hsl K hK=>aj Z (bj (cK c_0.fDeps hk6) Z Z Z (aI (hsl _ _ Z) bh) ⟨sr,trivial⟩ Tryz.call65 Z hK)) bA)))) (dPc (.ptr 1 21) Z (dPc (.p (eL eS c_0.fOldDeps)) Z ?_)))
 refine bD (λ _=>.p (eL eS c_0.fOldDeps)) Z Z Z (qp Z Z Z Y) (lt3 Z Z Z) (bs Z (bs Z (bs Z (a6 [(18,_)] ⟨.inr ⟨7,_,Z,Z,Z⟩,trivial⟩ (λ sl hsl K hK=>aj Z (bj (cK c_0.fOldDeps hk7) Z Z Z (aI (hsl _ _ Z) bh) ⟨sr,trivial⟩ Tryz.call65 Z hK)) bA)))) (dPc (.ptr 1 16) Z ?_)
 exact dS Z (dPc (.ptr 1 20) Z (dS Z (dPc (.ptr 1 21) Z (dS Z (iL (nx 7 Z (mQ (oi h0) Z (sr))))))))
def cC (n:Nat)(l_1:List ab):Nat→Int→(List Bytes)→Option (List Bytes)
 | 0,_,_=>none
 | m+1,t11,l12 =>
 if t11 < (l_1.length:Int) then
  ck ((0:Int)≤t11∧t11 < (l_1.length:Int)) <|
  (ef n ((lat l_1 t11).fAddr)).bind λ r15 =>
  ck ((0:Int)≤t11∧t11 < (l12.length:Int)) <|
  ck (inR (t11+1)) <|
  cC n l_1 m (t11+1) (l12.set t11.toNat r15.1)
 else
  some l12
def cE (n:Nat)(targets_0:List Bytes)(l_1:List ab):Nat→Int→(List ab)→(List Int)→(List Bytes)→(List Bool)→Option ((List ab)×(List Int)×(List Bytes)×(List Bool))
 | 0,_,_,_,_,_=>none
 | m+1,t39,f40,f41,l42,l43 =>
 if t39 < (l_1.length:Int) then
  (
    ck ((0:Int)≤t39∧t39 < (l_1.length:Int)) <|
    (cS n targets_0 ((lat l_1 t39).fAddr)).bind λ r46 =>
    if r46=true then
     (dT (cM.mk f40 l42 l43 f41) t39).bind λ r49 =>
     some (r49.fchanges,r49.ftodo,r49.fresources,r49.fchosen)
    else
     some (f40,f41,l42,l43)
   : Option ((List ab)×(List Int)×(List Bytes)×(List Bool))).bind λ q122 =>
  ck (inR (t39+1)) <|
  cE n targets_0 l_1 m (t39+1) q122.1 q122.2.1 q122.2.2.1 q122.2.2.2
 else
  some (f40,f41,l42,l43)
def cF (n:Nat):Nat→(List ab)→(List Int)→(List Bytes)→(List Bool)→Option ((List ab)×(List Int)×(List Bytes)×(List Bool))
 | 0,_,_,_,_=>none
 | m+1,f76,f77,l78,l79 =>
 if 0 < (f77.length:Int) then
  ck (inR ((f77.length:Int) - 1)) <|
  ck ((0:Int)≤(f77.length:Int) - 1∧(f77.length:Int) - 1 < (f77.length:Int)) <|
  ck (inR ((f77.length:Int) - 1)) <|
  ck ((0:Int)≤(f77.length:Int) - 1∧(f77.length:Int) - 1≤(f77.length:Int)) <|
  (cz n (cM.mk f76 l78 l79 (f77.take ((f77.length:Int) - 1).toNat)) (lat f77 ((f77.length:Int) - 1))).bind λ r85 =>
  cF n m r85.fchanges r85.ftodo r85.fresources r85.fchosen
 else
  some (f76,f77,l78,l79)
def cD (n:Nat)(l_1:List ab)(l94:List Bool):Nat→(List ab)→Int→Option (List ab)
 | 0,_,_=>none
 | m+1,out106,t107 =>
 if t107 < (l_1.length:Int) then
  (
    ck ((0:Int)≤t107∧t107 < (l_1.length:Int)) <|
    ck ((0:Int)≤t107∧t107 < (l94.length:Int)) <|
    if (lat l94 t107)=true then
     (fy n (lat l_1 t107)).bind λ r112 =>
     ck ((out106.length+[r112].length)*320≤140737488355328) <|
     some (out106++[r112])
    else
     some out106
   : Option (List ab)).bind λ out115 =>
  ck (inR (t107+1)) <|
  cD n l_1 l94 m out115 (t107+1)
 else
  some out106
def cY (n:Nat)(targets_0:List Bytes)(l_1:List ab):Option (List ab) :=
 ck ((0:Int)≤(l_1.length:Int)∧(l_1.length:Int)≤9223372036854775807∧(16:Int)*(l_1.length:Int)≤281474976710656) <|
 ck ((0:Int)≤(l_1.length:Int)∧(l_1.length:Int)≤9223372036854775807∧(1:Int)*(l_1.length:Int)≤281474976710656) <|
 (cC n l_1 n 0 (List.replicate (l_1.length:Int).toNat ([]:Bytes))).bind λ l21 =>
 (cE n targets_0 l_1 n 0 l_1 [] l21 (List.replicate (l_1.length:Int).toNat (false:Bool))).bind λ q121 =>
 (cF n n q121.1 q121.2.1 q121.2.2.1 q121.2.2.2).bind λ q123 =>
 (cD n l_1 q123.2.2.2 n [] 0).bind λ out119 =>
 some out119
theorem fC (n:Nat)(targets_0:List Bytes)(l_1:List ab)(r:(List ab))(h0:cY n targets_0 l_1=some r):aC Tryz.prog 23 [eL eS targets_0,eL ae l_1] (·=.p (eL ae r)):=by
 unfold cY at h0
 refine bc good Tryz.func23 Z Z Z λ w0=>mP (λ v:(List ab)=>.p (eL ae v)) ?_
 refine nx 5 Z (cc' h0 λ hk1 h0=>cc' h0 λ hk2 h0=>mG (gE (t:=⟨[(0,.p (eL eS targets_0)),(1,.p (eL ae l_1))],[]⟩) Z Z) (mSS ⟨3,[3,6,8],(by4 (.some λ i=>Nat.beq i 17) (.some λ i=>Nat.beq i 20) (.some λ i=>Nat.beq i 22) .none),(λ _=>[(0,.p (eL eS targets_0)),(1,.p (eL ae l_1))]),(by4 [] ([(17,((List.replicate (l_1.length:Int).toNat ([]:Bytes)).map eS).map .p)]) ([(20,((List.replicate (l_1.length:Int).toNat (false:Bool)).map eB).map .p),(17,((List.replicate (l_1.length:Int).toNat ([]:Bytes)).map eS).map .p)]) ([(22,[.p (eL ae l_1),.arr 17 1 0 ((List.replicate (l_1.length:Int).toNat ([]:Bytes)).length),.arr 20 1 0 ((List.replicate (l_1.length:Int).toNat (false:Bool)).length),.p (.val (.slice none 0 0))]),(20,((List.replicate (l_1.length:Int).toNat (false:Bool)).map eB).map .p),(17,((List.replicate (l_1.length:Int).toNat ([]:Bytes)).map eS).map .p)]))⟩ ⟨3,[6,3,8],(by4 (.some λ i=>Nat.beq i 20) (.some λ i=>Nat.beq i 17) (.some λ i=>Nat.beq i 22) .none),(λ _=>[(0,.p (eL eS targets_0)),(1,.p (eL ae l_1))]),(by4 [] [(20,((List.replicate (l_1.length:Int).toNat (false:Bool)).map eB).map .p)] ([(17,((List.replicate (l_1.length:Int).toNat ([]:Bytes)).map eS).map .p),(20,((List.replicate (l_1.length:Int).toNat (false:Bool)).map eB).map .p)]) ([(22,[.p (eL ae l_1),.arr 17 1 0 ((List.replicate (l_1.length:Int).toNat ([]:Bytes)).length),.arr 20 1 0 ((List.replicate (l_1.length:Int).toNat (false:Bool)).length),.p (.val (.slice none 0 0))]),(17,((List.replicate (l_1.length:Int).toNat ([]:Bytes)).map eS).map .p),(20,((List.replicate (l_1.length:Int).toNat (false:Bool)).map eB).map .p)]))⟩ Z Z Z Z Z Z Z ⟨Z,Z,trivial⟩ Z (lt3 ⟨Z,Z,trivial⟩ ⟨Z,Z,trivial⟩ ⟨Z,Z,trivial⟩) (lt3 ⟨Z,Z,trivial⟩ ⟨Z,Z,trivial⟩ ⟨Z,Z,trivial⟩) Z Z Z Z Z (dPc (.p (eL ae l_1)) Z (dPc (.p (eL ae l_1)) Z ?_))))
 refine bD (λ _=>.p (eI (l_1.length:Int))) Z Z Z (qp Z Z Z Y) (lt3 Z Z Z) (bs Z (bs Z (bs Z (a6 [(15,_)] ⟨.inr ⟨1,_,Z,Z,Z⟩,trivial⟩ (λ sl hsl K hK=>aj Z (ll (f:=ae) (l:=l_1) Z Z Z Z Z (hsl _ _ Z) Z hK)) bA)))) ?_
 skip; refine gS (λ _=>.arr 17 1 0 ((List.replicate (l_1.length:Int).toNat ([]:Bytes)).length)) [(16,_)] Z ⟨.inr ⟨2,_,Z,Z,Z⟩,trivial⟩ Z Z (wh Z Z Y) (lt3 (λ h=>absurd h (by decide)) Y Y) (λ sl hsl K hK=>aj Z (qc eS ([]:Bytes) Z Z Z Z Z Z Z Z Z (hsl _ _ Z) (hsl _ _ Z) hk1 (by repeat (first | exact rfl | apply ns Z | apply dmO_drop Z | apply np Z Z)) hK)) ?_
 refine dPc (.p (eL ae l_1)) Z (bD (λ _=>.p (eI (l_1.length:Int))) Z Z Z (qp Z Z Z Y) (lt3 Z Z Z) (bs Z (bs Z (a6 [(18,_)] ⟨.inr ⟨4,_,Z,Z,Z⟩,trivial⟩ (λ sl hsl K hK=>aj Z (ll (f:=ae) (l:=l_1) Z Z Z Z Z (hsl _ _ Z) Z hK)) (a6 [(18,_)] ⟨.inr ⟨4,_,Z,Z,Z⟩,trivial⟩ (λ sl hsl K hK=>aj Z (ll (f:=ae) (l:=l_1) Z Z Z Z Z (hsl _ _ Z) Z hK)) bA)))) ?_)
 skip; refine gS (λ _=>.arr 20 1 0 ((List.replicate (l_1.length:Int).toNat (false:Bool)).length)) [(19,_)] Z ⟨.inr ⟨5,_,Z,Z,Z⟩,trivial⟩ Z Z (hQ Z Y) (lt3 (λ h=>absurd h (by decide)) (λ h=>absurd h (by decide)) Y) (λ sl hsl K hK=>aj Z (qc eB (false:Bool) Z Z Z Z Z Z Z Z Z (hsl _ _ Z) (hsl _ _ Z) hk2 (by repeat (first | exact rfl | apply ns Z | apply dmO_drop Z | apply np Z Z)) hK)) ?_
 refine qC (λ _=>.agg [.p (eL ae l_1),.arr 17 1 0 ((List.replicate (l_1.length:Int).toNat ([]:Bytes)).length),.arr 20 1 0 ((List.replicate (l_1.length:Int).toNat (false:Bool)).length),.p (.val (.slice none 0 0))]) Z Z Z (qp Z Z Z Y) (lt3 (nl Z) (nl Z) Y) (bs Z (a6 [(14,_),(17,_),(20,_)] ⟨.inr ⟨0,_,Z,Z,Z⟩,.inr ⟨3,_,Z,Z,Z⟩,.inr ⟨6,_,Z,Z,Z⟩,trivial⟩ (λ sl hsl K hK=>aj Z (tF Z Z Z Z Z Z (km (hsl _ _ Z) (km (hsl _ _ Z) (km (hsl _ _ Z) vc))) Z Z hK)) (bs Z (bs Z bA)))) ?_
 skip; refine gS (λ _=>.ptr 22 0) [(21,_)] Z ⟨.inr ⟨7,_,Z,Z,Z⟩,trivial⟩ Z Z Y (lt3 (λ h=>absurd h (by decide)) (λ h=>absurd h (by decide)) (λ h=>absurd h (by decide))) (λ sl hsl K hK=>aj Z (ze Z Z Z (hsl _ _ Z) Z Z (by repeat (first | exact rfl | apply ns Z | apply dmO_drop Z | apply np Z Z)) hK)) ?_
 refine qC (λ _=>.ptr 22 0) Z Z Z (qp Z Z Z Y) (lt3 Y Y (nl Z)) (a6 [(22,_)] ⟨.inr ⟨8,_,Z,Z,Z⟩,trivial⟩ (λ sl hsl K hK=>aj Z (bp Z Z Z (hsl _ _ Z) hK)) (bs Z (bs Z (bs Z bA)))) ?_
 skip; refine EL (dPc (.p (eL ae l_1)) Z (dPc (.p (eL ae l_1)) Z (bD (λ _=>.p (eI (l_1.length:Int))) Z Z Z (qp Z Z Z Y) (lt3 Z Z Z) (bs Z (bs Z (a6 [(15,_)] ⟨.inr ⟨1,_,Z,Z,Z⟩,trivial⟩ (λ sl hsl K hK=>aj Z (ll (f:=ae) (l:=l_1) Z Z Z Z Z (hsl _ _ Z) Z hK)) (a6 [(15,_)] ⟨.inr ⟨1,_,Z,Z,Z⟩,trivial⟩ (λ sl hsl K hK=>aj Z (ll (f:=ae) (l:=l_1) Z Z Z Z Z (hsl _ _ Z) Z hK)) bA)))) (gS (λ _=>.arr 17 1 0 ((List.replicate (l_1.length:Int).toNat ([]:Bytes)).length)) [(16,_)] Z ⟨.inr ⟨2,_,Z,Z,Z⟩,trivial⟩ Z Z (hQ Z Y) (lt3 (λ h=>absurd h (by decide)) (λ h=>absurd h (by decide)) Y) (λ sl hsl K hK=>aj Z (qc eS ([]:Bytes) Z Z Z Z Z Z Z Z Z (hsl _ _ Z) (hsl _ _ Z) hk1 (by repeat (first | exact rfl | apply ns Z | apply dmO_drop Z | apply np Z Z)) hK)) (dPc (.p (eL ae l_1)) Z (bD (λ _=>.p (eI (l_1.length:Int))) Z Z Z (qp Z Z Z Y) (lt3 Z Z Z) (bs Z (bs Z (bs Z (a6 [(18,_)] ⟨.inr ⟨4,_,Z,Z,Z⟩,trivial⟩ (λ sl hsl K hK=>aj Z (ll (f:=ae) (l:=l_1) Z Z Z Z Z (hsl _ _ Z) Z hK)) bA)))) (gS (λ _=>.arr 20 1 0 ((List.replicate (l_1.length:Int).toNat (false:Bool)).length)) [(19,_)] Z ⟨.inr ⟨5,_,Z,Z,Z⟩,trivial⟩ Z Z (wh Z Z Y) (lt3 (λ h=>absurd h (by decide)) Y Y) (λ sl hsl K hK=>aj Z (qc eB (false:Bool) Z Z Z Z Z Z Z Z Z (hsl _ _ Z) (hsl _ _ Z) hk2 (by repeat (first | exact rfl | apply ns Z | apply dmO_drop Z | apply np Z Z)) hK)) (qC (λ _=>.agg [.p (eL ae l_1),.arr 17 1 0 ((List.replicate (l_1.length:Int).toNat ([]:Bytes)).length),.arr 20 1 0 ((List.replicate (l_1.length:Int).toNat (false:Bool)).length),.p (.val (.slice none 0 0))]) Z Z Z (qp Z Z Z Y) (lt3 (nl Z) (nl Z) Y) (bs Z (a6 [(14,_),(17,_),(20,_)] ⟨.inr ⟨0,_,Z,Z,Z⟩,.inr ⟨3,_,Z,Z,Z⟩,.inr ⟨6,_,Z,Z,Z⟩,trivial⟩ (λ sl hsl K hK=>aj Z (tF Z Z Z Z Z Z (km (hsl _ _ Z) (km (hsl _ _ Z) (km (hsl _ _ Z) vc))) Z Z hK)) (bs Z (bs Z bA)))) (gS (λ _=>.ptr 22 0) [(21,_)] Z ⟨.inr ⟨7,_,Z,Z,Z⟩,trivial⟩ Z Z Y (lt3 (λ h=>absurd h (by decide)) (λ h=>absurd h (by decide)) (λ h=>absurd h (by decide))) (λ sl hsl K hK=>aj Z (ze Z Z Z (hsl _ _ Z) Z Z (by repeat (first | exact rfl | apply ns Z | apply dmO_drop Z | apply np Z Z)) hK)) (qC (λ _=>.ptr 22 0) Z Z Z (qp Z Z Z Y) (lt3 Y Y (nl Z)) (a6 [(22,_)] ⟨.inr ⟨8,_,Z,Z,Z⟩,trivial⟩ (λ sl hsl K hK=>aj Z (bp Z Z Z (hsl _ _ Z) hK)) (bs Z (bs Z (bs Z bA)))) (EI Z ⟨Z,Z,Z,trivial⟩ ⟨⟨Z,Z,.inr Z⟩,⟨⟨Z,Z,.inl Z⟩,⟨⟨Z,Z,.inr Z⟩,⟨⟨Z,Z,.inl Z⟩,⟨⟨Z,Z,.inr Z⟩,⟨⟨Z,Z,.inr Z⟩,⟨⟨Z,Z,.inl Z⟩,⟨⟨Z,Z,.inr Z⟩,⟨⟨Z,Z,.inr Z⟩,⟨⟨Z,Z,.inr Z⟩,trivial⟩⟩⟩⟩⟩⟩⟩⟩⟩⟩))))))))))) ?_
 refine nx 5 Z (oLl (f:=ae) Z Z (nx 3 Z (bd h0 λ o126 h1 h0=>?_)))
 refine kE 0 o126 (λ v127=>⟨[(0,.p (eL eS targets_0)),(1,.p (eL ae l_1)),(5,.ptr 22 0)],[(22,[.p (eL ae l_1),.arr 17 1 0 v127.length,.arr 20 1 0 ((List.replicate (l_1.length:Int).toNat (false:Bool)).length),.p (.val (.slice none 0 0))]),(17,(v127.map eS).map .p),(20,((List.replicate (l_1.length:Int).toNat (false:Bool)).map eB).map .p)]⟩) ?_ ?_
 ·refine nx 5 Z (oLl (f:=ae) Z Z (nx 3 Z (bd h0 λ o128 h1 h0=>?_)))
  refine kE 2 o128 (λ v129=>⟨[(1,.p (eL ae l_1)),(5,.ptr 22 0)],[(22,[.p (eL ae v129.1),.arr 17 1 0 v129.2.2.1.length,.arr 20 1 0 v129.2.2.2.length,.stk 101000 1 (v129.2.1.map eI)]),(17,(v129.2.2.1.map eS).map .p),(20,(v129.2.2.2.map eB).map .p)]⟩) ?_ ?_
  ·refine nx 3 Z (bd h0 λ o130 h1 h0=>?_)
   refine kE 4 o130 (λ v131=>⟨[(1,.p (eL ae l_1)),(5,.ptr 22 0)],[(22,[.p (eL ae v131.1),.arr 17 1 0 v131.2.2.1.length,.arr 20 1 0 v131.2.2.2.length,.stk 103000 1 (v131.2.1.map eI)]),(17,(v131.2.2.1.map eS).map .p),(20,(v131.2.2.2.map eB).map .p)]⟩) ?_ ?_
   ·refine nx 9 Z (oLl (f:=ae) Z Z (nx 3 Z (bd h0 λ o132 h1 h0=>?_)))
    refine kE 6 o132 (λ v133=>⟨[(11,.vec 111 22 0 (v133.map ae))],[]⟩) ?_ ?_
    ·exact nx 7 Z (mQ (oi h0) Z (AV.sub_vec _ _ _ _))
    refine lG (λ (q134:(List ab)×Int)=>⟨[(5,.ptr 22 0),(11,.vec 111 22 0 (q134.1.map ae)),(93,.p (eL ae l_1)),(94,.p (eI (l_1.length:Int))),(95,.p (eI q134.2))],[(22,[.p (eL ae o130.1),.arr 17 1 0 o130.2.2.1.length,.arr 20 1 0 o130.2.2.2.length,.stk 103000 1 (o130.2.1.map eI)]),(17,(o130.2.2.1.map eS).map .p),(20,(o130.2.2.2.map eB).map .p)]⟩) (λ m (q134:(List ab)×Int)=>cD n l_1 o130.2.2.2 m q134.1 q134.2) Y ([],0) h1 (bR (ci ⟨er Z,⟨_,Z,AV.sub_nilvec _ _ _⟩,er Z,er Z,er Z,trivial⟩ ⟨⟨_,Z,⟨sr,sr,sr,sr,trivial⟩⟩,⟨_,Z,aw _⟩,⟨_,Z,aw _⟩,trivial⟩)) ?_
    rintro m ⟨out106,t107⟩ h1
    replace h1:cD n l_1 o130.2.2.2 (m+1) out106 t107=some o132:=h1
    rw [cD] at h1
    refine nx 5 Z (fD [96] h1 Z (λ c108 h1=>?_) λ c108 h1=>?_)
    ·refine nx 3 Z (bd h1 λ o135 h2 h1=>?_)
     refine kN o135 (λ v136=>⟨[(5,.ptr 22 0),(11,.vec 111 22 0 (v136.map ae)),(93,.p (eL ae l_1)),(94,.p (eI (l_1.length:Int))),(95,.p (eI t107))],[(22,[.p (eL ae o130.1),.arr 17 1 0 o130.2.2.1.length,.arr 20 1 0 o130.2.2.2.length,.stk 103000 1 (o130.2.1.map eI)]),(17,(o130.2.2.1.map eS).map .p),(20,(o130.2.2.2.map eB).map .p)]⟩) ?_ ?_
     ·exact nx 2 Z (oA h1 Z Z λ hk116 h1=>nx 2 Z (eX (o135,t107+1) h1 (gE Z Z)))
     refine nx 4 Z (oE h2 ab.cells_eq Z Z Y λ hk109 h2=>nx 1 Z (mO Z (m7 Z Z Z Z Z (mG (nb (show mh _ _=_ from (by repeat (first | exact jx _ | apply demOb_drop Z | apply dG Z (ni _ _) | apply dG Z Z)))) (nx 10 Z (cc' h2 λ hk110 h2=>mO Z (aY Z Z Z Z Z Z Z Z Z hk110 (mO Z (bu (default:Bool) (f:=eB) (l:=o130.2.2.2) Z Z Z Z Z Z Z (by have:=hk110; omega) (nx 1 Z (fB [106] h2 Z (λ c111 h2=>?_) λ c111 h2=>?_)))))))))))
     ·exact nx 4 Z (bd h2 λ r112 e113 h2=>oK (rt _ (lat l_1 t107) _ e113) Z ⟨sr,trivial⟩ Tryz.call41 Z (mO Z (bw ae [r112] Z Z Z Z Z Z Z Z Z Z Z Z Z (by first | rfl | (simp only [List.map_cons,List.map_nil,ab.agg_eq]; done) | (simp only [List.map_cons,List.map_nil,ab.agg_eq]; rfl)) (cc' h2 λ hk114 h2=>mO Z (gP ae out106 [r112] Z Z Z Z Z Z Z Z Z Z Z Z Z (λ x=>congrArg List.length (ab.cells_eq x)) Z Z Z Z hk114 (mG (B9 (show mh _ _=_ from (by repeat (first | exact jx _ | apply demOb_drop Z | apply dG Z (ni _ _) | apply dG Z Z)))) (nx 2 Z (eX _ (oi h2).symm (gE Z Z)))))))))
     exact nx 2 Z (eX _ (oi h2).symm (gE Z Z))
    exact nx 2 Z (eXi _ (oi h1).symm (gE Z Z))
   skip; refine mG (bv 101000 103000 Z Z Z Z (by repeat (first | exact rfl | exact aN _ | apply aK))) ?_
   refine lG (λ (q137:(List ab)×(List Int)×(List Bytes)×(List Bool))=>⟨[(1,.p (eL ae l_1)),(5,.ptr 22 0)],[(22,[.p (eL ae q137.1),.arr 17 1 0 q137.2.2.1.length,.arr 20 1 0 q137.2.2.2.length,.stk 103000 1 (q137.2.1.map eI)]),(17,(q137.2.2.1.map eS).map .p),(20,(q137.2.2.2.map eB).map .p)]⟩) (λ m (q137:(List ab)×(List Int)×(List Bytes)×(List Bool))=>cF n m q137.1 q137.2.1 q137.2.2.1 q137.2.2.2) Y (o128.1,o128.2.1,o128.2.2.1,o128.2.2.2) h1 (bR (ci ⟨er Z,er Z,trivial⟩ ⟨⟨_,Z,⟨sr,AV.sub_of_eq (by first | rfl | (simp; done) | (simp [AV.dem]; rfl)),AV.sub_of_eq (by first | rfl | (simp; done) | (simp [AV.dem]; rfl)),sr,trivial⟩⟩,⟨_,Z,aw _⟩,⟨_,Z,aw _⟩,trivial⟩)) ?_
   rintro m ⟨f76,f77,l78,l79⟩ h1
   replace h1:cF n (m+1) f76 f77 l78 l79=some o130:=h1
   rw [cF] at h1
   refine nx 7 Z (mO Z (mV eI f77 Z Z Z Z Z Z (nx 2 Z (fD [63] h1 Z (λ c80 h1=>?_) λ c80 h1=>?_))))
   ·refine nx 4 Z (cc' h1 λ hk81 h1=>cc' h1 λ hk82 h1=>mD [(1,.p (eL ae l_1)),(5,.ptr 22 0)] Z ⟨Z,Z,trivial⟩ Z (dR 8 Z (dq (.p (eI (f77.length:Int))) [71] Z (λ _ e _ q=>aj Z (mV eI f77 Z Z Z Z Z (e _ _ Z) q)) Z (dq (.p (eI ((f77.length:Int) - 1))) [72] Z (λ _ e _ q=>aj Z (ee Z Z Z (e _ _ Z) Z Z hk81 q)) Z (dq (.ptr 103000 ((f77.length:Int) - 1).toNat) [67,73] Z (λ _ e _ q=>aj Z (ou eI f77 Z Z Z Z Z Z (e _ _ Z) (e _ _ Z) Z hk82 q)) Z (dq (.p (eI (lat f77 ((f77.length:Int) - 1)))) [74] Z (λ _ e _ q=>aj Z (ye eI (λ _=>⟨Z,Z⟩) f77 22 3 Z Z Z Z Z (e _ _ Z) Z Z hk82 q)) Z (dR 1 Z (dE Z (nx 2 Z (cc' h1 λ hk83 h1=>cc' h1 λ hk84 h1=>mG (gE (t:=⟨[(1,.p (eL ae l_1)),(5,.ptr 22 0),(10,.p (eI (lat f77 ((f77.length:Int) - 1))))],[(22,[.p (eL ae f76),.arr 17 1 0 l78.length,.arr 20 1 0 l79.length,.stk 103000 1 (f77.map eI)]),(17,(l78.map eS).map .p),(20,(l79.map eB).map .p)]⟩) Z Z) (mSq ⟨1,[14],(λ _=>.none),(λ _=>[(1,.p (eL ae l_1)),(5,.ptr 22 0),(10,.p (eI (lat f77 ((f77.length:Int) - 1))))]),(ob2 ([(22,[.p (eL ae f76),.arr 17 1 0 l78.length,.arr 20 1 0 l79.length,.stk 103000 1 (f77.map eI)]),(17,(l78.map eS).map .p),(20,(l79.map eB).map .p)]) (22,[.p (eL ae f76),.arr 17 1 0 l78.length,.arr 20 1 0 l79.length,.stk 103000 1 ((f77.take ((f77.length:Int) - 1).toNat).map eI)]))⟩ Z ?_)))))))))))
    refine dPc (.ptr 22 0) Z (dPc (.ptr 22 0) Z (dPc (.ptr 22 0) Z (dPc (.ptr 22 3) Z (dPc (.stk 103000 1 (f77.map eI)) Z (dPc (.ptr 22 0) Z (dPc (.ptr 22 0) Z (dPc (.ptr 22 3) Z (dPc (.stk 103000 1 (f77.map eI)) Z (bD (λ _=>.p (eI (f77.length:Int))) Z Z Z (hQ Z Y) (lt1 Z) (bs Z (a6 [(84,_)] ⟨.inr ⟨8,_,Z,Z,Z⟩,trivial⟩ (λ sl hsl K hK=>aj Z (mV eI f77 Z Z Z Z Z (hsl _ _ Z) hK)) bA)) ?_)))))))))
    refine bD (λ _=>.p (eI ((f77.length:Int) - 1))) Z Z Z (hQ Z Y) (lt1 Z) (bs Z (a6 [(85,_)] ⟨.inr ⟨9,_,Z,Z,Z⟩,trivial⟩ (λ sl hsl K hK=>aj Z (ee Z Z Z (hsl _ _ Z) Z Z hk83 hK)) bA)) (bD (λ _=>.stk 103000 1 ((f77.take ((f77.length:Int) - 1).toNat).map eI)) Z Z Z (hQ Z Y) (lt1 Z) (bs Z (a6 [(80,_),(86,_)] ⟨.inr ⟨4,_,Z,Z,Z⟩,.inr ⟨10,_,Z,Z,Z⟩,trivial⟩ (λ sl hsl K hK=>aj Z (uy (h:=(f77.length:Int) - 1) eI f77 Z Z Z Z Z Z (hsl _ _ Z) (nH (hsl _ _ Z)) hk84 Z hK)) bA)) ?_)
    refine dPc (.ptr 22 0) Z (dPc (.ptr 22 3) Z (dS Z (iL (nx 4 Z (bd h1 λ r85 e86 h1=>mO Z (b6 [22,17,20] [103000] 104000 104001 (mz _ (cM.mk f76 l78 l79 (f77.take ((f77.length:Int) - 1).toNat)) (lat f77 ((f77.length:Int) - 1)) _ e86) Z Z Z Z Z ⟨sr,sr,trivial⟩ Z (aK Z Z (aK Z (aN _) (aK Z (aN _) Z))) ⟨⟨_,Z,⟨sr,sr,sr,sr,trivial⟩⟩,⟨_,Z,aw _⟩,⟨_,Z,aw _⟩,trivial⟩ Z Z Z Z Z Z Z Z Tryz.call40 Z (aK Z Z (aK Z (aN _) (aK Z (aN _) Z))) (nx 1 Z ?_)))))))
    skip; refine mG (bv 104000 103000 Z Z Z Z (by repeat (first | exact rfl | exact aN _ | apply aK))) ?_
    exact eX (r85.fchanges,r85.ftodo,r85.fresources,r85.fchosen) h1 (bR (ci ⟨er Z,er Z,trivial⟩ ⟨⟨_,Z,⟨sr,AV.sub_of_eq (by first | rfl | (simp; done) | (simp [AV.dem]; rfl)),AV.sub_of_eq (by first | rfl | (simp; done) | (simp [AV.dem]; rfl)),sr,trivial⟩⟩,⟨_,Z,aw _⟩,⟨_,Z,aw _⟩,trivial⟩))
   exact nx 2 Z (eXi _ (oi h1).symm (bR (ci ⟨er Z,er Z,trivial⟩ ⟨⟨_,Z,⟨sr,AV.sub_of_eq (by first | rfl | (simp; done) | (simp [AV.dem]; rfl)),AV.sub_of_eq (by first | rfl | (simp; done) | (simp [AV.dem]; rfl)),sr,trivial⟩⟩,⟨_,Z,aw _⟩,⟨_,Z,aw _⟩,trivial⟩)))
  refine lG (λ (q138:Int×(List ab)×(List Int)×(List Bytes)×(List Bool))=>⟨[(0,.p (eL eS targets_0)),(1,.p (eL ae l_1)),(5,.ptr 22 0),(43,.p (eL ae l_1)),(44,.p (eI (l_1.length:Int))),(45,.p (eI q138.1))],[(22,[.p (eL ae q138.2.1),.arr 17 1 0 q138.2.2.2.1.length,.arr 20 1 0 q138.2.2.2.2.length,.stk 101000 1 (q138.2.2.1.map eI)]),(17,(q138.2.2.2.1.map eS).map .p),(20,(q138.2.2.2.2.map eB).map .p)]⟩) (λ m (q138:Int×(List ab)×(List Int)×(List Bytes)×(List Bool))=>cE n targets_0 l_1 m q138.1 q138.2.1 q138.2.2.1 q138.2.2.2.1 q138.2.2.2.2) Y (0,l_1,[],o126,List.replicate (l_1.length:Int).toNat (false:Bool)) h1 (bR (ci ⟨er Z,er Z,er Z,er Z,er Z,er Z,trivial⟩ ⟨⟨_,Z,⟨sr,AV.sub_of_eq (by first | rfl | (simp; done) | (simp [AV.dem]; rfl)),AV.sub_of_eq (by first | rfl | (simp; done) | (simp [AV.dem]; rfl)),AV.sub_nilstk _ _,trivial⟩⟩,⟨_,Z,aw _⟩,⟨_,Z,aw _⟩,trivial⟩)) ?_
  rintro m ⟨t39,f40,f41,l42,l43⟩ h1
  replace h1:cE n targets_0 l_1 (m+1) t39 f40 f41 l42 l43=some o128:=h1
  rw [cE] at h1
  refine nx 5 Z (fD [46] h1 Z (λ c44 h1=>?_) λ c44 h1=>?_)
  ·refine nx 3 Z (bd h1 λ o139 h2 h1=>?_)
   refine kN o139 (λ v140=>⟨[(0,.p (eL eS targets_0)),(1,.p (eL ae l_1)),(5,.ptr 22 0),(43,.p (eL ae l_1)),(44,.p (eI (l_1.length:Int))),(45,.p (eI t39))],[(22,[.p (eL ae v140.1),.arr 17 1 0 v140.2.2.1.length,.arr 20 1 0 v140.2.2.2.length,.stk 102000 1 (v140.2.1.map eI)]),(17,(v140.2.2.1.map eS).map .p),(20,(v140.2.2.2.map eB).map .p)]⟩) ?_ ?_
   ·refine nx 2 Z (oA h1 Z Z λ hk55 h1=>nx 2 Z ?_)
    skip; refine mG (bv 102000 101000 Z Z Z Z (by repeat (first | exact rfl | exact aN _ | apply aK))) ?_
    exact eX (t39+1,o139.1,o139.2.1,o139.2.2.1,o139.2.2.2) h1 (bR (ci ⟨er Z,er Z,er Z,er Z,er Z,er Z,trivial⟩ ⟨⟨_,Z,⟨sr,AV.sub_of_eq (by first | rfl | (simp; done) | (simp [AV.dem]; rfl)),AV.sub_of_eq (by first | rfl | (simp; done) | (simp [AV.dem]; rfl)),sr,trivial⟩⟩,⟨_,Z,aw _⟩,⟨_,Z,aw _⟩,trivial⟩))
   refine nx 4 Z (oE h2 ab.cells_eq Z Z Y λ hk45 h2=>nx 1 Z (mO Z (m7 Z Z Z Z Z (mG (nb (show mh _ _=_ from (by repeat (first | exact jx _ | apply demOb_drop Z | apply dG Z (ni _ _) | apply dG Z Z)))) (nx 8 Z (bd h2 λ r46 e47 h2=>oK (gT _ targets_0 ((lat l_1 t39).fAddr) _ e47) Z ⟨sr,sr,trivial⟩ Tryz.call15 Z (nx 1 Z ?_)))))))
   refine fB [53] h2 Z (λ c48 h2=>?_) λ c48 h2=>?_
   ·exact nx 4 Z (bd h2 λ r49 e50 h2=>mO Z (b6 [22,17,20] [101000] 102000 102001 (iY (cM.mk f40 l42 l43 f41) t39 _ e50) Z Z Z Z Z ⟨sr,sr,trivial⟩ Z (aK Z Z (aK Z (aN _) (aK Z (aN _) Z))) ⟨⟨_,Z,⟨sr,sr,sr,sr,trivial⟩⟩,⟨_,Z,aw _⟩,⟨_,Z,aw _⟩,trivial⟩ Z Z Z Z Z Z Z Z Tryz.call39 Z (aK Z Z (aK Z (aN _) (aK Z (aN _) Z))) (nx 1 Z (eX _ (oi h2).symm (bR (ci ⟨er Z,er Z,er Z,er Z,er Z,er Z,trivial⟩ ⟨⟨_,Z,⟨sr,AV.sub_of_eq (by first | rfl | (simp; done) | (simp [AV.dem]; rfl)),AV.sub_of_eq (by first | rfl | (simp; done) | (simp [AV.dem]; rfl)),sr,trivial⟩⟩,⟨_,Z,aw _⟩,⟨_,Z,aw _⟩,trivial⟩))))))
   refine nx 2 Z ?_
   skip; refine mG (bv 101000 102000 Z Z Z Z (by repeat (first | exact rfl | exact aN _ | apply aK))) ?_
   exact eX _ (oi h2).symm (bR (ci ⟨er Z,er Z,er Z,er Z,er Z,er Z,trivial⟩ ⟨⟨_,Z,⟨sr,AV.sub_of_eq (by first | rfl | (simp; done) | (simp [AV.dem]; rfl)),AV.sub_of_eq (by first | rfl | (simp; done) | (simp [AV.dem]; rfl)),sr,trivial⟩⟩,⟨_,Z,aw _⟩,⟨_,Z,aw _⟩,trivial⟩))
  exact nx 2 Z (eXi _ (oi h1).symm (bR (ci ⟨er Z,er Z,trivial⟩ ⟨⟨_,Z,⟨sr,AV.sub_of_eq (by first | rfl | (simp; done) | (simp [AV.dem]; rfl)),AV.sub_of_eq (by first | rfl | (simp; done) | (simp [AV.dem]; rfl)),sr,trivial⟩⟩,⟨_,Z,aw _⟩,⟨_,Z,aw _⟩,trivial⟩)))
 refine lG (λ (q141:Int×(List Bytes))=>⟨[(0,.p (eL eS targets_0)),(1,.p (eL ae l_1)),(5,.ptr 22 0),(23,.p (eL ae l_1)),(24,.p (eI (l_1.length:Int))),(25,.p (eI q141.1))],[(22,[.p (eL ae l_1),.arr 17 1 0 q141.2.length,.arr 20 1 0 ((List.replicate (l_1.length:Int).toNat (false:Bool)).length),.p (.val (.slice none 0 0))]),(17,(q141.2.map eS).map .p),(20,((List.replicate (l_1.length:Int).toNat (false:Bool)).map eB).map .p)]⟩) (λ m (q141:Int×(List Bytes))=>cC n l_1 m q141.1 q141.2) Y (0,List.replicate (l_1.length:Int).toNat ([]:Bytes)) h1 (bR (ci ⟨er Z,er Z,er Z,er Z,er Z,er Z,trivial⟩ ⟨⟨_,Z,⟨sr,AV.sub_of_eq (by first | rfl | (simp; done) | (simp [AV.dem]; rfl)),sr,sr,trivial⟩⟩,⟨_,Z,aw _⟩,⟨_,Z,aw _⟩,trivial⟩)) ?_
 rintro m ⟨t11,l12⟩ h1
 replace h1:cC n l_1 (m+1) t11 l12=some o126:=h1
 rw [cC] at h1
 refine nx 5 Z (fD [26] h1 Z (λ c13 h1=>?_) λ c13 h1=>?_)
 ·refine nx 7 Z (oE h1 ab.cells_eq Z Z Y λ hk14 h1=>nx 1 Z (mO Z (m7 Z Z Z Z Z (mG (nb (show mh _ _=_ from (by repeat (first | exact jx _ | apply demOb_drop Z | apply dG Z (ni _ _) | apply dG Z Z)))) (nx 3 Z (bd h1 λ r15 e16 h1=>cc' h1 λ hk17 h1=>mG (gE (t:=⟨[(0,.p (eL eS targets_0)),(1,.p (eL ae l_1)),(5,.ptr 22 0),(6,.p (eI t11)),(7,.ptr 7 0),(23,.p (eL ae l_1)),(24,.p (eI (l_1.length:Int))),(25,.p (eI t11))],[(7,(ab.cs (lat l_1 t11)).map .p),(22,[.p (eL ae l_1),.arr 17 1 0 l12.length,.arr 20 1 0 ((List.replicate (l_1.length:Int).toNat (false:Bool)).length),.p (.val (.slice none 0 0))]),(17,(l12.map eS).map .p),(20,((List.replicate (l_1.length:Int).toNat (false:Bool)).map eB).map .p)]⟩) Z Z) (mSq ⟨1,[12],(λ _=>.none),(λ _=>[(0,.p (eL eS targets_0)),(1,.p (eL ae l_1)),(5,.ptr 22 0),(6,.p (eI t11)),(7,.ptr 7 0),(23,.p (eL ae l_1)),(24,.p (eI (l_1.length:Int))),(25,.p (eI t11))]),(ob2 ([(7,[.p (eS ((lat l_1 t11).fAddr)),.p (eS ((lat l_1 t11).fDeposed)),.p (eS ((lat l_1 t11).fType)),.p (eI ((lat l_1 t11).fAction)),.p (eI ((lat l_1 t11).fReason)),.p (eI (((lat l_1 t11).fBefore).fKind)),.p (eI (((lat l_1 t11).fBefore).fNum)),.p (eS (((lat l_1 t11).fBefore).fStr)),.p (eL bY (((lat l_1 t11).fBefore).fItems)),.p (eL eS (((lat l_1 t11).fBefore).fKeys)),.p (eI (((lat l_1 t11).fAfter).fKind)),.p (eI (((lat l_1 t11).fAfter).fNum)),.p (eS (((lat l_1 t11).fAfter).fStr)),.p (eL bY (((lat l_1 t11).fAfter).fItems)),.p (eL eS (((lat l_1 t11).fAfter).fKeys)),.p (eS ((lat l_1 t11).fID)),.p (eL eS ((lat l_1 t11).fReplace)),.p (eB ((lat l_1 t11).fCreateFirst)),.p (eB ((lat l_1 t11).fProtect)),.p (eB ((lat l_1 t11).fImport)),.p (eL eS ((lat l_1 t11).fDeps)),.p (eL eS ((lat l_1 t11).fOldDeps))]),(22,[.p (eL ae l_1),.arr 17 1 0 l12.length,.arr 20 1 0 ((List.replicate (l_1.length:Int).toNat (false:Bool)).length),.p (.val (.slice none 0 0))]),(17,(l12.map eS).map .p),(20,((List.replicate (l_1.length:Int).toNat (false:Bool)).map eB).map .p)]) (17,((l12.set t11.toNat r15.1).map eS).map .p))⟩ Z (dPc (.ptr 22 0) Z (dPc (.ptr 22 0) Z (dPc (.ptr 22 1) Z (dPc (.arr 17 1 0 l12.length) Z (dPc (.p (eI t11)) Z (dPc (.ptr 7 0) Z ?_)))))))))))))
  refine dPc (.p (eS ((lat l_1 t11).fAddr))) Z (bD (λ _=>.tuple [.p (eS r15.1),.p (eI r15.2)]) Z Z Z (hQ Z Y) (lt1 Z) (bs Z (a6 [(37,_)] ⟨.inr ⟨6,_,Z,Z,Z⟩,trivial⟩ (λ sl hsl K hK=>aj Z (bj (me _ ((lat l_1 t11).fAddr) _ e16) Z Z Z (aI (hsl _ _ Z) bh) ⟨sr,trivial⟩ Tryz.call32 Z hK)) bA)) (dPc (.tuple [.p (eS r15.1),.p (eI r15.2)]) Z (dPc (.p (eS r15.1)) Z (dPc (.p (eI r15.2)) Z (bD (λ _=>.ptr 17 t11.toNat) Z Z Z (hQ Z Y) (lt1 Z) (bs Z (a6 [(34,_),(35,_)] ⟨.inr ⟨3,_,Z,Z,Z⟩,.inr ⟨4,_,Z,Z,Z⟩,trivial⟩ (λ sl hsl K hK=>aj Z (aY Z Z Z Z Z Z (hsl _ _ Z) (hsl _ _ Z) Z hk17 hK)) bA)) ?_)))))
  refine qA [(39,_),(41,_)] Z ⟨.inr ⟨9,_,Z,Z,Z⟩,.inr ⟨11,_,Z,Z,Z⟩,trivial⟩ Z (λ sl hsl K hK=>aj Z (dm (f:=eS) (l:=l12) (b:=r15.1) Z Z Z Z (hsl _ _ Z) Z (hsl _ _ Z) Z (by have:=hk17; omega) hK)) (iL ?_)
  exact nx 2 Z (oA h1 Z Z λ hk18 h1=>nx 2 Z (eX (t11+1,l12.set t11.toNat r15.1) h1 (bR (ci ⟨er Z,er Z,er Z,er Z,er Z,er Z,trivial⟩ ⟨⟨_,Z,⟨sr,AV.sub_of_eq (by first | rfl | (simp; done) | (simp [AV.dem]; rfl)),sr,sr,trivial⟩⟩,⟨_,Z,aw _⟩,⟨_,Z,aw _⟩,trivial⟩))))
 exact nx 2 Z (eXi _ (oi h1).symm (bR (ci ⟨er Z,er Z,er Z,trivial⟩ ⟨⟨_,Z,⟨sr,AV.sub_of_eq (by first | rfl | (simp; done) | (simp [AV.dem]; rfl)),sr,sr,trivial⟩⟩,⟨_,Z,aw _⟩,⟨_,Z,aw _⟩,trivial⟩)))
def iz (n:Nat)(g_0:gp)(statics_1:List Bytes):Option (List Bytes) :=
 (jy n g_0 statics_1).bind λ r1 =>
 some r1
theorem sE (n:Nat)(g_0:gp)(statics_1:List Bytes)(r:(List Bytes))(h0:iz n g_0 statics_1=some r):aC Tryz.prog 18 [.agg (gp.cs g_0),eL eS statics_1] (·=.p (eL eS r)):=by
 unfold iz at h0
 refine bc good Tryz.func18 Z Z Z λ w0=>mP (λ v:(List Bytes)=>.p (eL eS v)) ?_
 exact nx 9 Z (bd h0 λ r1 e2 h0=>oK (tV _ g_0 statics_1 _ e2) Z ⟨sr,sr,trivial⟩ Tryz.call37 Z (nx 3 Z (mQ (oi h0) Z (sr))))
def iD (addr_0:Bytes)(a_1:Int)(deps_2:List Bytes)(old_3:List Bytes):Option ab :=
 some (ab.mk addr_0 ([]:Bytes) ([]:Bytes) a_1 0 (ay.mk 0 0 ([]:Bytes) [] []) (ay.mk 0 0 ([]:Bytes) [] []) ([]:Bytes) [] false false false deps_2 old_3)
theorem jg (addr_0:Bytes)(a_1:Int)(deps_2:List Bytes)(old_3:List Bytes)(r:ab)(h0:iD addr_0 a_1 deps_2 old_3=some r):aC Tryz.prog 30 [eS addr_0,eI a_1,eL eS deps_2,eL eS old_3] (·=.p (.agg (ab.cs r))):=by
 unfold iD at h0
 refine bc good Tryz.func30 Z Z Z λ w0=>mP (λ v:ab=>.p (.agg (ab.cs v))) ?_
 exact nx 14 Z (mQ (oi h0) Z (iG ⟨.inl Z,.inl Z,.inl Z,.inl Z,.inl Z,.inl Z,.inl Z,.inl Z,.inr ⟨Z,Z⟩,.inr ⟨Z,Z⟩,.inl Z,.inl Z,.inl Z,.inr ⟨Z,Z⟩,.inr ⟨Z,Z⟩,.inl Z,.inr ⟨Z,Z⟩,.inl Z,.inl Z,.inl Z,.inl Z,.inl Z,trivial⟩))
def gb (n:Nat):Option Bool :=
 (iD ([97,46,120]:Bytes) 4 [] []).bind λ r1 =>
 (iD ([98,46,121]:Bytes) 4 [] ([([97,46,120]:Bytes)])).bind λ r3 =>
 (iD ([110,101,116,46,110]:Bytes) 1 [] []).bind λ r5 =>
 (iD ([115,101,114,118,101,114,46,115,91,48,93]:Bytes) 1 ([([110,101,116,46,110]:Bytes)]) []).bind λ r7 =>
 (cY n ([([97,46,120]:Bytes)]) [r1,r3,r5,r7]).bind λ r9 =>
 (cY n ([([98,46,121]:Bytes)]) [r1,r3,r5,r7]).bind λ r11 =>
 (cY n ([([115,101,114,118,101,114,46,115]:Bytes)]) [r1,r3,r5,r7]).bind λ r13 =>
 (iz n (gp.mk ([([97]:Bytes),([98]:Bytes)]) ([(lD.mk ([97]:Bytes) ([98]:Bytes))])) ([([97]:Bytes)])).bind λ r15 =>
 (
   if (r9.length:Int)=2 then
    if (r11.length:Int)=1 then
     ck ((0:Int)≤0∧0 < (r11.length:Int)) <|
     if (lat r11 0).fAddr=([98,46,121]:Bytes) then
      if (r13.length:Int)=2 then
       ck ((0:Int)≤0∧0 < (r13.length:Int)) <|
       if (lat r13 0).fAddr=([110,101,116,46,110]:Bytes) then
        (cY n [] [r1,r3,r5,r7]).bind λ r24 =>
        if (r24.length:Int)=4 then
         if (r15.length:Int)=2 then
          (cS n ([([97,46,98]:Bytes)]) ([97,46,98,91,48,93]:Bytes)).bind λ r28 =>
          if r28=true then
           (cS n ([([97,46,98]:Bytes)]) ([97,46,99]:Bytes)).bind λ r31 =>
           if (!r31)=true then
            (fk n ([([97,46,98]:Bytes)])).bind λ r34 =>
            if r34=0 then
             (fk n ([([]:Bytes)])).bind λ r37 =>
             some (!decide (r37=0))
            else
             some false
           else
            some false
          else
           some false
         else
          some false
        else
         some false
       else
        some false
      else
       some false
     else
      some false
    else
     some false
   else
    some false
  : Option Bool).bind λ t39 =>
 some t39
theorem oy (n:Nat)(r:Bool)(h0:gb n=some r):aC Tryz.prog 13 [] (·=.p (eB r)):=by
 unfold gb at h0
 refine bc good Tryz.func13 Z Z Z λ w0=>mP (λ v:Bool=>.p (eB v)) ?_
 refine nx 6 Z (bd h0 λ r1 e2 h0=>oK (jg ([97,46,120]:Bytes) 4 [] [] _ e2) Z ⟨sr,sr,jc _,jc _,trivial⟩ Tryz.call30 Z (mO Z (bw eS [([97,46,120]:Bytes)] Z Z Z Z Z Z Z Z Z Z Z Z Z Z (bd h0 λ r3 e4 h0=>oK (jg ([98,46,121]:Bytes) 4 [] ([([97,46,120]:Bytes)]) _ e4) Z ⟨sr,sr,jc _,sr,trivial⟩ Tryz.call30 Z (bd h0 λ r5 e6 h0=>oK (jg ([110,101,116,46,110]:Bytes) 1 [] [] _ e6) Z ⟨sr,sr,jc _,jc _,trivial⟩ Tryz.call30 Z (mO Z (bw eS [([110,101,116,46,110]:Bytes)] Z Z Z Z Z Z Z Z Z Z Z Z Z Z (bd h0 λ r7 e8 h0=>oK (jg ([115,101,114,118,101,114,46,115,91,48,93]:Bytes) 1 ([([110,101,116,46,110]:Bytes)]) [] _ e8) Z ⟨sr,sr,sr,jc _,trivial⟩ Tryz.call30 Z (mO Z (bw ae [r1,r3,r5,r7] Z Z Z Z Z Z Z Z Z Z Z Z Z (by first | rfl | (simp only [List.map_cons,List.map_nil,ab.agg_eq]; done) | (simp only [List.map_cons,List.map_nil,ab.agg_eq]; rfl)) (nx 4 Z (mO Z (bw eS [([97,46,120]:Bytes)] Z Z Z Z Z Z Z Z Z Z Z Z Z Z (nx 1 Z (bd h0 λ r9 e10 h0=>?_)))))))))))))))
 refine oK (fC _ ([([97,46,120]:Bytes)]) [r1,r3,r5,r7] _ e10) Z ⟨sr,sr,trivial⟩ Tryz.call23 Z (nx 4 Z (mO Z (bw eS [([98,46,121]:Bytes)] Z Z Z Z Z Z Z Z Z Z Z Z Z Z (nx 1 Z (bd h0 λ r11 e12 h0=>oK (fC _ ([([98,46,121]:Bytes)]) [r1,r3,r5,r7] _ e12) Z ⟨sr,sr,trivial⟩ Tryz.call23 Z (nx 4 Z (mO Z (bw eS [([115,101,114,118,101,114,46,115]:Bytes)] Z Z Z Z Z Z Z Z Z Z Z Z Z Z (nx 1 Z (bd h0 λ r13 e14 h0=>oK (fC _ ([([115,101,114,118,101,114,46,115]:Bytes)]) [r1,r3,r5,r7] _ e14) Z ⟨sr,sr,trivial⟩ Tryz.call23 Z (nx 4 Z ?_)))))))))))
 refine mO Z (bw eS [([97]:Bytes),([98]:Bytes)] Z Z Z Z Z Z Z Z Z Z Z Z Z Z (nx 1 Z (mO Z (bw mt [(lD.mk ([97]:Bytes) ([98]:Bytes))] Z Z Z Z Z Z Z Z Z Z Z Z Z (by first | rfl | (simp only [List.map_cons,List.map_nil,lD.agg_eq]; done) | (simp only [List.map_cons,List.map_nil,lD.agg_eq]; rfl)) (nx 7 Z (mO Z (bw eS [([97]:Bytes)] Z Z Z Z Z Z Z Z Z Z Z Z Z Z (bd h0 λ r15 e16 h0=>oK (sE _ (gp.mk ([([97]:Bytes),([98]:Bytes)]) ([(lD.mk ([97]:Bytes) ([98]:Bytes))])) ([([97]:Bytes)]) _ e16) Z ⟨sr,sr,trivial⟩ Tryz.call18 Z (nx 2 Z (mG (gE (t:=⟨[(1,.p (eL ae [r1,r3,r5,r7])),(2,.p (eL ae r9)),(3,.p (eL ae r11)),(4,.p (eL ae r13)),(6,.p (eL eS r15))],[]⟩) Z Z) (nx 1 Z (bd h0 λ o41 h1 h0=>kN o41 (λ v42=>⟨[(0,.p (eB v42))],[]⟩) ?_ ?_))))))))))))
 ·exact nx 2 Z (mQ (oi h0) Z (sr))
 refine nx 2 Z (oLl (f:=ae) Z Z (nx 2 Z (fD [32,33] h1 Z (λ c17 h1=>?_) λ c17 h1=>?_)))
 ·refine nx 1 Z (oLl (f:=ae) Z Z (nx 3 Z (fD [36,37,38] h1 Z (λ c18 h1=>?_) λ c18 h1=>?_)))
  ·refine nx 1 Z (oE h1 ab.cells_eq Z Z Y λ hk19 h1=>nx 2 Z (oS Z Z (nx 2 Z (fD [43,44,45] h1 Z (λ c20 h1=>?_) λ c20 h1=>?_))))
   ·refine nx 1 Z (oLl (f:=ae) Z Z (nx 3 Z (fD [48,49,50] h1 Z (λ c21 h1=>?_) λ c21 h1=>?_)))
    ·refine nx 1 Z (oE h1 ab.cells_eq Z Z Y λ hk22 h1=>nx 2 Z (oS Z Z (nx 2 Z (fD [55,56,57] h1 Z (λ c23 h1=>?_) λ c23 h1=>?_))))
     ·refine nx 1 Z (bd h1 λ r24 e25 h1=>oK (fC _ [] [r1,r3,r5,r7] _ e25) Z ⟨jc _,sr,trivial⟩ Tryz.call23 Z (oLl (f:=ae) Z Z (nx 3 Z (fD [61,62,63] h1 Z (λ c26 h1=>?_) λ c26 h1=>?_))))
      ·refine nx 1 Z (oLl (f:=eS) Z Z (nx 3 Z (fD [66,67,68] h1 Z (λ c27 h1=>?_) λ c27 h1=>?_)))
       ·refine mO Z (bw eS [([97,46,98]:Bytes)] Z Z Z Z Z Z Z Z Z Z Z Z Z Z (bd h1 λ r28 e29 h1=>oK (gT _ ([([97,46,98]:Bytes)]) ([97,46,98,91,48,93]:Bytes) _ e29) Z ⟨sr,sr,trivial⟩ Tryz.call15 Z (nx 2 Z ?_)))
        refine fB [70,71,72] h1 Z (λ c30 h1=>?_) λ c30 h1=>?_
        ·refine mO Z (bw eS [([97,46,98]:Bytes)] Z Z Z Z Z Z Z Z Z Z Z Z Z Z (bd h1 λ r31 e32 h1=>oK (gT _ ([([97,46,98]:Bytes)]) ([97,46,99]:Bytes) _ e32) Z ⟨sr,sr,trivial⟩ Tryz.call15 Z (nx 3 Z ?_)))
         refine fB [75,76,77] h1 Z (λ c33 h1=>?_) λ c33 h1=>?_
         ·refine mO Z (bw eS [([97,46,98]:Bytes)] Z Z Z Z Z Z Z Z Z Z Z Z Z Z (bd h1 λ r34 e35 h1=>oK (nI _ ([([97,46,98]:Bytes)]) _ e35) Z ⟨sr,trivial⟩ Tryz.call11 Z (nx 3 Z ?_)))
          refine fD [80,81,82] h1 Z (λ c36 h1=>?_) λ c36 h1=>?_
          ·exact mO Z (bw eS [([]:Bytes)] Z Z Z Z Z Z Z Z Z Z Z Z Z Z (bd h1 λ r37 e38 h1=>oK (nI _ ([([]:Bytes)]) _ e38) Z ⟨sr,trivial⟩ Tryz.call11 Z (nx 4 Z (eX _ (oi h1).symm (gE Z Z)))))
          exact nx 6 Z (eX _ (oi h1).symm (gE Z Z))
         exact nx 11 Z (eX _ (oi h1).symm (gE Z Z))
        exact nx 16 Z (eX _ (oi h1).symm (gE Z Z))
       exact nx 20 Z (eX _ (oi h1).symm (gE Z Z))
      exact nx 25 Z (eX _ (oi h1).symm (gE Z Z))
     exact nx 31 Z (eX _ (oi h1).symm (gE Z Z))
    exact nx 38 Z (eX _ (oi h1).symm (gE Z Z))
   exact nx 43 Z (eX _ (oi h1).symm (gE Z Z))
  exact nx 50 Z (eX _ (oi h1).symm (gE Z Z))
 exact nx 55 Z (eX _ (oi h1).symm (gE Z Z))
def eG (l_0:List Bytes):Nat→Int→Option (Unit⊕Bool)
 | 0,_=>none
 | m+1,i7 =>
 if i7 < (l_0.length:Int) then
  ck ((0:Int)≤i7∧i7 < (l_0.length:Int)) <|
  if 300 < ((lat l_0 i7).length:Int) then
   some (.inr false)
  else
   ck (inR (i7+1)) <|
   eG l_0 m (i7+1)
 else
  some (.inl ())
def il (n:Nat)(l_0:List Bytes)(most_1:Int):Option Bool :=
 if most_1 < (l_0.length:Int) then
  some false
 else
  jn (eG l_0 n 0) λ q13 =>
  some true
theorem lR (n:Nat)(l_0:List Bytes)(most_1:Int)(r:Bool)(h0:il n l_0 most_1=some r):aC Tryz.prog 10 [eL eS l_0,eI most_1] (·=.p (eB r)):=by
 unfold il at h0
 refine bc good Tryz.func10 Z Z Z λ w0=>mP (λ v:Bool=>.p (eB v)) ?_
 refine nx 8 Z (oLl (f:=eS) Z Z (nx 3 Z (fD [9] h0 Z (λ c1 h0=>?_) λ c1 h0=>?_)))
 ·exact nx 6 Z (mQ (oi h0) Z (sr))
 refine nx 8 Z ?_
 obtain ⟨o14,h1,hL0,hR0⟩:=fc h0
 refine kEx 0 (λ v15:Unit=>o14=.inl v15) (λ v15=>⟨[],[]⟩) (λ v15 hv=>?_) ?_
 ·have h0:=hL0 _ hv
  exact nx 6 Z (mQ (oi h0) Z (sr))
 refine lG (λ (q16:Int)=>⟨[(0,.p (eL eS l_0)),(5,.p (eI q16))],[]⟩) (λ m (q16:Int)=>eG l_0 m q16) Y 0 h1 (gE Z Z) ?_
 rintro m i7 h1
 replace h1:eG l_0 (m+1) i7=some o14:=h1
 rw [eG] at h1
 refine nx 5 Z (oLl (f:=eS) Z Z (nx 2 Z (fD [13] h1 Z (λ c8 h1=>?_) λ c8 h1=>?_)))
 ·refine nx 8 Z (oE h1 Y Z Z Y λ hk9 h1=>nx 1 Z (oLs Z (nx 2 Z (fD [21] h1 Z (λ c10 h1=>?_) λ c10 h1=>?_))))
  ·exact nx 6 Z (mQ (hR0 _ (oi h1).symm) Z (sr))
  exact nx 4 Z (oA h1 Z Z λ hk11 h1=>nx 2 Z (eX (i7+1) h1 (gE Z Z)))
 exact nx 2 Z (eXi _ (oi h1).symm (gE Z Z))
def eZ (targets_0:List Bytes):Nat→Int→Option (Unit⊕Int)
 | 0,_=>none
 | m+1,i8 =>
 if i8 < (targets_0.length:Int) then
  ck ((0:Int)≤i8∧i8 < (targets_0.length:Int)) <|
  ck ((lat targets_0 i8).length≤65536) <|
  if Glob.rcheck (lat targets_0 i8)=0 then
   ck (inR (i8+1)) <|
   eZ targets_0 m (i8+1)
  else
   some (.inr (Glob.rcheck (lat targets_0 i8)))
 else
  some (.inl ())
def kS (n:Nat)(targets_0:List Bytes):Option Int :=
 if 64 < (targets_0.length:Int) then
  some 14
 else
  jn (eZ targets_0 n 0) λ q15 =>
  some 0
theorem uC (n:Nat)(targets_0:List Bytes)(r:Int)(h0:kS n targets_0=some r):aC Tryz.prog 12 [eL eS targets_0] (·=.p (eI r)):=by
 unfold kS at h0
 refine bc good Tryz.func12 Z Z Z λ w0=>mP (λ v:Int=>.p (eI v)) ?_
 refine nx 8 Z (oLl (f:=eS) Z Z (nx 2 Z (fD [7] h0 Z (λ c1 h0=>?_) λ c1 h0=>?_)))
 ·exact nx 6 Z (mQ (oi h0) Z (sr))
 refine nx 8 Z ?_
 obtain ⟨o16,h1,hL0,hR0⟩:=fc h0
 refine kEx 0 (λ v17:Unit=>o16=.inl v17) (λ v17=>⟨[],[]⟩) (λ v17 hv=>?_) ?_
 ·have h0:=hL0 _ hv
  exact nx 6 Z (mQ (oi h0) Z (sr))
 refine lG (λ (q18:Int)=>⟨[(0,.p (eL eS targets_0)),(3,.p (eI q18))],[]⟩) (λ m (q18:Int)=>eZ targets_0 m q18) Y 0 h1 (gE Z Z) ?_
 rintro m i8 h1
 replace h1:eZ targets_0 (m+1) i8=some o16:=h1
 rw [eZ] at h1
 refine nx 5 Z (oLl (f:=eS) Z Z (nx 2 Z (fD [11] h1 Z (λ c9 h1=>?_) λ c9 h1=>?_)))
 ·refine nx 8 Z (oE h1 Y Z Z Y λ hk10 h1=>nx 1 Z (cc' h1 λ hk11 h1=>oK (Glob.rcheck_ok (lat targets_0 i8) hk11) Z ⟨sr,trivial⟩ Tryz.call29 Z (nx 7 Z ?_)))
  refine fN [20] h1 Z (λ c12 h1=>?_) λ c12 h1=>?_
  ·exact nx 4 Z (oA h1 Z Z λ hk13 h1=>nx 2 Z (eX (i8+1) h1 (gE Z Z)))
  exact nx 7 Z (mQ (hR0 _ (oi h1).symm) Z (sr))
 exact nx 2 Z (eXi _ (oi h1).symm (gE Z Z))
def gh (n:Nat)(l_1:List ab):Nat→Int→Option (Unit⊕Bool)
 | 0,_=>none
 | m+1,i23 =>
 if i23 < (l_1.length:Int) then
  (
    ck ((0:Int)≤i23∧i23 < (l_1.length:Int)) <|
    if 300 < (((lat l_1 i23).fAddr).length:Int) then
     some true
    else
     ck ((0:Int)≤i23∧i23 < (l_1.length:Int)) <|
     (il n ((lat l_1 i23).fDeps) 10).bind λ r28 =>
     if (!r28)=true then
      some true
     else
      ck ((0:Int)≤i23∧i23 < (l_1.length:Int)) <|
      (il n ((lat l_1 i23).fOldDeps) 10).bind λ r32 =>
      some (!r32)
   : Option Bool).bind λ t34 =>
  if t34=true then
   some (.inr false)
  else
   ck (inR (i23+1)) <|
   gh n l_1 m (i23+1)
 else
  some (.inl ())
def mK (n:Nat)(targets_0:List Bytes)(l_1:List ab):Option Bool :=
 (
   (il n targets_0 16).bind λ r1 =>
   if (!r1)=true then
    some true
   else
    (kS n targets_0).bind λ r4 =>
    if r4=0 then
     some (decide (20 < (l_1.length:Int)))
    else
     some true
  : Option Bool).bind λ t7 =>
 if t7=true then
  some false
 else
  jn (gh n l_1 n 0) λ q39 =>
  some true
theorem wg (n:Nat)(targets_0:List Bytes)(l_1:List ab)(r:Bool)(h0:mK n targets_0 l_1=some r):aC Tryz.prog 14 [eL eS targets_0,eL ae l_1] (·=.p (eB r)):=by
 unfold mK at h0
 refine bc good Tryz.func14 Z Z Z λ w0=>mP (λ v:Bool=>.p (eB v)) ?_
 refine nx 6 Z (bd h0 λ o41 h1 h0=>?_)
 refine kN o41 (λ v42=>⟨[(1,.p (eL ae l_1)),(18,.p (eB v42))],[]⟩) ?_ ?_
 ·refine nx 1 Z (fB [18] h0 Z (λ c8 h0=>?_) λ c8 h0=>?_)
  ·exact nx 6 Z (mQ (oi h0) Z (sr))
  refine nx 8 Z ?_
  obtain ⟨o43,h1,hL0,hR0⟩:=fc h0
  refine kEx 0 (λ v44:Unit=>o43=.inl v44) (λ v44=>⟨[],[]⟩) (λ v44 hv=>?_) ?_
  ·have h0:=hL0 _ hv
   exact nx 6 Z (mQ (oi h0) Z (sr))
  refine lG (λ (q45:Int)=>⟨[(1,.p (eL ae l_1)),(5,.p (eI q45))],[]⟩) (λ m (q45:Int)=>gh n l_1 m q45) Y 0 h1 (gE Z Z) ?_
  rintro m i23 h1
  replace h1:gh n l_1 (m+1) i23=some o43:=h1
  rw [gh] at h1
  refine nx 5 Z (oLl (f:=ae) Z Z (nx 2 Z (fD [22] h1 Z (λ c24 h1=>?_) λ c24 h1=>?_)))
  ·refine nx 5 Z (bd h1 λ o46 h2 h1=>?_)
   refine kN o46 (λ v47=>⟨[(1,.p (eL ae l_1)),(5,.p (eI i23)),(49,.p (eB v47))],[]⟩) ?_ ?_
   ·refine nx 1 Z (fB [49] h1 Z (λ c35 h1=>?_) λ c35 h1=>?_)
    ·exact nx 6 Z (mQ (hR0 _ (oi h1).symm) Z (sr))
    exact nx 4 Z (oA h1 Z Z λ hk36 h1=>nx 2 Z (eX (i23+1) h1 (gE Z Z)))
   refine nx 3 Z (oE h2 ab.cells_eq Z Z Y λ hk25 h2=>nx 2 Z (oLs Z (nx 2 Z (fD [31,32] h2 Z (λ c26 h2=>?_) λ c26 h2=>?_))))
   ·exact nx 18 Z (eX _ (oi h2).symm (gE Z Z))
   refine nx 2 Z (oE h2 ab.cells_eq Z Z Y λ hk27 h2=>nx 2 Z (bd h2 λ r28 e29 h2=>oK (lR _ ((lat l_1 i23).fDeps) 10 _ e29) Z ⟨sr,sr,trivial⟩ Tryz.call10 Z (nx 3 Z ?_)))
   refine fB [39,40,41] h2 Z (λ c30 h2=>?_) λ c30 h2=>?_
   ·exact nx 9 Z (eX _ (oi h2).symm (gE Z Z))
   exact nx 2 Z (oE h2 ab.cells_eq Z Z Y λ hk31 h2=>nx 2 Z (bd h2 λ r32 e33 h2=>oK (lR _ ((lat l_1 i23).fOldDeps) 10 _ e33) Z ⟨sr,sr,trivial⟩ Tryz.call10 Z (nx 3 Z (eX _ (oi h2).symm (gE Z Z)))))
  exact nx 2 Z (eXi _ (oi h1).symm (gE Z Z))
 refine nx 2 Z (bd h1 λ r1 e2 h1=>oK (lR _ targets_0 16 _ e2) Z ⟨sr,sr,trivial⟩ Tryz.call10 Z (nx 2 Z ?_))
 refine fB [8,9] h1 Z (λ c3 h1=>?_) λ c3 h1=>?_
 ·exact nx 10 Z (eX _ (oi h1).symm (gE Z Z))
 refine nx 1 Z (bd h1 λ r4 e5 h1=>oK (uC _ targets_0 _ e5) Z ⟨sr,trivial⟩ Tryz.call12 Z (nx 3 Z ?_))
 refine fN [12,13,14] h1 Z (λ c6 h1=>?_) λ c6 h1=>?_
 ·exact nx 1 Z (oLl (f:=ae) Z Z (nx 3 Z (eX _ (oi h1).symm (gE Z Z))))
 exact nx 5 Z (eX _ (oi h1).symm (gE Z Z))
def gi (l_0:List Bytes)(s_1:Bytes):Nat→Int→Option (Unit⊕Bool)
 | 0,_=>none
 | m+1,i6 =>
 if i6 < (l_0.length:Int) then
  ck ((0:Int)≤i6∧i6 < (l_0.length:Int)) <|
  if lat l_0 i6=s_1 then
   some (.inr true)
  else
   ck (inR (i6+1)) <|
   gi l_0 s_1 m (i6+1)
 else
  some (.inl ())
def lx (n:Nat)(l_0:List Bytes)(s_1:Bytes):Option Bool :=
 jn (gi l_0 s_1 n 0) λ q12 =>
 some false
theorem jQ (n:Nat)(l_0:List Bytes)(s_1:Bytes)(r:Bool)(h0:lx n l_0 s_1=some r):aC Tryz.prog 19 [eL eS l_0,eS s_1] (·=.p (eB r)):=by
 unfold lx at h0
 refine bc good Tryz.func19 Z Z Z λ w0=>mP (λ v:Bool=>.p (eB v)) ?_
 refine nx 10 Z ?_
 obtain ⟨o13,h1,hL0,hR0⟩:=fc h0
 refine kEx 0 (λ v14:Unit=>o13=.inl v14) (λ v14=>⟨[],[]⟩) (λ v14 hv=>?_) ?_
 ·have h0:=hL0 _ hv
  exact nx 6 Z (mQ (oi h0) Z (sr))
 refine lG (λ (q15:Int)=>⟨[(0,.p (eL eS l_0)),(1,.p (eS s_1)),(5,.p (eI q15))],[]⟩) (λ m (q15:Int)=>gi l_0 s_1 m q15) Y 0 h1 (gE Z Z) ?_
 rintro m i6 h1
 replace h1:gi l_0 s_1 (m+1) i6=some o13:=h1
 rw [gi] at h1
 refine nx 5 Z (oLl (f:=eS) Z Z (nx 2 Z (fD [9] h1 Z (λ c7 h1=>?_) λ c7 h1=>?_)))
 ·refine nx 8 Z (oE h1 Y Z Z Y λ hk8 h1=>nx 2 Z (oS Z Z (nx 1 Z (fD [17] h1 Z (λ c9 h1=>?_) λ c9 h1=>?_))))
  ·exact nx 6 Z (mQ (hR0 _ (oi h1).symm) Z (sr))
  exact nx 4 Z (oA h1 Z Z λ hk10 h1=>nx 2 Z (eX (i6+1) h1 (gE Z Z)))
 exact nx 2 Z (eXi _ (oi h1).symm (gE Z Z))
def ea (a_0:List Bytes)(b_1:List Bytes):Nat→Int→Option (Unit⊕Bool)
 | 0,_=>none
 | m+1,i8 =>
 if i8 < (a_0.length:Int) then
  ck ((0:Int)≤i8∧i8 < (a_0.length:Int)) <|
  ck ((0:Int)≤i8∧i8 < (b_1.length:Int)) <|
  if lat a_0 i8=lat b_1 i8 then
   ck (inR (i8+1)) <|
   ea a_0 b_1 m (i8+1)
  else
   some (.inr false)
 else
  some (.inl ())
def g5 (n:Nat)(a_0:List Bytes)(b_1:List Bytes):Option Bool :=
 if (a_0.length:Int)=(b_1.length:Int) then
  jn (ea a_0 b_1 n 0) λ q15 =>
  some true
 else
  some false
theorem ke (n:Nat)(a_0:List Bytes)(b_1:List Bytes)(r:Bool)(h0:g5 n a_0 b_1=some r):aC Tryz.prog 20 [eL eS a_0,eL eS b_1] (·=.p (eB r)):=by
 unfold g5 at h0
 refine bc good Tryz.func20 Z Z Z λ w0=>mP (λ v:Bool=>.p (eB v)) ?_
 refine nx 8 Z (oLl (f:=eS) Z Z (nx 1 Z (oLl (f:=eS) Z Z (nx 2 Z (fN [10] h0 Z (λ c1 h0=>?_) λ c1 h0=>?_)))))
 ·refine nx 8 Z ?_
  obtain ⟨o16,h1,hL0,hR0⟩:=fc h0
  refine kEx 0 (λ v17:Unit=>o16=.inl v17) (λ v17=>⟨[],[]⟩) (λ v17 hv=>?_) ?_
  ·have h0:=hL0 _ hv
   exact nx 6 Z (mQ (oi h0) Z (sr))
  refine lG (λ (q18:Int)=>⟨[(0,.p (eL eS a_0)),(1,.p (eL eS b_1)),(5,.p (eI q18))],[]⟩) (λ m (q18:Int)=>ea a_0 b_1 m q18) Y 0 h1 (gE Z Z) ?_
  rintro m i8 h1
  replace h1:ea a_0 b_1 (m+1) i8=some o16:=h1
  rw [ea] at h1
  refine nx 5 Z (oLl (f:=eS) Z Z (nx 2 Z (fD [14] h1 Z (λ c9 h1=>?_) λ c9 h1=>?_)))
  ·refine nx 5 Z (cc' h1 λ hk10 h1=>cc' h1 λ hk11 h1=>mD [(0,.p (eL eS a_0)),(1,.p (eL eS b_1)),(5,.p (eI i8))] Z ⟨Z,Z,Z,trivial⟩ Z (dR 2 Z (dq (.rptr [eS (lat a_0 i8)]) [17,18] Z (λ _ e _ q=>aj Z (dl (f:=eS) (l:=a_0) (λ x=>[eS x]) Z Z Z Z Z Z (e _ _ Z) Z (e _ _ Z) hk10 Y Y q)) Z (dR 3 Z (dq (.rptr [eS (lat b_1 i8)]) [21,22] Z (λ _ e _ q=>aj Z (dl (f:=eS) (l:=b_1) (λ x=>[eS x]) Z Z Z Z Z Z (e _ _ Z) Z (e _ _ Z) hk11 Y Y q)) Z (dR 1 Z (dq (.p (eB (!decide (lat a_0 i8=lat b_1 i8)))) [20,24] Z (λ _ e _ q=>aj Z (cQ Z Z Z (e _ _ Z) (e _ _ Z) Z q)) Z (dE Z (nx 1 Z (fN [25] h1 Z (λ c12 h1=>?_) λ c12 h1=>?_))))))))))
   ·exact nx 4 Z (oA h1 Z Z λ hk13 h1=>nx 2 Z (eX (i8+1) h1 (gE Z Z)))
   exact nx 6 Z (mQ (hR0 _ (oi h1).symm) Z (sr))
  exact nx 2 Z (eXi _ (oi h1).symm (gE Z Z))
 exact nx 6 Z (mQ (oi h0) Z (sr))
def eW (n:Nat)(a_0:List ab)(b_1:List ab):Nat→Int→Option (Unit⊕Bool)
 | 0,_=>none
 | m+1,i25 =>
 if i25 < (a_0.length:Int) then
  (
    ck ((0:Int)≤i25∧i25 < (a_0.length:Int)) <|
    ck ((0:Int)≤i25∧i25 < (b_1.length:Int)) <|
    if (lat a_0 i25).fAddr=(lat b_1 i25).fAddr then
     ck ((0:Int)≤i25∧i25 < (a_0.length:Int)) <|
     ck ((0:Int)≤i25∧i25 < (b_1.length:Int)) <|
     if (lat a_0 i25).fDeposed=(lat b_1 i25).fDeposed then
      ck ((0:Int)≤i25∧i25 < (a_0.length:Int)) <|
      ck ((0:Int)≤i25∧i25 < (b_1.length:Int)) <|
      if (lat a_0 i25).fAction=(lat b_1 i25).fAction then
       ck ((0:Int)≤i25∧i25 < (a_0.length:Int)) <|
       ck ((0:Int)≤i25∧i25 < (b_1.length:Int)) <|
       (g5 n ((lat a_0 i25).fDeps) ((lat b_1 i25).fDeps)).bind λ r38 =>
       if (!r38)=true then
        some true
       else
        ck ((0:Int)≤i25∧i25 < (a_0.length:Int)) <|
        ck ((0:Int)≤i25∧i25 < (b_1.length:Int)) <|
        (g5 n ((lat a_0 i25).fOldDeps) ((lat b_1 i25).fOldDeps)).bind λ r43 =>
        some (!r43)
      else
       some true
     else
      some true
    else
     some true
   : Option Bool).bind λ t45 =>
  if t45=true then
   some (.inr false)
  else
   ck (inR (i25+1)) <|
   eW n a_0 b_1 m (i25+1)
 else
  some (.inl ())
def jz (n:Nat)(a_0:List ab)(b_1:List ab):Option Bool :=
 if (a_0.length:Int)=(b_1.length:Int) then
  jn (eW n a_0 b_1 n 0) λ q49 =>
  some true
 else
  some false
theorem ol (n:Nat)(a_0:List ab)(b_1:List ab)(r:Bool)(h0:jz n a_0 b_1=some r):aC Tryz.prog 22 [eL ae a_0,eL ae b_1] (·=.p (eB r)):=by
 unfold jz at h0
 refine bc good Tryz.func22 Z Z Z λ w0=>mP (λ v:Bool=>.p (eB v)) ?_
 refine nx 8 Z (oLl (f:=ae) Z Z (nx 1 Z (oLl (f:=ae) Z Z (nx 2 Z (fN [10] h0 Z (λ c1 h0=>?_) λ c1 h0=>?_)))))
 ·refine nx 8 Z ?_
  obtain ⟨o51,h1,hL0,hR0⟩:=fc h0
  refine kEx 0 (λ v52:Unit=>o51=.inl v52) (λ v52=>⟨[],[]⟩) (λ v52 hv=>?_) ?_
  ·have h0:=hL0 _ hv
   exact nx 6 Z (mQ (oi h0) Z (sr))
  refine lG (λ (q53:Int)=>⟨[(0,.p (eL ae a_0)),(1,.p (eL ae b_1)),(5,.p (eI q53))],[]⟩) (λ m (q53:Int)=>eW n a_0 b_1 m q53) Y 0 h1 (gE Z Z) ?_
  rintro m i25 h1
  replace h1:eW n a_0 b_1 (m+1) i25=some o51:=h1
  rw [eW] at h1
  refine nx 5 Z (oLl (f:=ae) Z Z (nx 2 Z (fD [14] h1 Z (λ c26 h1=>?_) λ c26 h1=>?_)))
  ·refine nx 5 Z (bd h1 λ o54 h2 h1=>?_)
   refine kN o54 (λ v55=>⟨[(0,.p (eL ae a_0)),(1,.p (eL ae b_1)),(5,.p (eI i25)),(81,.p (eB v55))],[]⟩) ?_ ?_
   ·refine nx 1 Z (fB [81] h1 Z (λ c46 h1=>?_) λ c46 h1=>?_)
    ·exact nx 6 Z (mQ (hR0 _ (oi h1).symm) Z (sr))
    exact nx 4 Z (oA h1 Z Z λ hk47 h1=>nx 2 Z (eX (i25+1) h1 (gE Z Z)))
   refine cc' h2 λ hk27 h2=>cc' h2 λ hk28 h2=>fN (p:=(lat a_0 i25).fAddr=(lat b_1 i25).fAddr) [] h2 Z (λ c29 h2=>?_) λ c29 h2=>?_
   ·refine cc' h2 λ hk30 h2=>cc' h2 λ hk31 h2=>fN (p:=(lat a_0 i25).fDeposed=(lat b_1 i25).fDeposed) [] h2 Z (λ c32 h2=>?_) λ c32 h2=>?_
    ·refine cc' h2 λ hk33 h2=>cc' h2 λ hk34 h2=>fN (p:=(lat a_0 i25).fAction=(lat b_1 i25).fAction) [] h2 Z (λ c35 h2=>?_) λ c35 h2=>?_
     ·refine cc' h2 λ hk36 h2=>cc' h2 λ hk37 h2=>bd h2 λ r38 e39 h2=>fB (p:=!r38) [] h2 Z (λ c40 h2=>?_) λ c40 h2=>?_
      ·refine mD [(0,.p (eL ae a_0)),(1,.p (eL ae b_1)),(5,.p (eI i25))] Z ⟨Z,Z,Z,trivial⟩ Z (dR 2 Z (dq (.rptr (ab.cs (lat a_0 i25))) [17,18] Z (λ _ e _ q=>aj Z (dl (f:=ae) (l:=a_0) ab.cs Z Z Z Z Z Z (e _ _ Z) Z (e _ _ Z) hk27 ab.cells_eq Y q)) Z (dR 4 Z (dq (.rptr (ab.cs (lat b_1 i25))) [22,23] Z (λ _ e _ q=>aj Z (dl (f:=ae) (l:=b_1) ab.cs Z Z Z Z Z Z (e _ _ Z) Z (e _ _ Z) hk28 ab.cells_eq Y q)) Z (dR 2 Z (dq (.p (eB (!decide ((lat a_0 i25).fAddr=(lat b_1 i25).fAddr)))) [21,26] Z (λ _ e _ q=>aj Z (cQ Z Z Z (e _ _ Z) (e _ _ Z) Z q)) Z (dL (aE c29) Z (dR 2 Z (dq (.rptr (ab.cs (lat a_0 i25))) [28,29,30] Z (λ _ e _ q=>aQ (dl (f:=ae) (l:=a_0) ab.cs Z Z Z Z Z Z (e _ _ Z) Z (e _ _ Z) hk30 ab.cells_eq Y q) Z Z (e _ _ Z) (rfl)) Z (dR 4 Z (dq (.rptr (ab.cs (lat b_1 i25))) [28,34,35] Z (λ _ e _ q=>aQ (dl (f:=ae) (l:=b_1) ab.cs Z Z Z Z Z Z (e _ _ Z) Z (e _ _ Z) hk31 ab.cells_eq Y q) Z Z (e _ _ Z) (rfl)) Z (dR 2 Z (dq (.p (eB (!decide ((lat a_0 i25).fDeposed=(lat b_1 i25).fDeposed)))) [28,33,38] Z (λ _ e _ q=>aQ (cQ Z Z Z (e _ _ Z) (e _ _ Z) Z q) Z Z (e _ _ Z) (rfl)) Z ?_)))))))))))))
       refine dL (aE c32) Z (dR 3 Z (dq (.rptr (ab.cs (lat a_0 i25))) [41,42,43] Z (λ _ e _ q=>aQ (dl (f:=ae) (l:=a_0) ab.cs Z Z Z Z Z Z (e _ _ Z) Z (e _ _ Z) hk33 ab.cells_eq Y q) Z Z (e _ _ Z) (rfl)) Z (dR 4 Z (dq (.rptr (ab.cs (lat b_1 i25))) [41,47,48] Z (λ _ e _ q=>aQ (dl (f:=ae) (l:=b_1) ab.cs Z Z Z Z Z Z (e _ _ Z) Z (e _ _ Z) hk34 ab.cells_eq Y q) Z Z (e _ _ Z) (rfl)) Z (dR 2 Z (dL (aE c35) Z (dR 4 Z (dq (.rptr (ab.cs (lat a_0 i25))) [54,55,56] Z (λ _ e _ q=>aQ (dl (f:=ae) (l:=a_0) ab.cs Z Z Z Z Z Z (e _ _ Z) Z (e _ _ Z) hk36 ab.cells_eq Y q) Z Z (e _ _ Z) (rfl)) Z (dR 4 Z (dq (.rptr (ab.cs (lat b_1 i25))) [54,60,61] Z (λ _ e _ q=>aQ (dl (f:=ae) (l:=b_1) ab.cs Z Z Z Z Z Z (e _ _ Z) Z (e _ _ Z) hk37 ab.cells_eq Y q) Z Z (e _ _ Z) (rfl)) Z (dR 2 Z (dq (.p (eB r38)) [54,59,64] Z (λ _ e _ q=>aQ (bj (ke _ ((lat a_0 i25).fDeps) ((lat b_1 i25).fDeps) _ e39) Z Z Z (aI (e _ _ Z) (aI (e _ _ Z) bh)) ⟨sr,sr,trivial⟩ Tryz.call20 Z q) Z Z (e _ _ Z) (rfl)) Z (dL (c40) Z ?_)))))))))))))
       exact dR 15 Z (dE Z (nx 1 Z (eX _ (oi h2).symm (gE Z Z))))
      refine cc' h2 λ hk41 h2=>cc' h2 λ hk42 h2=>bd h2 λ r43 e44 h2=>mD [(0,.p (eL ae a_0)),(1,.p (eL ae b_1)),(5,.p (eI i25))] Z ⟨Z,Z,Z,trivial⟩ Z (dR 2 Z (dq (.rptr (ab.cs (lat a_0 i25))) [17,18] Z (λ _ e _ q=>aj Z (dl (f:=ae) (l:=a_0) ab.cs Z Z Z Z Z Z (e _ _ Z) Z (e _ _ Z) hk27 ab.cells_eq Y q)) Z (dR 4 Z (dq (.rptr (ab.cs (lat b_1 i25))) [22,23] Z (λ _ e _ q=>aj Z (dl (f:=ae) (l:=b_1) ab.cs Z Z Z Z Z Z (e _ _ Z) Z (e _ _ Z) hk28 ab.cells_eq Y q)) Z (dR 2 Z (dq (.p (eB (!decide ((lat a_0 i25).fAddr=(lat b_1 i25).fAddr)))) [21,26] Z (λ _ e _ q=>aj Z (cQ Z Z Z (e _ _ Z) (e _ _ Z) Z q)) Z (dL (aE c29) Z (dR 2 Z (dq (.rptr (ab.cs (lat a_0 i25))) [28,29,30] Z (λ _ e _ q=>aQ (dl (f:=ae) (l:=a_0) ab.cs Z Z Z Z Z Z (e _ _ Z) Z (e _ _ Z) hk30 ab.cells_eq Y q) Z Z (e _ _ Z) (rfl)) Z (dR 4 Z (dq (.rptr (ab.cs (lat b_1 i25))) [28,34,35] Z (λ _ e _ q=>aQ (dl (f:=ae) (l:=b_1) ab.cs Z Z Z Z Z Z (e _ _ Z) Z (e _ _ Z) hk31 ab.cells_eq Y q) Z Z (e _ _ Z) (rfl)) Z (dR 2 Z (dq (.p (eB (!decide ((lat a_0 i25).fDeposed=(lat b_1 i25).fDeposed)))) [28,33,38] Z (λ _ e _ q=>aQ (cQ Z Z Z (e _ _ Z) (e _ _ Z) Z q) Z Z (e _ _ Z) (rfl)) Z ?_)))))))))))))
      refine dL (aE c32) Z (dR 3 Z (dq (.rptr (ab.cs (lat a_0 i25))) [41,42,43] Z (λ _ e _ q=>aQ (dl (f:=ae) (l:=a_0) ab.cs Z Z Z Z Z Z (e _ _ Z) Z (e _ _ Z) hk33 ab.cells_eq Y q) Z Z (e _ _ Z) (rfl)) Z (dR 4 Z (dq (.rptr (ab.cs (lat b_1 i25))) [41,47,48] Z (λ _ e _ q=>aQ (dl (f:=ae) (l:=b_1) ab.cs Z Z Z Z Z Z (e _ _ Z) Z (e _ _ Z) hk34 ab.cells_eq Y q) Z Z (e _ _ Z) (rfl)) Z (dR 2 Z (dL (aE c35) Z (dR 4 Z (dq (.rptr (ab.cs (lat a_0 i25))) [54,55,56] Z (λ _ e _ q=>aQ (dl (f:=ae) (l:=a_0) ab.cs Z Z Z Z Z Z (e _ _ Z) Z (e _ _ Z) hk36 ab.cells_eq Y q) Z Z (e _ _ Z) (rfl)) Z (dR 4 Z (dq (.rptr (ab.cs (lat b_1 i25))) [54,60,61] Z (λ _ e _ q=>aQ (dl (f:=ae) (l:=b_1) ab.cs Z Z Z Z Z Z (e _ _ Z) Z (e _ _ Z) hk37 ab.cells_eq Y q) Z Z (e _ _ Z) (rfl)) Z (dR 2 Z (dq (.p (eB r38)) [54,59,64] Z (λ _ e _ q=>aQ (bj (ke _ ((lat a_0 i25).fDeps) ((lat b_1 i25).fDeps) _ e39) Z Z Z (aI (e _ _ Z) (aI (e _ _ Z) bh)) ⟨sr,sr,trivial⟩ Tryz.call20 Z q) Z Z (e _ _ Z) (rfl)) Z (dL (c40) Z ?_)))))))))))))
      exact dR 4 Z (dq (.rptr (ab.cs (lat a_0 i25))) [68,69,70] Z (λ _ e _ q=>aQ (dl (f:=ae) (l:=a_0) ab.cs Z Z Z Z Z Z (e _ _ Z) Z (e _ _ Z) hk41 ab.cells_eq Y q) Z Z (e _ _ Z) (rfl)) Z (dR 4 Z (dq (.rptr (ab.cs (lat b_1 i25))) [68,74,75] Z (λ _ e _ q=>aQ (dl (f:=ae) (l:=b_1) ab.cs Z Z Z Z Z Z (e _ _ Z) Z (e _ _ Z) hk42 ab.cells_eq Y q) Z Z (e _ _ Z) (rfl)) Z (dR 2 Z (dq (.p (eB r43)) [68,73,78] Z (λ _ e _ q=>aQ (bj (ke _ ((lat a_0 i25).fOldDeps) ((lat b_1 i25).fOldDeps) _ e44) Z Z Z (aI (e _ _ Z) (aI (e _ _ Z) bh)) ⟨sr,sr,trivial⟩ Tryz.call20 Z q) Z Z (e _ _ Z) (rfl)) Z (dR 2 Z (dE Z (nx 1 Z (eX _ (oi h2).symm (gE Z Z))))))))))
     refine mD [(0,.p (eL ae a_0)),(1,.p (eL ae b_1)),(5,.p (eI i25))] Z ⟨Z,Z,Z,trivial⟩ Z (dR 2 Z (dq (.rptr (ab.cs (lat a_0 i25))) [17,18] Z (λ _ e _ q=>aj Z (dl (f:=ae) (l:=a_0) ab.cs Z Z Z Z Z Z (e _ _ Z) Z (e _ _ Z) hk27 ab.cells_eq Y q)) Z (dR 4 Z (dq (.rptr (ab.cs (lat b_1 i25))) [22,23] Z (λ _ e _ q=>aj Z (dl (f:=ae) (l:=b_1) ab.cs Z Z Z Z Z Z (e _ _ Z) Z (e _ _ Z) hk28 ab.cells_eq Y q)) Z (dR 2 Z (dq (.p (eB (!decide ((lat a_0 i25).fAddr=(lat b_1 i25).fAddr)))) [21,26] Z (λ _ e _ q=>aj Z (cQ Z Z Z (e _ _ Z) (e _ _ Z) Z q)) Z (dL (aE c29) Z (dR 2 Z (dq (.rptr (ab.cs (lat a_0 i25))) [28,29,30] Z (λ _ e _ q=>aQ (dl (f:=ae) (l:=a_0) ab.cs Z Z Z Z Z Z (e _ _ Z) Z (e _ _ Z) hk30 ab.cells_eq Y q) Z Z (e _ _ Z) (rfl)) Z (dR 4 Z (dq (.rptr (ab.cs (lat b_1 i25))) [28,34,35] Z (λ _ e _ q=>aQ (dl (f:=ae) (l:=b_1) ab.cs Z Z Z Z Z Z (e _ _ Z) Z (e _ _ Z) hk31 ab.cells_eq Y q) Z Z (e _ _ Z) (rfl)) Z (dR 2 Z (dq (.p (eB (!decide ((lat a_0 i25).fDeposed=(lat b_1 i25).fDeposed)))) [28,33,38] Z (λ _ e _ q=>aQ (cQ Z Z Z (e _ _ Z) (e _ _ Z) Z q) Z Z (e _ _ Z) (rfl)) Z ?_)))))))))))))
     refine dL (aE c32) Z (dR 3 Z (dq (.rptr (ab.cs (lat a_0 i25))) [41,42,43] Z (λ _ e _ q=>aQ (dl (f:=ae) (l:=a_0) ab.cs Z Z Z Z Z Z (e _ _ Z) Z (e _ _ Z) hk33 ab.cells_eq Y q) Z Z (e _ _ Z) (rfl)) Z (dR 4 Z (dq (.rptr (ab.cs (lat b_1 i25))) [41,47,48] Z (λ _ e _ q=>aQ (dl (f:=ae) (l:=b_1) ab.cs Z Z Z Z Z Z (e _ _ Z) Z (e _ _ Z) hk34 ab.cells_eq Y q) Z Z (e _ _ Z) (rfl)) Z (dR 2 Z (dL (aP c35) Z (dR 29 Z ?_)))))))
     refine dE Z (nx 1 Z ?_)
     exact eX _ (oi h2).symm (gE Z Z)
    refine mD [(0,.p (eL ae a_0)),(1,.p (eL ae b_1)),(5,.p (eI i25))] Z ⟨Z,Z,Z,trivial⟩ Z (dR 2 Z (dq (.rptr (ab.cs (lat a_0 i25))) [17,18] Z (λ _ e _ q=>aj Z (dl (f:=ae) (l:=a_0) ab.cs Z Z Z Z Z Z (e _ _ Z) Z (e _ _ Z) hk27 ab.cells_eq Y q)) Z (dR 4 Z (dq (.rptr (ab.cs (lat b_1 i25))) [22,23] Z (λ _ e _ q=>aj Z (dl (f:=ae) (l:=b_1) ab.cs Z Z Z Z Z Z (e _ _ Z) Z (e _ _ Z) hk28 ab.cells_eq Y q)) Z (dR 2 Z (dq (.p (eB (!decide ((lat a_0 i25).fAddr=(lat b_1 i25).fAddr)))) [21,26] Z (λ _ e _ q=>aj Z (cQ Z Z Z (e _ _ Z) (e _ _ Z) Z q)) Z (dL (aE c29) Z (dR 2 Z (dq (.rptr (ab.cs (lat a_0 i25))) [28,29,30] Z (λ _ e _ q=>aQ (dl (f:=ae) (l:=a_0) ab.cs Z Z Z Z Z Z (e _ _ Z) Z (e _ _ Z) hk30 ab.cells_eq Y q) Z Z (e _ _ Z) (rfl)) Z (dR 4 Z (dq (.rptr (ab.cs (lat b_1 i25))) [28,34,35] Z (λ _ e _ q=>aQ (dl (f:=ae) (l:=b_1) ab.cs Z Z Z Z Z Z (e _ _ Z) Z (e _ _ Z) hk31 ab.cells_eq Y q) Z Z (e _ _ Z) (rfl)) Z (dR 2 Z (dq (.p (eB (!decide ((lat a_0 i25).fDeposed=(lat b_1 i25).fDeposed)))) [28,33,38] Z (λ _ e _ q=>aQ (cQ Z Z Z (e _ _ Z) (e _ _ Z) Z q) Z Z (e _ _ Z) (rfl)) Z ?_)))))))))))))
    refine dL (aP c32) Z (dR 41 Z ?_)
    refine dE Z (nx 1 Z ?_)
    exact eX _ (oi h2).symm (gE Z Z)
   exact mD [(0,.p (eL ae a_0)),(1,.p (eL ae b_1)),(5,.p (eI i25))] Z ⟨Z,Z,Z,trivial⟩ Z (dR 2 Z (dq (.rptr (ab.cs (lat a_0 i25))) [17,18] Z (λ _ e _ q=>aj Z (dl (f:=ae) (l:=a_0) ab.cs Z Z Z Z Z Z (e _ _ Z) Z (e _ _ Z) hk27 ab.cells_eq Y q)) Z (dR 4 Z (dq (.rptr (ab.cs (lat b_1 i25))) [22,23] Z (λ _ e _ q=>aj Z (dl (f:=ae) (l:=b_1) ab.cs Z Z Z Z Z Z (e _ _ Z) Z (e _ _ Z) hk28 ab.cells_eq Y q)) Z (dR 2 Z (dq (.p (eB (!decide ((lat a_0 i25).fAddr=(lat b_1 i25).fAddr)))) [21,26] Z (λ _ e _ q=>aj Z (cQ Z Z Z (e _ _ Z) (e _ _ Z) Z q)) Z (dL (aP c29) Z (dR 53 Z (dE Z (nx 1 Z (eX _ (oi h2).symm (gE Z Z))))))))))))
  exact nx 2 Z (eXi _ (oi h1).symm (gE Z Z))
 exact nx 6 Z (mQ (oi h0) Z (sr))
end Go.Ab.R06
end
section
namespace Go.Ab.R06
open Go.Ab
theorem pX {targets_0:List Bytes}:∀ (m m':Nat),m≤m'→∀ (y0:Int),Le (cT targets_0 m y0) (cT targets_0 m' y0):=by
 intro m
 induction m with
 | zero=>intro m' _ y0; exact dJ _
 | succ m ih =>
 intro m' hm y0
 cases m' with
 | zero=>omega
 | succ m' =>
 simp only [cT]
 repeat' (with_reducible (first | exact ak _ | apply ih | refine cw ?_ | refine bF ?_ ?_ | refine bg ?_ (λ _=>?_) | refine cv ?_ (λ _=>?_) | omega | intro _))
theorem sN {n n':Nat}(hn:n≤n'){targets_0:List Bytes}:Le (fk n targets_0) (fk n' targets_0):=by
 simp only [fk]
 repeat' (with_reducible (first | exact ak _ | apply pX | refine cw ?_ | refine bF ?_ ?_ | refine bg ?_ (λ _=>?_) | refine cv ?_ (λ _=>?_) | omega | intro _))
theorem tf {patterns_0:List Bytes}{s_1:Bytes}:∀ (m m':Nat),m≤m'→∀ (y0:Int),Le (eQ patterns_0 s_1 m y0) (eQ patterns_0 s_1 m' y0):=by
 intro m
 induction m with
 | zero=>intro m' _ y0; exact dJ _
 | succ m ih =>
 intro m' hm y0
 cases m' with
 | zero=>omega
 | succ m' =>
 simp only [eQ]
 repeat' (with_reducible (first | exact ak _ | apply ih | refine cw ?_ | refine bF ?_ ?_ | refine bg ?_ (λ _=>?_) | refine cv ?_ (λ _=>?_) | omega | intro _))
theorem wS {n n':Nat}(hn:n≤n'){patterns_0:List Bytes}{s_1:Bytes}:Le (jM n patterns_0 s_1) (jM n' patterns_0 s_1):=by
 simp only [jM]
 repeat' (with_reducible (first | exact ak _ | apply tf | refine cw ?_ | refine bF ?_ ?_ | refine bg ?_ (λ _=>?_) | refine cv ?_ (λ _=>?_) | omega | intro _))
theorem mx {s_0:Bytes}:∀ (m m':Nat),m≤m'→∀ (y0:Int),Le (bP s_0 m y0) (bP s_0 m' y0):=by
 intro m
 induction m with
 | zero=>intro m' _ y0; exact dJ _
 | succ m ih =>
 intro m' hm y0
 cases m' with
 | zero=>omega
 | succ m' =>
 simp only [bP]
 repeat' (with_reducible (first | exact ak _ | apply ih | refine cw ?_ | refine bF ?_ ?_ | refine bg ?_ (λ _=>?_) | refine cv ?_ (λ _=>?_) | omega | intro _))
theorem fR {n n':Nat}(hn:n≤n'){s_0:Bytes}:Le (cj n s_0) (cj n' s_0):=by
 simp only [cj]
 repeat' (with_reducible (first | exact ak _ | apply mx | refine cw ?_ | refine bF ?_ ?_ | refine bg ?_ (λ _=>?_) | refine cv ?_ (λ _=>?_) | omega | intro _))
theorem jT {n n':Nat}(hn:n≤n'){r_0:ai}:Le (co n r_0) (co n' r_0):=by
 simp only [co]
 repeat' (with_reducible (first | exact ak _ | apply fR | refine cw ?_ | refine bF ?_ ?_ | refine bg ?_ (λ _=>?_) | refine cv ?_ (λ _=>?_) | omega | intro _))
theorem mn {s_0:Bytes}:∀ (m m':Nat),m≤m'→∀ (y0:Int) (y1:Int),Le (bQ s_0 m y0 y1) (bQ s_0 m' y0 y1):=by
 intro m
 induction m with
 | zero=>intro m' _ y0 y1; exact dJ _
 | succ m ih =>
 intro m' hm y0 y1
 cases m' with
 | zero=>omega
 | succ m' =>
 simp only [bQ]
 repeat' (with_reducible (first | exact ak _ | apply ih | refine cw ?_ | refine bF ?_ ?_ | refine bg ?_ (λ _=>?_) | refine cv ?_ (λ _=>?_) | omega | intro _))
theorem nW {n n':Nat}(hn:n≤n'){s_0:Bytes}:Le (cN n s_0) (cN n' s_0):=by
 simp only [cN]
 repeat' (with_reducible (first | exact ak _ | apply mn | refine cw ?_ | refine bF ?_ ?_ | refine bg ?_ (λ _=>?_) | refine cv ?_ (λ _=>?_) | omega | intro _))
theorem rb {n n':Nat}(hn:n≤n'){s_0:Bytes}:Le (fw n s_0) (fw n' s_0):=by
 simp only [fw]
 repeat' (with_reducible (first | exact ak _ | apply nW | refine cw ?_ | refine bF ?_ ?_ | refine bg ?_ (λ _=>?_) | refine cv ?_ (λ _=>?_) | omega | intro _))
theorem oD {n n':Nat}(hn:n≤n'){s_0:Bytes}:∀ (m m':Nat),m≤m'→∀ (y0:Int) (y1:List UInt8),Le (cJ n s_0 m y0 y1) (cJ n' s_0 m' y0 y1):=by
 intro m
 induction m with
 | zero=>intro m' _ y0 y1; exact dJ _
 | succ m ih =>
 intro m' hm y0 y1
 cases m' with
 | zero=>omega
 | succ m' =>
 simp only [cJ]
 repeat' (with_reducible (first | exact ak _ | apply ih | apply rb | refine cw ?_ | refine bF ?_ ?_ | refine bg ?_ (λ _=>?_) | refine cv ?_ (λ _=>?_) | omega | intro _))
theorem qO {n n':Nat}(hn:n≤n'){s_0:Bytes}:Le (eJ n s_0) (eJ n' s_0):=by
 simp only [eJ]
 repeat' (with_reducible (first | exact ak _ | apply oD | refine cw ?_ | refine bF ?_ ?_ | refine bg ?_ (λ _=>?_) | refine cv ?_ (λ _=>?_) | omega | intro _))
theorem pS {s_0:Bytes}:∀ (m m':Nat),m≤m'→∀ (y0:Int) (y1:List UInt8),Le (cV s_0 m y0 y1) (cV s_0 m' y0 y1):=by
 intro m
 induction m with
 | zero=>intro m' _ y0 y1; exact dJ _
 | succ m ih =>
 intro m' hm y0 y1
 cases m' with
 | zero=>omega
 | succ m' =>
 simp only [cV]
 repeat' (with_reducible (first | exact ak _ | apply ih | refine cw ?_ | refine bF ?_ ?_ | refine bg ?_ (λ _=>?_) | refine cv ?_ (λ _=>?_) | omega | intro _))
theorem nK {n n':Nat}(hn:n≤n'){s_0:Bytes}:Le (fj n s_0) (fj n' s_0):=by
 simp only [fj]
 repeat' (with_reducible (first | exact ak _ | apply pS | refine cw ?_ | refine bF ?_ ?_ | refine bg ?_ (λ _=>?_) | refine cv ?_ (λ _=>?_) | omega | intro _))
theorem nf {s7:Bytes}:∀ (m m':Nat),m≤m'→∀ (y0:Int),Le (bW s7 m y0) (bW s7 m' y0):=by
 intro m
 induction m with
 | zero=>intro m' _ y0; exact dJ _
 | succ m ih =>
 intro m' hm y0
 cases m' with
 | zero=>omega
 | succ m' =>
 simp only [bW]
 repeat' (with_reducible (first | exact ak _ | apply ih | refine cw ?_ | refine bF ?_ ?_ | refine bg ?_ (λ _=>?_) | refine cv ?_ (λ _=>?_) | omega | intro _))
theorem pC {n n':Nat}(hn:n≤n'){s_0:Bytes}:Le (d8 n s_0) (d8 n' s_0):=by
 simp only [d8]
 repeat' (with_reducible (first | exact ak _ | apply nf | refine cw ?_ | refine bF ?_ ?_ | refine bg ?_ (λ _=>?_) | refine cv ?_ (λ _=>?_) | omega | intro _))
theorem sH {n n':Nat}(hn:n≤n'){s_0:Bytes}:Le (ga n s_0) (ga n' s_0):=by
 simp only [ga]
 repeat' (with_reducible (first | exact ak _ | apply pC | refine cw ?_ | refine bF ?_ ?_ | refine bg ?_ (λ _=>?_) | refine cv ?_ (λ _=>?_) | omega | intro _))
theorem j2 {n n':Nat}(hn:n≤n'){r_0:ai}:Le (cO n r_0) (cO n' r_0):=by
 simp only [cO]
 repeat' (with_reducible (first | exact ak _ | apply qO | apply nK | apply sH | refine cw ?_ | refine bF ?_ ?_ | refine bg ?_ (λ _=>?_) | refine cv ?_ (λ _=>?_) | omega | intro _))
theorem nt {n n':Nat}(hn:n≤n'){r_0:ai}:Le (db n r_0) (db n' r_0):=by
 simp only [db]
 repeat' (with_reducible (first | exact ak _ | apply jT | apply j2 | refine cw ?_ | refine bF ?_ ?_ | refine bg ?_ (λ _=>?_) | refine cv ?_ (λ _=>?_) | omega | intro _))
theorem nT {n n':Nat}(hn:n≤n'){s_0:Bytes}:Le (eh n s_0) (eh n' s_0):=by
 simp only [eh]
 repeat' (with_reducible (first | exact ak _ | apply fR | refine cw ?_ | refine bF ?_ ?_ | refine bg ?_ (λ _=>?_) | refine cv ?_ (λ _=>?_) | omega | intro _))
theorem pA {n n':Nat}(hn:n≤n'):∀ (m m':Nat),m≤m'→∀ (y0:List ac) (y1:Bytes) (y2:Bool),Le (cZ n m y0 y1 y2) (cZ n' m' y0 y1 y2):=by
 intro m
 induction m with
 | zero=>intro m' _ y0 y1 y2; exact dJ _
 | succ m ih =>
 intro m' hm y0 y1 y2
 cases m' with
 | zero=>omega
 | succ m' =>
 simp only [cZ]
 repeat' (with_reducible (first | exact ak _ | apply ih | apply nt | refine cw ?_ | refine bF ?_ ?_ | refine bg ?_ (λ _=>?_) | refine cv ?_ (λ _=>?_) | omega | intro _))
theorem rI {n n':Nat}(hn:n≤n'){s_0:Bytes}:Le (fp n s_0) (fp n' s_0):=by
 simp only [fp]
 repeat' (with_reducible (first | exact ak _ | apply pA | apply jT | apply j2 | apply nT | refine cw ?_ | refine bF ?_ ?_ | refine bg ?_ (λ _=>?_) | refine cv ?_ (λ _=>?_) | omega | intro _))
theorem pF {n n':Nat}(hn:n≤n'){a_0:ah}:∀ (m m':Nat),m≤m'→∀ (y0:Int),Le (cG n a_0 m y0) (cG n' a_0 m' y0):=by
 intro m
 induction m with
 | zero=>intro m' _ y0; exact dJ _
 | succ m ih =>
 intro m' hm y0
 cases m' with
 | zero=>omega
 | succ m' =>
 simp only [cG]
 repeat' (with_reducible (first | exact ak _ | apply ih | apply fR | refine cw ?_ | refine bF ?_ ?_ | refine bg ?_ (λ _=>?_) | refine cv ?_ (λ _=>?_) | omega | intro _))
theorem rz {n n':Nat}(hn:n≤n'){a_0:ah}:Le (fv n a_0) (fv n' a_0):=by
 simp only [fv]
 repeat' (with_reducible (first | exact ak _ | apply pF | apply nT | apply fR | refine cw ?_ | refine bF ?_ ?_ | refine bg ?_ (λ _=>?_) | refine cv ?_ (λ _=>?_) | omega | intro _))
theorem kC {n n':Nat}(hn:n≤n'){k_0:bS}:Le (dk n k_0) (dk n' k_0):=by
 simp only [dk]
 repeat' (with_reducible (first | exact ak _ | apply nK | refine cw ?_ | refine bF ?_ ?_ | refine bg ?_ (λ _=>?_) | refine cv ?_ (λ _=>?_) | omega | intro _))
theorem oU {n n':Nat}(hn:n≤n'){a_0:ah}:∀ (m m':Nat),m≤m'→∀ (y0:Int) (y1:List UInt8),Le (cu n a_0 m y0 y1) (cu n' a_0 m' y0 y1):=by
 intro m
 induction m with
 | zero=>intro m' _ y0 y1; exact dJ _
 | succ m ih =>
 intro m' hm y0 y1
 cases m' with
 | zero=>omega
 | succ m' =>
 simp only [cu]
 repeat' (with_reducible (first | exact ak _ | apply ih | apply kC | refine cw ?_ | refine bF ?_ ?_ | refine bg ?_ (λ _=>?_) | refine cv ?_ (λ _=>?_) | omega | intro _))
theorem qB {n n':Nat}(hn:n≤n'){a_0:ah}:Le (eH n a_0) (eH n' a_0):=by
 simp only [eH]
 repeat' (with_reducible (first | exact ak _ | apply rz | apply oU | apply kC | refine cw ?_ | refine bF ?_ ?_ | refine bg ?_ (λ _=>?_) | refine cv ?_ (λ _=>?_) | omega | intro _))
theorem oa:∀ (m m':Nat),m≤m'→Le (dO m ) (dO m' ):=by
 intro m
 induction m with
 | zero=>intro m' _ ; exact dJ _
 | succ m ih =>
 intro m' hm
 cases m' with
 | zero=>omega
 | succ m' =>
 simp only [dO]
 repeat' (with_reducible (first | exact ak _ | apply ih | refine cw ?_ | refine bF ?_ ?_ | refine bg ?_ (λ _=>?_) | refine cv ?_ (λ _=>?_) | omega | intro _))
theorem oj {a_0:ah}:∀ (m m':Nat),m≤m'→∀ (y0:Int) (y1:List ac),Le (cr a_0 m y0 y1) (cr a_0 m' y0 y1):=by
 intro m
 induction m with
 | zero=>intro m' _ y0 y1; exact dJ _
 | succ m ih =>
 intro m' hm y0 y1
 cases m' with
 | zero=>omega
 | succ m' =>
 simp only [cr]
 repeat' (with_reducible (first | exact ak _ | apply ih | refine cw ?_ | refine bF ?_ ?_ | refine bg ?_ (λ _=>?_) | refine cv ?_ (λ _=>?_) | omega | intro _))
theorem qz {n n':Nat}(hn:n≤n'){a_0:ah}:Le (eN n a_0) (eN n' a_0):=by
 simp only [eN]
 repeat' (with_reducible (first | exact ak _ | apply oa | apply oj | refine cw ?_ | refine bF ?_ ?_ | refine bg ?_ (λ _=>?_) | refine cv ?_ (λ _=>?_) | omega | intro _))
theorem l5 {n n':Nat}(hn:n≤n'){s_0:Bytes}:Le (ef n s_0) (ef n' s_0):=by
 simp only [ef]
 repeat' (with_reducible (first | exact ak _ | apply rI | apply qz | apply qB | refine cw ?_ | refine bF ?_ ?_ | refine bg ?_ (λ _=>?_) | refine cv ?_ (λ _=>?_) | omega | intro _))
theorem lF {n n':Nat}(hn:n≤n'){targets_0:List Bytes}{addr_1:Bytes}:Le (cS n targets_0 addr_1) (cS n' targets_0 addr_1):=by
 simp only [cS]
 repeat' (with_reducible (first | exact ak _ | apply wS | apply l5 | refine cw ?_ | refine bF ?_ ?_ | refine bg ?_ (λ _=>?_) | refine cv ?_ (λ _=>?_) | omega | intro _))
theorem qW {l_0:List Bytes}{in_1:List (Bytes×Bool)}:∀ (m m':Nat),m≤m'→∀ (y0:List Bytes) (y1:Int),Le (fu l_0 in_1 m y0 y1) (fu l_0 in_1 m' y0 y1):=by
 intro m
 induction m with
 | zero=>intro m' _ y0 y1; exact dJ _
 | succ m ih =>
 intro m' hm y0 y1
 cases m' with
 | zero=>omega
 | succ m' =>
 simp only [fu]
 repeat' (with_reducible (first | exact ak _ | apply ih | refine cw ?_ | refine bF ?_ ?_ | refine bg ?_ (λ _=>?_) | refine cv ?_ (λ _=>?_) | omega | intro _))
theorem uM {n n':Nat}(hn:n≤n'){l_0:List Bytes}{in_1:List (Bytes×Bool)}:Le (jm n l_0 in_1) (jm n' l_0 in_1):=by
 simp only [jm]
 repeat' (with_reducible (first | exact ak _ | apply qW | refine cw ?_ | refine bF ?_ ?_ | refine bg ?_ (λ _=>?_) | refine cv ?_ (λ _=>?_) | omega | intro _))
theorem sB {l_0:List Bytes}:∀ (m m':Nat),m≤m'→∀ (y0:List (Bytes×Bool)) (y1:Int),Le (fZ l_0 m y0 y1) (fZ l_0 m' y0 y1):=by
 intro m
 induction m with
 | zero=>intro m' _ y0 y1; exact dJ _
 | succ m ih =>
 intro m' hm y0 y1
 cases m' with
 | zero=>omega
 | succ m' =>
 simp only [fZ]
 repeat' (with_reducible (first | exact ak _ | apply ih | refine cw ?_ | refine bF ?_ ?_ | refine bg ?_ (λ _=>?_) | refine cv ?_ (λ _=>?_) | omega | intro _))
theorem qJ {n n':Nat}(hn:n≤n'){l_0:List Bytes}:Le (kf n l_0) (kf n' l_0):=by
 simp only [kf]
 repeat' (with_reducible (first | exact ak _ | apply sB | refine cw ?_ | refine bF ?_ ?_ | refine bg ?_ (λ _=>?_) | refine cv ?_ (λ _=>?_) | omega | intro _))
theorem pr {to_0:List (Bytes×(List Bytes))}{todo39:List Bytes}:∀ (m m':Nat),m≤m'→∀ (y0:List (Bytes×Bool)) (y1:List Bytes) (y2:Int),Le (d9 to_0 todo39 m y0 y1 y2) (d9 to_0 todo39 m' y0 y1 y2):=by
 intro m
 induction m with
 | zero=>intro m' _ y0 y1 y2; exact dJ _
 | succ m ih =>
 intro m' hm y0 y1 y2
 cases m' with
 | zero=>omega
 | succ m' =>
 simp only [d9]
 repeat' (with_reducible (first | exact ak _ | apply ih | refine cw ?_ | refine bF ?_ ?_ | refine bg ?_ (λ _=>?_) | refine cv ?_ (λ _=>?_) | omega | intro _))
theorem pp {n n':Nat}(hn:n≤n'){to_0:List (Bytes×(List Bytes))}:∀ (m m':Nat),m≤m'→∀ (y0:List (Bytes×Bool)) (y1:List Bytes),Le (d7 n to_0 m y0 y1) (d7 n' to_0 m' y0 y1):=by
 intro m
 induction m with
 | zero=>intro m' _ y0 y1; exact dJ _
 | succ m ih =>
 intro m' hm y0 y1
 cases m' with
 | zero=>omega
 | succ m' =>
 simp only [d7]
 repeat' (with_reducible (first | exact ak _ | apply ih | apply pr | refine cw ?_ | refine bF ?_ ?_ | refine bg ?_ (λ _=>?_) | refine cv ?_ (λ _=>?_) | omega | intro _))
theorem rf {n n':Nat}(hn:n≤n'){to_0:List (Bytes×(List Bytes))}{from_1:List Bytes}:Le (g6 n to_0 from_1) (g6 n' to_0 from_1):=by
 simp only [g6]
 repeat' (with_reducible (first | exact ak _ | apply qJ | apply pp | refine cw ?_ | refine bF ?_ ?_ | refine bg ?_ (λ _=>?_) | refine cv ?_ (λ _=>?_) | omega | intro _))
theorem rq {g_0:gp}:∀ (m m':Nat),m≤m'→∀ (y0:List (Bytes×List Bytes)) (y1:Int),Le (fx g_0 m y0 y1) (fx g_0 m' y0 y1):=by
 intro m
 induction m with
 | zero=>intro m' _ y0 y1; exact dJ _
 | succ m ih =>
 intro m' hm y0 y1
 cases m' with
 | zero=>omega
 | succ m' =>
 simp only [fx]
 repeat' (with_reducible (first | exact ak _ | apply ih | refine cw ?_ | refine bF ?_ ?_ | refine bg ?_ (λ _=>?_) | refine cv ?_ (λ _=>?_) | omega | intro _))
theorem uS {n n':Nat}(hn:n≤n'){g_0:gp}:Le (kd n g_0) (kd n' g_0):=by
 simp only [kd]
 repeat' (with_reducible (first | exact ak _ | apply rq | refine cw ?_ | refine bF ?_ ?_ | refine bg ?_ (λ _=>?_) | refine cv ?_ (λ _=>?_) | omega | intro _))
theorem tH {n n':Nat}(hn:n≤n'){g_0:gp}{from_1:List Bytes}:Le (jy n g_0 from_1) (jy n' g_0 from_1):=by
 simp only [jy]
 repeat' (with_reducible (first | exact ak _ | apply uS | apply qJ | apply uM | apply rf | refine cw ?_ | refine bF ?_ ?_ | refine bg ?_ (λ _=>?_) | refine cv ?_ (λ _=>?_) | omega | intro _))
theorem sx {n n':Nat}(hn:n≤n'){g_0:gp}{statics_1:List Bytes}:Le (iz n g_0 statics_1) (iz n' g_0 statics_1):=by
 simp only [iz]
 repeat' (with_reducible (first | exact ak _ | apply tH | refine cw ?_ | refine bF ?_ ?_ | refine bg ?_ (λ _=>?_) | refine cv ?_ (λ _=>?_) | omega | intro _))
theorem jO {s_0:List Bytes}{v_1:Bytes}:∀ (m m':Nat),m≤m'→∀ (y0:Int),Le (aW s_0 v_1 m y0) (aW s_0 v_1 m' y0):=by
 intro m
 induction m with
 | zero=>intro m' _ y0; exact dJ _
 | succ m ih =>
 intro m' hm y0
 cases m' with
 | zero=>omega
 | succ m' =>
 simp only [aW]
 repeat' (with_reducible (first | exact ak _ | apply ih | refine cw ?_ | refine bF ?_ ?_ | refine bg ?_ (λ _=>?_) | refine cv ?_ (λ _=>?_) | omega | intro _))
theorem kx {n n':Nat}(hn:n≤n'){s_0:List Bytes}{v_1:Bytes}:Le (cm n s_0 v_1) (cm n' s_0 v_1):=by
 simp only [cm]
 repeat' (with_reducible (first | exact ak _ | apply jO | refine cw ?_ | refine bF ?_ ?_ | refine bg ?_ (λ _=>?_) | refine cv ?_ (λ _=>?_) | omega | intro _))
theorem jF {n n':Nat}(hn:n≤n'){s_0:List Bytes}{v_1:Bytes}:Le (aX n s_0 v_1) (aX n' s_0 v_1):=by
 simp only [aX]
 repeat' (with_reducible (first | exact ak _ | apply kx | refine cw ?_ | refine bF ?_ ?_ | refine bg ?_ (λ _=>?_) | refine cv ?_ (λ _=>?_) | omega | intro _))
theorem lg {n n':Nat}(hn:n≤n'){x_0:cM}{i_1:Int}:∀ (m m':Nat),m≤m'→∀ (y0:Int) (y1:List ab) (y2:List Int) (y3:List Bytes) (y4:List Bool),Le (bq n x_0 i_1 m y0 y1 y2 y3 y4) (bq n' x_0 i_1 m' y0 y1 y2 y3 y4):=by
 intro m
 induction m with
 | zero=>intro m' _ y0 y1 y2 y3 y4; exact dJ _
 | succ m ih =>
 intro m' hm y0 y1 y2 y3 y4
 cases m' with
 | zero=>omega
 | succ m' =>
 simp only [bq]
 repeat' (with_reducible (first | exact ak _ | apply ih | apply jF | refine cw ?_ | refine bF ?_ ?_ | refine bg ?_ (λ _=>?_) | refine cv ?_ (λ _=>?_) | omega | intro _))
theorem ml {n n':Nat}(hn:n≤n'){x_0:cM}{i_1:Int}:Le (cz n x_0 i_1) (cz n' x_0 i_1):=by
 simp only [cz]
 repeat' (with_reducible (first | exact ak _ | apply lg | refine cw ?_ | refine bF ?_ ?_ | refine bg ?_ (λ _=>?_) | refine cv ?_ (λ _=>?_) | omega | intro _))
theorem px {r_target_copied r_target_copied':ay→Option ay}(h_target_copied:∀ x0,Le (r_target_copied x0) (r_target_copied' x0)):∀ (m m':Nat),m≤m'→Le (dA r_target_copied m ) (dA r_target_copied' m' ):=by
 intro m
 induction m with
 | zero=>intro m' _ ; exact dJ _
 | succ m ih =>
 intro m' hm
 cases m' with
 | zero=>omega
 | succ m' =>
 simp only [dA]
 repeat' (with_reducible (first | exact ak _ | apply ih | apply h_target_copied | refine cw ?_ | refine bF ?_ ?_ | refine bg ?_ (λ _=>?_) | refine cv ?_ (λ _=>?_) | omega | intro _))
theorem pq {r_target_copied r_target_copied':ay→Option ay}(h_target_copied:∀ x0,Le (r_target_copied x0) (r_target_copied' x0)){v_0:ay}:∀ (m m':Nat),m≤m'→∀ (y0:Int) (y1:List ay),Le (cq r_target_copied v_0 m y0 y1) (cq r_target_copied' v_0 m' y0 y1):=by
 intro m
 induction m with
 | zero=>intro m' _ y0 y1; exact dJ _
 | succ m ih =>
 intro m' hm y0 y1
 cases m' with
 | zero=>omega
 | succ m' =>
 simp only [cq]
 repeat' (with_reducible (first | exact ak _ | apply ih | apply h_target_copied | refine cw ?_ | refine bF ?_ ?_ | refine bg ?_ (λ _=>?_) | refine cv ?_ (λ _=>?_) | omega | intro _))
theorem qv (n:Nat):∀ n':Nat,n≤n'→(∀ (v_0:ay),Le (bM n v_0) (bM n' v_0)):=by
 induction n with
 | zero=>exact λ n' _=>(by intro v_0; exact dJ _)
 | succ n ih =>
 intro n' hn
 cases n' with
 | zero=>omega
 | succ n' =>
 have hn':n≤n':=by omega
 have ih_target_copied_le:=ih n' hn'
 intro v_0
 simp only [bM]
 repeat' (with_reducible (first | exact ak _ | apply ih_target_copied_le | apply px | apply pq | refine cw ?_ | refine bF ?_ ?_ | refine bg ?_ (λ _=>?_) | refine cv ?_ (λ _=>?_) | omega | intro _))
theorem qS {n n':Nat}(hn:n≤n'):∀ (v_0:ay),Le (bM n v_0) (bM n' v_0):=(qv n n' hn)
theorem qV {n n':Nat}(hn:n≤n'){c_0:ab}:Le (fy n c_0) (fy n' c_0):=by
 simp only [fy]
 repeat' (with_reducible (first | exact ak _ | apply qS | refine cw ?_ | refine bF ?_ ?_ | refine bg ?_ (λ _=>?_) | refine cv ?_ (λ _=>?_) | omega | intro _))
theorem pG {n n':Nat}(hn:n≤n'){l_1:List ab}:∀ (m m':Nat),m≤m'→∀ (y0:Int) (y1:List Bytes),Le (cC n l_1 m y0 y1) (cC n' l_1 m' y0 y1):=by
 intro m
 induction m with
 | zero=>intro m' _ y0 y1; exact dJ _
 | succ m ih =>
 intro m' hm y0 y1
 cases m' with
 | zero=>omega
 | succ m' =>
 simp only [cC]
 repeat' (with_reducible (first | exact ak _ | apply ih | apply l5 | refine cw ?_ | refine bF ?_ ?_ | refine bg ?_ (λ _=>?_) | refine cv ?_ (λ _=>?_) | omega | intro _))
theorem pD {n n':Nat}(hn:n≤n'){targets_0:List Bytes}{l_1:List ab}:∀ (m m':Nat),m≤m'→∀ (y0:Int) (y1:List ab) (y2:List Int) (y3:List Bytes) (y4:List Bool),Le (cE n targets_0 l_1 m y0 y1 y2 y3 y4) (cE n' targets_0 l_1 m' y0 y1 y2 y3 y4):=by
 intro m
 induction m with
 | zero=>intro m' _ y0 y1 y2 y3 y4; exact dJ _
 | succ m ih =>
 intro m' hm y0 y1 y2 y3 y4
 cases m' with
 | zero=>omega
 | succ m' =>
 simp only [cE]
 repeat' (with_reducible (first | exact ak _ | apply ih | apply lF | refine cw ?_ | refine bF ?_ ?_ | refine bg ?_ (λ _=>?_) | refine cv ?_ (λ _=>?_) | omega | intro _))
theorem pE {n n':Nat}(hn:n≤n'):∀ (m m':Nat),m≤m'→∀ (y0:List ab) (y1:List Int) (y2:List Bytes) (y3:List Bool),Le (cF n m y0 y1 y2 y3) (cF n' m' y0 y1 y2 y3):=by
 intro m
 induction m with
 | zero=>intro m' _ y0 y1 y2 y3; exact dJ _
 | succ m ih =>
 intro m' hm y0 y1 y2 y3
 cases m' with
 | zero=>omega
 | succ m' =>
 simp only [cF]
 repeat' (with_reducible (first | exact ak _ | apply ih | apply ml | refine cw ?_ | refine bF ?_ ?_ | refine bg ?_ (λ _=>?_) | refine cv ?_ (λ _=>?_) | omega | intro _))
theorem py {n n':Nat}(hn:n≤n'){l_1:List ab}{l94:List Bool}:∀ (m m':Nat),m≤m'→∀ (y0:List ab) (y1:Int),Le (cD n l_1 l94 m y0 y1) (cD n' l_1 l94 m' y0 y1):=by
 intro m
 induction m with
 | zero=>intro m' _ y0 y1; exact dJ _
 | succ m ih =>
 intro m' hm y0 y1
 cases m' with
 | zero=>omega
 | succ m' =>
 simp only [cD]
 repeat' (with_reducible (first | exact ak _ | apply ih | apply qV | refine cw ?_ | refine bF ?_ ?_ | refine bg ?_ (λ _=>?_) | refine cv ?_ (λ _=>?_) | omega | intro _))
theorem qQ {n n':Nat}(hn:n≤n'){targets_0:List Bytes}{l_1:List ab}:Le (cY n targets_0 l_1) (cY n' targets_0 l_1):=by
 simp only [cY]
 repeat' (with_reducible (first | exact ak _ | apply pG | apply pD | apply pE | apply py | refine cw ?_ | refine bF ?_ ?_ | refine bg ?_ (λ _=>?_) | refine cv ?_ (λ _=>?_) | omega | intro _))
theorem tI {n n':Nat}(hn:n≤n'):Le (gb n) (gb n'):=by
 simp only [gb]
 repeat' (with_reducible (first | exact ak _ | apply qQ | apply sx | apply lF | apply sN | refine cw ?_ | refine bF ?_ ?_ | refine bg ?_ (λ _=>?_) | refine cv ?_ (λ _=>?_) | omega | intro _))
theorem yh:gb 60=some true:=by decide +kernel
theorem xf:Ev2 (λ n _=>gb n) (·=true):=DZ 60 yh (λ n hn=>tI hn) Z
end Go.Ab.R06
end
section
namespace Go.Ab
set_option autoImplicit false
theorem j5 {α:Type}{tt:List (Nat×TI)}{n t s b:Nat}{cs:List PV}{z:List Value}(f:α→PV)(Q:α→Prop){e:Nat}(hl:look tt t=some ⟨.slice e,s,b,z⟩)(h:WTf tt n t cs)
  (he:∀ m x,m < n→WTf tt m e x.cells→x=mkE (((look tt e).map (·.k.isAgg)).getD false) x.cells→∃ y,x=f y∧Q y):∃ l:List α,cs=[eL f l]∧l.length*(((look tt e).map (·.bytes)).getD 0)≤fo∧∀ y∈l,Q y:=by
 cases n with
 | zero=>exact h.elim
 | succ n =>
  obtain ⟨l,h1,h2,h3⟩:=A3 f Q hl h (λ x k1 k2=>he n x O k1 k2)
  exact ⟨l,h1,h2.2,h3⟩
inductive ay.Bd:ay→Prop where
 | mk {x:ay} (bKind:inR x.fKind) (bNum:inR x.fNum) (bStr:x.fStr.length≤fo) (bItems:x.fItems.length*80≤fo) (eItems:∀ y∈x.fItems,ay.Bd y) (bKeys:x.fKeys.length*16≤fo) (eKeys:∀ y∈x.fKeys,y.length≤fo):ay.Bd x
theorem ay.Bd.bItems {x:ay}(h:ay.Bd x):x.fItems.length*80≤fo:=by cases h; assumption
theorem ay.Bd.eItems {x:ay}(h:ay.Bd x):∀ y∈x.fItems,ay.Bd y:=by cases h; assumption
theorem ay.Bd.bKeys {x:ay}(h:ay.Bd x):x.fKeys.length*16≤fo:=by cases h; assumption
theorem ay.dec (n:Nat):(∀ cs,WTf tt n 45 cs→∃ x:ay,cs=ay.cs x∧ay.Bd x):=by
 induction n using Nat.strongRecOn with
 | _ n ih =>
 have ih_TValue:∀ m,m < n→(∀ cs,WTf tt m 45 cs→∃ x:ay,cs=ay.cs x∧ay.Bd x):=λ m hm=>(ih m hm)
 intro cs h
 cases n with
 | zero=>exact h.elim
 | succ n =>
 have h0:=tU Z h
 obtain ⟨c0,q0,rfl,k0,h0⟩:=ek h0
 obtain ⟨c1,q1,rfl,k1,h0⟩:=ek h0
 obtain ⟨c2,q2,rfl,k2,h0⟩:=ek h0
 obtain ⟨c3,q3,rfl,k3,h0⟩:=ek h0
 obtain ⟨c4,q4,rfl,k4,h0⟩:=ek h0
 have e:q4=[]:=h0
 subst e
 obtain ⟨x25,rfl,b26⟩:=sU rfl k0
 obtain ⟨x27,rfl,b28⟩:=sU rfl k1
 obtain ⟨x29,rfl,b30⟩:=jh rfl k2
 obtain ⟨x31,rfl,b32⟩:=j5 bY (λ y=>ay.Bd y) rfl k3 (λ m33 y34 hm35 k36 k37=>by
  obtain ⟨x38,e40,b39⟩:=ih_TValue _ O _ k36
  exact ⟨x38,(BW e40 k37).trans (ay.agg_eq _).symm,b39⟩
  )
 obtain ⟨x41,rfl,b42⟩:=j5 eS (λ y=>y.length≤fo) rfl k4 (λ m43 y44 hm45 k46 k47=>by
  obtain ⟨x48,e50,b49⟩:=jh rfl k46
  exact ⟨x48,pU e50 k47,b49⟩
  )
 exact ⟨ay.mk x25 x27 x29 x31 x41,Z,.mk b26 b28 b30 b32.1 b32.2 b42.1 b42.2⟩
inductive ab.Bd:ab→Prop where
 | mk {x:ab} (bAddr:x.fAddr.length≤fo) (bDeposed:x.fDeposed.length≤fo) (bType:x.fType.length≤fo) (bAction:inR x.fAction) (bReason:inR x.fReason) (bBefore:ay.Bd x.fBefore) (bAfter:ay.Bd x.fAfter) (bID:x.fID.length≤fo) (bReplace:x.fReplace.length*16≤fo) (eReplace:∀ y∈x.fReplace,y.length≤fo) (bDeps:x.fDeps.length*16≤fo) (eDeps:∀ y∈x.fDeps,y.length≤fo) (bOldDeps:x.fOldDeps.length*16≤fo) (eOldDeps:∀ y∈x.fOldDeps,y.length≤fo):ab.Bd x
theorem ab.Bd.bBefore {x:ab}(h:ab.Bd x):ay.Bd x.fBefore:=by cases h; assumption
theorem ab.Bd.bAfter {x:ab}(h:ab.Bd x):ay.Bd x.fAfter:=by cases h; assumption
theorem ab.Bd.bReplace {x:ab}(h:ab.Bd x):x.fReplace.length*16≤fo:=by cases h; assumption
theorem ab.Bd.bDeps {x:ab}(h:ab.Bd x):x.fDeps.length*16≤fo:=by cases h; assumption
theorem ab.Bd.bOldDeps {x:ab}(h:ab.Bd x):x.fOldDeps.length*16≤fo:=by cases h; assumption
theorem ab.dec (n:Nat):(∀ cs,WTf tt n 47 cs→∃ x:ab,cs=ab.cs x∧ab.Bd x):=by
 induction n using Nat.strongRecOn with
 | _ n ih =>
 have ih_TChange:∀ m,m < n→(∀ cs,WTf tt m 47 cs→∃ x:ab,cs=ab.cs x∧ab.Bd x):=λ m hm=>(ih m hm)
 intro cs h
 cases n with
 | zero=>exact h.elim
 | succ n =>
 have h0:=tU Z h
 obtain ⟨c0,q0,rfl,k0,h0⟩:=ek h0
 obtain ⟨c1,q1,rfl,k1,h0⟩:=ek h0
 obtain ⟨c2,q2,rfl,k2,h0⟩:=ek h0
 obtain ⟨c3,q3,rfl,k3,h0⟩:=ek h0
 obtain ⟨c4,q4,rfl,k4,h0⟩:=ek h0
 obtain ⟨c5,q5,rfl,k5,h0⟩:=ek h0
 obtain ⟨c6,q6,rfl,k6,h0⟩:=ek h0
 obtain ⟨c7,q7,rfl,k7,h0⟩:=ek h0
 obtain ⟨c8,q8,rfl,k8,h0⟩:=ek h0
 obtain ⟨c9,q9,rfl,k9,h0⟩:=ek h0
 obtain ⟨c10,q10,rfl,k10,h0⟩:=ek h0
 obtain ⟨c11,q11,rfl,k11,h0⟩:=ek h0
 obtain ⟨c12,q12,rfl,k12,h0⟩:=ek h0
 obtain ⟨c13,q13,rfl,k13,h0⟩:=ek h0
 have e:q13=[]:=h0
 subst e
 obtain ⟨x51,rfl,b52⟩:=jh rfl k0
 obtain ⟨x53,rfl,b54⟩:=jh rfl k1
 obtain ⟨x55,rfl,b56⟩:=jh rfl k2
 obtain ⟨x57,rfl,b58⟩:=sU rfl k3
 obtain ⟨x59,rfl,b60⟩:=sU rfl k4
 obtain ⟨x61,rfl,b62⟩:=ay.dec _ _ k5
 obtain ⟨x63,rfl,b64⟩:=ay.dec _ _ k6
 obtain ⟨x65,rfl,b66⟩:=jh rfl k7
 obtain ⟨x67,rfl,b68⟩:=j5 eS (λ y=>y.length≤fo) rfl k8 (λ m69 y70 hm71 k72 k73=>by
  obtain ⟨x74,e76,b75⟩:=jh rfl k72
  exact ⟨x74,pU e76 k73,b75⟩
  )
 obtain ⟨x77,rfl⟩:=uz rfl k9
 obtain ⟨x79,rfl⟩:=uz rfl k10
 obtain ⟨x81,rfl⟩:=uz rfl k11
 obtain ⟨x83,rfl,b84⟩:=j5 eS (λ y=>y.length≤fo) rfl k12 (λ m85 y86 hm87 k88 k89=>by
  obtain ⟨x90,e92,b91⟩:=jh rfl k88
  exact ⟨x90,pU e92 k89,b91⟩
  )
 obtain ⟨x93,rfl,b94⟩:=j5 eS (λ y=>y.length≤fo) rfl k13 (λ m95 y96 hm97 k98 k99=>by
  obtain ⟨x100,e102,b101⟩:=jh rfl k98
  exact ⟨x100,pU e102 k99,b101⟩
  )
 exact ⟨ab.mk x51 x53 x55 x57 x59 x61 x63 x65 x67 x77 x79 x81 x83 x93,Z,.mk b52 b54 b56 b58 b60 b62 b64 b66 b68.1 b68.2 b84.1 b84.2 b94.1 b94.2⟩
end Go.Ab
end
section
namespace Go.Ab.R06
open Go.Ab Go.Ab.RB Go.Lib
theorem dc {α β:Type}{P:α→Prop}{g:Nat→Nat→Option β}{k:Nat→Nat→β→Option α}(x:β)(h:Ev2 g (·=x))(hk:Ev2 (λ n m=>k n m x) P):Ev2 (λ n m=>(g n m).bind (k n m)) P:=jU (·=x) h (λ _ e=>by subst e; exact hk)
theorem qq:fo≤9000000000000000000:=by decide
def lZ (l:List Bytes)(most:Int):Bool:=decide ((l.length:Int)≤most)&&l.all λ s=>decide (s.length≤300)
theorem A2 (l:List Bytes)(hb:l.length≤fo):∀ (k i:Nat),i+k=l.length→Ev2 (λ _ m=>eG l m (i:Int)) (·=if ((l.drop i).all λ s=>decide (s.length≤300))=true then .inl () else .inr false):=by
 have hW:=qq
 intro k
 induction k with
 | zero =>
  intro i hi
  refine aJ ?_
  simp only [eG]
  exact ar O (aa (by rw [List.drop_of_length_le O]; simp))
 | succ k ih =>
  intro i hi
  have h1:i < l.length:=by omega
  refine aJ ?_
  simp only [eG]
  refine av O (af O ?_)
  rw [cI _ _ h1,List.drop_eq_getElem_cons h1,List.all_cons]
  refine aB (λ h=>aa (by rw [decide_eq_false O]; rfl)) (λ h=>af (aU O O) ?_)
  have:=ih (i+1) O
  rw [Int.natCast_add,Int.natCast_one] at this
  refine fP this λ r hr=>?_
  rw [hr,decide_eq_true (show l[i].length≤300 by omega),Bool.true_and]
theorem tm (l:List Bytes)(most:Int)(hb:l.length≤fo):Ev2 (λ n _=>il n l most) (·=lZ l most):=by
 simp only [il]
 unfold lZ
 refine aB (λ h=>aa (by rw [decide_eq_false O]; rfl)) (λ h=>?_)
 rw [decide_eq_true (show (l.length:Int)≤most by omega),Bool.true_and]
 have l1:=A2 l hb l.length 0 O
 rw [List.drop_zero] at l1
 cases hq:l.all λ s=>decide (s.length≤300)
 ·rw [if_neg (by simp [hq])] at l1
  exact gA false (a8 l1) Z
 ·rw [if_pos hq] at l1
  exact fE () (a8 l1) (aa Z)
theorem ti {l:List Bytes}{most:Int}(h:lZ l most=true):(l.length:Int)≤most∧∀ s∈l,s.length≤300:=by
 unfold lZ at h
 rw [Bool.and_eq_true,decide_eq_true_eq,List.all_eq_true] at h
 exact ⟨h.1,λ s hs=>by simpa using h.2 s hs⟩
def jN (f:Bytes→Int):List Bytes→Int
 | []=>0
 | s::r=>if f s=0 then jN f r else f s
theorem zP (l:List Bytes)(hb:l.length≤65536)(hs:∀ s∈l,s.length≤65536):∀ (k i:Nat),i+k=l.length→Ev2 (λ _ m=>cT l m (i:Int)) (·=if jN Glob.check (l.drop i)=0 then .inl () else .inr (jN Glob.check (l.drop i))):=by
 intro k
 induction k with
 | zero =>
  intro i hi
  refine aJ ?_
  simp only [cT]
  exact ar O (aa (by rw [List.drop_of_length_le O]; rfl))
 | succ k ih =>
  intro i hi
  have h1:i < l.length:=by omega
  refine aJ ?_
  simp only [cT]
  refine av O (af O ?_)
  rw [cI _ _ h1,List.drop_eq_getElem_cons h1]
  refine af (hs _ (List.getElem_mem h1)) ?_
  refine aB (λ h=>af (aU O O) ?_) (λ h=>aa ?_)
  ·have:=ih (i+1) O
   rw [Int.natCast_add,Int.natCast_one] at this
   have e:jN Glob.check (l[i]::l.drop (i+1))=jN Glob.check (l.drop (i+1)):=if_pos h
   simp only [e]; exact this
  ·have e:jN Glob.check (l[i]::l.drop (i+1))=Glob.check l[i]:=if_neg h
   simp only [e,if_neg h]
def tgP (l:List Bytes):Int:=if 64 < (l.length:Int) then 14 else jN Glob.check l
theorem Fi (l:List Bytes)(hs:∀ s∈l,s.length≤65536):Ev2 (λ n _=>fk n l) (·=tgP l):=by
 simp only [fk]
 unfold tgP
 refine aB (λ h=>aa (by rw [if_pos h])) (λ h=>?_)
 rw [if_neg h]
 have l1:=zP l O hs l.length 0 O
 rw [List.drop_zero] at l1
 by_cases hq:jN Glob.check l=0
 ·rw [if_pos hq] at l1
  exact fE () (a8 l1) (aa hq.symm)
 ·rw [if_neg hq] at l1
  exact gA _ (a8 l1) Z
theorem E6 (l:List Bytes)(hb:l.length≤65536)(hs:∀ s∈l,s.length≤65536):∀ (k i:Nat),i+k=l.length→Ev2 (λ _ m=>eZ l m (i:Int)) (·=if jN Glob.check (l.drop i)=0 then .inl () else .inr (jN Glob.check (l.drop i))):=by
 intro k
 induction k with
 | zero =>
  intro i hi
  refine aJ ?_
  simp only [eZ]
  exact ar O (aa (by rw [List.drop_of_length_le O]; rfl))
 | succ k ih =>
  intro i hi
  have h1:i < l.length:=by omega
  refine aJ ?_
  simp only [eZ,← Glob.check_eq]
  refine av O (af O ?_)
  rw [cI _ _ h1,List.drop_eq_getElem_cons h1]
  refine af (hs _ (List.getElem_mem h1)) ?_
  refine aB (λ h=>af (aU O O) ?_) (λ h=>aa ?_)
  ·have:=ih (i+1) O
   rw [Int.natCast_add,Int.natCast_one] at this
   have e:jN Glob.check (l[i]::l.drop (i+1))=jN Glob.check (l.drop (i+1)):=if_pos h
   simp only [e]; exact this
  ·have e:jN Glob.check (l[i]::l.drop (i+1))=Glob.check l[i]:=if_neg h
   simp only [e,if_neg h]
theorem EJ (l:List Bytes)(hs:∀ s∈l,s.length≤65536):Ev2 (λ n _=>kS n l) (·=tgP l):=by
 simp only [kS]
 unfold tgP
 refine aB (λ h=>aa (by rw [if_pos h])) (λ h=>?_)
 rw [if_neg h]
 have l1:=E6 l O hs l.length 0 O
 rw [List.drop_zero] at l1
 by_cases hq:jN Glob.check l=0
 ·rw [if_pos hq] at l1
  exact fE () (a8 l1) (aa hq.symm)
 ·rw [if_neg hq] at l1
  exact gA _ (a8 l1) Z
def uj (c:ab):Bool:=decide (c.fAddr.length≤300)&&lZ c.fDeps 10&&lZ c.fOldDeps 10
theorem Ej (l:List ab)(hb:l.length≤20)(hB:∀ c∈l,ab.Bd c):∀ (k i:Nat),i+k=l.length→Ev2 (λ n m=>gh n l m (i:Int)) (·=if (l.drop i).all uj=true then .inl () else .inr false):=by
 have hW:=qq
 intro k
 induction k with
 | zero =>
  intro i hi
  refine aJ ?_
  simp only [gh]
  exact ar O (aa (by rw [List.drop_of_length_le O]; simp))
 | succ k ih =>
  intro i hi
  have h1:i < l.length:=by omega
  have hc:=hB _ (List.getElem_mem h1)
  have d1:=hc.bDeps
  have d2:=hc.bOldDeps
  refine aJ ?_
  simp only [gh]
  refine av O ?_
  rw [cI _ _ h1,List.drop_eq_getElem_cons h1,List.all_cons]
  refine jU (·=!uj l[i]) (af O ?_) (λ x hx=>?_)
  ·unfold uj
   refine aB (λ h=>aa (by rw [decide_eq_false O]; rfl)) (λ h=>af O ?_)
   rw [decide_eq_true (show l[i].fAddr.length≤300 by omega),Bool.true_and]
   refine dc _ (tm l[i].fDeps 10 O) ?_
   cases lZ l[i].fDeps 10
   ·exact av Z (aa Z)
   ·refine ar (by decide) (af O ?_)
    exact dc _ (tm l[i].fOldDeps 10 O) (aa (by rw [Bool.true_and]))
  ·subst hx
   cases hq:uj l[i]
   ·exact av Z (aa Z)
   ·refine ar (by decide) (af (aU O O) ?_)
    have:=ih (i+1) O
    rw [Int.natCast_add,Int.natCast_one] at this
    exact this
def Bc (t:List Bytes)(l:List ab):Bool:=lZ t 16&&decide (tgP t=0)&&decide (l.length≤20)&&l.all uj
theorem Ep (t:List Bytes)(l:List ab)(ht:t.length≤fo)(hB:∀ c∈l,ab.Bd c):Ev2 (λ n _=>mK n t l) (·=Bc t l):=by
 simp only [mK]
 unfold Bc
 refine jU (·=!(lZ t 16&&decide (tgP t=0)&&decide (l.length≤20))) ?_ (λ x hx=>?_)
 ·refine dc _ (tm t 16 ht) ?_
  cases hq:lZ t 16
  ·exact av Z (aa Z)
  ·refine ar (by decide) (dc _ (EJ t (λ s hs=>by have:=(ti hq).2 s hs; omega)) ?_)
   refine aB (λ h=>aa ?_) (λ h=>aa ?_)
   ·rw [decide_eq_true h]
    by_cases h2:l.length≤20
    ·rw [decide_eq_true h2,decide_eq_false O]; rfl
    ·rw [decide_eq_false h2,decide_eq_true O]; rfl
   ·rw [decide_eq_false h]; rfl
 ·subst hx
  cases hq:(lZ t 16&&decide (tgP t=0)&&decide (l.length≤20))
  ·exact av Z (aa Z)
  ·refine ar (by decide) ?_
   rw [Bool.and_eq_true,decide_eq_true_eq] at hq
   have l1:=Ej l hq.2 hB l.length 0 O
   rw [List.drop_zero] at l1
   rw [Bool.true_and]
   cases hp:l.all uj
   ·rw [if_neg (by simp [hp])] at l1
    exact gA false (a8 l1) Z
   ·rw [if_pos hp] at l1
    exact fE () (a8 l1) (aa Z)
end Go.Ab.R06
end
section
namespace Go.Ab.R06
open Go.Ab Go.Ab.RB
section
variable {α β:Type} {P:α→Prop}
theorem ap {g:Nat→Nat→Option β}{k:Nat→Nat→β→Option α}(x:β)(h:Ev2 g (·=x))(hk:Ev2 (λ n m=>k n m x) P):Ev2 (λ n m=>(g n m).bind (k n m)) P :=
 jU (·=x) h λ y hy=>by subst hy; exact hk
end
def pB (b:UInt8):Bool:=(decide (97≤b.toNat)&&decide (b.toNat≤122))||(decide (65≤b.toNat)&&decide (b.toNat≤90))||decide (b.toNat=95)
def dI (b:UInt8):Bool:=decide (48≤b.toNat)&&decide (b.toNat≤57)
def idB (b:UInt8):Bool:=pB b||dI b
def bX:Bytes→Bool
 | []=>false
 | b::r=>decide ((b::r).length≤64)&&pB b&&r.all idB
def xo (s:Bytes)(i:Nat):Bool:=pB (s.getD i 0)||(decide (i≠0)&&dI (s.getD i 0))
def mw (p:Nat→Bool):Nat→Nat→Bool
 | _,0=>true
 | i,k+1=>p i&&mw p (i+1) k
theorem n0 (p:Nat→Bool):∀ (k i:Nat),mw p i k=true↔∀ j,i≤j→j < i+k→p j=true
 | 0,i=>by simp [mw]; intro j h1 h2; omega
 | k+1,i=>by
  rw [mw,Bool.and_eq_true,n0 p k (i+1)]
  constructor
  ·rintro ⟨h1,h2⟩ j h3 h4
   by_cases e:j=i
   ·rw [e]; exact h1
   ·exact h2 j O O
  ·intro h
   exact ⟨h i O O,λ j h1 h2=>h j O O⟩
theorem or32:(List.range 256).all (λ n=>(decide ((97:Int)≤iOr .u8 (n:Int) 32)&&decide (iOr .u8 (n:Int) 32≤122)) == ((decide (97≤n)&&decide (n≤122))||(decide (65≤n)&&decide (n≤90))))=true:=by kernel_rfl
theorem EY (b:UInt8):(97≤iOr .u8 ((b.toNat:Nat):Int) 32∧iOr .u8 ((b.toNat:Nat):Int) 32≤122)↔((97≤b.toNat∧b.toNat≤122)∨(65≤b.toNat∧b.toNat≤90)):=by
 have h:=List.all_eq_true.1 or32 b.toNat (List.mem_range.2 b.toNat_lt)
 have h:=eq_of_beq h
 rw [Bool.eq_iff_iff] at h
 simpa using h
theorem qF (b:UInt8):pB b=true↔(97≤b.toNat∧b.toNat≤122)∨(65≤b.toNat∧b.toNat≤90)∨b.toNat=95:=by
 simp [pB,or_assoc]
theorem iW (b:UInt8):dI b=true↔48≤b.toNat∧b.toNat≤57:=by simp [dI]
theorem eqB {a b:Bool}(h:a=true↔b=true):a=b:=Bool.eq_iff_iff.2 h
theorem lA (s:Bytes)(i:Nat):xo s i=true↔pB (s.getD i 0)=true∨(i≠0∧dI (s.getD i 0)=true):=by simp [xo]
theorem pR (s:Bytes):bX s=true↔s≠[]∧s.length≤64∧mw (xo s) 0 s.length=true:=by
 rw [n0]
 cases s with
 | nil=>simp [bX]
 | cons b r =>
  simp only [bX,Bool.and_eq_true,decide_eq_true_eq,List.all_eq_true]
  constructor
  ·rintro ⟨⟨h1,h2⟩,h3⟩
   refine ⟨by simp,h1,λ j _ hj=>?_⟩
   rw [lA]
   cases j with
   | zero=>exact .inl h2
   | succ j =>
    have hm:r.getD j 0∈r:=by
     rw [List.getD_eq_getElem?_getD,List.getElem?_eq_getElem (by simp at hj; omega)]
     exact List.getElem_mem _
    have:=h3 _ hm
    simp only [idB,Bool.or_eq_true] at this
    rcases this with h | h
    ·exact .inl h
    ·exact .inr ⟨by omega,h⟩
  ·rintro ⟨_,h1,h2⟩
   refine ⟨⟨h1,?_⟩,λ x hx=>?_⟩
   ·have:=(lA _ _).1 (h2 0 O G)
    simpa using this
   ·obtain ⟨j,hj,rfl⟩:=List.getElem_of_mem hx
    have:=(lA _ _).1 (h2 (j+1) O (by simp; omega))
    rw [show (b::r).getD (j+1) 0=r[j] by simp [hj]] at this
    simp only [idB,Bool.or_eq_true]
    rcases this with h | h
    ·exact .inl h
    ·exact .inr h.2
theorem sf (s:Bytes):bX s=true↔s≠[]∧s.length≤64∧pB (s.getD 0 0)=true∧mw (λ j=>idB (s.getD j 0)) 0 s.length=true:=by
 rw [pR,n0,n0]
 constructor
 ·rintro ⟨h1,h2,h3⟩
  have hl:0 < s.length:=List.length_pos_iff.2 h1
  refine ⟨h1,h2,?_,λ j _ hj=>?_⟩
  ·have:=(lA s 0).1 (h3 0 O O)
   simpa using this
  ·have:=(lA s j).1 (h3 j O hj)
   simp only [idB,Bool.or_eq_true]
   rcases this with h | h
   ·exact .inl h
   ·exact .inr h.2
 ·rintro ⟨h1,h2,h3,h4⟩
  refine ⟨h1,h2,λ j _ hj=>(lA s j).2 ?_⟩
  have:=h4 j O hj
  simp only [idB,Bool.or_eq_true] at this
  by_cases e:j=0
  ·subst e; exact .inl h3
  ·rcases this with h | h
   ·exact .inl h
   ·exact .inr ⟨e,h⟩
end Go.Ab.R06
namespace Go.Ab.R06
open Go.Ab Go.Ab.RB Go.Lib
def fS (acc:Nat)(l:Bytes):Nat:=l.foldl (λ a b=>a*10+(b.toNat - 48)) acc
theorem mJ (a:Nat):fS a []=a:=rfl
theorem pj (a:Nat)(b:UInt8)(l:Bytes):fS a (b::l)=fS (a*10+(b.toNat - 48)) l:=by simp only [fS,List.foldl_cons]
theorem w6 (a:Nat)(l m:Bytes):fS a (l++m)=fS (fS a l) m:=by simp [fS]
theorem qT (a:Nat)(l:Bytes)(b:UInt8):fS a (l++[b])=fS a l*10+(b.toNat - 48):=by rw [w6]; rfl
theorem y6:∀ (l:Bytes) (a:Nat),a≤fS a l
 | [],a=>Nat.le_of_eq (mJ a).symm
 | b::r,a=>by
  rw [pj]
  have:=y6 r (a*10+(b.toNat - 48))
  generalize fS (a*10+(b.toNat - 48)) r=v at this ⊢
  omega
theorem ko {l:Bytes}(h:l.all dI=true){b:UInt8}(hb:b∈l):48≤b.toNat∧b.toNat≤57:=(iW b).1 (List.all_eq_true.1 h b hb)
theorem CE:∀ (l:Bytes) (acc:Nat),l.all dI=true→(fS acc l≤18446744073709551615→parseUintM 18446744073709551615 acc l=.ok (fS acc l))∧(18446744073709551615 < fS acc l→acc≤18446744073709551615→parseUintM 18446744073709551615 acc l=.range)
 | [],acc,_=>by
  rw [mJ]
  exact ⟨λ _=>rfl,λ h h'=>by omega⟩
 | b::r,acc,h=>by
  have hb:=ko h List.mem_cons_self
  have hr:r.all dI=true:=by simp only [List.all_cons,Bool.and_eq_true] at h; exact h.2
  rw [parseUintM,if_pos hb,pj]
  have hg:=y6 r (acc*10+(b.toNat - 48))
  have ih:=CE r (acc*10+(b.toNat - 48)) hr
  generalize fS (acc*10+(b.toNat - 48)) r=v at hg ih ⊢
  by_cases h1:1844674407370955162≤acc
  ·rw [if_pos h1]
   exact ⟨λ h2=>by omega,λ _ _=>rfl⟩
  ·rw [if_neg h1]
   by_cases h2:18446744073709551615 < acc*10+(b.toNat - 48)
   ·rw [if_pos h2]
    exact ⟨λ h3=>by omega,λ _ _=>rfl⟩
   ·rw [if_neg h2]
    exact ⟨ih.1,λ h3 _=>ih.2 h3 O⟩
theorem Eo (l:Bytes)(hne:l≠[])(h:l.all dI=true):parseUintB 64 l=if fS 0 l≤18446744073709551615 then .ok (fS 0 l) else .range:=by
 rw [parseUintB,if_neg hne]
 show parseUintM (2 ^ 64 - 1) 0 l=_
 rw [show (2 ^ 64 - 1:Nat)=18446744073709551615 from rfl]
 have:=CE l 0 h
 generalize fS 0 l=v at this ⊢
 by_cases q:v≤18446744073709551615
 ·rw [if_pos q]; exact this.1 q
 ·rw [if_neg q]; exact this.2 O O
def p7 (l:Bytes):Bool:=!l.isEmpty&&l.all dI&&(decide (l.getD 0 0≠48)||decide (l.length=1))
theorem jV (l:Bytes):p7 l=true↔l≠[]∧l.all dI=true∧(l.getD 0 0≠48∨l.length=1):=by
 simp [p7,and_assoc]
def pu (s:Bytes):Bool:=decide (0 < s.length)&&decide (s.getD 0 0=45)
def digits (s:Bytes):Bytes:=if pu s=true then s.drop 1 else s
def qf (s:Bytes):Bool:=!(pu s&&decide (s.drop 1=[48]))&&p7 (digits s)
def mU (s:Bytes):Int:=if pu s=true then -(fS 0 (digits s):Int) else (fS 0 (digits s):Int)
def iQ:Int:=9007199254740992
def rl (s:Bytes):Int×Int:=if qf s=true then (if -iQ≤mU s∧mU s≤iQ then (mU s,0) else (0,5)) else (0,2)
theorem BM (s:Bytes)(hs:s.length≤1000000000):∀ (k i:Nat),i+k=s.length→Ev2 (λ _ m=>bW s m (i:Int)) (·=if mw (λ j=>dI (s.getD j 0)) i k then .inl () else .inr false):=by
 intro k
 induction k with
 | zero =>
  intro i hi
  refine aJ ?_
  simp only [bW]
  refine ar O (aa Z)
 | succ k ih =>
  intro i hi
  refine aJ ?_
  simp only [bW]
  refine av O ?_
  have hb:byt s i=((s.getD i 0).toNat:Int):=d5 s i
  rw [hb]
  refine ap (!dI (s.getD i 0)) ?_ ?_
  ·have h:=iW (s.getD i 0)
   generalize s.getD i 0=b at h ⊢
   refine af O (aB (λ h1=>aa ?_) (λ h1=>af O (aa ?_)))
   ·have:dI b=false:=by rw [← Bool.not_eq_true,h]; omega
    simp [this]
   ·refine eqB ?_
    rw [decide_eq_true_eq,Bool.not_eq_true',← Bool.not_eq_true,h]
    omega
  ·cases hk:dI (s.getD i 0) with
   | false=>exact av Z (aa (by simp only [mw,hk,Bool.false_and]; rfl))
   | true =>
    refine ar G (af (aU O O) ?_)
    have:=ih (i+1) O
    rw [Int.natCast_add,Int.natCast_one] at this
    simp only [mw,hk,Bool.true_and]
    exact this
theorem uA (s:Bytes)(p:UInt8→Bool):mw (λ j=>p (s.getD j 0)) 0 s.length=s.all p:=by
 refine eqB ?_
 rw [n0,List.all_eq_true]
 constructor
 ·intro h x hx
  obtain ⟨j,hj,rfl⟩:=List.getElem_of_mem hx
  have:=h j O O
  simpa [hj] using this
 ·intro h j _ hj
  have hj:j < s.length:=by omega
  have:=h s[j] (List.getElem_mem hj)
  simpa [hj] using this
theorem wn (s:Bytes)(hs:s.length≤1000000000):Ev2 (λ n _=>d8 n s) (·=qf s):=by
 simp only [d8]
 have hb:byt s 0=((s.getD 0 0).toNat:Int):=d5 s 0
 have hneg:pu s=true↔0 < s.length∧s.getD 0 0=45:=by simp [pu]
 have h45:(s.getD 0 0).toNat=45↔s.getD 0 0=45:=⟨λ h=>UInt8.toNat_inj.1 h,λ h=>by rw [h]; rfl⟩
 have body:∀ t:Bytes,t.length≤1000000000→Ev2 (λ n m=>jn (bW t n 0) λ q31 =>
   ((if t=([]:Bytes) then some false else ck ((0:Int)≤0∧0 < (t.length:Int)) <| if byt t 0=48 then some (decide ((t.length:Int)=1)) else some true):Option Bool).bind λ t28=>some t28) (·=p7 t):=by
  intro t ht
  have l:=BM t ht t.length 0 O
  rw [uA] at l
  have hc:=jV t
  have hb':byt t 0=((t.getD 0 0).toNat:Int):=d5 t 0
  have h48:(t.getD 0 0).toNat=48↔t.getD 0 0=48:=⟨λ h=>UInt8.toNat_inj.1 h,λ h=>by rw [h]; rfl⟩
  cases ha:t.all dI with
  | false =>
   rw [ha] at l hc
   refine gA false (a8 l) (eqB ?_)
   rw [hc]; simp
  | true =>
   rw [ha] at l hc
   refine fE () (a8 l) (jU (·=p7 t) ?_ (λ x hx=>aa hx))
   refine aB (λ h=>aa (eqB ?_)) (λ h=>af ?_ ?_)
   ·rw [hc]; simp [h]
   ·have:=List.length_pos_iff.2 h; omega
   ·rw [hb']
    refine aB (λ h1=>aa (eqB ?_)) (λ h1=>aa (eqB ?_))
    ·have h2:=h48.1 O
     rw [hc,decide_eq_true_eq]
     constructor
     ·intro q; exact ⟨h,by simp,.inr O⟩
     ·rintro ⟨_,_,q | q⟩
      ·exact absurd h2 q
      ·omega
    ·rw [hc]; simp only [true_iff]
     exact ⟨h,by simp,.inl λ q=>h1 (by have:=h48.2 q; omega)⟩
 refine nY (ap (pu s) ?_ ?_)
 ·refine aB (λ h=>af O (aa (eqB ?_))) (λ h=>aa (eqB ?_))
  ·rw [hneg,hb,decide_eq_true_eq]
   constructor
   ·intro q; exact ⟨by omega,h45.1 O⟩
   ·rintro ⟨_,q⟩; have:=h45.2 q; omega
  ·rw [hneg]
   constructor
   ·intro q; cases q
   ·rintro ⟨q,_⟩; omega
 ·rw [fF]
  show Ev2 (λ n m=>if pu s=true then ck _ (if s.drop 1=[48] then some (Sum.inr false) else some (Sum.inl (s.drop 1))) else some (Sum.inl s)) _
  refine aB (λ h=>af ?_ (aB (λ h1=>aa ?_) (λ h1=>aa ?_))) (λ h=>aa ?_)
  ·have:=hneg.1 h; omega
  ·simp [qf,h,h1]
  ·have e:qf s=p7 (s.drop 1):=by unfold qf digits; rw [if_pos h,decide_eq_false h1]; simp
   rw [e]
   exact body _ (by simp; omega)
  ·have e:qf s=p7 s:=by simp [qf,h,digits]
   rw [e]
   exact body _ hs
theorem EU (v:Int):jS v=some (decide (-iQ≤v∧v≤iQ)):=by
 simp only [jS]
 by_cases h:(-9007199254740992:Int)≤v
 ·rw [if_pos h]
  by_cases h2:v≤9007199254740992
  ·simp [h2,iQ,h]
  ·simp [h2,iQ]
 ·rw [if_neg h,Option.bind_some]
  refine congrArg some (eqB ?_)
  rw [decide_eq_true_eq]; unfold iQ
  constructor
  ·intro q; cases q
  ·intro q; exact absurd q.1 h
theorem sj {s:Bytes}(h:qf s=true):digits s≠[]∧(digits s).all dI=true:=by
 simp only [qf,Bool.and_eq_true] at h
 have:=(jV _).1 h.2
 exact ⟨this.1,this.2.1⟩
theorem Ei (s:Bytes)(h:qf s=true):parseIntB 64 s=if (if pu s=true then 9223372036854775808 < fS 0 (digits s) else 9223372036854775808≤fS 0 (digits s)) then .range else .ok (mU s):=by
 obtain ⟨h1,h2⟩:=sj h
 cases s with
 | nil=>exact absurd (by simp [digits,pu]) h1
 | cons c r =>
  have e45:c.toNat=45↔c=45:=⟨λ h=>UInt8.toNat_inj.1 h,λ h=>by rw [h]; rfl⟩
  have hneg:pu (c::r)=decide (c=45):=by simp [pu]
  have hd:(if c.toNat=43∨c.toNat=45 then r else c::r)=digits (c::r):=by
   unfold digits
   rw [hneg]
   by_cases q:c=45
   ·rw [if_pos (.inr (e45.2 q)),if_pos (by simp [q])]; rfl
   ·have e:digits (c::r)=c::r:=by unfold digits; rw [hneg,if_neg (by simp [q])]
    have e2:(if decide (c=45)=true then List.drop 1 (c::r) else c::r)=c::r:=if_neg (by simp [q])
    rw [e2,if_neg]
    rintro (k | k)
    ·rw [e] at h2
     have:=ko h2 List.mem_cons_self
     omega
    ·exact q (e45.1 k)
  have hp:=Eo _ h1 h2
  unfold parseIntB
  simp only [hd,hp]
  rw [hneg]
  unfold mU
  rw [hneg]
  generalize fS 0 (digits (c::r))=v
  by_cases q:c=45
  ·subst q
   by_cases hv:v≤18446744073709551615
   ·simp only [hv,if_true]
    by_cases hw:9223372036854775808 < v
    ·simp [hw]
    ·simp [hw]
   ·simp only [hv,if_false]
    rw [if_pos]; simp; omega
  ·have q':¬ c.toNat=45:=λ k=>q (e45.1 k)
   by_cases hv:v≤18446744073709551615
   ·simp only [hv,if_true]
    by_cases hw:9223372036854775808≤v
    ·simp [q,q',hw]
    ·simp [q,q',hw]
   ·simp only [hv,if_false]
    rw [if_pos]; simp [q]; omega
theorem wR (s:Bytes)(hs:s.length≤1000000000):Ev2 (λ n _=>ga n s) (·=rl s):=by
 simp only [ga]
 refine ap _ (wn s hs) ?_
 cases hc:qf s with
 | false=>exact av Z (aa (by simp [rl,hc]))
 | true =>
  refine ar G ?_
  have hp:iy s 10 64=some (match parseIntB 64 s with | .ok v=>(v,false) | .range=>(intSat 64 s,true) | _=>(0,true)):=by
   unfold iy
   exact bT ⟨Z,Z,by omega⟩
  rw [Ei s hc] at hp
  have e:rl s=(if -iQ≤mU s∧mU s≤iQ then (mU s,0) else (0,5)):=by simp [rl,hc]
  rw [e]
  by_cases hr:(if pu s=true then 9223372036854775808 < fS 0 (digits s) else 9223372036854775808≤fS 0 (digits s))
  ·rw [if_pos hr] at hp
   refine ap _ (aR hp Z) ?_
   refine ap true (av Z (aa Z)) (av Z (aa ?_))
   rw [if_neg]
   unfold mU iQ
   cases hn:pu s with
   | true=>rw [hn,if_pos rfl] at hr; rw [if_pos rfl]; omega
   | false=>rw [hn,if_neg G] at hr; rw [if_neg G]; omega
  ·rw [if_neg hr] at hp
   refine ap _ (aR hp Z) ?_
   refine ap (!decide (-iQ≤mU s∧mU s≤iQ)) ?_ ?_
   ·exact ar G (ap _ (aR (EU _) Z) (aa Z))
   ·by_cases q:-iQ≤mU s∧mU s≤iQ
    ·rw [if_pos q]
     exact ar (by simp [q]) (aa Z)
    ·rw [if_neg q]
     exact av (by simp only [q,decide_false,Bool.not_false]) (aa Z)
theorem wu:∀ (n u:Nat),u < n→fS 0 (decDigits u)=u∧(decDigits u).all dI=true∧decDigits u≠[]∧((decDigits u).getD 0 0≠48∨(decDigits u).length=1)∧(1≤u→(decDigits u).getD 0 0≠48):=by
 intro n
 induction n with
 | zero=>intro u h; omega
 | succ n ih =>
  intro u hu
  have hdig:∀ k,k < 10→(UInt8.ofNat (48+k)).toNat=48+k:=λ k hk=>by
   rw [UInt8.toNat_ofNat']; omega
  rw [decDigits]
  by_cases h:u < 10
  ·rw [dif_pos h]
   have:=hdig u h
   refine ⟨by rw [pj,mJ,this]; omega,by simp only [List.all_cons,List.all_nil,Bool.and_true,iW,this]; omega,by simp,.inr Z,λ h1=>?_⟩
   intro q
   have q':(UInt8.ofNat (48+u))=48:=q
   rw [q'] at this
   have:(48:UInt8).toNat=48:=rfl
   omega
  ·rw [dif_neg h]
   obtain ⟨a1,a2,a3,a4,a5⟩:=ih (u / 10) O
   have hd:=hdig (u % 10) O
   have hh:(decDigits (u / 10)++[UInt8.ofNat (48+u % 10)]).getD 0 0=(decDigits (u / 10)).getD 0 0:=by
    cases hx:decDigits (u / 10) with
    | nil=>exact absurd hx a3
    | cons c r=>rfl
   refine ⟨?_,?_,by simp,?_,?_⟩
   ·rw [qT,a1,hd]; omega
   ·rw [List.all_append,a2]; simp only [List.all_cons,List.all_nil,Bool.and_true,Bool.true_and,iW,hd]; omega
   ·rw [hh]; exact .inl (a5 O)
   ·rw [hh]; exact λ _=>a5 O
theorem si:∀ (n:Nat) (l:Bytes),l.length≤n→p7 l=true→decDigits (fS 0 l)=l∧(l.getD 0 0≠48→1≤fS 0 l):=by
 intro n
 induction n with
 | zero=>intro l hl h; have:=((jV l).1 h).1; cases l <;> simp_all
 | succ n ih =>
  intro l hl h
  obtain ⟨h1,h2,h3⟩:=(jV l).1 h
  have hof:∀ b:UInt8,48≤b.toNat→UInt8.ofNat (48+(b.toNat - 48))=b:=λ b hb=>by
   rw [show 48+(b.toNat - 48)=b.toNat by omega]; simp
  rcases List.eq_nil_or_concat l with rfl | ⟨m,b,rfl⟩
  ·exact absurd Z h1
  ·simp only [List.concat_eq_append] at *
   have hb:=ko h2 (b:=b) G
   rw [qT]
   by_cases hm:m=[]
   ·subst hm
    rw [mJ,decDigits,dif_pos O]
    refine ⟨by simp [hof b hb.1],λ q=>?_⟩
    have q:b≠48:=q
    have:b.toNat≠48:=λ k=>q (UInt8.toNat_inj.1 k)
    omega
   ·have hcm:p7 m=true:=by
     rw [jV]
     refine ⟨hm,?_,?_⟩
     ·rw [List.all_append,Bool.and_eq_true] at h2; exact h2.1
     ·rcases h3 with q | q
      ·left
       cases m with
       | nil=>exact absurd Z hm
       | cons c r=>exact q
      ·cases m with
       | nil=>exact absurd Z hm
       | cons c r=>simp at q
    obtain ⟨i1,i2⟩:=ih m (by simp at hl; omega) hcm
    have hne:m.getD 0 0≠48:=by
     rcases h3 with q | q
     ·cases m with
      | nil=>exact absurd Z hm
      | cons c r=>exact q
     ·cases m with
      | nil=>exact absurd Z hm
      | cons c r=>simp at q
    have hpos:=i2 hne
    refine ⟨?_,λ _=>by omega⟩
    rw [decDigits,dif_neg O]
    rw [show (fS 0 m*10+(b.toNat - 48)) / 10=fS 0 m by omega,show (fS 0 m*10+(b.toNat - 48)) % 10=b.toNat - 48 by omega,i1,hof b hb.1]
theorem zx (v:Int)(h0:0≤v)(h1:v≤iQ):rl (itoa v)=(v,0):=by
 obtain ⟨u,rfl⟩:∃ u:Nat,v=u:=⟨v.toNat,by omega⟩
 have e:itoa (u:Int)=decDigits u:=by unfold itoa; rw [if_neg O]; simp
 obtain ⟨a1,a2,a3,a4,a5⟩:=wu (u+1) u O
 have hn:pu (decDigits u)=false:=by
  rw [← Bool.not_eq_true]
  intro q
  simp only [pu,Bool.and_eq_true,decide_eq_true_eq] at q
  have hm:(decDigits u).getD 0 0∈decDigits u:=by
   rw [List.getD_eq_getElem?_getD,List.getElem?_eq_getElem q.1]; exact List.getElem_mem _
  have:=ko a2 hm
  rw [q.2] at this
  have:(45:UInt8).toNat=45:=rfl
  omega
 have hd:digits (decDigits u)=decDigits u:=by simp [digits,hn]
 have hc:qf (decDigits u)=true:=by
  simp only [qf,hn,hd,Bool.false_and,Bool.not_false,Bool.true_and]
  exact (jV _).2 ⟨a3,a2,a4⟩
 have hv:mU (decDigits u)=u:=by simp [mU,hn,hd,a1]
 rw [e,rl,if_pos hc,hv,if_pos ⟨by unfold iQ at *; omega,h1⟩]
theorem zZ (s:Bytes)(v:Int)(h:rl s=(v,0))(h0:0≤v):itoa v=s∧v≤iQ:=by
 unfold rl at h
 split at h
 ·rename_i hc
  split at h
  ·rename_i hr
   have hv:mU s=v:=congrArg Prod.fst h
   obtain ⟨h1,h2⟩:=sj hc
   simp only [qf,Bool.and_eq_true] at hc
   have hb:=(si _ (digits s) (Nat.le_refl _) hc.2)
   have hcn:=(jV _).1 hc.2
   cases hn:pu s with
   | true =>
    exfalso
    have hv2:mU s=-(fS 0 (digits s):Int):=by simp [mU,hn]
    have hz:fS 0 (digits s)=0:=by omega
    have:decDigits 0=digits s:=by rw [← hz]; exact hb.1
    rw [decDigits,dif_pos O] at this
    have hd:digits s=s.drop 1:=by simp [digits,hn]
    rw [hd] at this
    have h48:s.drop 1=[48]:=this.symm
    simp [hn,h48] at hc
   | false =>
    have hd:digits s=s:=by simp [digits,hn]
    have hv2:mU s=(fS 0 s:Int):=by simp [mU,hn,hd]
    rw [hd] at hb
    refine ⟨?_,by rw [← hv]; exact hr.2⟩
    rw [← hv,hv2]
    unfold itoa
    rw [if_neg O]
    simpa using hb.1
  ·have:=congrArg Prod.snd h; simp at this
 ·have:=congrArg Prod.snd h; simp at this
end Go.Ab.R06
namespace Go.Ab.R06
open Go.Ab Go.Ab.RB Go.Lib
theorem qE (x:Int):IntKind.wrap .u8 x=x % 256:=by simp [IntKind.wrap,IntKind.bits,IntKind.signed]
theorem wrap32 (x:Int):IntKind.wrap .u32 x=x % 4294967296:=by simp [IntKind.wrap,IntKind.bits,IntKind.signed]
theorem shr6 (x:Int):cR .i32 x 6=x / 64:=by
 show x.fdiv (2 ^ 6)=x / 64
 rw [Int.fdiv_eq_ediv_of_nonneg _ (by decide)]; rfl
theorem Ft (x:Int):cR .i32 x 12=x / 4096:=by
 show x.fdiv (2 ^ 12)=x / 4096
 rw [Int.fdiv_eq_ediv_of_nonneg _ (by decide)]; rfl
theorem FG (x:Int):cR .i32 x 18=x / 262144:=by
 show x.fdiv (2 ^ 18)=x / 262144
 rw [Int.fdiv_eq_ediv_of_nonneg _ (by decide)]; rfl
theorem t63:(List.range 256).all (λ n=>bG .u8 (n:Int) 63 == ((n % 64:Nat):Int))=true:=by kernel_rfl
theorem t128:(List.range 64).all (λ n=>iOr .u8 128 (n:Int) == ((128+n:Nat):Int))=true:=by kernel_rfl
theorem t192:(List.range 32).all (λ n=>iOr .u8 192 (n:Int) == ((192+n:Nat):Int))=true:=by kernel_rfl
theorem t224:(List.range 16).all (λ n=>iOr .u8 224 (n:Int) == ((224+n:Nat):Int))=true:=by kernel_rfl
theorem t240:(List.range 8).all (λ n=>iOr .u8 240 (n:Int) == ((240+n:Nat):Int))=true:=by kernel_rfl
theorem tab {f g:Nat→Int}{m:Nat}(h:(List.range m).all (λ n=>f n == g n)=true)(n:Nat)(hn:n < m):f n=g n:=eq_of_beq (List.all_eq_true.1 h n (List.mem_range.2 hn))
theorem Cw (x:Int):bG .u8 (IntKind.wrap .u8 x) 63=x % 64:=by
 rw [qE]
 obtain ⟨n,hn⟩:∃ n:Nat,x % 256=n:=⟨(x % 256).toNat,by omega⟩
 rw [hn,tab t63 n O]; omega
theorem CK {x:Int}(h0:0≤x)(h1:x < 64):iOr .u8 128 x=128+x:=by
 obtain ⟨n,rfl⟩:∃ n:Nat,x=n:=⟨x.toNat,by omega⟩
 rw [tab t128 n O]; omega
theorem Fz {x:Int}(h0:0≤x)(h1:x < 32):iOr .u8 192 x=192+x:=by
 obtain ⟨n,rfl⟩:∃ n:Nat,x=n:=⟨x.toNat,by omega⟩
 rw [tab t192 n O]; omega
theorem FB {x:Int}(h0:0≤x)(h1:x < 16):iOr .u8 224 x=224+x:=by
 obtain ⟨n,rfl⟩:∃ n:Nat,x=n:=⟨x.toNat,by omega⟩
 rw [tab t224 n O]; omega
theorem FK {x:Int}(h0:0≤x)(h1:x < 8):iOr .u8 240 x=240+x:=by
 obtain ⟨n,rfl⟩:∃ n:Nat,x=n:=⟨x.toNat,by omega⟩
 rw [tab t240 n O]; omega
def fU (r:Int):Prop:=(0≤r∧r < 55296)∨(57343 < r∧r≤1114111)
theorem xt (p:Bytes)(r:Int)(h:fU r)(hp:p.length≤100000000000):ed p r=some (p++encodeRune r):=by
 have h0:0≤r∧r≤1114111:=by unfold fU at h; omega
 have hw:IntKind.wrap .u32 r=r:=by rw [wrap32]; omega
 unfold ed
 rw [hw]
 by_cases h1:r≤127
 ·have hw8:IntKind.wrap .u8 r=r:=by rw [qE]; omega
  rw [if_pos h1,hw8,bT O,bT (by simp; omega)]
  simp only [encodeRune,encodeRuneZ,if_pos (show 0≤r∧r≤127 from ⟨h0.1,h1⟩),List.map_cons,List.map_nil,u8]
 rw [if_neg h1]
 unfold dr
 rw [hw,Cw,shr6,Ft,FG,Cw,Cw]
 have o1:iOr .u8 128 (r % 64)=128+r % 64:=CK O O
 have o2:iOr .u8 128 (r / 64 % 64)=128+r / 64 % 64:=CK O O
 have o3:iOr .u8 128 (r / 4096 % 64)=128+r / 4096 % 64:=CK O O
 rw [o1,o2,o3]
 have n1:¬ (0≤r∧r≤127):=by omega
 by_cases h2:r≤2047
 ·have hw8:IntKind.wrap .u8 (r / 64)=r / 64:=by rw [qE]; omega
  rw [if_pos h2,hw8,Fz O O,bT O,bT O,bT O,bT (by simp; omega)]
  simp only [encodeRune,encodeRuneZ,if_neg n1,if_pos (show 128≤r∧r≤2047 by omega),List.map_cons,List.map_nil,u8,Option.bind_some]
 rw [if_neg h2]
 have n2:¬ (128≤r∧r≤2047):=by omega
 by_cases h3:r < 55296∨(57343 < r∧r≤65535)
 ·have hw8:IntKind.wrap .u8 (r / 4096)=r / 4096:=by rw [qE]; omega
  have e:((if r < 55296 then some true else if 57343 < r then some (decide (r≤65535)) else some false):Option Bool)=some true:=by
   rcases h3 with q | q
   ·rw [if_pos q]
   ·rw [if_neg O,if_pos q.1]; simp [q.2]
  rw [e,Option.bind_some,if_pos rfl,hw8,FB O O,bT O,bT O,bT O,bT O,bT O,bT (by simp; omega)]
  simp only [encodeRune,encodeRuneZ,if_neg n1,if_neg n2,if_pos (show (2048≤r∧r < 55296)∨(57343 < r∧r≤65535) by omega),List.map_cons,List.map_nil,u8,Option.bind_some]
 ·have h4:65535 < r:=by unfold fU at h; omega
  have hw8:IntKind.wrap .u8 (r / 262144)=r / 262144:=by rw [qE]; omega
  have e:((if r < 55296 then some true else if 57343 < r then some (decide (r≤65535)) else some false):Option Bool)=some false:=by
   rw [if_neg O,if_pos O]; simp; omega
  have e2:((if 65535 < r then some (decide (r≤1114111)) else some false):Option Bool)=some true:=by rw [if_pos h4]; simp; omega
  rw [e,Option.bind_some,if_neg G,e2,Option.bind_some,if_pos rfl,hw8,FK O O,bT O,bT O,bT O,bT O,bT O,bT O,bT O,bT (by simp; omega)]
  simp only [encodeRune,encodeRuneZ,if_neg n1,if_neg n2,if_neg (show ¬ ((2048≤r∧r < 55296)∨(57343 < r∧r≤65535)) by omega),if_pos (show 65536≤r∧r≤1114111 by omega),List.map_cons,List.map_nil,u8,Option.bind_some]
theorem jh (l:Bytes)(h:l≠[]):decodeGo (str l)=decodeL l:=by
 unfold decodeGo
 rw [if_neg]
 ·rfl
 ·rw [io]; intro q; exact h (List.length_eq_zero_iff.1 q)
theorem l8 (r:Int)(h:fU r):1≤(encodeRune r).length∧(encodeRune r).length≤4:=by
 unfold encodeRune encodeRuneZ
 rw [List.length_map]
 repeat' split
 all_goals simp
theorem yT (r:Int)(h:fU r)(t:Bytes):decodeL (encodeRune r++t)=(r.toNat,(encodeRune r).length):=by
 have h0:0≤r∧r≤1114111:=by unfold fU at h; omega
 have hb:∀ x:Int,0≤x→x < 256→(x.toNat.toUInt8).toNat=x.toNat:=λ x a b=>by
  show (UInt8.ofNat x.toNat).toNat=_
  rw [UInt8.toNat_ofNat']; omega
 rw [decodeL_N]
 by_cases h1:r≤127
 ·have e:encodeRune r=[r.toNat.toUInt8]:=by simp only [encodeRune,encodeRuneZ,if_pos (show 0≤r∧r≤127 from ⟨h0.1,h1⟩),List.map_cons,List.map_nil]
  rw [e]
  have b0:=hb r O O
  simp only [List.cons_append,List.getD_cons_zero,b0]
  unfold decodeN
  rw [if_pos O]; rfl
 have n1:¬ (0≤r∧r≤127):=by omega
 by_cases h2:r≤2047
 ·have e:encodeRune r=[(192+r / 64).toNat.toUInt8,(128+r % 64).toNat.toUInt8]:=by
   simp only [encodeRune,encodeRuneZ,if_neg n1,if_pos (show 128≤r∧r≤2047 by omega),List.map_cons,List.map_nil]
  rw [e]
  have b0:=hb (192+r / 64) O O
  have b1:=hb (128+r % 64) O O
  simp only [List.cons_append,List.getD_cons_zero,List.getD_cons_succ,b0,b1,List.length_cons,List.nil_append]
  unfold decodeN
  rw [if_neg O,if_pos O,if_pos O]
  refine Prod.ext ?_ Z
  show _=r.toNat
  simp only; omega
 have n2:¬ (128≤r∧r≤2047):=by omega
 by_cases h3:r < 55296∨(57343 < r∧r≤65535)
 ·have e:encodeRune r=[(224+r / 4096).toNat.toUInt8,(128+r / 64 % 64).toNat.toUInt8,(128+r % 64).toNat.toUInt8]:=by
   simp only [encodeRune,encodeRuneZ,if_neg n1,if_neg n2,if_pos (show (2048≤r∧r < 55296)∨(57343 < r∧r≤65535) by omega),List.map_cons,List.map_nil]
  rw [e]
  have b0:=hb (224+r / 4096) O O
  have b1:=hb (128+r / 64 % 64) O O
  have b2:=hb (128+r % 64) O O
  simp only [List.cons_append,List.getD_cons_zero,List.getD_cons_succ,b0,b1,b2,List.length_cons,List.nil_append]
  unfold decodeN
  rw [if_neg O,if_neg O,if_pos O,if_pos O]
  refine Prod.ext ?_ Z
  show _=r.toNat
  simp only; omega
 ·have h4:65535 < r:=by unfold fU at h; omega
  have e:encodeRune r=[(240+r / 262144).toNat.toUInt8,(128+r / 4096 % 64).toNat.toUInt8,(128+r / 64 % 64).toNat.toUInt8,(128+r % 64).toNat.toUInt8]:=by
   simp only [encodeRune,encodeRuneZ,if_neg n1,if_neg n2,if_neg (show ¬ ((2048≤r∧r < 55296)∨(57343 < r∧r≤65535)) by omega),if_pos (show 65536≤r∧r≤1114111 by omega),List.map_cons,List.map_nil]
  rw [e]
  have b0:=hb (240+r / 262144) O O
  have b1:=hb (128+r / 4096 % 64) O O
  have b2:=hb (128+r / 64 % 64) O O
  have b3:=hb (128+r % 64) O O
  simp only [List.cons_append,List.getD_cons_zero,List.getD_cons_succ,b0,b1,b2,b3,List.length_cons,List.nil_append]
  unfold decodeN
  rw [if_neg O,if_neg O,if_neg O,if_pos O,if_pos O]
  refine Prod.ext ?_ Z
  show _=r.toNat
  simp only; omega
theorem uY (r:Int)(h:fU r)(t:Bytes):validD (encodeRune r++t)=validD t:=by
 have hl:=l8 r h
 have hne:encodeRune r++t≠[]:=by
  intro q; rw [List.append_eq_nil_iff] at q; rw [q.1] at hl; simp at hl
 rw [validD_step _ hne,yT r h t,if_neg]
 ·simp
 ·rintro ⟨a,b⟩
  have hr:r=65533:=by omega
  subst hr
  simp [encodeRune,encodeRuneZ] at b
theorem lv (l:Bytes)(h:l≠[]):1≤(decodeL l).2∧(decodeL l).2≤l.length∧(¬ ((decodeL l).1=65533∧(decodeL l).2=1)→fU ((decodeL l).1:Int)∧encodeRune ((decodeL l).1:Int)=l.take (decodeL l).2):=by
 have hl:0 < l.length:=List.length_pos_iff.2 h
 have hd:=DD l.length (l.getD 0 0).toNat (l.getD 1 0).toNat (l.getD 2 0).toNat (l.getD 3 0).toNat O (UInt8.toNat_lt _)
 rw [← decodeL_N] at hd
 refine ⟨hd.1,hd.2.1,λ q=>⟨?_,encode_decode l h q⟩⟩
 have:=hd.2.2.2.2.2
 unfold fU; omega
theorem uk (l:Bytes)(h:l≠[]):validD l=true↔¬ ((decodeL l).1=65533∧(decodeL l).2=1)∧validD (l.drop (decodeL l).2)=true:=by
 rw [validD_step l h]
 by_cases q:(decodeL l).1=65533∧(decodeL l).2=1
 ·simp [q]
 ·simp [q]
end Go.Ab.R06
namespace Go.Ab.R06
open Go.Ab Go.Ab.RB Go.Lib
theorem xS (f x:Bytes)(h:f.length+x.length≤100000000000):bb (aF.mk f) x=some ((x.length:Int),false,aF.mk (f++x)):=by
 unfold bb cp
 rw [Option.bind_some,bT (by simp only; omega)]
theorem xr (f:Bytes)(b:UInt8)(h:f.length≤100000000000):bO (aF.mk f) (b.toNat:Int)=some (false,aF.mk (f++[b])):=by
 have:=b.toNat_lt
 unfold bO cp
 rw [Option.bind_some,bT O,bT (by simp; omega),Cu]
theorem D9 (f:Bytes)(r:Int)(hr:fU r)(h:f.length≤10000000000):dF (aF.mk f) r=some (((encodeRune r).length:Int),false,aF.mk (f++encodeRune r)):=by
 have hl:=l8 r hr
 unfold dF cp
 rw [Option.bind_some,xt f r hr O,Option.bind_some]
 have e:((f++encodeRune r).length:Int) - (f.length:Int)=(encodeRune r).length:=by rw [List.length_append]; omega
 rw [e,bT (aU O O)]
theorem E8 (f:Bytes)(h:f.length≤1000000000000):dC (aF.mk f)=some (f,aF.mk f):=by
 unfold dC
 rw [bT (by simp only; omega)]
def f0 (b:UInt8):Bytes :=
 if b.toNat=10 then [92,110] else if b.toNat=13 then [92,114] else if b.toNat=9 then [92,116]
 else if b.toNat=34∨b.toNat=92 then [92,b] else if b.toNat < 32∨b.toNat=127 then [92,117,123]++dM b.toNat++[125] else [b]
def dZ (s:Bytes):Bytes:=34::(s.flatMap f0++[34])
theorem zf {b:UInt8}(h:b.toNat=10):f0 b=[92,110]:=by unfold f0; rw [if_pos h]
theorem yE {b:UInt8}(h:b.toNat=13):f0 b=[92,114]:=by unfold f0; rw [if_neg O,if_pos h]
theorem zk {b:UInt8}(h:b.toNat=9):f0 b=[92,116]:=by unfold f0; rw [if_neg O,if_neg O,if_pos h]
theorem Bm {b:UInt8}(h:b.toNat=34∨b.toNat=92):f0 b=[92,b]:=by unfold f0; rw [if_neg O,if_neg O,if_neg O,if_pos h]
theorem yW {b:UInt8}(h1:b.toNat≠10)(h2:b.toNat≠13)(h3:b.toNat≠9)(h:b.toNat < 32∨b.toNat=127):f0 b=[92,117,123]++dM b.toNat++[125]:=by
 unfold f0; rw [if_neg h1,if_neg h2,if_neg h3,if_neg O,if_pos h]
theorem xj {b:UInt8}(h1:b.toNat≠34)(h2:b.toNat≠92)(h:¬ (b.toNat < 32∨b.toNat=127)):f0 b=[b]:=by
 unfold f0; rw [if_neg O,if_neg O,if_neg O,if_neg O,if_neg h]
theorem oO (n:Nat):1≤(dM n).length∧(dM n).length≤2:=by
 unfold dM; split <;> simp
theorem qb (b:UInt8):1≤(f0 b).length∧(f0 b).length≤6:=by
 have:=oO b.toNat
 unfold f0
 repeat' split
 all_goals (simp; try omega)
theorem tR (s:Bytes):s.length≤(s.flatMap f0).length∧(s.flatMap f0).length≤6*s.length:=by
 induction s with
 | nil=>simp
 | cons b r ih=>have:=qb b; simp only [List.flatMap_cons,List.length_append,List.length_cons]; omega
theorem BB (s:Bytes)(hs:s.length≤1000000000):∀ (k i:Nat) (f:Bytes),i+k=s.length→f.length≤6*i+1→Ev2 (λ _ m=>cV s m (i:Int) f) (·=f++(s.drop i).flatMap f0):=by
 intro k
 induction k with
 | zero =>
  intro i f hi hf
  refine aJ ?_
  simp only [cV]
  refine ar O (aa ?_)
  rw [List.drop_of_length_le O]; simp
 | succ k ih =>
  intro i f hi hf
  refine aJ ?_
  simp only [cV]
  refine av O (af O ?_)
  have hb:byt s i=((s.getD i 0).toNat:Int):=d5 s i
  rw [hb]
  have hd:s.drop i=s.getD i 0::s.drop (i+1):=by
   rw [List.getD_eq_getElem?_getD,List.getElem?_eq_getElem O,Option.getD_some]
   exact List.drop_eq_getElem_cons O
  rw [hd,List.flatMap_cons]
  generalize s.getD i 0=b
  have hbl:=b.toNat_lt
  have he:=qb b
  refine ap (f++f0 b) ?_ ?_
  ·refine aB (λ h1=>?_) (λ h1=>aB (λ h2=>?_) (λ h2=>aB (λ h3=>?_) (λ h3=>?_)))
   ·rw [zf O]
    exact ap _ (aR (xS f [92,110] (by simp only [List.length_cons,List.length_nil]; omega)) Z) (aa Z)
   ·rw [yE O]
    exact ap _ (aR (xS f [92,114] (by simp only [List.length_cons,List.length_nil]; omega)) Z) (aa Z)
   ·rw [zk O]
    exact ap _ (aR (xS f [92,116] (by simp only [List.length_cons,List.length_nil]; omega)) Z) (aa Z)
   refine ap (decide (b.toNat=34∨b.toNat=92)) ?_ ?_
   ·by_cases h:b.toNat=34
    ·exact av O (aa (by simp [h]))
    ·exact ar O (aa (eqB (by rw [decide_eq_true_eq,decide_eq_true_eq]; omega)))
   by_cases h4:b.toNat=34∨b.toNat=92
   ·rw [Bm h4]
    refine av (by simp [h4]) ?_
    refine ap _ (aR (xr f 92 O) Z) (ap _ (aR (xr (f++[92]) b (by simp only [List.length_append,List.length_cons,List.length_nil]; omega)) Z) (aa ?_))
    simp
   refine ar (by simp only [decide_eq_true_eq]; exact h4) ?_
   refine ap (decide (b.toNat < 32∨b.toNat=127)) ?_ ?_
   ·by_cases h:b.toNat < 32
    ·exact av O (aa (by simp [h]))
    ·exact ar O (aa (eqB (by rw [decide_eq_true_eq,decide_eq_true_eq]; omega)))
   by_cases h5:b.toNat < 32∨b.toNat=127
   ·rw [yW O O O h5]
    refine av (by simp [h5]) (af (aU O O) ?_)
    have hx:ii (b.toNat:Int) 16=some (dM b.toNat):=by
     unfold ii
     rw [bT ⟨rfl,by omega,by omega⟩]; rfl
    have hxl:=oO b.toNat
    refine ap _ (aR hx Z) (af (by simp only [List.length_cons,List.length_nil]; omega) (af (by simp only [List.length_append,List.length_cons,List.length_nil]; omega) ?_))
    exact ap _ (aR (xS f _ (by simp only [List.length_append,List.length_cons,List.length_nil]; omega)) Z) (aa G)
   ·rw [xj O O  h5]
    refine ar (by simp only [decide_eq_true_eq]; exact h5) ?_
    exact ap _ (aR (xr f b O) Z) (aa Z)
  ·refine af (aU O O) ?_
   have:=ih (i+1) (f++f0 b) O (by rw [List.length_append]; omega)
   rw [Int.natCast_add,Int.natCast_one] at this
   simpa using this
theorem tB (s:Bytes)(hs:s.length≤1000000000):Ev2 (λ n _=>fj n s) (·=dZ s):=by
 simp only [fj]
 have hf:=tR s
 refine ap _ (aR (xr [] 34 G) Z) ?_
 have l:=BB s hs s.length 0 [34] O G
 rw [List.drop_zero] at l
 refine ap _ (a8 l) ?_
 refine ap _ (aR (xr _ 34 (by simp only [List.length_append,List.length_cons,List.length_nil]; omega)) Z) (ap _ (aR (E8 _ (by simp only [List.length_append,List.length_cons,List.length_nil]; omega)) Z) (aa ?_))
 simp [dZ]
theorem Es (s:Bytes):jK s=some (decide (s.length≤4096)&&validD s):=by
 unfold jK
 by_cases h:(s.length:Int)≤4096
 ·have hv:eF s=some (validD s):=by unfold eF; exact bT O
  rw [if_pos h,hv]
  simp; omega
 ·rw [if_neg h]
  simp; intro q; omega
end Go.Ab.R06
namespace Go.Ab.R06
open Go.Ab Go.Ab.RB Go.Lib
def rM (b:UInt8):Option Nat:=if 48≤b.toNat∧b.toNat≤57 then some (b.toNat - 48) else if 97≤b.toNat∧b.toNat≤102 then some (b.toNat - 87) else none
def C1:Bytes:=[48,49,50,51,52,53,54,55,56,57,97,98,99,100,101,102]
theorem hexT:(List.range 256).all (λ n=>indexByte C1 (UInt8.ofNat n) == (match rM (UInt8.ofNat n) with | some d=>(d:Int) | none=>-1))=true:=by kernel_rfl
theorem zy (b:UInt8):indexByte C1 b=match rM b with | some d=>(d:Int) | none=>-1:=by
 have:=eq_of_beq (List.all_eq_true.1 hexT b.toNat (List.mem_range.2 b.toNat_lt))
 simpa using this
theorem y9 {b:UInt8}{d:Nat}(h:rM b=some d):d < 16:=by
 unfold rM at h
 split at h
 ·cases h; omega
 ·split at h
  ·cases h; omega
  ·cases h
def dx:Nat→Bytes→Nat→Nat×Nat
 | 0,_,a=>(a,0)
 | _+1,[],a=>(a,0)
 | k+1,b::r,a=>match rM b with
  | some d=>((dx k r (16*a+d)).1,(dx k r (16*a+d)).2+1)
  | none=>(a,0)
theorem o0:∀ (k:Nat) (l:Bytes) (a:Nat),(dx k l a).2≤k∧(dx k l a).2≤l.length
 | 0,_,_=>⟨Nat.le_refl _,Nat.zero_le _⟩
 | _+1,[],_=>⟨Nat.zero_le _,Nat.le_refl _⟩
 | k+1,b::r,a=>by
  unfold dx
  cases rM b with
  | none=>exact ⟨Nat.zero_le _,Nat.zero_le _⟩
  | some d=>have:=o0 k r (16*a+d); simp only [List.length_cons]; omega
theorem pn (n:Int)(h0:0≤n)(h1:n < 2147483648):IntKind.wrap .i32 n=n:=by
 simp [IntKind.wrap,IntKind.bits,IntKind.signed]
 omega
theorem Ee (s:Bytes)(hs:s.length≤1000000000):∀ (k i a:Nat),i+k=6→i≤s.length→a < 16 ^ i→Ev2 (λ _ m=>bQ s m (a:Int) (i:Int))
  (·=(((dx k (s.drop i) a).1:Int),((i+(dx k (s.drop i) a).2:Nat):Int))):=by
 intro k
 induction k with
 | zero =>
  intro i a hi hl ha
  refine aJ ?_
  simp only [bQ]
  refine ap false ?_ (ar G (aa (by simp [dx])))
  exact aB (λ h=>aa (by simp; omega)) (λ h=>aa Z)
 | succ k ih =>
  intro i a hi hl ha
  refine aJ ?_
  simp only [bQ]
  by_cases h:i < s.length
  ·refine ap true (av O (aa (by simp; omega))) (av Z (af O ?_))
   have hb:byt s i=((s.getD i 0).toNat:Int):=d5 s i
   rw [hb]
   have hd:s.drop i=s.getD i 0::s.drop (i+1):=by
    rw [List.getD_eq_getElem?_getD,List.getElem?_eq_getElem h,Option.getD_some]
    exact List.drop_eq_getElem_cons h
   rw [hd]
   generalize s.getD i 0=b
   have hx:strings_IndexByte ([48,49,50,51,52,53,54,55,56,57,97,98,99,100,101,102]:Bytes) (b.toNat:Int)=some (indexByte C1 b):=by
    unfold strings_IndexByte
    have:((b.toNat:Int).toNat.toUInt8)=b:=by simp
    rw [this]; rfl
   refine ap _ (aR hx Z) ?_
   rw [zy]
   unfold dx
   cases hh:rM b with
   | none=>exact av (by decide) (aa G)
   | some d =>
    have hlt:=y9 hh
    have hp:16 ^ i≤16 ^ 5:=Nat.pow_le_pow_right (by decide) O
    have hp5:(16:Nat) ^ 5=1048576:=rfl
    refine ar G (af (aU O O) ?_)
    have e1:IntKind.wrap .i32 (16*(a:Int))=16*(a:Int):=pn _ O O
    have e2:IntKind.wrap .i32 (d:Int)=(d:Int):=pn _ O O
    have e3:IntKind.wrap .i32 (16*(a:Int)+(d:Int))=((16*a+d:Nat):Int):=by
     rw [pn _ O O]; omega
    rw [e1,e2,e3]
    have:=ih (i+1) (16*a+d) O O  (by rw [Nat.pow_succ]; omega)
    rw [show (((i+1:Nat)):Int)=(i:Int)+1 by omega] at this
    refine fP this λ r hr=>?_
    rw [hr]
    refine Prod.ext Z ?_
    show ((i+1+_:Nat):Int)=((i+(_+1):Nat):Int)
    omega
  ·refine ap false (ar O (aa Z)) (ar G (aa ?_))
   rw [List.drop_of_length_le O]
   simp [dx]
def jB (s:Bytes):Int×Int×Int :=
 let h:=dx 6 s 0
 if h.2=s.length then (0,0,40)
 else if s.getD h.2 0≠125∨h.2=0∨(1 < h.2∧s.getD 0 0=48)∨validRune (h.1:Int)=false then (0,0,2)
 else ((h.1:Int),((h.2+1:Nat):Int),0)
theorem lJ {b:UInt8}{n:Nat}(hn:n < 256):b.toNat=n↔b=UInt8.ofNat n:=by
 constructor
 ·intro h; apply UInt8.toNat_inj.1; rw [h,UInt8.toNat_ofNat']; omega
 ·intro h; rw [h,UInt8.toNat_ofNat']; omega
theorem s5 {s:Bytes}{v c:Nat}(h:dx 6 s 0=(v,c)):jB s=if c=s.length then (0,0,40) else if s.getD c 0≠125∨c=0∨(1 < c∧s.getD 0 0=48)∨validRune (v:Int)=false then (0,0,2) else ((v:Int),((c+1:Nat):Int),0):=by
 unfold jB; rw [h]
theorem DJ (s:Bytes)(hs:s.length≤1000000000):Ev2 (λ n _=>cN n s) (·=jB s):=by
 simp only [cN]
 have l:=Ee s hs 6 0 0 Z (Nat.zero_le _) (by decide)
 rw [List.drop_zero,Nat.zero_add] at l
 have hle:=o0 6 s 0
 refine ap _ (a8 l) ?_
 obtain ⟨v,c,hh⟩:∃ v c,dx 6 s 0=(v,c):=⟨_,_,rfl⟩
 have hP:=s5 hh
 rw [hh] at hle ⊢
 simp only at hle ⊢
 refine aB (λ h=>aa ?_) (λ h=>?_)
 ·rw [hP,if_pos O]
 rw [if_neg (show ¬ c=s.length by omega)] at hP
 have hb:byt s c=((s.getD c 0).toNat:Int):=d5 s c
 have hb0:byt s 0=((s.getD 0 0).toNat:Int):=d5 s 0
 have h125:(s.getD c 0).toNat=125↔s.getD c 0=125:=lJ (by decide)
 have h48:(s.getD 0 0).toNat=48↔s.getD 0 0=48:=lJ (by decide)
 have hv:dB (v:Int)=some (validRune (v:Int)):=rfl
 have key:Ev2 (λ _ _=>(ck ((0:Int)≤(c:Int)∧(c:Int) < (s.length:Int)) <|
  if byt s c=125 then
   if (c:Int)=0 then some true
   else
   if 1 < (c:Int) then
    ck ((0:Int)≤0∧0 < (s.length:Int)) <|
    if byt s 0=48 then some true
    else (dB (v:Int)).bind λ r32=>some (!r32)
   else (dB (v:Int)).bind λ r34=>some (!r34)
  else some true:Option Bool)) (·=decide (s.getD c 0≠125∨c=0∨(1 < c∧s.getD 0 0=48)∨validRune (v:Int)=false)):=by
  refine af O ?_
  rw [hb,hb0]
  refine aB (λ h1=>aB (λ h2=>aa ?_) (λ h2=>aB (λ h3=>af O (aB (λ h4=>aa ?_) (λ h4=>?_))) (λ h3=>?_))) (λ h1=>aa ?_)
  ·symm; rw [decide_eq_true_eq]; right; left; omega
  ·symm; rw [decide_eq_true_eq]; right; right; left; exact ⟨by omega,h48.1 O⟩
  ·have q1:¬ s.getD c 0≠125:=λ q=>q (h125.1 O)
   have q2:¬ (1 < c∧s.getD 0 0=48):=λ q=>h4 (by have:=h48.2 q.2; omega)
   refine ap _ (aR hv Z) (aa (eqB ?_))
   rw [decide_eq_true_eq]
   have:¬ c=0:=by omega
   simp only [q1,q2,false_or,this,Bool.not_eq_true']
  ·have q1:¬ s.getD c 0≠125:=λ q=>q (h125.1 O)
   refine ap _ (aR hv Z) (aa (eqB ?_))
   rw [decide_eq_true_eq]
   have a1:¬ c=0:=by omega
   have a2:¬ 1 < c:=by omega
   simp only [q1,a1,a2,false_or,false_and,Bool.not_eq_true']
  ·symm; rw [decide_eq_true_eq]; left; intro q; exact h1 (by have:=h125.2 q; omega)
 refine ap _ key ?_
 refine aB (λ h1=>aa ?_) (λ h1=>af (aU O O) (aa ?_))
 ·rw [hP,if_pos (of_decide_eq_true h1)]
 ·rw [hP,if_neg (λ q=>h1 (decide_eq_true q))]
  refine Prod.ext Z (Prod.ext ?_ Z)
  show (c:Int)+1=((c+1:Nat):Int)
  omega
def j9 (s:Bytes):Int×Int×Int:=match s with
 | []=>(0,0,40)
 | b::r=>if b.toNat=110 then (10,1,0) else if b.toNat=114 then (13,1,0) else if b.toNat=116 then (9,1,0)
  else if b.toNat=34∨b.toNat=92 then ((b.toNat:Int),1,0)
  else if b.toNat=117 then (match r with
   | []=>(0,0,40)
   | c::t=>if c.toNat=123 then ((jB t).1,(jB t).2.1+2,(jB t).2.2) else (0,0,2))
  else (0,0,2)
theorem pm (b:UInt8)(r:Bytes):j9 (b::r)=if b.toNat=110 then (10,1,0) else if b.toNat=114 then (13,1,0) else if b.toNat=116 then (9,1,0)
  else if b.toNat=34∨b.toNat=92 then ((b.toNat:Int),1,0)
  else if b.toNat=117 then (match r with
   | []=>(0,0,40)
   | c::t=>if c.toNat=123 then ((jB t).1,(jB t).2.1+2,(jB t).2.2) else (0,0,2))
  else (0,0,2):=rfl
theorem wj (s:Bytes):0≤(jB s).2.1∧(jB s).2.1≤s.length∧((jB s).2.2=0→fU (jB s).1)∧0≤(jB s).2.2:=by
 have hle:=o0 6 s 0
 unfold jB
 generalize dx 6 s 0=h at hle ⊢
 obtain ⟨v,c⟩:=h
 simp only at hle ⊢
 split
 ·simp <;> omega
 ·split
  ·simp <;> omega
  ·rename_i h1 h2
   refine ⟨by simp only; omega,by simp only; omega,λ _=>?_,by simp⟩
   have:validRune (v:Int)=true:=by
    cases hv:validRune (v:Int) with
    | true=>rfl
    | false=>exact absurd (.inr (.inr (.inr hv))) h2
   simp only [validRune,decide_eq_true_eq] at this
   unfold fU; simp only; omega
theorem vV (s:Bytes):0≤(j9 s).2.1∧(j9 s).2.1≤s.length+1∧((j9 s).2.2=0→fU (j9 s).1∧(j9 s).2.1≤s.length)∧0≤(j9 s).2.2:=by
 unfold j9
 split
 ·simp
 ·rename_i b r
  have hb:=b.toNat_lt
  split
  ·simp [fU] <;> omega
  split
  ·simp [fU] <;> omega
  split
  ·simp [fU] <;> omega
  split
  ·simp [fU] <;> omega
  split
  ·split
   ·simp
   ·rename_i c t
    have:=wj t
    split
    ·refine ⟨by simp only; omega,by simp only [List.length_cons]; omega,λ q=>⟨this.2.2.1 q,by simp only [List.length_cons]; omega⟩,this.2.2.2⟩
    ·simp <;> omega
  ·simp <;> omega
theorem D3 (s:Bytes)(hs:s.length≤1000000000):Ev2 (λ n _=>fw n s) (·=j9 s):=by
 simp only [fw]
 cases s with
 | nil=>exact av Z (aa Z)
 | cons b r =>
  have hl:((b::r).length:Int)=(r.length:Int)+1:=by simp
  refine ar G (af O ?_)
  have hb:byt (b::r) 0=(b.toNat:Int):=rfl
  have hbl:=b.toNat_lt
  rw [hb]
  have hP:=pm b r
  refine aB (λ h=>aa (by rw [hP,if_pos O])) (λ h1=>?_)
  rw [if_neg (show ¬ b.toNat=110 by omega)] at hP
  refine aB (λ h=>aa (by rw [hP,if_pos O])) (λ h2=>?_)
  rw [if_neg (show ¬ b.toNat=114 by omega)] at hP
  refine aB (λ h=>aa (by rw [hP,if_pos O])) (λ h3=>?_)
  rw [if_neg (show ¬ b.toNat=116 by omega)] at hP
  refine ap (decide (b.toNat=34∨b.toNat=92)) ?_ ?_
  ·by_cases h:b.toNat=34
   ·exact av O (aa (by simp [h]))
   ·exact ar O (aa (eqB (by rw [decide_eq_true_eq,decide_eq_true_eq]; omega)))
  by_cases h4:b.toNat=34∨b.toNat=92
  ·rw [if_pos h4] at hP
   rw [hP]
   refine av (by simp [h4]) (af O (aa ?_))
   rw [pn _ O O]
  rw [if_neg h4] at hP
  refine ar (by simp only [decide_eq_true_eq]; exact h4) ?_
  refine aB (λ h5=>?_) (λ h5=>aa (by rw [hP,if_neg O]))
  rw [if_pos (show b.toNat=117 by omega)] at hP
  rw [hP]
  cases r with
  | nil=>exact av G (aa Z)
  | cons c t =>
   have hl2:((b::c::t).length:Int)=(t.length:Int)+2:=by simp <;> omega
   refine ar O (af O ?_)
   have hc:byt (b::c::t) 1=(c.toNat:Int):=rfl
   rw [hc]
   refine aB (λ h6=>af O ?_) (λ h6=>aa (by show _=if c.toNat=123 then _ else _; rw [if_neg O]))
   have e6:(if c.toNat=123 then ((jB t).1,(jB t).2.1+2,(jB t).2.2) else ((0,0,2):Int×Int×Int))=((jB t).1,(jB t).2.1+2,(jB t).2.2):=if_pos O
   show Ev2 _ (·=if c.toNat=123 then ((jB t).1,(jB t).2.1+2,(jB t).2.2) else ((0,0,2):Int×Int×Int))
   rw [e6,fF]
   show Ev2 (λ n m=>(cN n t).bind _) _
   have hle:=wj t
   have htl:t.length≤1000000000:=by simp at hs; omega
   exact ap _ (DJ t htl) (af (aU O O) (aa Z))
end Go.Ab.R06
namespace Go.Ab.R06
open Go.Ab Go.Ab.RB Go.Lib
def pY (c:Nat×Nat):Prop:=(c.1=65533∧c.2=1)∨c.1 < 32∨c.1=127
instance (c:Nat×Nat):Decidable (pY c):=inferInstanceAs (Decidable (_∨_))
def lk:Nat→Bytes→Nat→Bytes→(Int×Bytes)⊕(Bytes×Int×Int)
 | 0,_,at',acc=>.inl ((at':Int),acc)
 | _+1,[],at',acc=>.inl ((at':Int),acc)
 | n+1,b::r,at',acc=>if b.toNat=34 then .inl ((at':Int),acc)
  else if (decodeL (b::r)).1=92 then
   (if (j9 r).2.2=0 then lk n (r.drop (j9 r).2.1.toNat) (at'+((j9 r).2.1.toNat+1)) (acc++encodeRune (j9 r).1) else .inr ([],0,(j9 r).2.2))
  else if pY (decodeL (b::r)) then .inr ([],0,2)
  else lk n ((b::r).drop (decodeL (b::r)).2) (at'+(decodeL (b::r)).2) (acc++encodeRune ((decodeL (b::r)).1:Int))
theorem ju (n:Nat)(b:UInt8)(r:Bytes)(at':Nat)(acc:Bytes):lk (n+1) (b::r) at' acc=if b.toNat=34 then .inl ((at':Int),acc)
  else if (decodeL (b::r)).1=92 then
   (if (j9 r).2.2=0 then lk n (r.drop (j9 r).2.1.toNat) (at'+((j9 r).2.1.toNat+1)) (acc++encodeRune (j9 r).1) else .inr ([],0,(j9 r).2.2))
  else if pY (decodeL (b::r)) then .inr ([],0,2)
  else lk n ((b::r).drop (decodeL (b::r)).2) (at'+(decodeL (b::r)).2) (acc++encodeRune ((decodeL (b::r)).1:Int)):=by rw [lk]
theorem EA (s:Bytes)(hs:s.length≤1000000000):∀ (k:Nat) (l:Bytes) (i:Nat) (f:Bytes),l.length < k→s.drop i=l→i+l.length=s.length→f.length≤4*i→Ev2 (λ n m=>cJ n s m (i:Int) f) (·=lk k l i f):=by
 intro k
 induction k with
 | zero=>intro l i f h; omega
 | succ k ih =>
  intro l i f hk hl hi hf
  refine aJ ?_
  simp only [cJ]
  cases l with
  | nil =>
   simp only [List.length_nil] at hi
   refine ap false (ar O (aa Z)) (ar G (aa ?_))
   rw [lk]
  | cons b r =>
   have hil:i < s.length:=by simp only [List.length_cons] at hi; omega
   have hb:byt s i=(b.toNat:Int):=by
    rw [d5]
    have:s.getD i 0=b:=by
     have:=List.drop_eq_getElem_cons hil
     rw [hl] at this
     rw [List.getD_eq_getElem?_getD,List.getElem?_eq_getElem hil]
     exact (List.cons.inj this).1.symm
    rw [this]
   have hr:s.drop (i+1)=r:=by
    have:=List.drop_eq_getElem_cons hil
    rw [hl] at this
    exact (List.cons.inj this).2.symm
   have hlr:r.length+i+1=s.length:=by simp only [List.length_cons] at hi; omega
   have hU:=ju k b r i f
   rw [hb]
   by_cases h34:b.toNat=34
   ·rw [if_pos h34] at hU
    exact ap false (av O (af O (aa (by simp; omega)))) (ar G (aa hU.symm))
   rw [if_neg h34] at hU
   refine ap true (av O (af O (aa (by simp; omega)))) (av Z (af O ?_))
   rw [fF,Int.toNat_natCast,hl]
   have hd:du (b::r)=some (((decodeL (b::r)).1:Int),((decodeL (b::r)).2:Int)):=by
    unfold du
    rw [jh _ G]
   refine ap _ (aR hd Z) ?_
   have hdf:=lv (b::r) G
   generalize hD:decodeL (b::r)=D at hU hdf ⊢
   obtain ⟨c,w⟩:=D
   simp only at hU hdf ⊢
   by_cases h92:c=92
   ·rw [if_pos h92] at hU
    have hes:=vV r
    have hev:=D3 r O
    have sub1:sub s ((i:Int)+1) (s.length:Int)=r:=by
     rw [fF,show ((i:Int)+1).toNat=i+1 by omega,hr]
    generalize j9 r=E at hU hes hev
    obtain ⟨x,y,z⟩:=E
    simp only at hU hes hev
    by_cases hz:z=0
    ·rw [if_pos hz] at hU
     refine nY (av O (af (aU O O) (af O ?_)))
     rw [sub1]
     obtain ⟨e1,e2⟩:=hes.2.2.1 hz
     obtain ⟨y',rfl⟩:∃ y':Nat,y=y':=⟨y.toNat,by omega⟩
     rw [Int.toNat_natCast] at hU
     refine ap _ hev (av hz (af (aU (by dsimp only; omega) (by dsimp only; omega)) (aa ?_)))
     refine ap _ (aR (D9 f x e1 O) Z) (af (aU (by dsimp only; omega) (by dsimp only; omega)) ?_)
     have hle:=l8 x e1
     have:=ih (r.drop y') (i+(y'+1)) (f++encodeRune x) (by rw [List.length_drop]; simp only [List.length_cons] at hk; omega) (by rw [← hr,List.drop_drop]; congr 1; omega) (by rw [List.length_drop]; omega) (by rw [List.length_append]; omega)
     rw [← hU] at this
     rw [show ((i+(y'+1):Nat):Int)=(i:Int)+((y':Int)+1) by omega] at this
     exact this
    ·rw [if_neg hz] at hU
     refine nY (av O (af (aU O O) (af O ?_)))
     rw [sub1]
     refine ap _ hev (ar hz (aa ?_))
     exact hU.symm
   ·rw [if_neg h92] at hU
    have hbad:Ev2 (λ _ _=>(if (c:Int)=65533 then if (w:Int)=1 then some true else if (c:Int) < 32 then some true else some (decide ((c:Int)=127)) else if (c:Int) < 32 then some true else some (decide ((c:Int)=127)):Option Bool)) (·=decide (pY (c,w))):=by
     refine aB (λ h1=>aB (λ h2=>aa ?_) (λ h2=>aB (λ h3=>aa ?_) (λ h3=>aa (eqB ?_)))) (λ h1=>aB (λ h3=>aa ?_) (λ h3=>aa (eqB ?_)))
     ·symm; rw [decide_eq_true_eq]; left; simp only; omega
     ·symm; rw [decide_eq_true_eq]; right; left; simp only; omega
     ·rw [decide_eq_true_eq,decide_eq_true_eq]; unfold pY; simp only; omega
     ·symm; rw [decide_eq_true_eq]; right; left; simp only; omega
     ·rw [decide_eq_true_eq,decide_eq_true_eq]; unfold pY; simp only; omega
    by_cases hbd:pY (c,w)
    ·rw [if_pos hbd] at hU
     refine nY (ar O (ap _ hbad (av (by simp only [decide_eq_true_eq]; exact hbd) (aa ?_))))
     exact hU.symm
    ·rw [if_neg hbd] at hU
     refine nY (ar O (ap _ hbad (ar (by simp only [decide_eq_true_eq]; exact hbd) (aa ?_))))
     have hgood:=hdf.2.2 (λ q=>hbd (.inl q))
     refine ap _ (aR (D9 f c hgood.1 O) Z) (af (aU (by simp only [List.length_cons] at hdf; omega) (by simp only [List.length_cons] at hdf; omega)) ?_)
     have hle:=l8 c hgood.1
     have hw:w≤r.length+1:=by simpa using hdf.2.1
     have hw1:=hdf.1
     have:=ih ((b::r).drop w) (i+w) (f++encodeRune (c:Int)) (by rw [List.length_drop]; simp only [List.length_cons] at hk ⊢; omega) (by rw [← hl,List.drop_drop]) (by rw [List.length_drop]; simp only [List.length_cons]; omega) (by rw [List.length_append]; omega)
     rw [← hU] at this
     rw [show ((i+w:Nat):Int)=(i:Int)+(w:Int) by omega] at this
     exact this
def kj:Bytes→Bytes×Int×Int
 | []=>([],0,40)
 | b::r=>if b.toNat=34 then (match lk (r.length+1) r 1 [] with
   | .inl q=>if q.1=((r.length+1:Nat):Int) then ([],0,40) else if 4096 < q.2.length then ([],0,3) else (q.2,q.1+1,0)
   | .inr e=>e)
  else ([],0,2)
theorem m9 (b:UInt8)(r:Bytes):kj (b::r)=if b.toNat=34 then (match lk (r.length+1) r 1 [] with
   | .inl q=>if q.1=((r.length+1:Nat):Int) then ([],0,40) else if 4096 < q.2.length then ([],0,3) else (q.2,q.1+1,0)
   | .inr e=>e)
  else ([],0,2):=rfl
theorem wc:∀ (k:Nat) (l:Bytes) (i:Nat) (f:Bytes),(∀ a g,lk k l i f=.inl (a,g)→(i:Int)≤a∧a≤((i+l.length:Nat):Int)∧g.length≤f.length+4*l.length∧((∀ t,validD (f++t)=validD t)→∀ t,validD (g++t)=validD t))∧(∀ x,lk k l i f=.inr x→x.1=[]∧x.2.1=0∧x.2.2≠0):=by
 intro k
 induction k with
 | zero =>
  intro l i f
  refine ⟨λ a g h=>?_,λ x h=>(by rw [lk] at h; cases h)⟩
  rw [lk] at h; cases h
  exact ⟨by omega,by omega,by omega,λ q=>q⟩
 | succ k ih =>
  intro l i f
  cases l with
  | nil =>
   refine ⟨λ a g h=>?_,λ x h=>(by rw [lk] at h; cases h)⟩
   rw [lk] at h; cases h
   exact ⟨by omega,by simp,by simp,λ q=>q⟩
  | cons b r =>
   rw [ju]
   have hdf:=lv (b::r) G
   have hes:=vV r
   split
   ·refine ⟨λ a g h=>?_,λ x h=>(by cases h)⟩
    cases h
    exact ⟨by omega,by simp only [List.length_cons]; omega,by omega,λ q=>q⟩
   split
   ·split
    ·rename_i hz
     obtain ⟨e1,e2⟩:=hes.2.2.1 hz
     have hle:=l8 _ e1
     have hi:=ih (r.drop (j9 r).2.1.toNat) (i+((j9 r).2.1.toNat+1)) (f++encodeRune (j9 r).1)
     refine ⟨λ a g h=>?_,hi.2⟩
     have:=hi.1 a g h
     rw [List.length_drop,List.length_append] at this
     refine ⟨by omega,by simp only [List.length_cons]; omega,by simp only [List.length_cons]; omega,λ q=>this.2.2.2 λ t=>?_⟩
     rw [List.append_assoc,q,uY _ e1]
    ·rename_i hz
     refine ⟨λ a g h=>(by cases h),λ x h=>?_⟩
     cases h
     exact ⟨Z,Z,hz⟩
   split
   ·refine ⟨λ a g h=>(by cases h),λ x h=>?_⟩
    cases h
    exact ⟨Z,Z,by decide⟩
   ·rename_i hbd
    have hgood:=hdf.2.2 (λ q=>hbd (.inl q))
    have hle:=l8 _ hgood.1
    have hi:=ih ((b::r).drop (decodeL (b::r)).2) (i+(decodeL (b::r)).2) (f++encodeRune ((decodeL (b::r)).1:Int))
    refine ⟨λ a g h=>?_,hi.2⟩
    have:=hi.1 a g h
    rw [List.length_drop,List.length_append] at this
    simp only [List.length_cons] at this hdf ⊢
    refine ⟨by omega,by omega,by omega,λ q=>this.2.2.2 λ t=>?_⟩
    rw [List.append_assoc,q,uY _ hgood.1]
theorem Fa (s:Bytes)(hs:s.length≤1000000000):Ev2 (λ n _=>eJ n s) (·=kj s):=by
 simp only [eJ]
 cases s with
 | nil=>exact av Z (aa Z)
 | cons b r =>
  have hl:((b::r).length:Int)=(r.length:Int)+1:=by simp
  have hln:(b::r).length=r.length+1:=by simp
  refine ar G (af O ?_)
  have hb:byt (b::r) 0=(b.toNat:Int):=rfl
  rw [hb]
  rw [m9]
  refine aB (λ h=>?_) (λ h=>aa (by rw [if_neg (show ¬ b.toNat=34 by omega)]))
  have l:=EA (b::r) hs (r.length+1) r 1 [] O rfl O G
  have hle:=wc (r.length+1) r 1 []
  have e34:b.toNat=34:=by omega
  simp only [e34,if_true]
  generalize lk (r.length+1) r 1 []=U at l hle ⊢
  cases U with
  | inr e=>exact gA e (a8 l) Z
  | inl q =>
   obtain ⟨a,g⟩:=q
   have hq:=hle.1 a g Z
   simp only [List.length_nil,Nat.zero_add] at hq
   refine fE (a,g) (a8 l) ?_
   refine aB (λ h=>aa (by simp only at h ⊢; rw [if_pos O])) (λ h=>?_)
   simp only at h ⊢
   rw [if_neg O]
   refine ap _ (aR Z Z) (aB (λ h1=>aa (by simp only at h1; rw [if_pos O])) (λ h1=>?_))
   simp only at h1
   rw [if_neg O]
   refine ap _ (aR (E8 g O) Z) (af (aU O O) (aa Z))
theorem ww {s x:Bytes}{n:Int}(h:kj s=(x,n,0)):x.length≤4096∧validD x=true∧2≤n∧n≤s.length:=by
 cases s with
 | nil=>cases h
 | cons b r =>
  rw [m9] at h
  split at h
  ·have hle:=wc (r.length+1) r 1 []
   split at h
   ·rename_i q hq
    obtain ⟨a,g⟩:=q
    have hg:=hle.1 a g hq
    simp only at h
    split at h
    ·cases h
    ·split at h
     ·cases h
     ·rename_i h1 h2
      cases h
      simp only [List.length_cons]
      refine ⟨by omega,?_,by omega,by omega⟩
      have:=hg.2.2.2 (λ t=>by simp) []
      simpa [validD_nil] using this
   ·rename_i e he
    subst h
    exact absurd Z (hle.2 _ he).2.2
  ·cases h
theorem zm (s:Bytes):0≤(kj s).2.1∧(kj s).2.1≤s.length∧((kj s).2.2≠0→(kj s).1=[]∧(kj s).2.1=0)∧(kj s).1.length≤4096:=by
 cases s with
 | nil=>exact ⟨Int.le_refl _,Int.le_refl _,λ _=>⟨Z,Z⟩,Nat.zero_le _⟩
 | cons b r =>
  rw [m9]
  split
  ·have hle:=wc (r.length+1) r 1 []
   split
   ·rename_i q hq
    obtain ⟨a,g⟩:=q
    have hg:=hle.1 a g hq
    simp only
    split
    ·simp; omega
    ·split
     ·simp; omega
     ·rename_i h1 h2
      simp only [List.length_cons] at *
      exact ⟨by omega,by omega,λ q=>absurd Z q,by omega⟩
   ·rename_i e he
    have:=hle.2 _ he
    rw [this.1,this.2.1]
    simp; omega
  ·simp; omega
theorem tv:∀ n:Fin 16,rM (hexDigit n.1)=some n.1∧((hexDigit n.1)=48→n.1=0):=by decide
theorem ub {n:Nat}(h:n < 16):rM (hexDigit n)=some n:=(tv ⟨n,h⟩).1
theorem AQ (u:Nat)(h:u < 256)(t:Bytes):jB (dM u++125::t)=((u:Int),(((dM u).length+1:Nat):Int),0):=by
 have hv:validRune (u:Int)=true:=by simp only [validRune,decide_eq_true_eq]; omega
 have h125:rM 125=none:=by decide
 by_cases h1:u < 16
 ·have e:dM u=[hexDigit u]:=if_pos h1
  have hr:dx 6 (dM u++125::t) 0=(u,1):=by
   rw [e]
   show dx (5+1) (hexDigit u::125::t) 0=_
   rw [dx,ub h1]
   show ((dx (4+1) (125::t) (16*0+u)).1,(dx (4+1) (125::t) (16*0+u)).2+1)=_
   rw [dx,h125]; simp
  rw [s5 hr,e,if_neg G,if_neg]
  ·simp
  ·rintro (q | q | q | q)
   ·exact q Z
   ·cases q
   ·omega
   ·rw [hv] at q; cases q
 ·have e:dM u=[hexDigit (u / 16),hexDigit (u % 16)]:=if_neg h1
  have hr:dx 6 (dM u++125::t) 0=(u,2):=by
   rw [e]
   show dx (5+1) (hexDigit (u / 16)::hexDigit (u % 16)::125::t) 0=_
   rw [dx,ub O]
   show ((dx (4+1) (hexDigit (u % 16)::125::t) (16*0+u / 16)).1,(dx (4+1) (hexDigit (u % 16)::125::t) (16*0+u / 16)).2+1)=_
   rw [dx,ub O]
   show ((dx (3+1) (125::t) (16*(16*0+u / 16)+u % 16)).1,(dx (3+1) (125::t) (16*(16*0+u / 16)+u % 16)).2+1+1)=_
   rw [dx,h125]
   refine Prod.ext ?_ Z
   show 16*(16*0+u / 16)+u % 16=u
   omega
  rw [s5 hr,e,if_neg G,if_neg]
  ·simp
  ·rintro (q | q | q | q)
   ·exact q Z
   ·cases q
   ·have:=(tv ⟨u / 16,by omega⟩).2 q.2
    simp only at this; omega
   ·rw [hv] at q; cases q
theorem qR (b:UInt8)(h:b.toNat < 128):encodeRune (b.toNat:Int)=[b]:=by
 simp only [encodeRune,encodeRuneZ,if_pos (show (0:Int)≤(b.toNat:Int)∧(b.toNat:Int)≤127 by omega),List.map_cons,List.map_nil]
 simp
theorem A5 (b:UInt8)(h:b.toNat < 128)(c:UInt8)(rest:Bytes)(he:f0 b=92::c::rest)(t:Bytes):j9 (c::rest++t)=((b.toNat:Int),((rest.length+1:Nat):Int),0):=by
 have hl:∀ x y:UInt8,([x,y]:Bytes)=92::c::rest→c=y∧rest=[]:=λ x y q=>by
  have:=(List.cons.inj q).2
  exact ⟨((List.cons.inj this).1).symm,((List.cons.inj this).2).symm⟩
 by_cases h10:b.toNat=10
 ·rw [zf h10] at he
  obtain ⟨rfl,rfl⟩:=hl _ _ he
  rw [h10]; rfl
 by_cases h13:b.toNat=13
 ·rw [yE h13] at he
  obtain ⟨rfl,rfl⟩:=hl _ _ he
  rw [h13]; rfl
 by_cases h9:b.toNat=9
 ·rw [zk h9] at he
  obtain ⟨rfl,rfl⟩:=hl _ _ he
  rw [h9]; rfl
 by_cases hq:b.toNat=34∨b.toNat=92
 ·rw [Bm hq] at he
  obtain ⟨rfl,rfl⟩:=hl _ _ he
  rw [List.cons_append,pm,if_neg O,if_neg O,if_neg O,if_pos hq]
  rfl
 by_cases hu:b.toNat < 32∨b.toNat=127
 ·rw [yW h10 h13 h9 hu] at he
  have he:(92:UInt8)::117::(123::(dM b.toNat++[125]))=92::c::rest:=he
  obtain ⟨hc,hr⟩:=List.cons.inj (List.cons.inj he).2
  subst hc
  subst hr
  have hh:=AQ b.toNat O t
  have e2:(123::(dM b.toNat++[125]):Bytes)++t=123::(dM b.toNat++125::t):=by simp
  rw [List.cons_append,e2,pm,if_neg (by decide),if_neg (by decide),if_neg (by decide),if_neg (by decide),if_pos (by decide)]
  show (if (123:UInt8).toNat=123 then _ else _)=_
  rw [if_pos (by decide),hh]
  refine Prod.ext Z (Prod.ext ?_ Z)
  simp only [List.length_cons,List.length_append,List.length_nil]
  omega
 ·rw [xj O O  hu] at he
  cases he
theorem va:∀ p:Bytes,(∀ y∈p,128≤y.toNat)→p.flatMap f0=p
 | [],_=>rfl
 | y::r,h=>by
  have hy:=h y List.mem_cons_self
  rw [List.flatMap_cons,va r (λ z hz=>h z (List.mem_cons_of_mem _ hz)),xj O O O]
  rfl
theorem xJ:∀ (n:Nat) (x:Bytes) (k i:Nat) (acc t:Bytes),x.length≤n→validD x=true→(x.flatMap f0++34::t).length < k →
  lk k (x.flatMap f0++34::t) i acc=.inl (((i+(x.flatMap f0).length:Nat):Int),acc++x):=by
 intro n
 induction n with
 | zero =>
  intro x k i acc t hx hv hk
  obtain rfl:x=[]:=by cases x <;> simp_all
  obtain ⟨k,rfl⟩:∃ k',k=k'+1:=⟨k - 1,by omega⟩
  show lk (k+1) (34::t) i acc=_
  rw [ju,if_pos (by decide)]
  simp
 | succ n ih =>
  intro x k i acc t hx hv hk
  obtain ⟨k,rfl⟩:∃ k',k=k'+1:=⟨k - 1,by omega⟩
  cases x with
  | nil =>
   show lk (k+1) (34::t) i acc=_
   rw [ju,if_pos (by decide)]
   simp
  | cons b r =>
   by_cases hb:b.toNat < 128
   ·have hvr:validD r=true:=by rw [← validD_cons b r hb]; exact hv
    rw [List.flatMap_cons] at hk ⊢
    have hlen:=qb b
    have hxr:r.length≤n:=by simpa using hx
    by_cases hp:b.toNat≠34∧b.toNat≠92∧¬ (b.toNat < 32∨b.toNat=127)
    ·rw [xj hp.1 hp.2.1 hp.2.2] at hk ⊢
     show lk (k+1) (b::(r.flatMap f0++34::t)) i acc=_
     rw [ju,if_neg hp.1,decodeL_ascii b _ hb,if_neg (by simp only; omega),if_neg]
     ·have:=ih r k (i+1) (acc++[b]) t hxr hvr (by simp only [List.length_append,List.length_cons,List.length_nil] at hk ⊢; omega)
      simp only [List.drop_succ_cons,List.drop_zero]
      rw [qR b hb,this]
      refine congrArg Sum.inl (Prod.ext ?_ ?_)
      ·simp only [List.length_append,List.length_cons,List.length_nil]; omega
      ·simp
     ·unfold pY; simp only; omega
    ·obtain ⟨c,rest,he⟩:∃ c rest,f0 b=92::c::rest:=by
      by_cases h10:b.toNat=10
      ·exact ⟨_,_,zf h10⟩
      by_cases h13:b.toNat=13
      ·exact ⟨_,_,yE h13⟩
      by_cases h9:b.toNat=9
      ·exact ⟨_,_,zk h9⟩
      by_cases hq:b.toNat=34∨b.toNat=92
      ·exact ⟨_,_,Bm hq⟩
      ·exact ⟨_,_,yW h10 h13 h9 O⟩
     have hesc:=A5 b hb c rest he (r.flatMap f0++34::t)
     rw [he] at hk ⊢
     have e:(92::c::rest++r.flatMap f0)++34::t=92::(c::rest++(r.flatMap f0++34::t)):=by simp
     rw [e,ju,if_neg (by decide),decodeL_ascii 92 _ (by decide),if_pos (by decide),hesc]
     simp only [if_true,Int.toNat_natCast]
     have hd:(c::rest++(r.flatMap f0++34::t)).drop (rest.length+1)=r.flatMap f0++34::t:=by
      have:rest.length+1=(c::rest).length:=by simp
      rw [this,List.drop_left]
     rw [hd,qR b hb]
     have:=ih r k (i+(rest.length+1+1)) (acc++[b]) t hxr hvr (by simp only [List.length_append,List.length_cons,List.length_nil] at hk ⊢; omega)
     rw [this]
     refine congrArg Sum.inl (Prod.ext ?_ ?_)
     ·simp only [List.length_append,List.length_cons,List.length_nil]; omega
     ·simp
   ·have hne:b::r≠[]:=by simp
    obtain ⟨hnb,hvr⟩:=(uk _ hne).1 hv
    have hdf:=lv _ hne
    have hgood:=hdf.2.2 hnb
    have hN:=DD (b::r).length ((b::r).getD 0 0).toNat ((b::r).getD 1 0).toNat ((b::r).getD 2 0).toNat ((b::r).getD 3 0).toNat G (UInt8.toNat_lt _)
    rw [← decodeL_N] at hN
    generalize hD:decodeL (b::r)=D at hnb hvr hdf hgood hN
    obtain ⟨c,w⟩:=D
    simp only at hnb hvr hdf hgood hN
    have hc:128≤c:=by
     rcases Nat.lt_or_ge c 128 with q | q
     ·have:=(hN.2.2.2.1 q).2
      have hb0:((b::r).getD 0 0).toNat=b.toNat:=rfl
      omega
     ·exact q
    have hhigh:=hN.2.2.2.2.1 hc
    have hp:∀ y∈(b::r).take w,128≤y.toNat:=by
     intro y hy
     obtain ⟨j,hj,rfl⟩:=List.getElem_of_mem hy
     rw [List.length_take] at hj
     have hj2:j < (b::r).length:=by omega
     have hg:((b::r).getD j 0)=((b::r).take w)[j]'(by rw [List.length_take]; exact hj):=by
      rw [List.getElem_take,List.getD_eq_getElem?_getD,List.getElem?_eq_getElem hj2]; rfl
     rw [← hg]
     obtain rfl | rfl | rfl | rfl:j=0∨j=1∨j=2∨j=3:=by omega
     ·exact hhigh.1
     ·exact hhigh.2.1 O
     ·exact hhigh.2.2.1 O
     ·exact hhigh.2.2.2 O
    have hsplit:(b::r).flatMap f0=encodeRune (c:Int)++((b::r).drop w).flatMap f0:=by
     conv=>lhs; rw [← List.take_append_drop w (b::r)]
     rw [List.flatMap_append,va _ hp,hgood.2]
    have hel:(encodeRune (c:Int)).length=w:=by
     rw [hgood.2,List.length_take]; omega
    obtain ⟨y,p',hp'⟩:∃ y p',encodeRune (c:Int)=y::p':=by
     cases hx:encodeRune (c:Int) with
     | nil=>rw [hx] at hel; simp at hel; omega
     | cons y p'=>exact ⟨y,p',Z⟩
    have hy:128≤y.toNat:=hp y (by rw [← hgood.2,hp']; exact List.mem_cons_self)
    have hdec:=yT (c:Int) hgood.1 (((b::r).drop w).flatMap f0++34::t)
    rw [hsplit,List.append_assoc] at hk ⊢
    have hlk:(encodeRune (c:Int)++(((b::r).drop w).flatMap f0++34::t)).drop w=((b::r).drop w).flatMap f0++34::t:=by
     rw [← hel,List.drop_left]
    have:=ih ((b::r).drop w) k (i+w) (acc++encodeRune (c:Int)) t (by rw [List.length_drop]; simp only [List.length_cons] at hx ⊢; omega) hvr (by rw [List.length_append] at hk; omega)
    rw [hp',List.cons_append] at hdec hlk ⊢
    rw [ju,if_neg O,hdec]
    simp only [Int.toNat_natCast]
    rw [if_neg O,if_neg]
    ·rw [← hp',hel,hlk,this]
     refine congrArg Sum.inl (Prod.ext ?_ ?_)
     ·rw [hp'] at hel
      simp only [List.length_append,hel,hp']; omega
     ·rw [List.append_assoc,hgood.2,List.take_append_drop]
    ·rw [← hp',hel]
     unfold pY; simp only; omega
theorem ui (x t:Bytes)(hv:validD x=true)(hl:x.length≤4096):kj (dZ x++t)=(x,((dZ x).length:Int),0):=by
 have e:dZ x++t=34::(x.flatMap f0++34::t):=by simp [dZ]
 rw [e,m9,if_pos (by decide),xJ x.length x _ 1 [] t (Nat.le_refl _) hv O]
 simp only
 rw [if_neg (by simp only [List.length_append,List.length_cons]; omega),if_neg (by simp only [List.nil_append]; omega)]
 refine Prod.ext G (Prod.ext ?_ Z)
 simp only [dZ,List.length_cons,List.length_append,List.length_nil]; omega
theorem DC:∀ (k u:Nat),u < 10 ^ (k+1)→(decDigits u).length≤k+1:=by
 intro k
 induction k with
 | zero=>intro u h; rw [decDigits,dif_pos (by simpa using h)]; simp
 | succ k ih =>
  intro u h
  rw [decDigits]
  split
  ·simp
  ·have:=ih (u / 10) (by rw [Nat.pow_succ] at h; omega)
   rw [List.length_append]; simp; omega
theorem qm {v:Int}(h0:0≤v)(h1:v≤iQ):(itoa v).length≤16:=by
 obtain ⟨u,rfl⟩:∃ u:Nat,v=u:=⟨v.toNat,by omega⟩
 unfold itoa
 rw [if_neg O,Int.toNat_natCast]
 exact DC 15 u (by unfold iQ at h1; omega)
end Go.Ab.R06
end
section
namespace Go.Ab.R06
open Go.Proofs Go.Ab Go.Ab.RB
attribute [local irreducible] awp ei aS aC bC AV.sub M dN
def ep (s_0:Bytes):Nat→Int→Option (Unit⊕Bool)
 | 0,_=>none
 | m+1,i9 =>
 if i9 < (s_0.length:Int) then
  (
    ck ((0:Int)≤i9∧i9 < (s_0.length:Int)) <|
    if byt s_0 i9 < 48 then
     some true
    else
     ck ((0:Int)≤i9∧i9 < (s_0.length:Int)) <|
     some (decide (57 < byt s_0 i9))
   : Option Bool).bind λ t14 =>
  if t14=true then
   some (.inr false)
  else
   ck (inR (i9+1)) <|
   ep s_0 m (i9+1)
 else
  some (.inl ())
def jG (n:Nat)(s_0:Bytes):Option Bool :=
 jn (ep s_0 n 0) λ q22 =>
 (
   if s_0=([48]:Bytes) then
    some true
   else
    if s_0=([]:Bytes) then
     some false
    else
     ck ((0:Int)≤0∧0 < (s_0.length:Int)) <|
     some (!decide (byt s_0 0=48))
  : Option Bool).bind λ t21 =>
 some t21
theorem sJ (n:Nat)(s_0:Bytes)(r:Bool)(h0:jG n s_0=some r):aC Tryz.prog 147 [eS s_0] (·=.p (eB r)):=by
 unfold jG at h0
 refine bc good Tryz.func147 Z Z Z λ w0=>mP (λ v:Bool=>.p (eB v)) ?_
 refine nx 10 Z ?_
 obtain ⟨o25,h1,hL0,hR0⟩:=fc h0
 refine kEx 0 (λ v26:Unit=>o25=.inl v26) (λ v26=>⟨[(0,.p (eS s_0))],[]⟩) (λ v26 hv=>?_) ?_
 ·have h0:=hL0 _ hv
  refine nx 2 Z (bd h0 λ o27 h1 h0=>?_)
  refine kN o27 (λ v28=>⟨[(2,.p (eB v28))],[]⟩) ?_ ?_
  ·exact nx 2 Z (mQ (oi h0) Z (sr))
  refine nx 2 Z (oS Z Z (nx 1 Z (fD [21,22] h1 Z (λ c18 h1=>?_) λ c18 h1=>?_)))
  ·exact nx 10 Z (eX _ (oi h1).symm (gE Z Z))
  refine nx 1 Z (oS Z Z (nx 1 Z (fN [24,25] h1 Z (λ c19 h1=>?_) λ c19 h1=>?_)))
  ·exact nx 7 Z (eX _ (oi h1).symm (gE Z Z))
  exact nx 1 Z (oI h1 Z λ hk20 h1=>nx 5 Z (eX _ (oi h1).symm (gE Z Z)))
 refine lG (λ (q29:Int)=>⟨[(0,.p (eS s_0)),(3,.p (eI q29))],[]⟩) (λ m (q29:Int)=>ep s_0 m q29) Y 0 h1 (gE Z Z) ?_
 rintro m i9 h1
 replace h1:ep s_0 (m+1) i9=some o25:=h1
 rw [ep] at h1
 refine nx 5 Z (oLs Z (nx 2 Z (fD [7] h1 Z (λ c10 h1=>?_) λ c10 h1=>?_)))
 ·refine nx 5 Z (bd h1 λ o30 h2 h1=>?_)
  refine kN o30 (λ v31=>⟨[(0,.p (eS s_0)),(3,.p (eI i9)),(19,.p (eB v31))],[]⟩) ?_ ?_
  ·refine nx 1 Z (fB [19] h1 Z (λ c15 h1=>?_) λ c15 h1=>?_)
   ·exact nx 6 Z (mQ (hR0 _ (oi h1).symm) Z (sr))
   exact nx 4 Z (oA h1 Z Z λ hk16 h1=>nx 2 Z (eX (i9+1) h1 (gE Z Z)))
  refine nx 3 Z (oI h2 Z λ hk11 h2=>nx 2 Z (fD [13,14] h2 Z (λ c12 h2=>?_) λ c12 h2=>?_))
  ·exact nx 6 Z (eX _ (oi h2).symm (gE Z Z))
  exact nx 2 Z (oI h2 Z λ hk13 h2=>nx 3 Z (eX _ (oi h2).symm (gE Z Z)))
 exact nx 2 Z (eXi _ (oi h1).symm (gE Z Z))
def l6 (n_0:Int):Option Bool :=
 (
   if (-9007199254740992)≤n_0 then
    some (decide (n_0≤9007199254740992))
   else
    some false
  : Option Bool).bind λ t2 =>
 some t2
theorem tA (n_0:Int)(r:Bool)(h0:l6 n_0=some r):aC Tryz.prog 148 [eI n_0] (·=.p (eB r)):=by
 unfold l6 at h0
 refine bc good Tryz.func148 Z Z Z λ w0=>mP (λ v:Bool=>.p (eB v)) ?_
 refine nx 5 Z (bd h0 λ o4 h1 h0=>?_)
 refine kN o4 (λ v5=>⟨[(2,.p (eB v5))],[]⟩) ?_ ?_
 ·exact nx 2 Z (mQ (oi h0) Z (sr))
 refine nx 4 Z (fD [4,5] h1 Z (λ c1 h1=>?_) λ c1 h1=>?_)
 ·exact nx 5 Z (eX _ (oi h1).symm (gE Z Z))
 exact nx 5 Z (eX _ (oi h1).symm (gE Z Z))
def eO (t6:Bytes):Nat→Int→Int→Option Int
 | 0,_,_=>none
 | m+1,n22,i23 =>
 if i23 < (t6.length:Int) then
  ck (inR (10*n22)) <|
  ck ((0:Int)≤i23∧i23 < (t6.length:Int)) <|
  ck (inR (IntKind.wrap .u8 ((byt t6 i23) - 48))) <|
  ck (inR ((10*n22)+(IntKind.wrap .u8 ((byt t6 i23) - 48)))) <|
  ck (inR (i23+1)) <|
  eO t6 m ((10*n22)+(IntKind.wrap .u8 ((byt t6 i23) - 48))) (i23+1)
 else
  some n22
def kr (n:Nat)(s_0:Bytes):Option (Int×Int) :=
 (
   if 0 < (s_0.length:Int) then
    ck ((0:Int)≤0∧0 < (s_0.length:Int)) <|
    some (decide (byt s_0 0=45))
   else
    some false
  : Option Bool).bind λ minus3 =>
 (
   if minus3=true then
    ck ((0:Int)≤1∧1≤(s_0.length:Int)∧(s_0.length:Int)≤(s_0.length:Int)) <|
    some (sub s_0 1 (s_0.length:Int))
   else
    some s_0
  : Option Bytes).bind λ t6 =>
 (
   (jG n t6).bind λ r7 =>
   if (!r7)=true then
    some true
   else
    if minus3=true then
     some (decide (t6=([48]:Bytes)))
    else
     some false
  : Option Bool).bind λ t11 =>
 if t11=true then
  some (0,2)
 else
  if 16 < (t6.length:Int) then
   some (0,5)
  else
   (eO t6 n 0 0).bind λ n32 =>
   (
     if minus3=true then
      ck (inR (0 - n32)) <|
      some (0 - n32)
     else
      some n32
    : Option Int).bind λ n35 =>
   (l6 n35).bind λ r36 =>
   if (!r36)=true then
    some (0,5)
   else
    some (n35,0)
theorem tK (n:Nat)(s_0:Bytes)(r:Int×Int)(h0:kr n s_0=some r):aC Tryz.prog 131 [eS s_0] (·=.tuple [.p (eI r.1),.p (eI r.2)]):=by
 unfold kr at h0
 refine bc good Tryz.func131 Z Z Z λ w0=>mP (λ v:Int×Int=>.tuple [.p (eI v.1),.p (eI v.2)]) ?_
 refine nx 6 Z (bd h0 λ o44 h1 h0=>?_)
 refine kN o44 (λ v45=>⟨[(0,.p (eS s_0)),(4,.p (eB v45))],[]⟩) ?_ ?_
 ·refine nx 7 Z (bd h0 λ o46 h1 h0=>?_)
  refine kN o46 (λ v47=>⟨[(4,.p (eB o44)),(5,.p (eS v47))],[]⟩) ?_ ?_
  ·refine nx 3 Z (bd h0 λ o48 h1 h0=>?_)
   refine kN o48 (λ v49=>⟨[(4,.p (eB o44)),(5,.p (eS o46)),(29,.p (eB v49))],[]⟩) ?_ ?_
   ·refine nx 1 Z (fB [29] h0 Z (λ c12 h0=>?_) λ c12 h0=>?_)
    ·exact nx 7 Z (mQ (oi h0) Z (aA ⟨sr,sr,trivial⟩))
    refine nx 6 Z (oLs Z (nx 2 Z (fD [32] h0 Z (λ c13 h0=>?_) λ c13 h0=>?_)))
    ·exact nx 7 Z (mQ (oi h0) Z (aA ⟨sr,sr,trivial⟩))
    refine nx 12 Z (bd h0 λ o50 h1 h0=>?_)
    refine kE 0 o50 (λ v51=>⟨[(4,.p (eB o44)),(6,.p (eI v51))],[]⟩) ?_ ?_
    ·refine nx 2 Z (bd h0 λ o52 h1 h0=>?_)
     refine kN o52 (λ v53=>⟨[(6,.p (eI v53))],[]⟩) ?_ ?_
     ·refine nx 5 Z (bd h0 λ r36 e37 h0=>oK (tA o52 _ e37) Z ⟨sr,trivial⟩ Tryz.call148 Z (nx 2 Z ?_))
      refine fB [52] h0 Z (λ c38 h0=>?_) λ c38 h0=>?_
      ·exact nx 7 Z (mQ (oi h0) Z (aA ⟨sr,sr,trivial⟩))
      exact nx 9 Z (mQ (oi h0) Z (aA ⟨sr,sr,trivial⟩))
     refine nx 4 Z (fB [4,47] h1 Z (λ c33 h1=>?_) λ c33 h1=>?_)
     ·exact nx 3 Z (cc' h1 λ hk34 h1=>mO Z (yi Z Z Z Z hk34 (nx 2 Z (eX _ (oi h1).symm (gE Z Z)))))
     exact nx 2 Z (eX _ (oi h1).symm (gE Z Z))
    refine lG (λ (q54:Int×Int)=>⟨[(4,.p (eB o44)),(5,.p (eS o46)),(6,.p (eI q54.1)),(7,.p (eI q54.2))],[]⟩) (λ m (q54:Int×Int)=>eO o46 m q54.1 q54.2) Y (0,0) h1 (gE Z Z) ?_
    rintro m ⟨n22,i23⟩ h1
    replace h1:eO o46 (m+1) n22 i23=some o50:=h1
    rw [eO] at h1
    refine nx 5 Z (oLs Z (nx 2 Z (fD [36] h1 Z (λ c24 h1=>?_) λ c24 h1=>?_)))
    ·exact nx 6 Z (oA h1 Z Z λ hk25 h1=>nx 2 Z (oI h1 Z λ hk26 h1=>nx 1 Z (cc' h1 λ hk27 h1=>mO Z (d6 Z Z Z Z Z Z Z Z (gV hk27) (oA h1 Z Z λ hk28 h1=>nx 4 Z (oA h1 Z Z λ hk29 h1=>nx 2 Z (eX ((10*n22)+(IntKind.wrap .u8 ((byt o46 i23) - 48)),i23+1) h1 (gE Z Z))))))))
    exact nx 2 Z (eXi _ (oi h1).symm (gE Z Z))
   refine nx 2 Z (bd h1 λ r7 e8 h1=>oK (sJ _ o46 _ e8) Z ⟨sr,trivial⟩ Tryz.call147 Z (nx 2 Z ?_))
   refine fB [22,23] h1 Z (λ c9 h1=>?_) λ c9 h1=>?_
   ·exact nx 7 Z (eX _ (oi h1).symm (gE Z Z))
   refine nx 2 Z (fB [4,24,25] h1 Z (λ c10 h1=>?_) λ c10 h1=>?_)
   ·exact nx 1 Z (oS Z Z (nx 3 Z (eX _ (oi h1).symm (bR (ci ⟨⟨_,Z,gg c10.symm⟩,er Z,er Z,trivial⟩ trivial)))))
   exact nx 5 Z (eX _ (oi h1).symm (bR (ci ⟨⟨_,Z,gg c10.symm⟩,er Z,er Z,trivial⟩ trivial)))
  refine nx 4 Z (fB [4,17] h1 Z (λ c4 h1=>?_) λ c4 h1=>?_)
  ·exact nx 3 Z (oP h1 Z Z Z λ hk5 h1=>nx 2 Z (eX _ (oi h1).symm (bR (ci ⟨⟨_,Z,gg c4.symm⟩,er Z,trivial⟩ trivial))))
  exact nx 2 Z (eX _ (oi h1).symm (bR (ci ⟨⟨_,Z,gg c4.symm⟩,er Z,trivial⟩ trivial)))
 refine nx 2 Z (oLs Z (nx 2 Z (fD [10,11] h1 Z (λ c1 h1=>?_) λ c1 h1=>?_)))
 ·exact nx 1 Z (oI h1 Z λ hk2 h1=>nx 4 Z (eX _ (oi h1).symm (gE Z Z)))
 exact nx 6 Z (eX _ (oi h1).symm (gE Z Z))
def d4:Nat→Int→Option Bytes
 | 0,_=>none
 | n+1,n_0 =>
 (
   if 0≤n_0 then
    some (decide (n_0≤9))
   else
    some false
  : Option Bool).bind λ t2 =>
 if t2=true then
  ck (inR (48+n_0)) <|
  ck ((0:Int)≤IntKind.wrap .u8 (48+n_0)∧IntKind.wrap .u8 (48+n_0) < 256) <|
  some [u8 (IntKind.wrap .u8 (48+n_0))]
 else
  (
    if n_0 < 0 then
     some (decide ((-10) < n_0))
    else
     some false
   : Option Bool).bind λ t7 =>
  if t7=true then
   ck (inR (0 - n_0)) <|
   ((d4 n) (0 - n_0)).bind λ r10 =>
   ck (([45]:Bytes).length+r10.length≤9223372036854775807) <|
   some (([45]:Bytes)++r10)
  else
   if n_0 < 0 then
    ck ((10:Int)≠0) <|
    ((d4 n) (IntKind.wrap .i64 (n_0.tdiv 10))).bind λ r15 =>
    ck ((10:Int)≠0) <|
    ck (inR (0 - (n_0.tmod 10))) <|
    ((d4 n) (0 - (n_0.tmod 10))).bind λ r19 =>
    ck (r15.length+r19.length≤9223372036854775807) <|
    some (r15++r19)
   else
    ck ((10:Int)≠0) <|
    ((d4 n) (IntKind.wrap .i64 (n_0.tdiv 10))).bind λ r23 =>
    ck ((10:Int)≠0) <|
    ((d4 n) (n_0.tmod 10)).bind λ r26 =>
    ck (r23.length+r26.length≤9223372036854775807) <|
    some (r23++r26)
theorem sO (n:Nat):∀ (n_0:Int) (r:Bytes),d4 n n_0=some r→aC Tryz.prog 109 [eI n_0] (·=.p (eS r)):=by
 induction n with
 | zero=>intro n_0 r h0; cases h0
 | succ n ih =>
 have ih_ref01_Format_ok:=ih
 intro n_0 r h0
 rw [d4] at h0
 refine bc good Tryz.func109 Z Z Z λ w0=>mP (λ v:Bytes=>.p (eS v)) ?_
 refine nx 6 Z (bd h0 λ o31 h1 h0=>?_)
 refine kN o31 (λ v32=>⟨[(0,.p (eI n_0)),(8,.p (eB v32))],[]⟩) ?_ ?_
 ·refine nx 1 Z (fB [8] h0 Z (λ c3 h0=>?_) λ c3 h0=>?_)
  ·exact nx 4 Z (oA h0 Z Z λ hk4 h0=>nx 1 Z (cc' h0 λ hk5 h0=>mO Z (bw eU [u8 (IntKind.wrap .u8 (48+n_0))] Z Z Z Z Z Z Z Z Z Z Z Z Z (congr (congrArg List.cons (iq hk5)) Z) (mO Z (lz [u8 (IntKind.wrap .u8 (48+n_0))] Z Z Z Z Z Z Z Z Z Z Z (nx 3 Z (mQ (oi h0) Z (sr))))))))
  refine nx 4 Z (bd h0 λ o33 h1 h0=>?_)
  refine kN o33 (λ v34=>⟨[(0,.p (eI n_0)),(19,.p (eB v34))],[]⟩) ?_ ?_
  ·refine nx 1 Z (fB [19] h0 Z (λ c8 h0=>?_) λ c8 h0=>?_)
   ·exact nx 4 Z (cc' h0 λ hk9 h0=>mO Z (yi Z Z Z Z hk9 (bd h0 λ r10 e11 h0=>oK (ih_ref01_Format_ok (0 - n_0) _ e11) Z ⟨sr,trivial⟩ Tryz.call109 Z (oC h0 Z λ hk12 h0=>nx 3 Z (mQ (oi h0) Z (sr))))))
   refine nx 8 Z (fD [25] h0 Z (λ c13 h0=>?_) λ c13 h0=>?_)
   ·exact nx 4 Z (cc' h0 λ hk14 h0=>mO Z (uh Z Z Z Z Z Z hk14 (bd h0 λ r15 e16 h0=>oK (ih_ref01_Format_ok (IntKind.wrap .i64 (n_0.tdiv 10)) _ e16) Z ⟨sr,trivial⟩ Tryz.call109 Z (nx 1 Z (cc' h0 λ hk17 h0=>mO Z (uh Z Z Z Z Z Z hk17 (cc' h0 λ hk18 h0=>mO Z (yi Z Z Z Z hk18 (bd h0 λ r19 e20 h0=>oK (ih_ref01_Format_ok (0 - (n_0.tmod 10)) _ e20) Z ⟨sr,trivial⟩ Tryz.call109 Z (oC h0 Z λ hk21 h0=>nx 3 Z (mQ (oi h0) Z (sr))))))))))))
   exact nx 5 Z (cc' h0 λ hk22 h0=>mO Z (uh Z Z Z Z Z Z hk22 (bd h0 λ r23 e24 h0=>oK (ih_ref01_Format_ok (IntKind.wrap .i64 (n_0.tdiv 10)) _ e24) Z ⟨sr,trivial⟩ Tryz.call109 Z (nx 1 Z (cc' h0 λ hk25 h0=>mO Z (uh Z Z Z Z Z Z hk25 (bd h0 λ r26 e27 h0=>oK (ih_ref01_Format_ok (n_0.tmod 10) _ e27) Z ⟨sr,trivial⟩ Tryz.call109 Z (oC h0 Z λ hk28 h0=>nx 3 Z (mQ (oi h0) Z (sr))))))))))
  refine nx 4 Z (fD [15,16] h1 Z (λ c6 h1=>?_) λ c6 h1=>?_)
  ·exact nx 4 Z (eX _ (oi h1).symm (gE Z Z))
  exact nx 4 Z (eX _ (oi h1).symm (gE Z Z))
 refine nx 4 Z (fD [4,5] h1 Z (λ c1 h1=>?_) λ c1 h1=>?_)
 ·exact nx 4 Z (eX _ (oi h1).symm (gE Z Z))
 exact nx 4 Z (eX _ (oi h1).symm (gE Z Z))
def eg (s_0:Bytes)(i_1:Int)(lo_2:Int)(hi_3:Int):Option Bool :=
 (
   if i_1 < (s_0.length:Int) then
    ck ((0:Int)≤i_1∧i_1 < (s_0.length:Int)) <|
    if lo_2≤byt s_0 i_1 then
     ck ((0:Int)≤i_1∧i_1 < (s_0.length:Int)) <|
     some (decide (byt s_0 i_1≤hi_3))
    else
     some false
   else
    some false
  : Option Bool).bind λ t5 =>
 some t5
theorem gZ (s_0:Bytes)(i_1:Int)(lo_2:Int)(hi_3:Int)(r:Bool)(h0:eg s_0 i_1 lo_2 hi_3=some r):aC Tryz.prog 163 [eS s_0,eI i_1,eK .u8 lo_2,eK .u8 hi_3] (·=.p (eB r)):=by
 unfold eg at h0
 refine bc good Tryz.func163 Z Z Z λ w0=>mP (λ v:Bool=>.p (eB v)) ?_
 refine nx 5 Z (bd h0 λ o7 h1 h0=>?_)
 refine kN o7 (λ v8=>⟨[(8,.p (eB v8))],[]⟩) ?_ ?_
 ·exact nx 2 Z (mQ (oi h0) Z (sr))
 refine nx 3 Z (oLs Z (nx 2 Z (fD [12,13] h1 Z (λ c1 h1=>?_) λ c1 h1=>?_)))
 ·refine nx 2 Z (oI h1 Z λ hk2 h1=>nx 4 Z (fD [18,19,20] h1 Z (λ c3 h1=>?_) λ c3 h1=>?_))
  ·exact nx 2 Z (oI h1 Z λ hk4 h1=>nx 5 Z (eX _ (oi h1).symm (gE Z Z)))
  exact nx 8 Z (eX _ (oi h1).symm (gE Z Z))
 exact nx 15 Z (eX _ (oi h1).symm (gE Z Z))
def iE (s_0:Bytes)(i_1:Int):Option (Int×Int) :=
 (
   if i_1 < 0 then
    some true
   else
    some (decide ((s_0.length:Int)≤i_1))
  : Option Bool).bind λ t2 =>
 if t2=true then
  some (0,0)
 else
  ck ((0:Int)≤i_1∧i_1 < (s_0.length:Int)) <|
  if byt s_0 i_1 < 128 then
   ck (inR (byt s_0 i_1)) <|
   some (byt s_0 i_1,1)
  else
   (
     if 194≤byt s_0 i_1 then
      if byt s_0 i_1≤223 then
       ck (inR (i_1+1)) <|
       (eg s_0 (i_1+1) 128 191).bind λ r10 =>
       some r10
      else
       some false
     else
      some false
    : Option Bool).bind λ t12 =>
   if t12=true then
    ck (inR (bG .u8 (byt s_0 i_1) 31)) <|
    ck ((0:Int)≤6) <|
    ck (inR (i_1+1)) <|
    ck ((0:Int)≤i_1+1∧i_1+1 < (s_0.length:Int)) <|
    ck (inR (bG .u8 (byt s_0 (i_1+1)) 63)) <|
    some (iOr .i64 (jC .i64 (bG .u8 (byt s_0 i_1) 31) 6) (bG .u8 (byt s_0 (i_1+1)) 63),2)
   else
    (
      if byt s_0 i_1=224 then
       some 160
      else
       some 128
     : Option Int).bind λ lo20 =>
    (
      if byt s_0 i_1=237 then
       some 159
      else
       some 191
     : Option Int).bind λ hi22 =>
    (
      if 224≤byt s_0 i_1 then
       if byt s_0 i_1≤239 then
        ck (inR (i_1+1)) <|
        (eg s_0 (i_1+1) lo20 hi22).bind λ r26 =>
        if r26=true then
         ck (inR (i_1+2)) <|
         (eg s_0 (i_1+2) 128 191).bind λ r30 =>
         some r30
        else
         some false
       else
        some false
      else
       some false
     : Option Bool).bind λ t32 =>
    if t32=true then
     ck (inR (bG .u8 (byt s_0 i_1) 15)) <|
     ck ((0:Int)≤12) <|
     ck (inR (i_1+1)) <|
     ck ((0:Int)≤i_1+1∧i_1+1 < (s_0.length:Int)) <|
     ck (inR (bG .u8 (byt s_0 (i_1+1)) 63)) <|
     ck ((0:Int)≤6) <|
     ck (inR (i_1+2)) <|
     ck ((0:Int)≤i_1+2∧i_1+2 < (s_0.length:Int)) <|
     ck (inR (bG .u8 (byt s_0 (i_1+2)) 63)) <|
     some (iOr .i64 (iOr .i64 (jC .i64 (bG .u8 (byt s_0 i_1) 15) 12) (jC .i64 (bG .u8 (byt s_0 (i_1+1)) 63) 6)) (bG .u8 (byt s_0 (i_1+2)) 63),3)
    else
     (
       if byt s_0 i_1=240 then
        some 144
       else
        some 128
      : Option Int).bind λ lo44 =>
     (
       if byt s_0 i_1=244 then
        some 143
       else
        some 191
      : Option Int).bind λ hi46 =>
     (
       if 240≤byt s_0 i_1 then
        if byt s_0 i_1≤244 then
         ck (inR (i_1+1)) <|
         (eg s_0 (i_1+1) lo44 hi46).bind λ r50 =>
         if r50=true then
          ck (inR (i_1+2)) <|
          (eg s_0 (i_1+2) 128 191).bind λ r54 =>
          if r54=true then
           ck (inR (i_1+3)) <|
           (eg s_0 (i_1+3) 128 191).bind λ r58 =>
           some r58
          else
           some false
         else
          some false
        else
         some false
       else
        some false
      : Option Bool).bind λ t60 =>
     if t60=true then
      ck (inR (bG .u8 (byt s_0 i_1) 7)) <|
      ck ((0:Int)≤18) <|
      ck (inR (i_1+1)) <|
      ck ((0:Int)≤i_1+1∧i_1+1 < (s_0.length:Int)) <|
      ck (inR (bG .u8 (byt s_0 (i_1+1)) 63)) <|
      ck ((0:Int)≤12) <|
      ck (inR (i_1+2)) <|
      ck ((0:Int)≤i_1+2∧i_1+2 < (s_0.length:Int)) <|
      ck (inR (bG .u8 (byt s_0 (i_1+2)) 63)) <|
      ck ((0:Int)≤6) <|
      ck (inR (i_1+3)) <|
      ck ((0:Int)≤i_1+3∧i_1+3 < (s_0.length:Int)) <|
      ck (inR (bG .u8 (byt s_0 (i_1+3)) 63)) <|
      some (iOr .i64 (iOr .i64 (iOr .i64 (jC .i64 (bG .u8 (byt s_0 i_1) 7) 18) (jC .i64 (bG .u8 (byt s_0 (i_1+1)) 63) 12)) (jC .i64 (bG .u8 (byt s_0 (i_1+2)) 63) 6)) (bG .u8 (byt s_0 (i_1+3)) 63),4)
     else
      some (0,0)
theorem nN (s_0:Bytes)(i_1:Int)(r:Int×Int)(h0:iE s_0 i_1=some r):aC Tryz.prog 149 [eS s_0,eI i_1] (·=.tuple [.p (eI r.1),.p (eI r.2)]):=by
 unfold iE at h0
 refine bc good Tryz.func149 Z Z Z λ w0=>mP (λ v:Int×Int=>.tuple [.p (eI v.1),.p (eI v.2)]) ?_
 refine nx 7 Z (bd h0 λ o83 h1 h0=>?_)
 refine kN o83 (λ v84=>⟨[(0,.p (eS s_0)),(1,.p (eI i_1)),(16,.p (eB v84))],[]⟩) ?_ ?_
 ·refine nx 1 Z (fB [16] h0 Z (λ c3 h0=>?_) λ c3 h0=>?_)
  ·exact nx 7 Z (mQ (oi h0) Z (aA ⟨sr,sr,trivial⟩))
  refine nx 6 Z (oI h0 Z λ hk4 h0=>nx 8 Z (fD [21] h0 Z (λ c5 h0=>?_) λ c5 h0=>?_))
  ·exact nx 4 Z (cc' h0 λ hk6 h0=>mO Z (d6 Z Z Z Z Z Z Z Z (gV hk6) (nx 4 Z (mQ (oi h0) Z (aA ⟨sr,sr,trivial⟩)))))
  refine nx 4 Z (bd h0 λ o85 h1 h0=>?_)
  refine kN o85 (λ v86=>⟨[(0,.p (eS s_0)),(1,.p (eI i_1)),(6,.p (eK .u8 (byt s_0 i_1))),(35,.p (eB v86))],[]⟩) ?_ ?_
  ·refine nx 1 Z (fB [35] h0 Z (λ c13 h0=>?_) λ c13 h0=>?_)
   ·exact nx 5 Z (cc' h0 λ hk14 h0=>mO Z (d6 Z Z Z Z Z Z Z Z (gV hk14) (cc' h0 λ hk15 h0=>mO Z (jZ Z Z Z Z Z Z hk15 (nx 2 Z (oA h0 Z Z λ hk16 h0=>oI h0 Z λ hk17 h0=>nx 1 Z (cc' h0 λ hk18 h0=>mO Z (d6 Z Z Z Z Z Z Z Z (gV hk18) (nx 5 Z (mQ (oi h0) Z (aA ⟨sr,sr,trivial⟩)))))))))))
   refine nx 8 Z (bd h0 λ o87 h1 h0=>?_)
   refine kN o87 (λ v88=>⟨[(0,.p (eS s_0)),(1,.p (eI i_1)),(6,.p (eK .u8 (byt s_0 i_1))),(7,.p (eK .u8 v88)),(8,.p (eK .u8 191))],[]⟩) ?_ ?_
   ·refine nx 2 Z (bd h0 λ o89 h1 h0=>?_)
    refine kN o89 (λ v90=>⟨[(0,.p (eS s_0)),(1,.p (eI i_1)),(6,.p (eK .u8 (byt s_0 i_1))),(7,.p (eK .u8 o87)),(8,.p (eK .u8 v90))],[]⟩) ?_ ?_
    ·refine nx 3 Z (bd h0 λ o91 h1 h0=>?_)
     refine kN o91 (λ v92=>⟨[(0,.p (eS s_0)),(1,.p (eI i_1)),(6,.p (eK .u8 (byt s_0 i_1))),(70,.p (eB v92))],[]⟩) ?_ ?_
     ·refine nx 1 Z (fB [70] h0 Z (λ c33 h0=>?_) λ c33 h0=>?_)
      ·refine nx 2 Z (cc' h0 λ hk34 h0=>cc' h0 λ hk35 h0=>cc' h0 λ hk36 h0=>cc' h0 λ hk37 h0=>cc' h0 λ hk38 h0=>cc' h0 λ hk39 h0=>cc' h0 λ hk40 h0=>cc' h0 λ hk41 h0=>cc' h0 λ hk42 h0=>mD [(0,.p (eS s_0)),(1,.p (eI i_1)),(6,.p (eK .u8 (byt s_0 i_1)))] Z ⟨Z,Z,Z,trivial⟩ Z (dR 2 Z (dq (.p (eI (bG .u8 (byt s_0 i_1) 15))) [72] Z (λ _ e _ q=>aj Z (d6 Z Z Z Z Z Z Z (e _ _ Z) (gV hk34) q)) Z (dq (.p (eI (jC .i64 (bG .u8 (byt s_0 i_1) 15) 12))) [73] Z (λ _ e _ q=>aj Z (jZ Z Z Z (e _ _ Z) Z Z hk35 q)) Z (dR 2 Z (dq (.p (eI (i_1+1))) [76] Z (λ _ e _ q=>aj Z (ee Z Z Z (e _ _ Z) Z Z hk36 q)) Z (dq (.p (eK .u8 (byt s_0 (i_1+1)))) [75,77] Z (λ _ e _ q=>aj Z (iC Z Z Z Z Z (e _ _ Z) (e _ _ Z) hk37 q)) Z (dR 1 Z (dq (.p (eI (bG .u8 (byt s_0 (i_1+1)) 63))) [79] Z (λ _ e _ q=>aj Z (d6 Z Z Z Z Z Z Z (e _ _ Z) (gV hk38) q)) Z (dq (.p (eI (jC .i64 (bG .u8 (byt s_0 (i_1+1)) 63) 6))) [80] Z (λ _ e _ q=>aj Z (jZ Z Z Z (e _ _ Z) Z Z hk39 q)) Z (dR 3 Z (dq (.p (eI (i_1+2))) [84] Z (λ _ e _ q=>aj Z (ee Z Z Z (e _ _ Z) Z Z hk40 q)) Z ?_))))))))))))
       refine dq (.p (eK .u8 (byt s_0 (i_1+2)))) [83,85] Z (λ _ e _ q=>aj Z (iC Z Z Z Z Z (e _ _ Z) (e _ _ Z) hk41 q)) Z (dR 1 Z (dq (.p (eI (bG .u8 (byt s_0 (i_1+2)) 63))) [87] Z (λ _ e _ q=>aj Z (d6 Z Z Z Z Z Z Z (e _ _ Z) (gV hk42) q)) Z (dR 3 Z ?_)))
       refine dE Z (nx 2 Z ?_)
       exact mQ (oi h0) Z (aA ⟨sr,sr,trivial⟩)
      refine nx 8 Z (bd h0 λ o93 h1 h0=>?_)
      refine kN o93 (λ v94=>⟨[(0,.p (eS s_0)),(1,.p (eI i_1)),(6,.p (eK .u8 (byt s_0 i_1))),(7,.p (eK .u8 v94)),(8,.p (eK .u8 191))],[]⟩) ?_ ?_
      ·refine nx 2 Z (bd h0 λ o95 h1 h0=>?_)
       refine kN o95 (λ v96=>⟨[(0,.p (eS s_0)),(1,.p (eI i_1)),(6,.p (eK .u8 (byt s_0 i_1))),(7,.p (eK .u8 o93)),(8,.p (eK .u8 v96))],[]⟩) ?_ ?_
       ·refine nx 3 Z (bd h0 λ o97 h1 h0=>?_)
        refine kN o97 (λ v98=>⟨[(0,.p (eS s_0)),(1,.p (eI i_1)),(6,.p (eK .u8 (byt s_0 i_1))),(119,.p (eB v98))],[]⟩) ?_ ?_
        ·refine nx 1 Z (fB [119] h0 Z (λ c61 h0=>?_) λ c61 h0=>?_)
         ·refine nx 2 Z (cc' h0 λ hk62 h0=>cc' h0 λ hk63 h0=>cc' h0 λ hk64 h0=>cc' h0 λ hk65 h0=>cc' h0 λ hk66 h0=>cc' h0 λ hk67 h0=>cc' h0 λ hk68 h0=>cc' h0 λ hk69 h0=>cc' h0 λ hk70 h0=>cc' h0 λ hk71 h0=>cc' h0 λ hk72 h0=>cc' h0 λ hk73 h0=>cc' h0 λ hk74 h0=>mD [(0,.p (eS s_0)),(1,.p (eI i_1)),(6,.p (eK .u8 (byt s_0 i_1)))] Z ⟨Z,Z,Z,trivial⟩ Z (dR 2 Z (dq (.p (eI (bG .u8 (byt s_0 i_1) 7))) [121] Z (λ _ e _ q=>aj Z (d6 Z Z Z Z Z Z Z (e _ _ Z) (gV hk62) q)) Z (dq (.p (eI (jC .i64 (bG .u8 (byt s_0 i_1) 7) 18))) [122] Z (λ _ e _ q=>aj Z (jZ Z Z Z (e _ _ Z) Z Z hk63 q)) Z (dR 2 Z (dq (.p (eI (i_1+1))) [125] Z (λ _ e _ q=>aj Z (ee Z Z Z (e _ _ Z) Z Z hk64 q)) Z (dq (.p (eK .u8 (byt s_0 (i_1+1)))) [124,126] Z (λ _ e _ q=>aj Z (iC Z Z Z Z Z (e _ _ Z) (e _ _ Z) hk65 q)) Z (dR 1 Z (dq (.p (eI (bG .u8 (byt s_0 (i_1+1)) 63))) [128] Z (λ _ e _ q=>aj Z (d6 Z Z Z Z Z Z Z (e _ _ Z) (gV hk66) q)) Z (dq (.p (eI (jC .i64 (bG .u8 (byt s_0 (i_1+1)) 63) 12))) [129] Z (λ _ e _ q=>aj Z (jZ Z Z Z (e _ _ Z) Z Z hk67 q)) Z ?_))))))))))
          refine dR 3 Z (dq (.p (eI (i_1+2))) [133] Z (λ _ e _ q=>aj Z (ee Z Z Z (e _ _ Z) Z Z hk68 q)) Z (dq (.p (eK .u8 (byt s_0 (i_1+2)))) [132,134] Z (λ _ e _ q=>aj Z (iC Z Z Z Z Z (e _ _ Z) (e _ _ Z) hk69 q)) Z (dR 1 Z (dq (.p (eI (bG .u8 (byt s_0 (i_1+2)) 63))) [136] Z (λ _ e _ q=>aj Z (d6 Z Z Z Z Z Z Z (e _ _ Z) (gV hk70) q)) Z (dq (.p (eI (jC .i64 (bG .u8 (byt s_0 (i_1+2)) 63) 6))) [137] Z (λ _ e _ q=>aj Z (jZ Z Z Z (e _ _ Z) Z Z hk71 q)) Z (dR 3 Z (dq (.p (eI (i_1+3))) [141] Z (λ _ e _ q=>aj Z (ee Z Z Z (e _ _ Z) Z Z hk72 q)) Z (dq (.p (eK .u8 (byt s_0 (i_1+3)))) [140,142] Z (λ _ e _ q=>aj Z (iC Z Z Z Z Z (e _ _ Z) (e _ _ Z) hk73 q)) Z (dR 1 Z (dq (.p (eI (bG .u8 (byt s_0 (i_1+3)) 63))) [144] Z (λ _ e _ q=>aj Z (d6 Z Z Z Z Z Z Z (e _ _ Z) (gV hk74) q)) Z (dR 3 Z ?_)))))))))))
          refine dE Z (nx 1 Z ?_)
          exact mG (gE (t:=⟨[(4,.p (eI (iOr .i64 (iOr .i64 (iOr .i64 (jC .i64 (bG .u8 (byt s_0 i_1) 7) 18) (jC .i64 (bG .u8 (byt s_0 (i_1+1)) 63) 12)) (jC .i64 (bG .u8 (byt s_0 (i_1+2)) 63) 6)) (bG .u8 (byt s_0 (i_1+3)) 63)))),(5,.p (eI 4))],[]⟩) Z Z) (nx 1 Z (mQ (oi h0) Z (aA ⟨sr,sr,trivial⟩)))
         exact nx 8 Z (mQ (oi h0) Z (aA ⟨sr,sr,trivial⟩))
        refine nx 4 Z (fD [95,96] h1 Z (λ c47 h1=>?_) λ c47 h1=>?_)
        ·refine nx 4 Z (fD [98,99,100] h1 Z (λ c48 h1=>?_) λ c48 h1=>?_)
         ·refine nx 2 Z (oA h1 Z Z λ hk49 h1=>nx 2 Z (bd h1 λ r50 e51 h1=>oK (gZ s_0 (i_1+1) o93 o95 _ e51) Z ⟨sr,sr,sr,sr,trivial⟩ Tryz.call163 Z (nx 2 Z ?_)))
          refine fB [106,107,108] h1 Z (λ c52 h1=>?_) λ c52 h1=>?_
          ·refine nx 2 Z (oA h1 Z Z λ hk53 h1=>bd h1 λ r54 e55 h1=>oK (gZ s_0 (i_1+2) 128 191 _ e55) Z ⟨sr,sr,sr,sr,trivial⟩ Tryz.call163 Z (nx 2 Z ?_))
           refine fB [112,113,114] h1 Z (λ c56 h1=>?_) λ c56 h1=>?_
           ·exact nx 2 Z (oA h1 Z Z λ hk57 h1=>bd h1 λ r58 e59 h1=>oK (gZ s_0 (i_1+3) 128 191 _ e59) Z ⟨sr,sr,sr,sr,trivial⟩ Tryz.call163 Z (nx 2 Z (eX _ (oi h1).symm (gE Z Z))))
           exact nx 6 Z (eX _ (oi h1).symm (gE Z Z))
          exact nx 12 Z (eX _ (oi h1).symm (gE Z Z))
         exact nx 20 Z (eX _ (oi h1).symm (gE Z Z))
        exact nx 24 Z (eX _ (oi h1).symm (gE Z Z))
       refine nx 5 Z (fD [93] h1 Z (λ c45 h1=>?_) λ c45 h1=>?_)
       ·exact nx 4 Z (eX _ (oi h1).symm (gE Z Z))
       exact nx 2 Z (eX _ (oi h1).symm (gE Z Z))
      refine nx 5 Z (fD [91] h1 Z (λ c43 h1=>?_) λ c43 h1=>?_)
      ·exact nx 4 Z (eX _ (oi h1).symm (gE Z Z))
      exact nx 2 Z (eX _ (oi h1).symm (gE Z Z))
     refine nx 4 Z (fD [52,53] h1 Z (λ c23 h1=>?_) λ c23 h1=>?_)
     ·refine nx 4 Z (fD [55,56,57] h1 Z (λ c24 h1=>?_) λ c24 h1=>?_)
      ·refine nx 2 Z (oA h1 Z Z λ hk25 h1=>nx 2 Z (bd h1 λ r26 e27 h1=>oK (gZ s_0 (i_1+1) o87 o89 _ e27) Z ⟨sr,sr,sr,sr,trivial⟩ Tryz.call163 Z (nx 2 Z ?_)))
       refine fB [63,64,65] h1 Z (λ c28 h1=>?_) λ c28 h1=>?_
       ·exact nx 2 Z (oA h1 Z Z λ hk29 h1=>bd h1 λ r30 e31 h1=>oK (gZ s_0 (i_1+2) 128 191 _ e31) Z ⟨sr,sr,sr,sr,trivial⟩ Tryz.call163 Z (nx 2 Z (eX _ (oi h1).symm (gE Z Z))))
       exact nx 6 Z (eX _ (oi h1).symm (gE Z Z))
      exact nx 14 Z (eX _ (oi h1).symm (gE Z Z))
     exact nx 18 Z (eX _ (oi h1).symm (gE Z Z))
    refine nx 5 Z (fD [50] h1 Z (λ c21 h1=>?_) λ c21 h1=>?_)
    ·exact nx 4 Z (eX _ (oi h1).symm (gE Z Z))
    exact nx 2 Z (eX _ (oi h1).symm (gE Z Z))
   refine nx 5 Z (fD [48] h1 Z (λ c19 h1=>?_) λ c19 h1=>?_)
   ·exact nx 4 Z (eX _ (oi h1).symm (gE Z Z))
   exact nx 2 Z (eX _ (oi h1).symm (gE Z Z))
  refine nx 4 Z (fD [25,26] h1 Z (λ c7 h1=>?_) λ c7 h1=>?_)
  ·refine nx 4 Z (fD [28,29,30] h1 Z (λ c8 h1=>?_) λ c8 h1=>?_)
   ·exact nx 2 Z (oA h1 Z Z λ hk9 h1=>bd h1 λ r10 e11 h1=>oK (gZ s_0 (i_1+1) 128 191 _ e11) Z ⟨sr,sr,sr,sr,trivial⟩ Tryz.call163 Z (nx 2 Z (eX _ (oi h1).symm (gE Z Z))))
   exact nx 6 Z (eX _ (oi h1).symm (gE Z Z))
  exact nx 10 Z (eX _ (oi h1).symm (gE Z Z))
 refine nx 4 Z (fD [10,11] h1 Z (λ c1 h1=>?_) λ c1 h1=>?_)
 ·exact nx 6 Z (eX _ (oi h1).symm (gE Z Z))
 exact nx 2 Z (oLs Z (nx 3 Z (eX _ (oi h1).symm (gE Z Z))))
def lw (b_0:Int):Option Int :=
 (
   if 48≤b_0 then
    some (decide (b_0≤57))
   else
    some false
  : Option Bool).bind λ t2 =>
 if t2=true then
  ck (inR (IntKind.wrap .u8 (b_0 - 48))) <|
  some (IntKind.wrap .u8 (b_0 - 48))
 else
  (
    if 97≤b_0 then
     some (decide (b_0≤102))
    else
     some false
   : Option Bool).bind λ t6 =>
  if t6=true then
   ck (inR (IntKind.wrap .u8 (b_0 - 97))) <|
   ck (inR ((IntKind.wrap .u8 (b_0 - 97))+10)) <|
   some ((IntKind.wrap .u8 (b_0 - 97))+10)
  else
   some (-1)
theorem qN (b_0:Int)(r:Int)(h0:lw b_0=some r):aC Tryz.prog 177 [eK .u8 b_0] (·=.p (eI r)):=by
 unfold lw at h0
 refine bc good Tryz.func177 Z Z Z λ w0=>mP (λ v:Int=>.p (eI v)) ?_
 refine nx 6 Z (bd h0 λ o12 h1 h0=>?_)
 refine kN o12 (λ v13=>⟨[(0,.p (eK .u8 b_0)),(8,.p (eB v13))],[]⟩) ?_ ?_
 ·refine nx 1 Z (fB [8] h0 Z (λ c3 h0=>?_) λ c3 h0=>?_)
  ·exact nx 5 Z (cc' h0 λ hk4 h0=>mO Z (d6 Z Z Z Z Z Z Z Z (gV hk4) (nx 3 Z (mQ (oi h0) Z (sr)))))
  refine nx 4 Z (bd h0 λ o14 h1 h0=>?_)
  refine kN o14 (λ v15=>⟨[(0,.p (eK .u8 b_0)),(17,.p (eB v15))],[]⟩) ?_ ?_
  ·refine nx 1 Z (fB [17] h0 Z (λ c7 h0=>?_) λ c7 h0=>?_)
   ·exact nx 5 Z (cc' h0 λ hk8 h0=>mO Z (d6 Z Z Z Z Z Z Z Z (gV hk8) (oA h0 Z Z λ hk9 h0=>nx 3 Z (mQ (oi h0) Z (sr)))))
   exact nx 7 Z (mQ (oi h0) Z (sr))
  refine nx 4 Z (fD [13,14] h1 Z (λ c5 h1=>?_) λ c5 h1=>?_)
  ·exact nx 4 Z (eX _ (oi h1).symm (gE Z Z))
  exact nx 4 Z (eX _ (oi h1).symm (gE Z Z))
 refine nx 4 Z (fD [4,5] h1 Z (λ c1 h1=>?_) λ c1 h1=>?_)
 ·exact nx 4 Z (eX _ (oi h1).symm (gE Z Z))
 exact nx 4 Z (eX _ (oi h1).symm (gE Z Z))
def eP (s_0:Bytes)(i_1:Int):Nat→Int→Int→Option (Int×Int)
 | 0,_,_=>none
 | m+1,c19,n20 =>
 (
   ck (inR (i_1+n20)) <|
   if i_1+n20 < (s_0.length:Int) then
    if n20 < 6 then
     ck (inR (i_1+n20)) <|
     ck ((0:Int)≤i_1+n20∧i_1+n20 < (s_0.length:Int)) <|
     (lw (byt s_0 (i_1+n20))).bind λ r26 =>
     some (decide (0≤r26))
    else
     some false
   else
    some false
  : Option Bool).bind λ t28 =>
 if t28=true then
  ck (inR (16*c19)) <|
  ck (inR (i_1+n20)) <|
  ck ((0:Int)≤i_1+n20∧i_1+n20 < (s_0.length:Int)) <|
  (lw (byt s_0 (i_1+n20))).bind λ r33 =>
  ck (inR ((16*c19)+r33)) <|
  ck (inR (n20+1)) <|
  eP s_0 i_1 m ((16*c19)+r33) (n20+1)
 else
  some (c19,n20)
def kA (n:Nat)(s_0:Bytes)(i_1:Int):Option (Int×Int×Int) :=
 (eP s_0 i_1 n 0 0).bind λ q58 =>
 ck (inR (i_1+q58.2)) <|
 if (s_0.length:Int)≤i_1+q58.2 then
  some (0,0,40)
 else
  (
    if q58.2=0 then
     some true
    else
     ck (inR (i_1+q58.2)) <|
     ck ((0:Int)≤i_1+q58.2∧i_1+q58.2 < (s_0.length:Int)) <|
     if byt s_0 (i_1+q58.2)=125 then
      if 1 < q58.2 then
       ck ((0:Int)≤i_1∧i_1 < (s_0.length:Int)) <|
       if byt s_0 i_1=48 then
        some true
       else
        if 1114111 < q58.1 then
         some true
        else
         if 55296≤q58.1 then
          some (decide (q58.1≤57343))
         else
          some false
      else
       if 1114111 < q58.1 then
        some true
       else
        if 55296≤q58.1 then
         some (decide (q58.1≤57343))
        else
         some false
     else
      some true
   : Option Bool).bind λ t54 =>
  if t54=true then
   some (0,0,2)
  else
   ck (inR (i_1+q58.2)) <|
   ck (inR ((i_1+q58.2)+1)) <|
   some (q58.1,(i_1+q58.2)+1,0)
theorem tg (n:Nat)(s_0:Bytes)(i_1:Int)(r:Int×Int×Int)(h0:kA n s_0 i_1=some r):aC Tryz.prog 173 [eS s_0,eI i_1] (·=.tuple [.p (eI r.1),.p (eI r.2.1),.p (eI r.2.2)]):=by
 unfold kA at h0
 refine bc good Tryz.func173 Z Z Z λ w0=>mP (λ v:Int×Int×Int=>.tuple [.p (eI v.1),.p (eI v.2.1),.p (eI v.2.2)]) ?_
 refine nx 13 Z (bd h0 λ o61 h1 h0=>?_)
 refine kE 0 o61 (λ v62=>⟨[(0,.p (eS s_0)),(1,.p (eI i_1)),(7,.p (eI v62.1)),(8,.p (eI v62.2))],[]⟩) ?_ ?_
 ·refine nx 6 Z (oA h0 Z Z λ hk41 h0=>nx 1 Z (oLs Z (nx 2 Z (fD [44] h0 Z (λ c42 h0=>?_) λ c42 h0=>?_))))
  ·exact nx 8 Z (mQ (oi h0) Z (aA ⟨sr,sr,sr,trivial⟩))
  refine nx 4 Z (bd h0 λ o63 h1 h0=>?_)
  refine kN o63 (λ v64=>⟨[(1,.p (eI i_1)),(7,.p (eI o61.1)),(8,.p (eI o61.2)),(76,.p (eB v64))],[]⟩) ?_ ?_
  ·refine nx 1 Z (fB [76] h0 Z (λ c55 h0=>?_) λ c55 h0=>?_)
   ·exact nx 8 Z (mQ (oi h0) Z (aA ⟨sr,sr,sr,trivial⟩))
   exact nx 7 Z (oA h0 Z Z λ hk56 h0=>oA h0 Z Z λ hk57 h0=>nx 5 Z (mQ (oi h0) Z (aA ⟨sr,sr,sr,trivial⟩)))
  refine nx 4 Z (fD [46,47] h1 Z (λ c43 h1=>?_) λ c43 h1=>?_)
  ·exact nx 30 Z (eX _ (oi h1).symm (gE Z Z))
  refine nx 3 Z (oA h1 Z Z λ hk44 h1=>oI h1 Z λ hk45 h1=>nx 3 Z (fN [53,54,55] h1 Z (λ c46 h1=>?_) λ c46 h1=>?_))
  ·refine nx 3 Z (fD [57,58] h1 Z (λ c47 h1=>?_) λ c47 h1=>?_)
   ·refine nx 2 Z (oI h1 Z λ hk48 h1=>nx 4 Z (fD [62,63,64,65] h1 Z (λ c49 h1=>?_) λ c49 h1=>?_))
    ·exact nx 12 Z (eX _ (oi h1).symm (gE Z Z))
    refine nx 4 Z (fD [67,68,69] h1 Z (λ c50 h1=>?_) λ c50 h1=>?_)
    ·exact nx 8 Z (eX _ (oi h1).symm (gE Z Z))
    refine nx 3 Z (fD [71,72] h1 Z (λ c51 h1=>?_) λ c51 h1=>?_)
    ·exact nx 5 Z (eX _ (oi h1).symm (gE Z Z))
    exact nx 5 Z (eX _ (oi h1).symm (gE Z Z))
   refine nx 11 Z (fD [67,68,69] h1 Z (λ c52 h1=>?_) λ c52 h1=>?_)
   ·exact nx 8 Z (eX _ (oi h1).symm (gE Z Z))
   refine nx 3 Z (fD [71,72] h1 Z (λ c53 h1=>?_) λ c53 h1=>?_)
   ·exact nx 5 Z (eX _ (oi h1).symm (gE Z Z))
   exact nx 5 Z (eX _ (oi h1).symm (gE Z Z))
  exact nx 22 Z (eX _ (oi h1).symm (gE Z Z))
 refine lG (λ (q65:Int×Int)=>⟨[(0,.p (eS s_0)),(1,.p (eI i_1)),(7,.p (eI q65.1)),(8,.p (eI q65.2))],[]⟩) (λ m (q65:Int×Int)=>eP s_0 i_1 m q65.1 q65.2) Y (0,0) h1 (gE Z Z) ?_
 rintro m ⟨c19,n20⟩ h1
 replace h1:eP s_0 i_1 (m+1) c19 n20=some o61:=h1
 rw [eP] at h1
 refine nx 2 Z (bd h1 λ o66 h2 h1=>?_)
 refine kN o66 (λ v67=>⟨[(0,.p (eS s_0)),(1,.p (eI i_1)),(7,.p (eI c19)),(8,.p (eI n20)),(27,.p (eB v67))],[]⟩) ?_ ?_
 ·refine nx 1 Z (fB [27] h1 Z (λ c29 h1=>?_) λ c29 h1=>?_)
  ·exact nx 6 Z (oA h1 Z Z λ hk30 h1=>nx 3 Z (oA h1 Z Z λ hk31 h1=>oI h1 Z λ hk32 h1=>bd h1 λ r33 e34 h1=>oK (qN (byt s_0 (i_1+n20)) _ e34) Z ⟨sr,trivial⟩ Tryz.call177 Z (oA h1 Z Z λ hk35 h1=>nx 4 Z (oA h1 Z Z λ hk36 h1=>nx 2 Z (eX ((16*c19)+r33,n20+1) h1 (gE Z Z))))))
  exact nx 2 Z (eXi _ (oi h1).symm (gE Z Z))
 refine nx 3 Z (oA h2 Z Z λ hk21 h2=>nx 1 Z (oLs Z (nx 2 Z (fD [14,15] h2 Z (λ c22 h2=>?_) λ c22 h2=>?_))))
 ·refine nx 4 Z (fD [17,18,19] h2 Z (λ c23 h2=>?_) λ c23 h2=>?_)
  ·exact nx 3 Z (oA h2 Z Z λ hk24 h2=>oI h2 Z λ hk25 h2=>bd h2 λ r26 e27 h2=>oK (qN (byt s_0 (i_1+n20)) _ e27) Z ⟨sr,trivial⟩ Tryz.call177 Z (nx 3 Z (eX _ (oi h2).symm (gE Z Z))))
  exact nx 9 Z (eX _ (oi h2).symm (gE Z Z))
 exact nx 13 Z (eX _ (oi h2).symm (gE Z Z))
def jP (c_0:Int):Option Bytes :=
 if c_0 < 128 then
  ck ((0:Int)≤IntKind.wrap .u8 (c_0)∧IntKind.wrap .u8 (c_0) < 256) <|
  some [u8 (IntKind.wrap .u8 (c_0))]
 else
  if c_0 < 2048 then
   ck ((0:Int)≤6) <|
   ck ((0:Int)≤IntKind.wrap .u8 (iOr .i64 192 (cR .i64 c_0 6))∧IntKind.wrap .u8 (iOr .i64 192 (cR .i64 c_0 6)) < 256) <|
   ck ((0:Int)≤IntKind.wrap .u8 (iOr .i64 128 (bG .i64 c_0 63))∧IntKind.wrap .u8 (iOr .i64 128 (bG .i64 c_0 63)) < 256) <|
   some [u8 (IntKind.wrap .u8 (iOr .i64 192 (cR .i64 c_0 6))),u8 (IntKind.wrap .u8 (iOr .i64 128 (bG .i64 c_0 63)))]
  else
   if c_0 < 65536 then
    ck ((0:Int)≤12) <|
    ck ((0:Int)≤6) <|
    ck ((0:Int)≤IntKind.wrap .u8 (iOr .i64 224 (cR .i64 c_0 12))∧IntKind.wrap .u8 (iOr .i64 224 (cR .i64 c_0 12)) < 256) <|
    ck ((0:Int)≤IntKind.wrap .u8 (iOr .i64 128 (bG .i64 (cR .i64 c_0 6) 63))∧IntKind.wrap .u8 (iOr .i64 128 (bG .i64 (cR .i64 c_0 6) 63)) < 256) <|
    ck ((0:Int)≤IntKind.wrap .u8 (iOr .i64 128 (bG .i64 c_0 63))∧IntKind.wrap .u8 (iOr .i64 128 (bG .i64 c_0 63)) < 256) <|
    some [u8 (IntKind.wrap .u8 (iOr .i64 224 (cR .i64 c_0 12))),u8 (IntKind.wrap .u8 (iOr .i64 128 (bG .i64 (cR .i64 c_0 6) 63))),u8 (IntKind.wrap .u8 (iOr .i64 128 (bG .i64 c_0 63)))]
   else
    ck ((0:Int)≤18) <|
    ck ((0:Int)≤12) <|
    ck ((0:Int)≤6) <|
    ck ((0:Int)≤IntKind.wrap .u8 (iOr .i64 240 (cR .i64 c_0 18))∧IntKind.wrap .u8 (iOr .i64 240 (cR .i64 c_0 18)) < 256) <|
    ck ((0:Int)≤IntKind.wrap .u8 (iOr .i64 128 (bG .i64 (cR .i64 c_0 12) 63))∧IntKind.wrap .u8 (iOr .i64 128 (bG .i64 (cR .i64 c_0 12) 63)) < 256) <|
    ck ((0:Int)≤IntKind.wrap .u8 (iOr .i64 128 (bG .i64 (cR .i64 c_0 6) 63))∧IntKind.wrap .u8 (iOr .i64 128 (bG .i64 (cR .i64 c_0 6) 63)) < 256) <|
    ck ((0:Int)≤IntKind.wrap .u8 (iOr .i64 128 (bG .i64 c_0 63))∧IntKind.wrap .u8 (iOr .i64 128 (bG .i64 c_0 63)) < 256) <|
    some [u8 (IntKind.wrap .u8 (iOr .i64 240 (cR .i64 c_0 18))),u8 (IntKind.wrap .u8 (iOr .i64 128 (bG .i64 (cR .i64 c_0 12) 63))),u8 (IntKind.wrap .u8 (iOr .i64 128 (bG .i64 (cR .i64 c_0 6) 63))),u8 (IntKind.wrap .u8 (iOr .i64 128 (bG .i64 c_0 63)))]
theorem sK (c_0:Int)(r:Bytes)(h0:jP c_0=some r):aC Tryz.prog 174 [eI c_0] (·=.p (eS r)):=by
 unfold jP at h0
 refine bc good Tryz.func174 Z Z Z λ w0=>mP (λ v:Bytes=>.p (eS v)) ?_
 refine nx 10 Z (fD [4] h0 Z (λ c1 h0=>?_) λ c1 h0=>?_)
 ·exact nx 5 Z (cc' h0 λ hk2 h0=>mO Z (bw eU [u8 (IntKind.wrap .u8 (c_0))] Z Z Z Z Z Z Z Z Z Z Z Z Z (congr (congrArg List.cons (iq hk2)) Z) (mO Z (lz [u8 (IntKind.wrap .u8 (c_0))] Z Z Z Z Z Z Z Z Z Z Z (nx 3 Z (mQ (oi h0) Z (sr)))))))
 refine nx 8 Z (fD [10] h0 Z (λ c3 h0=>?_) λ c3 h0=>?_)
 ·exact nx 4 Z (cc' h0 λ hk4 h0=>mO Z (jZ Z Z Z Z Z Z hk4 (nx 6 Z (cc' h0 λ hk6 h0=>cc' h0 λ hk5 h0=>mO Z (bw eU [u8 (IntKind.wrap .u8 (iOr .i64 192 (cR .i64 c_0 6))),u8 (IntKind.wrap .u8 (iOr .i64 128 (bG .i64 c_0 63)))] Z Z Z Z Z Z Z Z Z Z Z Z Z (congr (congrArg List.cons (iq hk6)) (congr (congrArg List.cons (iq hk5)) Z)) (mO Z (lz [u8 (IntKind.wrap .u8 (iOr .i64 192 (cR .i64 c_0 6))),u8 (IntKind.wrap .u8 (iOr .i64 128 (bG .i64 c_0 63)))] Z Z Z Z Z Z Z Z Z Z Z (nx 3 Z (mQ (oi h0) Z (sr))))))))))
 refine nx 8 Z (fD [22] h0 Z (λ c7 h0=>?_) λ c7 h0=>?_)
 ·refine nx 4 Z (cc' h0 λ hk8 h0=>mO Z (jZ Z Z Z Z Z Z hk8 (nx 3 Z (cc' h0 λ hk9 h0=>mO Z (jZ Z Z Z Z Z Z hk9 (nx 7 Z (cc' h0 λ hk12 h0=>cc' h0 λ hk11 h0=>cc' h0 λ hk10 h0=>mO Z (bw eU [u8 (IntKind.wrap .u8 (iOr .i64 224 (cR .i64 c_0 12))),u8 (IntKind.wrap .u8 (iOr .i64 128 (bG .i64 (cR .i64 c_0 6) 63))),u8 (IntKind.wrap .u8 (iOr .i64 128 (bG .i64 c_0 63)))] Z Z Z Z Z Z Z Z Z Z Z Z Z (congr (congrArg List.cons (iq hk12)) (congr (congrArg List.cons (iq hk11)) (congr (congrArg List.cons (iq hk10)) Z))) (mO Z (lz [u8 (IntKind.wrap .u8 (iOr .i64 224 (cR .i64 c_0 12))),u8 (IntKind.wrap .u8 (iOr .i64 128 (bG .i64 (cR .i64 c_0 6) 63))),u8 (IntKind.wrap .u8 (iOr .i64 128 (bG .i64 c_0 63)))] Z Z Z Z Z Z Z Z Z Z Z ?_))))))))))
  exact nx 3 Z (mQ (oi h0) Z (sr))
 refine nx 5 Z (cc' h0 λ hk13 h0=>mO Z (jZ Z Z Z Z Z Z hk13 (nx 3 Z (cc' h0 λ hk14 h0=>mO Z (jZ Z Z Z Z Z Z hk14 (nx 4 Z (cc' h0 λ hk15 h0=>mO Z (jZ Z Z Z Z Z Z hk15 (nx 7 Z (cc' h0 λ hk19 h0=>?_))))))))))
 exact cc' h0 λ hk18 h0=>cc' h0 λ hk17 h0=>cc' h0 λ hk16 h0=>mO Z (bw eU [u8 (IntKind.wrap .u8 (iOr .i64 240 (cR .i64 c_0 18))),u8 (IntKind.wrap .u8 (iOr .i64 128 (bG .i64 (cR .i64 c_0 12) 63))),u8 (IntKind.wrap .u8 (iOr .i64 128 (bG .i64 (cR .i64 c_0 6) 63))),u8 (IntKind.wrap .u8 (iOr .i64 128 (bG .i64 c_0 63)))] Z Z Z Z Z Z Z Z Z Z Z Z Z (congr (congrArg List.cons (iq hk19)) (congr (congrArg List.cons (iq hk18)) (congr (congrArg List.cons (iq hk17)) (congr (congrArg List.cons (iq hk16)) Z)))) (mO Z (lz [u8 (IntKind.wrap .u8 (iOr .i64 240 (cR .i64 c_0 18))),u8 (IntKind.wrap .u8 (iOr .i64 128 (bG .i64 (cR .i64 c_0 12) 63))),u8 (IntKind.wrap .u8 (iOr .i64 128 (bG .i64 (cR .i64 c_0 6) 63))),u8 (IntKind.wrap .u8 (iOr .i64 128 (bG .i64 c_0 63)))] Z Z Z Z Z Z Z Z Z Z Z (nx 2 Z (mG (gE (t:=⟨[(2,.p (eS [u8 (IntKind.wrap .u8 (iOr .i64 240 (cR .i64 c_0 18))),u8 (IntKind.wrap .u8 (iOr .i64 128 (bG .i64 (cR .i64 c_0 12) 63))),u8 (IntKind.wrap .u8 (iOr .i64 128 (bG .i64 (cR .i64 c_0 6) 63))),u8 (IntKind.wrap .u8 (iOr .i64 128 (bG .i64 c_0 63)))]))],[]⟩) Z Z) (nx 1 Z (mQ (oi h0) Z (sr))))))))
def jb (n:Nat)(s_0:Bytes)(i_1:Int):Option (Bytes×Int×Int) :=
 ck (inR (i_1+1)) <|
 if (s_0.length:Int)≤i_1+1 then
  some (([]:Bytes),0,40)
 else
  ck (inR (i_1+1)) <|
  ck ((0:Int)≤i_1+1∧i_1+1 < (s_0.length:Int)) <|
  if byt s_0 (i_1+1)=110 then
   ck (inR (i_1+2)) <|
   some (([10]:Bytes),i_1+2,0)
  else
   if byt s_0 (i_1+1)=114 then
    ck (inR (i_1+2)) <|
    some (([13]:Bytes),i_1+2,0)
   else
    if byt s_0 (i_1+1)=116 then
     ck (inR (i_1+2)) <|
     some (([9]:Bytes),i_1+2,0)
    else
     (
       if byt s_0 (i_1+1)=34 then
        some true
       else
        some (decide (byt s_0 (i_1+1)=92))
      : Option Bool).bind λ t12 =>
     if t12=true then
      ck (inR (i_1+1)) <|
      ck (inR (i_1+2)) <|
      ck ((0:Int)≤i_1+1∧i_1+1≤i_1+2∧i_1+2≤(s_0.length:Int)) <|
      ck (inR (i_1+2)) <|
      some (sub s_0 (i_1+1) (i_1+2),i_1+2,0)
     else
      if byt s_0 (i_1+1)=117 then
       ck (inR (i_1+2)) <|
       if (s_0.length:Int)≤i_1+2 then
        some (([]:Bytes),0,40)
       else
        ck (inR (i_1+2)) <|
        ck ((0:Int)≤i_1+2∧i_1+2 < (s_0.length:Int)) <|
        if byt s_0 (i_1+2)=123 then
         ck (inR (i_1+3)) <|
         (kA n s_0 (i_1+3)).bind λ r25 =>
         if r25.2.2=0 then
          (jP r25.1).bind λ r28 =>
          some (r28,r25.2.1,0)
         else
          some (([]:Bytes),0,r25.2.2)
        else
         some (([]:Bytes),0,2)
      else
       some (([]:Bytes),0,2)
theorem qY (n:Nat)(s_0:Bytes)(i_1:Int)(r:Bytes×Int×Int)(h0:jb n s_0 i_1=some r):aC Tryz.prog 162 [eS s_0,eI i_1] (·=.tuple [.p (eS r.1),.p (eI r.2.1),.p (eI r.2.2)]):=by
 unfold jb at h0
 refine bc good Tryz.func162 Z Z Z λ w0=>mP (λ v:Bytes×Int×Int=>.tuple [.p (eS v.1),.p (eI v.2.1),.p (eI v.2.2)]) ?_
 refine nx 10 Z (oA h0 Z Z λ hk1 h0=>nx 1 Z (oLs Z (nx 2 Z (fD [14] h0 Z (λ c2 h0=>?_) λ c2 h0=>?_))))
 ·exact nx 8 Z (mQ (oi h0) Z (aA ⟨sr,sr,sr,trivial⟩))
 refine nx 7 Z (oA h0 Z Z λ hk3 h0=>oI h0 Z λ hk4 h0=>nx 7 Z (fD [19,20] h0 Z (λ c5 h0=>?_) λ c5 h0=>?_))
 ·exact nx 4 Z (oA h0 Z Z λ hk6 h0=>nx 5 Z (mQ (oi h0) Z (aA ⟨sr,sr,sr,trivial⟩)))
 refine nx 6 Z (fD [23,24] h0 Z (λ c7 h0=>?_) λ c7 h0=>?_)
 ·exact nx 4 Z (oA h0 Z Z λ hk8 h0=>nx 5 Z (mQ (oi h0) Z (aA ⟨sr,sr,sr,trivial⟩)))
 refine nx 6 Z (fD [27,28] h0 Z (λ c9 h0=>?_) λ c9 h0=>?_)
 ·exact nx 4 Z (oA h0 Z Z λ hk10 h0=>nx 5 Z (mQ (oi h0) Z (aA ⟨sr,sr,sr,trivial⟩)))
 refine nx 2 Z (bd h0 λ o31 h1 h0=>?_)
 refine kN o31 (λ v32=>⟨[(0,.p (eS s_0)),(1,.p (eI i_1)),(18,.p (eK .u8 (byt s_0 (i_1+1)))),(31,.p (eB v32))],[]⟩) ?_ ?_
 ·refine nx 1 Z (fB [31] h0 Z (λ c13 h0=>?_) λ c13 h0=>?_)
  ·exact nx 5 Z (oA h0 Z Z λ hk14 h0=>nx 1 Z (oA h0 Z Z λ hk15 h0=>oP h0 Z Z Z λ hk16 h0=>nx 1 Z (oA h0 Z Z λ hk17 h0=>nx 5 Z (mQ (oi h0) Z (aA ⟨sr,sr,sr,trivial⟩)))))
  refine nx 6 Z (fD [42,43] h0 Z (λ c18 h0=>?_) λ c18 h0=>?_)
  ·refine nx 5 Z (oA h0 Z Z λ hk19 h0=>nx 1 Z (oLs Z (nx 2 Z (fD [48] h0 Z (λ c20 h0=>?_) λ c20 h0=>?_))))
   ·exact nx 8 Z (mQ (oi h0) Z (aA ⟨sr,sr,sr,trivial⟩))
   refine nx 7 Z (oA h0 Z Z λ hk21 h0=>oI h0 Z λ hk22 h0=>nx 2 Z (fN [53] h0 Z (λ c23 h0=>?_) λ c23 h0=>?_))
   ·refine nx 6 Z (oA h0 Z Z λ hk24 h0=>bd h0 λ r25 e26 h0=>oK (tg _ s_0 (i_1+3) _ e26) Z ⟨sr,sr,trivial⟩ Tryz.call173 Z (nx 14 Z (mG (gE (t:=⟨[(7,.p (eI r25.1)),(8,.p (eI r25.2.1)),(9,.p (eI r25.2.2)),(63,.p (eB (!decide (r25.2.2=0))))],[]⟩) Z Z) (fN [63] h0 Z (λ c27 h0=>?_) λ c27 h0=>?_))))
    ·exact nx 5 Z (bd h0 λ r28 e29 h0=>oK (sK r25.1 _ e29) Z ⟨sr,trivial⟩ Tryz.call174 Z (nx 6 Z (mQ (oi h0) Z (aA ⟨sr,sr,sr,trivial⟩))))
    exact nx 9 Z (mQ (oi h0) Z (aA ⟨sr,sr,sr,trivial⟩))
   exact nx 8 Z (mQ (oi h0) Z (aA ⟨sr,sr,sr,trivial⟩))
  exact nx 9 Z (mQ (oi h0) Z (aA ⟨sr,sr,sr,trivial⟩))
 refine nx 5 Z (fD [31,32] h1 Z (λ c11 h1=>?_) λ c11 h1=>?_)
 ·exact nx 2 Z (eX _ (oi h1).symm (gE Z Z))
 exact nx 5 Z (eX _ (oi h1).symm (gE Z Z))
def mZ (n:Nat)(s_0:Bytes)(i_1:Int):Option (Bytes×Int×Int) :=
 ck ((0:Int)≤i_1∧i_1 < (s_0.length:Int)) <|
 if byt s_0 i_1=92 then
  (jb n s_0 i_1).bind λ r3 =>
  some (r3.1,r3.2.1,r3.2.2)
 else
  (iE s_0 i_1).bind λ r5 =>
  (
    if r5.2=0 then
     some true
    else
     ck ((0:Int)≤i_1∧i_1 < (s_0.length:Int)) <|
     if byt s_0 i_1 < 32 then
      some true
     else
      ck ((0:Int)≤i_1∧i_1 < (s_0.length:Int)) <|
      some (decide (byt s_0 i_1=127))
   : Option Bool).bind λ t11 =>
  if t11=true then
   some (([]:Bytes),0,2)
  else
   ck (inR (i_1+r5.2)) <|
   ck ((0:Int)≤i_1∧i_1≤i_1+r5.2∧i_1+r5.2≤(s_0.length:Int)) <|
   ck (inR (i_1+r5.2)) <|
   some (sub s_0 i_1 (i_1+r5.2),i_1+r5.2,0)
theorem wa (n:Nat)(s_0:Bytes)(i_1:Int)(r:Bytes×Int×Int)(h0:mZ n s_0 i_1=some r):aC Tryz.prog 146 [eS s_0,eI i_1] (·=.tuple [.p (eS r.1),.p (eI r.2.1),.p (eI r.2.2)]):=by
 unfold mZ at h0
 refine bc good Tryz.func146 Z Z Z λ w0=>mP (λ v:Bytes×Int×Int=>.tuple [.p (eS v.1),.p (eI v.2.1),.p (eI v.2.2)]) ?_
 refine nx 11 Z (oI h0 Z λ hk1 h0=>nx 2 Z (fD [12] h0 Z (λ c2 h0=>?_) λ c2 h0=>?_))
 ·exact nx 5 Z (bd h0 λ r3 e4 h0=>oK (qY _ s_0 i_1 _ e4) Z ⟨sr,sr,trivial⟩ Tryz.call162 Z (nx 8 Z (mQ (oi h0) Z (aA ⟨sr,sr,sr,trivial⟩))))
 refine nx 6 Z (bd h0 λ r5 e6 h0=>oK (nN s_0 i_1 _ e6) Z ⟨sr,sr,trivial⟩ Tryz.call149 Z (nx 8 Z (bd h0 λ o17 h1 h0=>kN o17 (λ v18=>⟨[(0,.p (eS s_0)),(1,.p (eI i_1)),(8,.p (eI r5.2)),(38,.p (eB v18))],[]⟩) ?_ ?_)))
 ·refine nx 1 Z (fB [38] h0 Z (λ c12 h0=>?_) λ c12 h0=>?_)
  ·exact nx 8 Z (mQ (oi h0) Z (aA ⟨sr,sr,sr,trivial⟩))
  exact nx 8 Z (oA h0 Z Z λ hk13 h0=>oP h0 Z Z Z λ hk14 h0=>nx 2 Z (oA h0 Z Z λ hk15 h0=>nx 5 Z (mQ (oi h0) Z (aA ⟨sr,sr,sr,trivial⟩))))
 refine nx 4 Z (fD [26,27] h1 Z (λ c7 h1=>?_) λ c7 h1=>?_)
 ·exact nx 12 Z (eX _ (oi h1).symm (gE Z Z))
 refine nx 2 Z (oI h1 Z λ hk8 h1=>nx 3 Z (fD [31,32,33] h1 Z (λ c9 h1=>?_) λ c9 h1=>?_))
 ·exact nx 6 Z (eX _ (oi h1).symm (gE Z Z))
 exact nx 2 Z (oI h1 Z λ hk10 h1=>nx 3 Z (eX _ (oi h1).symm (gE Z Z)))
def eC (n:Nat)(s_0:Bytes):Nat→Bytes→Int→Option (Unit⊕(Bytes×Int×Int))
 | 0,_,_=>none
 | m+1,out15,i16 =>
 if i16 < (s_0.length:Int) then
  ck ((0:Int)≤i16∧i16 < (s_0.length:Int)) <|
  if byt s_0 i16=34 then
   if 4096 < (out15.length:Int) then
    some (.inr (([]:Bytes),0,3))
   else
    ck (inR (i16+1)) <|
    some (.inr (out15,i16+1,0))
  else
   (mZ n s_0 i16).bind λ r22 =>
   if r22.2.2=0 then
    ck (out15.length+r22.1.length≤9223372036854775807) <|
    eC n s_0 m (out15++r22.1) r22.2.1
   else
    some (.inr (([]:Bytes),0,r22.2.2))
 else
  some (.inl ())
def iZ (n:Nat)(s_0:Bytes):Option (Bytes×Int×Int) :=
 if (s_0.length:Int)=0 then
  some (([]:Bytes),0,40)
 else
  ck ((0:Int)≤0∧0 < (s_0.length:Int)) <|
  if byt s_0 0=34 then
   jn (eC n s_0 n ([]:Bytes) 1) λ q28 =>
   some (([]:Bytes),0,40)
  else
   some (([]:Bytes),0,2)
theorem qX (n:Nat)(s_0:Bytes)(r:Bytes×Int×Int)(h0:iZ n s_0=some r):aC Tryz.prog 130 [eS s_0] (·=.tuple [.p (eS r.1),.p (eI r.2.1),.p (eI r.2.2)]):=by
 unfold iZ at h0
 refine bc good Tryz.func130 Z Z Z λ w0=>mP (λ v:Bytes×Int×Int=>.tuple [.p (eS v.1),.p (eI v.2.1),.p (eI v.2.2)]) ?_
 refine nx 10 Z (oLs Z (nx 2 Z (fD [12] h0 Z (λ c1 h0=>?_) λ c1 h0=>?_)))
 ·exact nx 8 Z (mQ (oi h0) Z (aA ⟨sr,sr,sr,trivial⟩))
 refine nx 6 Z (oI h0 Z λ hk2 h0=>nx 2 Z (fN [15] h0 Z (λ c3 h0=>?_) λ c3 h0=>?_))
 ·refine nx 12 Z ?_
  obtain ⟨o29,h1,hL0,hR0⟩:=fc h0
  refine kEx 0 (λ v30:Unit=>o29=.inl v30) (λ v30=>⟨[],[]⟩) (λ v30 hv=>?_) ?_
  ·have h0:=hL0 _ hv
   exact nx 8 Z (mQ (oi h0) Z (aA ⟨sr,sr,sr,trivial⟩))
  refine lG (λ (q31:Bytes×Int)=>⟨[(0,.p (eS s_0)),(5,.p (eS q31.1)),(6,.p (eI q31.2))],[]⟩) (λ m (q31:Bytes×Int)=>eC n s_0 m q31.1 q31.2) Y (([]:Bytes),1) h1 (gE Z Z) ?_
  rintro m ⟨out15,i16⟩ h1
  replace h1:eC n s_0 (m+1) out15 i16=some o29:=h1
  rw [eC] at h1
  refine nx 5 Z (oLs Z (nx 2 Z (fD [19] h1 Z (λ c17 h1=>?_) λ c17 h1=>?_)))
  ·refine nx 8 Z (oI h1 Z λ hk18 h1=>nx 2 Z (fD [23] h1 Z (λ c19 h1=>?_) λ c19 h1=>?_))
   ·refine nx 5 Z (oLs Z (nx 2 Z (fD [26] h1 Z (λ c20 h1=>?_) λ c20 h1=>?_)))
    ·exact nx 8 Z (mQ (hR0 _ (oi h1).symm) Z (aA ⟨sr,sr,sr,trivial⟩))
    exact nx 6 Z (oA h1 Z Z λ hk21 h1=>nx 5 Z (mQ (hR0 _ (oi h1).symm) Z (aA ⟨sr,sr,sr,trivial⟩)))
   refine nx 6 Z (bd h1 λ r22 e23 h1=>oK (wa _ s_0 i16 _ e23) Z ⟨sr,sr,trivial⟩ Tryz.call146 Z (nx 14 Z ?_))
   refine fN [38] h1 Z (λ c24 h1=>?_) λ c24 h1=>?_
   ·exact nx 6 Z (oC h1 Z λ hk25 h1=>nx 6 Z (eX (out15++r22.1,r22.2.1) h1 (gE Z Z)))
   exact nx 9 Z (mQ (hR0 _ (oi h1).symm) Z (aA ⟨sr,sr,sr,trivial⟩))
  exact nx 2 Z (eXi _ (oi h1).symm (gE Z Z))
 exact nx 8 Z (mQ (oi h0) Z (aA ⟨sr,sr,sr,trivial⟩))
def gf:Nat→Int→Option Bytes
 | 0,_=>none
 | n+1,c_0 =>
 ck ((16:Int)≠0) <|
 ck ((16:Int)≠0) <|
 ck (inR ((c_0.tmod 16)+1)) <|
 ck ((0:Int)≤c_0.tmod 16∧c_0.tmod 16≤(c_0.tmod 16)+1∧(c_0.tmod 16)+1≤(([48,49,50,51,52,53,54,55,56,57,97,98,99,100,101,102]:Bytes).length:Int)) <|
 if c_0 < 16 then
  some (sub ([48,49,50,51,52,53,54,55,56,57,97,98,99,100,101,102]:Bytes) (c_0.tmod 16) ((c_0.tmod 16)+1))
 else
  ck ((16:Int)≠0) <|
  ((gf n) (IntKind.wrap .i64 (c_0.tdiv 16))).bind λ r7 =>
  ck (r7.length+(sub ([48,49,50,51,52,53,54,55,56,57,97,98,99,100,101,102]:Bytes) (c_0.tmod 16) ((c_0.tmod 16)+1)).length≤9223372036854775807) <|
  some (r7++(sub ([48,49,50,51,52,53,54,55,56,57,97,98,99,100,101,102]:Bytes) (c_0.tmod 16) ((c_0.tmod 16)+1)))
theorem sG (n:Nat):∀ (c_0:Int) (r:Bytes),gf n c_0=some r→aC Tryz.prog 150 [eI c_0] (·=.p (eS r)):=by
 induction n with
 | zero=>intro c_0 r h0; cases h0
 | succ n ih =>
 have ih_ref02_digits_ok:=ih
 intro c_0 r h0
 rw [gf] at h0
 refine bc good Tryz.func150 Z Z Z λ w0=>mP (λ v:Bytes=>.p (eS v)) ?_
 refine nx 7 Z (cc' h0 λ hk1 h0=>mO Z (uh Z Z Z Z Z Z hk1 (nx 1 Z (cc' h0 λ hk2 h0=>mO Z (uh Z Z Z Z Z Z hk2 (oA h0 Z Z λ hk3 h0=>oP h0 Z Z Z λ hk4 h0=>nx 8 Z (fD [11] h0 Z (λ c5 h0=>?_) λ c5 h0=>?_)))))))
 ·exact nx 7 Z (mQ (oi h0) Z (sr))
 exact nx 5 Z (cc' h0 λ hk6 h0=>mO Z (uh Z Z Z Z Z Z hk6 (bd h0 λ r7 e8 h0=>oK (ih_ref02_digits_ok (IntKind.wrap .i64 (c_0.tdiv 16)) _ e8) Z ⟨sr,trivial⟩ Tryz.call150 Z (nx 1 Z (oC h0 Z λ hk9 h0=>nx 3 Z (mQ (oi h0) Z (sr)))))))
def iU (n:Nat)(b_0:Int):Option Bytes :=
 if b_0=10 then
  some ([92,110]:Bytes)
 else
  if b_0=13 then
   some ([92,114]:Bytes)
  else
   if b_0=9 then
    some ([92,116]:Bytes)
   else
    if b_0=34 then
     some ([92,34]:Bytes)
    else
     if b_0=92 then
      some ([92,92]:Bytes)
     else
      (
        if b_0 < 32 then
         some true
        else
         some (decide (b_0=127))
       : Option Bool).bind λ t7 =>
      if t7=true then
       ck (inR (b_0)) <|
       (gf n b_0).bind λ r10 =>
       ck (([92,117,123]:Bytes).length+r10.length≤9223372036854775807) <|
       ck ((([92,117,123]:Bytes)++r10).length+([125]:Bytes).length≤9223372036854775807) <|
       some ((([92,117,123]:Bytes)++r10)++([125]:Bytes))
      else
       ck ((0:Int)≤b_0∧b_0 < 256) <|
       some [u8 b_0]
theorem rj (n:Nat)(b_0:Int)(r:Bytes)(h0:iU n b_0=some r):aC Tryz.prog 133 [eK .u8 b_0] (·=.p (eS r)):=by
 unfold iU at h0
 refine bc good Tryz.func133 Z Z Z λ w0=>mP (λ v:Bytes=>.p (eS v)) ?_
 refine nx 15 Z (fD [4,5] h0 Z (λ c1 h0=>?_) λ c1 h0=>?_)
 ·exact nx 6 Z (mQ (oi h0) Z (sr))
 refine nx 6 Z (fD [6,7] h0 Z (λ c2 h0=>?_) λ c2 h0=>?_)
 ·exact nx 6 Z (mQ (oi h0) Z (sr))
 refine nx 6 Z (fD [8,9] h0 Z (λ c3 h0=>?_) λ c3 h0=>?_)
 ·exact nx 6 Z (mQ (oi h0) Z (sr))
 refine nx 6 Z (fD [10,11] h0 Z (λ c4 h0=>?_) λ c4 h0=>?_)
 ·exact nx 6 Z (mQ (oi h0) Z (sr))
 refine nx 6 Z (fD [12,13] h0 Z (λ c5 h0=>?_) λ c5 h0=>?_)
 ·exact nx 6 Z (mQ (oi h0) Z (sr))
 refine nx 4 Z (bd h0 λ o16 h1 h0=>?_)
 refine kN o16 (λ v17=>⟨[(0,.p (eK .u8 b_0)),(19,.p (eB v17))],[]⟩) ?_ ?_
 ·refine nx 1 Z (fB [19] h0 Z (λ c8 h0=>?_) λ c8 h0=>?_)
  ·exact nx 4 Z (cc' h0 λ hk9 h0=>mO Z (d6 Z Z Z Z Z Z Z Z (gV hk9) (bd h0 λ r10 e11 h0=>oK (sG _ b_0 _ e11) Z ⟨sr,trivial⟩ Tryz.call150 Z (oC h0 Z λ hk12 h0=>oC h0 Z λ hk13 h0=>nx 3 Z (mQ (oi h0) Z (sr))))))
  exact nx 5 Z (cc' h0 λ hk14 h0=>mO Z (bw eU [u8 b_0] Z Z Z Z Z Z Z Z Z Z Z Z Z (congr (congrArg List.cons (iq hk14)) Z) (mO Z (lz [u8 b_0] Z Z Z Z Z Z Z Z Z Z Z (nx 3 Z (mQ (oi h0) Z (sr)))))))
 refine nx 4 Z (fD [15,16] h1 Z (λ c6 h1=>?_) λ c6 h1=>?_)
 ·exact nx 4 Z (eX _ (oi h1).symm (gE Z Z))
 exact nx 4 Z (eX _ (oi h1).symm (gE Z Z))
def eY (n:Nat)(s_0:Bytes):Nat→Bytes→Int→Option Bytes
 | 0,_,_=>none
 | m+1,out9,i10 =>
 if i10 < (s_0.length:Int) then
  ck ((0:Int)≤i10∧i10 < (s_0.length:Int)) <|
  (iU n (byt s_0 i10)).bind λ r13 =>
  ck (out9.length+r13.length≤9223372036854775807) <|
  ck (inR (i10+1)) <|
  eY n s_0 m (out9++r13) (i10+1)
 else
  some out9
def jA (n:Nat)(s_0:Bytes):Option Bytes :=
 (eY n s_0 n ([34]:Bytes) 0).bind λ out19 =>
 ck (out19.length+([34]:Bytes).length≤9223372036854775807) <|
 some (out19++([34]:Bytes))
theorem lP (n:Nat)(s_0:Bytes)(r:Bytes)(h0:jA n s_0=some r):aC Tryz.prog 110 [eS s_0] (·=.p (eS r)):=by
 unfold jA at h0
 refine bc good Tryz.func110 Z Z Z λ w0=>mP (λ v:Bytes=>.p (eS v)) ?_
 refine nx 14 Z (bd h0 λ o22 h1 h0=>?_)
 refine kE 0 o22 (λ v23=>⟨[(3,.p (eS v23))],[]⟩) ?_ ?_
 ·exact nx 4 Z (oC h0 Z λ hk20 h0=>nx 3 Z (mQ (oi h0) Z (sr)))
 refine lG (λ (q24:Bytes×Int)=>⟨[(0,.p (eS s_0)),(3,.p (eS q24.1)),(4,.p (eI q24.2))],[]⟩) (λ m (q24:Bytes×Int)=>eY n s_0 m q24.1 q24.2) Y (([34]:Bytes),0) h1 (gE Z Z) ?_
 rintro m ⟨out9,i10⟩ h1
 replace h1:eY n s_0 (m+1) out9 i10=some o22:=h1
 rw [eY] at h1
 refine nx 5 Z (oLs Z (nx 2 Z (fD [8] h1 Z (λ c11 h1=>?_) λ c11 h1=>?_)))
 ·exact nx 8 Z (oI h1 Z λ hk12 h1=>bd h1 λ r13 e14 h1=>oK (rj _ (byt s_0 i10) _ e14) Z ⟨sr,trivial⟩ Tryz.call133 Z (oC h1 Z λ hk15 h1=>nx 4 Z (oA h1 Z Z λ hk16 h1=>nx 2 Z (eX (out9++r13,i10+1) h1 (gE Z Z)))))
 exact nx 2 Z (eXi _ (oi h1).symm (gE Z Z))
def fI (s_0:Bytes):Nat→Int→Option (Unit⊕Bool)
 | 0,_=>none
 | m+1,i8 =>
 if i8 < (s_0.length:Int) then
  (iE s_0 i8).bind λ r10 =>
  if r10.2=0 then
   some (.inr false)
  else
   ck (inR (i8+r10.2)) <|
   fI s_0 m (i8+r10.2)
 else
  some (.inl ())
def kR (n:Nat)(s_0:Bytes):Option Bool :=
 if 4096 < (s_0.length:Int) then
  some false
 else
  jn (fI s_0 n 0) λ q15 =>
  some true
theorem uc (n:Nat)(s_0:Bytes)(r:Bool)(h0:kR n s_0=some r):aC Tryz.prog 132 [eS s_0] (·=.p (eB r)):=by
 unfold kR at h0
 refine bc good Tryz.func132 Z Z Z λ w0=>mP (λ v:Bool=>.p (eB v)) ?_
 refine nx 8 Z (oLs Z (nx 2 Z (fD [8] h0 Z (λ c1 h0=>?_) λ c1 h0=>?_)))
 ·exact nx 6 Z (mQ (oi h0) Z (sr))
 refine nx 8 Z ?_
 obtain ⟨o16,h1,hL0,hR0⟩:=fc h0
 refine kEx 0 (λ v17:Unit=>o16=.inl v17) (λ v17=>⟨[],[]⟩) (λ v17 hv=>?_) ?_
 ·have h0:=hL0 _ hv
  exact nx 6 Z (mQ (oi h0) Z (sr))
 refine lG (λ (q18:Int)=>⟨[(0,.p (eS s_0)),(3,.p (eI q18))],[]⟩) (λ m (q18:Int)=>fI s_0 m q18) Y 0 h1 (gE Z Z) ?_
 rintro m i8 h1
 replace h1:fI s_0 (m+1) i8=some o16:=h1
 rw [fI] at h1
 refine nx 5 Z (oLs Z (nx 2 Z (fD [12] h1 Z (λ c9 h1=>?_) λ c9 h1=>?_)))
 ·refine nx 7 Z (bd h1 λ r10 e11 h1=>oK (nN s_0 i8 _ e11) Z ⟨sr,sr,trivial⟩ Tryz.call149 Z (nx 12 Z ?_))
  refine fD [20] h1 Z (λ c12 h1=>?_) λ c12 h1=>?_
  ·exact nx 6 Z (mQ (hR0 _ (oi h1).symm) Z (sr))
  exact nx 5 Z (oA h1 Z Z λ hk13 h1=>nx 2 Z (eX (i8+r10.2) h1 (gE Z Z)))
 exact nx 2 Z (eXi _ (oi h1).symm (gE Z Z))
end Go.Ab.R06
end
