/- Texts of the proof, one behind the other. No statement is proved here. -/
import Derived.Lib.MapLaws
import Derived.Lib.ValidLaws
import Derived.Test.YtgdcfenbmcflkaaGreatDoorZ42Fa
import Derived.Test.YtgdcfenbmcflkaaGreatDoorZ42Fb
import Derived.Test.YtgdcfenbmcflkaaGreatDoorZ42Fc
import Derived.Test.YtgdcfenbmcflkaaGreatDoorZ42Fd
set_option maxHeartbeats 4000000
section
namespace Go.Ab.R06
open Go.Proofs Go.Ab Go.Ab.RB
attribute [local irreducible] awp eC aW aA bN AV.sub M dY
abbrev tl:List AV:=[.p (eS ([]:Bytes)),.p (eS ([]:Bytes)),.p (eS ([]:Bytes)),.p (eI 0),.p (eI 0),.p (eI 0),.p (eI 0),.p (eS ([]:Bytes)),.p (.val (.slice none 0 0)),.p (.val (.slice none 0 0)),.p (eI 0),.p (eI 0),.p (eS ([]:Bytes)),.p (.val (.slice none 0 0)),.p (.val (.slice none 0 0)),.p (eS ([]:Bytes)),.p (.val (.slice none 0 0)),.p (eB false),.p (eB false),.p (eB false),.p (.val (.slice none 0 0)),.p (.val (.slice none 0 0))]
abbrev nQ:List AV:=[.p (eI 0),.p (eI 0),.p (eS ([]:Bytes)),.p (.val (.slice none 0 0)),.p (.val (.slice none 0 0))]
def cV (targets_0:List Bytes):Nat→Int→Option (Unit⊕Int)
 | 0,_=>none
 | m+1,t8 =>
 if t8 < (targets_0.length:Int) then
  ck ((0:Int)≤t8∧t8 < (targets_0.length:Int)) <|
  ck ((lat targets_0 t8).length≤65536) <|
  if Glob.check (lat targets_0 t8)=0 then
   ck (inR (t8+1)) <|
   cV targets_0 m (t8+1)
  else
   some (.inr (Glob.check (lat targets_0 t8)))
 else
  some (.inl ())
def fw (n:Nat)(targets_0:List Bytes):Option Int :=
 if 64 < (targets_0.length:Int) then
  some 14
 else
  jn (cV targets_0 n 0) λ q15 =>
  some 0
theorem nW (n:Nat)(targets_0:List Bytes)(r:Int)(h0:fw n targets_0=some r):aA Tryz.prog 11 [eL eS targets_0] (·=.p (eI r)):=by
 unfold fw at h0
 refine ba good Tryz.func11 Z Z Z λ w0=>mP (λ v:Int=>.p (eI v)) ?_
 refine nx 8 Z (oLl (f:=eS) Z Z (nx 2 Z (fD [8] h0 Z (λ c1 h0=>?_) λ c1 h0=>?_)))
 ·exact nx 6 Z (mQ (oi h0) Z (sr))
 refine nx 6 Z (oLl (f:=eS) Z Z (nx 3 Z ?_))
 obtain ⟨o16,h1,hL0,hR0⟩:=fx h0
 refine kEx 0 (λ v17:Unit=>o16=.inl v17) (λ v17=>⟨[],[]⟩) (λ v17 hv=>?_) ?_
 ·have h0:=hL0 _ hv
  exact nx 6 Z (mQ (oi h0) Z (sr))
 refine lG (λ (q18:Int)=>⟨[(9,.p (eL eS targets_0)),(10,.p (eI (targets_0.length:Int))),(11,.p (eI q18))],[]⟩) (λ m (q18:Int)=>cV targets_0 m q18) Y 0 h1 (gE Z Z) ?_
 rintro m t8 h1
 replace h1:cV targets_0 (m+1) t8=some o16:=h1
 rw [cV] at h1
 refine nx 5 Z (fD [12] h1 Z (λ c9 h1=>?_) λ c9 h1=>?_)
 ·refine nx 6 Z (oE h1 Y Z Z Y λ hk10 h1=>nx 6 Z (cc' h1 λ hk11 h1=>oK (Glob.check_ok (lat targets_0 t8) hk11) Z ⟨sr,trivial⟩ Tryz.call28 Z (nx 7 Z ?_)))
  refine fN [18] h1 Z (λ c12 h1=>?_) λ c12 h1=>?_
  ·exact nx 3 Z (oA h1 Z Z λ hk13 h1=>nx 2 Z (eX (t8+1) h1 (gE Z Z)))
  exact nx 7 Z (mQ (hR0 _ (oi h1).symm) Z (sr))
 exact nx 2 Z (eXi _ (oi h1).symm (gE Z Z))
def dy (n:Nat)(targets_0:List Bytes)(addr_1:Bytes):Option Bool :=
 (
   if (targets_0.length:Int)=0 then
    some true
   else
    (jL n targets_0 addr_1).bind λ r2 =>
    some r2
  : Option Bool).bind λ t4 =>
 if t4=true then
  some true
 else
  (eh n addr_1).bind λ r6 =>
  (
    if r6.2=0 then
     (jL n targets_0 r6.1).bind λ r9 =>
     some r9
    else
     some false
   : Option Bool).bind λ t11 =>
  some t11
theorem jC (n:Nat)(targets_0:List Bytes)(addr_1:Bytes)(r:Bool)(h0:dy n targets_0 addr_1=some r):aA Tryz.prog 15 [eL eS targets_0,eS addr_1] (·=.p (eB r)):=by
 unfold dy at h0
 refine ba good Tryz.func15 Z Z Z λ w0=>mP (λ v:Bool=>.p (eB v)) ?_
 refine nx 6 Z (bd h0 λ o14 h1 h0=>?_)
 refine kN o14 (λ v15=>⟨[(0,.p (eL eS targets_0)),(1,.p (eS addr_1)),(14,.p (eB v15))],[]⟩) ?_ ?_
 ·refine nx 1 Z (fB [14] h0 Z (λ c5 h0=>?_) λ c5 h0=>?_)
  ·exact nx 6 Z (mQ (oi h0) Z (sr))
  refine nx 5 Z (bd h0 λ r6 e7 h0=>oK (mj _ addr_1 _ e7) Z ⟨sr,trivial⟩ Tryz.call32 Z (nx 7 Z (bd h0 λ o16 h1 h0=>kN o16 (λ v17=>⟨[(4,.p (eB v17))],[]⟩) ?_ ?_)))
  ·exact nx 2 Z (mQ (oi h0) Z (sr))
  refine nx 4 Z (fD [21,22] h1 Z (λ c8 h1=>?_) λ c8 h1=>?_)
  ·exact nx 2 Z (bd h1 λ r9 e10 h1=>oK (sF _ targets_0 r6.1 _ e10) Z ⟨sr,sr,trivial⟩ Tryz.call31 Z (nx 3 Z (eX _ (oi h1).symm (gE Z Z))))
  exact nx 6 Z (eX _ (oi h1).symm (gE Z Z))
 refine nx 2 Z (oLl (f:=eS) Z Z (nx 2 Z (fD [9,10] h1 Z (λ c1 h1=>?_) λ c1 h1=>?_)))
 ·exact nx 5 Z (eX _ (oi h1).symm (gE Z Z))
 exact nx 2 Z (bd h1 λ r2 e3 h1=>oK (sF _ targets_0 addr_1 _ e3) Z ⟨sr,sr,trivial⟩ Tryz.call31 Z (nx 2 Z (eX _ (oi h1).symm (gE Z Z))))
def dO (x_0:cN)(i_1:Int):Option cN :=
 ck ((0:Int)≤i_1∧i_1 < (x_0.fchosen.length:Int)) <|
 if (!(lat x_0.fchosen i_1))=true then
  ck ((0:Int)≤i_1∧i_1 < (x_0.fchosen.length:Int)) <|
  ck ((x_0.ftodo.length+[i_1].length)*8≤140737488355328) <|
  some (cN.mk x_0.fchanges x_0.fresources (x_0.fchosen.set i_1.toNat true) (x_0.ftodo++[i_1]))
 else
  some x_0
theorem ji (x_0:cN)(i_1:Int)(r:cN)(h0:dO x_0 i_1=some r):bN Tryz.prog 39 [.ptr 1000000 0,.p (eI i_1)] [(1000000,[.p (eL ae x_0.fchanges),.arr 1000001 1 0 x_0.fresources.length,.arr 1000002 1 0 x_0.fchosen.length,.stk 900000 1 (x_0.ftodo.map eI)]),(1000001,(x_0.fresources.map eS).map .p),(1000002,(x_0.fchosen.map eB).map .p)] (λ x y=>x=.tuple []∧y=[(1000000,[.p (eL ae r.fchanges),.arr 1000001 1 0 r.fresources.length,.arr 1000002 1 0 r.fchosen.length,.stk 2000000 1 (r.ftodo.map eI)]),(1000001,(r.fresources.map eS).map .p),(1000002,(r.fchosen.map eB).map .p)]):=by
 unfold dO at h0
 refine gR good [800000] [1000000,1000001,1000002] Tryz.func39 Z Z Z Z Z λ w0 F=>mPo (λ v:cN=>.tuple []) (λ v=>[(1000000,[.p (eL ae v.fchanges),.arr 1000001 1 0 v.fresources.length,.arr 1000002 1 0 v.fchosen.length,.stk 2000000 1 (v.ftodo.map eI)]),(1000001,(v.fresources.map eS).map .p),(1000002,(v.fchosen.map eB).map .p)]) ?_
 refine nx 7 Z (cc' h0 λ hk1 h0=>mO Z (aG Z Z Z Z Z Z Z Z Z hk1 (mO Z (bo (default:Bool) (f:=eB) (l:=x_0.fchosen) Z Z Z Z Z Z Z (by have:=hk1; omega) (nx 2 Z (fB [11] h0 Z (λ c2 h0=>?_) λ c2 h0=>?_))))))
 ·refine nx 8 Z (cc' h0 λ hk3 h0=>mO Z (aG Z Z Z Z Z Z Z Z Z hk3 (mO Z (bV (f:=eB) (l:=x_0.fchosen) (b:=true) Z Z Z Z Z Z Z Z (by have:=hk3; omega) (nx 8 Z (mO Z (bs eI [i_1] Z Z Z Z Z Z Z Z Z Z Z Z Z Z (cc' h0 λ hk4 h0=>?_))))))))
  skip; refine mO Z (tE eI (λ _=>⟨Z,Z⟩) x_0.ftodo [i_1] Z Z Z Z Z Z Z Z Z Z Z Z (Nat.zero_lt_succ _) Z Z Z hk4 Z (by repeat (first | exact rfl | apply nA Z | apply dmO_drop Z | apply nO Z Z)) ?_)
  refine nx 4 Z ?_
  skip; refine mG (bB 900000 800000 Z Z Z Z (by repeat (first | exact rfl | exact aN _ | apply aK))) ?_
  exact BH (oi h0) (bW _) Z Z Z (aK Z Z (aK Z (aN _) (aK Z (aN _) Z))) (sr) ⟨⟨_,Z,⟨sr,sr,AV.sub_of_eq (by first | rfl | (simp; done) | (simp [AV.dem]; rfl)),sr,trivial⟩⟩,⟨_,Z,ah _⟩,⟨_,Z,ah _⟩,trivial⟩
 refine nx 2 Z ?_
 skip; refine mG (bB 900000 800000 Z Z Z Z (by repeat (first | exact rfl | exact aN _ | apply aK))) ?_
 exact BH (oi h0) (bW _) Z Z Z (aK Z Z (aK Z (aN _) (aK Z (aN _) Z))) (sr) ⟨⟨_,Z,⟨sr,sr,sr,sr,trivial⟩⟩,⟨_,Z,ah _⟩,⟨_,Z,ah _⟩,trivial⟩
def a6 (s_0:List Bytes)(v_1:Bytes):Nat→Int→Option (Unit⊕Int)
 | 0,_=>none
 | m+1,t6 =>
 if t6 < (s_0.length:Int) then
  ck ((0:Int)≤t6∧t6 < (s_0.length:Int)) <|
  if v_1=lat s_0 t6 then
   some (.inr t6)
  else
   ck (inR (t6+1)) <|
   a6 s_0 v_1 m (t6+1)
 else
  some (.inl ())
def cn (n:Nat)(s_0:List Bytes)(v_1:Bytes):Option Int :=
 jn (a6 s_0 v_1 n 0) λ q12 =>
 some (-1)
theorem kZ (n:Nat)(s_0:List Bytes)(v_1:Bytes)(r:Int)(h0:cn n s_0 v_1=some r):aA Tryz.prog 89 [eL eS s_0,eS v_1] (·=.p (eI r)):=by
 unfold cn at h0
 refine ba good Tryz.func89 Z Z Z λ w0=>mP (λ v:Int=>.p (eI v)) ?_
 refine nx 8 Z (oLl (f:=eS) Z Z (nx 3 Z ?_))
 obtain ⟨o13,h1,hL0,hR0⟩:=fx h0
 refine kEx 0 (λ v14:Unit=>o13=.inl v14) (λ v14=>⟨[],[]⟩) (λ v14 hv=>?_) ?_
 ·have h0:=hL0 _ hv
  exact nx 6 Z (mQ (oi h0) Z (sr))
 refine lG (λ (q15:Int)=>⟨[(0,.p (eL eS s_0)),(1,.p (eS v_1)),(7,.p (eI (s_0.length:Int))),(8,.p (eI q15))],[]⟩) (λ m (q15:Int)=>a6 s_0 v_1 m q15) Y 0 h1 (gE Z Z) ?_
 rintro m t6 h1
 replace h1:a6 s_0 v_1 (m+1) t6=some o13:=h1
 rw [a6] at h1
 refine nx 5 Z (fD [9] h1 Z (λ c7 h1=>?_) λ c7 h1=>?_)
 ·refine nx 14 Z (oE h1 Y Z Z Y λ hk8 h1=>nx 1 Z (oS Z Z (nx 1 Z (fD [16] h1 Z (λ c9 h1=>?_) λ c9 h1=>?_))))
  ·exact nx 7 Z (mQ (hR0 _ (oi h1).symm) Z (sr))
  exact nx 3 Z (oA h1 Z Z λ hk10 h1=>nx 2 Z (eX (t6+1) h1 (gE Z Z)))
 exact nx 2 Z (eXi _ (oi h1).symm (gE Z Z))
def a8 (n:Nat)(s_0:List Bytes)(v_1:Bytes):Option Bool :=
 (cn n s_0 v_1).bind λ r1 =>
 some (decide (0≤r1))
theorem cx (n:Nat)(s_0:List Bytes)(v_1:Bytes)(r:Bool)(h0:a8 n s_0 v_1=some r):aA Tryz.prog 62 [eL eS s_0,eS v_1] (·=.p (eB r)):=by
 unfold a8 at h0
 refine ba good Tryz.func62 Z Z Z λ w0=>mP (λ v:Bool=>.p (eB v)) ?_
 exact nx 8 Z (bd h0 λ r1 e2 h0=>oK (kZ _ s_0 v_1 _ e2) Z ⟨sr,sr,trivial⟩ Tryz.call89 Z (nx 4 Z (mQ (oi h0) Z (sr))))
def gJ (c_0:ab):Option Bool :=
 (
   if c_0.fAction=4 then
    some true
   else
    some (decide (c_0.fAction=3))
  : Option Bool).bind λ t2 =>
 some t2
theorem jO (c_0:ab)(r:Bool)(h0:gJ c_0=some r):aA Tryz.prog 63 [.agg (ab.cs c_0)] (·=.p (eB r)):=by
 unfold gJ at h0
 refine ba good Tryz.func63 Z Z Z λ w0=>mP (λ v:Bool=>.p (eB v)) ?_
 refine nx 6 Z (bd h0 λ o4 h1 h0=>?_)
 refine kN o4 (λ v5=>⟨[(2,.p (eB v5))],[]⟩) ?_ ?_
 ·exact nx 2 Z (mQ (oi h0) Z (sr))
 refine nx 5 Z (fD [5,6] h1 Z (λ c1 h1=>?_) λ c1 h1=>?_)
 ·exact nx 6 Z (eX _ (oi h1).symm (gE Z Z))
 exact nx 6 Z (eX _ (oi h1).symm (gE Z Z))
def br (n:Nat)(x_0:cN)(i_1:Int):Nat→Int→(List ab)→(List Int)→(List Bytes)→(List Bool)→Option ((List ab)×(List Int)×(List Bytes)×(List Bool))
 | 0,_,_,_,_,_=>none
 | m+1,t29,f30,f31,l32,l33 =>
 if t29 < (x_0.fchanges.length:Int) then
  (
    ck ((0:Int)≤t29∧t29 < (x_0.fchanges.length:Int)) <|
    (
      ck ((0:Int)≤t29∧t29 < (l32.length:Int)) <|
      (a8 n ((lat x_0.fchanges i_1).fDeps) (lat l32 t29)).bind λ r37 =>
      if r37=true then
       some true
      else
       (gJ (lat x_0.fchanges i_1)).bind λ r40 =>
       if r40=true then
        if (lat x_0.fchanges t29).fAction=0 then
         some false
        else
         ck ((0:Int)≤i_1∧i_1 < (l32.length:Int)) <|
         (a8 n ((lat x_0.fchanges t29).fOldDeps) (lat l32 i_1)).bind λ r45 =>
         some r45
       else
        some false
     : Option Bool).bind λ t47 =>
    if t47=true then
     (dO (cN.mk f30 l32 l33 f31) t29).bind λ r49 =>
     some (r49.fchanges,r49.ftodo,r49.fresources,r49.fchosen)
    else
     some (f30,f31,l32,l33)
   : Option ((List ab)×(List Int)×(List Bytes)×(List Bool))).bind λ q66 =>
  ck (inR (t29+1)) <|
  br n x_0 i_1 m (t29+1) q66.1 q66.2.1 q66.2.2.1 q66.2.2.2
 else
  some (f30,f31,l32,l33)
def cC (n:Nat)(x_0:cN)(i_1:Int):Option cN :=
 ck ((0:Int)≤i_1∧i_1 < (x_0.fchanges.length:Int)) <|
 (br n x_0 i_1 n 0 x_0.fchanges x_0.ftodo x_0.fresources x_0.fchosen).bind λ q65 =>
 some (cN.mk q65.1 q65.2.2.1 q65.2.2.2 q65.2.1)
theorem mM (n:Nat)(x_0:cN)(i_1:Int)(r:cN)(h0:cC n x_0 i_1=some r):bN Tryz.prog 40 [.ptr 1000000 0,.p (eI i_1)] [(1000000,[.p (eL ae x_0.fchanges),.arr 1000001 1 0 x_0.fresources.length,.arr 1000002 1 0 x_0.fchosen.length,.stk 900000 1 (x_0.ftodo.map eI)]),(1000001,(x_0.fresources.map eS).map .p),(1000002,(x_0.fchosen.map eB).map .p)] (λ x y=>x=.tuple []∧y=[(1000000,[.p (eL ae r.fchanges),.arr 1000001 1 0 r.fresources.length,.arr 1000002 1 0 r.fchosen.length,.stk 2000000 1 (r.ftodo.map eI)]),(1000001,(r.fresources.map eS).map .p),(1000002,(r.fchosen.map eB).map .p)]):=by
 unfold cC at h0
 refine gR good [800000] [1000000,1000001,1000002] Tryz.func40 Z Z Z Z Z λ w0 F=>mPo (λ v:cN=>.tuple []) (λ v=>[(1000000,[.p (eL ae v.fchanges),.arr 1000001 1 0 v.fresources.length,.arr 1000002 1 0 v.fchosen.length,.stk 2000000 1 (v.ftodo.map eI)]),(1000001,(v.fresources.map eS).map .p),(1000002,(v.fchosen.map eB).map .p)]) ?_
 refine nx 7 Z (oE h0 ab.cells_eq Z Z Y λ hk1 h0=>nx 1 Z (mO Z (mN Z Z Z Z Z (mG (mZ (show lY _ _=_ from (by repeat (first | exact iP _ | apply demOb_drop Z | apply dd Z (mB _ _) | apply dd Z Z)))) (nx 8 Z (oLl (f:=ae) Z Z (nx 3 Z (bd h0 λ o68 h1 h0=>kE 0 o68 (λ v69=>⟨[],[(1000000,[.p (eL ae v69.1),.arr 1000001 1 0 v69.2.2.1.length,.arr 1000002 1 0 v69.2.2.2.length,.stk 900000 1 (v69.2.1.map eI)]),(1000001,(v69.2.2.1.map eS).map .p),(1000002,(v69.2.2.2.map eB).map .p)]⟩) ?_ ?_))))))))
 ·refine nx 1 Z ?_
  skip; refine mG (bB 900000 800000 Z Z Z Z (by repeat (first | exact rfl | exact aN _ | apply aK))) ?_
  exact BH (oi h0) (bW _) Z Z Z (aK Z Z (aK Z (aN _) (aK Z (aN _) Z))) (sr) ⟨⟨_,Z,⟨sr,sr,sr,sr,trivial⟩⟩,⟨_,Z,ah _⟩,⟨_,Z,ah _⟩,trivial⟩
 refine lG (λ (q70:Int×(List ab)×(List Int)×(List Bytes)×(List Bool))=>⟨[(0,.ptr 1000000 0),(1,.p (eI i_1)),(4,.ptr 4 0),(17,.p (eL ae x_0.fchanges)),(18,.p (eI (x_0.fchanges.length:Int))),(19,.p (eI q70.1))],[(4,(ab.cs (lat x_0.fchanges i_1)).map .p),(1000000,[.p (eL ae q70.2.1),.arr 1000001 1 0 q70.2.2.2.1.length,.arr 1000002 1 0 q70.2.2.2.2.length,.stk 900000 1 (q70.2.2.1.map eI)]),(1000001,(q70.2.2.2.1.map eS).map .p),(1000002,(q70.2.2.2.2.map eB).map .p)]⟩) (λ m (q70:Int×(List ab)×(List Int)×(List Bytes)×(List Bool))=>br n x_0 i_1 m q70.1 q70.2.1 q70.2.2.1 q70.2.2.2.1 q70.2.2.2.2) Y (0,x_0.fchanges,x_0.ftodo,x_0.fresources,x_0.fchosen) h1 (aP (bm ⟨er Z,er Z,er Z,er Z,er Z,er Z,trivial⟩ ⟨⟨_,Z,⟨sr,sr,sr,sr,sr,sr,sr,sr,sr,sr,sr,sr,sr,sr,sr,sr,sr,sr,sr,sr,sr,sr,trivial⟩⟩,⟨_,Z,⟨sr,AV.sub_of_eq (by first | rfl | (simp; done) | (simp [AV.dem]; rfl)),AV.sub_of_eq (by first | rfl | (simp; done) | (simp [AV.dem]; rfl)),sr,trivial⟩⟩,⟨_,Z,ah _⟩,⟨_,Z,ah _⟩,trivial⟩)) ?_
 rintro m ⟨t29,f30,f31,l32,l33⟩ h1
 replace h1:br n x_0 i_1 (m+1) t29 f30 f31 l32 l33=some o68:=h1
 rw [br] at h1
 refine nx 5 Z (fD [20] h1 Z (λ c34 h1=>?_) λ c34 h1=>?_)
 ·refine nx 3 Z (bd h1 λ o71 h2 h1=>?_)
  refine kN o71 (λ v72=>⟨[(0,.ptr 1000000 0),(1,.p (eI i_1)),(4,.ptr 4 0),(17,.p (eL ae x_0.fchanges)),(18,.p (eI (x_0.fchanges.length:Int))),(19,.p (eI t29))],[(4,(ab.cs (lat x_0.fchanges i_1)).map .p),(1000000,[.p (eL ae v72.1),.arr 1000001 1 0 v72.2.2.1.length,.arr 1000002 1 0 v72.2.2.2.length,.stk 900000 1 (v72.2.1.map eI)]),(1000001,(v72.2.2.1.map eS).map .p),(1000002,(v72.2.2.2.map eB).map .p)]⟩) ?_ ?_
  ·exact nx 2 Z (oA h1 Z Z λ hk55 h1=>nx 2 Z (eX (t29+1,o71.1,o71.2.1,o71.2.2.1,o71.2.2.2) h1 (aP (bm ⟨er Z,er Z,er Z,er Z,er Z,er Z,trivial⟩ ⟨⟨_,Z,⟨sr,sr,sr,sr,sr,sr,sr,sr,sr,sr,sr,sr,sr,sr,sr,sr,sr,sr,sr,sr,sr,sr,trivial⟩⟩,⟨_,Z,⟨sr,AV.sub_of_eq (by first | rfl | (simp; done) | (simp [AV.dem]; rfl)),AV.sub_of_eq (by first | rfl | (simp; done) | (simp [AV.dem]; rfl)),sr,trivial⟩⟩,⟨_,Z,ah _⟩,⟨_,Z,ah _⟩,trivial⟩))))
  refine nx 4 Z (oE h2 ab.cells_eq Z Z Y λ hk35 h2=>nx 1 Z (mO Z (mN Z Z Z Z Z (mG (mZ (show lY _ _=_ from (by repeat (first | exact iP _ | apply demOb_drop Z | apply dd Z (mB _ _) | apply dd Z Z)))) (nx 4 Z (bd h2 λ o73 h3 h2=>kN o73 (λ v74=>⟨[(0,.ptr 1000000 0),(1,.p (eI i_1)),(4,.ptr 4 0),(5,.p (eI t29)),(17,.p (eL ae x_0.fchanges)),(18,.p (eI (x_0.fchanges.length:Int))),(19,.p (eI t29)),(54,.p (eB v74))],[(4,(ab.cs (lat x_0.fchanges i_1)).map .p),(1000000,[.p (eL ae f30),.arr 1000001 1 0 l32.length,.arr 1000002 1 0 l33.length,.stk 900000 1 (f31.map eI)]),(1000001,(l32.map eS).map .p),(1000002,(l33.map eB).map .p)]⟩) ?_ ?_))))))
  ·refine nx 1 Z (fB [54] h2 Z (λ c48 h2=>?_) λ c48 h2=>?_)
   ·refine nx 4 Z (bd h2 λ r49 e50 h2=>mO Z (b8 [1000000,1000001,1000002] [900000] 102000 102001 (ji (cN.mk f30 l32 l33 f31) t29 _ e50) Z Z Z Z Z ⟨sr,sr,trivial⟩ Z (aK Z Z (aK Z (aN _) (aK Z (aN _) Z))) ⟨⟨_,Z,⟨sr,sr,sr,sr,trivial⟩⟩,⟨_,Z,ah _⟩,⟨_,Z,ah _⟩,trivial⟩ Z Z Z Z Z Z Z Z Tryz.call39 Z (aK Z Z (aK Z (aN _) (aK Z (aN _) Z))) (nx 1 Z ?_)))
    skip; refine mG (bB 102000 900000 Z Z Z Z (by repeat (first | exact rfl | exact aN _ | apply aK))) ?_
    exact eX _ (oi h2).symm (aP (bm ⟨er Z,er Z,er Z,er Z,er Z,er Z,trivial⟩ ⟨⟨_,Z,⟨sr,sr,sr,sr,sr,sr,sr,sr,sr,sr,sr,sr,sr,sr,sr,sr,sr,sr,sr,sr,sr,sr,trivial⟩⟩,⟨_,Z,⟨sr,AV.sub_of_eq (by first | rfl | (simp; done) | (simp [AV.dem]; rfl)),AV.sub_of_eq (by first | rfl | (simp; done) | (simp [AV.dem]; rfl)),sr,trivial⟩⟩,⟨_,Z,ah _⟩,⟨_,Z,ah _⟩,trivial⟩))
   exact nx 2 Z (eX _ (oi h2).symm (aP (bm ⟨er Z,er Z,er Z,er Z,er Z,er Z,trivial⟩ ⟨⟨_,Z,⟨sr,sr,sr,sr,sr,sr,sr,sr,sr,sr,sr,sr,sr,sr,sr,sr,sr,sr,sr,sr,sr,sr,trivial⟩⟩,⟨_,Z,⟨sr,AV.sub_of_eq (by first | rfl | (simp; done) | (simp [AV.dem]; rfl)),AV.sub_of_eq (by first | rfl | (simp; done) | (simp [AV.dem]; rfl)),sr,trivial⟩⟩,⟨_,Z,ah _⟩,⟨_,Z,ah _⟩,trivial⟩)))
  refine cc' h3 λ hk36 h3=>bd h3 λ r37 e38 h3=>fB (p:=r37) [] h3 Z (λ c39 h3=>?_) λ c39 h3=>?_
  ·exact mD [(0,.ptr 1000000 0),(1,.p (eI i_1)),(4,.ptr 4 0),(5,.p (eI t29)),(6,.ptr 6 0),(17,.p (eL ae x_0.fchanges)),(18,.p (eI (x_0.fchanges.length:Int))),(19,.p (eI t29))] Z ⟨Z,Z,Z,Z,Z,Z,Z,Z,trivial⟩ Z (dR 7 Z (dq (.ptr 1000001 t29.toNat) [29,30] Z (λ _ e _ q=>av Z (aG Z Z Z Z Z Z (e _ _ Z) (e _ _ Z) Z hk36 q)) Z (dq (.p (eS (lat l32 t29))) [31] Z (λ _ e _ q=>av Z (bo (default:Bytes) (f:=eS) (l:=l32) Z Z Z Z Z (e _ _ Z) Z (by have:=hk36; omega) q)) Z (dq (.p (eB r37)) [25,32] Z (λ _ e _ q=>av Z (bw (cx _ ((lat x_0.fchanges i_1).fDeps) (lat l32 t29) _ e38) Z Z Z (aO (e _ _ Z) (aO (e _ _ Z) bA)) ⟨sr,sr,trivial⟩ Tryz.call62 Z q)) Z (dL (c39) Z (dR 20 Z (dE Z (nx 1 Z (eX _ (oi h3).symm (gE Z Z))))))))))
  refine bd h3 λ r40 e41 h3=>fB (p:=r40) [] h3 Z (λ c42 h3=>?_) λ c42 h3=>?_
  ·refine fN (p:=(lat x_0.fchanges t29).fAction=0) [] h3 Z (λ c43 h3=>?_) λ c43 h3=>?_
   ·refine mD [(0,.ptr 1000000 0),(1,.p (eI i_1)),(4,.ptr 4 0),(5,.p (eI t29)),(6,.ptr 6 0),(17,.p (eL ae x_0.fchanges)),(18,.p (eI (x_0.fchanges.length:Int))),(19,.p (eI t29))] Z ⟨Z,Z,Z,Z,Z,Z,Z,Z,trivial⟩ Z (dR 7 Z (dq (.ptr 1000001 t29.toNat) [29,30] Z (λ _ e _ q=>av Z (aG Z Z Z Z Z Z (e _ _ Z) (e _ _ Z) Z hk36 q)) Z (dq (.p (eS (lat l32 t29))) [31] Z (λ _ e _ q=>av Z (bo (default:Bytes) (f:=eS) (l:=l32) Z Z Z Z Z (e _ _ Z) Z (by have:=hk36; omega) q)) Z (dq (.p (eB r37)) [25,32] Z (λ _ e _ q=>av Z (bw (cx _ ((lat x_0.fchanges i_1).fDeps) (lat l32 t29) _ e38) Z Z Z (aO (e _ _ Z) (aO (e _ _ Z) bA)) ⟨sr,sr,trivial⟩ Tryz.call62 Z q)) Z (dL (c39) Z (dR 1 Z (dq (.p (eB r40)) [34,35] Z (λ _ e _ q=>aX (bw (jO (lat x_0.fchanges i_1) _ e41) Z Z Z (aO (e _ _ Z) bA) ⟨sr,trivial⟩ Tryz.call63 Z q) Z Z (e _ _ Z) (rfl)) Z (dL (c42) Z (dR 2 Z (dL (aE c43) Z (dR 14 Z ?_)))))))))))
    refine dE Z (nx 1 Z ?_)
    exact eX _ (oi h3).symm (gE Z Z)
   refine cc' h3 λ hk44 h3=>bd h3 λ r45 e46 h3=>mD [(0,.ptr 1000000 0),(1,.p (eI i_1)),(4,.ptr 4 0),(5,.p (eI t29)),(6,.ptr 6 0),(17,.p (eL ae x_0.fchanges)),(18,.p (eI (x_0.fchanges.length:Int))),(19,.p (eI t29))] Z ⟨Z,Z,Z,Z,Z,Z,Z,Z,trivial⟩ Z (dR 7 Z (dq (.ptr 1000001 t29.toNat) [29,30] Z (λ _ e _ q=>av Z (aG Z Z Z Z Z Z (e _ _ Z) (e _ _ Z) Z hk36 q)) Z (dq (.p (eS (lat l32 t29))) [31] Z (λ _ e _ q=>av Z (bo (default:Bytes) (f:=eS) (l:=l32) Z Z Z Z Z (e _ _ Z) Z (by have:=hk36; omega) q)) Z (dq (.p (eB r37)) [25,32] Z (λ _ e _ q=>av Z (bw (cx _ ((lat x_0.fchanges i_1).fDeps) (lat l32 t29) _ e38) Z Z Z (aO (e _ _ Z) (aO (e _ _ Z) bA)) ⟨sr,sr,trivial⟩ Tryz.call62 Z q)) Z (dL (c39) Z (dR 1 Z (dq (.p (eB r40)) [34,35] Z (λ _ e _ q=>aX (bw (jO (lat x_0.fchanges i_1) _ e41) Z Z Z (aO (e _ _ Z) bA) ⟨sr,trivial⟩ Tryz.call63 Z q) Z Z (e _ _ Z) (rfl)) Z (dL (c42) Z (dR 2 Z (dL (aR c43) Z (dR 9 Z (dq (.ptr 1000001 i_1.toNat) [42,48,49] Z (λ _ e _ q=>aX (aG Z Z Z Z Z Z (e _ _ Z) (e _ _ Z) Z hk44 q) Z Z (e _ _ Z) (rfl)) Z (dq (.p (eS (lat l32 i_1))) [42,50] Z (λ _ e _ q=>aX (bo (default:Bytes) (f:=eS) (l:=l32) Z Z Z Z Z (e _ _ Z) Z (by have:=hk44; omega) q) Z Z (e _ _ Z) (rfl)) Z ?_)))))))))))))
   refine dq (.p (eB r45)) [42,44,51] Z (λ _ e _ q=>aX (bw (cx _ ((lat x_0.fchanges t29).fOldDeps) (lat l32 i_1) _ e46) Z Z Z (aO (e _ _ Z) (aO (e _ _ Z) bA)) ⟨sr,sr,trivial⟩ Tryz.call62 Z q) Z Z (e _ _ Z) (rfl)) Z (dR 2 Z ?_)
   refine dE Z (nx 1 Z ?_)
   exact eX _ (oi h3).symm (gE Z Z)
  refine mD [(0,.ptr 1000000 0),(1,.p (eI i_1)),(4,.ptr 4 0),(5,.p (eI t29)),(6,.ptr 6 0),(17,.p (eL ae x_0.fchanges)),(18,.p (eI (x_0.fchanges.length:Int))),(19,.p (eI t29))] Z ⟨Z,Z,Z,Z,Z,Z,Z,Z,trivial⟩ Z (dR 7 Z (dq (.ptr 1000001 t29.toNat) [29,30] Z (λ _ e _ q=>av Z (aG Z Z Z Z Z Z (e _ _ Z) (e _ _ Z) Z hk36 q)) Z (dq (.p (eS (lat l32 t29))) [31] Z (λ _ e _ q=>av Z (bo (default:Bytes) (f:=eS) (l:=l32) Z Z Z Z Z (e _ _ Z) Z (by have:=hk36; omega) q)) Z (dq (.p (eB r37)) [25,32] Z (λ _ e _ q=>av Z (bw (cx _ ((lat x_0.fchanges i_1).fDeps) (lat l32 t29) _ e38) Z Z Z (aO (e _ _ Z) (aO (e _ _ Z) bA)) ⟨sr,sr,trivial⟩ Tryz.call62 Z q)) Z (dL (c39) Z (dR 1 Z (dq (.p (eB r40)) [34,35] Z (λ _ e _ q=>aX (bw (jO (lat x_0.fchanges i_1) _ e41) Z Z Z (aO (e _ _ Z) bA) ⟨sr,trivial⟩ Tryz.call63 Z q) Z Z (e _ _ Z) (rfl)) Z (dL (c42) Z (dR 17 Z ?_)))))))))
  refine dE Z (nx 1 Z ?_)
  exact eX _ (oi h3).symm (gE Z Z)
 exact nx 2 Z (eXi _ (oi h1).symm (aP (bm trivial ⟨⟨_,Z,⟨sr,AV.sub_of_eq (by first | rfl | (simp; done) | (simp [AV.dem]; rfl)),AV.sub_of_eq (by first | rfl | (simp; done) | (simp [AV.dem]; rfl)),sr,trivial⟩⟩,⟨_,Z,ah _⟩,⟨_,Z,ah _⟩,trivial⟩)))
def dB (r_target_copied:ay→Option ay):Nat→Option Unit
 | 0=>none
 | m+1 =>
 if 0 < (([]:List ay).length:Int) then
  ck ((0:Int)≤0∧0 < (([]:List ay).length:Int)) <|
  (r_target_copied (lat ([]:List ay) 0)).bind λ r6 =>
  ck ((0:Int)≤0∧0 < (([]:List ay).length:Int)) <|
  none
 else
  some ()
def cu (r_target_copied:ay→Option ay)(v_0:ay):Nat→Int→(List ay)→Option (List ay)
 | 0,_,_=>none
 | m+1,t17,l18 =>
 if t17 < (v_0.fItems.length:Int) then
  ck ((0:Int)≤t17∧t17 < (l18.length:Int)) <|
  (r_target_copied (lat l18 t17)).bind λ r21 =>
  ck ((0:Int)≤t17∧t17 < (l18.length:Int)) <|
  ck (inR (t17+1)) <|
  cu r_target_copied v_0 m (t17+1) (l18.set t17.toNat r21)
 else
  some l18
def bO:Nat→ay→Option ay
 | 0,_=>none
 | n+1,v_0 =>
 ck (v_0.fKeys.length*16≤140737488355328) <|
 if v_0.fItems.isEmpty=true then
  (dB (bO n) n ).bind λ q28 =>
  some (ay.mk v_0.fKind v_0.fNum v_0.fStr ([]:List ay) v_0.fKeys)
 else
  ck (v_0.fItems.length*80≤140737488355328) <|
  (cu (bO n) v_0 n 0 v_0.fItems).bind λ l27 =>
  some (ay.mk v_0.fKind v_0.fNum v_0.fStr l27 v_0.fKeys)
theorem mU (n:Nat):∀ (v_0:ay) (r:ay),bO n v_0=some r→aA Tryz.prog 64 [.agg (ay.cs v_0)] (·=.p (.agg (ay.cs r))):=by
 induction n with
 | zero=>intro v_0 r h0; cases h0
 | succ n ih =>
 have ih_target_copied_ok:=ih
 intro v_0 r h0
 rw [bO] at h0
 refine ba good Tryz.func64 Z Z Z λ w0=>mP (λ v:ay=>.p (.agg (ay.cs v))) ?_
 refine nx 9 Z (cc' h0 λ hk1 h0=>oK (cM v_0.fKeys hk1) Z ⟨sr,trivial⟩ Tryz.call65 Z (nx 7 Z ?_))
 refine zl (b:=v_0.fItems.isEmpty) (λ c2=>?_) (λ c2=>?_)
 ·replace h0:=CS c2 h0
  refine mO Z (bw (iX v_0.fItems c2) Z Z Z Z ⟨sr,trivial⟩ Tryz.call90 Z (nx 8 Z (oLl (f:=b5) Z Z (nx 3 Z (bd h0 λ o30 h1 h0=>?_)))))
  refine kE 0 o30 (λ v31=>⟨[(1,.ptr 1 0),(2,.ptr 2 0)],[(1,[.p (eI v_0.fKind),.p (eI v_0.fNum),.p (eS v_0.fStr),.p (eL b5 ([]:List ay)),.p (eL eS v_0.fKeys)]),(2,nQ)]⟩) ?_ ?_
  ·exact nx 7 Z (mQ (oi h0) Z (sr))
  refine lG (λ (q32:Unit)=>⟨[(1,.ptr 1 0),(2,.ptr 2 0),(14,.p (eI (([]:List ay).length:Int))),(15,.p (eI 0))],[(1,[.p (eI v_0.fKind),.p (eI v_0.fNum),.p (eS v_0.fStr),.p (eL b5 ([]:List ay)),.p (eL eS v_0.fKeys)]),(2,nQ)]⟩) (λ m (q32:Unit)=>dB (bO n) m ) Y () h1 (gE Z Z) ?_
  rintro m _ h1
  replace h1:dB (bO n) (m+1)  = some o30:=h1
  rw [dB] at h1
  refine nx 5 Z (fD [16] h1 Z (λ c4 h1=>?_) λ c4 h1=>?_)
  ·refine nx 9 Z (cc' h1 λ hk5 h1=>bd h1 λ r6 e7 h1=>cc' h1 λ hk8 h1=>?_)
   cases h1
  exact nx 2 Z (eXi _ (oi h1).symm (gE Z Z))
 replace h0:=Bo c2 h0
 refine cc' h0 λ hk3 h0=>mO Z (b8 [] [] 101000 101001 (iY v_0.fItems c2 hk3) Z Z Z Z Z ⟨sr,trivial⟩ Z Z trivial Z Z Z Z Z Z Z Z Tryz.call90 Z (aK Z (aN _) Z) (nx 12 Z (bd h0 λ o33 h1 h0=>?_)))
 refine kE 0 o33 (λ v34=>⟨[(1,.ptr 1 0),(2,.ptr 2 0)],[(1,[.p (eI v_0.fKind),.p (eI v_0.fNum),.p (eS v_0.fStr),.arr 101000 5 0 v34.length,.p (eL eS v_0.fKeys)]),(2,nQ),(101000,iZ b5 v34)]⟩) ?_ ?_
 ·exact nx 3 Z (mG (pX (sl':=[(1,.ptr 1 0),(2,.ptr 2 0)]) (ob':=[(1,[.p (eI v_0.fKind),.p (eI v_0.fNum),.p (eS v_0.fStr),.p (eL b5 o33),.p (eL eS v_0.fKeys)]),(2,nQ)]) 101000 5 b5 o33 Z Z Z (λ x=>⟨congrArg List.length (ay.cells_eq x),by rw [ay.cells_eq]; rfl⟩) ⟨⟨_,Z,.inl Z⟩,⟨_,Z,.inl Z⟩,trivial⟩ ⟨⟨Z,_,Z,⟨.inl Z,.inl Z,.inl Z,.inr ⟨G ,Z⟩,.inl Z,trivial⟩⟩,⟨Z,_,Z,⟨.inl Z,.inl Z,.inl Z,.inl Z,.inl Z,trivial⟩⟩,trivial⟩) (nx 4 Z (mQ (oi h0) Z (sr))))
 refine lG (λ (q35:Int×(List ay))=>⟨[(1,.ptr 1 0),(2,.ptr 2 0),(14,.p (eI (v_0.fItems.length:Int))),(15,.p (eI q35.1))],[(1,[.p (eI v_0.fKind),.p (eI v_0.fNum),.p (eS v_0.fStr),.arr 101000 5 0 q35.2.length,.p (eL eS v_0.fKeys)]),(2,nQ),(101000,iZ b5 q35.2)]⟩) (λ m (q35:Int×(List ay))=>cu (bO n) v_0 m q35.1 q35.2) Y (0,v_0.fItems) h1 (aP (bm ⟨er Z,er Z,er Z,er Z,trivial⟩ ⟨⟨_,Z,⟨sr,sr,sr,AV.sub_of_eq (congrArg (AV.arr 101000 5 0) G),sr,trivial⟩⟩,⟨_,Z,⟨sr,sr,sr,sr,sr,trivial⟩⟩,⟨_,Z,ah _⟩,trivial⟩)) ?_
 rintro m ⟨t17,l18⟩ h1
 replace h1:cu (bO n) v_0 (m+1) t17 l18=some o33:=h1
 rw [cu] at h1
 refine nx 5 Z (fD [16] h1 Z (λ c19 h1=>?_) λ c19 h1=>?_)
 ·refine nx 9 Z (cc' h1 λ hk20 h1=>bd h1 λ r21 e22 h1=>cc' h1 λ hk23 h1=>mG (aP (t:=⟨[(1,.ptr 1 0),(2,.ptr 2 0),(3,.p (eI t17)),(14,.p (eI (v_0.fItems.length:Int))),(15,.p (eI t17))],[(1,[.p (eI v_0.fKind),.p (eI v_0.fNum),.p (eS v_0.fStr),.arr 101000 5 0 l18.length,.p (eL eS v_0.fKeys)]),(2,nQ),(101000,iZ b5 l18)]⟩) (bm ⟨er Z,er Z,er Z,er Z,er Z,trivial⟩ ⟨⟨_,Z,⟨sr,sr,sr,AV.sub_of_eq (congrArg (AV.arr 101000 5 0) G),sr,trivial⟩⟩,⟨_,Z,⟨sr,sr,sr,sr,sr,trivial⟩⟩,⟨_,Z,ah _⟩,trivial⟩)) (mSq ⟨1,[10],(λ _=>.none),(λ _=>[(1,.ptr 1 0),(2,.ptr 2 0),(3,.p (eI t17)),(14,.p (eI (v_0.fItems.length:Int))),(15,.p (eI t17))]),(ob2 ([(1,[.p (eI v_0.fKind),.p (eI v_0.fNum),.p (eS v_0.fStr),.arr 101000 5 0 l18.length,.p (eL eS v_0.fKeys)]),(2,nQ),(101000,iZ b5 l18)]) (101000,iZ b5 (l18.set t17.toNat r21)))⟩ Z (dPc (.ptr 1 3) Z (dPc (.arr 101000 5 0 l18.length) Z (dPc (.p (eI t17)) Z (dPc (.ptr 1 3) Z (dPc (.arr 101000 5 0 l18.length) Z (dPc (.p (eI t17)) Z ?_))))))))
  refine bE (λ _=>.ptr 101000 (0+t17.toNat*5)) Z Z Z (ic Z Y) (lt1 Z) (bv Z (bb [(22,_),(23,_)] ⟨.inr ⟨4,_,Z,Z,Z⟩,.inr ⟨5,_,Z,Z,Z⟩,trivial⟩ (λ sl hsl K hK=>av Z (jf Z Z Z Z Z Z (hsl _ _ Z) (hsl _ _ Z) Z hk20 hK)) bC)) (bE (λ _=>.p (.agg (ay.cs (lat l18 t17)))) Z Z Z (ic Z Y) (lt1 Z) (bv Z (bb [(24,_)] ⟨.inr ⟨6,_,Z,Z,Z⟩,trivial⟩ (λ sl hsl K hK=>av Z (yc b5 ay.cs l18 Z Z Z Z Z (hsl _ _ Z) Z Z Z hk20 ay.cells_eq Y hK)) bC)) ?_)
  refine bE (λ _=>.p (.agg (ay.cs r21))) Z Z Z (ic Z Y) (lt1 Z) (bv Z (bb [(25,_)] ⟨.inr ⟨7,_,Z,Z,Z⟩,trivial⟩ (λ sl hsl K hK=>av Z (bw (ih_target_copied_ok (lat l18 t17) _ e22) Z Z Z (aO (hsl _ _ Z) bA) ⟨sr,trivial⟩ Tryz.call64 Z hK)) bC)) (bE (λ _=>.ptr 101000 (0+t17.toNat*5)) Z Z Z (ic Z Y) (lt1 Z) (bv Z (bb [(19,_),(20,_)] ⟨.inr ⟨1,_,Z,Z,Z⟩,.inr ⟨2,_,Z,Z,Z⟩,trivial⟩ (λ sl hsl K hK=>av Z (jf Z Z Z Z Z Z (hsl _ _ Z) (hsl _ _ Z) Z hk23 hK)) bC)) ?_)
  refine qR [(26,_),(27,_)] Z ⟨.inr ⟨8,_,Z,Z,Z⟩,.inr ⟨9,_,Z,Z,Z⟩,trivial⟩ Z (λ sl hsl K hK=>av Z (xf b5 ay.cs l18 r21 (n:=t17) Z Z Z (hsl _ _ Z) (hsl _ _ Z) Z Z Z hk23 ay.cells_eq Y Y hK)) (iS ?_)
  exact nx 2 Z (oA h1 Z Z λ hk24 h1=>nx 2 Z (eX (t17+1,l18.set t17.toNat r21) h1 (aP (bm ⟨er Z,er Z,er Z,er Z,trivial⟩ ⟨⟨_,Z,⟨sr,sr,sr,AV.sub_of_eq (congrArg (AV.arr 101000 5 0) G),sr,trivial⟩⟩,⟨_,Z,⟨sr,sr,sr,sr,sr,trivial⟩⟩,⟨_,Z,ah _⟩,trivial⟩))))
 exact nx 2 Z (eXi _ (oi h1).symm (aP (bm ⟨er Z,er Z,trivial⟩ ⟨⟨_,Z,⟨sr,sr,sr,AV.sub_of_eq (congrArg (AV.arr 101000 5 0) G),sr,trivial⟩⟩,⟨_,Z,⟨sr,sr,sr,sr,sr,trivial⟩⟩,⟨_,Z,ah _⟩,trivial⟩)))
def fE (n:Nat)(c_0:ab):Option ab :=
 (bO n c_0.fBefore).bind λ r1 =>
 (bO n c_0.fAfter).bind λ r3 =>
 ck (c_0.fReplace.length*16≤140737488355328) <|
 ck (c_0.fDeps.length*16≤140737488355328) <|
 ck (c_0.fOldDeps.length*16≤140737488355328) <|
 some (ab.mk c_0.fAddr c_0.fDeposed c_0.fType c_0.fAction c_0.fReason r1 r3 c_0.fID c_0.fReplace c_0.fCreateFirst c_0.fProtect c_0.fImport c_0.fDeps c_0.fOldDeps)
theorem rf (n:Nat)(c_0:ab)(r:ab)(h0:fE n c_0=some r):aA Tryz.prog 41 [.agg (ab.cs c_0)] (·=.p (.agg (ab.cs r))):=by
 unfold fE at h0
 refine ba good Tryz.func41 Z Z Z λ w0=>mP (λ v:ab=>.p (.agg (ab.cs v))) ?_
 refine nx 6 Z (bd h0 λ r1 e2 h0=>bd h0 λ r3 e4 h0=>mG (gE (t:=⟨[(1,.ptr 1 0),(2,.ptr 2 0)],[(1,(ab.cs c_0).map .p),(2,tl)]⟩) Z Z) (mSq ⟨2,[7,9],(λ _=>.none),(λ _=>[(1,.ptr 1 0),(2,.ptr 2 0)]),(ob3 ([(1,((ab.cs c_0).map .p)),(2,tl)]) (1,[.p (eS c_0.fAddr),.p (eS c_0.fDeposed),.p (eS c_0.fType),.p (eI c_0.fAction),.p (eI c_0.fReason),.p (eI r1.fKind),.p (eI r1.fNum),.p (eS r1.fStr),.p (eL b5 r1.fItems),.p (eL eS r1.fKeys),.p (eI c_0.fAfter.fKind),.p (eI c_0.fAfter.fNum),.p (eS c_0.fAfter.fStr),.p (eL b5 c_0.fAfter.fItems),.p (eL eS c_0.fAfter.fKeys),.p (eS c_0.fID),.p (eL eS c_0.fReplace),.p (eB c_0.fCreateFirst),.p (eB c_0.fProtect),.p (eB c_0.fImport),.p (eL eS c_0.fDeps),.p (eL eS c_0.fOldDeps)]) (1,[.p (eS c_0.fAddr),.p (eS c_0.fDeposed),.p (eS c_0.fType),.p (eI c_0.fAction),.p (eI c_0.fReason),.p (eI r1.fKind),.p (eI r1.fNum),.p (eS r1.fStr),.p (eL b5 r1.fItems),.p (eL eS r1.fKeys),.p (eI r3.fKind),.p (eI r3.fNum),.p (eS r3.fStr),.p (eL b5 r3.fItems),.p (eL eS r3.fKeys),.p (eS c_0.fID),.p (eL eS c_0.fReplace),.p (eB c_0.fCreateFirst),.p (eB c_0.fProtect),.p (eB c_0.fImport),.p (eL eS c_0.fDeps),.p (eL eS c_0.fOldDeps)]))⟩ Z (dPc (.ptr 1 5) Z (dPc (.p (.agg (ay.cs c_0.fBefore))) Z ?_))))
 refine bE (λ _=>.p (.agg (ay.cs r1))) Z Z Z (wW Z Z Y) (lt2 Z Z) (bv Z (bv Z (bb [(4,_)] ⟨.inr ⟨1,_,Z,Z,Z⟩,trivial⟩ (λ sl hsl K hK=>av Z (bw (mU _ c_0.fBefore _ e2) Z Z Z (aO (hsl _ _ Z) bA) ⟨sr,trivial⟩ Tryz.call64 Z hK)) bC))) (dPc (.ptr 1 10) Z ?_)
 refine dPc (.p (.agg (ay.cs c_0.fAfter))) Z (bE (λ _=>.p (.agg (ay.cs r3))) Z Z Z (wW Z Z Y) (lt2 Z Z) (bv Z (bv Z (bb [(7,_)] ⟨.inr ⟨4,_,Z,Z,Z⟩,trivial⟩ (λ sl hsl K hK=>av Z (bw (mU _ c_0.fAfter _ e4) Z Z Z (aO (hsl _ _ Z) bA) ⟨sr,trivial⟩ Tryz.call64 Z hK)) bC))) (dPc (.ptr 1 5) Z (dS Z (dPc (.ptr 1 10) Z (dS Z ?_)))))
 refine iS (nx 2 Z ?_)
 refine cc' h0 λ hk5 h0=>cc' h0 λ hk6 h0=>cc' h0 λ hk7 h0=>mG (gE (t:=⟨[(1,.ptr 1 0),(2,.ptr 2 0)],[(1,[.p (eS c_0.fAddr),.p (eS c_0.fDeposed),.p (eS c_0.fType),.p (eI c_0.fAction),.p (eI c_0.fReason),.p (eI r1.fKind),.p (eI r1.fNum),.p (eS r1.fStr),.p (eL b5 r1.fItems),.p (eL eS r1.fKeys),.p (eI r3.fKind),.p (eI r3.fNum),.p (eS r3.fStr),.p (eL b5 r3.fItems),.p (eL eS r3.fKeys),.p (eS c_0.fID),.p (eL eS c_0.fReplace),.p (eB c_0.fCreateFirst),.p (eB c_0.fProtect),.p (eB c_0.fImport),.p (eL eS c_0.fDeps),.p (eL eS c_0.fOldDeps)]),(2,tl)]⟩) Z Z) (mSq ⟨3,[10,12,14],(λ _=>.none),(λ _=>[(1,.ptr 1 0),(2,.ptr 2 0)]),(ob4 ([(1,[.p (eS c_0.fAddr),.p (eS c_0.fDeposed),.p (eS c_0.fType),.p (eI c_0.fAction),.p (eI c_0.fReason),.p (eI r1.fKind),.p (eI r1.fNum),.p (eS r1.fStr),.p (eL b5 r1.fItems),.p (eL eS r1.fKeys),.p (eI r3.fKind),.p (eI r3.fNum),.p (eS r3.fStr),.p (eL b5 r3.fItems),.p (eL eS r3.fKeys),.p (eS c_0.fID),.p (eL eS c_0.fReplace),.p (eB c_0.fCreateFirst),.p (eB c_0.fProtect),.p (eB c_0.fImport),.p (eL eS c_0.fDeps),.p (eL eS c_0.fOldDeps)]),(2,tl)]) (1,[.p (eS c_0.fAddr),.p (eS c_0.fDeposed),.p (eS c_0.fType),.p (eI c_0.fAction),.p (eI c_0.fReason),.p (eI r1.fKind),.p (eI r1.fNum),.p (eS r1.fStr),.p (eL b5 r1.fItems),.p (eL eS r1.fKeys),.p (eI r3.fKind),.p (eI r3.fNum),.p (eS r3.fStr),.p (eL b5 r3.fItems),.p (eL eS r3.fKeys),.p (eS c_0.fID),.p (eL eS c_0.fReplace),.p (eB c_0.fCreateFirst),.p (eB c_0.fProtect),.p (eB c_0.fImport),.p (eL eS c_0.fDeps),.p (eL eS c_0.fOldDeps)]) (1,[.p (eS c_0.fAddr),.p (eS c_0.fDeposed),.p (eS c_0.fType),.p (eI c_0.fAction),.p (eI c_0.fReason),.p (eI r1.fKind),.p (eI r1.fNum),.p (eS r1.fStr),.p (eL b5 r1.fItems),.p (eL eS r1.fKeys),.p (eI r3.fKind),.p (eI r3.fNum),.p (eS r3.fStr),.p (eL b5 r3.fItems),.p (eL eS r3.fKeys),.p (eS c_0.fID),.p (eL eS c_0.fReplace),.p (eB c_0.fCreateFirst),.p (eB c_0.fProtect),.p (eB c_0.fImport),.p (eL eS c_0.fDeps),.p (eL eS c_0.fOldDeps)]) (1,[.p (eS c_0.fAddr),.p (eS c_0.fDeposed),.p (eS c_0.fType),.p (eI c_0.fAction),.p (eI c_0.fReason),.p (eI r1.fKind),.p (eI r1.fNum),.p (eS r1.fStr),.p (eL b5 r1.fItems),.p (eL eS r1.fKeys),.p (eI r3.fKind),.p (eI r3.fNum),.p (eS r3.fStr),.p (eL b5 r3.fItems),.p (eL eS r3.fKeys),.p (eS c_0.fID),.p (eL eS c_0.fReplace),.p (eB c_0.fCreateFirst),.p (eB c_0.fProtect),.p (eB c_0.fImport),.p (eL eS c_0.fDeps),.p (eL eS c_0.fOldDeps)]))⟩ Z (dPc (.ptr 1 16) Z (dPc (.p (eL eS c_0.fReplace)) Z ?_)))
 refine bE (λ _=>.p (eL eS c_0.fReplace)) Z Z Z (qM Z Z Z Y) (lt3 Z Z Z) (bv Z (bv Z (bv Z (bb [(12,_)] ⟨.inr ⟨1,_,Z,Z,Z⟩,trivial⟩ (λ sl hsl K hK=>av Z (bw (cM c_0.fReplace hk5) Z Z Z (aO (hsl _ _ Z) bA) ⟨sr,trivial⟩ Tryz.call65 Z hK)) bC)))) (dPc (.ptr 1 20) Z ?_)
 refine dPc (.p (eL eS c_0.fDeps)) Z (bE (λ _=>.p (eL eS c_0.fDeps)) Z Z Z (qM Z Z Z Y) (lt3 Z Z Z) (bv Z (bv Z (bb [(15,_)] ⟨.inr ⟨4,_,Z,Z,Z⟩,trivial⟩ (λ sl hsl K hK=>av Z (bw (cM c_0.fDeps hk6) Z Z Z (aO (hsl _ _ Z) bA) ⟨sr,trivial⟩ Tryz.call65 Z hK)) (bb [(15,_)] ⟨.inr ⟨4,_,Z,Z,Z⟩,trivial⟩ (λ sl hsl K hK=>av Z (bw (cM c_0.fDeps hk6) Z Z Z (aO (hsl _ _ Z) bA) ⟨sr,trivial⟩ Tryz.call65 Z hK)) bC)))) (dPc (.ptr 1 21) Z (dPc (.p (eL eS c_0.fOldDeps)) Z ?_)))
 refine bE (λ _=>.p (eL eS c_0.fOldDeps)) Z Z Z (qM Z Z Z Y) (lt3 Z Z Z) (bv Z (bv Z (bv Z (bb [(18,_)] ⟨.inr ⟨7,_,Z,Z,Z⟩,trivial⟩ (λ sl hsl K hK=>av Z (bw (cM c_0.fOldDeps hk7) Z Z Z (aO (hsl _ _ Z) bA) ⟨sr,trivial⟩ Tryz.call65 Z hK)) bC)))) (dPc (.ptr 1 16) Z ?_)
 exact dS Z (dPc (.ptr 1 20) Z (dS Z (dPc (.ptr 1 21) Z (dS Z (iS (nx 7 Z (mQ (oi h0) Z (sr))))))))
def cI (n:Nat)(l_1:List ab):Nat→Int→(List Bytes)→Option (List Bytes)
 | 0,_,_=>none
 | m+1,t11,l12 =>
 if t11 < (l_1.length:Int) then
  ck ((0:Int)≤t11∧t11 < (l_1.length:Int)) <|
  (eh n ((lat l_1 t11).fAddr)).bind λ r15 =>
  ck ((0:Int)≤t11∧t11 < (l12.length:Int)) <|
  ck (inR (t11+1)) <|
  cI n l_1 m (t11+1) (l12.set t11.toNat r15.1)
 else
  some l12
def cE (n:Nat)(targets_0:List Bytes)(l_1:List ab):Nat→Int→(List ab)→(List Int)→(List Bytes)→(List Bool)→Option ((List ab)×(List Int)×(List Bytes)×(List Bool))
 | 0,_,_,_,_,_=>none
 | m+1,t39,f40,f41,l42,l43 =>
 if t39 < (l_1.length:Int) then
  (
    ck ((0:Int)≤t39∧t39 < (l_1.length:Int)) <|
    (dy n targets_0 ((lat l_1 t39).fAddr)).bind λ r46 =>
    if r46=true then
     (dO (cN.mk f40 l42 l43 f41) t39).bind λ r49 =>
     some (r49.fchanges,r49.ftodo,r49.fresources,r49.fchosen)
    else
     some (f40,f41,l42,l43)
   : Option ((List ab)×(List Int)×(List Bytes)×(List Bool))).bind λ q122 =>
  ck (inR (t39+1)) <|
  cE n targets_0 l_1 m (t39+1) q122.1 q122.2.1 q122.2.2.1 q122.2.2.2
 else
  some (f40,f41,l42,l43)
def cF (n:Nat):Nat→(List ab)→(List Int)→(List Bytes)→(List Bool)→Option ((List ab)×(List Int)×(List Bytes)×(List Bool))
 | 0,_,_,_,_=>none
 | m+1,f76,f77,l78,l79 =>
 if 0 < (f77.length:Int) then
  ck (inR ((f77.length:Int) - 1)) <|
  ck ((0:Int)≤(f77.length:Int) - 1∧(f77.length:Int) - 1 < (f77.length:Int)) <|
  ck (inR ((f77.length:Int) - 1)) <|
  ck ((0:Int)≤(f77.length:Int) - 1∧(f77.length:Int) - 1≤(f77.length:Int)) <|
  (cC n (cN.mk f76 l78 l79 (f77.take ((f77.length:Int) - 1).toNat)) (lat f77 ((f77.length:Int) - 1))).bind λ r85 =>
  cF n m r85.fchanges r85.ftodo r85.fresources r85.fchosen
 else
  some (f76,f77,l78,l79)
def cH (n:Nat)(l_1:List ab)(l94:List Bool):Nat→(List ab)→Int→Option (List ab)
 | 0,_,_=>none
 | m+1,out106,t107 =>
 if t107 < (l_1.length:Int) then
  (
    ck ((0:Int)≤t107∧t107 < (l_1.length:Int)) <|
    ck ((0:Int)≤t107∧t107 < (l94.length:Int)) <|
    if (lat l94 t107)=true then
     (fE n (lat l_1 t107)).bind λ r112 =>
     ck ((out106.length+[r112].length)*320≤140737488355328) <|
     some (out106++[r112])
    else
     some out106
   : Option (List ab)).bind λ out115 =>
  ck (inR (t107+1)) <|
  cH n l_1 l94 m out115 (t107+1)
 else
  some out106
def dx (n:Nat)(targets_0:List Bytes)(l_1:List ab):Option (List ab) :=
 ck ((0:Int)≤(l_1.length:Int)∧(l_1.length:Int)≤9223372036854775807∧(16:Int)*(l_1.length:Int)≤281474976710656) <|
 ck ((0:Int)≤(l_1.length:Int)∧(l_1.length:Int)≤9223372036854775807∧(1:Int)*(l_1.length:Int)≤281474976710656) <|
 (cI n l_1 n 0 (List.replicate (l_1.length:Int).toNat ([]:Bytes))).bind λ l21 =>
 (cE n targets_0 l_1 n 0 l_1 [] l21 (List.replicate (l_1.length:Int).toNat (false:Bool))).bind λ q121 =>
 (cF n n q121.1 q121.2.1 q121.2.2.1 q121.2.2.2).bind λ q123 =>
 (cH n l_1 q123.2.2.2 n [] 0).bind λ out119 =>
 some out119
theorem gQ (n:Nat)(targets_0:List Bytes)(l_1:List ab)(r:(List ab))(h0:dx n targets_0 l_1=some r):aA Tryz.prog 23 [eL eS targets_0,eL ae l_1] (·=.p (eL ae r)):=by
 unfold dx at h0
 refine ba good Tryz.func23 Z Z Z λ w0=>mP (λ v:(List ab)=>.p (eL ae v)) ?_
 refine nx 5 Z (cc' h0 λ hk1 h0=>cc' h0 λ hk2 h0=>mG (gE (t:=⟨[(0,.p (eL eS targets_0)),(1,.p (eL ae l_1))],[]⟩) Z Z) (mSS ⟨3,[3,6,8],(by4 (.some λ i=>Nat.beq i 17) (.some λ i=>Nat.beq i 20) (.some λ i=>Nat.beq i 22) .none),(λ _=>[(0,.p (eL eS targets_0)),(1,.p (eL ae l_1))]),(by4 [] ([(17,((List.replicate (l_1.length:Int).toNat ([]:Bytes)).map eS).map .p)]) ([(20,((List.replicate (l_1.length:Int).toNat (false:Bool)).map eB).map .p),(17,((List.replicate (l_1.length:Int).toNat ([]:Bytes)).map eS).map .p)]) ([(22,[.p (eL ae l_1),.arr 17 1 0 ((List.replicate (l_1.length:Int).toNat ([]:Bytes)).length),.arr 20 1 0 ((List.replicate (l_1.length:Int).toNat (false:Bool)).length),.p (.val (.slice none 0 0))]),(20,((List.replicate (l_1.length:Int).toNat (false:Bool)).map eB).map .p),(17,((List.replicate (l_1.length:Int).toNat ([]:Bytes)).map eS).map .p)]))⟩ ⟨3,[6,3,8],(by4 (.some λ i=>Nat.beq i 20) (.some λ i=>Nat.beq i 17) (.some λ i=>Nat.beq i 22) .none),(λ _=>[(0,.p (eL eS targets_0)),(1,.p (eL ae l_1))]),(by4 [] [(20,((List.replicate (l_1.length:Int).toNat (false:Bool)).map eB).map .p)] ([(17,((List.replicate (l_1.length:Int).toNat ([]:Bytes)).map eS).map .p),(20,((List.replicate (l_1.length:Int).toNat (false:Bool)).map eB).map .p)]) ([(22,[.p (eL ae l_1),.arr 17 1 0 ((List.replicate (l_1.length:Int).toNat ([]:Bytes)).length),.arr 20 1 0 ((List.replicate (l_1.length:Int).toNat (false:Bool)).length),.p (.val (.slice none 0 0))]),(17,((List.replicate (l_1.length:Int).toNat ([]:Bytes)).map eS).map .p),(20,((List.replicate (l_1.length:Int).toNat (false:Bool)).map eB).map .p)]))⟩ Z Z Z Z Z Z Z ⟨Z,Z,trivial⟩ Z (lt3 ⟨Z,Z,trivial⟩ ⟨Z,Z,trivial⟩ ⟨Z,Z,trivial⟩) (lt3 ⟨Z,Z,trivial⟩ ⟨Z,Z,trivial⟩ ⟨Z,Z,trivial⟩) Z Z Z Z Z (dPc (.p (eL ae l_1)) Z (dPc (.p (eL ae l_1)) Z ?_))))
 refine bE (λ _=>.p (eI (l_1.length:Int))) Z Z Z (qM Z Z Z Y) (lt3 Z Z Z) (bv Z (bv Z (bv Z (bb [(15,_)] ⟨.inr ⟨1,_,Z,Z,Z⟩,trivial⟩ (λ sl hsl K hK=>av Z (nM (f:=ae) (l:=l_1) Z Z Z Z Z (hsl _ _ Z) Z hK)) bC)))) ?_
 skip; refine g5 (λ _=>.arr 17 1 0 ((List.replicate (l_1.length:Int).toNat ([]:Bytes)).length)) [(16,_)] Z ⟨.inr ⟨2,_,Z,Z,Z⟩,trivial⟩ Z Z (wW Z Z Y) (lt3 (λ h=>absurd h (by decide)) Y Y) (λ sl hsl K hK=>av Z (qj eS ([]:Bytes) Z Z Z Z Z Z Z Z Z (hsl _ _ Z) (hsl _ _ Z) hk1 (by repeat (first | exact rfl | apply nA Z | apply dmO_drop Z | apply nO Z Z)) hK)) ?_
 refine dPc (.p (eL ae l_1)) Z (bE (λ _=>.p (eI (l_1.length:Int))) Z Z Z (qM Z Z Z Y) (lt3 Z Z Z) (bv Z (bv Z (bb [(18,_)] ⟨.inr ⟨4,_,Z,Z,Z⟩,trivial⟩ (λ sl hsl K hK=>av Z (nM (f:=ae) (l:=l_1) Z Z Z Z Z (hsl _ _ Z) Z hK)) (bb [(18,_)] ⟨.inr ⟨4,_,Z,Z,Z⟩,trivial⟩ (λ sl hsl K hK=>av Z (nM (f:=ae) (l:=l_1) Z Z Z Z Z (hsl _ _ Z) Z hK)) bC)))) ?_)
 skip; refine g5 (λ _=>.arr 20 1 0 ((List.replicate (l_1.length:Int).toNat (false:Bool)).length)) [(19,_)] Z ⟨.inr ⟨5,_,Z,Z,Z⟩,trivial⟩ Z Z (ic Z Y) (lt3 (λ h=>absurd h (by decide)) (λ h=>absurd h (by decide)) Y) (λ sl hsl K hK=>av Z (qj eB (false:Bool) Z Z Z Z Z Z Z Z Z (hsl _ _ Z) (hsl _ _ Z) hk2 (by repeat (first | exact rfl | apply nA Z | apply dmO_drop Z | apply nO Z Z)) hK)) ?_
 refine qw (λ _=>.agg [.p (eL ae l_1),.arr 17 1 0 ((List.replicate (l_1.length:Int).toNat ([]:Bytes)).length),.arr 20 1 0 ((List.replicate (l_1.length:Int).toNat (false:Bool)).length),.p (.val (.slice none 0 0))]) Z Z Z (qM Z Z Z Y) (lt3 (nl Z) (nl Z) Y) (bv Z (bb [(14,_),(17,_),(20,_)] ⟨.inr ⟨0,_,Z,Z,Z⟩,.inr ⟨3,_,Z,Z,Z⟩,.inr ⟨6,_,Z,Z,Z⟩,trivial⟩ (λ sl hsl K hK=>av Z (tN Z Z Z Z Z Z (km (hsl _ _ Z) (km (hsl _ _ Z) (km (hsl _ _ Z) vz))) Z Z hK)) (bv Z (bv Z bC)))) ?_
 skip; refine g5 (λ _=>.ptr 22 0) [(21,_)] Z ⟨.inr ⟨7,_,Z,Z,Z⟩,trivial⟩ Z Z Y (lt3 (λ h=>absurd h (by decide)) (λ h=>absurd h (by decide)) (λ h=>absurd h (by decide))) (λ sl hsl K hK=>av Z (zg Z Z Z (hsl _ _ Z) Z Z (by repeat (first | exact rfl | apply nA Z | apply dmO_drop Z | apply nO Z Z)) hK)) ?_
 refine qw (λ _=>.ptr 22 0) Z Z Z (qM Z Z Z Y) (lt3 Y Y (nl Z)) (bb [(22,_)] ⟨.inr ⟨8,_,Z,Z,Z⟩,trivial⟩ (λ sl hsl K hK=>av Z (bp Z Z Z (hsl _ _ Z) hK)) (bv Z (bv Z (bv Z bC)))) ?_
 skip; refine EF (dPc (.p (eL ae l_1)) Z (dPc (.p (eL ae l_1)) Z (bE (λ _=>.p (eI (l_1.length:Int))) Z Z Z (qM Z Z Z Y) (lt3 Z Z Z) (bv Z (bv Z (bb [(15,_)] ⟨.inr ⟨1,_,Z,Z,Z⟩,trivial⟩ (λ sl hsl K hK=>av Z (nM (f:=ae) (l:=l_1) Z Z Z Z Z (hsl _ _ Z) Z hK)) (bb [(15,_)] ⟨.inr ⟨1,_,Z,Z,Z⟩,trivial⟩ (λ sl hsl K hK=>av Z (nM (f:=ae) (l:=l_1) Z Z Z Z Z (hsl _ _ Z) Z hK)) bC)))) (g5 (λ _=>.arr 17 1 0 ((List.replicate (l_1.length:Int).toNat ([]:Bytes)).length)) [(16,_)] Z ⟨.inr ⟨2,_,Z,Z,Z⟩,trivial⟩ Z Z (ic Z Y) (lt3 (λ h=>absurd h (by decide)) (λ h=>absurd h (by decide)) Y) (λ sl hsl K hK=>av Z (qj eS ([]:Bytes) Z Z Z Z Z Z Z Z Z (hsl _ _ Z) (hsl _ _ Z) hk1 (by repeat (first | exact rfl | apply nA Z | apply dmO_drop Z | apply nO Z Z)) hK)) (dPc (.p (eL ae l_1)) Z (bE (λ _=>.p (eI (l_1.length:Int))) Z Z Z (qM Z Z Z Y) (lt3 Z Z Z) (bv Z (bv Z (bv Z (bb [(18,_)] ⟨.inr ⟨4,_,Z,Z,Z⟩,trivial⟩ (λ sl hsl K hK=>av Z (nM (f:=ae) (l:=l_1) Z Z Z Z Z (hsl _ _ Z) Z hK)) bC)))) (g5 (λ _=>.arr 20 1 0 ((List.replicate (l_1.length:Int).toNat (false:Bool)).length)) [(19,_)] Z ⟨.inr ⟨5,_,Z,Z,Z⟩,trivial⟩ Z Z (wW Z Z Y) (lt3 (λ h=>absurd h (by decide)) Y Y) (λ sl hsl K hK=>av Z (qj eB (false:Bool) Z Z Z Z Z Z Z Z Z (hsl _ _ Z) (hsl _ _ Z) hk2 (by repeat (first | exact rfl | apply nA Z | apply dmO_drop Z | apply nO Z Z)) hK)) (qw (λ _=>.agg [.p (eL ae l_1),.arr 17 1 0 ((List.replicate (l_1.length:Int).toNat ([]:Bytes)).length),.arr 20 1 0 ((List.replicate (l_1.length:Int).toNat (false:Bool)).length),.p (.val (.slice none 0 0))]) Z Z Z (qM Z Z Z Y) (lt3 (nl Z) (nl Z) Y) (bv Z (bb [(14,_),(17,_),(20,_)] ⟨.inr ⟨0,_,Z,Z,Z⟩,.inr ⟨3,_,Z,Z,Z⟩,.inr ⟨6,_,Z,Z,Z⟩,trivial⟩ (λ sl hsl K hK=>av Z (tN Z Z Z Z Z Z (km (hsl _ _ Z) (km (hsl _ _ Z) (km (hsl _ _ Z) vz))) Z Z hK)) (bv Z (bv Z bC)))) (g5 (λ _=>.ptr 22 0) [(21,_)] Z ⟨.inr ⟨7,_,Z,Z,Z⟩,trivial⟩ Z Z Y (lt3 (λ h=>absurd h (by decide)) (λ h=>absurd h (by decide)) (λ h=>absurd h (by decide))) (λ sl hsl K hK=>av Z (zg Z Z Z (hsl _ _ Z) Z Z (by repeat (first | exact rfl | apply nA Z | apply dmO_drop Z | apply nO Z Z)) hK)) (qw (λ _=>.ptr 22 0) Z Z Z (qM Z Z Z Y) (lt3 Y Y (nl Z)) (bb [(22,_)] ⟨.inr ⟨8,_,Z,Z,Z⟩,trivial⟩ (λ sl hsl K hK=>av Z (bp Z Z Z (hsl _ _ Z) hK)) (bv Z (bv Z (bv Z bC)))) (Fb Z ⟨Z,Z,Z,trivial⟩ ⟨⟨Z,Z,.inr Z⟩,⟨⟨Z,Z,.inl Z⟩,⟨⟨Z,Z,.inr Z⟩,⟨⟨Z,Z,.inl Z⟩,⟨⟨Z,Z,.inr Z⟩,⟨⟨Z,Z,.inr Z⟩,⟨⟨Z,Z,.inl Z⟩,⟨⟨Z,Z,.inr Z⟩,⟨⟨Z,Z,.inr Z⟩,⟨⟨Z,Z,.inr Z⟩,trivial⟩⟩⟩⟩⟩⟩⟩⟩⟩⟩))))))))))) ?_
 refine nx 5 Z (oLl (f:=ae) Z Z (nx 3 Z (bd h0 λ o126 h1 h0=>?_)))
 refine kE 0 o126 (λ v127=>⟨[(0,.p (eL eS targets_0)),(1,.p (eL ae l_1)),(5,.ptr 22 0)],[(22,[.p (eL ae l_1),.arr 17 1 0 v127.length,.arr 20 1 0 ((List.replicate (l_1.length:Int).toNat (false:Bool)).length),.p (.val (.slice none 0 0))]),(17,(v127.map eS).map .p),(20,((List.replicate (l_1.length:Int).toNat (false:Bool)).map eB).map .p)]⟩) ?_ ?_
 ·refine nx 5 Z (oLl (f:=ae) Z Z (nx 3 Z (bd h0 λ o128 h1 h0=>?_)))
  refine kE 2 o128 (λ v129=>⟨[(1,.p (eL ae l_1)),(5,.ptr 22 0)],[(22,[.p (eL ae v129.1),.arr 17 1 0 v129.2.2.1.length,.arr 20 1 0 v129.2.2.2.length,.stk 101000 1 (v129.2.1.map eI)]),(17,(v129.2.2.1.map eS).map .p),(20,(v129.2.2.2.map eB).map .p)]⟩) ?_ ?_
  ·refine nx 3 Z (bd h0 λ o130 h1 h0=>?_)
   refine kE 4 o130 (λ v131=>⟨[(1,.p (eL ae l_1)),(5,.ptr 22 0)],[(22,[.p (eL ae v131.1),.arr 17 1 0 v131.2.2.1.length,.arr 20 1 0 v131.2.2.2.length,.stk 103000 1 (v131.2.1.map eI)]),(17,(v131.2.2.1.map eS).map .p),(20,(v131.2.2.2.map eB).map .p)]⟩) ?_ ?_
   ·refine nx 9 Z (oLl (f:=ae) Z Z (nx 3 Z (bd h0 λ o132 h1 h0=>?_)))
    refine kE 6 o132 (λ v133=>⟨[(11,.vec 111 22 0 (v133.map ae))],[]⟩) ?_ ?_
    ·exact nx 7 Z (mQ (oi h0) Z (AV.sub_vec _ _ _ _))
    refine lG (λ (q134:(List ab)×Int)=>⟨[(5,.ptr 22 0),(11,.vec 111 22 0 (q134.1.map ae)),(93,.p (eL ae l_1)),(94,.p (eI (l_1.length:Int))),(95,.p (eI q134.2))],[(22,[.p (eL ae o130.1),.arr 17 1 0 o130.2.2.1.length,.arr 20 1 0 o130.2.2.2.length,.stk 103000 1 (o130.2.1.map eI)]),(17,(o130.2.2.1.map eS).map .p),(20,(o130.2.2.2.map eB).map .p)]⟩) (λ m (q134:(List ab)×Int)=>cH n l_1 o130.2.2.2 m q134.1 q134.2) Y ([],0) h1 (aP (bm ⟨er Z,⟨_,Z,AV.sub_nilvec _ _ _⟩,er Z,er Z,er Z,trivial⟩ ⟨⟨_,Z,⟨sr,sr,sr,sr,trivial⟩⟩,⟨_,Z,ah _⟩,⟨_,Z,ah _⟩,trivial⟩)) ?_
    rintro m ⟨out106,t107⟩ h1
    replace h1:cH n l_1 o130.2.2.2 (m+1) out106 t107=some o132:=h1
    rw [cH] at h1
    refine nx 5 Z (fD [96] h1 Z (λ c108 h1=>?_) λ c108 h1=>?_)
    ·refine nx 3 Z (bd h1 λ o135 h2 h1=>?_)
     refine kN o135 (λ v136=>⟨[(5,.ptr 22 0),(11,.vec 111 22 0 (v136.map ae)),(93,.p (eL ae l_1)),(94,.p (eI (l_1.length:Int))),(95,.p (eI t107))],[(22,[.p (eL ae o130.1),.arr 17 1 0 o130.2.2.1.length,.arr 20 1 0 o130.2.2.2.length,.stk 103000 1 (o130.2.1.map eI)]),(17,(o130.2.2.1.map eS).map .p),(20,(o130.2.2.2.map eB).map .p)]⟩) ?_ ?_
     ·exact nx 2 Z (oA h1 Z Z λ hk116 h1=>nx 2 Z (eX (o135,t107+1) h1 (gE Z Z)))
     refine nx 4 Z (oE h2 ab.cells_eq Z Z Y λ hk109 h2=>nx 1 Z (mO Z (mN Z Z Z Z Z (mG (mZ (show lY _ _=_ from (by repeat (first | exact iP _ | apply demOb_drop Z | apply dd Z (mB _ _) | apply dd Z Z)))) (nx 10 Z (cc' h2 λ hk110 h2=>mO Z (aG Z Z Z Z Z Z Z Z Z hk110 (mO Z (bo (default:Bool) (f:=eB) (l:=o130.2.2.2) Z Z Z Z Z Z Z (by have:=hk110; omega) (nx 1 Z (fB [106] h2 Z (λ c111 h2=>?_) λ c111 h2=>?_)))))))))))
     ·exact nx 4 Z (bd h2 λ r112 e113 h2=>oK (rf _ (lat l_1 t107) _ e113) Z ⟨sr,trivial⟩ Tryz.call41 Z (mO Z (bs ae [r112] Z Z Z Z Z Z Z Z Z Z Z Z Z (by first | rfl | (simp only [List.map_cons,List.map_nil,ab.agg_eq]; done) | (simp only [List.map_cons,List.map_nil,ab.agg_eq]; rfl)) (cc' h2 λ hk114 h2=>mO Z (gB ae out106 [r112] Z Z Z Z Z Z Z Z Z Z Z Z Z (λ x=>congrArg List.length (ab.cells_eq x)) Z Z Z Z hk114 (mG (xe (show lY _ _=_ from (by repeat (first | exact iP _ | apply demOb_drop Z | apply dd Z (mB _ _) | apply dd Z Z)))) (nx 2 Z (eX _ (oi h2).symm (gE Z Z)))))))))
     exact nx 2 Z (eX _ (oi h2).symm (gE Z Z))
    exact nx 2 Z (eXi _ (oi h1).symm (gE Z Z))
   skip; refine mG (bB 101000 103000 Z Z Z Z (by repeat (first | exact rfl | exact aN _ | apply aK))) ?_
   refine lG (λ (q137:(List ab)×(List Int)×(List Bytes)×(List Bool))=>⟨[(1,.p (eL ae l_1)),(5,.ptr 22 0)],[(22,[.p (eL ae q137.1),.arr 17 1 0 q137.2.2.1.length,.arr 20 1 0 q137.2.2.2.length,.stk 103000 1 (q137.2.1.map eI)]),(17,(q137.2.2.1.map eS).map .p),(20,(q137.2.2.2.map eB).map .p)]⟩) (λ m (q137:(List ab)×(List Int)×(List Bytes)×(List Bool))=>cF n m q137.1 q137.2.1 q137.2.2.1 q137.2.2.2) Y (o128.1,o128.2.1,o128.2.2.1,o128.2.2.2) h1 (aP (bm ⟨er Z,er Z,trivial⟩ ⟨⟨_,Z,⟨sr,AV.sub_of_eq (by first | rfl | (simp; done) | (simp [AV.dem]; rfl)),AV.sub_of_eq (by first | rfl | (simp; done) | (simp [AV.dem]; rfl)),sr,trivial⟩⟩,⟨_,Z,ah _⟩,⟨_,Z,ah _⟩,trivial⟩)) ?_
   rintro m ⟨f76,f77,l78,l79⟩ h1
   replace h1:cF n (m+1) f76 f77 l78 l79=some o130:=h1
   rw [cF] at h1
   refine nx 7 Z (mO Z (nj eI f77 Z Z Z Z Z Z (nx 2 Z (fD [63] h1 Z (λ c80 h1=>?_) λ c80 h1=>?_))))
   ·refine nx 4 Z (cc' h1 λ hk81 h1=>cc' h1 λ hk82 h1=>mD [(1,.p (eL ae l_1)),(5,.ptr 22 0)] Z ⟨Z,Z,trivial⟩ Z (dR 8 Z (dq (.p (eI (f77.length:Int))) [71] Z (λ _ e _ q=>av Z (nj eI f77 Z Z Z Z Z (e _ _ Z) q)) Z (dq (.p (eI ((f77.length:Int) - 1))) [72] Z (λ _ e _ q=>av Z (eq Z Z Z (e _ _ Z) Z Z hk81 q)) Z (dq (.ptr 103000 ((f77.length:Int) - 1).toNat) [67,73] Z (λ _ e _ q=>av Z (pb eI f77 Z Z Z Z Z Z (e _ _ Z) (e _ _ Z) Z hk82 q)) Z (dq (.p (eI (lat f77 ((f77.length:Int) - 1)))) [74] Z (λ _ e _ q=>av Z (ye eI (λ _=>⟨Z,Z⟩) f77 22 3 Z Z Z Z Z (e _ _ Z) Z Z hk82 q)) Z (dR 1 Z (dE Z (nx 2 Z (cc' h1 λ hk83 h1=>cc' h1 λ hk84 h1=>mG (gE (t:=⟨[(1,.p (eL ae l_1)),(5,.ptr 22 0),(10,.p (eI (lat f77 ((f77.length:Int) - 1))))],[(22,[.p (eL ae f76),.arr 17 1 0 l78.length,.arr 20 1 0 l79.length,.stk 103000 1 (f77.map eI)]),(17,(l78.map eS).map .p),(20,(l79.map eB).map .p)]⟩) Z Z) (mSq ⟨1,[14],(λ _=>.none),(λ _=>[(1,.p (eL ae l_1)),(5,.ptr 22 0),(10,.p (eI (lat f77 ((f77.length:Int) - 1))))]),(ob2 ([(22,[.p (eL ae f76),.arr 17 1 0 l78.length,.arr 20 1 0 l79.length,.stk 103000 1 (f77.map eI)]),(17,(l78.map eS).map .p),(20,(l79.map eB).map .p)]) (22,[.p (eL ae f76),.arr 17 1 0 l78.length,.arr 20 1 0 l79.length,.stk 103000 1 ((f77.take ((f77.length:Int) - 1).toNat).map eI)]))⟩ Z ?_)))))))))))
    refine dPc (.ptr 22 0) Z (dPc (.ptr 22 0) Z (dPc (.ptr 22 0) Z (dPc (.ptr 22 3) Z (dPc (.stk 103000 1 (f77.map eI)) Z (dPc (.ptr 22 0) Z (dPc (.ptr 22 0) Z (dPc (.ptr 22 3) Z (dPc (.stk 103000 1 (f77.map eI)) Z (bE (λ _=>.p (eI (f77.length:Int))) Z Z Z (ic Z Y) (lt1 Z) (bv Z (bb [(84,_)] ⟨.inr ⟨8,_,Z,Z,Z⟩,trivial⟩ (λ sl hsl K hK=>av Z (nj eI f77 Z Z Z Z Z (hsl _ _ Z) hK)) bC)) ?_)))))))))
    refine bE (λ _=>.p (eI ((f77.length:Int) - 1))) Z Z Z (ic Z Y) (lt1 Z) (bv Z (bb [(85,_)] ⟨.inr ⟨9,_,Z,Z,Z⟩,trivial⟩ (λ sl hsl K hK=>av Z (eq Z Z Z (hsl _ _ Z) Z Z hk83 hK)) bC)) (bE (λ _=>.stk 103000 1 ((f77.take ((f77.length:Int) - 1).toNat).map eI)) Z Z Z (ic Z Y) (lt1 Z) (bv Z (bb [(80,_),(86,_)] ⟨.inr ⟨4,_,Z,Z,Z⟩,.inr ⟨10,_,Z,Z,Z⟩,trivial⟩ (λ sl hsl K hK=>av Z (tV (h:=(f77.length:Int) - 1) eI f77 Z Z Z Z Z Z (hsl _ _ Z) (qZ (hsl _ _ Z)) hk84 Z hK)) bC)) ?_)
    refine dPc (.ptr 22 0) Z (dPc (.ptr 22 3) Z (dS Z (iS (nx 4 Z (bd h1 λ r85 e86 h1=>mO Z (b8 [22,17,20] [103000] 104000 104001 (mM _ (cN.mk f76 l78 l79 (f77.take ((f77.length:Int) - 1).toNat)) (lat f77 ((f77.length:Int) - 1)) _ e86) Z Z Z Z Z ⟨sr,sr,trivial⟩ Z (aK Z Z (aK Z (aN _) (aK Z (aN _) Z))) ⟨⟨_,Z,⟨sr,sr,sr,sr,trivial⟩⟩,⟨_,Z,ah _⟩,⟨_,Z,ah _⟩,trivial⟩ Z Z Z Z Z Z Z Z Tryz.call40 Z (aK Z Z (aK Z (aN _) (aK Z (aN _) Z))) (nx 1 Z ?_)))))))
    skip; refine mG (bB 104000 103000 Z Z Z Z (by repeat (first | exact rfl | exact aN _ | apply aK))) ?_
    exact eX (r85.fchanges,r85.ftodo,r85.fresources,r85.fchosen) h1 (aP (bm ⟨er Z,er Z,trivial⟩ ⟨⟨_,Z,⟨sr,AV.sub_of_eq (by first | rfl | (simp; done) | (simp [AV.dem]; rfl)),AV.sub_of_eq (by first | rfl | (simp; done) | (simp [AV.dem]; rfl)),sr,trivial⟩⟩,⟨_,Z,ah _⟩,⟨_,Z,ah _⟩,trivial⟩))
   exact nx 2 Z (eXi _ (oi h1).symm (aP (bm ⟨er Z,er Z,trivial⟩ ⟨⟨_,Z,⟨sr,AV.sub_of_eq (by first | rfl | (simp; done) | (simp [AV.dem]; rfl)),AV.sub_of_eq (by first | rfl | (simp; done) | (simp [AV.dem]; rfl)),sr,trivial⟩⟩,⟨_,Z,ah _⟩,⟨_,Z,ah _⟩,trivial⟩)))
  refine lG (λ (q138:Int×(List ab)×(List Int)×(List Bytes)×(List Bool))=>⟨[(0,.p (eL eS targets_0)),(1,.p (eL ae l_1)),(5,.ptr 22 0),(43,.p (eL ae l_1)),(44,.p (eI (l_1.length:Int))),(45,.p (eI q138.1))],[(22,[.p (eL ae q138.2.1),.arr 17 1 0 q138.2.2.2.1.length,.arr 20 1 0 q138.2.2.2.2.length,.stk 101000 1 (q138.2.2.1.map eI)]),(17,(q138.2.2.2.1.map eS).map .p),(20,(q138.2.2.2.2.map eB).map .p)]⟩) (λ m (q138:Int×(List ab)×(List Int)×(List Bytes)×(List Bool))=>cE n targets_0 l_1 m q138.1 q138.2.1 q138.2.2.1 q138.2.2.2.1 q138.2.2.2.2) Y (0,l_1,[],o126,List.replicate (l_1.length:Int).toNat (false:Bool)) h1 (aP (bm ⟨er Z,er Z,er Z,er Z,er Z,er Z,trivial⟩ ⟨⟨_,Z,⟨sr,AV.sub_of_eq (by first | rfl | (simp; done) | (simp [AV.dem]; rfl)),AV.sub_of_eq (by first | rfl | (simp; done) | (simp [AV.dem]; rfl)),AV.sub_nilstk _ _,trivial⟩⟩,⟨_,Z,ah _⟩,⟨_,Z,ah _⟩,trivial⟩)) ?_
  rintro m ⟨t39,f40,f41,l42,l43⟩ h1
  replace h1:cE n targets_0 l_1 (m+1) t39 f40 f41 l42 l43=some o128:=h1
  rw [cE] at h1
  refine nx 5 Z (fD [46] h1 Z (λ c44 h1=>?_) λ c44 h1=>?_)
  ·refine nx 3 Z (bd h1 λ o139 h2 h1=>?_)
   refine kN o139 (λ v140=>⟨[(0,.p (eL eS targets_0)),(1,.p (eL ae l_1)),(5,.ptr 22 0),(43,.p (eL ae l_1)),(44,.p (eI (l_1.length:Int))),(45,.p (eI t39))],[(22,[.p (eL ae v140.1),.arr 17 1 0 v140.2.2.1.length,.arr 20 1 0 v140.2.2.2.length,.stk 102000 1 (v140.2.1.map eI)]),(17,(v140.2.2.1.map eS).map .p),(20,(v140.2.2.2.map eB).map .p)]⟩) ?_ ?_
   ·refine nx 2 Z (oA h1 Z Z λ hk55 h1=>nx 2 Z ?_)
    skip; refine mG (bB 102000 101000 Z Z Z Z (by repeat (first | exact rfl | exact aN _ | apply aK))) ?_
    exact eX (t39+1,o139.1,o139.2.1,o139.2.2.1,o139.2.2.2) h1 (aP (bm ⟨er Z,er Z,er Z,er Z,er Z,er Z,trivial⟩ ⟨⟨_,Z,⟨sr,AV.sub_of_eq (by first | rfl | (simp; done) | (simp [AV.dem]; rfl)),AV.sub_of_eq (by first | rfl | (simp; done) | (simp [AV.dem]; rfl)),sr,trivial⟩⟩,⟨_,Z,ah _⟩,⟨_,Z,ah _⟩,trivial⟩))
   refine nx 4 Z (oE h2 ab.cells_eq Z Z Y λ hk45 h2=>nx 1 Z (mO Z (mN Z Z Z Z Z (mG (mZ (show lY _ _=_ from (by repeat (first | exact iP _ | apply demOb_drop Z | apply dd Z (mB _ _) | apply dd Z Z)))) (nx 8 Z (bd h2 λ r46 e47 h2=>oK (jC _ targets_0 ((lat l_1 t39).fAddr) _ e47) Z ⟨sr,sr,trivial⟩ Tryz.call15 Z (nx 1 Z ?_)))))))
   refine fB [53] h2 Z (λ c48 h2=>?_) λ c48 h2=>?_
   ·exact nx 4 Z (bd h2 λ r49 e50 h2=>mO Z (b8 [22,17,20] [101000] 102000 102001 (ji (cN.mk f40 l42 l43 f41) t39 _ e50) Z Z Z Z Z ⟨sr,sr,trivial⟩ Z (aK Z Z (aK Z (aN _) (aK Z (aN _) Z))) ⟨⟨_,Z,⟨sr,sr,sr,sr,trivial⟩⟩,⟨_,Z,ah _⟩,⟨_,Z,ah _⟩,trivial⟩ Z Z Z Z Z Z Z Z Tryz.call39 Z (aK Z Z (aK Z (aN _) (aK Z (aN _) Z))) (nx 1 Z (eX _ (oi h2).symm (aP (bm ⟨er Z,er Z,er Z,er Z,er Z,er Z,trivial⟩ ⟨⟨_,Z,⟨sr,AV.sub_of_eq (by first | rfl | (simp; done) | (simp [AV.dem]; rfl)),AV.sub_of_eq (by first | rfl | (simp; done) | (simp [AV.dem]; rfl)),sr,trivial⟩⟩,⟨_,Z,ah _⟩,⟨_,Z,ah _⟩,trivial⟩))))))
   refine nx 2 Z ?_
   skip; refine mG (bB 101000 102000 Z Z Z Z (by repeat (first | exact rfl | exact aN _ | apply aK))) ?_
   exact eX _ (oi h2).symm (aP (bm ⟨er Z,er Z,er Z,er Z,er Z,er Z,trivial⟩ ⟨⟨_,Z,⟨sr,AV.sub_of_eq (by first | rfl | (simp; done) | (simp [AV.dem]; rfl)),AV.sub_of_eq (by first | rfl | (simp; done) | (simp [AV.dem]; rfl)),sr,trivial⟩⟩,⟨_,Z,ah _⟩,⟨_,Z,ah _⟩,trivial⟩))
  exact nx 2 Z (eXi _ (oi h1).symm (aP (bm ⟨er Z,er Z,trivial⟩ ⟨⟨_,Z,⟨sr,AV.sub_of_eq (by first | rfl | (simp; done) | (simp [AV.dem]; rfl)),AV.sub_of_eq (by first | rfl | (simp; done) | (simp [AV.dem]; rfl)),sr,trivial⟩⟩,⟨_,Z,ah _⟩,⟨_,Z,ah _⟩,trivial⟩)))
 refine lG (λ (q141:Int×(List Bytes))=>⟨[(0,.p (eL eS targets_0)),(1,.p (eL ae l_1)),(5,.ptr 22 0),(23,.p (eL ae l_1)),(24,.p (eI (l_1.length:Int))),(25,.p (eI q141.1))],[(22,[.p (eL ae l_1),.arr 17 1 0 q141.2.length,.arr 20 1 0 ((List.replicate (l_1.length:Int).toNat (false:Bool)).length),.p (.val (.slice none 0 0))]),(17,(q141.2.map eS).map .p),(20,((List.replicate (l_1.length:Int).toNat (false:Bool)).map eB).map .p)]⟩) (λ m (q141:Int×(List Bytes))=>cI n l_1 m q141.1 q141.2) Y (0,List.replicate (l_1.length:Int).toNat ([]:Bytes)) h1 (aP (bm ⟨er Z,er Z,er Z,er Z,er Z,er Z,trivial⟩ ⟨⟨_,Z,⟨sr,AV.sub_of_eq (by first | rfl | (simp; done) | (simp [AV.dem]; rfl)),sr,sr,trivial⟩⟩,⟨_,Z,ah _⟩,⟨_,Z,ah _⟩,trivial⟩)) ?_
 rintro m ⟨t11,l12⟩ h1
 replace h1:cI n l_1 (m+1) t11 l12=some o126:=h1
 rw [cI] at h1
 refine nx 5 Z (fD [26] h1 Z (λ c13 h1=>?_) λ c13 h1=>?_)
 ·refine nx 7 Z (oE h1 ab.cells_eq Z Z Y λ hk14 h1=>nx 1 Z (mO Z (mN Z Z Z Z Z (mG (mZ (show lY _ _=_ from (by repeat (first | exact iP _ | apply demOb_drop Z | apply dd Z (mB _ _) | apply dd Z Z)))) (nx 3 Z (bd h1 λ r15 e16 h1=>cc' h1 λ hk17 h1=>mG (gE (t:=⟨[(0,.p (eL eS targets_0)),(1,.p (eL ae l_1)),(5,.ptr 22 0),(6,.p (eI t11)),(7,.ptr 7 0),(23,.p (eL ae l_1)),(24,.p (eI (l_1.length:Int))),(25,.p (eI t11))],[(7,(ab.cs (lat l_1 t11)).map .p),(22,[.p (eL ae l_1),.arr 17 1 0 l12.length,.arr 20 1 0 ((List.replicate (l_1.length:Int).toNat (false:Bool)).length),.p (.val (.slice none 0 0))]),(17,(l12.map eS).map .p),(20,((List.replicate (l_1.length:Int).toNat (false:Bool)).map eB).map .p)]⟩) Z Z) (mSq ⟨1,[12],(λ _=>.none),(λ _=>[(0,.p (eL eS targets_0)),(1,.p (eL ae l_1)),(5,.ptr 22 0),(6,.p (eI t11)),(7,.ptr 7 0),(23,.p (eL ae l_1)),(24,.p (eI (l_1.length:Int))),(25,.p (eI t11))]),(ob2 ([(7,[.p (eS ((lat l_1 t11).fAddr)),.p (eS ((lat l_1 t11).fDeposed)),.p (eS ((lat l_1 t11).fType)),.p (eI ((lat l_1 t11).fAction)),.p (eI ((lat l_1 t11).fReason)),.p (eI (((lat l_1 t11).fBefore).fKind)),.p (eI (((lat l_1 t11).fBefore).fNum)),.p (eS (((lat l_1 t11).fBefore).fStr)),.p (eL b5 (((lat l_1 t11).fBefore).fItems)),.p (eL eS (((lat l_1 t11).fBefore).fKeys)),.p (eI (((lat l_1 t11).fAfter).fKind)),.p (eI (((lat l_1 t11).fAfter).fNum)),.p (eS (((lat l_1 t11).fAfter).fStr)),.p (eL b5 (((lat l_1 t11).fAfter).fItems)),.p (eL eS (((lat l_1 t11).fAfter).fKeys)),.p (eS ((lat l_1 t11).fID)),.p (eL eS ((lat l_1 t11).fReplace)),.p (eB ((lat l_1 t11).fCreateFirst)),.p (eB ((lat l_1 t11).fProtect)),.p (eB ((lat l_1 t11).fImport)),.p (eL eS ((lat l_1 t11).fDeps)),.p (eL eS ((lat l_1 t11).fOldDeps))]),(22,[.p (eL ae l_1),.arr 17 1 0 l12.length,.arr 20 1 0 ((List.replicate (l_1.length:Int).toNat (false:Bool)).length),.p (.val (.slice none 0 0))]),(17,(l12.map eS).map .p),(20,((List.replicate (l_1.length:Int).toNat (false:Bool)).map eB).map .p)]) (17,((l12.set t11.toNat r15.1).map eS).map .p))⟩ Z (dPc (.ptr 22 0) Z (dPc (.ptr 22 0) Z (dPc (.ptr 22 1) Z (dPc (.arr 17 1 0 l12.length) Z (dPc (.p (eI t11)) Z (dPc (.ptr 7 0) Z ?_)))))))))))))
  refine dPc (.p (eS ((lat l_1 t11).fAddr))) Z (bE (λ _=>.tuple [.p (eS r15.1),.p (eI r15.2)]) Z Z Z (ic Z Y) (lt1 Z) (bv Z (bb [(37,_)] ⟨.inr ⟨6,_,Z,Z,Z⟩,trivial⟩ (λ sl hsl K hK=>av Z (bw (mj _ ((lat l_1 t11).fAddr) _ e16) Z Z Z (aO (hsl _ _ Z) bA) ⟨sr,trivial⟩ Tryz.call32 Z hK)) bC)) (dPc (.tuple [.p (eS r15.1),.p (eI r15.2)]) Z (dPc (.p (eS r15.1)) Z (dPc (.p (eI r15.2)) Z (bE (λ _=>.ptr 17 t11.toNat) Z Z Z (ic Z Y) (lt1 Z) (bv Z (bb [(34,_),(35,_)] ⟨.inr ⟨3,_,Z,Z,Z⟩,.inr ⟨4,_,Z,Z,Z⟩,trivial⟩ (λ sl hsl K hK=>av Z (aG Z Z Z Z Z Z (hsl _ _ Z) (hsl _ _ Z) Z hk17 hK)) bC)) ?_)))))
  refine qR [(39,_),(41,_)] Z ⟨.inr ⟨9,_,Z,Z,Z⟩,.inr ⟨11,_,Z,Z,Z⟩,trivial⟩ Z (λ sl hsl K hK=>av Z (bV (f:=eS) (l:=l12) (b:=r15.1) Z Z Z Z (hsl _ _ Z) Z (hsl _ _ Z) Z (by have:=hk17; omega) hK)) (iS ?_)
  exact nx 2 Z (oA h1 Z Z λ hk18 h1=>nx 2 Z (eX (t11+1,l12.set t11.toNat r15.1) h1 (aP (bm ⟨er Z,er Z,er Z,er Z,er Z,er Z,trivial⟩ ⟨⟨_,Z,⟨sr,AV.sub_of_eq (by first | rfl | (simp; done) | (simp [AV.dem]; rfl)),sr,sr,trivial⟩⟩,⟨_,Z,ah _⟩,⟨_,Z,ah _⟩,trivial⟩))))
 exact nx 2 Z (eXi _ (oi h1).symm (aP (bm ⟨er Z,er Z,er Z,trivial⟩ ⟨⟨_,Z,⟨sr,AV.sub_of_eq (by first | rfl | (simp; done) | (simp [AV.dem]; rfl)),sr,sr,trivial⟩⟩,⟨_,Z,ah _⟩,⟨_,Z,ah _⟩,trivial⟩)))
def iF (n:Nat)(g_0:gp)(statics_1:List Bytes):Option (List Bytes) :=
 (jE n g_0 statics_1).bind λ r1 =>
 some r1
theorem sT (n:Nat)(g_0:gp)(statics_1:List Bytes)(r:(List Bytes))(h0:iF n g_0 statics_1=some r):aA Tryz.prog 18 [.agg (gp.cs g_0),eL eS statics_1] (·=.p (eL eS r)):=by
 unfold iF at h0
 refine ba good Tryz.func18 Z Z Z λ w0=>mP (λ v:(List Bytes)=>.p (eL eS v)) ?_
 exact nx 9 Z (bd h0 λ r1 e2 h0=>oK (uN _ g_0 statics_1 _ e2) Z ⟨sr,sr,trivial⟩ Tryz.call37 Z (nx 3 Z (mQ (oi h0) Z (sr))))
def iJ (addr_0:Bytes)(a_1:Int)(deps_2:List Bytes)(old_3:List Bytes):Option ab :=
 some (ab.mk addr_0 ([]:Bytes) ([]:Bytes) a_1 0 (ay.mk 0 0 ([]:Bytes) [] []) (ay.mk 0 0 ([]:Bytes) [] []) ([]:Bytes) [] false false false deps_2 old_3)
theorem jt (addr_0:Bytes)(a_1:Int)(deps_2:List Bytes)(old_3:List Bytes)(r:ab)(h0:iJ addr_0 a_1 deps_2 old_3=some r):aA Tryz.prog 30 [eS addr_0,eI a_1,eL eS deps_2,eL eS old_3] (·=.p (.agg (ab.cs r))):=by
 unfold iJ at h0
 refine ba good Tryz.func30 Z Z Z λ w0=>mP (λ v:ab=>.p (.agg (ab.cs v))) ?_
 exact nx 14 Z (mQ (oi h0) Z (iI ⟨.inl Z,.inl Z,.inl Z,.inl Z,.inl Z,.inl Z,.inl Z,.inl Z,.inr ⟨Z,Z⟩,.inr ⟨Z,Z⟩,.inl Z,.inl Z,.inl Z,.inr ⟨Z,Z⟩,.inr ⟨Z,Z⟩,.inl Z,.inr ⟨Z,Z⟩,.inl Z,.inl Z,.inl Z,.inl Z,.inl Z,trivial⟩))
def gn (n:Nat):Option Bool :=
 (iJ ([97,46,120]:Bytes) 4 [] []).bind λ r1 =>
 (iJ ([98,46,121]:Bytes) 4 [] ([([97,46,120]:Bytes)])).bind λ r3 =>
 (iJ ([110,101,116,46,110]:Bytes) 1 [] []).bind λ r5 =>
 (iJ ([115,101,114,118,101,114,46,115,91,48,93]:Bytes) 1 ([([110,101,116,46,110]:Bytes)]) []).bind λ r7 =>
 (dx n ([([97,46,120]:Bytes)]) [r1,r3,r5,r7]).bind λ r9 =>
 (dx n ([([98,46,121]:Bytes)]) [r1,r3,r5,r7]).bind λ r11 =>
 (dx n ([([115,101,114,118,101,114,46,115]:Bytes)]) [r1,r3,r5,r7]).bind λ r13 =>
 (iF n (gp.mk ([([97]:Bytes),([98]:Bytes)]) ([(lR.mk ([97]:Bytes) ([98]:Bytes))])) ([([97]:Bytes)])).bind λ r15 =>
 (
   if (r9.length:Int)=2 then
    if (r11.length:Int)=1 then
     ck ((0:Int)≤0∧0 < (r11.length:Int)) <|
     if (lat r11 0).fAddr=([98,46,121]:Bytes) then
      if (r13.length:Int)=2 then
       ck ((0:Int)≤0∧0 < (r13.length:Int)) <|
       if (lat r13 0).fAddr=([110,101,116,46,110]:Bytes) then
        (dx n [] [r1,r3,r5,r7]).bind λ r24 =>
        if (r24.length:Int)=4 then
         if (r15.length:Int)=2 then
          (dy n ([([97,46,98]:Bytes)]) ([97,46,98,91,48,93]:Bytes)).bind λ r28 =>
          if r28=true then
           (dy n ([([97,46,98]:Bytes)]) ([97,46,99]:Bytes)).bind λ r31 =>
           if (!r31)=true then
            (fw n ([([97,46,98]:Bytes)])).bind λ r34 =>
            if r34=0 then
             (fw n ([([]:Bytes)])).bind λ r37 =>
             some (!decide (r37=0))
            else
             some false
           else
            some false
          else
           some false
         else
          some false
        else
         some false
       else
        some false
      else
       some false
     else
      some false
    else
     some false
   else
    some false
  : Option Bool).bind λ t39 =>
 some t39
theorem oz (n:Nat)(r:Bool)(h0:gn n=some r):aA Tryz.prog 13 [] (·=.p (eB r)):=by
 unfold gn at h0
 refine ba good Tryz.func13 Z Z Z λ w0=>mP (λ v:Bool=>.p (eB v)) ?_
 refine nx 6 Z (bd h0 λ r1 e2 h0=>oK (jt ([97,46,120]:Bytes) 4 [] [] _ e2) Z ⟨sr,sr,jm _,jm _,trivial⟩ Tryz.call30 Z (mO Z (bs eS [([97,46,120]:Bytes)] Z Z Z Z Z Z Z Z Z Z Z Z Z Z (bd h0 λ r3 e4 h0=>oK (jt ([98,46,121]:Bytes) 4 [] ([([97,46,120]:Bytes)]) _ e4) Z ⟨sr,sr,jm _,sr,trivial⟩ Tryz.call30 Z (bd h0 λ r5 e6 h0=>oK (jt ([110,101,116,46,110]:Bytes) 1 [] [] _ e6) Z ⟨sr,sr,jm _,jm _,trivial⟩ Tryz.call30 Z (mO Z (bs eS [([110,101,116,46,110]:Bytes)] Z Z Z Z Z Z Z Z Z Z Z Z Z Z (bd h0 λ r7 e8 h0=>oK (jt ([115,101,114,118,101,114,46,115,91,48,93]:Bytes) 1 ([([110,101,116,46,110]:Bytes)]) [] _ e8) Z ⟨sr,sr,sr,jm _,trivial⟩ Tryz.call30 Z (mO Z (bs ae [r1,r3,r5,r7] Z Z Z Z Z Z Z Z Z Z Z Z Z (by first | rfl | (simp only [List.map_cons,List.map_nil,ab.agg_eq]; done) | (simp only [List.map_cons,List.map_nil,ab.agg_eq]; rfl)) (nx 4 Z (mO Z (bs eS [([97,46,120]:Bytes)] Z Z Z Z Z Z Z Z Z Z Z Z Z Z (nx 1 Z (bd h0 λ r9 e10 h0=>?_)))))))))))))))
 refine oK (gQ _ ([([97,46,120]:Bytes)]) [r1,r3,r5,r7] _ e10) Z ⟨sr,sr,trivial⟩ Tryz.call23 Z (nx 4 Z (mO Z (bs eS [([98,46,121]:Bytes)] Z Z Z Z Z Z Z Z Z Z Z Z Z Z (nx 1 Z (bd h0 λ r11 e12 h0=>oK (gQ _ ([([98,46,121]:Bytes)]) [r1,r3,r5,r7] _ e12) Z ⟨sr,sr,trivial⟩ Tryz.call23 Z (nx 4 Z (mO Z (bs eS [([115,101,114,118,101,114,46,115]:Bytes)] Z Z Z Z Z Z Z Z Z Z Z Z Z Z (nx 1 Z (bd h0 λ r13 e14 h0=>oK (gQ _ ([([115,101,114,118,101,114,46,115]:Bytes)]) [r1,r3,r5,r7] _ e14) Z ⟨sr,sr,trivial⟩ Tryz.call23 Z (nx 4 Z ?_)))))))))))
 refine mO Z (bs eS [([97]:Bytes),([98]:Bytes)] Z Z Z Z Z Z Z Z Z Z Z Z Z Z (nx 1 Z (mO Z (bs mI [(lR.mk ([97]:Bytes) ([98]:Bytes))] Z Z Z Z Z Z Z Z Z Z Z Z Z (by first | rfl | (simp only [List.map_cons,List.map_nil,lR.agg_eq]; done) | (simp only [List.map_cons,List.map_nil,lR.agg_eq]; rfl)) (nx 7 Z (mO Z (bs eS [([97]:Bytes)] Z Z Z Z Z Z Z Z Z Z Z Z Z Z (bd h0 λ r15 e16 h0=>oK (sT _ (gp.mk ([([97]:Bytes),([98]:Bytes)]) ([(lR.mk ([97]:Bytes) ([98]:Bytes))])) ([([97]:Bytes)]) _ e16) Z ⟨sr,sr,trivial⟩ Tryz.call18 Z (nx 2 Z (mG (gE (t:=⟨[(1,.p (eL ae [r1,r3,r5,r7])),(2,.p (eL ae r9)),(3,.p (eL ae r11)),(4,.p (eL ae r13)),(6,.p (eL eS r15))],[]⟩) Z Z) (nx 1 Z (bd h0 λ o41 h1 h0=>kN o41 (λ v42=>⟨[(0,.p (eB v42))],[]⟩) ?_ ?_))))))))))))
 ·exact nx 2 Z (mQ (oi h0) Z (sr))
 refine nx 2 Z (oLl (f:=ae) Z Z (nx 2 Z (fD [32,33] h1 Z (λ c17 h1=>?_) λ c17 h1=>?_)))
 ·refine nx 1 Z (oLl (f:=ae) Z Z (nx 3 Z (fD [36,37,38] h1 Z (λ c18 h1=>?_) λ c18 h1=>?_)))
  ·refine nx 1 Z (oE h1 ab.cells_eq Z Z Y λ hk19 h1=>nx 2 Z (oS Z Z (nx 2 Z (fD [43,44,45] h1 Z (λ c20 h1=>?_) λ c20 h1=>?_))))
   ·refine nx 1 Z (oLl (f:=ae) Z Z (nx 3 Z (fD [48,49,50] h1 Z (λ c21 h1=>?_) λ c21 h1=>?_)))
    ·refine nx 1 Z (oE h1 ab.cells_eq Z Z Y λ hk22 h1=>nx 2 Z (oS Z Z (nx 2 Z (fD [55,56,57] h1 Z (λ c23 h1=>?_) λ c23 h1=>?_))))
     ·refine nx 1 Z (bd h1 λ r24 e25 h1=>oK (gQ _ [] [r1,r3,r5,r7] _ e25) Z ⟨jm _,sr,trivial⟩ Tryz.call23 Z (oLl (f:=ae) Z Z (nx 3 Z (fD [61,62,63] h1 Z (λ c26 h1=>?_) λ c26 h1=>?_))))
      ·refine nx 1 Z (oLl (f:=eS) Z Z (nx 3 Z (fD [66,67,68] h1 Z (λ c27 h1=>?_) λ c27 h1=>?_)))
       ·refine mO Z (bs eS [([97,46,98]:Bytes)] Z Z Z Z Z Z Z Z Z Z Z Z Z Z (bd h1 λ r28 e29 h1=>oK (jC _ ([([97,46,98]:Bytes)]) ([97,46,98,91,48,93]:Bytes) _ e29) Z ⟨sr,sr,trivial⟩ Tryz.call15 Z (nx 2 Z ?_)))
        refine fB [70,71,72] h1 Z (λ c30 h1=>?_) λ c30 h1=>?_
        ·refine mO Z (bs eS [([97,46,98]:Bytes)] Z Z Z Z Z Z Z Z Z Z Z Z Z Z (bd h1 λ r31 e32 h1=>oK (jC _ ([([97,46,98]:Bytes)]) ([97,46,99]:Bytes) _ e32) Z ⟨sr,sr,trivial⟩ Tryz.call15 Z (nx 3 Z ?_)))
         refine fB [75,76,77] h1 Z (λ c33 h1=>?_) λ c33 h1=>?_
         ·refine mO Z (bs eS [([97,46,98]:Bytes)] Z Z Z Z Z Z Z Z Z Z Z Z Z Z (bd h1 λ r34 e35 h1=>oK (nW _ ([([97,46,98]:Bytes)]) _ e35) Z ⟨sr,trivial⟩ Tryz.call11 Z (nx 3 Z ?_)))
          refine fD [80,81,82] h1 Z (λ c36 h1=>?_) λ c36 h1=>?_
          ·exact mO Z (bs eS [([]:Bytes)] Z Z Z Z Z Z Z Z Z Z Z Z Z Z (bd h1 λ r37 e38 h1=>oK (nW _ ([([]:Bytes)]) _ e38) Z ⟨sr,trivial⟩ Tryz.call11 Z (nx 4 Z (eX _ (oi h1).symm (gE Z Z)))))
          exact nx 6 Z (eX _ (oi h1).symm (gE Z Z))
         exact nx 11 Z (eX _ (oi h1).symm (gE Z Z))
        exact nx 16 Z (eX _ (oi h1).symm (gE Z Z))
       exact nx 20 Z (eX _ (oi h1).symm (gE Z Z))
      exact nx 25 Z (eX _ (oi h1).symm (gE Z Z))
     exact nx 31 Z (eX _ (oi h1).symm (gE Z Z))
    exact nx 38 Z (eX _ (oi h1).symm (gE Z Z))
   exact nx 43 Z (eX _ (oi h1).symm (gE Z Z))
  exact nx 50 Z (eX _ (oi h1).symm (gE Z Z))
 exact nx 55 Z (eX _ (oi h1).symm (gE Z Z))
def fe (l_0:List Bytes):Nat→Int→Option (Unit⊕Bool)
 | 0,_=>none
 | m+1,i7 =>
 if i7 < (l_0.length:Int) then
  ck ((0:Int)≤i7∧i7 < (l_0.length:Int)) <|
  if 300 < ((lat l_0 i7).length:Int) then
   some (.inr false)
  else
   ck (inR (i7+1)) <|
   fe l_0 m (i7+1)
 else
  some (.inl ())
def iw (n:Nat)(l_0:List Bytes)(most_1:Int):Option Bool :=
 if most_1 < (l_0.length:Int) then
  some false
 else
  jn (fe l_0 n 0) λ q13 =>
  some true
theorem lK (n:Nat)(l_0:List Bytes)(most_1:Int)(r:Bool)(h0:iw n l_0 most_1=some r):aA Tryz.prog 10 [eL eS l_0,eI most_1] (·=.p (eB r)):=by
 unfold iw at h0
 refine ba good Tryz.func10 Z Z Z λ w0=>mP (λ v:Bool=>.p (eB v)) ?_
 refine nx 8 Z (oLl (f:=eS) Z Z (nx 3 Z (fD [9] h0 Z (λ c1 h0=>?_) λ c1 h0=>?_)))
 ·exact nx 6 Z (mQ (oi h0) Z (sr))
 refine nx 8 Z ?_
 obtain ⟨o14,h1,hL0,hR0⟩:=fx h0
 refine kEx 0 (λ v15:Unit=>o14=.inl v15) (λ v15=>⟨[],[]⟩) (λ v15 hv=>?_) ?_
 ·have h0:=hL0 _ hv
  exact nx 6 Z (mQ (oi h0) Z (sr))
 refine lG (λ (q16:Int)=>⟨[(0,.p (eL eS l_0)),(5,.p (eI q16))],[]⟩) (λ m (q16:Int)=>fe l_0 m q16) Y 0 h1 (gE Z Z) ?_
 rintro m i7 h1
 replace h1:fe l_0 (m+1) i7=some o14:=h1
 rw [fe] at h1
 refine nx 5 Z (oLl (f:=eS) Z Z (nx 2 Z (fD [13] h1 Z (λ c8 h1=>?_) λ c8 h1=>?_)))
 ·refine nx 8 Z (oE h1 Y Z Z Y λ hk9 h1=>nx 1 Z (oLs Z (nx 2 Z (fD [21] h1 Z (λ c10 h1=>?_) λ c10 h1=>?_))))
  ·exact nx 6 Z (mQ (hR0 _ (oi h1).symm) Z (sr))
  exact nx 4 Z (oA h1 Z Z λ hk11 h1=>nx 2 Z (eX (i7+1) h1 (gE Z Z)))
 exact nx 2 Z (eXi _ (oi h1).symm (gE Z Z))
def eW (targets_0:List Bytes):Nat→Int→Option (Unit⊕Int)
 | 0,_=>none
 | m+1,i8 =>
 if i8 < (targets_0.length:Int) then
  ck ((0:Int)≤i8∧i8 < (targets_0.length:Int)) <|
  ck ((lat targets_0 i8).length≤65536) <|
  if Glob.rcheck (lat targets_0 i8)=0 then
   ck (inR (i8+1)) <|
   eW targets_0 m (i8+1)
  else
   some (.inr (Glob.rcheck (lat targets_0 i8)))
 else
  some (.inl ())
def kW (n:Nat)(targets_0:List Bytes):Option Int :=
 if 64 < (targets_0.length:Int) then
  some 14
 else
  jn (eW targets_0 n 0) λ q15 =>
  some 0
theorem ub (n:Nat)(targets_0:List Bytes)(r:Int)(h0:kW n targets_0=some r):aA Tryz.prog 12 [eL eS targets_0] (·=.p (eI r)):=by
 unfold kW at h0
 refine ba good Tryz.func12 Z Z Z λ w0=>mP (λ v:Int=>.p (eI v)) ?_
 refine nx 8 Z (oLl (f:=eS) Z Z (nx 2 Z (fD [7] h0 Z (λ c1 h0=>?_) λ c1 h0=>?_)))
 ·exact nx 6 Z (mQ (oi h0) Z (sr))
 refine nx 8 Z ?_
 obtain ⟨o16,h1,hL0,hR0⟩:=fx h0
 refine kEx 0 (λ v17:Unit=>o16=.inl v17) (λ v17=>⟨[],[]⟩) (λ v17 hv=>?_) ?_
 ·have h0:=hL0 _ hv
  exact nx 6 Z (mQ (oi h0) Z (sr))
 refine lG (λ (q18:Int)=>⟨[(0,.p (eL eS targets_0)),(3,.p (eI q18))],[]⟩) (λ m (q18:Int)=>eW targets_0 m q18) Y 0 h1 (gE Z Z) ?_
 rintro m i8 h1
 replace h1:eW targets_0 (m+1) i8=some o16:=h1
 rw [eW] at h1
 refine nx 5 Z (oLl (f:=eS) Z Z (nx 2 Z (fD [11] h1 Z (λ c9 h1=>?_) λ c9 h1=>?_)))
 ·refine nx 8 Z (oE h1 Y Z Z Y λ hk10 h1=>nx 1 Z (cc' h1 λ hk11 h1=>oK (Glob.rcheck_ok (lat targets_0 i8) hk11) Z ⟨sr,trivial⟩ Tryz.call29 Z (nx 7 Z ?_)))
  refine fN [20] h1 Z (λ c12 h1=>?_) λ c12 h1=>?_
  ·exact nx 4 Z (oA h1 Z Z λ hk13 h1=>nx 2 Z (eX (i8+1) h1 (gE Z Z)))
  exact nx 7 Z (mQ (hR0 _ (oi h1).symm) Z (sr))
 exact nx 2 Z (eXi _ (oi h1).symm (gE Z Z))
def ga (n:Nat)(l_1:List ab):Nat→Int→Option (Unit⊕Bool)
 | 0,_=>none
 | m+1,i23 =>
 if i23 < (l_1.length:Int) then
  (
    ck ((0:Int)≤i23∧i23 < (l_1.length:Int)) <|
    if 300 < (((lat l_1 i23).fAddr).length:Int) then
     some true
    else
     ck ((0:Int)≤i23∧i23 < (l_1.length:Int)) <|
     (iw n ((lat l_1 i23).fDeps) 10).bind λ r28 =>
     if (!r28)=true then
      some true
     else
      ck ((0:Int)≤i23∧i23 < (l_1.length:Int)) <|
      (iw n ((lat l_1 i23).fOldDeps) 10).bind λ r32 =>
      some (!r32)
   : Option Bool).bind λ t34 =>
  if t34=true then
   some (.inr false)
  else
   ck (inR (i23+1)) <|
   ga n l_1 m (i23+1)
 else
  some (.inl ())
def mV (n:Nat)(targets_0:List Bytes)(l_1:List ab):Option Bool :=
 (
   (iw n targets_0 16).bind λ r1 =>
   if (!r1)=true then
    some true
   else
    (kW n targets_0).bind λ r4 =>
    if r4=0 then
     some (decide (20 < (l_1.length:Int)))
    else
     some true
  : Option Bool).bind λ t7 =>
 if t7=true then
  some false
 else
  jn (ga n l_1 n 0) λ q39 =>
  some true
theorem wP (n:Nat)(targets_0:List Bytes)(l_1:List ab)(r:Bool)(h0:mV n targets_0 l_1=some r):aA Tryz.prog 14 [eL eS targets_0,eL ae l_1] (·=.p (eB r)):=by
 unfold mV at h0
 refine ba good Tryz.func14 Z Z Z λ w0=>mP (λ v:Bool=>.p (eB v)) ?_
 refine nx 6 Z (bd h0 λ o41 h1 h0=>?_)
 refine kN o41 (λ v42=>⟨[(1,.p (eL ae l_1)),(18,.p (eB v42))],[]⟩) ?_ ?_
 ·refine nx 1 Z (fB [18] h0 Z (λ c8 h0=>?_) λ c8 h0=>?_)
  ·exact nx 6 Z (mQ (oi h0) Z (sr))
  refine nx 8 Z ?_
  obtain ⟨o43,h1,hL0,hR0⟩:=fx h0
  refine kEx 0 (λ v44:Unit=>o43=.inl v44) (λ v44=>⟨[],[]⟩) (λ v44 hv=>?_) ?_
  ·have h0:=hL0 _ hv
   exact nx 6 Z (mQ (oi h0) Z (sr))
  refine lG (λ (q45:Int)=>⟨[(1,.p (eL ae l_1)),(5,.p (eI q45))],[]⟩) (λ m (q45:Int)=>ga n l_1 m q45) Y 0 h1 (gE Z Z) ?_
  rintro m i23 h1
  replace h1:ga n l_1 (m+1) i23=some o43:=h1
  rw [ga] at h1
  refine nx 5 Z (oLl (f:=ae) Z Z (nx 2 Z (fD [22] h1 Z (λ c24 h1=>?_) λ c24 h1=>?_)))
  ·refine nx 5 Z (bd h1 λ o46 h2 h1=>?_)
   refine kN o46 (λ v47=>⟨[(1,.p (eL ae l_1)),(5,.p (eI i23)),(49,.p (eB v47))],[]⟩) ?_ ?_
   ·refine nx 1 Z (fB [49] h1 Z (λ c35 h1=>?_) λ c35 h1=>?_)
    ·exact nx 6 Z (mQ (hR0 _ (oi h1).symm) Z (sr))
    exact nx 4 Z (oA h1 Z Z λ hk36 h1=>nx 2 Z (eX (i23+1) h1 (gE Z Z)))
   refine nx 3 Z (oE h2 ab.cells_eq Z Z Y λ hk25 h2=>nx 2 Z (oLs Z (nx 2 Z (fD [31,32] h2 Z (λ c26 h2=>?_) λ c26 h2=>?_))))
   ·exact nx 18 Z (eX _ (oi h2).symm (gE Z Z))
   refine nx 2 Z (oE h2 ab.cells_eq Z Z Y λ hk27 h2=>nx 2 Z (bd h2 λ r28 e29 h2=>oK (lK _ ((lat l_1 i23).fDeps) 10 _ e29) Z ⟨sr,sr,trivial⟩ Tryz.call10 Z (nx 3 Z ?_)))
   refine fB [39,40,41] h2 Z (λ c30 h2=>?_) λ c30 h2=>?_
   ·exact nx 9 Z (eX _ (oi h2).symm (gE Z Z))
   exact nx 2 Z (oE h2 ab.cells_eq Z Z Y λ hk31 h2=>nx 2 Z (bd h2 λ r32 e33 h2=>oK (lK _ ((lat l_1 i23).fOldDeps) 10 _ e33) Z ⟨sr,sr,trivial⟩ Tryz.call10 Z (nx 3 Z (eX _ (oi h2).symm (gE Z Z)))))
  exact nx 2 Z (eXi _ (oi h1).symm (gE Z Z))
 refine nx 2 Z (bd h1 λ r1 e2 h1=>oK (lK _ targets_0 16 _ e2) Z ⟨sr,sr,trivial⟩ Tryz.call10 Z (nx 2 Z ?_))
 refine fB [8,9] h1 Z (λ c3 h1=>?_) λ c3 h1=>?_
 ·exact nx 10 Z (eX _ (oi h1).symm (gE Z Z))
 refine nx 1 Z (bd h1 λ r4 e5 h1=>oK (ub _ targets_0 _ e5) Z ⟨sr,trivial⟩ Tryz.call12 Z (nx 3 Z ?_))
 refine fN [12,13,14] h1 Z (λ c6 h1=>?_) λ c6 h1=>?_
 ·exact nx 1 Z (oLl (f:=ae) Z Z (nx 3 Z (eX _ (oi h1).symm (gE Z Z))))
 exact nx 5 Z (eX _ (oi h1).symm (gE Z Z))
def ec (a_0:List Bytes)(b_1:List Bytes):Nat→Int→Option (Unit⊕Bool)
 | 0,_=>none
 | m+1,i8 =>
 if i8 < (a_0.length:Int) then
  ck ((0:Int)≤i8∧i8 < (a_0.length:Int)) <|
  ck ((0:Int)≤i8∧i8 < (b_1.length:Int)) <|
  if lat a_0 i8=lat b_1 i8 then
   ck (inR (i8+1)) <|
   ec a_0 b_1 m (i8+1)
  else
   some (.inr false)
 else
  some (.inl ())
def hH (n:Nat)(a_0:List Bytes)(b_1:List Bytes):Option Bool :=
 if (a_0.length:Int)=(b_1.length:Int) then
  jn (ec a_0 b_1 n 0) λ q15 =>
  some true
 else
  some false
theorem kk (n:Nat)(a_0:List Bytes)(b_1:List Bytes)(r:Bool)(h0:hH n a_0 b_1=some r):aA Tryz.prog 20 [eL eS a_0,eL eS b_1] (·=.p (eB r)):=by
 unfold hH at h0
 refine ba good Tryz.func20 Z Z Z λ w0=>mP (λ v:Bool=>.p (eB v)) ?_
 refine nx 8 Z (oLl (f:=eS) Z Z (nx 1 Z (oLl (f:=eS) Z Z (nx 2 Z (fN [10] h0 Z (λ c1 h0=>?_) λ c1 h0=>?_)))))
 ·refine nx 8 Z ?_
  obtain ⟨o16,h1,hL0,hR0⟩:=fx h0
  refine kEx 0 (λ v17:Unit=>o16=.inl v17) (λ v17=>⟨[],[]⟩) (λ v17 hv=>?_) ?_
  ·have h0:=hL0 _ hv
   exact nx 6 Z (mQ (oi h0) Z (sr))
  refine lG (λ (q18:Int)=>⟨[(0,.p (eL eS a_0)),(1,.p (eL eS b_1)),(5,.p (eI q18))],[]⟩) (λ m (q18:Int)=>ec a_0 b_1 m q18) Y 0 h1 (gE Z Z) ?_
  rintro m i8 h1
  replace h1:ec a_0 b_1 (m+1) i8=some o16:=h1
  rw [ec] at h1
  refine nx 5 Z (oLl (f:=eS) Z Z (nx 2 Z (fD [14] h1 Z (λ c9 h1=>?_) λ c9 h1=>?_)))
  ·refine nx 5 Z (cc' h1 λ hk10 h1=>cc' h1 λ hk11 h1=>mD [(0,.p (eL eS a_0)),(1,.p (eL eS b_1)),(5,.p (eI i8))] Z ⟨Z,Z,Z,trivial⟩ Z (dR 2 Z (dq (.rptr [eS (lat a_0 i8)]) [17,18] Z (λ _ e _ q=>av Z (ek (f:=eS) (l:=a_0) (λ x=>[eS x]) Z Z Z Z Z Z (e _ _ Z) Z (e _ _ Z) hk10 Y Y q)) Z (dR 3 Z (dq (.rptr [eS (lat b_1 i8)]) [21,22] Z (λ _ e _ q=>av Z (ek (f:=eS) (l:=b_1) (λ x=>[eS x]) Z Z Z Z Z Z (e _ _ Z) Z (e _ _ Z) hk11 Y Y q)) Z (dR 1 Z (dq (.p (eB (!decide (lat a_0 i8=lat b_1 i8)))) [20,24] Z (λ _ e _ q=>av Z (cQ Z Z Z (e _ _ Z) (e _ _ Z) Z q)) Z (dE Z (nx 1 Z (fN [25] h1 Z (λ c12 h1=>?_) λ c12 h1=>?_))))))))))
   ·exact nx 4 Z (oA h1 Z Z λ hk13 h1=>nx 2 Z (eX (i8+1) h1 (gE Z Z)))
   exact nx 6 Z (mQ (hR0 _ (oi h1).symm) Z (sr))
  exact nx 2 Z (eXi _ (oi h1).symm (gE Z Z))
 exact nx 6 Z (mQ (oi h0) Z (sr))
def eR (n:Nat)(a_0:List ab)(b_1:List ab):Nat→Int→Option (Unit⊕Bool)
 | 0,_=>none
 | m+1,i25 =>
 if i25 < (a_0.length:Int) then
  (
    ck ((0:Int)≤i25∧i25 < (a_0.length:Int)) <|
    ck ((0:Int)≤i25∧i25 < (b_1.length:Int)) <|
    if (lat a_0 i25).fAddr=(lat b_1 i25).fAddr then
     ck ((0:Int)≤i25∧i25 < (a_0.length:Int)) <|
     ck ((0:Int)≤i25∧i25 < (b_1.length:Int)) <|
     if (lat a_0 i25).fDeposed=(lat b_1 i25).fDeposed then
      ck ((0:Int)≤i25∧i25 < (a_0.length:Int)) <|
      ck ((0:Int)≤i25∧i25 < (b_1.length:Int)) <|
      if (lat a_0 i25).fAction=(lat b_1 i25).fAction then
       ck ((0:Int)≤i25∧i25 < (a_0.length:Int)) <|
       ck ((0:Int)≤i25∧i25 < (b_1.length:Int)) <|
       (hH n ((lat a_0 i25).fDeps) ((lat b_1 i25).fDeps)).bind λ r38 =>
       if (!r38)=true then
        some true
       else
        ck ((0:Int)≤i25∧i25 < (a_0.length:Int)) <|
        ck ((0:Int)≤i25∧i25 < (b_1.length:Int)) <|
        (hH n ((lat a_0 i25).fOldDeps) ((lat b_1 i25).fOldDeps)).bind λ r43 =>
        some (!r43)
      else
       some true
     else
      some true
    else
     some true
   : Option Bool).bind λ t45 =>
  if t45=true then
   some (.inr false)
  else
   ck (inR (i25+1)) <|
   eR n a_0 b_1 m (i25+1)
 else
  some (.inl ())
def kG (n:Nat)(a_0:List ab)(b_1:List ab):Option Bool :=
 if (a_0.length:Int)=(b_1.length:Int) then
  jn (eR n a_0 b_1 n 0) λ q49 =>
  some true
 else
  some false
theorem tY (n:Nat)(a_0:List ab)(b_1:List ab)(r:Bool)(h0:kG n a_0 b_1=some r):aA Tryz.prog 22 [eL ae a_0,eL ae b_1] (·=.p (eB r)):=by
 unfold kG at h0
 refine ba good Tryz.func22 Z Z Z λ w0=>mP (λ v:Bool=>.p (eB v)) ?_
 refine nx 8 Z (oLl (f:=ae) Z Z (nx 1 Z (oLl (f:=ae) Z Z (nx 2 Z (fN [10] h0 Z (λ c1 h0=>?_) λ c1 h0=>?_)))))
 ·refine nx 8 Z ?_
  obtain ⟨o51,h1,hL0,hR0⟩:=fx h0
  refine kEx 0 (λ v52:Unit=>o51=.inl v52) (λ v52=>⟨[],[]⟩) (λ v52 hv=>?_) ?_
  ·have h0:=hL0 _ hv
   exact nx 6 Z (mQ (oi h0) Z (sr))
  refine lG (λ (q53:Int)=>⟨[(0,.p (eL ae a_0)),(1,.p (eL ae b_1)),(5,.p (eI q53))],[]⟩) (λ m (q53:Int)=>eR n a_0 b_1 m q53) Y 0 h1 (gE Z Z) ?_
  rintro m i25 h1
  replace h1:eR n a_0 b_1 (m+1) i25=some o51:=h1
  rw [eR] at h1
  refine nx 5 Z (oLl (f:=ae) Z Z (nx 2 Z (fD [14] h1 Z (λ c26 h1=>?_) λ c26 h1=>?_)))
  ·refine nx 5 Z (bd h1 λ o54 h2 h1=>?_)
   refine kN o54 (λ v55=>⟨[(0,.p (eL ae a_0)),(1,.p (eL ae b_1)),(5,.p (eI i25)),(81,.p (eB v55))],[]⟩) ?_ ?_
   ·refine nx 1 Z (fB [81] h1 Z (λ c46 h1=>?_) λ c46 h1=>?_)
    ·exact nx 6 Z (mQ (hR0 _ (oi h1).symm) Z (sr))
    exact nx 4 Z (oA h1 Z Z λ hk47 h1=>nx 2 Z (eX (i25+1) h1 (gE Z Z)))
   refine cc' h2 λ hk27 h2=>cc' h2 λ hk28 h2=>fN (p:=(lat a_0 i25).fAddr=(lat b_1 i25).fAddr) [] h2 Z (λ c29 h2=>?_) λ c29 h2=>?_
   ·refine cc' h2 λ hk30 h2=>cc' h2 λ hk31 h2=>fN (p:=(lat a_0 i25).fDeposed=(lat b_1 i25).fDeposed) [] h2 Z (λ c32 h2=>?_) λ c32 h2=>?_
    ·refine cc' h2 λ hk33 h2=>cc' h2 λ hk34 h2=>fN (p:=(lat a_0 i25).fAction=(lat b_1 i25).fAction) [] h2 Z (λ c35 h2=>?_) λ c35 h2=>?_
     ·refine cc' h2 λ hk36 h2=>cc' h2 λ hk37 h2=>bd h2 λ r38 e39 h2=>fB (p:=!r38) [] h2 Z (λ c40 h2=>?_) λ c40 h2=>?_
      ·refine mD [(0,.p (eL ae a_0)),(1,.p (eL ae b_1)),(5,.p (eI i25))] Z ⟨Z,Z,Z,trivial⟩ Z (dR 2 Z (dq (.rptr (ab.cs (lat a_0 i25))) [17,18] Z (λ _ e _ q=>av Z (ek (f:=ae) (l:=a_0) ab.cs Z Z Z Z Z Z (e _ _ Z) Z (e _ _ Z) hk27 ab.cells_eq Y q)) Z (dR 4 Z (dq (.rptr (ab.cs (lat b_1 i25))) [22,23] Z (λ _ e _ q=>av Z (ek (f:=ae) (l:=b_1) ab.cs Z Z Z Z Z Z (e _ _ Z) Z (e _ _ Z) hk28 ab.cells_eq Y q)) Z (dR 2 Z (dq (.p (eB (!decide ((lat a_0 i25).fAddr=(lat b_1 i25).fAddr)))) [21,26] Z (λ _ e _ q=>av Z (cQ Z Z Z (e _ _ Z) (e _ _ Z) Z q)) Z (dL (aE c29) Z (dR 2 Z (dq (.rptr (ab.cs (lat a_0 i25))) [28,29,30] Z (λ _ e _ q=>aX (ek (f:=ae) (l:=a_0) ab.cs Z Z Z Z Z Z (e _ _ Z) Z (e _ _ Z) hk30 ab.cells_eq Y q) Z Z (e _ _ Z) (rfl)) Z (dR 4 Z (dq (.rptr (ab.cs (lat b_1 i25))) [28,34,35] Z (λ _ e _ q=>aX (ek (f:=ae) (l:=b_1) ab.cs Z Z Z Z Z Z (e _ _ Z) Z (e _ _ Z) hk31 ab.cells_eq Y q) Z Z (e _ _ Z) (rfl)) Z (dR 2 Z (dq (.p (eB (!decide ((lat a_0 i25).fDeposed=(lat b_1 i25).fDeposed)))) [28,33,38] Z (λ _ e _ q=>aX (cQ Z Z Z (e _ _ Z) (e _ _ Z) Z q) Z Z (e _ _ Z) (rfl)) Z ?_)))))))))))))
       refine dL (aE c32) Z (dR 3 Z (dq (.rptr (ab.cs (lat a_0 i25))) [41,42,43] Z (λ _ e _ q=>aX (ek (f:=ae) (l:=a_0) ab.cs Z Z Z Z Z Z (e _ _ Z) Z (e _ _ Z) hk33 ab.cells_eq Y q) Z Z (e _ _ Z) (rfl)) Z (dR 4 Z (dq (.rptr (ab.cs (lat b_1 i25))) [41,47,48] Z (λ _ e _ q=>aX (ek (f:=ae) (l:=b_1) ab.cs Z Z Z Z Z Z (e _ _ Z) Z (e _ _ Z) hk34 ab.cells_eq Y q) Z Z (e _ _ Z) (rfl)) Z (dR 2 Z (dL (aE c35) Z (dR 4 Z (dq (.rptr (ab.cs (lat a_0 i25))) [54,55,56] Z (λ _ e _ q=>aX (ek (f:=ae) (l:=a_0) ab.cs Z Z Z Z Z Z (e _ _ Z) Z (e _ _ Z) hk36 ab.cells_eq Y q) Z Z (e _ _ Z) (rfl)) Z (dR 4 Z (dq (.rptr (ab.cs (lat b_1 i25))) [54,60,61] Z (λ _ e _ q=>aX (ek (f:=ae) (l:=b_1) ab.cs Z Z Z Z Z Z (e _ _ Z) Z (e _ _ Z) hk37 ab.cells_eq Y q) Z Z (e _ _ Z) (rfl)) Z (dR 2 Z (dq (.p (eB r38)) [54,59,64] Z (λ _ e _ q=>aX (bw (kk _ ((lat a_0 i25).fDeps) ((lat b_1 i25).fDeps) _ e39) Z Z Z (aO (e _ _ Z) (aO (e _ _ Z) bA)) ⟨sr,sr,trivial⟩ Tryz.call20 Z q) Z Z (e _ _ Z) (rfl)) Z (dL (c40) Z ?_)))))))))))))
       exact dR 15 Z (dE Z (nx 1 Z (eX _ (oi h2).symm (gE Z Z))))
      refine cc' h2 λ hk41 h2=>cc' h2 λ hk42 h2=>bd h2 λ r43 e44 h2=>mD [(0,.p (eL ae a_0)),(1,.p (eL ae b_1)),(5,.p (eI i25))] Z ⟨Z,Z,Z,trivial⟩ Z (dR 2 Z (dq (.rptr (ab.cs (lat a_0 i25))) [17,18] Z (λ _ e _ q=>av Z (ek (f:=ae) (l:=a_0) ab.cs Z Z Z Z Z Z (e _ _ Z) Z (e _ _ Z) hk27 ab.cells_eq Y q)) Z (dR 4 Z (dq (.rptr (ab.cs (lat b_1 i25))) [22,23] Z (λ _ e _ q=>av Z (ek (f:=ae) (l:=b_1) ab.cs Z Z Z Z Z Z (e _ _ Z) Z (e _ _ Z) hk28 ab.cells_eq Y q)) Z (dR 2 Z (dq (.p (eB (!decide ((lat a_0 i25).fAddr=(lat b_1 i25).fAddr)))) [21,26] Z (λ _ e _ q=>av Z (cQ Z Z Z (e _ _ Z) (e _ _ Z) Z q)) Z (dL (aE c29) Z (dR 2 Z (dq (.rptr (ab.cs (lat a_0 i25))) [28,29,30] Z (λ _ e _ q=>aX (ek (f:=ae) (l:=a_0) ab.cs Z Z Z Z Z Z (e _ _ Z) Z (e _ _ Z) hk30 ab.cells_eq Y q) Z Z (e _ _ Z) (rfl)) Z (dR 4 Z (dq (.rptr (ab.cs (lat b_1 i25))) [28,34,35] Z (λ _ e _ q=>aX (ek (f:=ae) (l:=b_1) ab.cs Z Z Z Z Z Z (e _ _ Z) Z (e _ _ Z) hk31 ab.cells_eq Y q) Z Z (e _ _ Z) (rfl)) Z (dR 2 Z (dq (.p (eB (!decide ((lat a_0 i25).fDeposed=(lat b_1 i25).fDeposed)))) [28,33,38] Z (λ _ e _ q=>aX (cQ Z Z Z (e _ _ Z) (e _ _ Z) Z q) Z Z (e _ _ Z) (rfl)) Z ?_)))))))))))))
      refine dL (aE c32) Z (dR 3 Z (dq (.rptr (ab.cs (lat a_0 i25))) [41,42,43] Z (λ _ e _ q=>aX (ek (f:=ae) (l:=a_0) ab.cs Z Z Z Z Z Z (e _ _ Z) Z (e _ _ Z) hk33 ab.cells_eq Y q) Z Z (e _ _ Z) (rfl)) Z (dR 4 Z (dq (.rptr (ab.cs (lat b_1 i25))) [41,47,48] Z (λ _ e _ q=>aX (ek (f:=ae) (l:=b_1) ab.cs Z Z Z Z Z Z (e _ _ Z) Z (e _ _ Z) hk34 ab.cells_eq Y q) Z Z (e _ _ Z) (rfl)) Z (dR 2 Z (dL (aE c35) Z (dR 4 Z (dq (.rptr (ab.cs (lat a_0 i25))) [54,55,56] Z (λ _ e _ q=>aX (ek (f:=ae) (l:=a_0) ab.cs Z Z Z Z Z Z (e _ _ Z) Z (e _ _ Z) hk36 ab.cells_eq Y q) Z Z (e _ _ Z) (rfl)) Z (dR 4 Z (dq (.rptr (ab.cs (lat b_1 i25))) [54,60,61] Z (λ _ e _ q=>aX (ek (f:=ae) (l:=b_1) ab.cs Z Z Z Z Z Z (e _ _ Z) Z (e _ _ Z) hk37 ab.cells_eq Y q) Z Z (e _ _ Z) (rfl)) Z (dR 2 Z (dq (.p (eB r38)) [54,59,64] Z (λ _ e _ q=>aX (bw (kk _ ((lat a_0 i25).fDeps) ((lat b_1 i25).fDeps) _ e39) Z Z Z (aO (e _ _ Z) (aO (e _ _ Z) bA)) ⟨sr,sr,trivial⟩ Tryz.call20 Z q) Z Z (e _ _ Z) (rfl)) Z (dL (c40) Z ?_)))))))))))))
      exact dR 4 Z (dq (.rptr (ab.cs (lat a_0 i25))) [68,69,70] Z (λ _ e _ q=>aX (ek (f:=ae) (l:=a_0) ab.cs Z Z Z Z Z Z (e _ _ Z) Z (e _ _ Z) hk41 ab.cells_eq Y q) Z Z (e _ _ Z) (rfl)) Z (dR 4 Z (dq (.rptr (ab.cs (lat b_1 i25))) [68,74,75] Z (λ _ e _ q=>aX (ek (f:=ae) (l:=b_1) ab.cs Z Z Z Z Z Z (e _ _ Z) Z (e _ _ Z) hk42 ab.cells_eq Y q) Z Z (e _ _ Z) (rfl)) Z (dR 2 Z (dq (.p (eB r43)) [68,73,78] Z (λ _ e _ q=>aX (bw (kk _ ((lat a_0 i25).fOldDeps) ((lat b_1 i25).fOldDeps) _ e44) Z Z Z (aO (e _ _ Z) (aO (e _ _ Z) bA)) ⟨sr,sr,trivial⟩ Tryz.call20 Z q) Z Z (e _ _ Z) (rfl)) Z (dR 2 Z (dE Z (nx 1 Z (eX _ (oi h2).symm (gE Z Z))))))))))
     refine mD [(0,.p (eL ae a_0)),(1,.p (eL ae b_1)),(5,.p (eI i25))] Z ⟨Z,Z,Z,trivial⟩ Z (dR 2 Z (dq (.rptr (ab.cs (lat a_0 i25))) [17,18] Z (λ _ e _ q=>av Z (ek (f:=ae) (l:=a_0) ab.cs Z Z Z Z Z Z (e _ _ Z) Z (e _ _ Z) hk27 ab.cells_eq Y q)) Z (dR 4 Z (dq (.rptr (ab.cs (lat b_1 i25))) [22,23] Z (λ _ e _ q=>av Z (ek (f:=ae) (l:=b_1) ab.cs Z Z Z Z Z Z (e _ _ Z) Z (e _ _ Z) hk28 ab.cells_eq Y q)) Z (dR 2 Z (dq (.p (eB (!decide ((lat a_0 i25).fAddr=(lat b_1 i25).fAddr)))) [21,26] Z (λ _ e _ q=>av Z (cQ Z Z Z (e _ _ Z) (e _ _ Z) Z q)) Z (dL (aE c29) Z (dR 2 Z (dq (.rptr (ab.cs (lat a_0 i25))) [28,29,30] Z (λ _ e _ q=>aX (ek (f:=ae) (l:=a_0) ab.cs Z Z Z Z Z Z (e _ _ Z) Z (e _ _ Z) hk30 ab.cells_eq Y q) Z Z (e _ _ Z) (rfl)) Z (dR 4 Z (dq (.rptr (ab.cs (lat b_1 i25))) [28,34,35] Z (λ _ e _ q=>aX (ek (f:=ae) (l:=b_1) ab.cs Z Z Z Z Z Z (e _ _ Z) Z (e _ _ Z) hk31 ab.cells_eq Y q) Z Z (e _ _ Z) (rfl)) Z (dR 2 Z (dq (.p (eB (!decide ((lat a_0 i25).fDeposed=(lat b_1 i25).fDeposed)))) [28,33,38] Z (λ _ e _ q=>aX (cQ Z Z Z (e _ _ Z) (e _ _ Z) Z q) Z Z (e _ _ Z) (rfl)) Z ?_)))))))))))))
     refine dL (aE c32) Z (dR 3 Z (dq (.rptr (ab.cs (lat a_0 i25))) [41,42,43] Z (λ _ e _ q=>aX (ek (f:=ae) (l:=a_0) ab.cs Z Z Z Z Z Z (e _ _ Z) Z (e _ _ Z) hk33 ab.cells_eq Y q) Z Z (e _ _ Z) (rfl)) Z (dR 4 Z (dq (.rptr (ab.cs (lat b_1 i25))) [41,47,48] Z (λ _ e _ q=>aX (ek (f:=ae) (l:=b_1) ab.cs Z Z Z Z Z Z (e _ _ Z) Z (e _ _ Z) hk34 ab.cells_eq Y q) Z Z (e _ _ Z) (rfl)) Z (dR 2 Z (dL (aR c35) Z (dR 29 Z ?_)))))))
     refine dE Z (nx 1 Z ?_)
     exact eX _ (oi h2).symm (gE Z Z)
    refine mD [(0,.p (eL ae a_0)),(1,.p (eL ae b_1)),(5,.p (eI i25))] Z ⟨Z,Z,Z,trivial⟩ Z (dR 2 Z (dq (.rptr (ab.cs (lat a_0 i25))) [17,18] Z (λ _ e _ q=>av Z (ek (f:=ae) (l:=a_0) ab.cs Z Z Z Z Z Z (e _ _ Z) Z (e _ _ Z) hk27 ab.cells_eq Y q)) Z (dR 4 Z (dq (.rptr (ab.cs (lat b_1 i25))) [22,23] Z (λ _ e _ q=>av Z (ek (f:=ae) (l:=b_1) ab.cs Z Z Z Z Z Z (e _ _ Z) Z (e _ _ Z) hk28 ab.cells_eq Y q)) Z (dR 2 Z (dq (.p (eB (!decide ((lat a_0 i25).fAddr=(lat b_1 i25).fAddr)))) [21,26] Z (λ _ e _ q=>av Z (cQ Z Z Z (e _ _ Z) (e _ _ Z) Z q)) Z (dL (aE c29) Z (dR 2 Z (dq (.rptr (ab.cs (lat a_0 i25))) [28,29,30] Z (λ _ e _ q=>aX (ek (f:=ae) (l:=a_0) ab.cs Z Z Z Z Z Z (e _ _ Z) Z (e _ _ Z) hk30 ab.cells_eq Y q) Z Z (e _ _ Z) (rfl)) Z (dR 4 Z (dq (.rptr (ab.cs (lat b_1 i25))) [28,34,35] Z (λ _ e _ q=>aX (ek (f:=ae) (l:=b_1) ab.cs Z Z Z Z Z Z (e _ _ Z) Z (e _ _ Z) hk31 ab.cells_eq Y q) Z Z (e _ _ Z) (rfl)) Z (dR 2 Z (dq (.p (eB (!decide ((lat a_0 i25).fDeposed=(lat b_1 i25).fDeposed)))) [28,33,38] Z (λ _ e _ q=>aX (cQ Z Z Z (e _ _ Z) (e _ _ Z) Z q) Z Z (e _ _ Z) (rfl)) Z ?_)))))))))))))
    refine dL (aR c32) Z (dR 41 Z ?_)
    refine dE Z (nx 1 Z ?_)
    exact eX _ (oi h2).symm (gE Z Z)
   exact mD [(0,.p (eL ae a_0)),(1,.p (eL ae b_1)),(5,.p (eI i25))] Z ⟨Z,Z,Z,trivial⟩ Z (dR 2 Z (dq (.rptr (ab.cs (lat a_0 i25))) [17,18] Z (λ _ e _ q=>av Z (ek (f:=ae) (l:=a_0) ab.cs Z Z Z Z Z Z (e _ _ Z) Z (e _ _ Z) hk27 ab.cells_eq Y q)) Z (dR 4 Z (dq (.rptr (ab.cs (lat b_1 i25))) [22,23] Z (λ _ e _ q=>av Z (ek (f:=ae) (l:=b_1) ab.cs Z Z Z Z Z Z (e _ _ Z) Z (e _ _ Z) hk28 ab.cells_eq Y q)) Z (dR 2 Z (dq (.p (eB (!decide ((lat a_0 i25).fAddr=(lat b_1 i25).fAddr)))) [21,26] Z (λ _ e _ q=>av Z (cQ Z Z Z (e _ _ Z) (e _ _ Z) Z q)) Z (dL (aR c29) Z (dR 53 Z (dE Z (nx 1 Z (eX _ (oi h2).symm (gE Z Z))))))))))))
  exact nx 2 Z (eXi _ (oi h1).symm (gE Z Z))
 exact nx 6 Z (mQ (oi h0) Z (sr))
end Go.Ab.R06
end
section
namespace Go.Ab.R06
open Go.Ab
theorem qi {targets_0:List Bytes}:∀ (m m':Nat),m≤m'→∀ (y0:Int),Le (cV targets_0 m y0) (cV targets_0 m' y0):=by
 intro m
 induction m with
 | zero=>intro m' _ y0; exact dN _
 | succ m ih =>
 intro m' hm y0
 cases m' with
 | zero=>omega
 | succ m' =>
 simp only [cV]
 repeat' (with_reducible (first | exact aj _ | apply ih | refine cz ?_ | refine bH ?_ ?_ | refine bj ?_ (λ _=>?_) | refine cA ?_ (λ _=>?_) | omega | intro _))
theorem sS {n n':Nat}(hn:n≤n'){targets_0:List Bytes}:Le (fw n targets_0) (fw n' targets_0):=by
 simp only [fw]
 repeat' (with_reducible (first | exact aj _ | apply qi | refine cz ?_ | refine bH ?_ ?_ | refine bj ?_ (λ _=>?_) | refine cA ?_ (λ _=>?_) | omega | intro _))
theorem uQ {patterns_0:List Bytes}{s_1:Bytes}:∀ (m m':Nat),m≤m'→∀ (y0:Int),Le (eP patterns_0 s_1 m y0) (eP patterns_0 s_1 m' y0):=by
 intro m
 induction m with
 | zero=>intro m' _ y0; exact dN _
 | succ m ih =>
 intro m' hm y0
 cases m' with
 | zero=>omega
 | succ m' =>
 simp only [eP]
 repeat' (with_reducible (first | exact aj _ | apply ih | refine cz ?_ | refine bH ?_ ?_ | refine bj ?_ (λ _=>?_) | refine cA ?_ (λ _=>?_) | omega | intro _))
theorem xz {n n':Nat}(hn:n≤n'){patterns_0:List Bytes}{s_1:Bytes}:Le (jL n patterns_0 s_1) (jL n' patterns_0 s_1):=by
 simp only [jL]
 repeat' (with_reducible (first | exact aj _ | apply uQ | refine cz ?_ | refine bH ?_ ?_ | refine bj ?_ (λ _=>?_) | refine cA ?_ (λ _=>?_) | omega | intro _))
theorem mK {s_0:Bytes}:∀ (m m':Nat),m≤m'→∀ (y0:Int),Le (bR s_0 m y0) (bR s_0 m' y0):=by
 intro m
 induction m with
 | zero=>intro m' _ y0; exact dN _
 | succ m ih =>
 intro m' hm y0
 cases m' with
 | zero=>omega
 | succ m' =>
 simp only [bR]
 repeat' (with_reducible (first | exact aj _ | apply ih | refine cz ?_ | refine bH ?_ ?_ | refine bj ?_ (λ _=>?_) | refine cA ?_ (λ _=>?_) | omega | intro _))
theorem fT {n n':Nat}(hn:n≤n'){s_0:Bytes}:Le (cm n s_0) (cm n' s_0):=by
 simp only [cm]
 repeat' (with_reducible (first | exact aj _ | apply mK | refine cz ?_ | refine bH ?_ ?_ | refine bj ?_ (λ _=>?_) | refine cA ?_ (λ _=>?_) | omega | intro _))
theorem jP {n n':Nat}(hn:n≤n'){r_0:am}:Le (cq n r_0) (cq n' r_0):=by
 simp only [cq]
 repeat' (with_reducible (first | exact aj _ | apply fT | refine cz ?_ | refine bH ?_ ?_ | refine bj ?_ (λ _=>?_) | refine cA ?_ (λ _=>?_) | omega | intro _))
theorem mH {s_0:Bytes}:∀ (m m':Nat),m≤m'→∀ (y0:Int) (y1:Int),Le (bS s_0 m y0 y1) (bS s_0 m' y0 y1):=by
 intro m
 induction m with
 | zero=>intro m' _ y0 y1; exact dN _
 | succ m ih =>
 intro m' hm y0 y1
 cases m' with
 | zero=>omega
 | succ m' =>
 simp only [bS]
 repeat' (with_reducible (first | exact aj _ | apply ih | refine cz ?_ | refine bH ?_ ?_ | refine bj ?_ (λ _=>?_) | refine cA ?_ (λ _=>?_) | omega | intro _))
theorem oh {n n':Nat}(hn:n≤n'){s_0:Bytes}:Le (cO n s_0) (cO n' s_0):=by
 simp only [cO]
 repeat' (with_reducible (first | exact aj _ | apply mH | refine cz ?_ | refine bH ?_ ?_ | refine bj ?_ (λ _=>?_) | refine cA ?_ (λ _=>?_) | omega | intro _))
theorem rP {n n':Nat}(hn:n≤n'){s_0:Bytes}:Le (fC n s_0) (fC n' s_0):=by
 simp only [fC]
 repeat' (with_reducible (first | exact aj _ | apply oh | refine cz ?_ | refine bH ?_ ?_ | refine bj ?_ (λ _=>?_) | refine cA ?_ (λ _=>?_) | omega | intro _))
theorem oX {n n':Nat}(hn:n≤n'){s_0:Bytes}:∀ (m m':Nat),m≤m'→∀ (y0:Int) (y1:List UInt8),Le (cJ n s_0 m y0 y1) (cJ n' s_0 m' y0 y1):=by
 intro m
 induction m with
 | zero=>intro m' _ y0 y1; exact dN _
 | succ m ih =>
 intro m' hm y0 y1
 cases m' with
 | zero=>omega
 | succ m' =>
 simp only [cJ]
 repeat' (with_reducible (first | exact aj _ | apply ih | apply rP | refine cz ?_ | refine bH ?_ ?_ | refine bj ?_ (λ _=>?_) | refine cA ?_ (λ _=>?_) | omega | intro _))
theorem rc {n n':Nat}(hn:n≤n'){s_0:Bytes}:Le (eQ n s_0) (eQ n' s_0):=by
 simp only [eQ]
 repeat' (with_reducible (first | exact aj _ | apply oX | refine cz ?_ | refine bH ?_ ?_ | refine bj ?_ (λ _=>?_) | refine cA ?_ (λ _=>?_) | omega | intro _))
theorem p6 {s_0:Bytes}:∀ (m m':Nat),m≤m'→∀ (y0:Int) (y1:List UInt8),Le (cT s_0 m y0 y1) (cT s_0 m' y0 y1):=by
 intro m
 induction m with
 | zero=>intro m' _ y0 y1; exact dN _
 | succ m ih =>
 intro m' hm y0 y1
 cases m' with
 | zero=>omega
 | succ m' =>
 simp only [cT]
 repeat' (with_reducible (first | exact aj _ | apply ih | refine cz ?_ | refine bH ?_ ?_ | refine bj ?_ (λ _=>?_) | refine cA ?_ (λ _=>?_) | omega | intro _))
theorem nU {n n':Nat}(hn:n≤n'){s_0:Bytes}:Le (fu n s_0) (fu n' s_0):=by
 simp only [fu]
 repeat' (with_reducible (first | exact aj _ | apply p6 | refine cz ?_ | refine bH ?_ ?_ | refine bj ?_ (λ _=>?_) | refine cA ?_ (λ _=>?_) | omega | intro _))
theorem nv {s7:Bytes}:∀ (m m':Nat),m≤m'→∀ (y0:Int),Le (bX s7 m y0) (bX s7 m' y0):=by
 intro m
 induction m with
 | zero=>intro m' _ y0; exact dN _
 | succ m ih =>
 intro m' hm y0
 cases m' with
 | zero=>omega
 | succ m' =>
 simp only [bX]
 repeat' (with_reducible (first | exact aj _ | apply ih | refine cz ?_ | refine bH ?_ ?_ | refine bj ?_ (λ _=>?_) | refine cA ?_ (λ _=>?_) | omega | intro _))
theorem pD {n n':Nat}(hn:n≤n'){s_0:Bytes}:Le (d8 n s_0) (d8 n' s_0):=by
 simp only [d8]
 repeat' (with_reducible (first | exact aj _ | apply nv | refine cz ?_ | refine bH ?_ ?_ | refine bj ?_ (λ _=>?_) | refine cA ?_ (λ _=>?_) | omega | intro _))
theorem sU {n n':Nat}(hn:n≤n'){s_0:Bytes}:Le (gg n s_0) (gg n' s_0):=by
 simp only [gg]
 repeat' (with_reducible (first | exact aj _ | apply pD | refine cz ?_ | refine bH ?_ ?_ | refine bj ?_ (λ _=>?_) | refine cA ?_ (λ _=>?_) | omega | intro _))
theorem j5 {n n':Nat}(hn:n≤n'){r_0:am}:Le (cP n r_0) (cP n' r_0):=by
 simp only [cP]
 repeat' (with_reducible (first | exact aj _ | apply rc | apply nU | apply sU | refine cz ?_ | refine bH ?_ ?_ | refine bj ?_ (λ _=>?_) | refine cA ?_ (λ _=>?_) | omega | intro _))
theorem nw {n n':Nat}(hn:n≤n'){r_0:am}:Le (da n r_0) (da n' r_0):=by
 simp only [da]
 repeat' (with_reducible (first | exact aj _ | apply jP | apply j5 | refine cz ?_ | refine bH ?_ ?_ | refine bj ?_ (λ _=>?_) | refine cA ?_ (λ _=>?_) | omega | intro _))
theorem od {n n':Nat}(hn:n≤n'){s_0:Bytes}:Le (ef n s_0) (ef n' s_0):=by
 simp only [ef]
 repeat' (with_reducible (first | exact aj _ | apply fT | refine cz ?_ | refine bH ?_ ?_ | refine bj ?_ (λ _=>?_) | refine cA ?_ (λ _=>?_) | omega | intro _))
theorem pC {n n':Nat}(hn:n≤n'):∀ (m m':Nat),m≤m'→∀ (y0:List ac) (y1:Bytes) (y2:Bool),Le (cX n m y0 y1 y2) (cX n' m' y0 y1 y2):=by
 intro m
 induction m with
 | zero=>intro m' _ y0 y1 y2; exact dN _
 | succ m ih =>
 intro m' hm y0 y1 y2
 cases m' with
 | zero=>omega
 | succ m' =>
 simp only [cX]
 repeat' (with_reducible (first | exact aj _ | apply ih | apply nw | refine cz ?_ | refine bH ?_ ?_ | refine bj ?_ (λ _=>?_) | refine cA ?_ (λ _=>?_) | omega | intro _))
theorem rE {n n':Nat}(hn:n≤n'){s_0:Bytes}:Le (fF n s_0) (fF n' s_0):=by
 simp only [fF]
 repeat' (with_reducible (first | exact aj _ | apply pC | apply jP | apply j5 | apply od | refine cz ?_ | refine bH ?_ ?_ | refine bj ?_ (λ _=>?_) | refine cA ?_ (λ _=>?_) | omega | intro _))
theorem pM {n n':Nat}(hn:n≤n'){a_0:al}:∀ (m m':Nat),m≤m'→∀ (y0:Int),Le (cG n a_0 m y0) (cG n' a_0 m' y0):=by
 intro m
 induction m with
 | zero=>intro m' _ y0; exact dN _
 | succ m ih =>
 intro m' hm y0
 cases m' with
 | zero=>omega
 | succ m' =>
 simp only [cG]
 repeat' (with_reducible (first | exact aj _ | apply ih | apply fT | refine cz ?_ | refine bH ?_ ?_ | refine bj ?_ (λ _=>?_) | refine cA ?_ (λ _=>?_) | omega | intro _))
theorem rY {n n':Nat}(hn:n≤n'){a_0:al}:Le (fH n a_0) (fH n' a_0):=by
 simp only [fH]
 repeat' (with_reducible (first | exact aj _ | apply pM | apply od | apply fT | refine cz ?_ | refine bH ?_ ?_ | refine bj ?_ (λ _=>?_) | refine cA ?_ (λ _=>?_) | omega | intro _))
theorem kI {n n':Nat}(hn:n≤n'){k_0:bT}:Le (dj n k_0) (dj n' k_0):=by
 simp only [dj]
 repeat' (with_reducible (first | exact aj _ | apply nU | refine cz ?_ | refine bH ?_ ?_ | refine bj ?_ (λ _=>?_) | refine cA ?_ (λ _=>?_) | omega | intro _))
theorem oN {n n':Nat}(hn:n≤n'){a_0:al}:∀ (m m':Nat),m≤m'→∀ (y0:Int) (y1:List UInt8),Le (cv n a_0 m y0 y1) (cv n' a_0 m' y0 y1):=by
 intro m
 induction m with
 | zero=>intro m' _ y0 y1; exact dN _
 | succ m ih =>
 intro m' hm y0 y1
 cases m' with
 | zero=>omega
 | succ m' =>
 simp only [cv]
 repeat' (with_reducible (first | exact aj _ | apply ih | apply kI | refine cz ?_ | refine bH ?_ ?_ | refine bj ?_ (λ _=>?_) | refine cA ?_ (λ _=>?_) | omega | intro _))
theorem qL {n n':Nat}(hn:n≤n'){a_0:al}:Le (ff n a_0) (ff n' a_0):=by
 simp only [ff]
 repeat' (with_reducible (first | exact aj _ | apply rY | apply oN | apply kI | refine cz ?_ | refine bH ?_ ?_ | refine bj ?_ (λ _=>?_) | refine cA ?_ (λ _=>?_) | omega | intro _))
theorem ov:∀ (m m':Nat),m≤m'→Le (dJ m ) (dJ m' ):=by
 intro m
 induction m with
 | zero=>intro m' _ ; exact dN _
 | succ m ih =>
 intro m' hm
 cases m' with
 | zero=>omega
 | succ m' =>
 simp only [dJ]
 repeat' (with_reducible (first | exact aj _ | apply ih | refine cz ?_ | refine bH ?_ ?_ | refine bj ?_ (λ _=>?_) | refine cA ?_ (λ _=>?_) | omega | intro _))
theorem pf {a_0:al}:∀ (m m':Nat),m≤m'→∀ (y0:Int) (y1:List ac),Le (cw a_0 m y0 y1) (cw a_0 m' y0 y1):=by
 intro m
 induction m with
 | zero=>intro m' _ y0 y1; exact dN _
 | succ m ih =>
 intro m' hm y0 y1
 cases m' with
 | zero=>omega
 | succ m' =>
 simp only [cw]
 repeat' (with_reducible (first | exact aj _ | apply ih | refine cz ?_ | refine bH ?_ ?_ | refine bj ?_ (λ _=>?_) | refine cA ?_ (λ _=>?_) | omega | intro _))
theorem qp {n n':Nat}(hn:n≤n'){a_0:al}:Le (fj n a_0) (fj n' a_0):=by
 simp only [fj]
 repeat' (with_reducible (first | exact aj _ | apply ov | apply pf | refine cz ?_ | refine bH ?_ ?_ | refine bj ?_ (λ _=>?_) | refine cA ?_ (λ _=>?_) | omega | intro _))
theorem me {n n':Nat}(hn:n≤n'){s_0:Bytes}:Le (eh n s_0) (eh n' s_0):=by
 simp only [eh]
 repeat' (with_reducible (first | exact aj _ | apply rE | apply qp | apply qL | refine cz ?_ | refine bH ?_ ?_ | refine bj ?_ (λ _=>?_) | refine cA ?_ (λ _=>?_) | omega | intro _))
theorem l6 {n n':Nat}(hn:n≤n'){targets_0:List Bytes}{addr_1:Bytes}:Le (dy n targets_0 addr_1) (dy n' targets_0 addr_1):=by
 simp only [dy]
 repeat' (with_reducible (first | exact aj _ | apply xz | apply me | refine cz ?_ | refine bH ?_ ?_ | refine bj ?_ (λ _=>?_) | refine cA ?_ (λ _=>?_) | omega | intro _))
theorem rz {l_0:List Bytes}{in_1:List (Bytes×Bool)}:∀ (m m':Nat),m≤m'→∀ (y0:List Bytes) (y1:Int),Le (fJ l_0 in_1 m y0 y1) (fJ l_0 in_1 m' y0 y1):=by
 intro m
 induction m with
 | zero=>intro m' _ y0 y1; exact dN _
 | succ m ih =>
 intro m' hm y0 y1
 cases m' with
 | zero=>omega
 | succ m' =>
 simp only [fJ]
 repeat' (with_reducible (first | exact aj _ | apply ih | refine cz ?_ | refine bH ?_ ?_ | refine bj ?_ (λ _=>?_) | refine cA ?_ (λ _=>?_) | omega | intro _))
theorem vd {n n':Nat}(hn:n≤n'){l_0:List Bytes}{in_1:List (Bytes×Bool)}:Le (jw n l_0 in_1) (jw n' l_0 in_1):=by
 simp only [jw]
 repeat' (with_reducible (first | exact aj _ | apply rz | refine cz ?_ | refine bH ?_ ?_ | refine bj ?_ (λ _=>?_) | refine cA ?_ (λ _=>?_) | omega | intro _))
theorem s9 {l_0:List Bytes}:∀ (m m':Nat),m≤m'→∀ (y0:List (Bytes×Bool)) (y1:Int),Le (gi l_0 m y0 y1) (gi l_0 m' y0 y1):=by
 intro m
 induction m with
 | zero=>intro m' _ y0 y1; exact dN _
 | succ m ih =>
 intro m' hm y0 y1
 cases m' with
 | zero=>omega
 | succ m' =>
 simp only [gi]
 repeat' (with_reducible (first | exact aj _ | apply ih | refine cz ?_ | refine bH ?_ ?_ | refine bj ?_ (λ _=>?_) | refine cA ?_ (λ _=>?_) | omega | intro _))
theorem qU {n n':Nat}(hn:n≤n'){l_0:List Bytes}:Le (kh n l_0) (kh n' l_0):=by
 simp only [kh]
 repeat' (with_reducible (first | exact aj _ | apply s9 | refine cz ?_ | refine bH ?_ ?_ | refine bj ?_ (λ _=>?_) | refine cA ?_ (λ _=>?_) | omega | intro _))
theorem pG {to_0:List (Bytes×(List Bytes))}{todo39:List Bytes}:∀ (m m':Nat),m≤m'→∀ (y0:List (Bytes×Bool)) (y1:List Bytes) (y2:Int),Le (d6 to_0 todo39 m y0 y1 y2) (d6 to_0 todo39 m' y0 y1 y2):=by
 intro m
 induction m with
 | zero=>intro m' _ y0 y1 y2; exact dN _
 | succ m ih =>
 intro m' hm y0 y1 y2
 cases m' with
 | zero=>omega
 | succ m' =>
 simp only [d6]
 repeat' (with_reducible (first | exact aj _ | apply ih | refine cz ?_ | refine bH ?_ ?_ | refine bj ?_ (λ _=>?_) | refine cA ?_ (λ _=>?_) | omega | intro _))
theorem pI {n n':Nat}(hn:n≤n'){to_0:List (Bytes×(List Bytes))}:∀ (m m':Nat),m≤m'→∀ (y0:List (Bytes×Bool)) (y1:List Bytes),Le (d7 n to_0 m y0 y1) (d7 n' to_0 m' y0 y1):=by
 intro m
 induction m with
 | zero=>intro m' _ y0 y1; exact dN _
 | succ m ih =>
 intro m' hm y0 y1
 cases m' with
 | zero=>omega
 | succ m' =>
 simp only [d7]
 repeat' (with_reducible (first | exact aj _ | apply ih | apply pG | refine cz ?_ | refine bH ?_ ?_ | refine bj ?_ (λ _=>?_) | refine cA ?_ (λ _=>?_) | omega | intro _))
theorem rk {n n':Nat}(hn:n≤n'){to_0:List (Bytes×(List Bytes))}{from_1:List Bytes}:Le (hC n to_0 from_1) (hC n' to_0 from_1):=by
 simp only [hC]
 repeat' (with_reducible (first | exact aj _ | apply qU | apply pI | refine cz ?_ | refine bH ?_ ?_ | refine bj ?_ (λ _=>?_) | refine cA ?_ (λ _=>?_) | omega | intro _))
theorem rK {g_0:gp}:∀ (m m':Nat),m≤m'→∀ (y0:List (Bytes×List Bytes)) (y1:Int),Le (fG g_0 m y0 y1) (fG g_0 m' y0 y1):=by
 intro m
 induction m with
 | zero=>intro m' _ y0 y1; exact dN _
 | succ m ih =>
 intro m' hm y0 y1
 cases m' with
 | zero=>omega
 | succ m' =>
 simp only [fG]
 repeat' (with_reducible (first | exact aj _ | apply ih | refine cz ?_ | refine bH ?_ ?_ | refine bj ?_ (λ _=>?_) | refine cA ?_ (λ _=>?_) | omega | intro _))
theorem ve {n n':Nat}(hn:n≤n'){g_0:gp}:Le (ks n g_0) (ks n' g_0):=by
 simp only [ks]
 repeat' (with_reducible (first | exact aj _ | apply rK | refine cz ?_ | refine bH ?_ ?_ | refine bj ?_ (λ _=>?_) | refine cA ?_ (λ _=>?_) | omega | intro _))
theorem tD {n n':Nat}(hn:n≤n'){g_0:gp}{from_1:List Bytes}:Le (jE n g_0 from_1) (jE n' g_0 from_1):=by
 simp only [jE]
 repeat' (with_reducible (first | exact aj _ | apply ve | apply qU | apply vd | apply rk | refine cz ?_ | refine bH ?_ ?_ | refine bj ?_ (λ _=>?_) | refine cA ?_ (λ _=>?_) | omega | intro _))
theorem sW {n n':Nat}(hn:n≤n'){g_0:gp}{statics_1:List Bytes}:Le (iF n g_0 statics_1) (iF n' g_0 statics_1):=by
 simp only [iF]
 repeat' (with_reducible (first | exact aj _ | apply tD | refine cz ?_ | refine bH ?_ ?_ | refine bj ?_ (λ _=>?_) | refine cA ?_ (λ _=>?_) | omega | intro _))
theorem jY {s_0:List Bytes}{v_1:Bytes}:∀ (m m':Nat),m≤m'→∀ (y0:Int),Le (a6 s_0 v_1 m y0) (a6 s_0 v_1 m' y0):=by
 intro m
 induction m with
 | zero=>intro m' _ y0; exact dN _
 | succ m ih =>
 intro m' hm y0
 cases m' with
 | zero=>omega
 | succ m' =>
 simp only [a6]
 repeat' (with_reducible (first | exact aj _ | apply ih | refine cz ?_ | refine bH ?_ ?_ | refine bj ?_ (λ _=>?_) | refine cA ?_ (λ _=>?_) | omega | intro _))
theorem lf {n n':Nat}(hn:n≤n'){s_0:List Bytes}{v_1:Bytes}:Le (cn n s_0 v_1) (cn n' s_0 v_1):=by
 simp only [cn]
 repeat' (with_reducible (first | exact aj _ | apply jY | refine cz ?_ | refine bH ?_ ?_ | refine bj ?_ (λ _=>?_) | refine cA ?_ (λ _=>?_) | omega | intro _))
theorem jW {n n':Nat}(hn:n≤n'){s_0:List Bytes}{v_1:Bytes}:Le (a8 n s_0 v_1) (a8 n' s_0 v_1):=by
 simp only [a8]
 repeat' (with_reducible (first | exact aj _ | apply lf | refine cz ?_ | refine bH ?_ ?_ | refine bj ?_ (λ _=>?_) | refine cA ?_ (λ _=>?_) | omega | intro _))
theorem lu {n n':Nat}(hn:n≤n'){x_0:cN}{i_1:Int}:∀ (m m':Nat),m≤m'→∀ (y0:Int) (y1:List ab) (y2:List Int) (y3:List Bytes) (y4:List Bool),Le (br n x_0 i_1 m y0 y1 y2 y3 y4) (br n' x_0 i_1 m' y0 y1 y2 y3 y4):=by
 intro m
 induction m with
 | zero=>intro m' _ y0 y1 y2 y3 y4; exact dN _
 | succ m ih =>
 intro m' hm y0 y1 y2 y3 y4
 cases m' with
 | zero=>omega
 | succ m' =>
 simp only [br]
 repeat' (with_reducible (first | exact aj _ | apply ih | apply jW | refine cz ?_ | refine bH ?_ ?_ | refine bj ?_ (λ _=>?_) | refine cA ?_ (λ _=>?_) | omega | intro _))
theorem mE {n n':Nat}(hn:n≤n'){x_0:cN}{i_1:Int}:Le (cC n x_0 i_1) (cC n' x_0 i_1):=by
 simp only [cC]
 repeat' (with_reducible (first | exact aj _ | apply lu | refine cz ?_ | refine bH ?_ ?_ | refine bj ?_ (λ _=>?_) | refine cA ?_ (λ _=>?_) | omega | intro _))
theorem pE {r_target_copied r_target_copied':ay→Option ay}(h_target_copied:∀ x0,Le (r_target_copied x0) (r_target_copied' x0)):∀ (m m':Nat),m≤m'→Le (dB r_target_copied m ) (dB r_target_copied' m' ):=by
 intro m
 induction m with
 | zero=>intro m' _ ; exact dN _
 | succ m ih =>
 intro m' hm
 cases m' with
 | zero=>omega
 | succ m' =>
 simp only [dB]
 repeat' (with_reducible (first | exact aj _ | apply ih | apply h_target_copied | refine cz ?_ | refine bH ?_ ?_ | refine bj ?_ (λ _=>?_) | refine cA ?_ (λ _=>?_) | omega | intro _))
theorem pB {r_target_copied r_target_copied':ay→Option ay}(h_target_copied:∀ x0,Le (r_target_copied x0) (r_target_copied' x0)){v_0:ay}:∀ (m m':Nat),m≤m'→∀ (y0:Int) (y1:List ay),Le (cu r_target_copied v_0 m y0 y1) (cu r_target_copied' v_0 m' y0 y1):=by
 intro m
 induction m with
 | zero=>intro m' _ y0 y1; exact dN _
 | succ m ih =>
 intro m' hm y0 y1
 cases m' with
 | zero=>omega
 | succ m' =>
 simp only [cu]
 repeat' (with_reducible (first | exact aj _ | apply ih | apply h_target_copied | refine cz ?_ | refine bH ?_ ?_ | refine bj ?_ (λ _=>?_) | refine cA ?_ (λ _=>?_) | omega | intro _))
theorem qm (n:Nat):∀ n':Nat,n≤n'→(∀ (v_0:ay),Le (bO n v_0) (bO n' v_0)):=by
 induction n with
 | zero=>exact λ n' _=>(by intro v_0; exact dN _)
 | succ n ih =>
 intro n' hn
 cases n' with
 | zero=>omega
 | succ n' =>
 have hn':n≤n':=by omega
 have ih_target_copied_le:=ih n' hn'
 intro v_0
 simp only [bO]
 repeat' (with_reducible (first | exact aj _ | apply ih_target_copied_le | apply pE | apply pB | refine cz ?_ | refine bH ?_ ?_ | refine bj ?_ (λ _=>?_) | refine cA ?_ (λ _=>?_) | omega | intro _))
theorem ry {n n':Nat}(hn:n≤n'):∀ (v_0:ay),Le (bO n v_0) (bO n' v_0):=(qm n n' hn)
theorem ri {n n':Nat}(hn:n≤n'){c_0:ab}:Le (fE n c_0) (fE n' c_0):=by
 simp only [fE]
 repeat' (with_reducible (first | exact aj _ | apply ry | refine cz ?_ | refine bH ?_ ?_ | refine bj ?_ (λ _=>?_) | refine cA ?_ (λ _=>?_) | omega | intro _))
theorem pO {n n':Nat}(hn:n≤n'){l_1:List ab}:∀ (m m':Nat),m≤m'→∀ (y0:Int) (y1:List Bytes),Le (cI n l_1 m y0 y1) (cI n' l_1 m' y0 y1):=by
 intro m
 induction m with
 | zero=>intro m' _ y0 y1; exact dN _
 | succ m ih =>
 intro m' hm y0 y1
 cases m' with
 | zero=>omega
 | succ m' =>
 simp only [cI]
 repeat' (with_reducible (first | exact aj _ | apply ih | apply me | refine cz ?_ | refine bH ?_ ?_ | refine bj ?_ (λ _=>?_) | refine cA ?_ (λ _=>?_) | omega | intro _))
theorem pJ {n n':Nat}(hn:n≤n'){targets_0:List Bytes}{l_1:List ab}:∀ (m m':Nat),m≤m'→∀ (y0:Int) (y1:List ab) (y2:List Int) (y3:List Bytes) (y4:List Bool),Le (cE n targets_0 l_1 m y0 y1 y2 y3 y4) (cE n' targets_0 l_1 m' y0 y1 y2 y3 y4):=by
 intro m
 induction m with
 | zero=>intro m' _ y0 y1 y2 y3 y4; exact dN _
 | succ m ih =>
 intro m' hm y0 y1 y2 y3 y4
 cases m' with
 | zero=>omega
 | succ m' =>
 simp only [cE]
 repeat' (with_reducible (first | exact aj _ | apply ih | apply l6 | refine cz ?_ | refine bH ?_ ?_ | refine bj ?_ (λ _=>?_) | refine cA ?_ (λ _=>?_) | omega | intro _))
theorem pP {n n':Nat}(hn:n≤n'):∀ (m m':Nat),m≤m'→∀ (y0:List ab) (y1:List Int) (y2:List Bytes) (y3:List Bool),Le (cF n m y0 y1 y2 y3) (cF n' m' y0 y1 y2 y3):=by
 intro m
 induction m with
 | zero=>intro m' _ y0 y1 y2 y3; exact dN _
 | succ m ih =>
 intro m' hm y0 y1 y2 y3
 cases m' with
 | zero=>omega
 | succ m' =>
 simp only [cF]
 repeat' (with_reducible (first | exact aj _ | apply ih | apply mE | refine cz ?_ | refine bH ?_ ?_ | refine bj ?_ (λ _=>?_) | refine cA ?_ (λ _=>?_) | omega | intro _))
theorem pF {n n':Nat}(hn:n≤n'){l_1:List ab}{l94:List Bool}:∀ (m m':Nat),m≤m'→∀ (y0:List ab) (y1:Int),Le (cH n l_1 l94 m y0 y1) (cH n' l_1 l94 m' y0 y1):=by
 intro m
 induction m with
 | zero=>intro m' _ y0 y1; exact dN _
 | succ m ih =>
 intro m' hm y0 y1
 cases m' with
 | zero=>omega
 | succ m' =>
 simp only [cH]
 repeat' (with_reducible (first | exact aj _ | apply ih | apply ri | refine cz ?_ | refine bH ?_ ?_ | refine bj ?_ (λ _=>?_) | refine cA ?_ (λ _=>?_) | omega | intro _))
theorem rX {n n':Nat}(hn:n≤n'){targets_0:List Bytes}{l_1:List ab}:Le (dx n targets_0 l_1) (dx n' targets_0 l_1):=by
 simp only [dx]
 repeat' (with_reducible (first | exact aj _ | apply pO | apply pJ | apply pP | apply pF | refine cz ?_ | refine bH ?_ ?_ | refine bj ?_ (λ _=>?_) | refine cA ?_ (λ _=>?_) | omega | intro _))
theorem uw {n n':Nat}(hn:n≤n'):Le (gn n) (gn n'):=by
 simp only [gn]
 repeat' (with_reducible (first | exact aj _ | apply rX | apply sW | apply l6 | apply sS | refine cz ?_ | refine bH ?_ ?_ | refine bj ?_ (λ _=>?_) | refine cA ?_ (λ _=>?_) | omega | intro _))
theorem yy:gn 60=some true:=by decide +kernel
theorem xI:Ev2 (λ n _=>gn n) (·=true):=Dc 60 yy (λ n hn=>uw hn) Z
end Go.Ab.R06
end
section
namespace Go.Ab
set_option autoImplicit false
theorem kc {α:Type}{tt:List (Nat×TI)}{n t s b:Nat}{cs:List PV}{z:List Value}(f:α→PV)(Q:α→Prop){e:Nat}(hl:look tt t=some ⟨.slice e,s,b,z⟩)(h:WTf tt n t cs)
  (he:∀ m x,m < n→WTf tt m e x.cells→x=mkE (((look tt e).map (·.k.isAgg)).getD false) x.cells→∃ y,x=f y∧Q y):∃ l:List α,cs=[eL f l]∧l.length*(((look tt e).map (·.bytes)).getD 0)≤fv∧∀ y∈l,Q y:=by
 cases n with
 | zero=>exact h.elim
 | succ n =>
  obtain ⟨l,h1,h2,h3⟩:=BU f Q hl h (λ x k1 k2=>he n x O k1 k2)
  exact ⟨l,h1,h2.2,h3⟩
inductive ay.Bd:ay→Prop where
 | mk {x:ay} (bKind:inR x.fKind) (bNum:inR x.fNum) (bStr:x.fStr.length≤fv) (bItems:x.fItems.length*80≤fv) (eItems:∀ y∈x.fItems,ay.Bd y) (bKeys:x.fKeys.length*16≤fv) (eKeys:∀ y∈x.fKeys,y.length≤fv):ay.Bd x
theorem ay.Bd.bItems {x:ay}(h:ay.Bd x):x.fItems.length*80≤fv:=by cases h; assumption
theorem ay.Bd.eItems {x:ay}(h:ay.Bd x):∀ y∈x.fItems,ay.Bd y:=by cases h; assumption
theorem ay.Bd.bKeys {x:ay}(h:ay.Bd x):x.fKeys.length*16≤fv:=by cases h; assumption
theorem ay.dec (n:Nat):(∀ cs,WTf tt n 45 cs→∃ x:ay,cs=ay.cs x∧ay.Bd x):=by
 induction n using Nat.strongRecOn with
 | _ n ih =>
 have ih_TValue:∀ m,m < n→(∀ cs,WTf tt m 45 cs→∃ x:ay,cs=ay.cs x∧ay.Bd x):=λ m hm=>(ih m hm)
 intro cs h
 cases n with
 | zero=>exact h.elim
 | succ n =>
 have h0:=tA Z h
 obtain ⟨c0,q0,rfl,k0,h0⟩:=ee h0
 obtain ⟨c1,q1,rfl,k1,h0⟩:=ee h0
 obtain ⟨c2,q2,rfl,k2,h0⟩:=ee h0
 obtain ⟨c3,q3,rfl,k3,h0⟩:=ee h0
 obtain ⟨c4,q4,rfl,k4,h0⟩:=ee h0
 have e:q4=[]:=h0
 subst e
 obtain ⟨x25,rfl,b26⟩:=tm rfl k0
 obtain ⟨x27,rfl,b28⟩:=tm rfl k1
 obtain ⟨x29,rfl,b30⟩:=jr rfl k2
 obtain ⟨x31,rfl,b32⟩:=kc b5 (λ y=>ay.Bd y) rfl k3 (λ m33 y34 hm35 k36 k37=>by
  obtain ⟨x38,e40,b39⟩:=ih_TValue _ O _ k36
  exact ⟨x38,(CL e40 k37).trans (ay.agg_eq _).symm,b39⟩
  )
 obtain ⟨x41,rfl,b42⟩:=kc eS (λ y=>y.length≤fv) rfl k4 (λ m43 y44 hm45 k46 k47=>by
  obtain ⟨x48,e50,b49⟩:=jr rfl k46
  exact ⟨x48,qe e50 k47,b49⟩
  )
 exact ⟨ay.mk x25 x27 x29 x31 x41,Z,.mk b26 b28 b30 b32.1 b32.2 b42.1 b42.2⟩
inductive ab.Bd:ab→Prop where
 | mk {x:ab} (bAddr:x.fAddr.length≤fv) (bDeposed:x.fDeposed.length≤fv) (bType:x.fType.length≤fv) (bAction:inR x.fAction) (bReason:inR x.fReason) (bBefore:ay.Bd x.fBefore) (bAfter:ay.Bd x.fAfter) (bID:x.fID.length≤fv) (bReplace:x.fReplace.length*16≤fv) (eReplace:∀ y∈x.fReplace,y.length≤fv) (bDeps:x.fDeps.length*16≤fv) (eDeps:∀ y∈x.fDeps,y.length≤fv) (bOldDeps:x.fOldDeps.length*16≤fv) (eOldDeps:∀ y∈x.fOldDeps,y.length≤fv):ab.Bd x
theorem ab.Bd.bBefore {x:ab}(h:ab.Bd x):ay.Bd x.fBefore:=by cases h; assumption
theorem ab.Bd.bAfter {x:ab}(h:ab.Bd x):ay.Bd x.fAfter:=by cases h; assumption
theorem ab.Bd.bReplace {x:ab}(h:ab.Bd x):x.fReplace.length*16≤fv:=by cases h; assumption
theorem ab.Bd.bDeps {x:ab}(h:ab.Bd x):x.fDeps.length*16≤fv:=by cases h; assumption
theorem ab.Bd.bOldDeps {x:ab}(h:ab.Bd x):x.fOldDeps.length*16≤fv:=by cases h; assumption
theorem ab.dec (n:Nat):(∀ cs,WTf tt n 47 cs→∃ x:ab,cs=ab.cs x∧ab.Bd x):=by
 induction n using Nat.strongRecOn with
 | _ n ih =>
 have ih_TChange:∀ m,m < n→(∀ cs,WTf tt m 47 cs→∃ x:ab,cs=ab.cs x∧ab.Bd x):=λ m hm=>(ih m hm)
 intro cs h
 cases n with
 | zero=>exact h.elim
 | succ n =>
 have h0:=tA Z h
 obtain ⟨c0,q0,rfl,k0,h0⟩:=ee h0
 obtain ⟨c1,q1,rfl,k1,h0⟩:=ee h0
 obtain ⟨c2,q2,rfl,k2,h0⟩:=ee h0
 obtain ⟨c3,q3,rfl,k3,h0⟩:=ee h0
 obtain ⟨c4,q4,rfl,k4,h0⟩:=ee h0
 obtain ⟨c5,q5,rfl,k5,h0⟩:=ee h0
 obtain ⟨c6,q6,rfl,k6,h0⟩:=ee h0
 obtain ⟨c7,q7,rfl,k7,h0⟩:=ee h0
 obtain ⟨c8,q8,rfl,k8,h0⟩:=ee h0
 obtain ⟨c9,q9,rfl,k9,h0⟩:=ee h0
 obtain ⟨c10,q10,rfl,k10,h0⟩:=ee h0
 obtain ⟨c11,q11,rfl,k11,h0⟩:=ee h0
 obtain ⟨c12,q12,rfl,k12,h0⟩:=ee h0
 obtain ⟨c13,q13,rfl,k13,h0⟩:=ee h0
 have e:q13=[]:=h0
 subst e
 obtain ⟨x51,rfl,b52⟩:=jr rfl k0
 obtain ⟨x53,rfl,b54⟩:=jr rfl k1
 obtain ⟨x55,rfl,b56⟩:=jr rfl k2
 obtain ⟨x57,rfl,b58⟩:=tm rfl k3
 obtain ⟨x59,rfl,b60⟩:=tm rfl k4
 obtain ⟨x61,rfl,b62⟩:=ay.dec _ _ k5
 obtain ⟨x63,rfl,b64⟩:=ay.dec _ _ k6
 obtain ⟨x65,rfl,b66⟩:=jr rfl k7
 obtain ⟨x67,rfl,b68⟩:=kc eS (λ y=>y.length≤fv) rfl k8 (λ m69 y70 hm71 k72 k73=>by
  obtain ⟨x74,e76,b75⟩:=jr rfl k72
  exact ⟨x74,qe e76 k73,b75⟩
  )
 obtain ⟨x77,rfl⟩:=uF rfl k9
 obtain ⟨x79,rfl⟩:=uF rfl k10
 obtain ⟨x81,rfl⟩:=uF rfl k11
 obtain ⟨x83,rfl,b84⟩:=kc eS (λ y=>y.length≤fv) rfl k12 (λ m85 y86 hm87 k88 k89=>by
  obtain ⟨x90,e92,b91⟩:=jr rfl k88
  exact ⟨x90,qe e92 k89,b91⟩
  )
 obtain ⟨x93,rfl,b94⟩:=kc eS (λ y=>y.length≤fv) rfl k13 (λ m95 y96 hm97 k98 k99=>by
  obtain ⟨x100,e102,b101⟩:=jr rfl k98
  exact ⟨x100,qe e102 k99,b101⟩
  )
 exact ⟨ab.mk x51 x53 x55 x57 x59 x61 x63 x65 x67 x77 x79 x81 x83 x93,Z,.mk b52 b54 b56 b58 b60 b62 b64 b66 b68.1 b68.2 b84.1 b84.2 b94.1 b94.2⟩
end Go.Ab
end
section
namespace Go.Ab.R06
open Go.Ab Go.Ab.RB Go.Lib
theorem cy {α β:Type}{P:α→Prop}{g:Nat→Nat→Option β}{k:Nat→Nat→β→Option α}(x:β)(h:Ev2 g (·=x))(hk:Ev2 (λ n m=>k n m x) P):Ev2 (λ n m=>(g n m).bind (k n m)) P:=gZ (·=x) h (λ _ e=>by subst e; exact hk)
theorem qP:fv≤9000000000000000000:=by decide
def l9 (l:List Bytes)(most:Int):Bool:=decide ((l.length:Int)≤most)&&l.all λ s=>decide (s.length≤300)
theorem CP (l:List Bytes)(hb:l.length≤fv):∀ (k i:Nat),i+k=l.length→Ev2 (λ _ m=>fe l m (i:Int)) (·=if ((l.drop i).all λ s=>decide (s.length≤300))=true then .inl () else .inr false):=by
 have hW:=qP
 intro k
 induction k with
 | zero =>
  intro i hi
  refine aF ?_
  simp only [fe]
  exact ap O (aa (by rw [List.drop_of_length_le O]; simp))
 | succ k ih =>
  intro i hi
  have h1:i < l.length:=by omega
  refine aF ?_
  simp only [fe]
  refine ao O (af O ?_)
  rw [co _ _ h1,List.drop_eq_getElem_cons h1,List.all_cons]
  refine aB (λ h=>aa (by rw [decide_eq_false O]; rfl)) (λ h=>af (aS O O) ?_)
  have:=ih (i+1) O
  rw [Int.natCast_add,Int.natCast_one] at this
  refine ed this λ r hr=>?_
  rw [hr,decide_eq_true (show l[i].length≤300 by omega),Bool.true_and]
theorem uU (l:List Bytes)(most:Int)(hb:l.length≤fv):Ev2 (λ n _=>iw n l most) (·=l9 l most):=by
 simp only [iw]
 unfold l9
 refine aB (λ h=>aa (by rw [decide_eq_false O]; rfl)) (λ h=>?_)
 rw [decide_eq_true (show (l.length:Int)≤most by omega),Bool.true_and]
 have l1:=CP l hb l.length 0 O
 rw [List.drop_zero] at l1
 cases hq:l.all λ s=>decide (s.length≤300)
 ·rw [if_neg (by simp [hq])] at l1
  exact gw false (aY l1) Z
 ·rw [if_pos hq] at l1
  exact gH () (aY l1) (aa Z)
theorem tS {l:List Bytes}{most:Int}(h:l9 l most=true):(l.length:Int)≤most∧∀ s∈l,s.length≤300:=by
 unfold l9 at h
 rw [Bool.and_eq_true,decide_eq_true_eq,List.all_eq_true] at h
 exact ⟨h.1,λ s hs=>by simpa using h.2 s hs⟩
def jN (f:Bytes→Int):List Bytes→Int
 | []=>0
 | s::r=>if f s=0 then jN f r else f s
theorem AL (l:List Bytes)(hb:l.length≤65536)(hs:∀ s∈l,s.length≤65536):∀ (k i:Nat),i+k=l.length→Ev2 (λ _ m=>cV l m (i:Int)) (·=if jN Glob.check (l.drop i)=0 then .inl () else .inr (jN Glob.check (l.drop i))):=by
 intro k
 induction k with
 | zero =>
  intro i hi
  refine aF ?_
  simp only [cV]
  exact ap O (aa (by rw [List.drop_of_length_le O]; rfl))
 | succ k ih =>
  intro i hi
  have h1:i < l.length:=by omega
  refine aF ?_
  simp only [cV]
  refine ao O (af O ?_)
  rw [co _ _ h1,List.drop_eq_getElem_cons h1]
  refine af (hs _ (List.getElem_mem h1)) ?_
  refine aB (λ h=>af (aS O O) ?_) (λ h=>aa ?_)
  ·have:=ih (i+1) O
   rw [Int.natCast_add,Int.natCast_one] at this
   have e:jN Glob.check (l[i]::l.drop (i+1))=jN Glob.check (l.drop (i+1)):=if_pos h
   simp only [e]; exact this
  ·have e:jN Glob.check (l[i]::l.drop (i+1))=Glob.check l[i]:=if_neg h
   simp only [e,if_neg h]
def tgP (l:List Bytes):Int:=if 64 < (l.length:Int) then 14 else jN Glob.check l
theorem FL (l:List Bytes)(hs:∀ s∈l,s.length≤65536):Ev2 (λ n _=>fw n l) (·=tgP l):=by
 simp only [fw]
 unfold tgP
 refine aB (λ h=>aa (by rw [if_pos h])) (λ h=>?_)
 rw [if_neg h]
 have l1:=AL l O hs l.length 0 O
 rw [List.drop_zero] at l1
 by_cases hq:jN Glob.check l=0
 ·rw [if_pos hq] at l1
  exact gH () (aY l1) (aa hq.symm)
 ·rw [if_neg hq] at l1
  exact gw _ (aY l1) Z
theorem Fp (l:List Bytes)(hb:l.length≤65536)(hs:∀ s∈l,s.length≤65536):∀ (k i:Nat),i+k=l.length→Ev2 (λ _ m=>eW l m (i:Int)) (·=if jN Glob.check (l.drop i)=0 then .inl () else .inr (jN Glob.check (l.drop i))):=by
 intro k
 induction k with
 | zero =>
  intro i hi
  refine aF ?_
  simp only [eW]
  exact ap O (aa (by rw [List.drop_of_length_le O]; rfl))
 | succ k ih =>
  intro i hi
  have h1:i < l.length:=by omega
  refine aF ?_
  simp only [eW,← Glob.check_eq]
  refine ao O (af O ?_)
  rw [co _ _ h1,List.drop_eq_getElem_cons h1]
  refine af (hs _ (List.getElem_mem h1)) ?_
  refine aB (λ h=>af (aS O O) ?_) (λ h=>aa ?_)
  ·have:=ih (i+1) O
   rw [Int.natCast_add,Int.natCast_one] at this
   have e:jN Glob.check (l[i]::l.drop (i+1))=jN Glob.check (l.drop (i+1)):=if_pos h
   simp only [e]; exact this
  ·have e:jN Glob.check (l[i]::l.drop (i+1))=Glob.check l[i]:=if_neg h
   simp only [e,if_neg h]
theorem Fl (l:List Bytes)(hs:∀ s∈l,s.length≤65536):Ev2 (λ n _=>kW n l) (·=tgP l):=by
 simp only [kW]
 unfold tgP
 refine aB (λ h=>aa (by rw [if_pos h])) (λ h=>?_)
 rw [if_neg h]
 have l1:=Fp l O hs l.length 0 O
 rw [List.drop_zero] at l1
 by_cases hq:jN Glob.check l=0
 ·rw [if_pos hq] at l1
  exact gH () (aY l1) (aa hq.symm)
 ·rw [if_neg hq] at l1
  exact gw _ (aY l1) Z
def ux (c:ab):Bool:=decide (c.fAddr.length≤300)&&l9 c.fDeps 10&&l9 c.fOldDeps 10
theorem EJ (l:List ab)(hb:l.length≤20)(hB:∀ c∈l,ab.Bd c):∀ (k i:Nat),i+k=l.length→Ev2 (λ n m=>ga n l m (i:Int)) (·=if (l.drop i).all ux=true then .inl () else .inr false):=by
 have hW:=qP
 intro k
 induction k with
 | zero =>
  intro i hi
  refine aF ?_
  simp only [ga]
  exact ap O (aa (by rw [List.drop_of_length_le O]; simp))
 | succ k ih =>
  intro i hi
  have h1:i < l.length:=by omega
  have hc:=hB _ (List.getElem_mem h1)
  have d1:=hc.bDeps
  have d2:=hc.bOldDeps
  refine aF ?_
  simp only [ga]
  refine ao O ?_
  rw [co _ _ h1,List.drop_eq_getElem_cons h1,List.all_cons]
  refine gZ (·=!ux l[i]) (af O ?_) (λ x hx=>?_)
  ·unfold ux
   refine aB (λ h=>aa (by rw [decide_eq_false O]; rfl)) (λ h=>af O ?_)
   rw [decide_eq_true (show l[i].fAddr.length≤300 by omega),Bool.true_and]
   refine cy _ (uU l[i].fDeps 10 O) ?_
   cases l9 l[i].fDeps 10
   ·exact ao Z (aa Z)
   ·refine ap (by decide) (af O ?_)
    exact cy _ (uU l[i].fOldDeps 10 O) (aa (by rw [Bool.true_and]))
  ·subst hx
   cases hq:ux l[i]
   ·exact ao Z (aa Z)
   ·refine ap (by decide) (af (aS O O) ?_)
    have:=ih (i+1) O
    rw [Int.natCast_add,Int.natCast_one] at this
    exact this
def Cz (t:List Bytes)(l:List ab):Bool:=l9 t 16&&decide (tgP t=0)&&decide (l.length≤20)&&l.all ux
theorem E8 (t:List Bytes)(l:List ab)(ht:t.length≤fv)(hB:∀ c∈l,ab.Bd c):Ev2 (λ n _=>mV n t l) (·=Cz t l):=by
 simp only [mV]
 unfold Cz
 refine gZ (·=!(l9 t 16&&decide (tgP t=0)&&decide (l.length≤20))) ?_ (λ x hx=>?_)
 ·refine cy _ (uU t 16 ht) ?_
  cases hq:l9 t 16
  ·exact ao Z (aa Z)
  ·refine ap (by decide) (cy _ (Fl t (λ s hs=>by have:=(tS hq).2 s hs; omega)) ?_)
   refine aB (λ h=>aa ?_) (λ h=>aa ?_)
   ·rw [decide_eq_true h]
    by_cases h2:l.length≤20
    ·rw [decide_eq_true h2,decide_eq_false O]; rfl
    ·rw [decide_eq_false h2,decide_eq_true O]; rfl
   ·rw [decide_eq_false h]; rfl
 ·subst hx
  cases hq:(l9 t 16&&decide (tgP t=0)&&decide (l.length≤20))
  ·exact ao Z (aa Z)
  ·refine ap (by decide) ?_
   rw [Bool.and_eq_true,decide_eq_true_eq] at hq
   have l1:=EJ l hq.2 hB l.length 0 O
   rw [List.drop_zero] at l1
   rw [Bool.true_and]
   cases hp:l.all ux
   ·rw [if_neg (by simp [hp])] at l1
    exact gw false (aY l1) Z
   ·rw [if_pos hp] at l1
    exact gH () (aY l1) (aa Z)
end Go.Ab.R06
end
section
namespace Go.Ab.R06
open Go.Ab Go.Ab.RB
section
variable {α β:Type} {P:α→Prop}
theorem au {g:Nat→Nat→Option β}{k:Nat→Nat→β→Option α}(x:β)(h:Ev2 g (·=x))(hk:Ev2 (λ n m=>k n m x) P):Ev2 (λ n m=>(g n m).bind (k n m)) P :=
 gZ (·=x) h λ y hy=>by subst hy; exact hk
end
def pQ (b:UInt8):Bool:=(decide (97≤b.toNat)&&decide (b.toNat≤122))||(decide (65≤b.toNat)&&decide (b.toNat≤90))||decide (b.toNat=95)
def dI (b:UInt8):Bool:=decide (48≤b.toNat)&&decide (b.toNat≤57)
def idB (b:UInt8):Bool:=pQ b||dI b
def bZ:Bytes→Bool
 | []=>false
 | b::r=>decide ((b::r).length≤64)&&pQ b&&r.all idB
def xE (s:Bytes)(i:Nat):Bool:=pQ (s.getD i 0)||(decide (i≠0)&&dI (s.getD i 0))
def mA (p:Nat→Bool):Nat→Nat→Bool
 | _,0=>true
 | i,k+1=>p i&&mA p (i+1) k
theorem ou (p:Nat→Bool):∀ (k i:Nat),mA p i k=true↔∀ j,i≤j→j < i+k→p j=true
 | 0,i=>by simp [mA]; intro j h1 h2; omega
 | k+1,i=>by
  rw [mA,Bool.and_eq_true,ou p k (i+1)]
  constructor
  ·rintro ⟨h1,h2⟩ j h3 h4
   by_cases e:j=i
   ·rw [e]; exact h1
   ·exact h2 j O O
  ·intro h
   exact ⟨h i O O,λ j h1 h2=>h j O O⟩
theorem or32:(List.range 256).all (λ n=>(decide ((97:Int)≤iOr .u8 (n:Int) 32)&&decide (iOr .u8 (n:Int) 32≤122)) == ((decide (97≤n)&&decide (n≤122))||(decide (65≤n)&&decide (n≤90))))=true:=by kernel_rfl
theorem Fe (b:UInt8):(97≤iOr .u8 ((b.toNat:Nat):Int) 32∧iOr .u8 ((b.toNat:Nat):Int) 32≤122)↔((97≤b.toNat∧b.toNat≤122)∨(65≤b.toNat∧b.toNat≤90)):=by
 have h:=List.all_eq_true.1 or32 b.toNat (List.mem_range.2 b.toNat_lt)
 have h:=eq_of_beq h
 rw [Bool.eq_iff_iff] at h
 simpa using h
theorem qu (b:UInt8):pQ b=true↔(97≤b.toNat∧b.toNat≤122)∨(65≤b.toNat∧b.toNat≤90)∨b.toNat=95:=by
 simp [pQ,or_assoc]
theorem jc (b:UInt8):dI b=true↔48≤b.toNat∧b.toNat≤57:=by simp [dI]
theorem eqB {a b:Bool}(h:a=true↔b=true):a=b:=Bool.eq_iff_iff.2 h
theorem lZ (s:Bytes)(i:Nat):xE s i=true↔pQ (s.getD i 0)=true∨(i≠0∧dI (s.getD i 0)=true):=by simp [xE]
theorem p7 (s:Bytes):bZ s=true↔s≠[]∧s.length≤64∧mA (xE s) 0 s.length=true:=by
 rw [ou]
 cases s with
 | nil=>simp [bZ]
 | cons b r =>
  simp only [bZ,Bool.and_eq_true,decide_eq_true_eq,List.all_eq_true]
  constructor
  ·rintro ⟨⟨h1,h2⟩,h3⟩
   refine ⟨by simp,h1,λ j _ hj=>?_⟩
   rw [lZ]
   cases j with
   | zero=>exact .inl h2
   | succ j =>
    have hm:r.getD j 0∈r:=by
     rw [List.getD_eq_getElem?_getD,List.getElem?_eq_getElem (by simp at hj; omega)]
     exact List.getElem_mem _
    have:=h3 _ hm
    simp only [idB,Bool.or_eq_true] at this
    rcases this with h | h
    ·exact .inl h
    ·exact .inr ⟨by omega,h⟩
  ·rintro ⟨_,h1,h2⟩
   refine ⟨⟨h1,?_⟩,λ x hx=>?_⟩
   ·have:=(lZ _ _).1 (h2 0 O G)
    simpa using this
   ·obtain ⟨j,hj,rfl⟩:=List.getElem_of_mem hx
    have:=(lZ _ _).1 (h2 (j+1) O (by simp; omega))
    rw [show (b::r).getD (j+1) 0=r[j] by simp [hj]] at this
    simp only [idB,Bool.or_eq_true]
    rcases this with h | h
    ·exact .inl h
    ·exact .inr h.2
theorem sD (s:Bytes):bZ s=true↔s≠[]∧s.length≤64∧pQ (s.getD 0 0)=true∧mA (λ j=>idB (s.getD j 0)) 0 s.length=true:=by
 rw [p7,ou,ou]
 constructor
 ·rintro ⟨h1,h2,h3⟩
  have hl:0 < s.length:=List.length_pos_iff.2 h1
  refine ⟨h1,h2,?_,λ j _ hj=>?_⟩
  ·have:=(lZ s 0).1 (h3 0 O O)
   simpa using this
  ·have:=(lZ s j).1 (h3 j O hj)
   simp only [idB,Bool.or_eq_true]
   rcases this with h | h
   ·exact .inl h
   ·exact .inr h.2
 ·rintro ⟨h1,h2,h3,h4⟩
  refine ⟨h1,h2,λ j _ hj=>(lZ s j).2 ?_⟩
  have:=h4 j O hj
  simp only [idB,Bool.or_eq_true] at this
  by_cases e:j=0
  ·subst e; exact .inl h3
  ·rcases this with h | h
   ·exact .inl h
   ·exact .inr ⟨e,h⟩
end Go.Ab.R06
namespace Go.Ab.R06
open Go.Ab Go.Ab.RB Go.Lib
def fW (acc:Nat)(l:Bytes):Nat:=l.foldl (λ a b=>a*10+(b.toNat - 48)) acc
theorem mT (a:Nat):fW a []=a:=rfl
theorem pA (a:Nat)(b:UInt8)(l:Bytes):fW a (b::l)=fW (a*10+(b.toNat - 48)) l:=by simp only [fW,List.foldl_cons]
theorem xh (a:Nat)(l m:Bytes):fW a (l++m)=fW (fW a l) m:=by simp [fW]
theorem rh (a:Nat)(l:Bytes)(b:UInt8):fW a (l++[b])=fW a l*10+(b.toNat - 48):=by rw [xh]; rfl
theorem zJ:∀ (l:Bytes) (a:Nat),a≤fW a l
 | [],a=>Nat.le_of_eq (mT a).symm
 | b::r,a=>by
  rw [pA]
  have:=zJ r (a*10+(b.toNat - 48))
  generalize fW (a*10+(b.toNat - 48)) r=v at this ⊢
  omega
theorem ky {l:Bytes}(h:l.all dI=true){b:UInt8}(hb:b∈l):48≤b.toNat∧b.toNat≤57:=(jc b).1 (List.all_eq_true.1 h b hb)
theorem Ce:∀ (l:Bytes) (acc:Nat),l.all dI=true→(fW acc l≤18446744073709551615→parseUintM 18446744073709551615 acc l=.ok (fW acc l))∧(18446744073709551615 < fW acc l→acc≤18446744073709551615→parseUintM 18446744073709551615 acc l=.range)
 | [],acc,_=>by
  rw [mT]
  exact ⟨λ _=>rfl,λ h h'=>by omega⟩
 | b::r,acc,h=>by
  have hb:=ky h List.mem_cons_self
  have hr:r.all dI=true:=by simp only [List.all_cons,Bool.and_eq_true] at h; exact h.2
  rw [parseUintM,if_pos hb,pA]
  have hg:=zJ r (acc*10+(b.toNat - 48))
  have ih:=Ce r (acc*10+(b.toNat - 48)) hr
  generalize fW (acc*10+(b.toNat - 48)) r=v at hg ih ⊢
  by_cases h1:1844674407370955162≤acc
  ·rw [if_pos h1]
   exact ⟨λ h2=>by omega,λ _ _=>rfl⟩
  ·rw [if_neg h1]
   by_cases h2:18446744073709551615 < acc*10+(b.toNat - 48)
   ·rw [if_pos h2]
    exact ⟨λ h3=>by omega,λ _ _=>rfl⟩
   ·rw [if_neg h2]
    exact ⟨ih.1,λ h3 _=>ih.2 h3 O⟩
theorem FH (l:Bytes)(hne:l≠[])(h:l.all dI=true):parseUintB 64 l=if fW 0 l≤18446744073709551615 then .ok (fW 0 l) else .range:=by
 rw [parseUintB,if_neg hne]
 show parseUintM (2 ^ 64 - 1) 0 l=_
 rw [show (2 ^ 64 - 1:Nat)=18446744073709551615 from rfl]
 have:=Ce l 0 h
 generalize fW 0 l=v at this ⊢
 by_cases q:v≤18446744073709551615
 ·rw [if_pos q]; exact this.1 q
 ·rw [if_neg q]; exact this.2 O O
def qa (l:Bytes):Bool:=!l.isEmpty&&l.all dI&&(decide (l.getD 0 0≠48)||decide (l.length=1))
theorem jR (l:Bytes):qa l=true↔l≠[]∧l.all dI=true∧(l.getD 0 0≠48∨l.length=1):=by
 simp [qa,and_assoc]
def pN (s:Bytes):Bool:=decide (0 < s.length)&&decide (s.getD 0 0=45)
def digits (s:Bytes):Bytes:=if pN s=true then s.drop 1 else s
def qV (s:Bytes):Bool:=!(pN s&&decide (s.drop 1=[48]))&&qa (digits s)
def m7 (s:Bytes):Int:=if pN s=true then -(fW 0 (digits s):Int) else (fW 0 (digits s):Int)
def jh:Int:=9007199254740992
def rD (s:Bytes):Int×Int:=if qV s=true then (if -jh≤m7 s∧m7 s≤jh then (m7 s,0) else (0,5)) else (0,2)
theorem CN (s:Bytes)(hs:s.length≤1000000000):∀ (k i:Nat),i+k=s.length→Ev2 (λ _ m=>bX s m (i:Int)) (·=if mA (λ j=>dI (s.getD j 0)) i k then .inl () else .inr false):=by
 intro k
 induction k with
 | zero =>
  intro i hi
  refine aF ?_
  simp only [bX]
  refine ap O (aa Z)
 | succ k ih =>
  intro i hi
  refine aF ?_
  simp only [bX]
  refine ao O ?_
  have hb:byt s i=((s.getD i 0).toNat:Int):=dh s i
  rw [hb]
  refine au (!dI (s.getD i 0)) ?_ ?_
  ·have h:=jc (s.getD i 0)
   generalize s.getD i 0=b at h ⊢
   refine af O (aB (λ h1=>aa ?_) (λ h1=>af O (aa ?_)))
   ·have:dI b=false:=by rw [← Bool.not_eq_true,h]; omega
    simp [this]
   ·refine eqB ?_
    rw [decide_eq_true_eq,Bool.not_eq_true',← Bool.not_eq_true,h]
    omega
  ·cases hk:dI (s.getD i 0) with
   | false=>exact ao Z (aa (by simp only [mA,hk,Bool.false_and]; rfl))
   | true =>
    refine ap G (af (aS O O) ?_)
    have:=ih (i+1) O
    rw [Int.natCast_add,Int.natCast_one] at this
    simp only [mA,hk,Bool.true_and]
    exact this
theorem ug (s:Bytes)(p:UInt8→Bool):mA (λ j=>p (s.getD j 0)) 0 s.length=s.all p:=by
 refine eqB ?_
 rw [ou,List.all_eq_true]
 constructor
 ·intro h x hx
  obtain ⟨j,hj,rfl⟩:=List.getElem_of_mem hx
  have:=h j O O
  simpa [hj] using this
 ·intro h j _ hj
  have hj:j < s.length:=by omega
  have:=h s[j] (List.getElem_mem hj)
  simpa [hj] using this
theorem wG (s:Bytes)(hs:s.length≤1000000000):Ev2 (λ n _=>d8 n s) (·=qV s):=by
 simp only [d8]
 have hb:byt s 0=((s.getD 0 0).toNat:Int):=dh s 0
 have hneg:pN s=true↔0 < s.length∧s.getD 0 0=45:=by simp [pN]
 have h45:(s.getD 0 0).toNat=45↔s.getD 0 0=45:=⟨λ h=>UInt8.toNat_inj.1 h,λ h=>by rw [h]; rfl⟩
 have body:∀ t:Bytes,t.length≤1000000000→Ev2 (λ n m=>jn (bX t n 0) λ q31 =>
   ((if t=([]:Bytes) then some false else ck ((0:Int)≤0∧0 < (t.length:Int)) <| if byt t 0=48 then some (decide ((t.length:Int)=1)) else some true):Option Bool).bind λ t28=>some t28) (·=qa t):=by
  intro t ht
  have l:=CN t ht t.length 0 O
  rw [ug] at l
  have hc:=jR t
  have hb':byt t 0=((t.getD 0 0).toNat:Int):=dh t 0
  have h48:(t.getD 0 0).toNat=48↔t.getD 0 0=48:=⟨λ h=>UInt8.toNat_inj.1 h,λ h=>by rw [h]; rfl⟩
  cases ha:t.all dI with
  | false =>
   rw [ha] at l hc
   refine gw false (aY l) (eqB ?_)
   rw [hc]; simp
  | true =>
   rw [ha] at l hc
   refine gH () (aY l) (gZ (·=qa t) ?_ (λ x hx=>aa hx))
   refine aB (λ h=>aa (eqB ?_)) (λ h=>af ?_ ?_)
   ·rw [hc]; simp [h]
   ·have:=List.length_pos_iff.2 h; omega
   ·rw [hb']
    refine aB (λ h1=>aa (eqB ?_)) (λ h1=>aa (eqB ?_))
    ·have h2:=h48.1 O
     rw [hc,decide_eq_true_eq]
     constructor
     ·intro q; exact ⟨h,by simp,.inr O⟩
     ·rintro ⟨_,_,q | q⟩
      ·exact absurd h2 q
      ·omega
    ·rw [hc]; simp only [true_iff]
     exact ⟨h,by simp,.inl λ q=>h1 (by have:=h48.2 q; omega)⟩
 refine oD (au (pN s) ?_ ?_)
 ·refine aB (λ h=>af O (aa (eqB ?_))) (λ h=>aa (eqB ?_))
  ·rw [hneg,hb,decide_eq_true_eq]
   constructor
   ·intro q; exact ⟨by omega,h45.1 O⟩
   ·rintro ⟨_,q⟩; have:=h45.2 q; omega
  ·rw [hneg]
   constructor
   ·intro q; cases q
   ·rintro ⟨q,_⟩; omega
 ·rw [fK]
  show Ev2 (λ n m=>if pN s=true then ck _ (if s.drop 1=[48] then some (Sum.inr false) else some (Sum.inl (s.drop 1))) else some (Sum.inl s)) _
  refine aB (λ h=>af ?_ (aB (λ h1=>aa ?_) (λ h1=>aa ?_))) (λ h=>aa ?_)
  ·have:=hneg.1 h; omega
  ·simp [qV,h,h1]
  ·have e:qV s=qa (s.drop 1):=by unfold qV digits; rw [if_pos h,decide_eq_false h1]; simp
   rw [e]
   exact body _ (by simp; omega)
  ·have e:qV s=qa s:=by simp [qV,h,digits]
   rw [e]
   exact body _ hs
theorem Fv (v:Int):jS v=some (decide (-jh≤v∧v≤jh)):=by
 simp only [jS]
 by_cases h:(-9007199254740992:Int)≤v
 ·rw [if_pos h]
  by_cases h2:v≤9007199254740992
  ·simp [h2,jh,h]
  ·simp [h2,jh]
 ·rw [if_neg h,Option.bind_some]
  refine congrArg some (eqB ?_)
  rw [decide_eq_true_eq]; unfold jh
  constructor
  ·intro q; cases q
  ·intro q; exact absurd q.1 h
theorem si {s:Bytes}(h:qV s=true):digits s≠[]∧(digits s).all dI=true:=by
 simp only [qV,Bool.and_eq_true] at h
 have:=(jR _).1 h.2
 exact ⟨this.1,this.2.1⟩
theorem Fc (s:Bytes)(h:qV s=true):parseIntB 64 s=if (if pN s=true then 9223372036854775808 < fW 0 (digits s) else 9223372036854775808≤fW 0 (digits s)) then .range else .ok (m7 s):=by
 obtain ⟨h1,h2⟩:=si h
 cases s with
 | nil=>exact absurd (by simp [digits,pN]) h1
 | cons c r =>
  have e45:c.toNat=45↔c=45:=⟨λ h=>UInt8.toNat_inj.1 h,λ h=>by rw [h]; rfl⟩
  have hneg:pN (c::r)=decide (c=45):=by simp [pN]
  have hd:(if c.toNat=43∨c.toNat=45 then r else c::r)=digits (c::r):=by
   unfold digits
   rw [hneg]
   by_cases q:c=45
   ·rw [if_pos (.inr (e45.2 q)),if_pos (by simp [q])]; rfl
   ·have e:digits (c::r)=c::r:=by unfold digits; rw [hneg,if_neg (by simp [q])]
    have e2:(if decide (c=45)=true then List.drop 1 (c::r) else c::r)=c::r:=if_neg (by simp [q])
    rw [e2,if_neg]
    rintro (k | k)
    ·rw [e] at h2
     have:=ky h2 List.mem_cons_self
     omega
    ·exact q (e45.1 k)
  have hp:=FH _ h1 h2
  unfold parseIntB
  simp only [hd,hp]
  rw [hneg]
  unfold m7
  rw [hneg]
  generalize fW 0 (digits (c::r))=v
  by_cases q:c=45
  ·subst q
   by_cases hv:v≤18446744073709551615
   ·simp only [hv,if_true]
    by_cases hw:9223372036854775808 < v
    ·simp [hw]
    ·simp [hw]
   ·simp only [hv,if_false]
    rw [if_pos]; simp; omega
  ·have q':¬ c.toNat=45:=λ k=>q (e45.1 k)
   by_cases hv:v≤18446744073709551615
   ·simp only [hv,if_true]
    by_cases hw:9223372036854775808≤v
    ·simp [q,q',hw]
    ·simp [q,q',hw]
   ·simp only [hv,if_false]
    rw [if_pos]; simp [q]; omega
theorem xX (s:Bytes)(hs:s.length≤1000000000):Ev2 (λ n _=>gg n s) (·=rD s):=by
 simp only [gg]
 refine au _ (wG s hs) ?_
 cases hc:qV s with
 | false=>exact ao Z (aa (by simp [rD,hc]))
 | true =>
  refine ap G ?_
  have hp:iN s 10 64=some (match parseIntB 64 s with | .ok v=>(v,false) | .range=>(intSat 64 s,true) | _=>(0,true)):=by
   unfold iN
   exact aT ⟨Z,Z,by omega⟩
  rw [Fc s hc] at hp
  have e:rD s=(if -jh≤m7 s∧m7 s≤jh then (m7 s,0) else (0,5)):=by simp [rD,hc]
  rw [e]
  by_cases hr:(if pN s=true then 9223372036854775808 < fW 0 (digits s) else 9223372036854775808≤fW 0 (digits s))
  ·rw [if_pos hr] at hp
   refine au _ (aU hp Z) ?_
   refine au true (ao Z (aa Z)) (ao Z (aa ?_))
   rw [if_neg]
   unfold m7 jh
   cases hn:pN s with
   | true=>rw [hn,if_pos rfl] at hr; rw [if_pos rfl]; omega
   | false=>rw [hn,if_neg G] at hr; rw [if_neg G]; omega
  ·rw [if_neg hr] at hp
   refine au _ (aU hp Z) ?_
   refine au (!decide (-jh≤m7 s∧m7 s≤jh)) ?_ ?_
   ·exact ap G (au _ (aU (Fv _) Z) (aa Z))
   ·by_cases q:-jh≤m7 s∧m7 s≤jh
    ·rw [if_pos q]
     exact ap (by simp [q]) (aa Z)
    ·rw [if_neg q]
     exact ao (by simp only [q,decide_false,Bool.not_false]) (aa Z)
theorem wz:∀ (n u:Nat),u < n→fW 0 (decDigits u)=u∧(decDigits u).all dI=true∧decDigits u≠[]∧((decDigits u).getD 0 0≠48∨(decDigits u).length=1)∧(1≤u→(decDigits u).getD 0 0≠48):=by
 intro n
 induction n with
 | zero=>intro u h; omega
 | succ n ih =>
  intro u hu
  have hdig:∀ k,k < 10→(UInt8.ofNat (48+k)).toNat=48+k:=λ k hk=>by
   rw [UInt8.toNat_ofNat']; omega
  rw [decDigits]
  by_cases h:u < 10
  ·rw [dif_pos h]
   have:=hdig u h
   refine ⟨by rw [pA,mT,this]; omega,by simp only [List.all_cons,List.all_nil,Bool.and_true,jc,this]; omega,by simp,.inr Z,λ h1=>?_⟩
   intro q
   have q':(UInt8.ofNat (48+u))=48:=q
   rw [q'] at this
   have:(48:UInt8).toNat=48:=rfl
   omega
  ·rw [dif_neg h]
   obtain ⟨a1,a2,a3,a4,a5⟩:=ih (u / 10) O
   have hd:=hdig (u % 10) O
   have hh:(decDigits (u / 10)++[UInt8.ofNat (48+u % 10)]).getD 0 0=(decDigits (u / 10)).getD 0 0:=by
    cases hx:decDigits (u / 10) with
    | nil=>exact absurd hx a3
    | cons c r=>rfl
   refine ⟨?_,?_,by simp,?_,?_⟩
   ·rw [rh,a1,hd]; omega
   ·rw [List.all_append,a2]; simp only [List.all_cons,List.all_nil,Bool.and_true,Bool.true_and,jc,hd]; omega
   ·rw [hh]; exact .inl (a5 O)
   ·rw [hh]; exact λ _=>a5 O
theorem sy:∀ (n:Nat) (l:Bytes),l.length≤n→qa l=true→decDigits (fW 0 l)=l∧(l.getD 0 0≠48→1≤fW 0 l):=by
 intro n
 induction n with
 | zero=>intro l hl h; have:=((jR l).1 h).1; cases l <;> simp_all
 | succ n ih =>
  intro l hl h
  obtain ⟨h1,h2,h3⟩:=(jR l).1 h
  have hof:∀ b:UInt8,48≤b.toNat→UInt8.ofNat (48+(b.toNat - 48))=b:=λ b hb=>by
   rw [show 48+(b.toNat - 48)=b.toNat by omega]; simp
  rcases List.eq_nil_or_concat l with rfl | ⟨m,b,rfl⟩
  ·exact absurd Z h1
  ·simp only [List.concat_eq_append] at *
   have hb:=ky h2 (b:=b) G
   rw [rh]
   by_cases hm:m=[]
   ·subst hm
    rw [mT,decDigits,dif_pos O]
    refine ⟨by simp [hof b hb.1],λ q=>?_⟩
    have q:b≠48:=q
    have:b.toNat≠48:=λ k=>q (UInt8.toNat_inj.1 k)
    omega
   ·have hcm:qa m=true:=by
     rw [jR]
     refine ⟨hm,?_,?_⟩
     ·rw [List.all_append,Bool.and_eq_true] at h2; exact h2.1
     ·rcases h3 with q | q
      ·left
       cases m with
       | nil=>exact absurd Z hm
       | cons c r=>exact q
      ·cases m with
       | nil=>exact absurd Z hm
       | cons c r=>simp at q
    obtain ⟨i1,i2⟩:=ih m (by simp at hl; omega) hcm
    have hne:m.getD 0 0≠48:=by
     rcases h3 with q | q
     ·cases m with
      | nil=>exact absurd Z hm
      | cons c r=>exact q
     ·cases m with
      | nil=>exact absurd Z hm
      | cons c r=>simp at q
    have hpos:=i2 hne
    refine ⟨?_,λ _=>by omega⟩
    rw [decDigits,dif_neg O]
    rw [show (fW 0 m*10+(b.toNat - 48)) / 10=fW 0 m by omega,show (fW 0 m*10+(b.toNat - 48)) % 10=b.toNat - 48 by omega,i1,hof b hb.1]
theorem Aj (v:Int)(h0:0≤v)(h1:v≤jh):rD (itoa v)=(v,0):=by
 obtain ⟨u,rfl⟩:∃ u:Nat,v=u:=⟨v.toNat,by omega⟩
 have e:itoa (u:Int)=decDigits u:=by unfold itoa; rw [if_neg O]; simp
 obtain ⟨a1,a2,a3,a4,a5⟩:=wz (u+1) u O
 have hn:pN (decDigits u)=false:=by
  rw [← Bool.not_eq_true]
  intro q
  simp only [pN,Bool.and_eq_true,decide_eq_true_eq] at q
  have hm:(decDigits u).getD 0 0∈decDigits u:=by
   rw [List.getD_eq_getElem?_getD,List.getElem?_eq_getElem q.1]; exact List.getElem_mem _
  have:=ky a2 hm
  rw [q.2] at this
  have:(45:UInt8).toNat=45:=rfl
  omega
 have hd:digits (decDigits u)=decDigits u:=by simp [digits,hn]
 have hc:qV (decDigits u)=true:=by
  simp only [qV,hn,hd,Bool.false_and,Bool.not_false,Bool.true_and]
  exact (jR _).2 ⟨a3,a2,a4⟩
 have hv:m7 (decDigits u)=u:=by simp [m7,hn,hd,a1]
 rw [e,rD,if_pos hc,hv,if_pos ⟨by unfold jh at *; omega,h1⟩]
theorem AR (s:Bytes)(v:Int)(h:rD s=(v,0))(h0:0≤v):itoa v=s∧v≤jh:=by
 unfold rD at h
 split at h
 ·rename_i hc
  split at h
  ·rename_i hr
   have hv:m7 s=v:=congrArg Prod.fst h
   obtain ⟨h1,h2⟩:=si hc
   simp only [qV,Bool.and_eq_true] at hc
   have hb:=(sy _ (digits s) (Nat.le_refl _) hc.2)
   have hcn:=(jR _).1 hc.2
   cases hn:pN s with
   | true =>
    exfalso
    have hv2:m7 s=-(fW 0 (digits s):Int):=by simp [m7,hn]
    have hz:fW 0 (digits s)=0:=by omega
    have:decDigits 0=digits s:=by rw [← hz]; exact hb.1
    rw [decDigits,dif_pos O] at this
    have hd:digits s=s.drop 1:=by simp [digits,hn]
    rw [hd] at this
    have h48:s.drop 1=[48]:=this.symm
    simp [hn,h48] at hc
   | false =>
    have hd:digits s=s:=by simp [digits,hn]
    have hv2:m7 s=(fW 0 s:Int):=by simp [m7,hn,hd]
    rw [hd] at hb
    refine ⟨?_,by rw [← hv]; exact hr.2⟩
    rw [← hv,hv2]
    unfold itoa
    rw [if_neg O]
    simpa using hb.1
  ·have:=congrArg Prod.snd h; simp at this
 ·have:=congrArg Prod.snd h; simp at this
end Go.Ab.R06
namespace Go.Ab.R06
open Go.Ab Go.Ab.RB Go.Lib
theorem qk (x:Int):IntKind.wrap .u8 x=x % 256:=by simp [IntKind.wrap,IntKind.bits,IntKind.signed]
theorem wrap32 (x:Int):IntKind.wrap .u32 x=x % 4294967296:=by simp [IntKind.wrap,IntKind.bits,IntKind.signed]
theorem shr6 (x:Int):cS .i32 x 6=x / 64:=by
 show x.fdiv (2 ^ 6)=x / 64
 rw [Int.fdiv_eq_ediv_of_nonneg _ (by decide)]; rfl
theorem Gb (x:Int):cS .i32 x 12=x / 4096:=by
 show x.fdiv (2 ^ 12)=x / 4096
 rw [Int.fdiv_eq_ediv_of_nonneg _ (by decide)]; rfl
theorem FQ (x:Int):cS .i32 x 18=x / 262144:=by
 show x.fdiv (2 ^ 18)=x / 262144
 rw [Int.fdiv_eq_ediv_of_nonneg _ (by decide)]; rfl
theorem t63:(List.range 256).all (λ n=>bG .u8 (n:Int) 63 == ((n % 64:Nat):Int))=true:=by kernel_rfl
theorem t128:(List.range 64).all (λ n=>iOr .u8 128 (n:Int) == ((128+n:Nat):Int))=true:=by kernel_rfl
theorem t192:(List.range 32).all (λ n=>iOr .u8 192 (n:Int) == ((192+n:Nat):Int))=true:=by kernel_rfl
theorem t224:(List.range 16).all (λ n=>iOr .u8 224 (n:Int) == ((224+n:Nat):Int))=true:=by kernel_rfl
theorem t240:(List.range 8).all (λ n=>iOr .u8 240 (n:Int) == ((240+n:Nat):Int))=true:=by kernel_rfl
theorem tab {f g:Nat→Int}{m:Nat}(h:(List.range m).all (λ n=>f n == g n)=true)(n:Nat)(hn:n < m):f n=g n:=eq_of_beq (List.all_eq_true.1 h n (List.mem_range.2 hn))
theorem BS (x:Int):bG .u8 (IntKind.wrap .u8 x) 63=x % 64:=by
 rw [qk]
 obtain ⟨n,hn⟩:∃ n:Nat,x % 256=n:=⟨(x % 256).toNat,by omega⟩
 rw [hn,tab t63 n O]; omega
theorem A9 {x:Int}(h0:0≤x)(h1:x < 64):iOr .u8 128 x=128+x:=by
 obtain ⟨n,rfl⟩:∃ n:Nat,x=n:=⟨x.toNat,by omega⟩
 rw [tab t128 n O]; omega
theorem F7 {x:Int}(h0:0≤x)(h1:x < 32):iOr .u8 192 x=192+x:=by
 obtain ⟨n,rfl⟩:∃ n:Nat,x=n:=⟨x.toNat,by omega⟩
 rw [tab t192 n O]; omega
theorem FP {x:Int}(h0:0≤x)(h1:x < 16):iOr .u8 224 x=224+x:=by
 obtain ⟨n,rfl⟩:∃ n:Nat,x=n:=⟨x.toNat,by omega⟩
 rw [tab t224 n O]; omega
theorem FT {x:Int}(h0:0≤x)(h1:x < 8):iOr .u8 240 x=240+x:=by
 obtain ⟨n,rfl⟩:∃ n:Nat,x=n:=⟨x.toNat,by omega⟩
 rw [tab t240 n O]; omega
def fY (r:Int):Prop:=(0≤r∧r < 55296)∨(57343 < r∧r≤1114111)
theorem xb (p:Bytes)(r:Int)(h:fY r)(hp:p.length≤100000000000):ea p r=some (p++encodeRune r):=by
 have h0:0≤r∧r≤1114111:=by unfold fY at h; omega
 have hw:IntKind.wrap .u32 r=r:=by rw [wrap32]; omega
 unfold ea
 rw [hw]
 by_cases h1:r≤127
 ·have hw8:IntKind.wrap .u8 r=r:=by rw [qk]; omega
  rw [if_pos h1,hw8,aT O,aT (by simp; omega)]
  simp only [encodeRune,encodeRuneZ,if_pos (show 0≤r∧r≤127 from ⟨h0.1,h1⟩),List.map_cons,List.map_nil,u8]
 rw [if_neg h1]
 unfold dm
 rw [hw,BS,shr6,Gb,FQ,BS,BS]
 have o1:iOr .u8 128 (r % 64)=128+r % 64:=A9 O O
 have o2:iOr .u8 128 (r / 64 % 64)=128+r / 64 % 64:=A9 O O
 have o3:iOr .u8 128 (r / 4096 % 64)=128+r / 4096 % 64:=A9 O O
 rw [o1,o2,o3]
 have n1:¬ (0≤r∧r≤127):=by omega
 by_cases h2:r≤2047
 ·have hw8:IntKind.wrap .u8 (r / 64)=r / 64:=by rw [qk]; omega
  rw [if_pos h2,hw8,F7 O O,aT O,aT O,aT O,aT (by simp; omega)]
  simp only [encodeRune,encodeRuneZ,if_neg n1,if_pos (show 128≤r∧r≤2047 by omega),List.map_cons,List.map_nil,u8,Option.bind_some]
 rw [if_neg h2]
 have n2:¬ (128≤r∧r≤2047):=by omega
 by_cases h3:r < 55296∨(57343 < r∧r≤65535)
 ·have hw8:IntKind.wrap .u8 (r / 4096)=r / 4096:=by rw [qk]; omega
  have e:((if r < 55296 then some true else if 57343 < r then some (decide (r≤65535)) else some false):Option Bool)=some true:=by
   rcases h3 with q | q
   ·rw [if_pos q]
   ·rw [if_neg O,if_pos q.1]; simp [q.2]
  rw [e,Option.bind_some,if_pos rfl,hw8,FP O O,aT O,aT O,aT O,aT O,aT O,aT (by simp; omega)]
  simp only [encodeRune,encodeRuneZ,if_neg n1,if_neg n2,if_pos (show (2048≤r∧r < 55296)∨(57343 < r∧r≤65535) by omega),List.map_cons,List.map_nil,u8,Option.bind_some]
 ·have h4:65535 < r:=by unfold fY at h; omega
  have hw8:IntKind.wrap .u8 (r / 262144)=r / 262144:=by rw [qk]; omega
  have e:((if r < 55296 then some true else if 57343 < r then some (decide (r≤65535)) else some false):Option Bool)=some false:=by
   rw [if_neg O,if_pos O]; simp; omega
  have e2:((if 65535 < r then some (decide (r≤1114111)) else some false):Option Bool)=some true:=by rw [if_pos h4]; simp; omega
  rw [e,Option.bind_some,if_neg G,e2,Option.bind_some,if_pos rfl,hw8,FT O O,aT O,aT O,aT O,aT O,aT O,aT O,aT O,aT (by simp; omega)]
  simp only [encodeRune,encodeRuneZ,if_neg n1,if_neg n2,if_neg (show ¬ ((2048≤r∧r < 55296)∨(57343 < r∧r≤65535)) by omega),if_pos (show 65536≤r∧r≤1114111 by omega),List.map_cons,List.map_nil,u8,Option.bind_some]
theorem jr (l:Bytes)(h:l≠[]):decodeGo (str l)=decodeL l:=by
 unfold decodeGo
 rw [if_neg]
 ·rfl
 ·rw [iC]; intro q; exact h (List.length_eq_zero_iff.1 q)
theorem mx (r:Int)(h:fY r):1≤(encodeRune r).length∧(encodeRune r).length≤4:=by
 unfold encodeRune encodeRuneZ
 rw [List.length_map]
 repeat' split
 all_goals simp
theorem zB (r:Int)(h:fY r)(t:Bytes):decodeL (encodeRune r++t)=(r.toNat,(encodeRune r).length):=by
 have h0:0≤r∧r≤1114111:=by unfold fY at h; omega
 have hb:∀ x:Int,0≤x→x < 256→(x.toNat.toUInt8).toNat=x.toNat:=λ x a b=>by
  show (UInt8.ofNat x.toNat).toNat=_
  rw [UInt8.toNat_ofNat']; omega
 rw [decodeL_N]
 by_cases h1:r≤127
 ·have e:encodeRune r=[r.toNat.toUInt8]:=by simp only [encodeRune,encodeRuneZ,if_pos (show 0≤r∧r≤127 from ⟨h0.1,h1⟩),List.map_cons,List.map_nil]
  rw [e]
  have b0:=hb r O O
  simp only [List.cons_append,List.getD_cons_zero,b0]
  unfold decodeN
  rw [if_pos O]; rfl
 have n1:¬ (0≤r∧r≤127):=by omega
 by_cases h2:r≤2047
 ·have e:encodeRune r=[(192+r / 64).toNat.toUInt8,(128+r % 64).toNat.toUInt8]:=by
   simp only [encodeRune,encodeRuneZ,if_neg n1,if_pos (show 128≤r∧r≤2047 by omega),List.map_cons,List.map_nil]
  rw [e]
  have b0:=hb (192+r / 64) O O
  have b1:=hb (128+r % 64) O O
  simp only [List.cons_append,List.getD_cons_zero,List.getD_cons_succ,b0,b1,List.length_cons,List.nil_append]
  unfold decodeN
  rw [if_neg O,if_pos O,if_pos O]
  refine Prod.ext ?_ Z
  show _=r.toNat
  simp only; omega
 have n2:¬ (128≤r∧r≤2047):=by omega
 by_cases h3:r < 55296∨(57343 < r∧r≤65535)
 ·have e:encodeRune r=[(224+r / 4096).toNat.toUInt8,(128+r / 64 % 64).toNat.toUInt8,(128+r % 64).toNat.toUInt8]:=by
   simp only [encodeRune,encodeRuneZ,if_neg n1,if_neg n2,if_pos (show (2048≤r∧r < 55296)∨(57343 < r∧r≤65535) by omega),List.map_cons,List.map_nil]
  rw [e]
  have b0:=hb (224+r / 4096) O O
  have b1:=hb (128+r / 64 % 64) O O
  have b2:=hb (128+r % 64) O O
  simp only [List.cons_append,List.getD_cons_zero,List.getD_cons_succ,b0,b1,b2,List.length_cons,List.nil_append]
  unfold decodeN
  rw [if_neg O,if_neg O,if_pos O,if_pos O]
  refine Prod.ext ?_ Z
  show _=r.toNat
  simp only; omega
 ·have h4:65535 < r:=by unfold fY at h; omega
  have e:encodeRune r=[(240+r / 262144).toNat.toUInt8,(128+r / 4096 % 64).toNat.toUInt8,(128+r / 64 % 64).toNat.toUInt8,(128+r % 64).toNat.toUInt8]:=by
   simp only [encodeRune,encodeRuneZ,if_neg n1,if_neg n2,if_neg (show ¬ ((2048≤r∧r < 55296)∨(57343 < r∧r≤65535)) by omega),if_pos (show 65536≤r∧r≤1114111 by omega),List.map_cons,List.map_nil]
  rw [e]
  have b0:=hb (240+r / 262144) O O
  have b1:=hb (128+r / 4096 % 64) O O
  have b2:=hb (128+r / 64 % 64) O O
  have b3:=hb (128+r % 64) O O
  simp only [List.cons_append,List.getD_cons_zero,List.getD_cons_succ,b0,b1,b2,b3,List.length_cons,List.nil_append]
  unfold decodeN
  rw [if_neg O,if_neg O,if_neg O,if_pos O,if_pos O]
  refine Prod.ext ?_ Z
  show _=r.toNat
  simp only; omega
theorem vo (r:Int)(h:fY r)(t:Bytes):validD (encodeRune r++t)=validD t:=by
 have hl:=mx r h
 have hne:encodeRune r++t≠[]:=by
  intro q; rw [List.append_eq_nil_iff] at q; rw [q.1] at hl; simp at hl
 rw [validD_step _ hne,zB r h t,if_neg]
 ·simp
 ·rintro ⟨a,b⟩
  have hr:r=65533:=by omega
  subst hr
  simp [encodeRune,encodeRuneZ] at b
theorem lD (l:Bytes)(h:l≠[]):1≤(decodeL l).2∧(decodeL l).2≤l.length∧(¬ ((decodeL l).1=65533∧(decodeL l).2=1)→fY ((decodeL l).1:Int)∧encodeRune ((decodeL l).1:Int)=l.take (decodeL l).2):=by
 have hl:0 < l.length:=List.length_pos_iff.2 h
 have hd:=El l.length (l.getD 0 0).toNat (l.getD 1 0).toNat (l.getD 2 0).toNat (l.getD 3 0).toNat O (UInt8.toNat_lt _)
 rw [← decodeL_N] at hd
 refine ⟨hd.1,hd.2.1,λ q=>⟨?_,encode_decode l h q⟩⟩
 have:=hd.2.2.2.2.2
 unfold fY; omega
theorem us (l:Bytes)(h:l≠[]):validD l=true↔¬ ((decodeL l).1=65533∧(decodeL l).2=1)∧validD (l.drop (decodeL l).2)=true:=by
 rw [validD_step l h]
 by_cases q:(decodeL l).1=65533∧(decodeL l).2=1
 ·simp [q]
 ·simp [q]
end Go.Ab.R06
namespace Go.Ab.R06
open Go.Ab Go.Ab.RB Go.Lib
theorem yS (f x:Bytes)(h:f.length+x.length≤100000000000):bh (aH.mk f) x=some ((x.length:Int),false,aH.mk (f++x)):=by
 unfold bh cr
 rw [Option.bind_some,aT (by simp only; omega)]
theorem xR (f:Bytes)(b:UInt8)(h:f.length≤100000000000):bQ (aH.mk f) (b.toNat:Int)=some (false,aH.mk (f++[b])):=by
 have:=b.toNat_lt
 unfold bQ cr
 rw [Option.bind_some,aT O,aT (by simp; omega),BE]
theorem Eu (f:Bytes)(r:Int)(hr:fY r)(h:f.length≤10000000000):dG (aH.mk f) r=some (((encodeRune r).length:Int),false,aH.mk (f++encodeRune r)):=by
 have hl:=mx r hr
 unfold dG cr
 rw [Option.bind_some,xb f r hr O,Option.bind_some]
 have e:((f++encodeRune r).length:Int) - (f.length:Int)=(encodeRune r).length:=by rw [List.length_append]; omega
 rw [e,aT (aS O O)]
theorem EI (f:Bytes)(h:f.length≤1000000000000):dF (aH.mk f)=some (f,aH.mk f):=by
 unfold dF
 rw [aT (by simp only; omega)]
def gj (b:UInt8):Bytes :=
 if b.toNat=10 then [92,110] else if b.toNat=13 then [92,114] else if b.toNat=9 then [92,116]
 else if b.toNat=34∨b.toNat=92 then [92,b] else if b.toNat < 32∨b.toNat=127 then [92,117,123]++dK b.toNat++[125] else [b]
def dZ (s:Bytes):Bytes:=34::(s.flatMap gj++[34])
theorem zF {b:UInt8}(h:b.toNat=10):gj b=[92,110]:=by unfold gj; rw [if_pos h]
theorem zh {b:UInt8}(h:b.toNat=13):gj b=[92,114]:=by unfold gj; rw [if_neg O,if_pos h]
theorem zc {b:UInt8}(h:b.toNat=9):gj b=[92,116]:=by unfold gj; rw [if_neg O,if_neg O,if_pos h]
theorem Be {b:UInt8}(h:b.toNat=34∨b.toNat=92):gj b=[92,b]:=by unfold gj; rw [if_neg O,if_neg O,if_neg O,if_pos h]
theorem zj {b:UInt8}(h1:b.toNat≠10)(h2:b.toNat≠13)(h3:b.toNat≠9)(h:b.toNat < 32∨b.toNat=127):gj b=[92,117,123]++dK b.toNat++[125]:=by
 unfold gj; rw [if_neg h1,if_neg h2,if_neg h3,if_neg O,if_pos h]
theorem xw {b:UInt8}(h1:b.toNat≠34)(h2:b.toNat≠92)(h:¬ (b.toNat < 32∨b.toNat=127)):gj b=[b]:=by
 unfold gj; rw [if_neg O,if_neg O,if_neg O,if_neg O,if_neg h]
theorem oo (n:Nat):1≤(dK n).length∧(dK n).length≤2:=by
 unfold dK; split <;> simp
theorem qv (b:UInt8):1≤(gj b).length∧(gj b).length≤6:=by
 have:=oo b.toNat
 unfold gj
 repeat' split
 all_goals (simp; try omega)
theorem uz (s:Bytes):s.length≤(s.flatMap gj).length∧(s.flatMap gj).length≤6*s.length:=by
 induction s with
 | nil=>simp
 | cons b r ih=>have:=qv b; simp only [List.flatMap_cons,List.length_append,List.length_cons]; omega
theorem A8 (s:Bytes)(hs:s.length≤1000000000):∀ (k i:Nat) (f:Bytes),i+k=s.length→f.length≤6*i+1→Ev2 (λ _ m=>cT s m (i:Int) f) (·=f++(s.drop i).flatMap gj):=by
 intro k
 induction k with
 | zero =>
  intro i f hi hf
  refine aF ?_
  simp only [cT]
  refine ap O (aa ?_)
  rw [List.drop_of_length_le O]; simp
 | succ k ih =>
  intro i f hi hf
  refine aF ?_
  simp only [cT]
  refine ao O (af O ?_)
  have hb:byt s i=((s.getD i 0).toNat:Int):=dh s i
  rw [hb]
  have hd:s.drop i=s.getD i 0::s.drop (i+1):=by
   rw [List.getD_eq_getElem?_getD,List.getElem?_eq_getElem O,Option.getD_some]
   exact List.drop_eq_getElem_cons O
  rw [hd,List.flatMap_cons]
  generalize s.getD i 0=b
  have hbl:=b.toNat_lt
  have he:=qv b
  refine au (f++gj b) ?_ ?_
  ·refine aB (λ h1=>?_) (λ h1=>aB (λ h2=>?_) (λ h2=>aB (λ h3=>?_) (λ h3=>?_)))
   ·rw [zF O]
    exact au _ (aU (yS f [92,110] (by simp only [List.length_cons,List.length_nil]; omega)) Z) (aa Z)
   ·rw [zh O]
    exact au _ (aU (yS f [92,114] (by simp only [List.length_cons,List.length_nil]; omega)) Z) (aa Z)
   ·rw [zc O]
    exact au _ (aU (yS f [92,116] (by simp only [List.length_cons,List.length_nil]; omega)) Z) (aa Z)
   refine au (decide (b.toNat=34∨b.toNat=92)) ?_ ?_
   ·by_cases h:b.toNat=34
    ·exact ao O (aa (by simp [h]))
    ·exact ap O (aa (eqB (by rw [decide_eq_true_eq,decide_eq_true_eq]; omega)))
   by_cases h4:b.toNat=34∨b.toNat=92
   ·rw [Be h4]
    refine ao (by simp [h4]) ?_
    refine au _ (aU (xR f 92 O) Z) (au _ (aU (xR (f++[92]) b (by simp only [List.length_append,List.length_cons,List.length_nil]; omega)) Z) (aa ?_))
    simp
   refine ap (by simp only [decide_eq_true_eq]; exact h4) ?_
   refine au (decide (b.toNat < 32∨b.toNat=127)) ?_ ?_
   ·by_cases h:b.toNat < 32
    ·exact ao O (aa (by simp [h]))
    ·exact ap O (aa (eqB (by rw [decide_eq_true_eq,decide_eq_true_eq]; omega)))
   by_cases h5:b.toNat < 32∨b.toNat=127
   ·rw [zj O O O h5]
    refine ao (by simp [h5]) (af (aS O O) ?_)
    have hx:iq (b.toNat:Int) 16=some (dK b.toNat):=by
     unfold iq
     rw [aT ⟨rfl,by omega,by omega⟩]; rfl
    have hxl:=oo b.toNat
    refine au _ (aU hx Z) (af (by simp only [List.length_cons,List.length_nil]; omega) (af (by simp only [List.length_append,List.length_cons,List.length_nil]; omega) ?_))
    exact au _ (aU (yS f _ (by simp only [List.length_append,List.length_cons,List.length_nil]; omega)) Z) (aa G)
   ·rw [xw O O  h5]
    refine ap (by simp only [decide_eq_true_eq]; exact h5) ?_
    exact au _ (aU (xR f b O) Z) (aa Z)
  ·refine af (aS O O) ?_
   have:=ih (i+1) (f++gj b) O (by rw [List.length_append]; omega)
   rw [Int.natCast_add,Int.natCast_one] at this
   simpa using this
theorem uf (s:Bytes)(hs:s.length≤1000000000):Ev2 (λ n _=>fu n s) (·=dZ s):=by
 simp only [fu]
 have hf:=uz s
 refine au _ (aU (xR [] 34 G) Z) ?_
 have l:=A8 s hs s.length 0 [34] O G
 rw [List.drop_zero] at l
 refine au _ (aY l) ?_
 refine au _ (aU (xR _ 34 (by simp only [List.length_append,List.length_cons,List.length_nil]; omega)) Z) (au _ (aU (EI _ (by simp only [List.length_append,List.length_cons,List.length_nil]; omega)) Z) (aa ?_))
 simp [dZ]
theorem Fy (s:Bytes):jQ s=some (decide (s.length≤4096)&&validD s):=by
 unfold jQ
 by_cases h:(s.length:Int)≤4096
 ·have hv:eO s=some (validD s):=by unfold eO; exact aT O
  rw [if_pos h,hv]
  simp; omega
 ·rw [if_neg h]
  simp; intro q; omega
end Go.Ab.R06
namespace Go.Ab.R06
open Go.Ab Go.Ab.RB Go.Lib
def rM (b:UInt8):Option Nat:=if 48≤b.toNat∧b.toNat≤57 then some (b.toNat - 48) else if 97≤b.toNat∧b.toNat≤102 then some (b.toNat - 87) else none
def D6:Bytes:=[48,49,50,51,52,53,54,55,56,57,97,98,99,100,101,102]
theorem hexT:(List.range 256).all (λ n=>indexByte D6 (UInt8.ofNat n) == (match rM (UInt8.ofNat n) with | some d=>(d:Int) | none=>-1))=true:=by kernel_rfl
theorem AJ (b:UInt8):indexByte D6 b=match rM b with | some d=>(d:Int) | none=>-1:=by
 have:=eq_of_beq (List.all_eq_true.1 hexT b.toNat (List.mem_range.2 b.toNat_lt))
 simpa using this
theorem zD {b:UInt8}{d:Nat}(h:rM b=some d):d < 16:=by
 unfold rM at h
 split at h
 ·cases h; omega
 ·split at h
  ·cases h; omega
  ·cases h
def dr:Nat→Bytes→Nat→Nat×Nat
 | 0,_,a=>(a,0)
 | _+1,[],a=>(a,0)
 | k+1,b::r,a=>match rM b with
  | some d=>((dr k r (16*a+d)).1,(dr k r (16*a+d)).2+1)
  | none=>(a,0)
theorem pz:∀ (k:Nat) (l:Bytes) (a:Nat),(dr k l a).2≤k∧(dr k l a).2≤l.length
 | 0,_,_=>⟨Nat.le_refl _,Nat.zero_le _⟩
 | _+1,[],_=>⟨Nat.zero_le _,Nat.le_refl _⟩
 | k+1,b::r,a=>by
  unfold dr
  cases rM b with
  | none=>exact ⟨Nat.zero_le _,Nat.zero_le _⟩
  | some d=>have:=pz k r (16*a+d); simp only [List.length_cons]; omega
theorem pu (n:Int)(h0:0≤n)(h1:n < 2147483648):IntKind.wrap .i32 n=n:=by
 simp [IntKind.wrap,IntKind.bits,IntKind.signed]
 omega
theorem Fs (s:Bytes)(hs:s.length≤1000000000):∀ (k i a:Nat),i+k=6→i≤s.length→a < 16 ^ i→Ev2 (λ _ m=>bS s m (a:Int) (i:Int))
  (·=(((dr k (s.drop i) a).1:Int),((i+(dr k (s.drop i) a).2:Nat):Int))):=by
 intro k
 induction k with
 | zero =>
  intro i a hi hl ha
  refine aF ?_
  simp only [bS]
  refine au false ?_ (ap G (aa (by simp [dr])))
  exact aB (λ h=>aa (by simp; omega)) (λ h=>aa Z)
 | succ k ih =>
  intro i a hi hl ha
  refine aF ?_
  simp only [bS]
  by_cases h:i < s.length
  ·refine au true (ao O (aa (by simp; omega))) (ao Z (af O ?_))
   have hb:byt s i=((s.getD i 0).toNat:Int):=dh s i
   rw [hb]
   have hd:s.drop i=s.getD i 0::s.drop (i+1):=by
    rw [List.getD_eq_getElem?_getD,List.getElem?_eq_getElem h,Option.getD_some]
    exact List.drop_eq_getElem_cons h
   rw [hd]
   generalize s.getD i 0=b
   have hx:strings_IndexByte ([48,49,50,51,52,53,54,55,56,57,97,98,99,100,101,102]:Bytes) (b.toNat:Int)=some (indexByte D6 b):=by
    unfold strings_IndexByte
    have:((b.toNat:Int).toNat.toUInt8)=b:=by simp
    rw [this]; rfl
   refine au _ (aU hx Z) ?_
   rw [AJ]
   unfold dr
   cases hh:rM b with
   | none=>exact ao (by decide) (aa G)
   | some d =>
    have hlt:=zD hh
    have hp:16 ^ i≤16 ^ 5:=Nat.pow_le_pow_right (by decide) O
    have hp5:(16:Nat) ^ 5=1048576:=rfl
    refine ap G (af (aS O O) ?_)
    have e1:IntKind.wrap .i32 (16*(a:Int))=16*(a:Int):=pu _ O O
    have e2:IntKind.wrap .i32 (d:Int)=(d:Int):=pu _ O O
    have e3:IntKind.wrap .i32 (16*(a:Int)+(d:Int))=((16*a+d:Nat):Int):=by
     rw [pu _ O O]; omega
    rw [e1,e2,e3]
    have:=ih (i+1) (16*a+d) O O  (by rw [Nat.pow_succ]; omega)
    rw [show (((i+1:Nat)):Int)=(i:Int)+1 by omega] at this
    refine ed this λ r hr=>?_
    rw [hr]
    refine Prod.ext Z ?_
    show ((i+1+_:Nat):Int)=((i+(_+1):Nat):Int)
    omega
  ·refine au false (ap O (aa Z)) (ap G (aa ?_))
   rw [List.drop_of_length_le O]
   simp [dr]
def jJ (s:Bytes):Int×Int×Int :=
 let h:=dr 6 s 0
 if h.2=s.length then (0,0,40)
 else if s.getD h.2 0≠125∨h.2=0∨(1 < h.2∧s.getD 0 0=48)∨validRune (h.1:Int)=false then (0,0,2)
 else ((h.1:Int),((h.2+1:Nat):Int),0)
theorem lS {b:UInt8}{n:Nat}(hn:n < 256):b.toNat=n↔b=UInt8.ofNat n:=by
 constructor
 ·intro h; apply UInt8.toNat_inj.1; rw [h,UInt8.toNat_ofNat']; omega
 ·intro h; rw [h,UInt8.toNat_ofNat']; omega
theorem tp {s:Bytes}{v c:Nat}(h:dr 6 s 0=(v,c)):jJ s=if c=s.length then (0,0,40) else if s.getD c 0≠125∨c=0∨(1 < c∧s.getD 0 0=48)∨validRune (v:Int)=false then (0,0,2) else ((v:Int),((c+1:Nat):Int),0):=by
 unfold jJ; rw [h]
theorem Eb (s:Bytes)(hs:s.length≤1000000000):Ev2 (λ n _=>cO n s) (·=jJ s):=by
 simp only [cO]
 have l:=Fs s hs 6 0 0 Z (Nat.zero_le _) (by decide)
 rw [List.drop_zero,Nat.zero_add] at l
 have hle:=pz 6 s 0
 refine au _ (aY l) ?_
 obtain ⟨v,c,hh⟩:∃ v c,dr 6 s 0=(v,c):=⟨_,_,rfl⟩
 have hP:=tp hh
 rw [hh] at hle ⊢
 simp only at hle ⊢
 refine aB (λ h=>aa ?_) (λ h=>?_)
 ·rw [hP,if_pos O]
 rw [if_neg (show ¬ c=s.length by omega)] at hP
 have hb:byt s c=((s.getD c 0).toNat:Int):=dh s c
 have hb0:byt s 0=((s.getD 0 0).toNat:Int):=dh s 0
 have h125:(s.getD c 0).toNat=125↔s.getD c 0=125:=lS (by decide)
 have h48:(s.getD 0 0).toNat=48↔s.getD 0 0=48:=lS (by decide)
 have hv:dD (v:Int)=some (validRune (v:Int)):=rfl
 have key:Ev2 (λ _ _=>(ck ((0:Int)≤(c:Int)∧(c:Int) < (s.length:Int)) <|
  if byt s c=125 then
   if (c:Int)=0 then some true
   else
   if 1 < (c:Int) then
    ck ((0:Int)≤0∧0 < (s.length:Int)) <|
    if byt s 0=48 then some true
    else (dD (v:Int)).bind λ r32=>some (!r32)
   else (dD (v:Int)).bind λ r34=>some (!r34)
  else some true:Option Bool)) (·=decide (s.getD c 0≠125∨c=0∨(1 < c∧s.getD 0 0=48)∨validRune (v:Int)=false)):=by
  refine af O ?_
  rw [hb,hb0]
  refine aB (λ h1=>aB (λ h2=>aa ?_) (λ h2=>aB (λ h3=>af O (aB (λ h4=>aa ?_) (λ h4=>?_))) (λ h3=>?_))) (λ h1=>aa ?_)
  ·symm; rw [decide_eq_true_eq]; right; left; omega
  ·symm; rw [decide_eq_true_eq]; right; right; left; exact ⟨by omega,h48.1 O⟩
  ·have q1:¬ s.getD c 0≠125:=λ q=>q (h125.1 O)
   have q2:¬ (1 < c∧s.getD 0 0=48):=λ q=>h4 (by have:=h48.2 q.2; omega)
   refine au _ (aU hv Z) (aa (eqB ?_))
   rw [decide_eq_true_eq]
   have:¬ c=0:=by omega
   simp only [q1,q2,false_or,this,Bool.not_eq_true']
  ·have q1:¬ s.getD c 0≠125:=λ q=>q (h125.1 O)
   refine au _ (aU hv Z) (aa (eqB ?_))
   rw [decide_eq_true_eq]
   have a1:¬ c=0:=by omega
   have a2:¬ 1 < c:=by omega
   simp only [q1,a1,a2,false_or,false_and,Bool.not_eq_true']
  ·symm; rw [decide_eq_true_eq]; left; intro q; exact h1 (by have:=h125.2 q; omega)
 refine au _ key ?_
 refine aB (λ h1=>aa ?_) (λ h1=>af (aS O O) (aa ?_))
 ·rw [hP,if_pos (of_decide_eq_true h1)]
 ·rw [hP,if_neg (λ q=>h1 (decide_eq_true q))]
  refine Prod.ext Z (Prod.ext ?_ Z)
  show (c:Int)+1=((c+1:Nat):Int)
  omega
def ke (s:Bytes):Int×Int×Int:=match s with
 | []=>(0,0,40)
 | b::r=>if b.toNat=110 then (10,1,0) else if b.toNat=114 then (13,1,0) else if b.toNat=116 then (9,1,0)
  else if b.toNat=34∨b.toNat=92 then ((b.toNat:Int),1,0)
  else if b.toNat=117 then (match r with
   | []=>(0,0,40)
   | c::t=>if c.toNat=123 then ((jJ t).1,(jJ t).2.1+2,(jJ t).2.2) else (0,0,2))
  else (0,0,2)
theorem py (b:UInt8)(r:Bytes):ke (b::r)=if b.toNat=110 then (10,1,0) else if b.toNat=114 then (13,1,0) else if b.toNat=116 then (9,1,0)
  else if b.toNat=34∨b.toNat=92 then ((b.toNat:Int),1,0)
  else if b.toNat=117 then (match r with
   | []=>(0,0,40)
   | c::t=>if c.toNat=123 then ((jJ t).1,(jJ t).2.1+2,(jJ t).2.2) else (0,0,2))
  else (0,0,2):=rfl
theorem ww (s:Bytes):0≤(jJ s).2.1∧(jJ s).2.1≤s.length∧((jJ s).2.2=0→fY (jJ s).1)∧0≤(jJ s).2.2:=by
 have hle:=pz 6 s 0
 unfold jJ
 generalize dr 6 s 0=h at hle ⊢
 obtain ⟨v,c⟩:=h
 simp only at hle ⊢
 split
 ·simp <;> omega
 ·split
  ·simp <;> omega
  ·rename_i h1 h2
   refine ⟨by simp only; omega,by simp only; omega,λ _=>?_,by simp⟩
   have:validRune (v:Int)=true:=by
    cases hv:validRune (v:Int) with
    | true=>rfl
    | false=>exact absurd (.inr (.inr (.inr hv))) h2
   simp only [validRune,decide_eq_true_eq] at this
   unfold fY; simp only; omega
theorem wH (s:Bytes):0≤(ke s).2.1∧(ke s).2.1≤s.length+1∧((ke s).2.2=0→fY (ke s).1∧(ke s).2.1≤s.length)∧0≤(ke s).2.2:=by
 unfold ke
 split
 ·simp
 ·rename_i b r
  have hb:=b.toNat_lt
  split
  ·simp [fY] <;> omega
  split
  ·simp [fY] <;> omega
  split
  ·simp [fY] <;> omega
  split
  ·simp [fY] <;> omega
  split
  ·split
   ·simp
   ·rename_i c t
    have:=ww t
    split
    ·refine ⟨by simp only; omega,by simp only [List.length_cons]; omega,λ q=>⟨this.2.2.1 q,by simp only [List.length_cons]; omega⟩,this.2.2.2⟩
    ·simp <;> omega
  ·simp <;> omega
theorem Dg (s:Bytes)(hs:s.length≤1000000000):Ev2 (λ n _=>fC n s) (·=ke s):=by
 simp only [fC]
 cases s with
 | nil=>exact ao Z (aa Z)
 | cons b r =>
  have hl:((b::r).length:Int)=(r.length:Int)+1:=by simp
  refine ap G (af O ?_)
  have hb:byt (b::r) 0=(b.toNat:Int):=rfl
  have hbl:=b.toNat_lt
  rw [hb]
  have hP:=py b r
  refine aB (λ h=>aa (by rw [hP,if_pos O])) (λ h1=>?_)
  rw [if_neg (show ¬ b.toNat=110 by omega)] at hP
  refine aB (λ h=>aa (by rw [hP,if_pos O])) (λ h2=>?_)
  rw [if_neg (show ¬ b.toNat=114 by omega)] at hP
  refine aB (λ h=>aa (by rw [hP,if_pos O])) (λ h3=>?_)
  rw [if_neg (show ¬ b.toNat=116 by omega)] at hP
  refine au (decide (b.toNat=34∨b.toNat=92)) ?_ ?_
  ·by_cases h:b.toNat=34
   ·exact ao O (aa (by simp [h]))
   ·exact ap O (aa (eqB (by rw [decide_eq_true_eq,decide_eq_true_eq]; omega)))
  by_cases h4:b.toNat=34∨b.toNat=92
  ·rw [if_pos h4] at hP
   rw [hP]
   refine ao (by simp [h4]) (af O (aa ?_))
   rw [pu _ O O]
  rw [if_neg h4] at hP
  refine ap (by simp only [decide_eq_true_eq]; exact h4) ?_
  refine aB (λ h5=>?_) (λ h5=>aa (by rw [hP,if_neg O]))
  rw [if_pos (show b.toNat=117 by omega)] at hP
  rw [hP]
  cases r with
  | nil=>exact ao G (aa Z)
  | cons c t =>
   have hl2:((b::c::t).length:Int)=(t.length:Int)+2:=by simp <;> omega
   refine ap O (af O ?_)
   have hc:byt (b::c::t) 1=(c.toNat:Int):=rfl
   rw [hc]
   refine aB (λ h6=>af O ?_) (λ h6=>aa (by show _=if c.toNat=123 then _ else _; rw [if_neg O]))
   have e6:(if c.toNat=123 then ((jJ t).1,(jJ t).2.1+2,(jJ t).2.2) else ((0,0,2):Int×Int×Int))=((jJ t).1,(jJ t).2.1+2,(jJ t).2.2):=if_pos O
   show Ev2 _ (·=if c.toNat=123 then ((jJ t).1,(jJ t).2.1+2,(jJ t).2.2) else ((0,0,2):Int×Int×Int))
   rw [e6,fK]
   show Ev2 (λ n m=>(cO n t).bind _) _
   have hle:=ww t
   have htl:t.length≤1000000000:=by simp at hs; omega
   exact au _ (Eb t htl) (af (aS O O) (aa Z))
end Go.Ab.R06
namespace Go.Ab.R06
open Go.Ab Go.Ab.RB Go.Lib
def qf (c:Nat×Nat):Prop:=(c.1=65533∧c.2=1)∨c.1 < 32∨c.1=127
instance (c:Nat×Nat):Decidable (qf c):=inferInstanceAs (Decidable (_∨_))
def ly:Nat→Bytes→Nat→Bytes→(Int×Bytes)⊕(Bytes×Int×Int)
 | 0,_,at',acc=>.inl ((at':Int),acc)
 | _+1,[],at',acc=>.inl ((at':Int),acc)
 | n+1,b::r,at',acc=>if b.toNat=34 then .inl ((at':Int),acc)
  else if (decodeL (b::r)).1=92 then
   (if (ke r).2.2=0 then ly n (r.drop (ke r).2.1.toNat) (at'+((ke r).2.1.toNat+1)) (acc++encodeRune (ke r).1) else .inr ([],0,(ke r).2.2))
  else if qf (decodeL (b::r)) then .inr ([],0,2)
  else ly n ((b::r).drop (decodeL (b::r)).2) (at'+(decodeL (b::r)).2) (acc++encodeRune ((decodeL (b::r)).1:Int))
theorem jD (n:Nat)(b:UInt8)(r:Bytes)(at':Nat)(acc:Bytes):ly (n+1) (b::r) at' acc=if b.toNat=34 then .inl ((at':Int),acc)
  else if (decodeL (b::r)).1=92 then
   (if (ke r).2.2=0 then ly n (r.drop (ke r).2.1.toNat) (at'+((ke r).2.1.toNat+1)) (acc++encodeRune (ke r).1) else .inr ([],0,(ke r).2.2))
  else if qf (decodeL (b::r)) then .inr ([],0,2)
  else ly n ((b::r).drop (decodeL (b::r)).2) (at'+(decodeL (b::r)).2) (acc++encodeRune ((decodeL (b::r)).1:Int)):=by rw [ly]
theorem Fi (s:Bytes)(hs:s.length≤1000000000):∀ (k:Nat) (l:Bytes) (i:Nat) (f:Bytes),l.length < k→s.drop i=l→i+l.length=s.length→f.length≤4*i→Ev2 (λ n m=>cJ n s m (i:Int) f) (·=ly k l i f):=by
 intro k
 induction k with
 | zero=>intro l i f h; omega
 | succ k ih =>
  intro l i f hk hl hi hf
  refine aF ?_
  simp only [cJ]
  cases l with
  | nil =>
   simp only [List.length_nil] at hi
   refine au false (ap O (aa Z)) (ap G (aa ?_))
   rw [ly]
  | cons b r =>
   have hil:i < s.length:=by simp only [List.length_cons] at hi; omega
   have hb:byt s i=(b.toNat:Int):=by
    rw [dh]
    have:s.getD i 0=b:=by
     have:=List.drop_eq_getElem_cons hil
     rw [hl] at this
     rw [List.getD_eq_getElem?_getD,List.getElem?_eq_getElem hil]
     exact (List.cons.inj this).1.symm
    rw [this]
   have hr:s.drop (i+1)=r:=by
    have:=List.drop_eq_getElem_cons hil
    rw [hl] at this
    exact (List.cons.inj this).2.symm
   have hlr:r.length+i+1=s.length:=by simp only [List.length_cons] at hi; omega
   have hU:=jD k b r i f
   rw [hb]
   by_cases h34:b.toNat=34
   ·rw [if_pos h34] at hU
    exact au false (ao O (af O (aa (by simp; omega)))) (ap G (aa hU.symm))
   rw [if_neg h34] at hU
   refine au true (ao O (af O (aa (by simp; omega)))) (ao Z (af O ?_))
   rw [fK,Int.toNat_natCast,hl]
   have hd:dp (b::r)=some (((decodeL (b::r)).1:Int),((decodeL (b::r)).2:Int)):=by
    unfold dp
    rw [jr _ G]
   refine au _ (aU hd Z) ?_
   have hdf:=lD (b::r) G
   generalize hD:decodeL (b::r)=D at hU hdf ⊢
   obtain ⟨c,w⟩:=D
   simp only at hU hdf ⊢
   by_cases h92:c=92
   ·rw [if_pos h92] at hU
    have hes:=wH r
    have hev:=Dg r O
    have sub1:sub s ((i:Int)+1) (s.length:Int)=r:=by
     rw [fK,show ((i:Int)+1).toNat=i+1 by omega,hr]
    generalize ke r=E at hU hes hev
    obtain ⟨x,y,z⟩:=E
    simp only at hU hes hev
    by_cases hz:z=0
    ·rw [if_pos hz] at hU
     refine oD (ao O (af (aS O O) (af O ?_)))
     rw [sub1]
     obtain ⟨e1,e2⟩:=hes.2.2.1 hz
     obtain ⟨y',rfl⟩:∃ y':Nat,y=y':=⟨y.toNat,by omega⟩
     rw [Int.toNat_natCast] at hU
     refine au _ hev (ao hz (af (aS (by dsimp only; omega) (by dsimp only; omega)) (aa ?_)))
     refine au _ (aU (Eu f x e1 O) Z) (af (aS (by dsimp only; omega) (by dsimp only; omega)) ?_)
     have hle:=mx x e1
     have:=ih (r.drop y') (i+(y'+1)) (f++encodeRune x) (by rw [List.length_drop]; simp only [List.length_cons] at hk; omega) (by rw [← hr,List.drop_drop]; congr 1; omega) (by rw [List.length_drop]; omega) (by rw [List.length_append]; omega)
     rw [← hU] at this
     rw [show ((i+(y'+1):Nat):Int)=(i:Int)+((y':Int)+1) by omega] at this
     exact this
    ·rw [if_neg hz] at hU
     refine oD (ao O (af (aS O O) (af O ?_)))
     rw [sub1]
     refine au _ hev (ap hz (aa ?_))
     exact hU.symm
   ·rw [if_neg h92] at hU
    have hbad:Ev2 (λ _ _=>(if (c:Int)=65533 then if (w:Int)=1 then some true else if (c:Int) < 32 then some true else some (decide ((c:Int)=127)) else if (c:Int) < 32 then some true else some (decide ((c:Int)=127)):Option Bool)) (·=decide (qf (c,w))):=by
     refine aB (λ h1=>aB (λ h2=>aa ?_) (λ h2=>aB (λ h3=>aa ?_) (λ h3=>aa (eqB ?_)))) (λ h1=>aB (λ h3=>aa ?_) (λ h3=>aa (eqB ?_)))
     ·symm; rw [decide_eq_true_eq]; left; simp only; omega
     ·symm; rw [decide_eq_true_eq]; right; left; simp only; omega
     ·rw [decide_eq_true_eq,decide_eq_true_eq]; unfold qf; simp only; omega
     ·symm; rw [decide_eq_true_eq]; right; left; simp only; omega
     ·rw [decide_eq_true_eq,decide_eq_true_eq]; unfold qf; simp only; omega
    by_cases hbd:qf (c,w)
    ·rw [if_pos hbd] at hU
     refine oD (ap O (au _ hbad (ao (by simp only [decide_eq_true_eq]; exact hbd) (aa ?_))))
     exact hU.symm
    ·rw [if_neg hbd] at hU
     refine oD (ap O (au _ hbad (ap (by simp only [decide_eq_true_eq]; exact hbd) (aa ?_))))
     have hgood:=hdf.2.2 (λ q=>hbd (.inl q))
     refine au _ (aU (Eu f c hgood.1 O) Z) (af (aS (by simp only [List.length_cons] at hdf; omega) (by simp only [List.length_cons] at hdf; omega)) ?_)
     have hle:=mx c hgood.1
     have hw:w≤r.length+1:=by simpa using hdf.2.1
     have hw1:=hdf.1
     have:=ih ((b::r).drop w) (i+w) (f++encodeRune (c:Int)) (by rw [List.length_drop]; simp only [List.length_cons] at hk ⊢; omega) (by rw [← hl,List.drop_drop]) (by rw [List.length_drop]; simp only [List.length_cons]; omega) (by rw [List.length_append]; omega)
     rw [← hU] at this
     rw [show ((i+w:Nat):Int)=(i:Int)+(w:Int) by omega] at this
     exact this
def kp:Bytes→Bytes×Int×Int
 | []=>([],0,40)
 | b::r=>if b.toNat=34 then (match ly (r.length+1) r 1 [] with
   | .inl q=>if q.1=((r.length+1:Nat):Int) then ([],0,40) else if 4096 < q.2.length then ([],0,3) else (q.2,q.1+1,0)
   | .inr e=>e)
  else ([],0,2)
theorem ni (b:UInt8)(r:Bytes):kp (b::r)=if b.toNat=34 then (match ly (r.length+1) r 1 [] with
   | .inl q=>if q.1=((r.length+1:Nat):Int) then ([],0,40) else if 4096 < q.2.length then ([],0,3) else (q.2,q.1+1,0)
   | .inr e=>e)
  else ([],0,2):=rfl
theorem wF:∀ (k:Nat) (l:Bytes) (i:Nat) (f:Bytes),(∀ a g,ly k l i f=.inl (a,g)→(i:Int)≤a∧a≤((i+l.length:Nat):Int)∧g.length≤f.length+4*l.length∧((∀ t,validD (f++t)=validD t)→∀ t,validD (g++t)=validD t))∧(∀ x,ly k l i f=.inr x→x.1=[]∧x.2.1=0∧x.2.2≠0):=by
 intro k
 induction k with
 | zero =>
  intro l i f
  refine ⟨λ a g h=>?_,λ x h=>(by rw [ly] at h; cases h)⟩
  rw [ly] at h; cases h
  exact ⟨by omega,by omega,by omega,λ q=>q⟩
 | succ k ih =>
  intro l i f
  cases l with
  | nil =>
   refine ⟨λ a g h=>?_,λ x h=>(by rw [ly] at h; cases h)⟩
   rw [ly] at h; cases h
   exact ⟨by omega,by simp,by simp,λ q=>q⟩
  | cons b r =>
   rw [jD]
   have hdf:=lD (b::r) G
   have hes:=wH r
   split
   ·refine ⟨λ a g h=>?_,λ x h=>(by cases h)⟩
    cases h
    exact ⟨by omega,by simp only [List.length_cons]; omega,by omega,λ q=>q⟩
   split
   ·split
    ·rename_i hz
     obtain ⟨e1,e2⟩:=hes.2.2.1 hz
     have hle:=mx _ e1
     have hi:=ih (r.drop (ke r).2.1.toNat) (i+((ke r).2.1.toNat+1)) (f++encodeRune (ke r).1)
     refine ⟨λ a g h=>?_,hi.2⟩
     have:=hi.1 a g h
     rw [List.length_drop,List.length_append] at this
     refine ⟨by omega,by simp only [List.length_cons]; omega,by simp only [List.length_cons]; omega,λ q=>this.2.2.2 λ t=>?_⟩
     rw [List.append_assoc,q,vo _ e1]
    ·rename_i hz
     refine ⟨λ a g h=>(by cases h),λ x h=>?_⟩
     cases h
     exact ⟨Z,Z,hz⟩
   split
   ·refine ⟨λ a g h=>(by cases h),λ x h=>?_⟩
    cases h
    exact ⟨Z,Z,by decide⟩
   ·rename_i hbd
    have hgood:=hdf.2.2 (λ q=>hbd (.inl q))
    have hle:=mx _ hgood.1
    have hi:=ih ((b::r).drop (decodeL (b::r)).2) (i+(decodeL (b::r)).2) (f++encodeRune ((decodeL (b::r)).1:Int))
    refine ⟨λ a g h=>?_,hi.2⟩
    have:=hi.1 a g h
    rw [List.length_drop,List.length_append] at this
    simp only [List.length_cons] at this hdf ⊢
    refine ⟨by omega,by omega,by omega,λ q=>this.2.2.2 λ t=>?_⟩
    rw [List.append_assoc,q,vo _ hgood.1]
theorem EC (s:Bytes)(hs:s.length≤1000000000):Ev2 (λ n _=>eQ n s) (·=kp s):=by
 simp only [eQ]
 cases s with
 | nil=>exact ao Z (aa Z)
 | cons b r =>
  have hl:((b::r).length:Int)=(r.length:Int)+1:=by simp
  have hln:(b::r).length=r.length+1:=by simp
  refine ap G (af O ?_)
  have hb:byt (b::r) 0=(b.toNat:Int):=rfl
  rw [hb]
  rw [ni]
  refine aB (λ h=>?_) (λ h=>aa (by rw [if_neg (show ¬ b.toNat=34 by omega)]))
  have l:=Fi (b::r) hs (r.length+1) r 1 [] O rfl O G
  have hle:=wF (r.length+1) r 1 []
  have e34:b.toNat=34:=by omega
  simp only [e34,if_true]
  generalize ly (r.length+1) r 1 []=U at l hle ⊢
  cases U with
  | inr e=>exact gw e (aY l) Z
  | inl q =>
   obtain ⟨a,g⟩:=q
   have hq:=hle.1 a g Z
   simp only [List.length_nil,Nat.zero_add] at hq
   refine gH (a,g) (aY l) ?_
   refine aB (λ h=>aa (by simp only at h ⊢; rw [if_pos O])) (λ h=>?_)
   simp only at h ⊢
   rw [if_neg O]
   refine au _ (aU Z Z) (aB (λ h1=>aa (by simp only at h1; rw [if_pos O])) (λ h1=>?_))
   simp only at h1
   rw [if_neg O]
   refine au _ (aU (EI g O) Z) (af (aS O O) (aa Z))
theorem wo {s x:Bytes}{n:Int}(h:kp s=(x,n,0)):x.length≤4096∧validD x=true∧2≤n∧n≤s.length:=by
 cases s with
 | nil=>cases h
 | cons b r =>
  rw [ni] at h
  split at h
  ·have hle:=wF (r.length+1) r 1 []
   split at h
   ·rename_i q hq
    obtain ⟨a,g⟩:=q
    have hg:=hle.1 a g hq
    simp only at h
    split at h
    ·cases h
    ·split at h
     ·cases h
     ·rename_i h1 h2
      cases h
      simp only [List.length_cons]
      refine ⟨by omega,?_,by omega,by omega⟩
      have:=hg.2.2.2 (λ t=>by simp) []
      simpa [validD_nil] using this
   ·rename_i e he
    subst h
    exact absurd Z (hle.2 _ he).2.2
  ·cases h
theorem zq (s:Bytes):0≤(kp s).2.1∧(kp s).2.1≤s.length∧((kp s).2.2≠0→(kp s).1=[]∧(kp s).2.1=0)∧(kp s).1.length≤4096:=by
 cases s with
 | nil=>exact ⟨Int.le_refl _,Int.le_refl _,λ _=>⟨Z,Z⟩,Nat.zero_le _⟩
 | cons b r =>
  rw [ni]
  split
  ·have hle:=wF (r.length+1) r 1 []
   split
   ·rename_i q hq
    obtain ⟨a,g⟩:=q
    have hg:=hle.1 a g hq
    simp only
    split
    ·simp; omega
    ·split
     ·simp; omega
     ·rename_i h1 h2
      simp only [List.length_cons] at *
      exact ⟨by omega,by omega,λ q=>absurd Z q,by omega⟩
   ·rename_i e he
    have:=hle.2 _ he
    rw [this.1,this.2.1]
    simp; omega
  ·simp; omega
theorem tI:∀ n:Fin 16,rM (hexDigit n.1)=some n.1∧((hexDigit n.1)=48→n.1=0):=by decide
theorem tZ {n:Nat}(h:n < 16):rM (hexDigit n)=some n:=(tI ⟨n,h⟩).1
theorem CZ (u:Nat)(h:u < 256)(t:Bytes):jJ (dK u++125::t)=((u:Int),(((dK u).length+1:Nat):Int),0):=by
 have hv:validRune (u:Int)=true:=by simp only [validRune,decide_eq_true_eq]; omega
 have h125:rM 125=none:=by decide
 by_cases h1:u < 16
 ·have e:dK u=[hexDigit u]:=if_pos h1
  have hr:dr 6 (dK u++125::t) 0=(u,1):=by
   rw [e]
   show dr (5+1) (hexDigit u::125::t) 0=_
   rw [dr,tZ h1]
   show ((dr (4+1) (125::t) (16*0+u)).1,(dr (4+1) (125::t) (16*0+u)).2+1)=_
   rw [dr,h125]; simp
  rw [tp hr,e,if_neg G,if_neg]
  ·simp
  ·rintro (q | q | q | q)
   ·exact q Z
   ·cases q
   ·omega
   ·rw [hv] at q; cases q
 ·have e:dK u=[hexDigit (u / 16),hexDigit (u % 16)]:=if_neg h1
  have hr:dr 6 (dK u++125::t) 0=(u,2):=by
   rw [e]
   show dr (5+1) (hexDigit (u / 16)::hexDigit (u % 16)::125::t) 0=_
   rw [dr,tZ O]
   show ((dr (4+1) (hexDigit (u % 16)::125::t) (16*0+u / 16)).1,(dr (4+1) (hexDigit (u % 16)::125::t) (16*0+u / 16)).2+1)=_
   rw [dr,tZ O]
   show ((dr (3+1) (125::t) (16*(16*0+u / 16)+u % 16)).1,(dr (3+1) (125::t) (16*(16*0+u / 16)+u % 16)).2+1+1)=_
   rw [dr,h125]
   refine Prod.ext ?_ Z
   show 16*(16*0+u / 16)+u % 16=u
   omega
  rw [tp hr,e,if_neg G,if_neg]
  ·simp
  ·rintro (q | q | q | q)
   ·exact q Z
   ·cases q
   ·have:=(tI ⟨u / 16,by omega⟩).2 q.2
    simp only at this; omega
   ·rw [hv] at q; cases q
theorem rR (b:UInt8)(h:b.toNat < 128):encodeRune (b.toNat:Int)=[b]:=by
 simp only [encodeRune,encodeRuneZ,if_pos (show (0:Int)≤(b.toNat:Int)∧(b.toNat:Int)≤127 by omega),List.map_cons,List.map_nil]
 simp
theorem Bf (b:UInt8)(h:b.toNat < 128)(c:UInt8)(rest:Bytes)(he:gj b=92::c::rest)(t:Bytes):ke (c::rest++t)=((b.toNat:Int),((rest.length+1:Nat):Int),0):=by
 have hl:∀ x y:UInt8,([x,y]:Bytes)=92::c::rest→c=y∧rest=[]:=λ x y q=>by
  have:=(List.cons.inj q).2
  exact ⟨((List.cons.inj this).1).symm,((List.cons.inj this).2).symm⟩
 by_cases h10:b.toNat=10
 ·rw [zF h10] at he
  obtain ⟨rfl,rfl⟩:=hl _ _ he
  rw [h10]; rfl
 by_cases h13:b.toNat=13
 ·rw [zh h13] at he
  obtain ⟨rfl,rfl⟩:=hl _ _ he
  rw [h13]; rfl
 by_cases h9:b.toNat=9
 ·rw [zc h9] at he
  obtain ⟨rfl,rfl⟩:=hl _ _ he
  rw [h9]; rfl
 by_cases hq:b.toNat=34∨b.toNat=92
 ·rw [Be hq] at he
  obtain ⟨rfl,rfl⟩:=hl _ _ he
  rw [List.cons_append,py,if_neg O,if_neg O,if_neg O,if_pos hq]
  rfl
 by_cases hu:b.toNat < 32∨b.toNat=127
 ·rw [zj h10 h13 h9 hu] at he
  have he:(92:UInt8)::117::(123::(dK b.toNat++[125]))=92::c::rest:=he
  obtain ⟨hc,hr⟩:=List.cons.inj (List.cons.inj he).2
  subst hc
  subst hr
  have hh:=CZ b.toNat O t
  have e2:(123::(dK b.toNat++[125]):Bytes)++t=123::(dK b.toNat++125::t):=by simp
  rw [List.cons_append,e2,py,if_neg (by decide),if_neg (by decide),if_neg (by decide),if_neg (by decide),if_pos (by decide)]
  show (if (123:UInt8).toNat=123 then _ else _)=_
  rw [if_pos (by decide),hh]
  refine Prod.ext Z (Prod.ext ?_ Z)
  simp only [List.length_cons,List.length_append,List.length_nil]
  omega
 ·rw [xw O O  hu] at he
  cases he
theorem vC:∀ p:Bytes,(∀ y∈p,128≤y.toNat)→p.flatMap gj=p
 | [],_=>rfl
 | y::r,h=>by
  have hy:=h y List.mem_cons_self
  rw [List.flatMap_cons,vC r (λ z hz=>h z (List.mem_cons_of_mem _ hz)),xw O O O]
  rfl
theorem ya:∀ (n:Nat) (x:Bytes) (k i:Nat) (acc t:Bytes),x.length≤n→validD x=true→(x.flatMap gj++34::t).length < k →
  ly k (x.flatMap gj++34::t) i acc=.inl (((i+(x.flatMap gj).length:Nat):Int),acc++x):=by
 intro n
 induction n with
 | zero =>
  intro x k i acc t hx hv hk
  obtain rfl:x=[]:=by cases x <;> simp_all
  obtain ⟨k,rfl⟩:∃ k',k=k'+1:=⟨k - 1,by omega⟩
  show ly (k+1) (34::t) i acc=_
  rw [jD,if_pos (by decide)]
  simp
 | succ n ih =>
  intro x k i acc t hx hv hk
  obtain ⟨k,rfl⟩:∃ k',k=k'+1:=⟨k - 1,by omega⟩
  cases x with
  | nil =>
   show ly (k+1) (34::t) i acc=_
   rw [jD,if_pos (by decide)]
   simp
  | cons b r =>
   by_cases hb:b.toNat < 128
   ·have hvr:validD r=true:=by rw [← validD_cons b r hb]; exact hv
    rw [List.flatMap_cons] at hk ⊢
    have hlen:=qv b
    have hxr:r.length≤n:=by simpa using hx
    by_cases hp:b.toNat≠34∧b.toNat≠92∧¬ (b.toNat < 32∨b.toNat=127)
    ·rw [xw hp.1 hp.2.1 hp.2.2] at hk ⊢
     show ly (k+1) (b::(r.flatMap gj++34::t)) i acc=_
     rw [jD,if_neg hp.1,decodeL_ascii b _ hb,if_neg (by simp only; omega),if_neg]
     ·have:=ih r k (i+1) (acc++[b]) t hxr hvr (by simp only [List.length_append,List.length_cons,List.length_nil] at hk ⊢; omega)
      simp only [List.drop_succ_cons,List.drop_zero]
      rw [rR b hb,this]
      refine congrArg Sum.inl (Prod.ext ?_ ?_)
      ·simp only [List.length_append,List.length_cons,List.length_nil]; omega
      ·simp
     ·unfold qf; simp only; omega
    ·obtain ⟨c,rest,he⟩:∃ c rest,gj b=92::c::rest:=by
      by_cases h10:b.toNat=10
      ·exact ⟨_,_,zF h10⟩
      by_cases h13:b.toNat=13
      ·exact ⟨_,_,zh h13⟩
      by_cases h9:b.toNat=9
      ·exact ⟨_,_,zc h9⟩
      by_cases hq:b.toNat=34∨b.toNat=92
      ·exact ⟨_,_,Be hq⟩
      ·exact ⟨_,_,zj h10 h13 h9 O⟩
     have hesc:=Bf b hb c rest he (r.flatMap gj++34::t)
     rw [he] at hk ⊢
     have e:(92::c::rest++r.flatMap gj)++34::t=92::(c::rest++(r.flatMap gj++34::t)):=by simp
     rw [e,jD,if_neg (by decide),decodeL_ascii 92 _ (by decide),if_pos (by decide),hesc]
     simp only [if_true,Int.toNat_natCast]
     have hd:(c::rest++(r.flatMap gj++34::t)).drop (rest.length+1)=r.flatMap gj++34::t:=by
      have:rest.length+1=(c::rest).length:=by simp
      rw [this,List.drop_left]
     rw [hd,rR b hb]
     have:=ih r k (i+(rest.length+1+1)) (acc++[b]) t hxr hvr (by simp only [List.length_append,List.length_cons,List.length_nil] at hk ⊢; omega)
     rw [this]
     refine congrArg Sum.inl (Prod.ext ?_ ?_)
     ·simp only [List.length_append,List.length_cons,List.length_nil]; omega
     ·simp
   ·have hne:b::r≠[]:=by simp
    obtain ⟨hnb,hvr⟩:=(us _ hne).1 hv
    have hdf:=lD _ hne
    have hgood:=hdf.2.2 hnb
    have hN:=El (b::r).length ((b::r).getD 0 0).toNat ((b::r).getD 1 0).toNat ((b::r).getD 2 0).toNat ((b::r).getD 3 0).toNat G (UInt8.toNat_lt _)
    rw [← decodeL_N] at hN
    generalize hD:decodeL (b::r)=D at hnb hvr hdf hgood hN
    obtain ⟨c,w⟩:=D
    simp only at hnb hvr hdf hgood hN
    have hc:128≤c:=by
     rcases Nat.lt_or_ge c 128 with q | q
     ·have:=(hN.2.2.2.1 q).2
      have hb0:((b::r).getD 0 0).toNat=b.toNat:=rfl
      omega
     ·exact q
    have hhigh:=hN.2.2.2.2.1 hc
    have hp:∀ y∈(b::r).take w,128≤y.toNat:=by
     intro y hy
     obtain ⟨j,hj,rfl⟩:=List.getElem_of_mem hy
     rw [List.length_take] at hj
     have hj2:j < (b::r).length:=by omega
     have hg:((b::r).getD j 0)=((b::r).take w)[j]'(by rw [List.length_take]; exact hj):=by
      rw [List.getElem_take,List.getD_eq_getElem?_getD,List.getElem?_eq_getElem hj2]; rfl
     rw [← hg]
     obtain rfl | rfl | rfl | rfl:j=0∨j=1∨j=2∨j=3:=by omega
     ·exact hhigh.1
     ·exact hhigh.2.1 O
     ·exact hhigh.2.2.1 O
     ·exact hhigh.2.2.2 O
    have hsplit:(b::r).flatMap gj=encodeRune (c:Int)++((b::r).drop w).flatMap gj:=by
     conv=>lhs; rw [← List.take_append_drop w (b::r)]
     rw [List.flatMap_append,vC _ hp,hgood.2]
    have hel:(encodeRune (c:Int)).length=w:=by
     rw [hgood.2,List.length_take]; omega
    obtain ⟨y,p',hp'⟩:∃ y p',encodeRune (c:Int)=y::p':=by
     cases hx:encodeRune (c:Int) with
     | nil=>rw [hx] at hel; simp at hel; omega
     | cons y p'=>exact ⟨y,p',Z⟩
    have hy:128≤y.toNat:=hp y (by rw [← hgood.2,hp']; exact List.mem_cons_self)
    have hdec:=zB (c:Int) hgood.1 (((b::r).drop w).flatMap gj++34::t)
    rw [hsplit,List.append_assoc] at hk ⊢
    have hlk:(encodeRune (c:Int)++(((b::r).drop w).flatMap gj++34::t)).drop w=((b::r).drop w).flatMap gj++34::t:=by
     rw [← hel,List.drop_left]
    have:=ih ((b::r).drop w) k (i+w) (acc++encodeRune (c:Int)) t (by rw [List.length_drop]; simp only [List.length_cons] at hx ⊢; omega) hvr (by rw [List.length_append] at hk; omega)
    rw [hp',List.cons_append] at hdec hlk ⊢
    rw [jD,if_neg O,hdec]
    simp only [Int.toNat_natCast]
    rw [if_neg O,if_neg]
    ·rw [← hp',hel,hlk,this]
     refine congrArg Sum.inl (Prod.ext ?_ ?_)
     ·rw [hp'] at hel
      simp only [List.length_append,hel,hp']; omega
     ·rw [List.append_assoc,hgood.2,List.take_append_drop]
    ·rw [← hp',hel]
     unfold qf; simp only; omega
theorem uL (x t:Bytes)(hv:validD x=true)(hl:x.length≤4096):kp (dZ x++t)=(x,((dZ x).length:Int),0):=by
 have e:dZ x++t=34::(x.flatMap gj++34::t):=by simp [dZ]
 rw [e,ni,if_pos (by decide),ya x.length x _ 1 [] t (Nat.le_refl _) hv O]
 simp only
 rw [if_neg (by simp only [List.length_append,List.length_cons]; omega),if_neg (by simp only [List.nil_append]; omega)]
 refine Prod.ext G (Prod.ext ?_ Z)
 simp only [dZ,List.length_cons,List.length_append,List.length_nil]; omega
theorem En:∀ (k u:Nat),u < 10 ^ (k+1)→(decDigits u).length≤k+1:=by
 intro k
 induction k with
 | zero=>intro u h; rw [decDigits,dif_pos (by simpa using h)]; simp
 | succ k ih =>
  intro u h
  rw [decDigits]
  split
  ·simp
  ·have:=ih (u / 10) (by rw [Nat.pow_succ] at h; omega)
   rw [List.length_append]; simp; omega
theorem qx {v:Int}(h0:0≤v)(h1:v≤jh):(itoa v).length≤16:=by
 obtain ⟨u,rfl⟩:∃ u:Nat,v=u:=⟨v.toNat,by omega⟩
 unfold itoa
 rw [if_neg O,Int.toNat_natCast]
 exact En 15 u (by unfold jh at h1; omega)
end Go.Ab.R06
end
section
namespace Go.Ab.R06
open Go.Proofs Go.Ab Go.Ab.RB
attribute [local irreducible] awp eC aW aA bN AV.sub M dY
def ew (s_0:Bytes):Nat→Int→Option (Unit⊕Bool)
 | 0,_=>none
 | m+1,i9 =>
 if i9 < (s_0.length:Int) then
  (
    ck ((0:Int)≤i9∧i9 < (s_0.length:Int)) <|
    if byt s_0 i9 < 48 then
     some true
    else
     ck ((0:Int)≤i9∧i9 < (s_0.length:Int)) <|
     some (decide (57 < byt s_0 i9))
   : Option Bool).bind λ t14 =>
  if t14=true then
   some (.inr false)
  else
   ck (inR (i9+1)) <|
   ew s_0 m (i9+1)
 else
  some (.inl ())
def jU (n:Nat)(s_0:Bytes):Option Bool :=
 jn (ew s_0 n 0) λ q22 =>
 (
   if s_0=([48]:Bytes) then
    some true
   else
    if s_0=([]:Bytes) then
     some false
    else
     ck ((0:Int)≤0∧0 < (s_0.length:Int)) <|
     some (!decide (byt s_0 0=48))
  : Option Bool).bind λ t21 =>
 some t21
theorem sY (n:Nat)(s_0:Bytes)(r:Bool)(h0:jU n s_0=some r):aA Tryz.prog 147 [eS s_0] (·=.p (eB r)):=by
 unfold jU at h0
 refine ba good Tryz.func147 Z Z Z λ w0=>mP (λ v:Bool=>.p (eB v)) ?_
 refine nx 10 Z ?_
 obtain ⟨o25,h1,hL0,hR0⟩:=fx h0
 refine kEx 0 (λ v26:Unit=>o25=.inl v26) (λ v26=>⟨[(0,.p (eS s_0))],[]⟩) (λ v26 hv=>?_) ?_
 ·have h0:=hL0 _ hv
  refine nx 2 Z (bd h0 λ o27 h1 h0=>?_)
  refine kN o27 (λ v28=>⟨[(2,.p (eB v28))],[]⟩) ?_ ?_
  ·exact nx 2 Z (mQ (oi h0) Z (sr))
  refine nx 2 Z (oS Z Z (nx 1 Z (fD [21,22] h1 Z (λ c18 h1=>?_) λ c18 h1=>?_)))
  ·exact nx 10 Z (eX _ (oi h1).symm (gE Z Z))
  refine nx 1 Z (oS Z Z (nx 1 Z (fN [24,25] h1 Z (λ c19 h1=>?_) λ c19 h1=>?_)))
  ·exact nx 7 Z (eX _ (oi h1).symm (gE Z Z))
  exact nx 1 Z (oI h1 Z λ hk20 h1=>nx 5 Z (eX _ (oi h1).symm (gE Z Z)))
 refine lG (λ (q29:Int)=>⟨[(0,.p (eS s_0)),(3,.p (eI q29))],[]⟩) (λ m (q29:Int)=>ew s_0 m q29) Y 0 h1 (gE Z Z) ?_
 rintro m i9 h1
 replace h1:ew s_0 (m+1) i9=some o25:=h1
 rw [ew] at h1
 refine nx 5 Z (oLs Z (nx 2 Z (fD [7] h1 Z (λ c10 h1=>?_) λ c10 h1=>?_)))
 ·refine nx 5 Z (bd h1 λ o30 h2 h1=>?_)
  refine kN o30 (λ v31=>⟨[(0,.p (eS s_0)),(3,.p (eI i9)),(19,.p (eB v31))],[]⟩) ?_ ?_
  ·refine nx 1 Z (fB [19] h1 Z (λ c15 h1=>?_) λ c15 h1=>?_)
   ·exact nx 6 Z (mQ (hR0 _ (oi h1).symm) Z (sr))
   exact nx 4 Z (oA h1 Z Z λ hk16 h1=>nx 2 Z (eX (i9+1) h1 (gE Z Z)))
  refine nx 3 Z (oI h2 Z λ hk11 h2=>nx 2 Z (fD [13,14] h2 Z (λ c12 h2=>?_) λ c12 h2=>?_))
  ·exact nx 6 Z (eX _ (oi h2).symm (gE Z Z))
  exact nx 2 Z (oI h2 Z λ hk13 h2=>nx 3 Z (eX _ (oi h2).symm (gE Z Z)))
 exact nx 2 Z (eXi _ (oi h1).symm (gE Z Z))
def mr (n_0:Int):Option Bool :=
 (
   if (-9007199254740992)≤n_0 then
    some (decide (n_0≤9007199254740992))
   else
    some false
  : Option Bool).bind λ t2 =>
 some t2
theorem uV (n_0:Int)(r:Bool)(h0:mr n_0=some r):aA Tryz.prog 148 [eI n_0] (·=.p (eB r)):=by
 unfold mr at h0
 refine ba good Tryz.func148 Z Z Z λ w0=>mP (λ v:Bool=>.p (eB v)) ?_
 refine nx 5 Z (bd h0 λ o4 h1 h0=>?_)
 refine kN o4 (λ v5=>⟨[(2,.p (eB v5))],[]⟩) ?_ ?_
 ·exact nx 2 Z (mQ (oi h0) Z (sr))
 refine nx 4 Z (fD [4,5] h1 Z (λ c1 h1=>?_) λ c1 h1=>?_)
 ·exact nx 5 Z (eX _ (oi h1).symm (gE Z Z))
 exact nx 5 Z (eX _ (oi h1).symm (gE Z Z))
def eT (t6:Bytes):Nat→Int→Int→Option Int
 | 0,_,_=>none
 | m+1,n22,i23 =>
 if i23 < (t6.length:Int) then
  ck (inR (10*n22)) <|
  ck ((0:Int)≤i23∧i23 < (t6.length:Int)) <|
  ck (inR (IntKind.wrap .u8 ((byt t6 i23) - 48))) <|
  ck (inR ((10*n22)+(IntKind.wrap .u8 ((byt t6 i23) - 48)))) <|
  ck (inR (i23+1)) <|
  eT t6 m ((10*n22)+(IntKind.wrap .u8 ((byt t6 i23) - 48))) (i23+1)
 else
  some n22
def kY (n:Nat)(s_0:Bytes):Option (Int×Int) :=
 (
   if 0 < (s_0.length:Int) then
    ck ((0:Int)≤0∧0 < (s_0.length:Int)) <|
    some (decide (byt s_0 0=45))
   else
    some false
  : Option Bool).bind λ minus3 =>
 (
   if minus3=true then
    ck ((0:Int)≤1∧1≤(s_0.length:Int)∧(s_0.length:Int)≤(s_0.length:Int)) <|
    some (sub s_0 1 (s_0.length:Int))
   else
    some s_0
  : Option Bytes).bind λ t6 =>
 (
   (jU n t6).bind λ r7 =>
   if (!r7)=true then
    some true
   else
    if minus3=true then
     some (decide (t6=([48]:Bytes)))
    else
     some false
  : Option Bool).bind λ t11 =>
 if t11=true then
  some (0,2)
 else
  if 16 < (t6.length:Int) then
   some (0,5)
  else
   (eT t6 n 0 0).bind λ n32 =>
   (
     if minus3=true then
      ck (inR (0 - n32)) <|
      some (0 - n32)
     else
      some n32
    : Option Int).bind λ n35 =>
   (mr n35).bind λ r36 =>
   if (!r36)=true then
    some (0,5)
   else
    some (n35,0)
theorem uZ (n:Nat)(s_0:Bytes)(r:Int×Int)(h0:kY n s_0=some r):aA Tryz.prog 131 [eS s_0] (·=.tuple [.p (eI r.1),.p (eI r.2)]):=by
 unfold kY at h0
 refine ba good Tryz.func131 Z Z Z λ w0=>mP (λ v:Int×Int=>.tuple [.p (eI v.1),.p (eI v.2)]) ?_
 refine nx 6 Z (bd h0 λ o44 h1 h0=>?_)
 refine kN o44 (λ v45=>⟨[(0,.p (eS s_0)),(4,.p (eB v45))],[]⟩) ?_ ?_
 ·refine nx 7 Z (bd h0 λ o46 h1 h0=>?_)
  refine kN o46 (λ v47=>⟨[(4,.p (eB o44)),(5,.p (eS v47))],[]⟩) ?_ ?_
  ·refine nx 3 Z (bd h0 λ o48 h1 h0=>?_)
   refine kN o48 (λ v49=>⟨[(4,.p (eB o44)),(5,.p (eS o46)),(29,.p (eB v49))],[]⟩) ?_ ?_
   ·refine nx 1 Z (fB [29] h0 Z (λ c12 h0=>?_) λ c12 h0=>?_)
    ·exact nx 7 Z (mQ (oi h0) Z (aC ⟨sr,sr,trivial⟩))
    refine nx 6 Z (oLs Z (nx 2 Z (fD [32] h0 Z (λ c13 h0=>?_) λ c13 h0=>?_)))
    ·exact nx 7 Z (mQ (oi h0) Z (aC ⟨sr,sr,trivial⟩))
    refine nx 12 Z (bd h0 λ o50 h1 h0=>?_)
    refine kE 0 o50 (λ v51=>⟨[(4,.p (eB o44)),(6,.p (eI v51))],[]⟩) ?_ ?_
    ·refine nx 2 Z (bd h0 λ o52 h1 h0=>?_)
     refine kN o52 (λ v53=>⟨[(6,.p (eI v53))],[]⟩) ?_ ?_
     ·refine nx 5 Z (bd h0 λ r36 e37 h0=>oK (uV o52 _ e37) Z ⟨sr,trivial⟩ Tryz.call148 Z (nx 2 Z ?_))
      refine fB [52] h0 Z (λ c38 h0=>?_) λ c38 h0=>?_
      ·exact nx 7 Z (mQ (oi h0) Z (aC ⟨sr,sr,trivial⟩))
      exact nx 9 Z (mQ (oi h0) Z (aC ⟨sr,sr,trivial⟩))
     refine nx 4 Z (fB [4,47] h1 Z (λ c33 h1=>?_) λ c33 h1=>?_)
     ·exact nx 3 Z (cc' h1 λ hk34 h1=>mO Z (yl Z Z Z Z hk34 (nx 2 Z (eX _ (oi h1).symm (gE Z Z)))))
     exact nx 2 Z (eX _ (oi h1).symm (gE Z Z))
    refine lG (λ (q54:Int×Int)=>⟨[(4,.p (eB o44)),(5,.p (eS o46)),(6,.p (eI q54.1)),(7,.p (eI q54.2))],[]⟩) (λ m (q54:Int×Int)=>eT o46 m q54.1 q54.2) Y (0,0) h1 (gE Z Z) ?_
    rintro m ⟨n22,i23⟩ h1
    replace h1:eT o46 (m+1) n22 i23=some o50:=h1
    rw [eT] at h1
    refine nx 5 Z (oLs Z (nx 2 Z (fD [36] h1 Z (λ c24 h1=>?_) λ c24 h1=>?_)))
    ·exact nx 6 Z (oA h1 Z Z λ hk25 h1=>nx 2 Z (oI h1 Z λ hk26 h1=>nx 1 Z (cc' h1 λ hk27 h1=>mO Z (d5 Z Z Z Z Z Z Z Z (g0 hk27) (oA h1 Z Z λ hk28 h1=>nx 4 Z (oA h1 Z Z λ hk29 h1=>nx 2 Z (eX ((10*n22)+(IntKind.wrap .u8 ((byt o46 i23) - 48)),i23+1) h1 (gE Z Z))))))))
    exact nx 2 Z (eXi _ (oi h1).symm (gE Z Z))
   refine nx 2 Z (bd h1 λ r7 e8 h1=>oK (sY _ o46 _ e8) Z ⟨sr,trivial⟩ Tryz.call147 Z (nx 2 Z ?_))
   refine fB [22,23] h1 Z (λ c9 h1=>?_) λ c9 h1=>?_
   ·exact nx 7 Z (eX _ (oi h1).symm (gE Z Z))
   refine nx 2 Z (fB [4,24,25] h1 Z (λ c10 h1=>?_) λ c10 h1=>?_)
   ·exact nx 1 Z (oS Z Z (nx 3 Z (eX _ (oi h1).symm (aP (bm ⟨⟨_,Z,cD c10.symm⟩,er Z,er Z,trivial⟩ trivial)))))
   exact nx 5 Z (eX _ (oi h1).symm (aP (bm ⟨⟨_,Z,cD c10.symm⟩,er Z,er Z,trivial⟩ trivial)))
  refine nx 4 Z (fB [4,17] h1 Z (λ c4 h1=>?_) λ c4 h1=>?_)
  ·exact nx 3 Z (oP h1 Z Z Z λ hk5 h1=>nx 2 Z (eX _ (oi h1).symm (aP (bm ⟨⟨_,Z,cD c4.symm⟩,er Z,trivial⟩ trivial))))
  exact nx 2 Z (eX _ (oi h1).symm (aP (bm ⟨⟨_,Z,cD c4.symm⟩,er Z,trivial⟩ trivial)))
 refine nx 2 Z (oLs Z (nx 2 Z (fD [10,11] h1 Z (λ c1 h1=>?_) λ c1 h1=>?_)))
 ·exact nx 1 Z (oI h1 Z λ hk2 h1=>nx 4 Z (eX _ (oi h1).symm (gE Z Z)))
 exact nx 6 Z (eX _ (oi h1).symm (gE Z Z))
def d4:Nat→Int→Option Bytes
 | 0,_=>none
 | n+1,n_0 =>
 (
   if 0≤n_0 then
    some (decide (n_0≤9))
   else
    some false
  : Option Bool).bind λ t2 =>
 if t2=true then
  ck (inR (48+n_0)) <|
  ck ((0:Int)≤IntKind.wrap .u8 (48+n_0)∧IntKind.wrap .u8 (48+n_0) < 256) <|
  some [u8 (IntKind.wrap .u8 (48+n_0))]
 else
  (
    if n_0 < 0 then
     some (decide ((-10) < n_0))
    else
     some false
   : Option Bool).bind λ t7 =>
  if t7=true then
   ck (inR (0 - n_0)) <|
   ((d4 n) (0 - n_0)).bind λ r10 =>
   ck (([45]:Bytes).length+r10.length≤9223372036854775807) <|
   some (([45]:Bytes)++r10)
  else
   if n_0 < 0 then
    ck ((10:Int)≠0) <|
    ((d4 n) (IntKind.wrap .i64 (n_0.tdiv 10))).bind λ r15 =>
    ck ((10:Int)≠0) <|
    ck (inR (0 - (n_0.tmod 10))) <|
    ((d4 n) (0 - (n_0.tmod 10))).bind λ r19 =>
    ck (r15.length+r19.length≤9223372036854775807) <|
    some (r15++r19)
   else
    ck ((10:Int)≠0) <|
    ((d4 n) (IntKind.wrap .i64 (n_0.tdiv 10))).bind λ r23 =>
    ck ((10:Int)≠0) <|
    ((d4 n) (n_0.tmod 10)).bind λ r26 =>
    ck (r23.length+r26.length≤9223372036854775807) <|
    some (r23++r26)
theorem tc (n:Nat):∀ (n_0:Int) (r:Bytes),d4 n n_0=some r→aA Tryz.prog 109 [eI n_0] (·=.p (eS r)):=by
 induction n with
 | zero=>intro n_0 r h0; cases h0
 | succ n ih =>
 have ih_ref01_Format_ok:=ih
 intro n_0 r h0
 rw [d4] at h0
 refine ba good Tryz.func109 Z Z Z λ w0=>mP (λ v:Bytes=>.p (eS v)) ?_
 refine nx 6 Z (bd h0 λ o31 h1 h0=>?_)
 refine kN o31 (λ v32=>⟨[(0,.p (eI n_0)),(8,.p (eB v32))],[]⟩) ?_ ?_
 ·refine nx 1 Z (fB [8] h0 Z (λ c3 h0=>?_) λ c3 h0=>?_)
  ·exact nx 4 Z (oA h0 Z Z λ hk4 h0=>nx 1 Z (cc' h0 λ hk5 h0=>mO Z (bs eU [u8 (IntKind.wrap .u8 (48+n_0))] Z Z Z Z Z Z Z Z Z Z Z Z Z (congr (congrArg List.cons (iu hk5)) Z) (mO Z (lI [u8 (IntKind.wrap .u8 (48+n_0))] Z Z Z Z Z Z Z Z Z Z Z (nx 3 Z (mQ (oi h0) Z (sr))))))))
  refine nx 4 Z (bd h0 λ o33 h1 h0=>?_)
  refine kN o33 (λ v34=>⟨[(0,.p (eI n_0)),(19,.p (eB v34))],[]⟩) ?_ ?_
  ·refine nx 1 Z (fB [19] h0 Z (λ c8 h0=>?_) λ c8 h0=>?_)
   ·exact nx 4 Z (cc' h0 λ hk9 h0=>mO Z (yl Z Z Z Z hk9 (bd h0 λ r10 e11 h0=>oK (ih_ref01_Format_ok (0 - n_0) _ e11) Z ⟨sr,trivial⟩ Tryz.call109 Z (oC h0 Z λ hk12 h0=>nx 3 Z (mQ (oi h0) Z (sr))))))
   refine nx 8 Z (fD [25] h0 Z (λ c13 h0=>?_) λ c13 h0=>?_)
   ·exact nx 4 Z (cc' h0 λ hk14 h0=>mO Z (tw Z Z Z Z Z Z hk14 (bd h0 λ r15 e16 h0=>oK (ih_ref01_Format_ok (IntKind.wrap .i64 (n_0.tdiv 10)) _ e16) Z ⟨sr,trivial⟩ Tryz.call109 Z (nx 1 Z (cc' h0 λ hk17 h0=>mO Z (tw Z Z Z Z Z Z hk17 (cc' h0 λ hk18 h0=>mO Z (yl Z Z Z Z hk18 (bd h0 λ r19 e20 h0=>oK (ih_ref01_Format_ok (0 - (n_0.tmod 10)) _ e20) Z ⟨sr,trivial⟩ Tryz.call109 Z (oC h0 Z λ hk21 h0=>nx 3 Z (mQ (oi h0) Z (sr))))))))))))
   exact nx 5 Z (cc' h0 λ hk22 h0=>mO Z (tw Z Z Z Z Z Z hk22 (bd h0 λ r23 e24 h0=>oK (ih_ref01_Format_ok (IntKind.wrap .i64 (n_0.tdiv 10)) _ e24) Z ⟨sr,trivial⟩ Tryz.call109 Z (nx 1 Z (cc' h0 λ hk25 h0=>mO Z (tw Z Z Z Z Z Z hk25 (bd h0 λ r26 e27 h0=>oK (ih_ref01_Format_ok (n_0.tmod 10) _ e27) Z ⟨sr,trivial⟩ Tryz.call109 Z (oC h0 Z λ hk28 h0=>nx 3 Z (mQ (oi h0) Z (sr))))))))))
  refine nx 4 Z (fD [15,16] h1 Z (λ c6 h1=>?_) λ c6 h1=>?_)
  ·exact nx 4 Z (eX _ (oi h1).symm (gE Z Z))
  exact nx 4 Z (eX _ (oi h1).symm (gE Z Z))
 refine nx 4 Z (fD [4,5] h1 Z (λ c1 h1=>?_) λ c1 h1=>?_)
 ·exact nx 4 Z (eX _ (oi h1).symm (gE Z Z))
 exact nx 4 Z (eX _ (oi h1).symm (gE Z Z))
def eg (s_0:Bytes)(i_1:Int)(lo_2:Int)(hi_3:Int):Option Bool :=
 (
   if i_1 < (s_0.length:Int) then
    ck ((0:Int)≤i_1∧i_1 < (s_0.length:Int)) <|
    if lo_2≤byt s_0 i_1 then
     ck ((0:Int)≤i_1∧i_1 < (s_0.length:Int)) <|
     some (decide (byt s_0 i_1≤hi_3))
    else
     some false
   else
    some false
  : Option Bool).bind λ t5 =>
 some t5
theorem hQ (s_0:Bytes)(i_1:Int)(lo_2:Int)(hi_3:Int)(r:Bool)(h0:eg s_0 i_1 lo_2 hi_3=some r):aA Tryz.prog 163 [eS s_0,eI i_1,eK .u8 lo_2,eK .u8 hi_3] (·=.p (eB r)):=by
 unfold eg at h0
 refine ba good Tryz.func163 Z Z Z λ w0=>mP (λ v:Bool=>.p (eB v)) ?_
 refine nx 5 Z (bd h0 λ o7 h1 h0=>?_)
 refine kN o7 (λ v8=>⟨[(8,.p (eB v8))],[]⟩) ?_ ?_
 ·exact nx 2 Z (mQ (oi h0) Z (sr))
 refine nx 3 Z (oLs Z (nx 2 Z (fD [12,13] h1 Z (λ c1 h1=>?_) λ c1 h1=>?_)))
 ·refine nx 2 Z (oI h1 Z λ hk2 h1=>nx 4 Z (fD [18,19,20] h1 Z (λ c3 h1=>?_) λ c3 h1=>?_))
  ·exact nx 2 Z (oI h1 Z λ hk4 h1=>nx 5 Z (eX _ (oi h1).symm (gE Z Z)))
  exact nx 8 Z (eX _ (oi h1).symm (gE Z Z))
 exact nx 15 Z (eX _ (oi h1).symm (gE Z Z))
def iM (s_0:Bytes)(i_1:Int):Option (Int×Int) :=
 (
   if i_1 < 0 then
    some true
   else
    some (decide ((s_0.length:Int)≤i_1))
  : Option Bool).bind λ t2 =>
 if t2=true then
  some (0,0)
 else
  ck ((0:Int)≤i_1∧i_1 < (s_0.length:Int)) <|
  if byt s_0 i_1 < 128 then
   ck (inR (byt s_0 i_1)) <|
   some (byt s_0 i_1,1)
  else
   (
     if 194≤byt s_0 i_1 then
      if byt s_0 i_1≤223 then
       ck (inR (i_1+1)) <|
       (eg s_0 (i_1+1) 128 191).bind λ r10 =>
       some r10
      else
       some false
     else
      some false
    : Option Bool).bind λ t12 =>
   if t12=true then
    ck (inR (bG .u8 (byt s_0 i_1) 31)) <|
    ck ((0:Int)≤6) <|
    ck (inR (i_1+1)) <|
    ck ((0:Int)≤i_1+1∧i_1+1 < (s_0.length:Int)) <|
    ck (inR (bG .u8 (byt s_0 (i_1+1)) 63)) <|
    some (iOr .i64 (jK .i64 (bG .u8 (byt s_0 i_1) 31) 6) (bG .u8 (byt s_0 (i_1+1)) 63),2)
   else
    (
      if byt s_0 i_1=224 then
       some 160
      else
       some 128
     : Option Int).bind λ lo20 =>
    (
      if byt s_0 i_1=237 then
       some 159
      else
       some 191
     : Option Int).bind λ hi22 =>
    (
      if 224≤byt s_0 i_1 then
       if byt s_0 i_1≤239 then
        ck (inR (i_1+1)) <|
        (eg s_0 (i_1+1) lo20 hi22).bind λ r26 =>
        if r26=true then
         ck (inR (i_1+2)) <|
         (eg s_0 (i_1+2) 128 191).bind λ r30 =>
         some r30
        else
         some false
       else
        some false
      else
       some false
     : Option Bool).bind λ t32 =>
    if t32=true then
     ck (inR (bG .u8 (byt s_0 i_1) 15)) <|
     ck ((0:Int)≤12) <|
     ck (inR (i_1+1)) <|
     ck ((0:Int)≤i_1+1∧i_1+1 < (s_0.length:Int)) <|
     ck (inR (bG .u8 (byt s_0 (i_1+1)) 63)) <|
     ck ((0:Int)≤6) <|
     ck (inR (i_1+2)) <|
     ck ((0:Int)≤i_1+2∧i_1+2 < (s_0.length:Int)) <|
     ck (inR (bG .u8 (byt s_0 (i_1+2)) 63)) <|
     some (iOr .i64 (iOr .i64 (jK .i64 (bG .u8 (byt s_0 i_1) 15) 12) (jK .i64 (bG .u8 (byt s_0 (i_1+1)) 63) 6)) (bG .u8 (byt s_0 (i_1+2)) 63),3)
    else
     (
       if byt s_0 i_1=240 then
        some 144
       else
        some 128
      : Option Int).bind λ lo44 =>
     (
       if byt s_0 i_1=244 then
        some 143
       else
        some 191
      : Option Int).bind λ hi46 =>
     (
       if 240≤byt s_0 i_1 then
        if byt s_0 i_1≤244 then
         ck (inR (i_1+1)) <|
         (eg s_0 (i_1+1) lo44 hi46).bind λ r50 =>
         if r50=true then
          ck (inR (i_1+2)) <|
          (eg s_0 (i_1+2) 128 191).bind λ r54 =>
          if r54=true then
           ck (inR (i_1+3)) <|
           (eg s_0 (i_1+3) 128 191).bind λ r58 =>
           some r58
          else
           some false
         else
          some false
        else
         some false
       else
        some false
      : Option Bool).bind λ t60 =>
     if t60=true then
      ck (inR (bG .u8 (byt s_0 i_1) 7)) <|
      ck ((0:Int)≤18) <|
      ck (inR (i_1+1)) <|
      ck ((0:Int)≤i_1+1∧i_1+1 < (s_0.length:Int)) <|
      ck (inR (bG .u8 (byt s_0 (i_1+1)) 63)) <|
      ck ((0:Int)≤12) <|
      ck (inR (i_1+2)) <|
      ck ((0:Int)≤i_1+2∧i_1+2 < (s_0.length:Int)) <|
      ck (inR (bG .u8 (byt s_0 (i_1+2)) 63)) <|
      ck ((0:Int)≤6) <|
      ck (inR (i_1+3)) <|
      ck ((0:Int)≤i_1+3∧i_1+3 < (s_0.length:Int)) <|
      ck (inR (bG .u8 (byt s_0 (i_1+3)) 63)) <|
      some (iOr .i64 (iOr .i64 (iOr .i64 (jK .i64 (bG .u8 (byt s_0 i_1) 7) 18) (jK .i64 (bG .u8 (byt s_0 (i_1+1)) 63) 12)) (jK .i64 (bG .u8 (byt s_0 (i_1+2)) 63) 6)) (bG .u8 (byt s_0 (i_1+3)) 63),4)
     else
      some (0,0)
theorem nX (s_0:Bytes)(i_1:Int)(r:Int×Int)(h0:iM s_0 i_1=some r):aA Tryz.prog 149 [eS s_0,eI i_1] (·=.tuple [.p (eI r.1),.p (eI r.2)]):=by
 unfold iM at h0
 refine ba good Tryz.func149 Z Z Z λ w0=>mP (λ v:Int×Int=>.tuple [.p (eI v.1),.p (eI v.2)]) ?_
 refine nx 7 Z (bd h0 λ o83 h1 h0=>?_)
 refine kN o83 (λ v84=>⟨[(0,.p (eS s_0)),(1,.p (eI i_1)),(16,.p (eB v84))],[]⟩) ?_ ?_
 ·refine nx 1 Z (fB [16] h0 Z (λ c3 h0=>?_) λ c3 h0=>?_)
  ·exact nx 7 Z (mQ (oi h0) Z (aC ⟨sr,sr,trivial⟩))
  refine nx 6 Z (oI h0 Z λ hk4 h0=>nx 8 Z (fD [21] h0 Z (λ c5 h0=>?_) λ c5 h0=>?_))
  ·exact nx 4 Z (cc' h0 λ hk6 h0=>mO Z (d5 Z Z Z Z Z Z Z Z (g0 hk6) (nx 4 Z (mQ (oi h0) Z (aC ⟨sr,sr,trivial⟩)))))
  refine nx 4 Z (bd h0 λ o85 h1 h0=>?_)
  refine kN o85 (λ v86=>⟨[(0,.p (eS s_0)),(1,.p (eI i_1)),(6,.p (eK .u8 (byt s_0 i_1))),(35,.p (eB v86))],[]⟩) ?_ ?_
  ·refine nx 1 Z (fB [35] h0 Z (λ c13 h0=>?_) λ c13 h0=>?_)
   ·exact nx 5 Z (cc' h0 λ hk14 h0=>mO Z (d5 Z Z Z Z Z Z Z Z (g0 hk14) (cc' h0 λ hk15 h0=>mO Z (j9 Z Z Z Z Z Z hk15 (nx 2 Z (oA h0 Z Z λ hk16 h0=>oI h0 Z λ hk17 h0=>nx 1 Z (cc' h0 λ hk18 h0=>mO Z (d5 Z Z Z Z Z Z Z Z (g0 hk18) (nx 5 Z (mQ (oi h0) Z (aC ⟨sr,sr,trivial⟩)))))))))))
   refine nx 8 Z (bd h0 λ o87 h1 h0=>?_)
   refine kN o87 (λ v88=>⟨[(0,.p (eS s_0)),(1,.p (eI i_1)),(6,.p (eK .u8 (byt s_0 i_1))),(7,.p (eK .u8 v88)),(8,.p (eK .u8 191))],[]⟩) ?_ ?_
   ·refine nx 2 Z (bd h0 λ o89 h1 h0=>?_)
    refine kN o89 (λ v90=>⟨[(0,.p (eS s_0)),(1,.p (eI i_1)),(6,.p (eK .u8 (byt s_0 i_1))),(7,.p (eK .u8 o87)),(8,.p (eK .u8 v90))],[]⟩) ?_ ?_
    ·refine nx 3 Z (bd h0 λ o91 h1 h0=>?_)
     refine kN o91 (λ v92=>⟨[(0,.p (eS s_0)),(1,.p (eI i_1)),(6,.p (eK .u8 (byt s_0 i_1))),(70,.p (eB v92))],[]⟩) ?_ ?_
     ·refine nx 1 Z (fB [70] h0 Z (λ c33 h0=>?_) λ c33 h0=>?_)
      ·refine nx 2 Z (cc' h0 λ hk34 h0=>cc' h0 λ hk35 h0=>cc' h0 λ hk36 h0=>cc' h0 λ hk37 h0=>cc' h0 λ hk38 h0=>cc' h0 λ hk39 h0=>cc' h0 λ hk40 h0=>cc' h0 λ hk41 h0=>cc' h0 λ hk42 h0=>mD [(0,.p (eS s_0)),(1,.p (eI i_1)),(6,.p (eK .u8 (byt s_0 i_1)))] Z ⟨Z,Z,Z,trivial⟩ Z (dR 2 Z (dq (.p (eI (bG .u8 (byt s_0 i_1) 15))) [72] Z (λ _ e _ q=>av Z (d5 Z Z Z Z Z Z Z (e _ _ Z) (g0 hk34) q)) Z (dq (.p (eI (jK .i64 (bG .u8 (byt s_0 i_1) 15) 12))) [73] Z (λ _ e _ q=>av Z (j9 Z Z Z (e _ _ Z) Z Z hk35 q)) Z (dR 2 Z (dq (.p (eI (i_1+1))) [76] Z (λ _ e _ q=>av Z (eq Z Z Z (e _ _ Z) Z Z hk36 q)) Z (dq (.p (eK .u8 (byt s_0 (i_1+1)))) [75,77] Z (λ _ e _ q=>av Z (iG Z Z Z Z Z (e _ _ Z) (e _ _ Z) hk37 q)) Z (dR 1 Z (dq (.p (eI (bG .u8 (byt s_0 (i_1+1)) 63))) [79] Z (λ _ e _ q=>av Z (d5 Z Z Z Z Z Z Z (e _ _ Z) (g0 hk38) q)) Z (dq (.p (eI (jK .i64 (bG .u8 (byt s_0 (i_1+1)) 63) 6))) [80] Z (λ _ e _ q=>av Z (j9 Z Z Z (e _ _ Z) Z Z hk39 q)) Z (dR 3 Z (dq (.p (eI (i_1+2))) [84] Z (λ _ e _ q=>av Z (eq Z Z Z (e _ _ Z) Z Z hk40 q)) Z ?_))))))))))))
       refine dq (.p (eK .u8 (byt s_0 (i_1+2)))) [83,85] Z (λ _ e _ q=>av Z (iG Z Z Z Z Z (e _ _ Z) (e _ _ Z) hk41 q)) Z (dR 1 Z (dq (.p (eI (bG .u8 (byt s_0 (i_1+2)) 63))) [87] Z (λ _ e _ q=>av Z (d5 Z Z Z Z Z Z Z (e _ _ Z) (g0 hk42) q)) Z (dR 3 Z ?_)))
       refine dE Z (nx 2 Z ?_)
       exact mQ (oi h0) Z (aC ⟨sr,sr,trivial⟩)
      refine nx 8 Z (bd h0 λ o93 h1 h0=>?_)
      refine kN o93 (λ v94=>⟨[(0,.p (eS s_0)),(1,.p (eI i_1)),(6,.p (eK .u8 (byt s_0 i_1))),(7,.p (eK .u8 v94)),(8,.p (eK .u8 191))],[]⟩) ?_ ?_
      ·refine nx 2 Z (bd h0 λ o95 h1 h0=>?_)
       refine kN o95 (λ v96=>⟨[(0,.p (eS s_0)),(1,.p (eI i_1)),(6,.p (eK .u8 (byt s_0 i_1))),(7,.p (eK .u8 o93)),(8,.p (eK .u8 v96))],[]⟩) ?_ ?_
       ·refine nx 3 Z (bd h0 λ o97 h1 h0=>?_)
        refine kN o97 (λ v98=>⟨[(0,.p (eS s_0)),(1,.p (eI i_1)),(6,.p (eK .u8 (byt s_0 i_1))),(119,.p (eB v98))],[]⟩) ?_ ?_
        ·refine nx 1 Z (fB [119] h0 Z (λ c61 h0=>?_) λ c61 h0=>?_)
         ·refine nx 2 Z (cc' h0 λ hk62 h0=>cc' h0 λ hk63 h0=>cc' h0 λ hk64 h0=>cc' h0 λ hk65 h0=>cc' h0 λ hk66 h0=>cc' h0 λ hk67 h0=>cc' h0 λ hk68 h0=>cc' h0 λ hk69 h0=>cc' h0 λ hk70 h0=>cc' h0 λ hk71 h0=>cc' h0 λ hk72 h0=>cc' h0 λ hk73 h0=>cc' h0 λ hk74 h0=>mD [(0,.p (eS s_0)),(1,.p (eI i_1)),(6,.p (eK .u8 (byt s_0 i_1)))] Z ⟨Z,Z,Z,trivial⟩ Z (dR 2 Z (dq (.p (eI (bG .u8 (byt s_0 i_1) 7))) [121] Z (λ _ e _ q=>av Z (d5 Z Z Z Z Z Z Z (e _ _ Z) (g0 hk62) q)) Z (dq (.p (eI (jK .i64 (bG .u8 (byt s_0 i_1) 7) 18))) [122] Z (λ _ e _ q=>av Z (j9 Z Z Z (e _ _ Z) Z Z hk63 q)) Z (dR 2 Z (dq (.p (eI (i_1+1))) [125] Z (λ _ e _ q=>av Z (eq Z Z Z (e _ _ Z) Z Z hk64 q)) Z (dq (.p (eK .u8 (byt s_0 (i_1+1)))) [124,126] Z (λ _ e _ q=>av Z (iG Z Z Z Z Z (e _ _ Z) (e _ _ Z) hk65 q)) Z (dR 1 Z (dq (.p (eI (bG .u8 (byt s_0 (i_1+1)) 63))) [128] Z (λ _ e _ q=>av Z (d5 Z Z Z Z Z Z Z (e _ _ Z) (g0 hk66) q)) Z (dq (.p (eI (jK .i64 (bG .u8 (byt s_0 (i_1+1)) 63) 12))) [129] Z (λ _ e _ q=>av Z (j9 Z Z Z (e _ _ Z) Z Z hk67 q)) Z ?_))))))))))
          refine dR 3 Z (dq (.p (eI (i_1+2))) [133] Z (λ _ e _ q=>av Z (eq Z Z Z (e _ _ Z) Z Z hk68 q)) Z (dq (.p (eK .u8 (byt s_0 (i_1+2)))) [132,134] Z (λ _ e _ q=>av Z (iG Z Z Z Z Z (e _ _ Z) (e _ _ Z) hk69 q)) Z (dR 1 Z (dq (.p (eI (bG .u8 (byt s_0 (i_1+2)) 63))) [136] Z (λ _ e _ q=>av Z (d5 Z Z Z Z Z Z Z (e _ _ Z) (g0 hk70) q)) Z (dq (.p (eI (jK .i64 (bG .u8 (byt s_0 (i_1+2)) 63) 6))) [137] Z (λ _ e _ q=>av Z (j9 Z Z Z (e _ _ Z) Z Z hk71 q)) Z (dR 3 Z (dq (.p (eI (i_1+3))) [141] Z (λ _ e _ q=>av Z (eq Z Z Z (e _ _ Z) Z Z hk72 q)) Z (dq (.p (eK .u8 (byt s_0 (i_1+3)))) [140,142] Z (λ _ e _ q=>av Z (iG Z Z Z Z Z (e _ _ Z) (e _ _ Z) hk73 q)) Z (dR 1 Z (dq (.p (eI (bG .u8 (byt s_0 (i_1+3)) 63))) [144] Z (λ _ e _ q=>av Z (d5 Z Z Z Z Z Z Z (e _ _ Z) (g0 hk74) q)) Z (dR 3 Z ?_)))))))))))
          refine dE Z (nx 1 Z ?_)
          exact mG (gE (t:=⟨[(4,.p (eI (iOr .i64 (iOr .i64 (iOr .i64 (jK .i64 (bG .u8 (byt s_0 i_1) 7) 18) (jK .i64 (bG .u8 (byt s_0 (i_1+1)) 63) 12)) (jK .i64 (bG .u8 (byt s_0 (i_1+2)) 63) 6)) (bG .u8 (byt s_0 (i_1+3)) 63)))),(5,.p (eI 4))],[]⟩) Z Z) (nx 1 Z (mQ (oi h0) Z (aC ⟨sr,sr,trivial⟩)))
         exact nx 8 Z (mQ (oi h0) Z (aC ⟨sr,sr,trivial⟩))
        refine nx 4 Z (fD [95,96] h1 Z (λ c47 h1=>?_) λ c47 h1=>?_)
        ·refine nx 4 Z (fD [98,99,100] h1 Z (λ c48 h1=>?_) λ c48 h1=>?_)
         ·refine nx 2 Z (oA h1 Z Z λ hk49 h1=>nx 2 Z (bd h1 λ r50 e51 h1=>oK (hQ s_0 (i_1+1) o93 o95 _ e51) Z ⟨sr,sr,sr,sr,trivial⟩ Tryz.call163 Z (nx 2 Z ?_)))
          refine fB [106,107,108] h1 Z (λ c52 h1=>?_) λ c52 h1=>?_
          ·refine nx 2 Z (oA h1 Z Z λ hk53 h1=>bd h1 λ r54 e55 h1=>oK (hQ s_0 (i_1+2) 128 191 _ e55) Z ⟨sr,sr,sr,sr,trivial⟩ Tryz.call163 Z (nx 2 Z ?_))
           refine fB [112,113,114] h1 Z (λ c56 h1=>?_) λ c56 h1=>?_
           ·exact nx 2 Z (oA h1 Z Z λ hk57 h1=>bd h1 λ r58 e59 h1=>oK (hQ s_0 (i_1+3) 128 191 _ e59) Z ⟨sr,sr,sr,sr,trivial⟩ Tryz.call163 Z (nx 2 Z (eX _ (oi h1).symm (gE Z Z))))
           exact nx 6 Z (eX _ (oi h1).symm (gE Z Z))
          exact nx 12 Z (eX _ (oi h1).symm (gE Z Z))
         exact nx 20 Z (eX _ (oi h1).symm (gE Z Z))
        exact nx 24 Z (eX _ (oi h1).symm (gE Z Z))
       refine nx 5 Z (fD [93] h1 Z (λ c45 h1=>?_) λ c45 h1=>?_)
       ·exact nx 4 Z (eX _ (oi h1).symm (gE Z Z))
       exact nx 2 Z (eX _ (oi h1).symm (gE Z Z))
      refine nx 5 Z (fD [91] h1 Z (λ c43 h1=>?_) λ c43 h1=>?_)
      ·exact nx 4 Z (eX _ (oi h1).symm (gE Z Z))
      exact nx 2 Z (eX _ (oi h1).symm (gE Z Z))
     refine nx 4 Z (fD [52,53] h1 Z (λ c23 h1=>?_) λ c23 h1=>?_)
     ·refine nx 4 Z (fD [55,56,57] h1 Z (λ c24 h1=>?_) λ c24 h1=>?_)
      ·refine nx 2 Z (oA h1 Z Z λ hk25 h1=>nx 2 Z (bd h1 λ r26 e27 h1=>oK (hQ s_0 (i_1+1) o87 o89 _ e27) Z ⟨sr,sr,sr,sr,trivial⟩ Tryz.call163 Z (nx 2 Z ?_)))
       refine fB [63,64,65] h1 Z (λ c28 h1=>?_) λ c28 h1=>?_
       ·exact nx 2 Z (oA h1 Z Z λ hk29 h1=>bd h1 λ r30 e31 h1=>oK (hQ s_0 (i_1+2) 128 191 _ e31) Z ⟨sr,sr,sr,sr,trivial⟩ Tryz.call163 Z (nx 2 Z (eX _ (oi h1).symm (gE Z Z))))
       exact nx 6 Z (eX _ (oi h1).symm (gE Z Z))
      exact nx 14 Z (eX _ (oi h1).symm (gE Z Z))
     exact nx 18 Z (eX _ (oi h1).symm (gE Z Z))
    refine nx 5 Z (fD [50] h1 Z (λ c21 h1=>?_) λ c21 h1=>?_)
    ·exact nx 4 Z (eX _ (oi h1).symm (gE Z Z))
    exact nx 2 Z (eX _ (oi h1).symm (gE Z Z))
   refine nx 5 Z (fD [48] h1 Z (λ c19 h1=>?_) λ c19 h1=>?_)
   ·exact nx 4 Z (eX _ (oi h1).symm (gE Z Z))
   exact nx 2 Z (eX _ (oi h1).symm (gE Z Z))
  refine nx 4 Z (fD [25,26] h1 Z (λ c7 h1=>?_) λ c7 h1=>?_)
  ·refine nx 4 Z (fD [28,29,30] h1 Z (λ c8 h1=>?_) λ c8 h1=>?_)
   ·exact nx 2 Z (oA h1 Z Z λ hk9 h1=>bd h1 λ r10 e11 h1=>oK (hQ s_0 (i_1+1) 128 191 _ e11) Z ⟨sr,sr,sr,sr,trivial⟩ Tryz.call163 Z (nx 2 Z (eX _ (oi h1).symm (gE Z Z))))
   exact nx 6 Z (eX _ (oi h1).symm (gE Z Z))
  exact nx 10 Z (eX _ (oi h1).symm (gE Z Z))
 refine nx 4 Z (fD [10,11] h1 Z (λ c1 h1=>?_) λ c1 h1=>?_)
 ·exact nx 6 Z (eX _ (oi h1).symm (gE Z Z))
 exact nx 2 Z (oLs Z (nx 3 Z (eX _ (oi h1).symm (gE Z Z))))
def lE (b_0:Int):Option Int :=
 (
   if 48≤b_0 then
    some (decide (b_0≤57))
   else
    some false
  : Option Bool).bind λ t2 =>
 if t2=true then
  ck (inR (IntKind.wrap .u8 (b_0 - 48))) <|
  some (IntKind.wrap .u8 (b_0 - 48))
 else
  (
    if 97≤b_0 then
     some (decide (b_0≤102))
    else
     some false
   : Option Bool).bind λ t6 =>
  if t6=true then
   ck (inR (IntKind.wrap .u8 (b_0 - 97))) <|
   ck (inR ((IntKind.wrap .u8 (b_0 - 97))+10)) <|
   some ((IntKind.wrap .u8 (b_0 - 97))+10)
  else
   some (-1)
theorem re (b_0:Int)(r:Int)(h0:lE b_0=some r):aA Tryz.prog 177 [eK .u8 b_0] (·=.p (eI r)):=by
 unfold lE at h0
 refine ba good Tryz.func177 Z Z Z λ w0=>mP (λ v:Int=>.p (eI v)) ?_
 refine nx 6 Z (bd h0 λ o12 h1 h0=>?_)
 refine kN o12 (λ v13=>⟨[(0,.p (eK .u8 b_0)),(8,.p (eB v13))],[]⟩) ?_ ?_
 ·refine nx 1 Z (fB [8] h0 Z (λ c3 h0=>?_) λ c3 h0=>?_)
  ·exact nx 5 Z (cc' h0 λ hk4 h0=>mO Z (d5 Z Z Z Z Z Z Z Z (g0 hk4) (nx 3 Z (mQ (oi h0) Z (sr)))))
  refine nx 4 Z (bd h0 λ o14 h1 h0=>?_)
  refine kN o14 (λ v15=>⟨[(0,.p (eK .u8 b_0)),(17,.p (eB v15))],[]⟩) ?_ ?_
  ·refine nx 1 Z (fB [17] h0 Z (λ c7 h0=>?_) λ c7 h0=>?_)
   ·exact nx 5 Z (cc' h0 λ hk8 h0=>mO Z (d5 Z Z Z Z Z Z Z Z (g0 hk8) (oA h0 Z Z λ hk9 h0=>nx 3 Z (mQ (oi h0) Z (sr)))))
   exact nx 7 Z (mQ (oi h0) Z (sr))
  refine nx 4 Z (fD [13,14] h1 Z (λ c5 h1=>?_) λ c5 h1=>?_)
  ·exact nx 4 Z (eX _ (oi h1).symm (gE Z Z))
  exact nx 4 Z (eX _ (oi h1).symm (gE Z Z))
 refine nx 4 Z (fD [4,5] h1 Z (λ c1 h1=>?_) λ c1 h1=>?_)
 ·exact nx 4 Z (eX _ (oi h1).symm (gE Z Z))
 exact nx 4 Z (eX _ (oi h1).symm (gE Z Z))
def eY (s_0:Bytes)(i_1:Int):Nat→Int→Int→Option (Int×Int)
 | 0,_,_=>none
 | m+1,c19,n20 =>
 (
   ck (inR (i_1+n20)) <|
   if i_1+n20 < (s_0.length:Int) then
    if n20 < 6 then
     ck (inR (i_1+n20)) <|
     ck ((0:Int)≤i_1+n20∧i_1+n20 < (s_0.length:Int)) <|
     (lE (byt s_0 (i_1+n20))).bind λ r26 =>
     some (decide (0≤r26))
    else
     some false
   else
    some false
  : Option Bool).bind λ t28 =>
 if t28=true then
  ck (inR (16*c19)) <|
  ck (inR (i_1+n20)) <|
  ck ((0:Int)≤i_1+n20∧i_1+n20 < (s_0.length:Int)) <|
  (lE (byt s_0 (i_1+n20))).bind λ r33 =>
  ck (inR ((16*c19)+r33)) <|
  ck (inR (n20+1)) <|
  eY s_0 i_1 m ((16*c19)+r33) (n20+1)
 else
  some (c19,n20)
def lb (n:Nat)(s_0:Bytes)(i_1:Int):Option (Int×Int×Int) :=
 (eY s_0 i_1 n 0 0).bind λ q58 =>
 ck (inR (i_1+q58.2)) <|
 if (s_0.length:Int)≤i_1+q58.2 then
  some (0,0,40)
 else
  (
    if q58.2=0 then
     some true
    else
     ck (inR (i_1+q58.2)) <|
     ck ((0:Int)≤i_1+q58.2∧i_1+q58.2 < (s_0.length:Int)) <|
     if byt s_0 (i_1+q58.2)=125 then
      if 1 < q58.2 then
       ck ((0:Int)≤i_1∧i_1 < (s_0.length:Int)) <|
       if byt s_0 i_1=48 then
        some true
       else
        if 1114111 < q58.1 then
         some true
        else
         if 55296≤q58.1 then
          some (decide (q58.1≤57343))
         else
          some false
      else
       if 1114111 < q58.1 then
        some true
       else
        if 55296≤q58.1 then
         some (decide (q58.1≤57343))
        else
         some false
     else
      some true
   : Option Bool).bind λ t54 =>
  if t54=true then
   some (0,0,2)
  else
   ck (inR (i_1+q58.2)) <|
   ck (inR ((i_1+q58.2)+1)) <|
   some (q58.1,(i_1+q58.2)+1,0)
theorem tP (n:Nat)(s_0:Bytes)(i_1:Int)(r:Int×Int×Int)(h0:lb n s_0 i_1=some r):aA Tryz.prog 173 [eS s_0,eI i_1] (·=.tuple [.p (eI r.1),.p (eI r.2.1),.p (eI r.2.2)]):=by
 unfold lb at h0
 refine ba good Tryz.func173 Z Z Z λ w0=>mP (λ v:Int×Int×Int=>.tuple [.p (eI v.1),.p (eI v.2.1),.p (eI v.2.2)]) ?_
 refine nx 13 Z (bd h0 λ o61 h1 h0=>?_)
 refine kE 0 o61 (λ v62=>⟨[(0,.p (eS s_0)),(1,.p (eI i_1)),(7,.p (eI v62.1)),(8,.p (eI v62.2))],[]⟩) ?_ ?_
 ·refine nx 6 Z (oA h0 Z Z λ hk41 h0=>nx 1 Z (oLs Z (nx 2 Z (fD [44] h0 Z (λ c42 h0=>?_) λ c42 h0=>?_))))
  ·exact nx 8 Z (mQ (oi h0) Z (aC ⟨sr,sr,sr,trivial⟩))
  refine nx 4 Z (bd h0 λ o63 h1 h0=>?_)
  refine kN o63 (λ v64=>⟨[(1,.p (eI i_1)),(7,.p (eI o61.1)),(8,.p (eI o61.2)),(76,.p (eB v64))],[]⟩) ?_ ?_
  ·refine nx 1 Z (fB [76] h0 Z (λ c55 h0=>?_) λ c55 h0=>?_)
   ·exact nx 8 Z (mQ (oi h0) Z (aC ⟨sr,sr,sr,trivial⟩))
   exact nx 7 Z (oA h0 Z Z λ hk56 h0=>oA h0 Z Z λ hk57 h0=>nx 5 Z (mQ (oi h0) Z (aC ⟨sr,sr,sr,trivial⟩)))
  refine nx 4 Z (fD [46,47] h1 Z (λ c43 h1=>?_) λ c43 h1=>?_)
  ·exact nx 30 Z (eX _ (oi h1).symm (gE Z Z))
  refine nx 3 Z (oA h1 Z Z λ hk44 h1=>oI h1 Z λ hk45 h1=>nx 3 Z (fN [53,54,55] h1 Z (λ c46 h1=>?_) λ c46 h1=>?_))
  ·refine nx 3 Z (fD [57,58] h1 Z (λ c47 h1=>?_) λ c47 h1=>?_)
   ·refine nx 2 Z (oI h1 Z λ hk48 h1=>nx 4 Z (fD [62,63,64,65] h1 Z (λ c49 h1=>?_) λ c49 h1=>?_))
    ·exact nx 12 Z (eX _ (oi h1).symm (gE Z Z))
    refine nx 4 Z (fD [67,68,69] h1 Z (λ c50 h1=>?_) λ c50 h1=>?_)
    ·exact nx 8 Z (eX _ (oi h1).symm (gE Z Z))
    refine nx 3 Z (fD [71,72] h1 Z (λ c51 h1=>?_) λ c51 h1=>?_)
    ·exact nx 5 Z (eX _ (oi h1).symm (gE Z Z))
    exact nx 5 Z (eX _ (oi h1).symm (gE Z Z))
   refine nx 11 Z (fD [67,68,69] h1 Z (λ c52 h1=>?_) λ c52 h1=>?_)
   ·exact nx 8 Z (eX _ (oi h1).symm (gE Z Z))
   refine nx 3 Z (fD [71,72] h1 Z (λ c53 h1=>?_) λ c53 h1=>?_)
   ·exact nx 5 Z (eX _ (oi h1).symm (gE Z Z))
   exact nx 5 Z (eX _ (oi h1).symm (gE Z Z))
  exact nx 22 Z (eX _ (oi h1).symm (gE Z Z))
 refine lG (λ (q65:Int×Int)=>⟨[(0,.p (eS s_0)),(1,.p (eI i_1)),(7,.p (eI q65.1)),(8,.p (eI q65.2))],[]⟩) (λ m (q65:Int×Int)=>eY s_0 i_1 m q65.1 q65.2) Y (0,0) h1 (gE Z Z) ?_
 rintro m ⟨c19,n20⟩ h1
 replace h1:eY s_0 i_1 (m+1) c19 n20=some o61:=h1
 rw [eY] at h1
 refine nx 2 Z (bd h1 λ o66 h2 h1=>?_)
 refine kN o66 (λ v67=>⟨[(0,.p (eS s_0)),(1,.p (eI i_1)),(7,.p (eI c19)),(8,.p (eI n20)),(27,.p (eB v67))],[]⟩) ?_ ?_
 ·refine nx 1 Z (fB [27] h1 Z (λ c29 h1=>?_) λ c29 h1=>?_)
  ·exact nx 6 Z (oA h1 Z Z λ hk30 h1=>nx 3 Z (oA h1 Z Z λ hk31 h1=>oI h1 Z λ hk32 h1=>bd h1 λ r33 e34 h1=>oK (re (byt s_0 (i_1+n20)) _ e34) Z ⟨sr,trivial⟩ Tryz.call177 Z (oA h1 Z Z λ hk35 h1=>nx 4 Z (oA h1 Z Z λ hk36 h1=>nx 2 Z (eX ((16*c19)+r33,n20+1) h1 (gE Z Z))))))
  exact nx 2 Z (eXi _ (oi h1).symm (gE Z Z))
 refine nx 3 Z (oA h2 Z Z λ hk21 h2=>nx 1 Z (oLs Z (nx 2 Z (fD [14,15] h2 Z (λ c22 h2=>?_) λ c22 h2=>?_))))
 ·refine nx 4 Z (fD [17,18,19] h2 Z (λ c23 h2=>?_) λ c23 h2=>?_)
  ·exact nx 3 Z (oA h2 Z Z λ hk24 h2=>oI h2 Z λ hk25 h2=>bd h2 λ r26 e27 h2=>oK (re (byt s_0 (i_1+n20)) _ e27) Z ⟨sr,trivial⟩ Tryz.call177 Z (nx 3 Z (eX _ (oi h2).symm (gE Z Z))))
  exact nx 9 Z (eX _ (oi h2).symm (gE Z Z))
 exact nx 13 Z (eX _ (oi h2).symm (gE Z Z))
def jV (c_0:Int):Option Bytes :=
 if c_0 < 128 then
  ck ((0:Int)≤IntKind.wrap .u8 (c_0)∧IntKind.wrap .u8 (c_0) < 256) <|
  some [u8 (IntKind.wrap .u8 (c_0))]
 else
  if c_0 < 2048 then
   ck ((0:Int)≤6) <|
   ck ((0:Int)≤IntKind.wrap .u8 (iOr .i64 192 (cS .i64 c_0 6))∧IntKind.wrap .u8 (iOr .i64 192 (cS .i64 c_0 6)) < 256) <|
   ck ((0:Int)≤IntKind.wrap .u8 (iOr .i64 128 (bG .i64 c_0 63))∧IntKind.wrap .u8 (iOr .i64 128 (bG .i64 c_0 63)) < 256) <|
   some [u8 (IntKind.wrap .u8 (iOr .i64 192 (cS .i64 c_0 6))),u8 (IntKind.wrap .u8 (iOr .i64 128 (bG .i64 c_0 63)))]
  else
   if c_0 < 65536 then
    ck ((0:Int)≤12) <|
    ck ((0:Int)≤6) <|
    ck ((0:Int)≤IntKind.wrap .u8 (iOr .i64 224 (cS .i64 c_0 12))∧IntKind.wrap .u8 (iOr .i64 224 (cS .i64 c_0 12)) < 256) <|
    ck ((0:Int)≤IntKind.wrap .u8 (iOr .i64 128 (bG .i64 (cS .i64 c_0 6) 63))∧IntKind.wrap .u8 (iOr .i64 128 (bG .i64 (cS .i64 c_0 6) 63)) < 256) <|
    ck ((0:Int)≤IntKind.wrap .u8 (iOr .i64 128 (bG .i64 c_0 63))∧IntKind.wrap .u8 (iOr .i64 128 (bG .i64 c_0 63)) < 256) <|
    some [u8 (IntKind.wrap .u8 (iOr .i64 224 (cS .i64 c_0 12))),u8 (IntKind.wrap .u8 (iOr .i64 128 (bG .i64 (cS .i64 c_0 6) 63))),u8 (IntKind.wrap .u8 (iOr .i64 128 (bG .i64 c_0 63)))]
   else
    ck ((0:Int)≤18) <|
    ck ((0:Int)≤12) <|
    ck ((0:Int)≤6) <|
    ck ((0:Int)≤IntKind.wrap .u8 (iOr .i64 240 (cS .i64 c_0 18))∧IntKind.wrap .u8 (iOr .i64 240 (cS .i64 c_0 18)) < 256) <|
    ck ((0:Int)≤IntKind.wrap .u8 (iOr .i64 128 (bG .i64 (cS .i64 c_0 12) 63))∧IntKind.wrap .u8 (iOr .i64 128 (bG .i64 (cS .i64 c_0 12) 63)) < 256) <|
    ck ((0:Int)≤IntKind.wrap .u8 (iOr .i64 128 (bG .i64 (cS .i64 c_0 6) 63))∧IntKind.wrap .u8 (iOr .i64 128 (bG .i64 (cS .i64 c_0 6) 63)) < 256) <|
    ck ((0:Int)≤IntKind.wrap .u8 (iOr .i64 128 (bG .i64 c_0 63))∧IntKind.wrap .u8 (iOr .i64 128 (bG .i64 c_0 63)) < 256) <|
    some [u8 (IntKind.wrap .u8 (iOr .i64 240 (cS .i64 c_0 18))),u8 (IntKind.wrap .u8 (iOr .i64 128 (bG .i64 (cS .i64 c_0 12) 63))),u8 (IntKind.wrap .u8 (iOr .i64 128 (bG .i64 (cS .i64 c_0 6) 63))),u8 (IntKind.wrap .u8 (iOr .i64 128 (bG .i64 c_0 63)))]
theorem tb (c_0:Int)(r:Bytes)(h0:jV c_0=some r):aA Tryz.prog 174 [eI c_0] (·=.p (eS r)):=by
 unfold jV at h0
 refine ba good Tryz.func174 Z Z Z λ w0=>mP (λ v:Bytes=>.p (eS v)) ?_
 refine nx 10 Z (fD [4] h0 Z (λ c1 h0=>?_) λ c1 h0=>?_)
 ·exact nx 5 Z (cc' h0 λ hk2 h0=>mO Z (bs eU [u8 (IntKind.wrap .u8 (c_0))] Z Z Z Z Z Z Z Z Z Z Z Z Z (congr (congrArg List.cons (iu hk2)) Z) (mO Z (lI [u8 (IntKind.wrap .u8 (c_0))] Z Z Z Z Z Z Z Z Z Z Z (nx 3 Z (mQ (oi h0) Z (sr)))))))
 refine nx 8 Z (fD [10] h0 Z (λ c3 h0=>?_) λ c3 h0=>?_)
 ·exact nx 4 Z (cc' h0 λ hk4 h0=>mO Z (j9 Z Z Z Z Z Z hk4 (nx 6 Z (cc' h0 λ hk6 h0=>cc' h0 λ hk5 h0=>mO Z (bs eU [u8 (IntKind.wrap .u8 (iOr .i64 192 (cS .i64 c_0 6))),u8 (IntKind.wrap .u8 (iOr .i64 128 (bG .i64 c_0 63)))] Z Z Z Z Z Z Z Z Z Z Z Z Z (congr (congrArg List.cons (iu hk6)) (congr (congrArg List.cons (iu hk5)) Z)) (mO Z (lI [u8 (IntKind.wrap .u8 (iOr .i64 192 (cS .i64 c_0 6))),u8 (IntKind.wrap .u8 (iOr .i64 128 (bG .i64 c_0 63)))] Z Z Z Z Z Z Z Z Z Z Z (nx 3 Z (mQ (oi h0) Z (sr))))))))))
 refine nx 8 Z (fD [22] h0 Z (λ c7 h0=>?_) λ c7 h0=>?_)
 ·refine nx 4 Z (cc' h0 λ hk8 h0=>mO Z (j9 Z Z Z Z Z Z hk8 (nx 3 Z (cc' h0 λ hk9 h0=>mO Z (j9 Z Z Z Z Z Z hk9 (nx 7 Z (cc' h0 λ hk12 h0=>cc' h0 λ hk11 h0=>cc' h0 λ hk10 h0=>mO Z (bs eU [u8 (IntKind.wrap .u8 (iOr .i64 224 (cS .i64 c_0 12))),u8 (IntKind.wrap .u8 (iOr .i64 128 (bG .i64 (cS .i64 c_0 6) 63))),u8 (IntKind.wrap .u8 (iOr .i64 128 (bG .i64 c_0 63)))] Z Z Z Z Z Z Z Z Z Z Z Z Z (congr (congrArg List.cons (iu hk12)) (congr (congrArg List.cons (iu hk11)) (congr (congrArg List.cons (iu hk10)) Z))) (mO Z (lI [u8 (IntKind.wrap .u8 (iOr .i64 224 (cS .i64 c_0 12))),u8 (IntKind.wrap .u8 (iOr .i64 128 (bG .i64 (cS .i64 c_0 6) 63))),u8 (IntKind.wrap .u8 (iOr .i64 128 (bG .i64 c_0 63)))] Z Z Z Z Z Z Z Z Z Z Z ?_))))))))))
  exact nx 3 Z (mQ (oi h0) Z (sr))
 refine nx 5 Z (cc' h0 λ hk13 h0=>mO Z (j9 Z Z Z Z Z Z hk13 (nx 3 Z (cc' h0 λ hk14 h0=>mO Z (j9 Z Z Z Z Z Z hk14 (nx 4 Z (cc' h0 λ hk15 h0=>mO Z (j9 Z Z Z Z Z Z hk15 (nx 7 Z (cc' h0 λ hk19 h0=>?_))))))))))
 exact cc' h0 λ hk18 h0=>cc' h0 λ hk17 h0=>cc' h0 λ hk16 h0=>mO Z (bs eU [u8 (IntKind.wrap .u8 (iOr .i64 240 (cS .i64 c_0 18))),u8 (IntKind.wrap .u8 (iOr .i64 128 (bG .i64 (cS .i64 c_0 12) 63))),u8 (IntKind.wrap .u8 (iOr .i64 128 (bG .i64 (cS .i64 c_0 6) 63))),u8 (IntKind.wrap .u8 (iOr .i64 128 (bG .i64 c_0 63)))] Z Z Z Z Z Z Z Z Z Z Z Z Z (congr (congrArg List.cons (iu hk19)) (congr (congrArg List.cons (iu hk18)) (congr (congrArg List.cons (iu hk17)) (congr (congrArg List.cons (iu hk16)) Z)))) (mO Z (lI [u8 (IntKind.wrap .u8 (iOr .i64 240 (cS .i64 c_0 18))),u8 (IntKind.wrap .u8 (iOr .i64 128 (bG .i64 (cS .i64 c_0 12) 63))),u8 (IntKind.wrap .u8 (iOr .i64 128 (bG .i64 (cS .i64 c_0 6) 63))),u8 (IntKind.wrap .u8 (iOr .i64 128 (bG .i64 c_0 63)))] Z Z Z Z Z Z Z Z Z Z Z (nx 2 Z (mG (gE (t:=⟨[(2,.p (eS [u8 (IntKind.wrap .u8 (iOr .i64 240 (cS .i64 c_0 18))),u8 (IntKind.wrap .u8 (iOr .i64 128 (bG .i64 (cS .i64 c_0 12) 63))),u8 (IntKind.wrap .u8 (iOr .i64 128 (bG .i64 (cS .i64 c_0 6) 63))),u8 (IntKind.wrap .u8 (iOr .i64 128 (bG .i64 c_0 63)))]))],[]⟩) Z Z) (nx 1 Z (mQ (oi h0) Z (sr))))))))
def ja (n:Nat)(s_0:Bytes)(i_1:Int):Option (Bytes×Int×Int) :=
 ck (inR (i_1+1)) <|
 if (s_0.length:Int)≤i_1+1 then
  some (([]:Bytes),0,40)
 else
  ck (inR (i_1+1)) <|
  ck ((0:Int)≤i_1+1∧i_1+1 < (s_0.length:Int)) <|
  if byt s_0 (i_1+1)=110 then
   ck (inR (i_1+2)) <|
   some (([10]:Bytes),i_1+2,0)
  else
   if byt s_0 (i_1+1)=114 then
    ck (inR (i_1+2)) <|
    some (([13]:Bytes),i_1+2,0)
   else
    if byt s_0 (i_1+1)=116 then
     ck (inR (i_1+2)) <|
     some (([9]:Bytes),i_1+2,0)
    else
     (
       if byt s_0 (i_1+1)=34 then
        some true
       else
        some (decide (byt s_0 (i_1+1)=92))
      : Option Bool).bind λ t12 =>
     if t12=true then
      ck (inR (i_1+1)) <|
      ck (inR (i_1+2)) <|
      ck ((0:Int)≤i_1+1∧i_1+1≤i_1+2∧i_1+2≤(s_0.length:Int)) <|
      ck (inR (i_1+2)) <|
      some (sub s_0 (i_1+1) (i_1+2),i_1+2,0)
     else
      if byt s_0 (i_1+1)=117 then
       ck (inR (i_1+2)) <|
       if (s_0.length:Int)≤i_1+2 then
        some (([]:Bytes),0,40)
       else
        ck (inR (i_1+2)) <|
        ck ((0:Int)≤i_1+2∧i_1+2 < (s_0.length:Int)) <|
        if byt s_0 (i_1+2)=123 then
         ck (inR (i_1+3)) <|
         (lb n s_0 (i_1+3)).bind λ r25 =>
         if r25.2.2=0 then
          (jV r25.1).bind λ r28 =>
          some (r28,r25.2.1,0)
         else
          some (([]:Bytes),0,r25.2.2)
        else
         some (([]:Bytes),0,2)
      else
       some (([]:Bytes),0,2)
theorem rT (n:Nat)(s_0:Bytes)(i_1:Int)(r:Bytes×Int×Int)(h0:ja n s_0 i_1=some r):aA Tryz.prog 162 [eS s_0,eI i_1] (·=.tuple [.p (eS r.1),.p (eI r.2.1),.p (eI r.2.2)]):=by
 unfold ja at h0
 refine ba good Tryz.func162 Z Z Z λ w0=>mP (λ v:Bytes×Int×Int=>.tuple [.p (eS v.1),.p (eI v.2.1),.p (eI v.2.2)]) ?_
 refine nx 10 Z (oA h0 Z Z λ hk1 h0=>nx 1 Z (oLs Z (nx 2 Z (fD [14] h0 Z (λ c2 h0=>?_) λ c2 h0=>?_))))
 ·exact nx 8 Z (mQ (oi h0) Z (aC ⟨sr,sr,sr,trivial⟩))
 refine nx 7 Z (oA h0 Z Z λ hk3 h0=>oI h0 Z λ hk4 h0=>nx 7 Z (fD [19,20] h0 Z (λ c5 h0=>?_) λ c5 h0=>?_))
 ·exact nx 4 Z (oA h0 Z Z λ hk6 h0=>nx 5 Z (mQ (oi h0) Z (aC ⟨sr,sr,sr,trivial⟩)))
 refine nx 6 Z (fD [23,24] h0 Z (λ c7 h0=>?_) λ c7 h0=>?_)
 ·exact nx 4 Z (oA h0 Z Z λ hk8 h0=>nx 5 Z (mQ (oi h0) Z (aC ⟨sr,sr,sr,trivial⟩)))
 refine nx 6 Z (fD [27,28] h0 Z (λ c9 h0=>?_) λ c9 h0=>?_)
 ·exact nx 4 Z (oA h0 Z Z λ hk10 h0=>nx 5 Z (mQ (oi h0) Z (aC ⟨sr,sr,sr,trivial⟩)))
 refine nx 2 Z (bd h0 λ o31 h1 h0=>?_)
 refine kN o31 (λ v32=>⟨[(0,.p (eS s_0)),(1,.p (eI i_1)),(18,.p (eK .u8 (byt s_0 (i_1+1)))),(31,.p (eB v32))],[]⟩) ?_ ?_
 ·refine nx 1 Z (fB [31] h0 Z (λ c13 h0=>?_) λ c13 h0=>?_)
  ·exact nx 5 Z (oA h0 Z Z λ hk14 h0=>nx 1 Z (oA h0 Z Z λ hk15 h0=>oP h0 Z Z Z λ hk16 h0=>nx 1 Z (oA h0 Z Z λ hk17 h0=>nx 5 Z (mQ (oi h0) Z (aC ⟨sr,sr,sr,trivial⟩)))))
  refine nx 6 Z (fD [42,43] h0 Z (λ c18 h0=>?_) λ c18 h0=>?_)
  ·refine nx 5 Z (oA h0 Z Z λ hk19 h0=>nx 1 Z (oLs Z (nx 2 Z (fD [48] h0 Z (λ c20 h0=>?_) λ c20 h0=>?_))))
   ·exact nx 8 Z (mQ (oi h0) Z (aC ⟨sr,sr,sr,trivial⟩))
   refine nx 7 Z (oA h0 Z Z λ hk21 h0=>oI h0 Z λ hk22 h0=>nx 2 Z (fN [53] h0 Z (λ c23 h0=>?_) λ c23 h0=>?_))
   ·refine nx 6 Z (oA h0 Z Z λ hk24 h0=>bd h0 λ r25 e26 h0=>oK (tP _ s_0 (i_1+3) _ e26) Z ⟨sr,sr,trivial⟩ Tryz.call173 Z (nx 14 Z (mG (gE (t:=⟨[(7,.p (eI r25.1)),(8,.p (eI r25.2.1)),(9,.p (eI r25.2.2)),(63,.p (eB (!decide (r25.2.2=0))))],[]⟩) Z Z) (fN [63] h0 Z (λ c27 h0=>?_) λ c27 h0=>?_))))
    ·exact nx 5 Z (bd h0 λ r28 e29 h0=>oK (tb r25.1 _ e29) Z ⟨sr,trivial⟩ Tryz.call174 Z (nx 6 Z (mQ (oi h0) Z (aC ⟨sr,sr,sr,trivial⟩))))
    exact nx 9 Z (mQ (oi h0) Z (aC ⟨sr,sr,sr,trivial⟩))
   exact nx 8 Z (mQ (oi h0) Z (aC ⟨sr,sr,sr,trivial⟩))
  exact nx 9 Z (mQ (oi h0) Z (aC ⟨sr,sr,sr,trivial⟩))
 refine nx 5 Z (fD [31,32] h1 Z (λ c11 h1=>?_) λ c11 h1=>?_)
 ·exact nx 2 Z (eX _ (oi h1).symm (gE Z Z))
 exact nx 5 Z (eX _ (oi h1).symm (gE Z Z))
def nb (n:Nat)(s_0:Bytes)(i_1:Int):Option (Bytes×Int×Int) :=
 ck ((0:Int)≤i_1∧i_1 < (s_0.length:Int)) <|
 if byt s_0 i_1=92 then
  (ja n s_0 i_1).bind λ r3 =>
  some (r3.1,r3.2.1,r3.2.2)
 else
  (iM s_0 i_1).bind λ r5 =>
  (
    if r5.2=0 then
     some true
    else
     ck ((0:Int)≤i_1∧i_1 < (s_0.length:Int)) <|
     if byt s_0 i_1 < 32 then
      some true
     else
      ck ((0:Int)≤i_1∧i_1 < (s_0.length:Int)) <|
      some (decide (byt s_0 i_1=127))
   : Option Bool).bind λ t11 =>
  if t11=true then
   some (([]:Bytes),0,2)
  else
   ck (inR (i_1+r5.2)) <|
   ck ((0:Int)≤i_1∧i_1≤i_1+r5.2∧i_1+r5.2≤(s_0.length:Int)) <|
   ck (inR (i_1+r5.2)) <|
   some (sub s_0 i_1 (i_1+r5.2),i_1+r5.2,0)
theorem wv (n:Nat)(s_0:Bytes)(i_1:Int)(r:Bytes×Int×Int)(h0:nb n s_0 i_1=some r):aA Tryz.prog 146 [eS s_0,eI i_1] (·=.tuple [.p (eS r.1),.p (eI r.2.1),.p (eI r.2.2)]):=by
 unfold nb at h0
 refine ba good Tryz.func146 Z Z Z λ w0=>mP (λ v:Bytes×Int×Int=>.tuple [.p (eS v.1),.p (eI v.2.1),.p (eI v.2.2)]) ?_
 refine nx 11 Z (oI h0 Z λ hk1 h0=>nx 2 Z (fD [12] h0 Z (λ c2 h0=>?_) λ c2 h0=>?_))
 ·exact nx 5 Z (bd h0 λ r3 e4 h0=>oK (rT _ s_0 i_1 _ e4) Z ⟨sr,sr,trivial⟩ Tryz.call162 Z (nx 8 Z (mQ (oi h0) Z (aC ⟨sr,sr,sr,trivial⟩))))
 refine nx 6 Z (bd h0 λ r5 e6 h0=>oK (nX s_0 i_1 _ e6) Z ⟨sr,sr,trivial⟩ Tryz.call149 Z (nx 8 Z (bd h0 λ o17 h1 h0=>kN o17 (λ v18=>⟨[(0,.p (eS s_0)),(1,.p (eI i_1)),(8,.p (eI r5.2)),(38,.p (eB v18))],[]⟩) ?_ ?_)))
 ·refine nx 1 Z (fB [38] h0 Z (λ c12 h0=>?_) λ c12 h0=>?_)
  ·exact nx 8 Z (mQ (oi h0) Z (aC ⟨sr,sr,sr,trivial⟩))
  exact nx 8 Z (oA h0 Z Z λ hk13 h0=>oP h0 Z Z Z λ hk14 h0=>nx 2 Z (oA h0 Z Z λ hk15 h0=>nx 5 Z (mQ (oi h0) Z (aC ⟨sr,sr,sr,trivial⟩))))
 refine nx 4 Z (fD [26,27] h1 Z (λ c7 h1=>?_) λ c7 h1=>?_)
 ·exact nx 12 Z (eX _ (oi h1).symm (gE Z Z))
 refine nx 2 Z (oI h1 Z λ hk8 h1=>nx 3 Z (fD [31,32,33] h1 Z (λ c9 h1=>?_) λ c9 h1=>?_))
 ·exact nx 6 Z (eX _ (oi h1).symm (gE Z Z))
 exact nx 2 Z (oI h1 Z λ hk10 h1=>nx 3 Z (eX _ (oi h1).symm (gE Z Z)))
def eG (n:Nat)(s_0:Bytes):Nat→Bytes→Int→Option (Unit⊕(Bytes×Int×Int))
 | 0,_,_=>none
 | m+1,out15,i16 =>
 if i16 < (s_0.length:Int) then
  ck ((0:Int)≤i16∧i16 < (s_0.length:Int)) <|
  if byt s_0 i16=34 then
   if 4096 < (out15.length:Int) then
    some (.inr (([]:Bytes),0,3))
   else
    ck (inR (i16+1)) <|
    some (.inr (out15,i16+1,0))
  else
   (nb n s_0 i16).bind λ r22 =>
   if r22.2.2=0 then
    ck (out15.length+r22.1.length≤9223372036854775807) <|
    eG n s_0 m (out15++r22.1) r22.2.1
   else
    some (.inr (([]:Bytes),0,r22.2.2))
 else
  some (.inl ())
def jp (n:Nat)(s_0:Bytes):Option (Bytes×Int×Int) :=
 if (s_0.length:Int)=0 then
  some (([]:Bytes),0,40)
 else
  ck ((0:Int)≤0∧0 < (s_0.length:Int)) <|
  if byt s_0 0=34 then
   jn (eG n s_0 n ([]:Bytes) 1) λ q28 =>
   some (([]:Bytes),0,40)
  else
   some (([]:Bytes),0,2)
theorem rU (n:Nat)(s_0:Bytes)(r:Bytes×Int×Int)(h0:jp n s_0=some r):aA Tryz.prog 130 [eS s_0] (·=.tuple [.p (eS r.1),.p (eI r.2.1),.p (eI r.2.2)]):=by
 unfold jp at h0
 refine ba good Tryz.func130 Z Z Z λ w0=>mP (λ v:Bytes×Int×Int=>.tuple [.p (eS v.1),.p (eI v.2.1),.p (eI v.2.2)]) ?_
 refine nx 10 Z (oLs Z (nx 2 Z (fD [12] h0 Z (λ c1 h0=>?_) λ c1 h0=>?_)))
 ·exact nx 8 Z (mQ (oi h0) Z (aC ⟨sr,sr,sr,trivial⟩))
 refine nx 6 Z (oI h0 Z λ hk2 h0=>nx 2 Z (fN [15] h0 Z (λ c3 h0=>?_) λ c3 h0=>?_))
 ·refine nx 12 Z ?_
  obtain ⟨o29,h1,hL0,hR0⟩:=fx h0
  refine kEx 0 (λ v30:Unit=>o29=.inl v30) (λ v30=>⟨[],[]⟩) (λ v30 hv=>?_) ?_
  ·have h0:=hL0 _ hv
   exact nx 8 Z (mQ (oi h0) Z (aC ⟨sr,sr,sr,trivial⟩))
  refine lG (λ (q31:Bytes×Int)=>⟨[(0,.p (eS s_0)),(5,.p (eS q31.1)),(6,.p (eI q31.2))],[]⟩) (λ m (q31:Bytes×Int)=>eG n s_0 m q31.1 q31.2) Y (([]:Bytes),1) h1 (gE Z Z) ?_
  rintro m ⟨out15,i16⟩ h1
  replace h1:eG n s_0 (m+1) out15 i16=some o29:=h1
  rw [eG] at h1
  refine nx 5 Z (oLs Z (nx 2 Z (fD [19] h1 Z (λ c17 h1=>?_) λ c17 h1=>?_)))
  ·refine nx 8 Z (oI h1 Z λ hk18 h1=>nx 2 Z (fD [23] h1 Z (λ c19 h1=>?_) λ c19 h1=>?_))
   ·refine nx 5 Z (oLs Z (nx 2 Z (fD [26] h1 Z (λ c20 h1=>?_) λ c20 h1=>?_)))
    ·exact nx 8 Z (mQ (hR0 _ (oi h1).symm) Z (aC ⟨sr,sr,sr,trivial⟩))
    exact nx 6 Z (oA h1 Z Z λ hk21 h1=>nx 5 Z (mQ (hR0 _ (oi h1).symm) Z (aC ⟨sr,sr,sr,trivial⟩)))
   refine nx 6 Z (bd h1 λ r22 e23 h1=>oK (wv _ s_0 i16 _ e23) Z ⟨sr,sr,trivial⟩ Tryz.call146 Z (nx 14 Z ?_))
   refine fN [38] h1 Z (λ c24 h1=>?_) λ c24 h1=>?_
   ·exact nx 6 Z (oC h1 Z λ hk25 h1=>nx 6 Z (eX (out15++r22.1,r22.2.1) h1 (gE Z Z)))
   exact nx 9 Z (mQ (hR0 _ (oi h1).symm) Z (aC ⟨sr,sr,sr,trivial⟩))
  exact nx 2 Z (eXi _ (oi h1).symm (gE Z Z))
 exact nx 8 Z (mQ (oi h0) Z (aC ⟨sr,sr,sr,trivial⟩))
def gm:Nat→Int→Option Bytes
 | 0,_=>none
 | n+1,c_0 =>
 ck ((16:Int)≠0) <|
 ck ((16:Int)≠0) <|
 ck (inR ((c_0.tmod 16)+1)) <|
 ck ((0:Int)≤c_0.tmod 16∧c_0.tmod 16≤(c_0.tmod 16)+1∧(c_0.tmod 16)+1≤(([48,49,50,51,52,53,54,55,56,57,97,98,99,100,101,102]:Bytes).length:Int)) <|
 if c_0 < 16 then
  some (sub ([48,49,50,51,52,53,54,55,56,57,97,98,99,100,101,102]:Bytes) (c_0.tmod 16) ((c_0.tmod 16)+1))
 else
  ck ((16:Int)≠0) <|
  ((gm n) (IntKind.wrap .i64 (c_0.tdiv 16))).bind λ r7 =>
  ck (r7.length+(sub ([48,49,50,51,52,53,54,55,56,57,97,98,99,100,101,102]:Bytes) (c_0.tmod 16) ((c_0.tmod 16)+1)).length≤9223372036854775807) <|
  some (r7++(sub ([48,49,50,51,52,53,54,55,56,57,97,98,99,100,101,102]:Bytes) (c_0.tmod 16) ((c_0.tmod 16)+1)))
theorem s5 (n:Nat):∀ (c_0:Int) (r:Bytes),gm n c_0=some r→aA Tryz.prog 150 [eI c_0] (·=.p (eS r)):=by
 induction n with
 | zero=>intro c_0 r h0; cases h0
 | succ n ih =>
 have ih_ref02_digits_ok:=ih
 intro c_0 r h0
 rw [gm] at h0
 refine ba good Tryz.func150 Z Z Z λ w0=>mP (λ v:Bytes=>.p (eS v)) ?_
 refine nx 7 Z (cc' h0 λ hk1 h0=>mO Z (tw Z Z Z Z Z Z hk1 (nx 1 Z (cc' h0 λ hk2 h0=>mO Z (tw Z Z Z Z Z Z hk2 (oA h0 Z Z λ hk3 h0=>oP h0 Z Z Z λ hk4 h0=>nx 8 Z (fD [11] h0 Z (λ c5 h0=>?_) λ c5 h0=>?_)))))))
 ·exact nx 7 Z (mQ (oi h0) Z (sr))
 exact nx 5 Z (cc' h0 λ hk6 h0=>mO Z (tw Z Z Z Z Z Z hk6 (bd h0 λ r7 e8 h0=>oK (ih_ref02_digits_ok (IntKind.wrap .i64 (c_0.tdiv 16)) _ e8) Z ⟨sr,trivial⟩ Tryz.call150 Z (nx 1 Z (oC h0 Z λ hk9 h0=>nx 3 Z (mQ (oi h0) Z (sr)))))))
def jl (n:Nat)(b_0:Int):Option Bytes :=
 if b_0=10 then
  some ([92,110]:Bytes)
 else
  if b_0=13 then
   some ([92,114]:Bytes)
  else
   if b_0=9 then
    some ([92,116]:Bytes)
   else
    if b_0=34 then
     some ([92,34]:Bytes)
    else
     if b_0=92 then
      some ([92,92]:Bytes)
     else
      (
        if b_0 < 32 then
         some true
        else
         some (decide (b_0=127))
       : Option Bool).bind λ t7 =>
      if t7=true then
       ck (inR (b_0)) <|
       (gm n b_0).bind λ r10 =>
       ck (([92,117,123]:Bytes).length+r10.length≤9223372036854775807) <|
       ck ((([92,117,123]:Bytes)++r10).length+([125]:Bytes).length≤9223372036854775807) <|
       some ((([92,117,123]:Bytes)++r10)++([125]:Bytes))
      else
       ck ((0:Int)≤b_0∧b_0 < 256) <|
       some [u8 b_0]
theorem rN (n:Nat)(b_0:Int)(r:Bytes)(h0:jl n b_0=some r):aA Tryz.prog 133 [eK .u8 b_0] (·=.p (eS r)):=by
 unfold jl at h0
 refine ba good Tryz.func133 Z Z Z λ w0=>mP (λ v:Bytes=>.p (eS v)) ?_
 refine nx 15 Z (fD [4,5] h0 Z (λ c1 h0=>?_) λ c1 h0=>?_)
 ·exact nx 6 Z (mQ (oi h0) Z (sr))
 refine nx 6 Z (fD [6,7] h0 Z (λ c2 h0=>?_) λ c2 h0=>?_)
 ·exact nx 6 Z (mQ (oi h0) Z (sr))
 refine nx 6 Z (fD [8,9] h0 Z (λ c3 h0=>?_) λ c3 h0=>?_)
 ·exact nx 6 Z (mQ (oi h0) Z (sr))
 refine nx 6 Z (fD [10,11] h0 Z (λ c4 h0=>?_) λ c4 h0=>?_)
 ·exact nx 6 Z (mQ (oi h0) Z (sr))
 refine nx 6 Z (fD [12,13] h0 Z (λ c5 h0=>?_) λ c5 h0=>?_)
 ·exact nx 6 Z (mQ (oi h0) Z (sr))
 refine nx 4 Z (bd h0 λ o16 h1 h0=>?_)
 refine kN o16 (λ v17=>⟨[(0,.p (eK .u8 b_0)),(19,.p (eB v17))],[]⟩) ?_ ?_
 ·refine nx 1 Z (fB [19] h0 Z (λ c8 h0=>?_) λ c8 h0=>?_)
  ·exact nx 4 Z (cc' h0 λ hk9 h0=>mO Z (d5 Z Z Z Z Z Z Z Z (g0 hk9) (bd h0 λ r10 e11 h0=>oK (s5 _ b_0 _ e11) Z ⟨sr,trivial⟩ Tryz.call150 Z (oC h0 Z λ hk12 h0=>oC h0 Z λ hk13 h0=>nx 3 Z (mQ (oi h0) Z (sr))))))
  exact nx 5 Z (cc' h0 λ hk14 h0=>mO Z (bs eU [u8 b_0] Z Z Z Z Z Z Z Z Z Z Z Z Z (congr (congrArg List.cons (iu hk14)) Z) (mO Z (lI [u8 b_0] Z Z Z Z Z Z Z Z Z Z Z (nx 3 Z (mQ (oi h0) Z (sr)))))))
 refine nx 4 Z (fD [15,16] h1 Z (λ c6 h1=>?_) λ c6 h1=>?_)
 ·exact nx 4 Z (eX _ (oi h1).symm (gE Z Z))
 exact nx 4 Z (eX _ (oi h1).symm (gE Z Z))
def eZ (n:Nat)(s_0:Bytes):Nat→Bytes→Int→Option Bytes
 | 0,_,_=>none
 | m+1,out9,i10 =>
 if i10 < (s_0.length:Int) then
  ck ((0:Int)≤i10∧i10 < (s_0.length:Int)) <|
  (jl n (byt s_0 i10)).bind λ r13 =>
  ck (out9.length+r13.length≤9223372036854775807) <|
  ck (inR (i10+1)) <|
  eZ n s_0 m (out9++r13) (i10+1)
 else
  some out9
def jI (n:Nat)(s_0:Bytes):Option Bytes :=
 (eZ n s_0 n ([34]:Bytes) 0).bind λ out19 =>
 ck (out19.length+([34]:Bytes).length≤9223372036854775807) <|
 some (out19++([34]:Bytes))
theorem l5 (n:Nat)(s_0:Bytes)(r:Bytes)(h0:jI n s_0=some r):aA Tryz.prog 110 [eS s_0] (·=.p (eS r)):=by
 unfold jI at h0
 refine ba good Tryz.func110 Z Z Z λ w0=>mP (λ v:Bytes=>.p (eS v)) ?_
 refine nx 14 Z (bd h0 λ o22 h1 h0=>?_)
 refine kE 0 o22 (λ v23=>⟨[(3,.p (eS v23))],[]⟩) ?_ ?_
 ·exact nx 4 Z (oC h0 Z λ hk20 h0=>nx 3 Z (mQ (oi h0) Z (sr)))
 refine lG (λ (q24:Bytes×Int)=>⟨[(0,.p (eS s_0)),(3,.p (eS q24.1)),(4,.p (eI q24.2))],[]⟩) (λ m (q24:Bytes×Int)=>eZ n s_0 m q24.1 q24.2) Y (([34]:Bytes),0) h1 (gE Z Z) ?_
 rintro m ⟨out9,i10⟩ h1
 replace h1:eZ n s_0 (m+1) out9 i10=some o22:=h1
 rw [eZ] at h1
 refine nx 5 Z (oLs Z (nx 2 Z (fD [8] h1 Z (λ c11 h1=>?_) λ c11 h1=>?_)))
 ·exact nx 8 Z (oI h1 Z λ hk12 h1=>bd h1 λ r13 e14 h1=>oK (rN _ (byt s_0 i10) _ e14) Z ⟨sr,trivial⟩ Tryz.call133 Z (oC h1 Z λ hk15 h1=>nx 4 Z (oA h1 Z Z λ hk16 h1=>nx 2 Z (eX (out9++r13,i10+1) h1 (gE Z Z)))))
 exact nx 2 Z (eXi _ (oi h1).symm (gE Z Z))
def fL (s_0:Bytes):Nat→Int→Option (Unit⊕Bool)
 | 0,_=>none
 | m+1,i8 =>
 if i8 < (s_0.length:Int) then
  (iM s_0 i8).bind λ r10 =>
  if r10.2=0 then
   some (.inr false)
  else
   ck (inR (i8+r10.2)) <|
   fL s_0 m (i8+r10.2)
 else
  some (.inl ())
def kM (n:Nat)(s_0:Bytes):Option Bool :=
 if 4096 < (s_0.length:Int) then
  some false
 else
  jn (fL s_0 n 0) λ q15 =>
  some true
theorem tK (n:Nat)(s_0:Bytes)(r:Bool)(h0:kM n s_0=some r):aA Tryz.prog 132 [eS s_0] (·=.p (eB r)):=by
 unfold kM at h0
 refine ba good Tryz.func132 Z Z Z λ w0=>mP (λ v:Bool=>.p (eB v)) ?_
 refine nx 8 Z (oLs Z (nx 2 Z (fD [8] h0 Z (λ c1 h0=>?_) λ c1 h0=>?_)))
 ·exact nx 6 Z (mQ (oi h0) Z (sr))
 refine nx 8 Z ?_
 obtain ⟨o16,h1,hL0,hR0⟩:=fx h0
 refine kEx 0 (λ v17:Unit=>o16=.inl v17) (λ v17=>⟨[],[]⟩) (λ v17 hv=>?_) ?_
 ·have h0:=hL0 _ hv
  exact nx 6 Z (mQ (oi h0) Z (sr))
 refine lG (λ (q18:Int)=>⟨[(0,.p (eS s_0)),(3,.p (eI q18))],[]⟩) (λ m (q18:Int)=>fL s_0 m q18) Y 0 h1 (gE Z Z) ?_
 rintro m i8 h1
 replace h1:fL s_0 (m+1) i8=some o16:=h1
 rw [fL] at h1
 refine nx 5 Z (oLs Z (nx 2 Z (fD [12] h1 Z (λ c9 h1=>?_) λ c9 h1=>?_)))
 ·refine nx 7 Z (bd h1 λ r10 e11 h1=>oK (nX s_0 i8 _ e11) Z ⟨sr,sr,trivial⟩ Tryz.call149 Z (nx 12 Z ?_))
  refine fD [20] h1 Z (λ c12 h1=>?_) λ c12 h1=>?_
  ·exact nx 6 Z (mQ (hR0 _ (oi h1).symm) Z (sr))
  exact nx 5 Z (oA h1 Z Z λ hk13 h1=>nx 2 Z (eX (i8+r10.2) h1 (gE Z Z)))
 exact nx 2 Z (eXi _ (oi h1).symm (gE Z Z))
end Go.Ab.R06
end
