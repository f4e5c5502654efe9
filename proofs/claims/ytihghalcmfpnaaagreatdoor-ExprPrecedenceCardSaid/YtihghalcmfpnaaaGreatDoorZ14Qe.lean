/- Texts of the proof, one behind the other. No statement is proved here. -/
import Derived.Test.YtihghalcmfpnaaaGreatDoorZ14Qa
import Derived.Test.YtihghalcmfpnaaaGreatDoorZ14Qb
import Derived.Test.YtihghalcmfpnaaaGreatDoorZ14Qc
import Derived.Test.YtihghalcmfpnaaaGreatDoorZ14Qd
set_option maxHeartbeats 4000000
section
namespace Go.Ab.R06
open Go.Proofs Go.Ab Go.Ab.RB
set_option maxRecDepth 4000
attribute [local irreducible] awp gk aX bv bV AV.sub M cC
instance Pg:HE Tryz.prog 155:=⟨Tryz.call155⟩
instance OG:HE Tryz.prog 118:=⟨Tryz.call118⟩
def sB (Mr:Bytes):Nat->Int->Option Int
 | 0,_=>none
 | m+1,at11 =>
 (
   if at11 < (Mr.length:Int) then
    ck ((0:Int)<=at11/\at11 < (Mr.length:Int)) <|
    if byt Mr at11=32 then
     some true
    else
     ck ((0:Int)<=at11/\at11 < (Mr.length:Int)) <|
     if byt Mr at11=9 then
      some true
     else
      ck ((0:Int)<=at11/\at11 < (Mr.length:Int)) <|
      some (decide (byt Mr at11=13))
   else
    some false
  ).bind λ t18 =>
 if t18=true then
  ck (inR (at11+1)) <|
  sB Mr m (at11+1)
 else
  some at11
def il (Sp:Int):Option Bool :=
 (
   if 97<=Sp then
    if Sp<=122 then
     some true
    else
     if 65<=Sp then
      if Sp<=90 then
       some true
      else
       some (decide (Sp=95))
     else
      some (decide (Sp=95))
   else
    if 65<=Sp then
     if Sp<=90 then
      some true
     else
      some (decide (Sp=95))
    else
     some (decide (Sp=95))
  ).bind λ t7 =>
 some t7
instance EP (Sp:Int):∀ (r:Bool),HP (il Sp=some r) Tryz.prog 155 [eK .u8 Sp] (.p (eB r)):=by
 refine hP good Tryz.func155 Z Z λ r h0 _ w0=>?_;unfold il at h0;exact kL
def cu (Mr:Bytes):Nat->Int->Option (Unit⊕Bool)
 | 0,_=>none
 | m+1,i20 =>
 if i20 < (Mr.length:Int) then
  (
    ck ((0:Int)<=i20/\i20 < (Mr.length:Int)) <|
    (il (byt Mr i20)).bind λ Sj =>
    if (!Sj)=true then
     ck ((0:Int)<=i20/\i20 < (Mr.length:Int)) <|
     if byt Mr i20 < 48 then
      some true
     else
      ck ((0:Int)<=i20/\i20 < (Mr.length:Int)) <|
      some (decide (57 < byt Mr i20))
    else
     some false
   ).bind λ W6 =>
  if W6=true then
   some (.inr false)
  else
   ck (inR (i20+1)) <|
   cu Mr m (i20+1)
 else
  some (.inl ())
def eO (n:Nat)(Mr:Bytes):Option Bool :=
 (
   if Mr=([]:Bytes) then
    some true
   else
    if 64 < (Mr.length:Int) then
     some true
    else
     ck ((0:Int)<=0/\0 < (Mr.length:Int)) <|
     (il (byt Mr 0)).bind λ r4 =>
     some (!r4)
  ).bind λ t6 =>
 if t6=true then
  some false
 else
  jn (cu Mr n 0) λ _q34 =>
  some true
instance zA (n:Nat) (Mr:Bytes):∀ (r:Bool),HP (eO n Mr=some r) Tryz.prog 118 [eS Mr] (.p (eB r)):=by
 refine hP good Tryz.func118 Z Z λ r h0 _ w0=>?_;unfold eO at h0;refine nx 6 Z (bd h0 λ o36 h1 h0=>kN o36 (λ v37=>⟨[(0,.p (eS Mr)),(16,.p (eB v37))],[]⟩) ?_ ?_)
 ·refine nx 1 Z (fB [16] h0 Z (λ c7 h0=>?_) λ c7 h0=>?_)
  ·exact J0
  refine nx 8 rfl ?_;obtain ⟨o38,h1,Sl,hR0⟩:=cm h0;refine kEx 0 (λ v39:Unit=>o38=.inl v39) (λ v39=>⟨[],[]⟩) (λ v39 hv=>?_) ?_
  ·exact jQ
  refine lG (λ (Vz:Int)=>⟨[(0,.p (eS Mr)),(3,.p (eI Vz))],[]⟩) (λ m (Vz:Int)=>cu Mr m Vz) Y 0 h1 (gE rfl rfl) ?_;rintro m i20 h1;replace h1:cu Mr (m+1) i20=some o38:=h1;rw [cu] at h1;have:=js [600];have:=jS 600 Bool λ v=>[(39,.p (eB v))]
  exact aG
 exact aG
end Go.Ab.R06
end
section
namespace Go.Ab.R06
open Go.Ab Go.Ab.RB Go.Lib
theorem Do {src:Bytes->SE⊕Bytes}{l:Bytes}(hs:∀ r e,src r=.inl e->e.1≠0){e:SE}(h:iE src l=.inl e):e.1≠0:=by
 cases l with
 | nil=>cases h; decide
 | cons b r =>
  rw [fz] at h;split at h
  ·split at h
   ·cases h; exact (by decide:(7:Int)≠0)
   ·cases h
  split at h
  ·cases h
  split at h
  ·cases h
  split at h
  ·split at h
   ·rename_i e' he; cases h; exact hs _ _ he
   ·cases h
  split at h
  ·cases h; exact (by decide:(2:Int)≠0)
  ·cases h
theorem Ic:∀ (f k:Nat),(∀ l e,eg f k l=.inl e->e.1≠0)/\(∀ n l e,iH f k n l=.inl e->e.1≠0)
 | 0,k=>⟨λ l e h=>(by rw [eg] at h; cases h; decide),λ n l e h=>(by rw [iH] at h; cases h; decide)⟩
 | f+1,k=>by
  have ih:=Ic f;constructor
  ·intro l e h
   cases l with
   | nil=>rw [eg] at h; cases h; decide
   | cons b r =>
    rw [jH] at h;split at h
    ·cases h
    split at h
    ·exact (ih k).1 _ _ h
    split at h
    ·split at h
     ·cases h; exact (by decide:(4:Int)≠0)
     ·split at h
      ·rename_i e' he; cases h; exact (ih (k+1)).2 _ _ _ he
      ·exact (ih k).1 _ _ h
    split at h
    ·cases h; decide
    ·split at h
     ·cases h; exact (by decide:(2:Int)≠0)
     ·exact (ih k).1 _ _ h
  ·intro n l e h;rw [jM] at h;generalize dz false l=l0 at h
   cases l0 with
   | nil=>cases h; decide
   | cons b r =>
    rw [iq] at h
    cases hq:iE (eg f k) (b::r) with
    | inl e'=>rw [hq] at h; cases h; exact Do (ih k).1 hq
    | inr z =>
     obtain ⟨c,t,l'⟩:=z;rw [hq,jl] at h;split at h
     ·split at h
      ·cases h
      ·exact (ih k).2 _ _ _ h
     split at h
     ·exact (ih k).2 _ _ _ h
     ·exact (ih k).2 _ _ _ h
end Go.Ab.R06
end
section
namespace Go.Ab.R06
open Go.Proofs Go.Ab Go.Ab.RB
set_option maxRecDepth 4000
attribute [local irreducible] awp gk aX bv bV AV.sub M cC
instance O6:HE Tryz.prog 152:=⟨Tryz.call152⟩
instance Oa:HE Tryz.prog 153:=⟨Tryz.call153⟩
instance Ow:HE Tryz.prog 151:=⟨Tryz.call151⟩
instance Ns:HE Tryz.prog 117:=⟨Tryz.call117⟩
instance Nh:HE Tryz.prog 119:=⟨Tryz.call119⟩
instance O5:HE Tryz.prog 115:=⟨Tryz.call115⟩
instance OK:HE Tryz.prog 116:=⟨Tryz.call116⟩
instance NL:HE Tryz.prog 120:=⟨Tryz.call120⟩
instance Na:HE Tryz.prog 69:=⟨Tryz.call69⟩
instance PP:HE Tryz.prog 32:=⟨Tryz.call32⟩
def aH (Sa:Int):Option Bool :=
 (
   if Sa=12 then
    some true
   else
    some (decide (Sa=13))
  ).bind λ t2 =>
 some t2
instance Kn (Sa:Int):∀ (r:Bool),HP (aH Sa=some r) Tryz.prog 152 [eI Sa] (.p (eB r)):=by
 refine hP good Tryz.func152 Z Z λ r h0 _ w0=>?_;unfold aH at h0;exact kL
def aB (Sa:Int):Option Bool :=
 (
   if Sa=3 then
    some true
   else
    if Sa=4 then
     some true
    else
     if Sa=9 then
      some true
     else
      (aH Sa).bind λ r4 =>
      some r4
  ).bind λ t6 =>
 some t6
instance Ih (Sa:Int):∀ (r:Bool),HP (aB Sa=some r) Tryz.prog 117 [eI Sa] (.p (eB r)):=by
 refine hP good Tryz.func117 Z Z λ r h0 _ w0=>?_;unfold aB at h0;exact kL
def em (Sa:Int)(n_1:Int):Option Bool :=
 (
   if Sa=1 then
    some true
   else
    some (decide (Sa=3))
  ).bind λ t2 =>
 if t2=true then
  some (decide (n_1=0))
 else
  if Sa=2 then
   some (decide (1<=n_1))
  else
   (
     if Sa=4 then
      some true
     else
      some (decide (Sa=6))
    ).bind λ t6 =>
   if t6=true then
    some (decide (n_1=1))
   else
    (
      if Sa=5 then
       some true
      else
       some (decide (Sa=7))
     ).bind λ t9 =>
    if t9=true then
     some (decide (n_1=2))
    else
     if Sa=8 then
      some (decide (n_1=3))
     else
      (
        if Sa=9 then
         some true
        else
         some (decide (Sa=10))
       ).bind λ t13 =>
      if t13=true then
       some true
      else
       if Sa=11 then
        ck ((2:Int)≠0) <|
        some (decide (n_1.tmod 2=0))
       else
        if Sa=12 then
         (
           if n_1=2 then
            some true
           else
            some (decide (n_1=3))
          ).bind λ SO =>
         some SO
        else
         if Sa=13 then
          (
            if n_1=3 then
             some true
            else
             some (decide (n_1=4))
           ).bind λ t22 =>
          some t22
         else
          some false
instance Kw (Sa:Int) (n_1:Int):∀ (r:Bool),HP (em Sa n_1=some r) Tryz.prog 151 [eI Sa,eI n_1] (.p (eB r)):=by
 refine hP good Tryz.func151 Z Z λ r h0 _ w0=>?_;unfold em at h0;refine nx 11 Z (bd h0 λ TH h1 h0=>?_);refine kN TH (λ SP=>⟨[(1,.p (eI n_1)),(5,.p (eI Sa)),(6,.p (eB SP))],[]⟩) ?_ ?_
 ·refine nx 1 Z (fB [6] h0 Z (λ c3 h0=>?_) λ c3 h0=>?_)
  ·exact J0
  refine nx 6 Z (fD [11,12] h0 Z (λ c4 h0=>?_) λ c4 h0=>?_)
  ·exact J0
  refine nx 2 Z (bd h0 λ V4 h1 h0=>?_);refine kN V4 (λ Vs=>⟨[(1,.p (eI n_1)),(5,.p (eI Sa)),(15,.p (eB Vs))],[]⟩) ?_ ?_
  ·refine nx 1 Z (fB [15] h0 Z (λ c7 h0=>?_) λ c7 h0=>?_)
   ·exact J0
   refine nx 2 Z (bd h0 λ Xn h1 h0=>?_);refine kN Xn (λ W1=>⟨[(1,.p (eI n_1)),(5,.p (eI Sa)),(20,.p (eB W1))],[]⟩) ?_ ?_
   ·refine nx 1 Z (fB [20] h0 Z (λ VR h0=>?_) λ VR h0=>?_)
    ·exact J0
    refine nx 6 Z (fD [25,26] h0 Z (λ Uy h0=>?_) λ Uy h0=>?_)
    ·exact J0
    refine nx 2 Z (bd h0 λ TU h1 h0=>?_);refine kN TU (λ Vq=>⟨[(1,.p (eI n_1)),(5,.p (eI Sa)),(29,.p (eB Vq))],[]⟩) ?_ ?_
    ·refine nx 1 Z (fB [29] h0 Z (λ Vh h0=>?_) λ Vh h0=>?_)
     ·exact J0
     refine nx 6 Z (fD [32,33] h0 Z (λ c15 h0=>?_) λ c15 h0=>?_)
     ·refine nx 4 Z (cc' h0 λ TZ h0=>?_);refine mO Z (oY Z Z Z Z Z Z TZ ?_);exact J0
     have:=js [2100,2300];have:=jS 2100 Bool λ v=>[(4,.p (eB v))]
     have:=jS 2300 Bool λ v=>[(4,.p (eB v))]
     exact J0
    exact aG
   exact aG
  exact aG
 exact aG
def fc (Rz:ag):Option Bool :=
 (
   if Rz.Ar=0 then
    if Rz.F'=0 then
     if Rz.If=([]:Bytes) then
      if (Rz.Gw.length:Int)=0 then
       some (decide ((Rz.Df.length:Int)=0))
      else
       some false
     else
      some false
    else
     some false
   else
    some false
  ).bind λ t5 =>
 some t5
instance Kz (Rz:ag):∀ (r:Bool),HP (fc Rz=some r) Tryz.prog 153 [.agg (ag.cs Rz)] (.p (eB r)):=by
 refine hP good Tryz.func153 Z Z λ r h0 _ w0=>?_;unfold fc at h0;exact kL
def d7 (M':aa):Option Bool :=
 (
   (em M'.Ar (M'.AI.length:Int)).bind λ r1 =>
   if (!r1)=true then
    some true
   else
    (aH M'.Ar).bind λ r4 =>
    if (!r4)=true then
     if M'.B'=([]:Bytes) then
      (aB M'.Ar).bind λ r8 =>
      if (!r8)=true then
       some (!decide (M'.A'=([]:Bytes)))
      else
       some false
     else
      some true
    else
     (aB M'.Ar).bind λ Ug =>
     if (!Ug)=true then
      some (!decide (M'.A'=([]:Bytes)))
     else
      some false
  ).bind λ W8 =>
 if W8=true then
  some false
 else
  if M'.Ar=1 then
   (
     if M'.fOp=0 then
      if M'.By.Ar=0 then
       some true
      else
       if M'.By.Ar=1 then
        some true
       else
        if M'.By.Ar=3 then
         some true
        else
         if M'.By.Ar=2 then
          some (decide (0<=M'.By.F'))
         else
          some false
     else
      some false
    ).bind λ t22 =>
   some t22
  else
   (fc M'.By).bind λ Sj =>
   if (!Sj)=true then
    some false
   else
    if M'.Ar=6 then
     (
       if M'.fOp=1 then
        some true
       else
        some (decide (M'.fOp=2))
      ).bind λ W7 =>
     some W7
    else
     if M'.Ar=7 then
      (
        if 3<=M'.fOp then
         some (decide (M'.fOp<=15))
        else
         some false
       ).bind λ t31 =>
      some t31
     else
      some (decide (M'.fOp=0))
instance E3 (M':aa):∀ (r:Bool),HP (d7 M'=some r) Tryz.prog 115 [.agg (aa.cs M')] (.p (eB r)):=by
 refine hP good Tryz.func115 Z Z λ r h0 _ w0=>?_;unfold d7 at h0;have:=js [100,500,1000,1200];have:=jS 100 Bool λ v=>[(32,.p (eB v))]
 have:=jS 500 Bool λ v=>[(2,.p (eB v))]
 have:=jS 1000 Bool λ v=>[(2,.p (eB v))]
 have:=jS 1200 Bool λ v=>[(2,.p (eB v))]
 exact J0
def fV (Mr:Bytes):Option Bool :=
 (
   if Mr=([110,117,108,108]:Bytes) then
    some true
   else
    if Mr=([116,114,117,101]:Bytes) then
     some true
    else
     if Mr=([102,97,108,115,101]:Bytes) then
      some true
     else
      if Mr=([102,111,114]:Bytes) then
       some true
      else
       if Mr=([105,110]:Bytes) then
        some true
       else
        some (decide (Mr=([105,102]:Bytes)))
  ).bind λ t6 =>
 some t6
instance B8 (Mr:Bytes):∀ (r:Bool),HP (fV Mr=some r) Tryz.prog 119 [eS Mr] (.p (eB r)):=by
 refine hP good Tryz.func119 Z Z λ r h0 _ w0=>?_;unfold fV at h0;exact kL
def nj (n:Nat)(Mr:Bytes):Option Bool :=
 (
   (eO n Mr).bind λ r1 =>
   if r1=true then
    (fV Mr).bind λ r4 =>
    some (!r4)
   else
    some false
  ).bind λ t6 =>
 some t6
instance Kr (n:Nat) (Mr:Bytes):∀ (r:Bool),HP (nj n Mr=some r) Tryz.prog 120 [eS Mr] (.p (eB r)):=by
 refine hP good Tryz.func120 Z Z λ r h0 _ w0=>?_;unfold nj at h0;exact kL
def lJ (n:Nat)(M':aa):Option Int :=
 (d7 M').bind λ r1 =>
 if (!r1)=true then
  some 1
 else
  if M'.Ar=1 then
   (kj n M'.By).bind λ r5 =>
   some r5
  else
   (
     (aB M'.Ar).bind λ r7 =>
     if r7=true then
      (eO n M'.A').bind λ R5 =>
      if (!R5)=true then
       some true
      else
       if M'.Ar=4 then
        some false
       else
        (fV M'.A').bind λ T9 =>
        some T9
     else
      some false
    ).bind λ Sr =>
   if Sr=true then
    some 7
   else
    (
      if M'.B'=([]:Bytes) then
       some false
      else
       (nj n M'.B').bind λ Uj =>
       some (!Uj)
     ).bind λ t21 =>
    if t21=true then
     some 7
    else
     some 0
instance Kx (n:Nat) (M':aa):∀ (r:Int),HP (lJ n M'=some r) Tryz.prog 69 [.agg (aa.cs M')] (.p (eI r)):=by
 refine hP good Tryz.func69 Z Z λ r h0 _ w0=>?_;unfold lJ at h0;have:=js [500,700];have:=jS 500 Bool λ v=>[(30,.p (eB v))]
 have:=jS 700 Bool λ v=>[(39,.p (eB v))]
 exact J0
def bW (SF:aa->Int->Int->Option (Int×Int))(M':aa)(O':Int):Nat->Int->Int->Int->Option (Int×Int)
 | 0,_,_,_=>none
 | m+1,k17,n18,i19 =>
 (
   if i19 < (M'.AI.length:Int) then
    some (decide (k17=0))
   else
    some false
  ).bind λ t21 =>
 if t21=true then
  ck ((0:Int)<=i19/\i19 < (M'.AI.length:Int)) <|
  ck (inR (O'+1)) <|
  (SF (lat M'.AI i19) (O'+1) n18).bind λ Tn =>
  ck (inR (i19+1)) <|
  bW SF M' O' m Tn.1 Tn.2 (i19+1)
 else
  some (k17,n18)
def dm:Nat->aa->Int->Int->Option (Int×Int)
 | 0,_,_,_=>none
 | n+1,M',O',RH =>
 if 32 < O' then
  some (4,0)
 else
  if 4096<=RH then
   some (14,0)
  else
   (lJ n M').bind λ r3 =>
   ck (inR (RH+1)) <|
   (bW (dm n) M' O' n r3 (RH+1) 0).bind λ Uc =>
   some (Uc.1,Uc.2)
instance Gb (n:Nat):∀ (M':aa) (O':Int) (RH:Int) (r:Int×Int),HP (dm n M' O' RH=some r) Tryz.prog 32 [.agg (aa.cs M'),eI O',eI RH] (.tuple [.p (eI r.1),.p (eI r.2)]):=by
 induction n with
 | zero=>exact Zr
 | succ n ih =>
 refine λ M' O' RH=>hP good Tryz.func32 Z Z λ r h0 _ w0=>?_;rw [dm] at h0;refine nx 12 Z (fD [12] h0 Z (λ c1 h0=>?_) λ c1 h0=>?_)
 ·exact J0
 refine nx 8 Z (fD [14] h0 Z (λ c2 h0=>?_) λ c2 h0=>?_)
 ·exact J0
 refine nx 5 Z (K0 λ r3 h0=>nx 5 Z ?_);refine oA h0 Z Z λ Up h0=>nx 8 Z (bd h0 λ TU h1 h0=>?_);refine kE 0 TU (λ Vq=>⟨[(8,.p (eI Vq.1)),(9,.p (eI Vq.2))],[]⟩) ?_ ?_
 ·exact J0
 refine lG (λ (VA:Int×Int×Int)=>⟨[(1,.p (eI O')),(3,.ptr 3 0),(8,.p (eI VA.1)),(9,.p (eI VA.2.1)),(10,.p (eI VA.2.2))],[(3,(aa.cs M').map .p)]⟩) (λ m (VA:Int×Int×Int)=>bW (dm n) M' O' m VA.1 VA.2.1 VA.2.2) Y (r3,RH+1,0) h1 (gE rfl rfl) ?_;rintro m ⟨k17,n18,i19⟩ h1;replace h1:bW (dm n) M' O' (m+1) k17 n18 i19=some TU:=h1;rw [bW] at h1;have:=js [800];have:=jS 800 Bool λ v=>[(27,.p (eB v))]
 exact aG
def kr (n:Nat)(M':aa):Option Int :=
 (dm n M' 1 0).bind λ r1 =>
 some r1.1
instance Hq (n:Nat) (M':aa):∀ (r:Int),HP (kr n M'=some r) Tryz.prog 13 [.agg (aa.cs M')] (.p (eI r)):=by
 refine hP good Tryz.func13 Z Z λ r h0 _ w0=>?_;unfold kr at h0;exact J0
instance NF:HE Tryz.prog 30:=⟨Tryz.call30⟩
def uA (SG:aa->Option Int)(M':aa):Nat->Int->Int->Option Int
 | 0,_,_=>none
 | m+1,n9,i10 =>
 if i10 < (M'.AI.length:Int) then
  ck ((0:Int)<=i10/\i10 < (M'.AI.length:Int)) <|
  (SG (lat M'.AI i10)).bind λ S5 =>
  ck (inR (n9+S5)) <|
  ck (inR (i10+1)) <|
  uA SG M' m (n9+S5) (i10+1)
 else
  some n9
def dw (SQ:aa->Int->Int->Option Int)(M':aa)(levels_2:Int):Nat->Int->Int->Option Int
 | 0,_,_=>none
 | m+1,nodes13,i14 =>
 (
   if i14 < (M'.AI.length:Int) then
    some (decide (0<=nodes13))
   else
    some false
  ).bind λ Sr =>
 if Sr=true then
  ck ((0:Int)<=i14/\i14 < (M'.AI.length:Int)) <|
  ck (inR (levels_2 - 1)) <|
  (SQ (lat M'.AI i14) nodes13 (levels_2 - 1)).bind λ SD =>
  ck (inR (i14+1)) <|
  dw SQ M' levels_2 m SD (i14+1)
 else
  some nodes13
def eV:Nat->aa->Int->Int->Option Int
 | 0,_,_,_=>none
 | n+1,M',nodes_1,levels_2 =>
 if levels_2<=0 then
  some (-1)
 else
  ck (inR (nodes_1 - 1)) <|
  (dw (eV n) M' levels_2 n (nodes_1 - 1) 0).bind λ nodes25 =>
  some nodes25
instance Kp (n:Nat):∀ (M':aa) (nodes_1:Int) (levels_2:Int) (r:Int),HP (eV n M' nodes_1 levels_2=some r) Tryz.prog 30 [.agg (aa.cs M'),eI nodes_1,eI levels_2] (.p (eI r)):=by
 induction n with
 | zero=>exact Zr
 | succ n ih =>
 refine λ M' nodes_1 levels_2=>hP good Tryz.func30 Z Z λ r h0 _ w0=>?_;rw [eV] at h0;refine nx 11 Z (fD [9] h0 Z (λ c1 h0=>?_) λ c1 h0=>?_)
 ·exact J0
 refine nx 5 Z (oA h0 Z Z λ To h0=>?_);refine nx 8 Z (bd h0 λ o28 h1 h0=>?_);refine kE 0 o28 (λ v29=>⟨[(1,.p (eI v29))],[]⟩) ?_ ?_
 ·exact J0
 refine lG (λ (Xg:Int×Int)=>⟨[(1,.p (eI Xg.1)),(2,.p (eI levels_2)),(3,.ptr 3 0),(7,.p (eI Xg.2))],[(3,(aa.cs M').map .p)]⟩) (λ m (Xg:Int×Int)=>dw (eV n) M' levels_2 m Xg.1 Xg.2) Y (nodes_1 - 1,0) h1 (gE rfl rfl) ?_;rintro m ⟨nodes13,i14⟩ h1;replace h1:dw (eV n) M' levels_2 (m+1) nodes13 i14=some o28:=h1;rw [dw] at h1;have:=js [500];have:=jS 500 Bool λ v=>[(20,.p (eB v))]
 exact aG
def ki (n:Nat)(M':aa)(nodes_1:Int):Option Bool :=
 (eV n M' nodes_1 40).bind λ r1 =>
 some (decide (0<=r1))
instance Jf (n:Nat) (M':aa) (nodes_1:Int):∀ (r:Bool),HP (ki n M' nodes_1=some r) Tryz.prog 10 [.agg (aa.cs M'),eI nodes_1] (.p (eB r)):=by
 refine hP good Tryz.func10 Z Z λ r h0 _ w0=>?_;unfold ki at h0;exact J0
end Go.Ab.R06
end
section
namespace Go.Ab.R06
open Go.Ab Go.Ab.RB Go.Lib
theorem ckT {α:Type}(x:Option α):ck True x=x:=bF trivial
theorem KZ (v:ag)(h:v.Gw.length+v.Df.length<=1000000000000000):iT v=fc v:=by
 unfold iT fc;by_cases h1:v.Ar=0
 ·by_cases h2:v.F'=0
  ·by_cases h3:v.If=[]
   ·simp only [if_pos h1,if_pos h2,if_pos h3];rw [bF aV];by_cases h4:(v.Gw.length:Int)=0
    ·rw [if_pos h4];simp only [qr,bx,decide_eq_decide]; omega
    ·rw [if_neg h4];simp only [qr,bx,decide_eq_false_iff_not]; omega
   ·simp only [if_pos h1,if_pos h2,if_neg h3]
  ·simp only [if_pos h1,if_neg h2]
 ·simp only [if_neg h1]
theorem M7 (v:ag):∃ b,fc v=some b:=by
 unfold fc
 repeat' split
 all_goals exact ⟨_,Z⟩
theorem vV (e:aa)(h:e.By.Gw.length+e.By.Df.length<=1000000000000000):gq e=d7 e:=by
 obtain ⟨z,hz⟩:=M7 e.By;have hz':=(KZ e.By h).trans hz;unfold gq d7 iB;rw [hz,hz']
 clear hz hz' h
 have hk0:0<=(e.AI.length:Int):=by omega
 have hp:(e.AI.length:Int).tmod 2=0\/(e.AI.length:Int).tmod 2=1:=by
  have:=Int.emod_two_eq (e.AI.length:Int)
  rwa [Int.tmod_eq_emod_of_nonneg hk0]
 generalize (e.AI.length:Int)=m at hk0 hp ⊢;generalize e.Ar=k;generalize e.fOp=op;generalize e.By.Ar=vk;generalize e.By.F'=vn;generalize e.A'=name;generalize e.B'=key;by_cases hr:k < 1\/13 < k
 ·have e2:em k m=some false:=by
   unfold em;simp only [show ¬ k=1 by omega,show ¬ k=2 by omega,show ¬ k=3 by omega,show ¬ k=4 by omega,show ¬ k=5 by omega,show ¬ k=6 by omega,show ¬ k=7 by omega,show ¬ k=8 by omega,show ¬ k=9 by omega,show ¬ k=10 by omega,show ¬ k=11 by omega,show ¬ k=12 by omega,show ¬ k=13 by omega,if_false,decide_false,qr,Bool.false_eq_true]
  rw [e2];by_cases q:k < 1
  ·rw [if_pos q]; rfl
  ·rw [if_neg q,if_pos O]; rfl
 ·have hk:k=1\/k=2\/k=3\/k=4\/k=5\/k=6\/k=7\/k=8\/k=9\/k=10\/k=11\/k=12\/k=13:=by omega
  unfold iM jF ou em aH aB;unfold aH;by_cases hn:name=[] <;> by_cases hke:key=[] <;> cases z <;> rcases hp with hp | hp
  all_goals (rcases hk with rfl | rfl | rfl | rfl | rfl | rfl | rfl | rfl | rfl | rfl | rfl | rfl | rfl)
  all_goals (simp [hn,hke,hp,ckT]; try done)
  all_goals (repeat' split)
  all_goals (try (simp_all; done))
  all_goals (try omega)
  all_goals (try simp_all)
  all_goals (repeat' split)
  all_goals (try (simp_all; done))
  all_goals (try omega)
end Go.Ab.R06
end
section
namespace Go.Ab.R06
open Go.Ab Go.Ab.RB
section
variable {p:Prop}
theorem FL (h:p:=by
 refine ay (λ h3=>ab (mk _ ?_)) (λ h3=>ah O (ay (λ h4=>ab (mk _ ?_)) (λ h4=>ah O (ab (mk _ ?_)))))
 ·simp; omega
 ·simp; omega
 ·rw [decide_eq_true_eq]; omega):p:=h
end
theorem Fq (s:Bytes)(hs:s.length<=1000000000000000):∀ (k i:Nat),i+k=s.length->Ev2 (λ _ m=>cG s m (i:Int)) (·=if nI (yx s) i k then .inl () else .inr false):=by
 intro k
 induction k with
 | zero =>
  intro i hi;refine aA ?_;simp only [cG];refine ae O (ab rfl)
 | succ k ih =>
  intro i hi;refine aA ?_;simp only [cG];refine aj O (ah O ?_);have hb:byt s i=((s.getD i 0).toNat:Int):=eA s i;rw [hb];have hor:=OI (s.getD i 0);have hok:=lq s i;rw [nP,km] at hok;refine ai (!yx s i) ?_ ?_
  ·generalize s.getD i 0=b at hor hok ⊢;generalize yx s i=o at hok ⊢;generalize iOr .u8 ((b.toNat:Nat):Int) 32=v at hor ⊢;have hT:(iJ b=true)->o=true:=λ h=>hok.2 (.inl ((nP b).1 h));have mk:∀ x:Bool,(x=true↔¬ (((97<=b.toNat/\b.toNat<=122)\/(65<=b.toNat/\b.toNat<=90)\/b.toNat=95)\/(i≠0/\48<=b.toNat/\b.toNat<=57)))->x=!o:=λ x hx=>eqB (by rw [hx,<- hok]; simp);refine ah O (ay (λ h=>ab (mk _ ?_)) (λ h=>ay (λ h1=>?_) (λ h1=>ay (λ h2=>?_) (λ h2=>ab (mk _ ?_)))))
   ·simp; omega
   ·exact FL
   ·exact FL
   ·simp; omega
  ·cases hk:yx s i with
   | false=>exact aj G (ab (by simp [nI,hk]))
   | true =>
    refine ae G (ah aV ?_);have:=ih (i+1) O;rw [Int.natCast_add,Int.natCast_one] at this;simpa [nI,hk] using this
theorem yC (s:Bytes)(hs:s.length<=1000000000000000):Ev2 (λ n _=>fA n s) (·=bG s):=by
 simp only [fA];have h:=Fq s hs s.length 0 O;have hi:=hH s
 cases ha:nI (yx s) 0 s.length with
 | false =>
  rw [ha] at h hi;refine jR false (bh h) (eqB ?_);rw [hi]; simp
 | true =>
  rw [ha] at h hi;refine fx () (bh h) ?_;refine ao (·=bG s) (ay (λ h=>ab (eqB ?_)) (λ h=>ab (eqB ?_))) (λ t ht=>ab ht)
  ·rw [hi]; simp [h]
  ·rw [hi,decide_eq_true_eq]; simp [h]; omega
theorem B6 (b:UInt8):il (b.toNat:Int)=some (iJ b):=by
 simp only [il];have h:=nP b;generalize iJ b=o at h ⊢;have mk:∀ x:Bool,(x=true↔(97<=b.toNat/\b.toNat<=122)\/(65<=b.toNat/\b.toNat<=90)\/b.toNat=95)->some x=some o:=λ x hx=>congrArg some (eqB (by rw [hx,h]))
 repeat' split
 all_goals (simp only [qr]; apply mk; first | (rw [decide_eq_true_eq]; omega) | (simp; omega))
theorem ED (s:Bytes)(hs:s.length<=1000000000000000):∀ (k i:Nat),i+k=s.length->Ev2 (λ _ m=>cu s m (i:Int)) (·=if nI (λ j=>idB (s.getD j 0)) i k then .inl () else .inr false):=by
 intro k
 induction k with
 | zero =>
  intro i hi;refine aA ?_;simp only [cu];refine ae O (ab rfl)
 | succ k ih =>
  intro i hi;refine aA ?_;simp only [cu];refine aj O ?_;have hb:byt s i=((s.getD i 0).toNat:Int):=eA s i;rw [hb];refine ai (!idB (s.getD i 0)) ?_ ?_
  ·refine ah O (ai _ (aw (B6 _) Z) ?_);have h:=km (s.getD i 0);simp only [idB];generalize s.getD i 0=b at h ⊢
   cases hl:iJ b with
   | true=>exact ae G (ab G)
   | false =>
    refine aj G (ah O (ay (λ h1=>ab ?_) (λ h1=>ah O (ab ?_))))
    ·have:fe b=false:=by rw [<- Bool.not_eq_true,h]; omega
     simp [this]
    ·refine eqB ?_;rw [decide_eq_true_eq,Bool.false_or,Bool.not_eq_true',<- Bool.not_eq_true,h];omega
  ·cases hk:idB (s.getD i 0) with
   | false=>exact aj Z (ab (by simp only [nI,hk,Bool.false_and]; rfl))
   | true =>
    exact Jv
theorem vU (s:Bytes)(hs:s.length<=1000000000000000):Ev2 (λ n _=>eO n s) (·=bG s):=by
 simp only [eO];have hi:=zl s;refine ai (decide (s=[])||decide (64 < (s.length:Int))||!iJ (s.getD 0 0)) ?_ ?_
 ·refine ay (λ h=>ab (by simp [h])) (λ h=>ay (λ h1=>ab (by simp [h1])) (λ h1=>ah ?_ ?_))
  ·have:=List.length_pos_iff.2 h; omega
  ·refine ai (iJ (s.getD 0 0)) (aw (B6 _) Z) (ab ?_);have:decide (64 < (s.length:Int))=false:=decide_eq_false h1;simp [h,this]
 ·refine ay (λ h=>ab (eqB ?_)) (λ h=>?_)
  ·rw [hi]; simp at h ⊢; intro q1 q2 q3;rcases h with (h | h) | h
   ·exact absurd h q1
   ·omega
   ·rw [h] at q3; cases q3
  ·have l:=ED s hs s.length 0 O;simp only [Bool.or_eq_true,decide_eq_true_eq,not_or] at h;obtain ⟨⟨h1,h2⟩,h3⟩:=h;have h3:iJ (s.getD 0 0)=true:=by simpa using h3
   cases ha:nI (λ j=>idB (s.getD j 0)) 0 s.length with
   | false =>
    rw [ha] at l hi;refine jR false (bh l) (eqB ?_);rw [hi]; simp
   | true =>
    rw [ha] at l hi;refine fx () (bh l) (ab (eqB ?_));rw [hi]; simp only [true_iff];exact ⟨h1,by omega,h3,trivial⟩
end Go.Ab.R06
end
section
namespace Go.Ab.R06
open Go.Ab Go.Ab.RB Go.Lib
section
variable {p:Prop}
theorem Ke (h:p:=by
 have:=(hN.2.2.2.1 q).2;have hb0:((b::r).getD 0 0).toNat=b.toNat:=rfl
 omega):p:=h
theorem J7 (h:p:=by
 rw [if_neg O]
 symm; rw [bx,decide_eq_false_iff_not]
 intro q; exact q2 q.2.1):p:=h
theorem xp (h:p:=by
 rw [if_neg O,if_neg q]):p:=h
theorem G3 (h:p:=by
 rw [if_neg O]
 symm; rw [bx,decide_eq_false_iff_not]
 intro q; exact q1 q.1):p:=h
theorem wW (h:p:=by
 rw [if_pos O,if_pos q]):p:=h
theorem Hs (h:p:=by
 rw [if_neg (by simp only [decide_eq_true_eq]; exact q3)]
 symm; rw [bx,decide_eq_false_iff_not]
 intro q; exact q3 q.2.2.1):p:=h
theorem uh (h:p:=by exact ah (by simp only [bt,aq,dg]; omega) (ab Z)):p:=h
end
theorem t31:(List.range 256).all (λ n=>cg .u8 (n:Int) 31 == ((n % 32:Nat):Int))=true:=by kernel_rfl
theorem t15:(List.range 256).all (λ n=>cg .u8 (n:Int) 15 == ((n % 16:Nat):Int))=true:=by kernel_rfl
theorem t7:(List.range 256).all (λ n=>cg .u8 (n:Int) 7 == ((n % 8:Nat):Int))=true:=by kernel_rfl
theorem or64 (a b:Nat)(ha:a < 4611686018427387904)(hb:b < 4611686018427387904):iOr .i64 (a:Int) (b:Int)=((a ||| b:Nat):Int):=by
 have hlt:a ||| b < 4611686018427387904:=Nat.or_lt_two_pow (n:=62) ha hb
 have e1:(BitVec.ofInt 64 (a:Int)).toNat=a:=by
  rw [BitVec.toNat_ofInt]; omega
 have e2:(BitVec.ofInt 64 (b:Int)).toNat=b:=by
  rw [BitVec.toNat_ofInt]; omega
 show IntKind.wrap .i64 (((BitVec.ofInt 64 (a:Int)) ||| (BitVec.ofInt 64 (b:Int))).toNat:Nat)=_;rw [BitVec.toNat_or,e1,e2];exact uM
theorem vo (a b k:Nat)(ha:a*2 ^ k < 4611686018427387904)(hb:b < 2 ^ k)(hk:k<=20):iOr .i64 ((a*2 ^ k:Nat):Int) (b:Int)=((a*2 ^ k+b:Nat):Int):=by
 have hp:2 ^ k<=2 ^ 20:=Nat.pow_le_pow_right (by decide) hk;have h20:(2:Nat) ^ 20=1048576:=rfl;rw [or64 _ _ ha O];have:=Nat.shiftLeft_add_eq_or_of_lt hb a;rw [Nat.shiftLeft_eq] at this;rw [<- this]
theorem vH (a k:Nat)(hk:k<=20)(ha:a*2 ^ k < 4611686018427387904):jW .i64 (a:Int) (k:Int)=((a*2 ^ k:Nat):Int):=by
 have:min (k:Int).toNat IntKind.i64.bits=k:=by
  have:IntKind.i64.bits=64:=rfl;rw [this]; omega
 unfold jW;rw [this];have e:(a:Int)*2 ^ k=((a*2 ^ k:Nat):Int):=by push_cast; rfl
 rw [e];generalize a*2 ^ k=v at ha;exact uM
def PW (l:Bytes):Int×Int:=if (decodeL l).1=65533/\(decodeL l).2=1 then (0,0) else (((decodeL l).1:Int),((decodeL l).2:Int))
theorem LA (s:Bytes)(j:Nat)(lo hi:Int):dB s (j:Int) lo hi=some (decide (j < s.length/\lo<=((s.getD j 0).toNat:Int)/\((s.getD j 0).toNat:Int)<=hi)):=by
 unfold dB;have hb:byt s (j:Int)=((s.getD j 0).toNat:Int):=eA s j;rw [hb];by_cases h:j < s.length
 ·rw [if_pos O,bF O];by_cases h2:lo<=((s.getD j 0).toNat:Int)
  ·rw [if_pos h2,bF O];refine congrArg some (eqB ?_);rw [decide_eq_true_eq,decide_eq_true_eq];exact ⟨λ q=>⟨h,h2,q⟩,λ q=>q.2.2⟩
  ·rw [if_neg h2,qr]
   symm; rw [bx,decide_eq_false_iff_not]
   exact λ q=>h2 q.2.1
 ·rw [if_neg O]; simp [h]
set_option maxHeartbeats 8000000 in
theorem AM (s:Bytes)(i:Nat)(hi:i < s.length)(hs:s.length<=1000000000):jc s (i:Int)=some (PW (s.drop i)):=by
 have hg:∀ k,(s.drop i).getD k 0=s.getD (i+k) 0:=λ k=>by
  rw [List.getD_eq_getElem?_getD,List.getElem?_drop,List.getD_eq_getElem?_getD]
 unfold jc PW;rw [decodeL_N,hg,hg,hg,hg,Nat.add_zero,n6]
 have b:∀ k:Nat,byt s ((i:Int)+k)=((s.getD (i+k) 0).toNat:Int):=λ k=>by
  rw [show (i:Int)+(k:Int)=((i+k:Nat):Int) by omega]; exact eA s (i+k)
 have c:∀ (k:Nat) lo hi,dB s ((i:Int)+k) lo hi=some (decide (k < s.length - i/\lo<=((s.getD (i+k) 0).toNat:Int)/\((s.getD (i+k) 0).toNat:Int)<=hi)):=λ k lo hi=>by
  rw [show (i:Int)+(k:Int)=((i+k:Nat):Int) by omega,LA];refine congrArg some (eqB ?_);rw [decide_eq_true_eq,decide_eq_true_eq];constructor
  ·rintro ⟨h1,h2⟩; exact ⟨by omega,h2⟩
  ·rintro ⟨h1,h2⟩; exact ⟨by omega,h2⟩
 have b0:byt s (i:Int)=((s.getD i 0).toNat:Int):=eA s i;have b1:byt s ((i:Int)+1)=((s.getD (i+1) 0).toNat:Int):=b 1;have b2:byt s ((i:Int)+2)=((s.getD (i+2) 0).toNat:Int):=b 2;have b3:byt s ((i:Int)+3)=((s.getD (i+3) 0).toNat:Int):=b 3;have c1:∀ lo hi,dB s ((i:Int)+1) lo hi=_:=c 1;have c2:∀ lo hi,dB s ((i:Int)+2) lo hi=_:=c 2;have c3:∀ lo hi,dB s ((i:Int)+3) lo hi=_:=c 3;simp only [b0,b1,b2,b3,c1,c2,c3];obtain ⟨n,hn⟩:∃ n,s.length=i+n:=⟨s.length - i,by omega⟩
 have hn1:s.length - i=n:=by omega
 have Mp:(s.length:Int)=(i:Int)+n:=by omega
 rw [hn1,Mp];have l0:=(s.getD i 0).toNat_lt;have l1:=(s.getD (i+1) 0).toNat_lt;have l2:=(s.getD (i+2) 0).toNat_lt;have l3:=(s.getD (i+3) 0).toNat_lt;generalize (s.getD i 0).toNat=B0 at l0 ⊢;generalize (s.getD (i+1) 0).toNat=B1 at l1 ⊢;generalize (s.getD (i+2) 0).toNat=B2 at l2 ⊢;generalize (s.getD (i+3) 0).toNat=B3 at l3 ⊢;have hnp:0 < n:=by omega
 have Ue:n<=1000000000:=by omega
 have hib:i<=1000000000:=by omega
 clear hg b c b0 b1 b2 b3 c1 c2 c3 hn1 Mp hn hi hs
 have a31:cg .u8 (B0:Int) 31=((B0 % 32:Nat):Int):=tab t31 B0 O;have a15:cg .u8 (B0:Int) 15=((B0 % 16:Nat):Int):=tab t15 B0 O;have a7:cg .u8 (B0:Int) 7=((B0 % 8:Nat):Int):=tab t7 B0 O;have a1:cg .u8 (B1:Int) 63=((B1 % 64:Nat):Int):=tab t63 B1 O;have a2:cg .u8 (B2:Int) 63=((B2 % 64:Nat):Int):=tab t63 B2 O;have a3:cg .u8 (B3:Int) 63=((B3 % 64:Nat):Int):=tab t63 B3 O
 have two:iOr .i64 (jW .i64 ((B0 % 32:Nat):Int) 6) ((B1 % 64:Nat):Int)=((B0 % 32*64+B1 % 64:Nat):Int):=by
  have h1:jW .i64 ((B0 % 32:Nat):Int) 6=((B0 % 32*2 ^ 6:Nat):Int):=vH _ 6 (by decide) O;rw [h1];exact vo _ _ 6 O O  (by decide)
 have three:iOr .i64 (iOr .i64 (jW .i64 ((B0 % 16:Nat):Int) 12) (jW .i64 ((B1 % 64:Nat):Int) 6)) ((B2 % 64:Nat):Int)=((B0 % 16*4096+B1 % 64*64+B2 % 64:Nat):Int):=by
  have h1:jW .i64 ((B0 % 16:Nat):Int) 12=((B0 % 16*2 ^ 12:Nat):Int):=vH _ 12 (by decide) O;have h2:jW .i64 ((B1 % 64:Nat):Int) 6=((B1 % 64*2 ^ 6:Nat):Int):=vH _ 6 (by decide) O;have h3:=vo (B0 % 16) (B1 % 64*2 ^ 6) 12 O O  (by decide);have h4:=vo (B0 % 16*64+B1 % 64) (B2 % 64) 6 O O  (by decide);rw [h1,h2,h3,show B0 % 16*2 ^ 12+B1 % 64*2 ^ 6=(B0 % 16*64+B1 % 64)*2 ^ 6 by omega,h4]
 have four:iOr .i64 (iOr .i64 (iOr .i64 (jW .i64 ((B0 % 8:Nat):Int) 18) (jW .i64 ((B1 % 64:Nat):Int) 12)) (jW .i64 ((B2 % 64:Nat):Int) 6)) ((B3 % 64:Nat):Int)=((B0 % 8*262144+B1 % 64*4096+B2 % 64*64+B3 % 64:Nat):Int):=by
  have h1:jW .i64 ((B0 % 8:Nat):Int) 18=((B0 % 8*2 ^ 18:Nat):Int):=vH _ 18 (by decide) O;have h2:jW .i64 ((B1 % 64:Nat):Int) 12=((B1 % 64*2 ^ 12:Nat):Int):=vH _ 12 (by decide) O;have h2':jW .i64 ((B2 % 64:Nat):Int) 6=((B2 % 64*2 ^ 6:Nat):Int):=vH _ 6 (by decide) O;have h3:=vo (B0 % 8) (B1 % 64*2 ^ 12) 18 O O  (by decide);have h4:=vo (B0 % 8*64+B1 % 64) (B2 % 64*2 ^ 6) 12 O O  (by decide);have h5:=vo (B0 % 8*4096+B1 % 64*64+B2 % 64) (B3 % 64) 6 O O  (by decide);rw [h1,h2,h2',h3,show B0 % 8*2 ^ 18+B1 % 64*2 ^ 12=(B0 % 8*64+B1 % 64)*2 ^ 12 by omega,h4,show (B0 % 8*64+B1 % 64)*2 ^ 12+B2 % 64*2 ^ 6=(B0 % 8*4096+B1 % 64*64+B2 % 64)*2 ^ 6 by omega,h5]
 rw [a31,a15,a7,a1,a2,a3,two,three,four];have i1:inR ((i:Int)+1):=cH O O;have i2:inR ((i:Int)+2):=cH O O;have i3:inR ((i:Int)+3):=cH O O
 have e0:((if (i:Int) < 0 then some true else some (decide ((i:Int)+n<=i))):Option Bool)=some false:=by
  rw [if_neg O]; simp; omega
 rw [e0,qr,if_neg G,bF O];unfold decodeN;by_cases h0:B0 < 128
 ·rw [if_pos (show (B0:Int) < 128 by omega),bF aV,if_pos h0];simp only;rw [if_neg O]; rfl
 rw [if_neg (show ¬ (B0:Int) < 128 by omega),if_neg h0]
 have WI:((if 194<=(B0:Int) then if (B0:Int)<=223 then ck (inR ((i:Int)+1)) <| (some (decide (1 < n/\(128:Int)<=(B1:Int)/\(B1:Int)<=191))).bind λ R5=>some R5 else some false else some false):Option Bool)=some (decide (194<=B0/\B0<=223/\1 < n/\128<=B1/\B1<=191)):=by
  by_cases q1:194<=B0
  ·rw [if_pos O];by_cases q2:B0<=223
   ·rw [if_pos O,bF i1,qr];refine congrArg some (eqB ?_);rw [decide_eq_true_eq,decide_eq_true_eq]; omega
   ·rw [if_neg O]; simp; omega
  ·rw [if_neg O]; simp; omega
 rw [WI,qr];by_cases h12:194<=B0/\B0<=223/\1 < n/\128<=B1/\B1<=191
 ·rw [if_pos (by simp only [decide_eq_true_eq]; exact h12),bF aV,bF O,bF i1,bF O,bF aV];rw [if_pos (show B0 / 32=6/\1 < n/\B1 / 64=2 by omega),if_pos (show B0 % 32*64+B1 % 64 >= 128 by omega)];show some _=some (if B0 % 32*64+B1 % 64=65533/\_ then _ else _);rw [if_neg O]; rfl
 rw [if_neg (by simp only [decide_eq_true_eq]; exact h12)]
 have hlo:((if (B0:Int)=224 then some 160 else some 128):Option Int)=some (if B0=224 then 160 else 128):=by
  by_cases q:B0=224
  ·exact wW
  ·exact xp
 have hhi:((if (B0:Int)=237 then some 159 else some 191):Option Int)=some (if B0=237 then 159 else 191):=by
  by_cases q:B0=237
  ·exact wW
  ·exact xp
 have hlo4:((if (B0:Int)=240 then some 144 else some 128):Option Int)=some (if B0=240 then 144 else 128):=by
  by_cases q:B0=240
  ·exact wW
  ·exact xp
 have hhi4:((if (B0:Int)=244 then some 143 else some 191):Option Int)=some (if B0=244 then 143 else 191):=by
  by_cases q:B0=244
  ·exact wW
  ·exact xp
 rw [hlo,qr,hhi,qr]
 have e32:∀ lo hi:Int,((if 224<=(B0:Int) then if (B0:Int)<=239 then ck (inR ((i:Int)+1)) <| (some (decide (1 < n/\lo<=(B1:Int)/\(B1:Int)<=hi))).bind λ SL=>if SL=true then ck (inR ((i:Int)+2)) <| (some (decide (2 < n/\(128:Int)<=(B2:Int)/\(B2:Int)<=191))).bind λ WQ=>some WQ else some false else some false else some false):Option Bool)
   = some (decide (224<=B0/\B0<=239/\(1 < n/\lo<=(B1:Int)/\(B1:Int)<=hi)/\2 < n/\128<=B2/\B2<=191)):=by
  intro lo hi;by_cases q1:224<=B0
  ·rw [if_pos O];by_cases q2:B0<=239
   ·rw [if_pos O,bF i1,qr];by_cases q3:1 < n/\lo<=(B1:Int)/\(B1:Int)<=hi
    ·rw [if_pos (by simp only [decide_eq_true_eq]; exact q3),bF i2,qr];refine congrArg some (eqB ?_);rw [decide_eq_true_eq,decide_eq_true_eq];constructor
     ·intro q; exact ⟨q1,q2,q3,by omega⟩
     ·intro q; have:=q.2.2.2; omega
    ·exact Hs
   ·exact J7
  ·exact G3
 rw [e32,qr];by_cases h32:224<=B0/\B0<=239/\(1 < n/\(if B0=224 then 160 else 128)<=(B1:Int)/\(B1:Int)<=(if B0=237 then 159 else 191))/\2 < n/\128<=B2/\B2<=191
 ·rw [if_pos (by simp only [decide_eq_true_eq]; exact h32)];obtain ⟨k1,k2,⟨k3,k4,k5⟩,k6,k7,k8⟩:=h32;have k4':128<=B1/\(B0=224->160<=B1):=by split at k4 <;> omega
  have k5':B1<=191/\(B0=237->B1<=159):=by split at k5 <;> omega
  clear k4 k5
  repeat rw [bF (by first | exact i1 | exact i2 | omega | exact cH O O)]
  rw [if_neg (show ¬ (B0 / 32=6/\1 < n/\B1 / 64=2) by omega),if_pos (show B0 / 16=14/\(1 < n/\B1 / 64=2)/\2 < n/\B2 / 64=2 by omega),if_pos (show B0 % 16*4096+B1 % 64*64+B2 % 64 >= 2048/\(B0 % 16*4096+B1 % 64*64+B2 % 64 < 55296\/57344<=B0 % 16*4096+B1 % 64*64+B2 % 64/\B0 % 16*4096+B1 % 64*64+B2 % 64<=1114111) by omega)];show some _=some (if B0 % 16*4096+B1 % 64*64+B2 % 64=65533/\(3:Nat)=1 then _ else _);rw [if_neg O]; rfl
 rw [if_neg (by simp only [decide_eq_true_eq]; exact h32)];rw [hlo4,qr,hhi4,qr]
 have h32':¬ (224<=B0/\B0<=239/\1 < n/\(B0=224->160<=B1)/\128<=B1/\B1<=191/\(B0=237->B1<=159)/\2 < n/\128<=B2/\B2<=191):=by
  rintro ⟨k1,k2,k3,k4,k5,k6,k7,k8⟩;exact h32 ⟨k1,k2,⟨k3,by split <;> omega,by split <;> omega⟩,k8⟩
 clear h32 e32
 have e60:∀ lo hi:Int,((if 240<=(B0:Int) then if (B0:Int)<=244 then ck (inR ((i:Int)+1)) <| (some (decide (1 < n/\lo<=(B1:Int)/\(B1:Int)<=hi))).bind λ Vw=>if Vw=true then ck (inR ((i:Int)+2)) <| (some (decide (2 < n/\(128:Int)<=(B2:Int)/\(B2:Int)<=191))).bind λ T7=>if T7=true then ck (inR ((i:Int)+3)) <| (some (decide (3 < n/\(128:Int)<=(B3:Int)/\(B3:Int)<=191))).bind λ S8=>some S8 else some false else some false else some false else some false):Option Bool)
   = some (decide (240<=B0/\B0<=244/\(1 < n/\lo<=(B1:Int)/\(B1:Int)<=hi)/\(2 < n/\128<=B2/\B2<=191)/\3 < n/\128<=B3/\B3<=191)):=by
  intro lo hi;by_cases q1:240<=B0
  ·rw [if_pos O];by_cases q2:B0<=244
   ·rw [if_pos O,bF i1,qr];by_cases q3:1 < n/\lo<=(B1:Int)/\(B1:Int)<=hi
    ·rw [if_pos (by simp only [decide_eq_true_eq]; exact q3),bF i2,qr];by_cases q4:2 < n/\128<=B2/\B2<=191
     ·rw [if_pos (by simp only [decide_eq_true_eq]; omega),bF i3,qr];refine congrArg some (eqB ?_);rw [decide_eq_true_eq,decide_eq_true_eq];constructor
      ·intro q; exact ⟨q1,q2,q3,q4,by omega⟩
      ·intro q; have:=q.2.2.2.2; omega
     ·rw [if_neg (by simp only [decide_eq_true_eq]; omega)]
      symm; rw [bx,decide_eq_false_iff_not]
      intro q; exact q4 q.2.2.2.1
    ·exact Hs
   ·exact J7
  ·exact G3
 rw [e60,qr];by_cases h60:240<=B0/\B0<=244/\(1 < n/\(if B0=240 then 144 else 128)<=(B1:Int)/\(B1:Int)<=(if B0=244 then 143 else 191))/\(2 < n/\128<=B2/\B2<=191)/\3 < n/\128<=B3/\B3<=191
 ·rw [if_pos (by simp only [decide_eq_true_eq]; exact h60)];obtain ⟨k1,k2,⟨k3,k4,k5⟩,⟨k6,k7,k8⟩,k9,k10,k11⟩:=h60;have k4':128<=B1/\(B0=240->144<=B1):=by split at k4 <;> omega
  have k5':B1<=191/\(B0=244->B1<=143):=by split at k5 <;> omega
  clear k4 k5
  repeat rw [bF (by first | exact i1 | exact i2 | exact i3 | omega | exact cH O O)]
  rw [if_neg (show ¬ (B0 / 32=6/\1 < n/\B1 / 64=2) by omega),if_neg (show ¬ (B0 / 16=14/\(1 < n/\B1 / 64=2)/\2 < n/\B2 / 64=2) by omega),if_pos (show B0 / 8=30/\(1 < n/\B1 / 64=2)/\(2 < n/\B2 / 64=2)/\3 < n/\B3 / 64=2 by omega)];generalize hv:B0 % 8*262144+B1 % 64*4096+B2 % 64*64+B3 % 64=v;rw [if_pos (show v >= 65536/\(v < 55296\/57344<=v/\v<=1114111) by omega)];show some _=some (if v=65533/\(4:Nat)=1 then _ else _);rw [if_neg O]; rfl
 rw [if_neg (by simp only [decide_eq_true_eq]; exact h60)]
 have h60':¬ (240<=B0/\B0<=244/\1 < n/\(B0=240->144<=B1)/\128<=B1/\B1<=191/\(B0=244->B1<=143)/\2 < n/\128<=B2/\B2<=191/\3 < n/\128<=B3/\B3<=191):=by
  rintro ⟨k1,k2,k3,k4,k5,k6,k7,k8,k9,k10,k11⟩;exact h60 ⟨k1,k2,⟨k3,by split <;> omega,by split <;> omega⟩,⟨k8,k9,k10⟩,k11⟩
 clear h60 e60
 symm
 refine congrArg some (if_pos ?_)
 repeat' split
 all_goals first | exact ⟨Z,Z⟩ | (exfalso; omega)
theorem DJ (s:Bytes)(hs:s.length<=1000000000):∀ (k i:Nat),s.length - i < k->i<=s.length->Ev2 (λ _ m=>fk s m (i:Int)) (·=if validD (s.drop i)=true then .inl () else .inr false):=by
 intro k
 induction k with
 | zero=>intro i h; omega
 | succ k ih =>
  intro i hk hi;refine aA ?_;simp only [fk];by_cases h:i < s.length
  ·have RP:s.drop i≠[]:=by intro q; have:=congrArg List.length q; rw [n6] at this; simp at this; omega
   refine aj O (ai _ (aw (AM s i h hs) Z) ?_);have hv:=ua _ RP;have hdf:=gK _ RP;rw [n6] at hdf;unfold PW;by_cases q:(decodeL (s.drop i)).1=65533/\(decodeL (s.drop i)).2=1
   ·rw [if_pos q];refine aj rfl (ab ?_);rw [if_neg (λ z=>((hv.1 z).1 q))]
   ·rw [if_neg q];refine ae rD (ah (cH rD rD) ?_);have:=ih (i+(decodeL (s.drop i)).2) O O;rw [Int.natCast_add] at this;refine bB this λ r hr=>?_;rw [hr,<- List.drop_drop];by_cases z:validD ((s.drop i).drop (decodeL (s.drop i)).2)=true
    ·rw [if_pos z,if_pos (hv.2 ⟨q,z⟩)]
    ·rw [if_neg z,if_neg (λ y=>z (hv.1 y).2)]
  ·refine ae O (ab ?_);rw [List.drop_of_length_le O,if_pos validD_nil]
theorem DN (s:Bytes)(hs:s.length<=1000000000):Ev2 (λ n _=>kc n s) (·=(decide (s.length<=4096)&&validD s)):=by
 simp only [kc];refine ay (λ h=>ab ?_) (λ h=>?_)
 ·have:¬ s.length<=4096:=by omega
  simp [this]
 ·have h':s.length<=4096:=by omega
  have l:=DJ s hs (s.length+1) 0 O O;rw [List.drop_zero] at l
  cases hv:validD s with
  | true=>rw [hv] at l; exact fx () (bh l) (ab (by simp [h']))
  | false=>rw [hv] at l; exact jR false (bh l) G
theorem Am:∀ (k u:Nat),u < 10 ^ (k+1)->u<=9007199254740992->Ev2 (λ n _=>db n (u:Int)) (·=decDigits u):=by
 intro k
 induction k with
 | zero =>
  intro u h _;have h:u < 10:=by simpa using h
  refine aM ?_;simp only [db];have hw:IntKind.wrap .u8 (48+(u:Int))=((48+u:Nat):Int):=by rw [tz]; omega
  rw [hw];refine ai true wG (aj rfl (ah aV (ah O (ab ?_))));rw [decDigits,dif_pos h]
  rfl
 | succ k ih =>
  intro u h hm;refine aM ?_;simp only [db];have hw:u < 10->IntKind.wrap .u8 (48+(u:Int))=((48+u:Nat):Int):=λ _=>by rw [tz]; omega
  by_cases h10:u < 10
  ·rw [hw h10];refine ai true wG (aj rfl (ah aV (ah O (ab ?_))));rw [decDigits,dif_pos h10]
   rfl
  ·have hd:IntKind.wrap .i64 ((u:Int).tdiv 10)=((u / 10:Nat):Int):=by
    have:(u:Int).tdiv 10=((u / 10:Nat):Int):=by
     rw [Int.tdiv_eq_ediv_of_nonneg O]; omega
    rw [this];exact uM
   have hmod:(u:Int).tmod 10=((u % 10:Nat):Int):=by
    rw [Int.tmod_eq_emod_of_nonneg O]; omega
   refine ai false wG (ae G ?_);refine ai false nD (ae G (ae O (ah (by decide) ?_)));rw [hd,hmod];have i1:=ih (u / 10) (by rw [Nat.pow_succ] at h; omega) O;have i2:=ih (u % 10) (by have:10 ^ 1<=10 ^ (k+1):=Nat.pow_le_pow_right (by decide) O; omega) O;have e2:decDigits (u % 10)=[UInt8.ofNat (48+u % 10)]:=by rw [decDigits,dif_pos O]
   have hl:(decDigits (u / 10)).length<=u / 10+1:=by
    have:∀ n v:Nat,v < n->(decDigits v).length<=v+1:=by
     intro n
     induction n with
     | zero=>intro v h; omega
     | succ n ihn =>
      intro v hv;rw [decDigits];split
      ·simp
      ·have:=ihn (v / 10) O;rw [bt]; simp; omega
    exact this (u / 10+1) _ O
   refine ai _ i1 (ah (by decide) (ai _ i2 (ah ?_ (ab ?_))))
   ·rw [e2]; simp only [aq,dg]; omega
   ·conv=>rhs; rw [decDigits,dif_neg h10]
    rw [e2]
theorem FJ {v:Int}(h0:0<=v)(h1:v<=gO):Ev2 (λ n _=>db n v) (·=itoa v):=by
 obtain ⟨u,rfl⟩:∃ u:Nat,v=u:=⟨v.toNat,by omega⟩
 have e:itoa (u:Int)=decDigits u:=by unfold itoa; rw [if_neg O]; simp
 rw [e];have:u<=9007199254740992:=by unfold gO at h1; omega
 exact Am 15 u O this
theorem Dc:∀ n:Fin 16,sub DG ((n.1:Nat):Int) (((n.1:Nat):Int)+1)=[hexDigit n.1]:=by decide
theorem zQ (u:Nat)(h:u < 256):Ev2 (λ n _=>fG n (u:Int)) (·=ey u):=by
 have one:∀ v:Nat,v < 16->Ev2 (λ n _=>fG n (v:Int)) (·=[hexDigit v]):=by
  intro v hv;refine aM ?_;simp only [fG];have hm:(v:Int).tmod 16=(v:Int):=by rw [Int.tmod_eq_emod_of_nonneg O]; omega
  rw [hm];refine ah (by decide) (ah (by decide) (ah aV (ah ef (aj O (ab ?_)))));exact Dc ⟨v,hv⟩
 by_cases h1:u < 16
 ·have e:ey u=[hexDigit u]:=if_pos h1;rw [e]; exact one u h1
 ·have e:ey u=[hexDigit (u / 16),hexDigit (u % 16)]:=if_neg h1;rw [e];refine aM ?_;simp only [fG];have hm:(u:Int).tmod 16=((u % 16:Nat):Int):=by rw [Int.tmod_eq_emod_of_nonneg O]; omega
  have hd:IntKind.wrap .i64 ((u:Int).tdiv 16)=((u / 16:Nat):Int):=by
   have:(u:Int).tdiv 16=((u / 16:Nat):Int):=by rw [Int.tdiv_eq_ediv_of_nonneg O]; omega
   rw [this];exact uM
  rw [hm,hd];have es:sub ([48,49,50,51,52,53,54,55,56,57,97,98,99,100,101,102]:Bytes) ((u % 16:Nat):Int) (((u % 16:Nat):Int)+1)=[hexDigit (u % 16)]:=Dc ⟨u % 16,by omega⟩;rw [es];refine ah (by decide) (ah (by decide) (ah aV (ah ef (ae O (ah (by decide) (ai _ (one _ O) (ah G (ab rfl))))))))
theorem L5 (b:UInt8):Ev2 (λ n _=>iw n (b.toNat:Int)) (·=jy b):=by
 have hb:=b.toNat_lt;simp only [iw];refine ay (λ h=>ab (Cu O).symm) (λ h1=>ay (λ h=>ab (BJ O).symm) (λ h2=>ay (λ h=>ab (Ci O).symm) (λ h3=>ay (λ h=>ab ?_) (λ h4=>ay (λ h=>ab ?_) (λ h5=>?_)))))
 ·have e:b=34:=(p6 (n:=34) (by decide)).1 O;rw [e]; rfl
 ·have e:b=92:=(p6 (n:=92) (by decide)).1 O;rw [e]; rfl
 ·refine ai (decide (b.toNat < 32\/b.toNat=127)) ?_ ?_
  ·by_cases h:b.toNat < 32
   ·exact aj O (ab (by simp [h]))
   ·exact IJ
  ·by_cases h6:b.toNat < 32\/b.toNat=127
   ·rw [BW O O O h6];have hl:=sb b.toNat;exact aj (by simp [h6]) (ah aV (ai _ (zQ b.toNat O) (ah pA uh)))
   ·rw [vO O O  h6];refine ae (by simp only [decide_eq_true_eq]; exact h6) (ah O (ab ?_));rw [NP]
theorem D4 (s:Bytes)(hs:s.length<=1000000000):∀ (k i:Nat) (f:Bytes),i+k=s.length->f.length<=6*i+1->Ev2 (λ n m=>ec n s m f (i:Int)) (·=f++(s.drop i).flatMap jy):=by
 intro k
 induction k with
 | zero =>
  intro i f hi hf;refine aA ?_;simp only [ec];refine ae O (ab ?_);rw [List.drop_of_length_le O]; simp
 | succ k ih =>
  intro i f hi hf;refine aA ?_;simp only [ec];refine aj O (ah O ?_);have hb:byt s i=((s.getD i 0).toNat:Int):=eA s i;rw [hb]
  have hd:s.drop i=s.getD i 0::s.drop (i+1):=by
   rw [List.getD_eq_getElem?_getD,List.getElem?_eq_getElem O,Option.getD_some];exact List.drop_eq_getElem_cons O
  rw [hd,List.flatMap_cons];have he:=y5 (s.getD i 0);generalize s.getD i 0=b at he ⊢;refine ai _ (L5 b) (ah O (ah aV ?_));have:=ih (i+1) (f++jy b) O ra;rw [Int.natCast_add,Int.natCast_one] at this;simpa using this
theorem EA (s:Bytes)(hs:s.length<=1000000000):Ev2 (λ n _=>kt n s) (·=Hd s):=by
 simp only [kt];have hf:=y3 s;have l:=D4 s hs s.length 0 [34] O G;rw [List.drop_zero] at l;refine ai _ (bh l) (ah bY (ab ?_));simp [Hd]
theorem drop_at (s:Bytes){i:Nat}(h:i < s.length):s.drop i=s.getD i 0::s.drop (i+1):=by
 exact Hc
theorem DU (s:Bytes)(a w:Nat):sub s (a:Int) ((a:Int)+(w:Int))=(s.drop a).take w:=by
 show (s.take ((a:Int)+(w:Int)).toNat).drop (a:Int).toNat=_;rw [show ((a:Int)+(w:Int)).toNat=a+w by omega,Int.toNat_natCast,List.drop_take,Nat.add_sub_cancel_left]
theorem NA (b:UInt8)(r:Bytes)(h:128<=b.toNat):128<=(decodeL (b::r)).1:=by
 have hN:=Ox (b::r).length ((b::r).getD 0 0).toNat ((b::r).getD 1 0).toNat ((b::r).getD 2 0).toNat ((b::r).getD 3 0).toNat G (UInt8.toNat_lt _);rw [<- decodeL_N] at hN;rcases Nat.lt_or_ge (decodeL (b::r)).1 128 with q | q
 ·exact Ke
 ·exact q
end Go.Ab.R06
end
section
namespace Go.Ab
set_option autoImplicit false
theorem kY {α:Type}{tt:List (Nat×TI)}{n t s b:Nat}{cs:List PV}{z:List Value}(f:α->PV)(Q:α->Prop){e:Nat}(hl:look tt t=some ⟨.slice e,s,b,z⟩)(h:WTf tt n t cs)
  (he:∀ m x,m < n->WTf tt m e x.cells->x=mkE (((look tt e).map (·.k.isAgg)).getD false) x.cells->∃ y,x=f y/\Q y):∃ l:List α,cs=[eL f l]/\l.length*(((look tt e).map (·.bytes)).getD 0)<=ga/\∀ y∈l,Q y:=by
 cases n with
 | zero=>exact h.elim
 | succ n =>
  obtain ⟨l,h1,h2,h3⟩:=F6 f Q hl h (λ x k1 k2=>he n x O k1 k2);exact ⟨l,h1,h2.2,h3⟩
inductive ag.Bd:ag->Prop where
 | mk {x:ag} (bKind:inR x.Ar) (bNum:inR x.F') (bStr:x.If.length<=ga) (bItems:x.Gw.length*80<=ga) (eItems:∀ y∈x.Gw,ag.Bd y) (bKeys:x.Df.length*16<=ga) (eKeys:∀ y∈x.Df,y.length<=ga):ag.Bd x
theorem ag.Bd.bKind {x:ag}(h:ag.Bd x):inR x.Ar:=by cases h; assumption
theorem ag.Bd.bNum {x:ag}(h:ag.Bd x):inR x.F':=by cases h; assumption
theorem ag.Bd.bStr {x:ag}(h:ag.Bd x):x.If.length<=ga:=by cases h; assumption
theorem ag.Bd.bItems {x:ag}(h:ag.Bd x):x.Gw.length*80<=ga:=by cases h; assumption
theorem ag.Bd.eItems {x:ag}(h:ag.Bd x):∀ y∈x.Gw,ag.Bd y:=by cases h; assumption
theorem ag.Bd.bKeys {x:ag}(h:ag.Bd x):x.Df.length*16<=ga:=by cases h; assumption
theorem ag.Bd.eKeys {x:ag}(h:ag.Bd x):∀ y∈x.Df,y.length<=ga:=by cases h; assumption
theorem ag.dec (n:Nat):(∀ cs,WTf tt n 28 cs->∃ x:ag,cs=ag.cs x/\ag.Bd x):=by
 induction n using Nat.strongRecOn with
 | _ n ih =>
 have Uo:∀ m,m < n->(∀ cs,WTf tt m 28 cs->∃ x:ag,cs=ag.cs x/\ag.Bd x):=λ m hm=>(ih m hm)
 intro cs h
 cases n with
 | zero=>exact h.elim
 | succ n =>
 have h0:=gR rfl h;obtain ⟨c0,q0,rfl,k0,h0⟩:=bu h0;obtain ⟨c1,q1,rfl,k1,h0⟩:=bu h0;obtain ⟨c2,q2,rfl,k2,h0⟩:=bu h0;obtain ⟨c3,q3,rfl,k3,h0⟩:=bu h0;obtain ⟨c4,q4,rfl,k4,h0⟩:=bu h0;have e:q4=[]:=h0;subst e;obtain ⟨x1,rfl,b2⟩:=fq rfl k0;obtain ⟨x3,rfl,b4⟩:=fq rfl k1;obtain ⟨x5,rfl,b6⟩:=j4 rfl k2
 obtain ⟨x7,rfl,b8⟩:=kY dQ (λ y=>ag.Bd y) rfl k3 (λ m9 y10 hm11 k12 k13=>by
  obtain ⟨x14,Uw,b15⟩:=Uo _ O _ k12;exact ⟨x14,(qX Uw k13).trans (ag.I' _).symm,b15⟩
  )
 obtain ⟨x17,rfl,b18⟩:=kY eS (λ y=>y.length<=ga) rfl k4 (λ m19 y20 hm21 k22 k23=>by
  obtain ⟨x24,e26,b25⟩:=j4 rfl k22;exact ⟨x24,Nk e26 k23,b25⟩
  )
 exact ⟨ag.mk x1 x3 x5 x7 x17,Z,.mk b2 b4 b6 b8.1 b8.2 b18.1 b18.2⟩
inductive aa.Bd:aa->Prop where
 | mk {x:aa} (bKind:inR x.Ar) (bOp:inR x.fOp) (bName:x.A'.length<=ga) (bKey:x.B'.length<=ga) (bValue:ag.Bd x.By) (bKids:x.AI.length*160<=ga) (eKids:∀ y∈x.AI,aa.Bd y) (bAt:inR x.fAt):aa.Bd x
theorem aa.Bd.bKind {x:aa}(h:aa.Bd x):inR x.Ar:=by cases h; assumption
theorem aa.Bd.bOp {x:aa}(h:aa.Bd x):inR x.fOp:=by cases h; assumption
theorem aa.Bd.bName {x:aa}(h:aa.Bd x):x.A'.length<=ga:=by cases h; assumption
theorem aa.Bd.bKey {x:aa}(h:aa.Bd x):x.B'.length<=ga:=by cases h; assumption
theorem aa.Bd.bValue {x:aa}(h:aa.Bd x):ag.Bd x.By:=by cases h; assumption
theorem aa.Bd.bKids {x:aa}(h:aa.Bd x):x.AI.length*160<=ga:=by cases h; assumption
theorem aa.Bd.eKids {x:aa}(h:aa.Bd x):∀ y∈x.AI,aa.Bd y:=by cases h; assumption
theorem aa.Bd.bAt {x:aa}(h:aa.Bd x):inR x.fAt:=by cases h; assumption
theorem aa.dec (n:Nat):(∀ cs,WTf tt n 31 cs->∃ x:aa,cs=aa.cs x/\aa.Bd x):=by
 induction n using Nat.strongRecOn with
 | _ n ih =>
 have UY:∀ m,m < n->(∀ cs,WTf tt m 31 cs->∃ x:aa,cs=aa.cs x/\aa.Bd x):=λ m hm=>(ih m hm)
 intro cs h
 cases n with
 | zero=>exact h.elim
 | succ n =>
 have h0:=gR rfl h;obtain ⟨c0,q0,rfl,k0,h0⟩:=bu h0;obtain ⟨c1,q1,rfl,k1,h0⟩:=bu h0;obtain ⟨c2,q2,rfl,k2,h0⟩:=bu h0;obtain ⟨c3,q3,rfl,k3,h0⟩:=bu h0;obtain ⟨c4,q4,rfl,k4,h0⟩:=bu h0;obtain ⟨c5,q5,rfl,k5,h0⟩:=bu h0;obtain ⟨c6,q6,rfl,k6,h0⟩:=bu h0;have e:q6=[]:=h0;subst e;obtain ⟨x27,rfl,b28⟩:=fq rfl k0;obtain ⟨x29,rfl,b30⟩:=fq rfl k1;obtain ⟨x31,rfl,b32⟩:=j4 rfl k2;obtain ⟨x33,rfl,b34⟩:=j4 rfl k3;obtain ⟨x35,rfl,b36⟩:=ag.dec _ _ k4
 obtain ⟨x37,rfl,b38⟩:=kY al (λ y=>aa.Bd y) rfl k5 (λ m39 y40 hm41 k42 k43=>by
  obtain ⟨x44,XA,b45⟩:=UY _ O _ k42;exact ⟨x44,(qX XA k43).trans (aa.I' _).symm,b45⟩
  )
 obtain ⟨x47,rfl,b48⟩:=fq rfl k6;exact ⟨aa.mk x27 x29 x31 x33 x35 x37 x47,rfl,.mk b28 b30 b32 b34 b36 b38.1 b38.2 b48⟩
inductive ap.Bd:ap->Prop where
 | mk {x:ap} (bKind:inR x.Ar) (bAt:inR x.fAt) (bName:x.A'.length<=ga):ap.Bd x
theorem ap.Bd.bKind {x:ap}(h:ap.Bd x):inR x.Ar:=by cases h; assumption
theorem ap.Bd.bAt {x:ap}(h:ap.Bd x):inR x.fAt:=by cases h; assumption
theorem ap.Bd.bName {x:ap}(h:ap.Bd x):x.A'.length<=ga:=by cases h; assumption
theorem ap.dec (n:Nat):(∀ cs,WTf tt n 39 cs->∃ x:ap,cs=ap.cs x/\ap.Bd x):=by
 induction n using Nat.strongRecOn with
 | _ n ih =>
 have Xr:∀ m,m < n->(∀ cs,WTf tt m 39 cs->∃ x:ap,cs=ap.cs x/\ap.Bd x):=λ m hm=>(ih m hm)
 intro cs h
 cases n with
 | zero=>exact h.elim
 | succ n =>
 have h0:=gR rfl h;obtain ⟨c0,q0,rfl,k0,h0⟩:=bu h0;obtain ⟨c1,q1,rfl,k1,h0⟩:=bu h0;obtain ⟨c2,q2,rfl,k2,h0⟩:=bu h0;have e:q2=[]:=h0;subst e;obtain ⟨x49,rfl,b50⟩:=fq rfl k0;obtain ⟨x51,rfl,b52⟩:=fq rfl k1;obtain ⟨x53,rfl,b54⟩:=j4 rfl k2;exact ⟨ap.mk x49 x51 x53,rfl,.mk b50 b52 b54⟩
inductive bn.Bd:bn->Prop where
 | mk {x:bn} (bcount:inR x.fcount):bn.Bd x
theorem bn.Bd.bcount {x:bn}(h:bn.Bd x):inR x.fcount:=by cases h; assumption
theorem bn.dec (n:Nat):(∀ cs,WTf tt n 58 cs->∃ x:bn,cs=bn.cs x/\bn.Bd x):=by
 induction n using Nat.strongRecOn with
 | _ n ih =>
 have V6:∀ m,m < n->(∀ cs,WTf tt m 58 cs->∃ x:bn,cs=bn.cs x/\bn.Bd x):=λ m hm=>(ih m hm)
 intro cs h
 cases n with
 | zero=>exact h.elim
 | succ n =>
 have h0:=gR rfl h;obtain ⟨c0,q0,rfl,k0,h0⟩:=bu h0;have e:q0=[]:=h0;subst e;obtain ⟨x55,rfl,b56⟩:=fq rfl k0;exact ⟨bn.mk x55,rfl,.mk b56⟩
inductive ad.Bd:ad->Prop where
 | mk {x:ad} (bKind:inR x.Ar) (bText:x.C'.length<=ga) (bAt:inR x.fAt):ad.Bd x
theorem ad.Bd.bKind {x:ad}(h:ad.Bd x):inR x.Ar:=by cases h; assumption
theorem ad.Bd.bText {x:ad}(h:ad.Bd x):x.C'.length<=ga:=by cases h; assumption
theorem ad.Bd.bAt {x:ad}(h:ad.Bd x):inR x.fAt:=by cases h; assumption
theorem ad.dec (n:Nat):(∀ cs,WTf tt n 87 cs->∃ x:ad,cs=ad.cs x/\ad.Bd x):=by
 induction n using Nat.strongRecOn with
 | _ n ih =>
 have WV:∀ m,m < n->(∀ cs,WTf tt m 87 cs->∃ x:ad,cs=ad.cs x/\ad.Bd x):=λ m hm=>(ih m hm)
 intro cs h
 cases n with
 | zero=>exact h.elim
 | succ n =>
 have h0:=gR rfl h;obtain ⟨c0,q0,rfl,k0,h0⟩:=bu h0;obtain ⟨c1,q1,rfl,k1,h0⟩:=bu h0;obtain ⟨c2,q2,rfl,k2,h0⟩:=bu h0;have e:q2=[]:=h0;subst e;obtain ⟨x57,rfl,b58⟩:=fq rfl k0;obtain ⟨x59,rfl,b60⟩:=j4 rfl k1;obtain ⟨x61,rfl,b62⟩:=fq rfl k2;exact ⟨ad.mk x57 x59 x61,rfl,.mk b58 b60 b62⟩
inductive bA.Bd:bA->Prop where
 | mk {x:bA} (bL:x.fL.length*32<=ga) (eL:∀ y∈x.fL,ad.Bd y) (bI:inR x.fI) (bIn:inR x.fIn) (bD:ap.Bd x.fD):bA.Bd x
theorem bA.Bd.bL {x:bA}(h:bA.Bd x):x.fL.length*32<=ga:=by cases h; assumption
theorem bA.Bd.eL {x:bA}(h:bA.Bd x):∀ y∈x.fL,ad.Bd y:=by cases h; assumption
theorem bA.Bd.bI {x:bA}(h:bA.Bd x):inR x.fI:=by cases h; assumption
theorem bA.Bd.bIn {x:bA}(h:bA.Bd x):inR x.fIn:=by cases h; assumption
theorem bA.Bd.bD {x:bA}(h:bA.Bd x):ap.Bd x.fD:=by cases h; assumption
theorem bA.dec (n:Nat):(∀ cs,WTf tt n 65 cs->∃ x:bA,cs=bA.cs x/\bA.Bd x):=by
 induction n using Nat.strongRecOn with
 | _ n ih =>
 have Wl:∀ m,m < n->(∀ cs,WTf tt m 65 cs->∃ x:bA,cs=bA.cs x/\bA.Bd x):=λ m hm=>(ih m hm)
 intro cs h
 cases n with
 | zero=>exact h.elim
 | succ n =>
 have h0:=gR rfl h;obtain ⟨c0,q0,rfl,k0,h0⟩:=bu h0;obtain ⟨c1,q1,rfl,k1,h0⟩:=bu h0;obtain ⟨c2,q2,rfl,k2,h0⟩:=bu h0;obtain ⟨c3,q3,rfl,k3,h0⟩:=bu h0;have e:q3=[]:=h0;subst e
 obtain ⟨x63,rfl,b64⟩:=kY cM (λ y=>ad.Bd y) rfl k0 (λ m65 y66 hm67 k68 k69=>by
  obtain ⟨x70,e72,b71⟩:=ad.dec _ _ k68;exact ⟨x70,(qX e72 k69).trans (ad.I' _).symm,b71⟩
  )
 obtain ⟨x73,rfl,b74⟩:=fq rfl k1;obtain ⟨x75,rfl,b76⟩:=fq rfl k2;obtain ⟨x77,rfl,b78⟩:=ap.dec _ _ k3;exact ⟨bA.mk x63 x73 x75 x77,rfl,.mk b64.1 b64.2 b74 b76 b78⟩
inductive am.Bd:am->Prop where
 | mk {x:am} (bs:x.fs.length<=ga) (bat:inR x.fat) (bi:inR x.fi) (bfrom:inR x.D') (btext:x.E'.length<=ga) (bparts:x.BY.length*160<=ga) (eparts:∀ y∈x.BY,aa.Bd y):am.Bd x
theorem am.Bd.bs {x:am}(h:am.Bd x):x.fs.length<=ga:=by cases h; assumption
theorem am.Bd.bat {x:am}(h:am.Bd x):inR x.fat:=by cases h; assumption
theorem am.Bd.bi {x:am}(h:am.Bd x):inR x.fi:=by cases h; assumption
theorem am.Bd.bfrom {x:am}(h:am.Bd x):inR x.D':=by cases h; assumption
theorem am.Bd.btext {x:am}(h:am.Bd x):x.E'.length<=ga:=by cases h; assumption
theorem am.Bd.bparts {x:am}(h:am.Bd x):x.BY.length*160<=ga:=by cases h; assumption
theorem am.Bd.eparts {x:am}(h:am.Bd x):∀ y∈x.BY,aa.Bd y:=by cases h; assumption
theorem am.dec (n:Nat):(∀ cs,WTf tt n 69 cs->∃ x:am,cs=am.cs x/\am.Bd x):=by
 induction n using Nat.strongRecOn with
 | _ n ih =>
 have VD:∀ m,m < n->(∀ cs,WTf tt m 69 cs->∃ x:am,cs=am.cs x/\am.Bd x):=λ m hm=>(ih m hm)
 intro cs h
 cases n with
 | zero=>exact h.elim
 | succ n =>
 have h0:=gR rfl h;obtain ⟨c0,q0,rfl,k0,h0⟩:=bu h0;obtain ⟨c1,q1,rfl,k1,h0⟩:=bu h0;obtain ⟨c2,q2,rfl,k2,h0⟩:=bu h0;obtain ⟨c3,q3,rfl,k3,h0⟩:=bu h0;obtain ⟨c4,q4,rfl,k4,h0⟩:=bu h0;obtain ⟨c5,q5,rfl,k5,h0⟩:=bu h0;obtain ⟨c6,q6,rfl,k6,h0⟩:=bu h0;have e:q6=[]:=h0;subst e;obtain ⟨x79,rfl,b80⟩:=j4 rfl k0;obtain ⟨x81,rfl,b82⟩:=fq rfl k1;obtain ⟨x83,rfl,b84⟩:=fq rfl k2;obtain ⟨x85,rfl,b86⟩:=fq rfl k3;obtain ⟨x87,rfl,b88⟩:=j4 rfl k4
 obtain ⟨x89,rfl,b90⟩:=kY al (λ y=>aa.Bd y) rfl k5 (λ m91 y92 hm93 k94 k95=>by
  obtain ⟨x96,e98,b97⟩:=aa.dec _ _ k94;exact ⟨x96,(qX e98 k95).trans (aa.I' _).symm,b97⟩
  )
 obtain ⟨x99,rfl⟩:=H5 rfl k6;exact ⟨am.mk x79 x81 x83 x85 x87 x89 x99,rfl,.mk b80 b82 b84 b86 b88 b90.1 b90.2⟩
inductive af.Bd:af->Prop where
 | mk {x:af} (bl:x.fl.length*32<=ga) (el:∀ y∈x.fl,ad.Bd y) (bat:inR x.fat) (bnest:inR x.H') (bbase:inR x.G') (bbad:ap.Bd x.AT):af.Bd x
theorem af.Bd.bl {x:af}(h:af.Bd x):x.fl.length*32<=ga:=by cases h; assumption
theorem af.Bd.el {x:af}(h:af.Bd x):∀ y∈x.fl,ad.Bd y:=by cases h; assumption
theorem af.Bd.bat {x:af}(h:af.Bd x):inR x.fat:=by cases h; assumption
theorem af.Bd.bnest {x:af}(h:af.Bd x):inR x.H':=by cases h; assumption
theorem af.Bd.bbase {x:af}(h:af.Bd x):inR x.G':=by cases h; assumption
theorem af.Bd.bbad {x:af}(h:af.Bd x):ap.Bd x.AT:=by cases h; assumption
theorem af.dec (n:Nat):(∀ cs,WTf tt n 108 cs->∃ x:af,cs=af.cs x/\af.Bd x):=by
 induction n using Nat.strongRecOn with
 | _ n ih =>
 have Wk:∀ m,m < n->(∀ cs,WTf tt m 108 cs->∃ x:af,cs=af.cs x/\af.Bd x):=λ m hm=>(ih m hm)
 intro cs h
 cases n with
 | zero=>exact h.elim
 | succ n =>
 have h0:=gR rfl h;obtain ⟨c0,q0,rfl,k0,h0⟩:=bu h0;obtain ⟨c1,q1,rfl,k1,h0⟩:=bu h0;obtain ⟨c2,q2,rfl,k2,h0⟩:=bu h0;obtain ⟨c3,q3,rfl,k3,h0⟩:=bu h0;obtain ⟨c4,q4,rfl,k4,h0⟩:=bu h0;have e:q4=[]:=h0;subst e
 obtain ⟨x101,rfl,b102⟩:=kY cM (λ y=>ad.Bd y) rfl k0 (λ m103 y104 hm105 k106 k107=>by
  obtain ⟨x108,e110,b109⟩:=ad.dec _ _ k106;exact ⟨x108,(qX e110 k107).trans (ad.I' _).symm,b109⟩
  )
 obtain ⟨x111,rfl,b112⟩:=fq rfl k1;obtain ⟨x113,rfl,b114⟩:=fq rfl k2;obtain ⟨x115,rfl,b116⟩:=fq rfl k3;obtain ⟨x117,rfl,b118⟩:=ap.dec _ _ k4;exact ⟨af.mk x101 x111 x113 x115 x117,rfl,.mk b102.1 b102.2 b112 b114 b116 b118⟩
end Go.Ab
end
section
namespace Go.Ab.R06
open Go.Ab Go.Ab.RB Go.Lib
section
variable {p:Prop}
theorem Hu (h:p:=by
 by_cases a:k=3
 ·simp [a]
 by_cases b:k=4
 ·simp [b]
 by_cases c:k=9
 ·simp [c]
 by_cases d:k=12
 ·simp [d]
 simp [a,b,c,d]):p:=h
theorem Hp (h:p:=by
 have hn:¬ (e.Ar=3\/e.Ar=4\/e.Ar=9\/e.Ar=12\/e.Ar=13):=λ k=>hn (decide_eq_true k)
 simp only [hn,false_and,decide_false]):p:=h
theorem wy (h:p:=by
 have hi:bG e.A'=true:=by simpa using hi
 simp [hi,h4]):p:=h
theorem HG (h:p:=by
 refine ay (λ hq=>ab (by rw [if_pos (of_decide_eq_true hq)])) (λ hq=>ab ?_)
 rw [if_neg (λ k=>hq (decide_eq_true k))]):p:=h
theorem Kf (h:p:=by
 have:rM v:=Classical.byContradiction λ k=>by rw [hi.2 k] at h; simp at h
 rw [xU this]):p:=h
theorem IL (h:p:=by
 have hk:v.Ar=0\/v.Ar=1\/v.Ar=2\/v.Ar=3:=by omega
 clear h0 h3
 rcases hk with h | h | h | h <;> by_cases a:v.F'=0 <;> by_cases b:v.F'=1 <;> by_cases c:v.If=[] <;> by_cases d:v.Gw=[] <;> by_cases e:v.Df=[] <;> simp [h,a,b,c,d,e,Ma,J2,Nw,Ol]):p:=h
theorem ul (h:p:=by exact ae (by decide) (ab Z)):p:=h
theorem uJ (h:p:=by exact pL O):p:=h
end
theorem kg {P:Int->Prop}{i:Nat}(h:P ((i+1:Nat):Int)):P ((i:Int)+1):=by rwa [Int.natCast_add,Int.natCast_one] at h
theorem qH {α:Type} [Inhabited α] (l:List α){i:Nat}(h:i < l.length):l.drop i=lat l (i:Int)::l.drop (i+1):=by
 rw [kT l i h]; exact List.drop_eq_getElem_cons h
theorem Di (s:Bytes):fV s=some (fT s):=by
 unfold fV fT Nr;exact Gt
def rM (v:ag):Prop:=v.Ar=1/\v.F'≠0/\v.F'≠1\/v.Ar≠1/\v.Ar≠2/\v.F'≠0\/v.Ar≠3/\v.If≠[]\/v.Gw≠[]\/v.Df≠[]
theorem Ma {α:Type}(l:List α):(0 < (l.length:Int))↔l≠[]:=by rw [<- List.length_pos_iff]; omega
theorem J2 {α:Type}(l:List α):((l.length:Int)=0)↔l=[]:=by rw [<- List.length_eq_zero_iff]; omega
theorem El (v:ag)(h0:0<=v.Ar)(h3:v.Ar<=3):∃ b,jf v=some b/\(b=true↔¬ rM v):=by
 unfold jf rM;exact IL
theorem EI (v:ag)(h0:0<=v.Ar)(h3:v.Ar<=3):∃ b,i7 v=some b/\(b=true↔¬ rM v):=by
 unfold i7 rM;exact IL
theorem xU {v:ag}(h:rM v):qe v=1:=if_pos h
theorem vx {v:ag}(h:¬ rM v):qe v=if v.Ar=2/\¬ (-gO<=v.F'/\v.F'<=gO) then 5 else if v.Ar=3/\4096 < v.If.length then 3 else if v.Ar=3/\validD v.If=false then 1 else 0:=if_neg h
def xn (s:Bytes):Int:=if 4096 < s.length then 3 else if validD s=false then 1 else 0
theorem N8 (s:Bytes):jI s=some (xn s):=by
 unfold jI xn;by_cases h:4096 < s.length
 ·rw [if_pos O,if_pos h]
 ·rw [if_neg O,if_neg h,PS,qr];have:decide (s.length<=4096)=true:=by rw [decide_eq_true_eq]; omega
  rw [this,Bool.true_and]
  cases validD s <;> rfl
theorem PT (s:Bytes):Ev2 (λ n _=>iK n s) (·=xn s):=by
 simp only [iK];unfold xn;refine ay (λ h=>ab (by rw [if_pos O])) (λ h=>?_);rw [if_neg (show ¬ 4096 < s.length by omega)];refine ai _ (DN s O) ?_;have:decide (s.length<=4096)=true:=by rw [decide_eq_true_eq]; omega
 rw [this,Bool.true_and]
 cases validD s with
 | true=>exact ae (by decide) (ab Z)
 | false=>exact aj (by decide) (ab Z)
theorem Cw:xn []=0:=by unfold xn; rw [if_neg (by decide)]; rfl
theorem MN (v:ag)(h0:0<=v.Ar)(h3:v.Ar<=3):Ev2 (λ n _=>lj n v) (·=qe v):=by
 obtain ⟨b,hb,hi⟩:=El v h0 h3;simp only [lj];refine ai _ (aw hb rfl) (ay (λ h=>ab ?_) (λ h=>?_))
 ·exact Kf
 ·have hg:¬ rM v:=hi.1 kK;rw [vx hg];by_cases h2:v.Ar=2
  ·simp only [h2,if_true,true_and];by_cases hv:-gO<=v.F'/\v.F'<=gO
   ·refine fx () (ai _ (aw (wE _) Z) (ae (by simp [hv]) (ab Z))) (ab ?_);rw [if_neg (by simpa using hv),if_neg O,if_neg O]
   ·refine jR 5 (ai _ (aw (wE _) Z) (aj (by simp [hv]) (ab Z))) ?_;rw [if_pos hv]
  ·by_cases h5:v.Ar=3
   ·refine jR (xn v.If) (ae h2 (aj h5 (ai _ (aw (N8 _) Z) (ab Z)))) ?_;rw [if_neg O]; unfold xn; simp only [h5,true_and]
   ·refine fx () (ae h2 (ae h5 nD)) (ab ?_);rw [if_neg O,if_neg O,if_neg O]
theorem KP (v:ag)(h0:0<=v.Ar)(h3:v.Ar<=3):Ev2 (λ n _=>lK n v) (·=qe v):=by
 obtain ⟨b,hb,hi⟩:=EI v h0 h3;simp only [lK];refine ai _ (aw hb rfl) (ay (λ h=>ab ?_) (λ h=>?_))
 ·exact Kf
 ·have hg:¬ rM v:=hi.1 kK;rw [vx hg];have nv:lP v.F'=some (decide (-gO<=v.F'/\v.F'<=gO)):=wE v.F';have tail:v.Df=[]:=by unfold rM at hg; simp only [not_or] at hg; exact Classical.not_not.1 hg.2.2.2.2
  have str:v.Ar≠3->v.If=[]:=λ k=>by unfold rM at hg; simp only [not_or] at hg; exact Classical.byContradiction λ q=>hg.2.2.1 ⟨k,q⟩
  have last:Ev2 (λ n _=>(iK n v.If).bind λ r9=>if r9=0 then jn (eM n v n 0) λ _=>some 0 else some r9) (·=xn v.If):=by
   refine ai _ (PT _) (ay (λ h=>?_) (λ h=>ab Z));refine fx () (bh (f:=λ n m=>eM n v m 0) (aA ?_)) (ab h.symm);simp only [eM];exact ae (by rw [tail]; decide) (ab Z)
  by_cases h2:v.Ar=2
  ·simp only [h2,if_true,true_and];refine ai (!decide (-gO<=v.F'/\v.F'<=gO)) (ai _ (aw nv rfl) (ab rfl)) (ay (λ h=>ab ?_) (λ h=>?_))
   ·rw [if_pos (λ k=>by rw [decide_eq_true k] at h; exact absurd h (by decide))]
   ·rw [if_neg (show ¬ ¬ (-gO<=v.F'/\v.F'<=gO) from λ k=>h (by rw [decide_eq_false k]; rfl)),if_neg O,if_neg O];rw [str O,Cw] at last;rw [str O];exact last
  ·refine ai false (ae h2 (ab Z)) (ae (by decide) ?_);rw [if_neg O];by_cases h5:v.Ar=3
   ·simp only [h5,true_and]; exact last
   ·rw [if_neg O,if_neg O];rw [str h5,Cw] at last;rw [str h5];exact last
theorem uS {v:ag}(h:qe v=0):v.Gw=[]:=by
 have hg:¬ rM v:=λ k=>by rw [xU k] at h; cases h
 unfold rM at hg; simp only [not_or] at hg; exact Classical.not_not.1 hg.2.2.2.1
theorem HW (v:ag)(h0:0<=v.Ar)(h3:v.Ar<=3):Ev2 (λ n _=>ka n v) (·=qe v):=by
 simp only [ka];refine ao (λ r=>r.1=qe v) (aM ?_) (λ r hr=>ab hr);simp only [eF];refine ae (by decide) (ae (by decide) (ah (by decide) (ai _ (MN v h0 h3) (ay (λ h=>?_) (λ h=>ab rfl)))));refine fx 1 (bh (f:=λ n m=>dY (eF n) v 1 m 0 (0+1)) (aA ?_)) (ab h.symm);simp only [dY];exact ae (by rw [uS h]; decide) (ab rfl)
theorem J1 (v:ag)(h0:0<=v.Ar)(h3:v.Ar<=3):Ev2 (λ n _=>kj n v) (·=qe v):=by
 simp only [kj];refine ao (λ r=>r.1=qe v) (aM ?_) (λ r hr=>ab hr);simp only [gp];refine ae (by decide) (ae (by decide) (ai _ (KP v h0 h3) (ay (λ h=>ah (by decide) ?_) (λ h=>ab rfl))));refine fx 1 (bh (f:=λ n m=>eW (gp n) v 1 m (0+1) 0) (aA ?_)) (ab h.symm);simp only [eW];exact ae (by rw [uS h]; decide) (ab rfl)
theorem L9 (k:Int):iM k=some (decide (k=3\/k=4\/k=9\/k=12\/k=13)):=by
 unfold iM jF;exact Hu
theorem w8 (k:Int):aB k=some (decide (k=3\/k=4\/k=9\/k=12\/k=13)):=by
 unfold aB aH;exact Hu
section
variable {α β:Type}
theorem zE {p:Prop} [Decidable p] {a b:Option α}(h1:p->∃ r,a=some r)(h2:¬p->∃ r,b=some r):∃ r,(if p then a else b)=some r:=by
 exact J6
theorem wn {g:Option β}{k:β->Option α}(h:∃ r,g=some r)(hk:∀ x,∃ r,k x=some r):∃ r,g.bind k=some r:=by
 obtain ⟨x,rfl⟩:=h;exact hk x
theorem Hj {p:Prop} [Decidable p] {a:Option α}(hp:p)(h:∃ r,a=some r):∃ r,ck p a=some r:=by rw [bF hp]; exact h
end
theorem Ju (k:Int):∃ r,aH k=some r:=by unfold aH; repeat' (first | exact ⟨_,rfl⟩ | refine wn ?_ (λ _=>?_) | refine zE (λ _=>?_) (λ _=>?_) | refine Hj (by decide) ?_)
theorem Pt (k n:Int):∃ r,em k n=some r:=by unfold em; repeat' (first | exact ⟨_,rfl⟩ | exact Ju _ | exact ⟨_,w8 _⟩ | refine wn ?_ (λ _=>?_) | refine zE (λ _=>?_) (λ _=>?_) | refine Hj (by decide) ?_)
theorem AC (e:aa):∃ r,d7 e=some r:=by unfold d7; repeat' (first | exact ⟨_,rfl⟩ | exact Ju _ | exact ⟨_,w8 _⟩ | exact Pt _ _ | exact M7 _ | refine wn ?_ (λ _=>?_) | refine zE (λ _=>?_) (λ _=>?_) | refine Hj (by decide) ?_)
inductive VSz:ag->Prop where
 | mk {x:ag} (v:x.Gw.length+x.Df.length<=1000000000000000) (sub:∀ y∈x.Gw,VSz y):VSz x
theorem VSz.v {x:ag}(h:VSz x):x.Gw.length+x.Df.length<=1000000000000000:=by cases h; assumption
theorem Pw {v:ag}(hb:ag.Bd v):VSz v:=by
 induction hb with
 | @mk x bKind bNum bStr bItems eItems bKeys eKeys ih =>
  have h1:=bItems;have h2:=bKeys;unfold ga at h1 h2;exact .mk O ih
theorem zH {k n:Int}{s:Bytes}:VSz (.mk k n s [] []):=.mk (rg _) (λ _ h=>by cases h)
inductive Sz:aa->Prop where
 | mk {x:aa} (n:x.A'.length<=1000000000000000) (k:x.B'.length<=1000000000000000) (w:VSz x.By) (c:x.AI.length<=1000000000000000) (kids:∀ y∈x.AI,Sz y):Sz x
theorem Sz.n {x:aa}(h:Sz x):x.A'.length<=1000000000000000:=by cases h; assumption
theorem Sz.k {x:aa}(h:Sz x):x.B'.length<=1000000000000000:=by cases h; assumption
theorem Sz.w {x:aa}(h:Sz x):VSz x.By:=by cases h; assumption
theorem Sz.v {x:aa}(h:Sz x):x.By.Gw.length+x.By.Df.length<=1000000000000000:=h.w.v
theorem Sz.kids {x:aa}(h:Sz x):∀ y∈x.AI,Sz y:=by cases h; assumption
theorem Dp {e:aa}(hb:aa.Bd e):Sz e:=by
 induction hb with
 | @mk x bKind bOp bName bKey bValue bKids eKids bAt ih =>
  unfold ga at bName bKey bKids;exact .mk O O  (Pw bValue) O ih
theorem pU {e:aa}(hb:Sz e):d7 e=some (qt e):=by
 have h:=vV e hb.v;obtain ⟨r,hr⟩:=AC e;unfold qt;rw [h,hr]; rfl
theorem Jd {e:aa}(hb:Sz e):gq e=some (qt e):=by
 rw [vV e hb.v,pU hb]
theorem p8 {e:aa}(hb:Sz e)(h:qt e=true)(hk:e.Ar=1):0<=e.By.Ar/\e.By.Ar<=3:=by
 have h1:=pU hb;rw [h] at h1;unfold d7 at h1;generalize (Option.bind (em e.Ar (e.AI.length:Int)) _:Option Bool)=o at h1
 cases o with
 | none=>cases h1
 | some t =>
  cases t with
  | true=>cases h1
  | false =>
   simp only [qr,Bool.false_eq_true,if_false,hk,if_true] at h1;by_cases a:e.fOp=0
   ·by_cases b:e.By.Ar=0
    ·omega
    ·by_cases c:e.By.Ar=1
     ·omega
     ·by_cases d:e.By.Ar=3
      ·omega
      ·by_cases f:e.By.Ar=2
       ·omega
       ·simp [a,b,c,d,f] at h1
   ·simp [a] at h1
theorem Oi {e:aa}(hb:Sz e):Ev2 (λ n _=>mq n e) (·=iR e):=by
 have b1:=hb.n;have b2:=hb.k;simp only [mq];unfold iR;refine ai _ (aw (Jd hb) Z) (ay (λ h=>ab (by rw [if_pos kK])) (λ h=>?_));have h:qt e=true:=by simpa using h
 rw [if_neg (show ¬ qt e=false by rw [h]; decide)];refine ay (λ hk=>?_) (λ hk=>?_)
 ·rw [if_pos hk];exact ai _ (HW _ (p8 hb h hk).1 (p8 hb h hk).2) (ab rfl)
 rw [if_neg hk];refine ai (decide ((e.Ar=3\/e.Ar=4\/e.Ar=9\/e.Ar=12\/e.Ar=13)/\(bG e.A'=false\/e.Ar≠4/\fT e.A'=true))) ?_ ?_
 ·refine ai _ (aw (L9 _) Z) (ay (λ hn=>?_) (λ hn=>ab ?_))
  ·have hn:=of_decide_eq_true hn;rw [show decide ((e.Ar=3\/e.Ar=4\/e.Ar=9\/e.Ar=12\/e.Ar=13)/\(bG e.A'=false\/e.Ar≠4/\fT e.A'=true))=decide (bG e.A'=false\/e.Ar≠4/\fT e.A'=true) by simp only [hn,true_and]];refine ai _ (yC _ O) (ay (λ hi=>ab ?_) (λ hi=>ay (λ h4=>ab ?_) (λ h4=>ai _ um (ab ?_))))
   ·have hi:bG e.A'=false:=by simpa using hi
    simp [hi]
   ·exact wy
   ·exact wy
  ·exact Hp
 ·refine ay (λ hq=>ab (by rw [if_pos (of_decide_eq_true hq)])) (λ hq=>?_);rw [if_neg (λ k=>hq (decide_eq_true k))];refine ai (decide (e.B'≠[]/\(bG e.B'=false\/fT e.B'=true))) ?_ ?_
  ·refine ay (λ hk=>ab (by simp [hk])) (λ hk=>?_);refine ai _ (yC _ O) (ay (λ hi=>ab ?_) (λ hi=>ai _ um (ab ?_)))
   ·have hi:bG e.B'=false:=by simpa using hi
    simp [hi,hk]
   ·have hi:bG e.B'=true:=by simpa using hi
    simp [hi,hk]
  ·exact HG
theorem PM {e:aa}(hb:Sz e):Ev2 (λ n _=>lJ n e) (·=iR e):=by
 have b1:=hb.n;have b2:=hb.k;simp only [lJ];unfold iR;refine ai _ (aw (pU hb) Z) (ay (λ h=>ab (by rw [if_pos kK])) (λ h=>?_));have h:qt e=true:=by simpa using h
 rw [if_neg (show ¬ qt e=false by rw [h]; decide)];refine ay (λ hk=>?_) (λ hk=>?_)
 ·rw [if_pos hk];exact ai _ (J1 _ (p8 hb h hk).1 (p8 hb h hk).2) (ab rfl)
 rw [if_neg hk];refine ai (decide ((e.Ar=3\/e.Ar=4\/e.Ar=9\/e.Ar=12\/e.Ar=13)/\(bG e.A'=false\/e.Ar≠4/\fT e.A'=true))) ?_ ?_
 ·refine ai _ (aw (w8 _) Z) (ay (λ hn=>?_) (λ hn=>ab ?_))
  ·have hn:=of_decide_eq_true hn;rw [show decide ((e.Ar=3\/e.Ar=4\/e.Ar=9\/e.Ar=12\/e.Ar=13)/\(bG e.A'=false\/e.Ar≠4/\fT e.A'=true))=decide (bG e.A'=false\/e.Ar≠4/\fT e.A'=true) by simp only [hn,true_and]];refine ai _ (vU _ O) (ay (λ hi=>ab ?_) (λ hi=>ay (λ h4=>ab ?_) (λ h4=>ai _ (aw (Di _) Z) (ab ?_))))
   ·have hi:bG e.A'=false:=by simpa using hi
    simp [hi]
   ·exact wy
   ·exact wy
  ·exact Hp
 ·refine ay (λ hq=>ab (by rw [if_pos (of_decide_eq_true hq)])) (λ hq=>?_);rw [if_neg (λ k=>hq (decide_eq_true k))];refine ai (decide (e.B'≠[]/\(bG e.B'=false\/fT e.B'=true))) ?_ ?_
  ·refine ay (λ hk=>ab (by simp [hk])) (λ hk=>?_);simp only [nj];refine ai (bG e.B'&&!fT e.B') ?_ (ab ?_)
   ·refine ai (bG e.B'&&!fT e.B') (ai _ (vU _ O) (ay (λ hi=>ai _ (aw (Di _) Z) (ab ?_)) (λ hi=>ab ?_))) (ab Z)
    ·rw [hi]; rfl
    ·have hi:bG e.B'=false:=by simpa using hi
     rw [hi]; rfl
   ·cases bG e.B' <;> cases fT e.B' <;> simp [hk]
  ·exact HG
theorem Q4 {e:aa}(hb:Sz e):∀ (c lv:Nat) (ci li:Int),ci=c->li=lv->c<=4096->lv<=33 ->
  Ev2 (λ n _=>bH n (bn.mk ci) e li) (λ r=>r.1=(j7 c lv e).1/\r.2=bn.mk (((j7 c lv e).2:Nat):Int)/\(j7 c lv e).2<=4096):=by
 induction hb with
 | @mk x sn sk sv hs skids ih =>
  intro c lv ci li hc hl h1 h2;have hb:Sz x:=.mk sn sk sv hs skids;refine aM ?_;simp only [bH];rw [lV];refine ay (λ h=>?_) (λ h=>?_)
  ·rw [if_pos O]; exact ab ⟨rfl,by rw [hc],h1⟩
  rw [if_neg (show ¬ 32 < lv by omega)];refine ay (λ h5=>?_) (λ h5=>?_)
  ·rw [if_pos O]; exact ab ⟨rfl,by rw [hc],h1⟩
  rw [if_neg (show ¬ 4096<=c by omega)];refine ah aV ?_;refine ai _ (Oi hb) ?_;refine ay (λ h0=>?_) (λ h0=>?_)
  ·rw [if_pos h0]
   have loop:∀ (k i c:Nat) (ci:Int),i+k=x.AI.length->ci=c->c<=4096->Ev2 (λ n m=>bz (bH n) x li m (i:Int) ci) (λ s=>(jg c (lv+1) (x.AI.drop i)).2<=4096/\s=if (jg c (lv+1) (x.AI.drop i)).1=0 then .inl (((jg c (lv+1) (x.AI.drop i)).2:Nat):Int) else .inr ((jg c (lv+1) (x.AI.drop i)).1,bn.mk (((jg c (lv+1) (x.AI.drop i)).2:Nat):Int))):=by
    intro k
    induction k with
    | zero =>
     intro i c ci hi hc h6;refine aA ?_;simp only [bz];rw [List.drop_eq_nil_of_le O];exact ae O (ab ⟨by rw [jg]; exact h6,by rw [jg,hc]; rfl⟩)
    | succ k ihk =>
     intro i c ci hi hc h6;refine aA ?_;simp only [bz];rw [qH _ (show i < x.AI.length by omega),kW];refine aj O (ah O (ah aV ?_));refine ao _ (ih _ uJ c (lv+1) ci (li+1) hc O h6 O) ?_;rintro ⟨r1,r2⟩ ⟨q1,q2,q3⟩;simp only at q1 q2;subst q1 q2;refine ay (λ h8=>?_) (λ h8=>?_)
     ·simp only [if_pos h8];refine ah aV ?_;exact kg (P:=λ j=>Ev2 (λ n m=>bz (bH n) x li m j _) _) (ihk (i+1) _ _ O rfl q3)
     ·simp only [if_neg h8]; exact ab ⟨q3,rfl⟩
   refine d5 (bB (bh (f:=λ n m=>bz (bH n) x li m 0 (ci+1)) (loop x.AI.length 0 (c+1) (ci+1) O O O)) ?_);rintro s ⟨s1,s2⟩;simp only [List.drop_zero] at s1 s2;subst s2;by_cases h9:(jg (c+1) (lv+1) x.AI).1=0
   ·simp only [if_pos h9]; exact ab ⟨h9.symm,rfl,s1⟩
   ·rw [if_neg h9]; exact ⟨rfl,rfl,s1⟩
  ·rw [if_neg h0]; exact ab ⟨rfl,by rw [hc,Int.natCast_add,Int.natCast_one],by omega⟩
theorem LB {e:aa}(hb:Sz e):Ev2 (λ n _=>lC n e) (·=chk e):=by
 simp only [lC];exact ao _ (Q4 hb 0 1 0 1 Z Z (by decide) (by decide)) (λ r hr=>ab hr.1)
theorem Q3 {e:aa}(hb:Sz e):∀ (c lv:Nat) (ci li:Int),ci=c->li=lv->c<=4096->lv<=33 ->
  Ev2 (λ n _=>dm n e li ci) (λ r=>r.1=(j7 c lv e).1/\(r.1=0->r.2=(((j7 c lv e).2:Nat):Int))/\(j7 c lv e).2<=4096):=by
 induction hb with
 | @mk x sn sk sv hs skids ih =>
  intro c lv ci li hc hl h1 h2;have hb:Sz x:=.mk sn sk sv hs skids;refine aM ?_;simp only [dm];rw [lV];refine ay (λ h=>?_) (λ h=>?_)
  ·rw [if_pos O]; exact ab ⟨rfl,by simp,h1⟩
  rw [if_neg (show ¬ 32 < lv by omega)];refine ay (λ h5=>?_) (λ h5=>?_)
  ·rw [if_pos O]; exact ab ⟨rfl,by simp,h1⟩
  rw [if_neg (show ¬ 4096<=c by omega)];refine ai _ (PM hb) ?_;refine ah aV ?_
  have stop:∀ (i ci kk:Int),kk≠0->Ev2 (λ n m=>bW (dm n) x li m kk ci i) (·=(kk,ci)):=by
   intro i ci kk hk;refine aA ?_;simp only [bW];refine ai false (ay (λ _=>ab (by simpa using hk)) (λ _=>ab rfl)) ul
  by_cases h0:iR x=0
  ·rw [if_pos h0,h0]
   have loop:∀ (k i c:Nat) (ci:Int),i+k=x.AI.length->ci=c->c<=4096->Ev2 (λ n m=>bW (dm n) x li m 0 ci (i:Int)) (λ s=>(jg c (lv+1) (x.AI.drop i)).2<=4096/\s.1=(jg c (lv+1) (x.AI.drop i)).1/\(s.1=0->s.2=(((jg c (lv+1) (x.AI.drop i)).2:Nat):Int))):=by
    intro k
    induction k with
    | zero =>
     intro i c ci hi hc h6;refine aA ?_;simp only [bW];rw [List.drop_eq_nil_of_le O];refine ai false nD (ae (by decide) (ab ⟨by rw [jg]; exact h6,by rw [jg],λ _=>by rw [jg]; exact hc⟩))
    | succ k ihk =>
     intro i c ci hi hc h6;refine aA ?_;simp only [bW];rw [qH _ (show i < x.AI.length by omega),kW];refine ai true (aj O (ab rfl)) (aj rfl (ah O (ah aV ?_)));refine ao _ (ih _ uJ c (lv+1) ci (li+1) hc O h6 O) ?_;rintro ⟨r1,r2⟩ ⟨q1,q2,q3⟩;simp only at q1 q2;refine ah aV ?_;by_cases h8:r1=0
     ·subst h8;have q2:=q2 rfl;simp only [if_pos q1.symm];subst q2;exact kg (P:=λ j=>Ev2 (λ n m=>bW (dm n) x li m 0 _ j) _) (ihk (i+1) _ _ O rfl q3)
     ·simp only [if_neg (show ¬ (j7 c (lv+1) (lat x.AI (i:Int))).1=0 by rw [<- q1]; exact h8)];exact bB (stop _ _ _ h8) (λ s hs=>by subst hs; exact ⟨q3,q1,λ k=>absurd k h8⟩)
   refine ao _ (bh (f:=λ n m=>bW (dm n) x li m 0 (ci+1) 0) (loop x.AI.length 0 (c+1) (ci+1) O O O)) ?_;rintro s ⟨s1,s2,s3⟩;simp only [List.drop_zero] at s1 s2 s3;exact ab ⟨s2,s3,s1⟩
  ·rw [if_neg h0];exact ao _ (bh (f:=λ n m=>bW (dm n) x li m (iR x) (ci+1) 0) (stop _ _ _ h0)) (λ s hs=>by subst hs; exact ab ⟨rfl,λ k=>absurd k h0,by omega⟩)
theorem KG {e:aa}(hb:Sz e):Ev2 (λ n _=>kr n e) (·=chk e):=by
 simp only [kr];exact ao _ (Q3 hb 0 1 0 1 Z Z (by decide) (by decide)) (λ r hr=>ab hr.1)
mutual
def dG:aa->Nat
 | .mk _ _ _ _ _ kids _=>1+bN kids
def bN:List aa->Nat
 | []=>0
 | x::r=>dG x+bN r
end
theorem iU (e:aa):dG e=1+bN e.AI:=by cases e; simp only [dG,aa.AI]
theorem Gs {e:aa}(hb:aa.Bd e):∀ (nodes levels:Int),0<=nodes->nodes<=1000000->-1000000<=levels->levels<=1000000 ->
  Ev2 (λ n _=>eV n e nodes levels) (λ r=>-1<=r/\r<=nodes/\(0<=r->r=nodes - (dG e:Int))):=by
 induction hb with
 | @mk x bKind bOp bName bKey bValue bKids eKids bAt ih =>
  intro nodes levels h1 h2 h3 h4;have hl:=bKids;unfold ga at hl;refine aM ?_;simp only [eV];refine ay (λ _=>ab ⟨by omega,by omega,by omega⟩) (λ h=>?_);refine ah aV ?_
  have loop:∀ (k i:Nat) (c:Int),i+k=x.AI.length->-1<=c->c<=1000000->Ev2 (λ n m=>dw (eV n) x levels m c (i:Int)) (λ s=>-1<=s/\s<=c/\(0<=s->s=c - (bN (x.AI.drop i):Int))):=by
   intro k
   induction k with
   | zero =>
    intro i c hi h6 h7;refine aA ?_;simp only [dw];refine ai false nD (ae G (ab ⟨h6,by omega,λ _=>?_⟩));rw [List.drop_eq_nil_of_le O]; simp [bN]
   | succ k ihk =>
    intro i c hi h6 h7;refine aA ?_;simp only [dw];refine ai (decide (0<=c)) (aj O (ab rfl)) (ay (λ h8=>?_) (λ h8=>ab ⟨h6,by omega,λ h=>absurd kK h8⟩));have h8:0<=c:=by simpa using h8
    refine ah O (ah aV ?_);refine ao _ (ih _ uJ c (levels - 1) h8 h7 O O) (λ q hq=>?_);refine ah aV ?_;refine bB (kg (P:=λ j=>Ev2 (λ n m=>dw (eV n) x levels m q j) _) (ihk (i+1) q O hq.1 O)) (λ s hs=>⟨hs.1,by omega,λ h=>?_⟩);rw [qH _ O];have a1:=hs.2.2 h;have a2:=hq.2.2 O;simp only [bN];omega
  refine ao _ (bh (f:=λ n m=>dw (eV n) x levels m (nodes - 1) 0) (loop x.AI.length 0 (nodes - 1) O O O)) (λ s hs=>ab ⟨hs.1,by omega,λ h=>?_⟩);have:=hs.2.2 h;rw [iU];simp only [List.drop_zero] at this;omega
theorem Ek {e:aa}(hb:aa.Bd e)(nodes:Int)(h1:0<=nodes)(h2:nodes<=1000000):Ev2 (λ n _=>ki n e nodes) (λ r=>r=true->(dG e:Int)<=nodes):=by
 simp only [ki];refine ao _ (Gs hb nodes 40 h1 h2 (by decide) (by decide)) (λ r hr=>ab (λ h=>?_));have h:0<=r:=by simpa using h
 have:=hr.2.2 h;omega
end Go.Ab.R06
end
section
namespace Go.Ab.R06
open Go.Ab Go.Ab.RB Go.Lib
section
variable {p:Prop}
theorem zP (h:p:=by
 exact up (i1 _ _ _ h) (List.suffix_refl _)):p:=h
theorem I7 (h:p:=by
 rw [bt]; simp only [aq,dg]; omega):p:=h
theorem Ha (h:p:=by exact uV (by decide) (by decide) (by have:=z1.2; have:=(glt g hs).2; omega) z1.1):p:=h
end
theorem tlS (b:Bool)(l:List ad):tl b l <:+ l:=by
 unfold tl nf
 cases b
 ·exact List.tail_suffix _
 ·exact (List.tail_suffix _).trans (List.dropWhile_suffix _)
theorem t1 {b:Bool}{l m:List ad}(h:l <:+ m):tl b l <:+ m:=(tlS b l).trans h
def Gl (l:List ad):Prop:=Gd l/\l.length<=1000000000
def gr {α:Type}(P:α->Prop)(l0:List ad)(x:PR α):Prop:=∀ q,x=some q->match q with
 | .inl e=>e.1≠0
 | .inr (a,l')=>P a/\l' <:+ l0/\Gl l'
theorem iG {α:Type}{P:α->Prop}{l0:List ad}:gr P l0 none:=by intro q h; cases h
theorem eq {α:Type}{P:α->Prop}{l0 l':List ad}{a:α}(p:P a)(h:l' <:+ l0)(g:Gl l'):gr P l0 (pok a l'):=by intro q h'; cases h'; exact ⟨p,h,g⟩
theorem rZ {α:Type}{P:α->Prop}{l0:List ad}{k a:Int}(h:k≠0):gr P l0 (per k a):=by intro q h'; cases h'; exact h
theorem cK {α:Type}{P:α->Prop}{p:Prop} [Decidable p] {l0:List ad}{x y:PR α}(h1:p->gr P l0 x)(h2:¬p->gr P l0 y):gr P l0 (if p then x else y):=by
 by_cases h:p
 ·rw [if_pos h]; exact h1 h
 ·rw [if_neg h]; exact h2 h
theorem d8 {α β:Type}{x:PR α}{k:α->List ad->PR β}{q:PE⊕(β×List ad)}(h:pb x k=some q):(∃ e,x=some (.inl e)/\q=.inl e)\/(∃ a l,x=some (.inr (a,l))/\k a l=some q):=by
 cases x with
 | none=>cases h
 | some y =>
  rcases y with e | ⟨a,l⟩
  ·cases h; exact .inl ⟨e,rfl,rfl⟩
  ·exact .inr ⟨a,l,Z,h⟩
theorem dC {α β:Type}{P:α->Prop}{P':β->Prop}{l0 l1:List ad}{x:PR α}{k:α->List ad->PR β}(h:gr P l1 x)(hs:l1 <:+ l0)(hk:∀ a l',P a->l' <:+ l0->Gl l'->gr P' l0 (k a l')):gr P' l0 (pb x k):=by
 intro q hq;rcases d8 hq with ⟨e,hx,rfl⟩ | ⟨a,l,hx,hq⟩
 ·exact h _ hx
 ·exact hk a l (h _ hx).1 ((h _ hx).2.1.trans hs) (h _ hx).2.2 q hq
theorem uD {α:Type}{P:α->Prop}{l0 l1:List ad}{x:PR α}(h:gr P l1 x)(hs:l1 <:+ l0):gr P l0 x:=by
 intro q hq;have:=h q hq;rcases q with e | ⟨a,l'⟩
 ·exact this
 ·exact ⟨this.1,this.2.1.trans hs,this.2.2⟩
theorem glk {b:Bool}{l:List ad}{k:Int}(g:Gl l)(h:(hd b l).Ar=k)(hk:k≠6):Gl (tl b l):=⟨B7 (sf g.1) O,Nat.le_trans (tlS b l).length_le g.2⟩
theorem glt {b:Bool}{l:List ad}{s:Bytes}(g:Gl l)(h:sgB b l s=true):Gl (tl b l):=glk g (qg.1 h).1 (by decide)
theorem glw {b:Bool}{l:List ad}{s:Bytes}(g:Gl l)(h:wdB b l s=true):Gl (tl b l):=glk g (wZ.1 h).1 (by decide)
theorem gln {b:Bool}{l:List ad}(g:Gl l):(hd b l).C'.length<=1000000000:=by
 have:=yQ (sf (b:=b) g.1);have h1:=this.1;have h2:=this.2.1;omega
theorem gll {b:Bool}{l:List ad}(g:Gl l):(tl b l).length < l.length:=OZ (sf g.1)
abbrev Tr {α:Type}:α->Prop:=λ _=>True
abbrev Nm:Bytes->Prop:=λ s=>s.length<=1000000000
theorem jv {b:Bool}{s:Bytes}{l:List ad}(g:Gl l):gr Tr (tl b l) (d4 b s l):=cK (λ h=>eq trivial (List.suffix_refl _) (glt g h)) (λ _=>rZ (by decide))
theorem OU {b:Bool}{s:Bytes}{l:List ad}(g:Gl l):gr Tr (tl b l) (DK b s l):=cK (λ h=>eq trivial (List.suffix_refl _) (glw g h)) (λ _=>rZ (by decide))
theorem Gr {b:Bool}{l:List ad}(g:Gl l):gr Nm (tl b l) (BF b l):=cK (λ h=>eq (gln g) (List.suffix_refl _) (glk g h.1 (by decide))) (λ _=>rZ (by decide))
theorem Ca:∀ (f c:Nat) (l:Bytes) (e:SE),gQ f c l=.inl e->e.1≠0
 | 0,c,l,e,h=>by rw [gQ] at h; cases h; decide
 | f+1,c,l,e,h=>by
  rw [iL] at h
  cases hsk:dz true l with
  | nil =>
   rw [hsk,mx] at h;split at h
   ·cases h; decide
   ·cases h
  | cons b r =>
   rw [hsk,gw] at h;split at h
   ·cases h; exact (show (2:Int)≠0 by decide)
   split at h
   ·cases h; exact (show (14:Int)≠0 by decide)
   cases ht:iE (eg f 0) (b::r) with
   | inl e' =>
    rw [ht] at h; cases h;show e'.1≠0;exact Do (λ x y hxy=>(Ic f 0).1 x y hxy) ht
   | inr z =>
    obtain ⟨k,t,l'⟩:=z;rw [ht,ig] at h
    cases hs:gQ f (c+1) l' with
    | inl e'=>rw [hs] at h; cases h; exact Ca f (c+1) l' _ hs
    | inr ts'=>rw [hs] at h; cases h
theorem Ld {src:Bytes->SE⊕Bytes}{l:Bytes}(hsrc:∀ r r',src r=.inr r'->r'.length < r.length){c:Int}{t l':Bytes}(h:iE src l=.inr (c,t,l')):c≠6/\t.length<=l.length/\(c=3->t.length+2<=l.length)/\(c=2->t.all fe=true):=by
 cases l with
 | nil=>cases h
 | cons b r =>
  rw [fz] at h;split at h
  ·split at h
   ·cases h
   ·cases h
    exact ⟨by decide,(List.takeWhile_prefix _).length_le,(λ h=>absurd h (by decide)),(λ h=>absurd h (by decide))⟩
  split at h
  ·cases h
   exact ⟨by decide,(List.takeWhile_prefix _).length_le,(λ h=>absurd h (by decide)),λ _=>List.all_takeWhile⟩
  split at h
  ·cases h; exact ⟨by decide,by simp,(λ h=>absurd h (by decide)),(λ h=>absurd h (by decide))⟩
  split at h
  ·split at h
   ·cases h
   ·rename_i r' hr
    cases h
    have:=hsrc r _ hr;simp only [List.length_take,aq];exact ⟨by decide,by omega,λ _=>by omega,(λ h=>absurd h (by decide))⟩
  split at h
  ·cases h
  ·rename_i hs
   cases h
   exact ⟨by decide,(tI hs).2,(λ h=>absurd h (by decide)),(λ h=>absurd h (by decide))⟩
theorem tV (c:Bool)(l:Bytes):(dz c l).length<=l.length:=by
 have h1:=(List.dropWhile_suffix (p:=gW) (l:=l)).length_le;unfold dz;split
 ·rename_i b r hb;rw [hb] at h1;split
  ·exact Nat.le_trans (List.dropWhile_suffix _).length_le h1
  ·exact h1
 ·exact rg _
theorem yR (s:Bytes)(a:Int)(h0:0<=a)(h1:a+(s.length:Int)<=1000000000):∀ (f c:Nat) (l:Bytes) (ts:List Tk),l.length<=s.length->gQ f c l=.inr ts->Gd ((ts.map (tkS s)).map (mvT a))/\(∀ t∈ts.map (tkS s),t.Ar=3->t.C'.length+2<=l.length)/\ts.length<=l.length+1
 | 0,c,l,ts,_,h=>by rw [gQ] at h; cases h
 | f+1,c,l,ts,hl,h=>by
  rw [iL] at h;have hk:=tV true l
  cases hsk:dz true l with
  | nil =>
   rw [hsk,mx] at h;split at h
   ·cases h
   ·cases h
    refine ⟨⟨⟨?_,?_,λ h=>absurd (show (6:Int)=3 from h) (by decide),λ h=>absurd (show (6:Int)=2 from h) (by decide)⟩,.inl ⟨Z,Z⟩⟩,?_,by simp⟩
    ·show 0<=(s.length:Int) - ((0:Nat):Int)+a; omega
    ·show (s.length:Int) - ((0:Nat):Int)+a+((0:Nat):Int)<=_; omega
    ·intro t ht hk; simp only [cl,List.map_nil,List.mem_singleton] at ht; subst ht; cases hk
  | cons b r =>
   rw [hsk] at hk;rw [hsk,gw] at h;split at h
   ·cases h
   split at h
   ·cases h
   cases ht:iE (eg f 0) (b::r) with
   | inl e=>rw [ht] at h; cases h
   | inr z =>
    obtain ⟨k,t,l'⟩:=z;rw [ht,ig] at h;obtain ⟨b1,b2,b3,b4⟩:=Ld (λ x y hxy=>((fO f 0).1 x y hxy).2) ht;have b5:=(iA (λ x y _ hxy=>(fO f 0).1 x y hxy) ht).2
    cases hs:gQ f (c+1) l' with
    | inl e=>rw [hs] at h; cases h
    | inr ts' =>
     rw [hs] at h; cases h;obtain ⟨i1,i2,i3⟩:=yR s a h0 h1 f (c+1) l' ts' O hs;have hn:(b::r).length<=s.length:=by omega
     refine ⟨⟨⟨?_,?_,?_,b4⟩,.inr ⟨b1,i1⟩⟩,?_,by simp only [aq] at i3 b5 hk ⊢; omega⟩
     ·show 0<=(s.length:Int) - ((b::r).length:Int)+a; omega
     ·show (s.length:Int) - ((b::r).length:Int)+a+(t.length:Int)<=_; omega
     ·intro U9;have:=b3 U9;show (s.length:Int) - ((b::r).length:Int)+a+1+(t.length:Int)<=_; omega
     ·intro y hy hy3;rw [cl] at hy;rcases ro.1 hy with rfl | hy
      ·have:=b3 hy3;show t.length+2<=_; omega
      ·have:=i2 y hy hy3;omega
theorem w5 {s:Bytes}{a:Int}(h0:0<=a)(h1:a+(s.length:Int)<=1000000000)(h:(gu s).2.Ar=0):Gd ((gu s).1.map (mvT a))/\(∀ t∈(gu s).1,t.Ar=3->t.C'.length+2<=s.length)/\(gu s).1.length<=65537:=by
 unfold gu at h ⊢;split
 ·rename_i hl; rw [if_pos hl] at h; cases h
 ·rename_i hl;rw [if_neg hl] at h
  cases hs:gQ (s.length+1) 0 s with
  | inl e =>
   rw [hs] at h;exact absurd h (Ca _ _ _ e hs)
  | inr ts =>
   obtain ⟨i1,i2,i3⟩:=yR s a h0 h1 _ _ s ts (mv _) hs;refine ⟨i1,i2,?_⟩;show ([]++ts.map (tkS s)).length<=_;rw [ur,List.length_map]; omega
theorem CP {s:Bytes}{a:Int}(h0:0<=a)(h1:a+(s.length:Int)<=1000000000)(h:(gu s).2.Ar=0):Gl ((gu s).1.map (mvT a)) :=
 ⟨(w5 h0 h1 h).1,by have:=(w5 h0 h1 h).2.2; rw [List.length_map]; omega⟩
theorem nU:∀ (f:Nat),(∀ d l r,ee f d l=some (some r)->r <:+ l/\r.length < l.length)/\(∀ l r,fv f l=some (some r)->r <:+ l/\r.length < l.length)
 | 0=>⟨λ d l r h=>(by rw [ee] at h; cases h),λ l r h=>(by rw [fv] at h; cases h)⟩
 | f+1=>by
  obtain ⟨i1,i2⟩:=nU f;constructor
  ·intro d l r h
   cases l with
   | nil=>rw [ee] at h; cases h
   | cons b l =>
    have up:∀ {x:Bytes},r <:+ x/\r.length < x.length->x <:+ l->r <:+ (b::l)/\r.length < (b::l).length:=λ hx hy=>⟨(hx.1.trans hy).trans (List.suffix_cons _ _),by have:=hy.length_le; rw [aq]; omega⟩
    rw [ee] at h;split at h
    ·exact zP
    split at h
    ·split at h
     ·exact ww
     ·exact zP
    split at h
    ·cases hq:fv f l with
     | none=>rw [hq] at h; cases h
     | some y =>
      rw [hq] at h
      cases y with
      | none=>cases h
      | some r'=>exact up (i1 _ _ _ h) (i2 _ _ hq).1
    ·exact zP
  ·intro l r h
   cases l with
   | nil=>rw [fv] at h; cases h
   | cons b l =>
    have up:∀ {x:Bytes},r <:+ x/\r.length < x.length->x <:+ l->r <:+ (b::l)/\r.length < (b::l).length:=λ hx hy=>⟨(hx.1.trans hy).trans (List.suffix_cons _ _),by have:=hy.length_le; rw [aq]; omega⟩
    rw [fv] at h;split at h
    ·exact ww
    split at h
    ·exact up (i2 _ _ h) (List.drop_suffix _ _)
    split at h
    ·exact up (i2 _ _ h) (List.drop_suffix 2 l)
    split at h
    ·cases hq:ee f 1 ((b::l).drop 2) with
     | none=>rw [hq] at h; cases h
     | some y =>
      rw [hq] at h
      cases y with
      | none=>cases h
      | some r'=>exact up (i2 _ _ h) ((i1 _ _ _ hq).1.trans (List.drop_suffix 1 l))
    ·exact up (i2 _ _ h) (List.suffix_refl _)
theorem yI {l t:Bytes}{n:Nat}(h:jm l=.inr (t,n)):1<=n/\n<=l.length:=by
 cases l with
 | nil=>cases h
 | cons b r =>
  rw [jm] at h;split at h
  ·split at h
   ·rename_i hz
    cases h
    have:=(pV r).2.2.1 hz;rw [aq]; omega
   ·cases h
  ·split at h
   ·cases h
   ·cases h
    have:=gK (b::r) G;exact ⟨this.1,this.2.1⟩
def pR {α:Type}(P:α->Prop)(x:Option (PE⊕α)):Prop:=∀ q,x=some q->match q with
 | .inl e=>e.1≠0
 | .inr a=>P a
theorem qh {α:Type}{P:α->Prop}:pR P none:=by intro e h; cases h
theorem QD {α:Type}{P:α->Prop}{a:α}(h:P a):pR P (some (.inr a)):=by intro e h'; cases h'; exact h
theorem ze {α:Type}{P:α->Prop}{k a:Int}(h:k≠0):pR P (some (.inl (k,a))):=by intro e h'; cases h'; exact h
theorem uk {α:Type}{P:α->Prop}{p:Prop} [Decidable p] {x y:Option (PE⊕α)}(h1:p->pR P x)(h2:¬p->pR P y):pR P (if p then x else y):=by
 by_cases h:p
 ·rw [if_pos h]; exact h1 h
 ·rw [if_neg h]; exact h2 h
theorem uV {k op:Int}{nm key:Bytes}{kids:List aa}{at':Int}(n:nm.length<=1000000000)(m:key.length<=1000000000)(c:kids.length<=4000000000)(h:∀ y∈kids,Sz y):Sz (aa.mk k op nm key v0 kids at') :=
 .mk (Nat.le_trans n (by decide)) (Nat.le_trans m (by decide)) zH (Nat.le_trans c (by decide)) h
theorem HS (v:ag)(at':Int)(h:VSz v):Sz (pi v at'):=.mk (rg _) (rg _) h (rg _) (λ y hy=>by cases hy)
theorem Om (s:Bytes)(at':Int):Sz (rv s at'):=HS _ _ zH
theorem m1 {a:aa}(h:Sz a):∀ y∈[a],Sz y:=λ y hy=>by rw [List.mem_singleton.1 hy]; exact h
theorem m2 {a b:aa}(h:Sz a)(g:Sz b):∀ y∈[a,b],Sz y:=λ y hy=>by
 rcases ro.1 hy with rfl | hy
 ·exact h
 ·exact m1 g y hy
theorem m3 {a b c:aa}(h:Sz a)(g:Sz b)(k:Sz c):∀ y∈[a,b,c],Sz y:=λ y hy=>by
 rcases ro.1 hy with rfl | hy
 ·exact h
 ·exact m2 g k y hy
def Kd (N:Nat)(ks:List aa):Prop:=(∀ y∈ks,Sz y)/\ks.length<=N
def Rd (n:Nat)(z:Int×Int×Bytes×List aa×Bool):Prop:=z.2.2.1.length<=4096/\(∀ y∈z.2.2.2.1,Sz y)/\z.2.2.2.1.length<=n
structure Fct (f:Nat):Prop where
 e:∀ b l,Gl l->gr Sz (tl b l) (eT f b l)
 b:∀ R7 b l,Gl l->gr Sz (tl b l) (pw f R7 b l)
 bl:∀ R7 b x l,Sz x->Gl l->gr Sz l (qR f R7 b x l)
 u:∀ b l,Gl l->gr Sz (tl b l) (unS f b l)
 pl:∀ b x l,Sz x->Gl l->gr Sz l (lH f b x l)
 p:∀ b l,Gl l->gr Sz (tl b l) (jC f b l)
 s:∀ b l,Gl l->(hd b l).Ar=3->gr Sz (tl b l) (tS f b l)
 n:∀ b l,Gl l->(hd b l).Ar=1->gr Sz (tl b l) (nQ f b l)
 i:∀ e l,Gl l->gr (Kd l.length) (tl true l) (ji f e l)
 t:∀ l,Gl l->gr (Kd (2*l.length)) (tl true l) (rJ f l)
 k:∀ l,Gl l->gr Sz (tl true l) (nG f l)
 lo:∀ a k l,Gl l->gr Sz l (nz f a k l)
 tm:∀ (s:Bytes) (a:Int),0<=a->a+(s.length:Int)<=1000000000->pR Sz (mr f s a)
 r:∀ (frm pos:Int) (text:Bytes) (parts:List aa) (R3:Bool) (s:Bytes) (n:Nat),0<=pos->pos+(s.length:Int)<=1000000000->text.length<=4096->(∀ y∈parts,Sz y)->parts.length+2*s.length<=n->pR (Rd n) (eZ f frm pos text parts R3 s)
 w:∀ (s:Bytes) (a:Int),0<=a->a+(s.length:Int)<=1000000000->pR Sz (gi f s a)
theorem sO {l p:Bytes}(h:hasPrefix l p=true):p.length<=l.length:=by
 unfold hasPrefix at h;exact (List.isPrefixOf_iff_prefix.1 h).length_le
theorem Ch {s:Bytes}{k:Int}(h:jm s=.inl k):k≠0:=by
 cases s with
 | nil=>cases h; decide
 | cons b r =>
  rw [jm] at h;split at h
  ·split at h
   ·cases h
   ·cases h; assumption
  ·split at h
   ·cases h; decide
   ·cases h
theorem Ii {frm pos:Int}{text:Bytes}{parts:List aa}(h:∀ y∈parts,Sz y):(∀ y∈flS frm pos text parts,Sz y)/\(flS frm pos text parts).length<=parts.length+1:=by
 unfold flS;split
 ·refine ⟨λ y hy=>?_,by simp⟩;rcases List.mem_append.1 hy with hy | hy
  ·exact h y hy
  ·rw [List.mem_singleton.1 hy]; exact Om _ _
 ·exact ⟨h,by omega⟩
theorem yX {at':Int}{n:Nat}{z:Int×Int×Bytes×List aa×Bool}(hn:n<=3000000000)(h:Rd n z):Sz (rS at' z):=by
 obtain ⟨frm,pos,text,parts,R3⟩:=z;obtain ⟨h1,h2,h3⟩:=h;simp only at h1 h2 h3;unfold rS;have:=Ii (frm:=frm) (pos:=pos) (text:=text) h2
 cases R3 with
 | true=>exact uV (by decide) (by decide) O this.1
 | false=>exact Om _ _
theorem Ro {e:aa}(h:Sz e)(at':Int):Sz (aa.mk e.Ar e.fOp e.A' e.B' e.By e.AI at'):=by
 cases h with
 | mk n k v c kids=>exact .mk n k v c kids
abbrev sfx (l:List ad):l <:+ l:=List.suffix_refl l
theorem fct:∀ f,Fct f:=by
 intro f
 induction f with
 | zero =>
  constructor
  ·intro b l _; rw [eT]; exact iG
  ·intro v b l _; rw [pw]; exact iG
  ·intro v b x l _ _; rw [qR]; exact iG
  ·intro b l _; rw [unS]; exact iG
  ·intro b x l _ _; rw [lH]; exact iG
  ·intro b l _; rw [jC]; exact iG
  ·intro b l _ _; rw [tS]; exact iG
  ·intro b l _ _; rw [nQ]; exact iG
  ·intro b l _; rw [ji]; exact iG
  ·intro l _; rw [rJ]; exact iG
  ·intro l _; rw [nG]; exact iG
  ·intro a k l _; rw [nz]; exact iG
  ·intro s a _ _; rw [mr]; exact qh
  ·intro a b c d e g n _ _ _ _ _; rw [eZ]; exact qh
  ·intro s a _ _; rw [gi]; exact qh
 | succ f ih =>
  constructor
  ·intro b l g;rw [eT];refine dC (ih.b 0 b l g) (sfx _) λ c l1 z1 s1 g1=>cK (λ hs=>?_) (λ _=>eq z1 s1 g1);exact dC (ih.e b _ (glt g1 hs)) (t1 (t1 s1)) λ a l2 z2 s2 g2=>dC (jv g2) (t1 s2) λ _ l3 _ s3 g3=>dC (ih.e b _ g3) (t1 s3) λ d l4 z4 s4 g4=>eq (uV (by decide) (by decide) G (m3 z1 z2 z4)) s4 g4
  ·intro v b l g;rw [pw];exact cK (λ _=>ih.u b l g) (λ _=>dC (ih.b _ b l g) (sfx _) λ e l1 z1 s1 g1=>uD (ih.bl v b e l1 z1 g1) s1)
  ·intro v b x l zx g;rw [qR]
   cases ha:tT b l v with
   | none=>exact eq zx (sfx _) g
   | some p =>
    have hs:sgB b l p.1=true:=List.find?_some (p:=λ p:Bytes×Int=>sgB b l p.1) ha;exact dC (ih.b _ b _ (glt g hs)) (t1 (tlS b l)) λ y l1 z1 s1 g1=>uD (ih.bl v b _ l1 (uV (by decide) (by decide) G (m2 zx z1)) g1) s1
  ·intro b l g;rw [unS];refine cK (λ hs=>dC (ih.u b _ (glt g hs)) (t1 (sfx _)) λ e l1 z1 s1 g1=>eq (uV (by decide) (by decide) G (m1 z1)) s1 g1) (λ _=>cK (λ hs=>dC (ih.u b _ (glt g hs)) (t1 (sfx _)) λ e l1 z1 s1 g1=>eq (uV (by decide) (by decide) G (m1 z1)) s1 g1) (λ _=>?_));exact dC (ih.p b l g) (sfx _) λ e l1 z1 s1 g1=>uD (ih.pl b e l1 z1 g1) s1
  ·intro b x l zx g;rw [lH];refine cK (λ hs=>cK (λ hk=>?_) (λ _=>rZ (by decide))) (λ _=>cK (λ hs=>?_) (λ _=>eq zx (sfx _) g))
   ·exact uD (ih.pl b _ _ (uV (gln (glt g hs)) (by decide) G (m1 zx)) (glk (glt g hs) hk (by decide))) (t1 (tlS b l))
   ·exact dC (ih.e true _ (glt g hs)) (t1 (tlS b l)) λ y l1 z1 s1 g1=>dC (jv g1) (t1 s1) λ _ l2 _ s2 g2=>uD (ih.pl b _ _ (uV (by decide) (by decide) G (m2 zx z1)) g2) s2
  ·intro b l g;rw [jC];refine cK (λ hk=>cK (λ _=>eq (HS _ _ zH) (sfx _) (glk g hk (by decide))) (λ h=>rZ h)) (λ _=>cK (λ hk=>ih.s b l g hk) (λ _=>cK (λ hk=>ih.n b l g hk) (λ _=>?_)));refine cK (λ hs=>dC (ih.e true _ (glt g hs)) (tlS true _) λ e l1 z1 s1 g1=>dC (jv g1) (t1 s1) λ _ l2 _ s2 g2=>eq z1 s2 g2) (λ _=>?_);refine cK (λ hs=>cK (λ hw=>uD (ih.lo _ _ _ (glw (glt g hs) hw)) (tlS true _)) (λ _=>dC (ih.i _ _ (glt g hs)) (tlS true _) λ ks l1 z1 s1 g1=>eq Ha s1 g1)) (λ _=>?_);exact cK (λ hs=>cK (λ hw=>uD (ih.lo _ _ _ (glw (glt g hs) hw)) (tlS true _)) (λ _=>dC (ih.t _ (glt g hs)) (tlS true _) λ ks l1 z1 s1 g1=>eq Ha s1 g1)) (λ _=>rZ (by decide))
  ·intro b l g hk;rw [tS];intro q hq;have hb:=yQ (sf (b:=b) g.1);have ht':=ih.tm (hd b l).C' ((hd b l).fAt+1) (by have:=hb.1; omega) (by have:=hb.2.2.1 hk; omega)
   cases ht:mr f (hd b l).C' ((hd b l).fAt+1) with
   | none=>rw [ht] at hq; cases hq
   | some y =>
    rw [ht] at hq;have ht':=ht' y ht;rcases y with e | e
    ·cases hq; exact ht'
    ·cases hq; exact ⟨Ro ht' _,sfx _,glk g hk (by decide)⟩
  ·intro b l g hk;have g1:=glk g hk (by decide);have gn:=gln (b:=b) g;rw [nQ];refine cK (λ _=>eq (HS _ _ zH) (sfx _) g1) (λ _=>cK (λ _=>eq (HS _ _ zH) (sfx _) g1) (λ _=>cK (λ _=>eq (HS _ _ zH) (sfx _) g1) (λ _=>cK (λ _=>rZ (by decide)) (λ _=>?_))));exact cK (λ hs=>dC (ih.i _ _ (glt g1 hs)) (t1 (tlS b _)) λ ks l1 z1 s1 g2=>eq (uV gn (by decide) (by have:=z1.2; have:=(glt g1 hs).2; omega) z1.1) s1 g2) (λ _=>eq (uV gn (by decide) (by decide) (λ y hy=>by cases hy)) (sfx _) g1)
  ·intro e l g;have gt:=gll (b:=true) g;rw [ji];refine cK (λ hs=>eq ⟨(λ y hy=>by cases hy),rg _⟩ (sfx _) (glt g hs)) (λ _=>dC (ih.e true l g) (sfx _) λ x l1 zx s1 g1=>cK (λ hs=>?_) (λ _=>dC (jv g1) (t1 s1) λ _ l2 _ s2 g2=>eq ⟨m1 zx,by simp only [List.length_singleton]; omega⟩ s2 g2));have h1:=s1.length_le;have h2:=gll (b:=true) g1
   exact dC (ih.i e _ (glt g1 hs)) (t1 (t1 s1)) λ r l2 z2 s2 g2=>eq ⟨λ y hy=>by
    rcases ro.1 hy with rfl | hy
    ·exact zx
    ·exact z2.1 y hy,by have:=z2.2; simp only [aq]; omega⟩ s2 g2
  ·intro l g;have gt:=gll (b:=true) g;rw [rJ];refine cK (λ hs=>eq ⟨(λ y hy=>by cases hy),rg _⟩ (sfx _) (glt g hs)) (λ _=>dC (ih.k l g) (sfx _) λ k l1 z1 s1 g1=>dC (jv g1) (t1 s1) λ _ l2 _ s2 g2=>dC (ih.e true l2 g2) (t1 s2) λ x l3 z3 s3 g3=>cK (λ hs=>?_) (λ _=>dC (jv g3) (t1 s3) λ _ l4 _ s4 g4=>eq ⟨m2 z1 z3,by simp only [aq,dg]; omega⟩ s4 g4));have h1:=s3.length_le;have h2:=gll (b:=true) g3
   exact dC (ih.t _ (glt g3 hs)) (t1 (t1 s3)) λ r l4 z4 s4 g4=>eq ⟨λ y hy=>by
    rcases ro.1 hy with rfl | hy
    ·exact z1
    rcases ro.1 hy with rfl | hy
    ·exact z3
    ·exact z4.1 y hy,by have:=z4.2; simp only [aq]; omega⟩ s4 g4
  ·intro l g;rw [nG];refine cK (λ hk=>eq (Om _ _) (sfx _) (glk g hk (by decide))) (λ _=>cK (λ hk=>ih.s true l g hk) (λ _=>cK (λ hs=>?_) (λ _=>rZ (by decide))));exact dC (ih.e true _ (glt g hs)) (tlS true _) λ e l1 z1 s1 g1=>dC (jv g1) (t1 s1) λ _ l2 _ s2 g2=>eq z1 s2 g2
  ·intro a k l g;rw [nz];refine dC (Gr g) (tlS true l) λ v l1 z1 s1 g1=>dC (P:=λ p:Bytes×Bytes=>p.1.length<=1000000000/\p.2.length<=1000000000) (l1:=l1) (cK (λ hs=>dC (Gr (glt g1 hs)) (t1 (tlS true l1)) λ w l2 z2 s2 g2=>eq ⟨z2,z1⟩ s2 g2) (λ _=>eq ⟨z1,rg _⟩ (sfx _) g1)) s1 λ nk l2 zn s2 g2=>?_;refine dC (OU g2) (t1 s2) λ _ l3 _ s3 g3=>dC (ih.e true l3 g3) (t1 s3) λ x l4 z4 s4 g4=>dC (jv g4) (t1 s4) λ _ l5 _ s5 g5=>dC (ih.e true l5 g5) (t1 s5) λ c l6 z6 s6 g6=>?_;refine dC (P:=Kd 3) (l1:=l6) (cK (λ _=>dC (jv g6) (tlS true l6) λ _ l7 _ s7 g7=>dC (ih.e true l7 g7) (t1 s7) λ d l8 z8 s8 g8=>eq ⟨m3 z4 z6 z8,by simp⟩ s8 g8) (λ _=>eq ⟨m2 z4 z6,by simp⟩ (sfx _) g6)) s6 λ ks l7 z7 s7 g7=>?_
   refine dC (P:=Kd 4) (l1:=l7) (cK (λ hw=>dC (ih.e true _ (glw g7 hw)) (t1 (tlS true l7)) λ e l8 z8 s8 g8=>eq ⟨λ y hy=>by
    rcases List.mem_append.1 hy with hy | hy
    ·exact z7.1 y hy
    ·exact m1 z8 y hy,by have:=z7.2; rw [bt,List.length_singleton]; omega⟩ s8 g8) (λ _=>eq ⟨z7.1,by have:=z7.2; omega⟩ (sfx _) g7)) s7 λ ks l8 z8 s8 g8=>?_
   exact dC (jv g8) (t1 s8) λ _ l9 _ s9 g9=>eq (uV zn.1 zn.2 (by have:=z8.2; omega) z8.1) s9 g9
  ·intro s a h0 h1;rw [mr];have hr':=ih.r a a [] [] false s (2*s.length) h0 h1 (by decide) (λ y hy=>by cases hy) G;intro q hq
   cases hr:eZ f a a [] [] false s with
   | none=>rw [hr] at hq; cases hq
   | some y =>
    rw [hr] at hq;have hr':=hr' y hr;rcases y with e' | z
    ·cases hq; exact hr'
    ·have hz:Sz (rS a z):=yX O hr';simp only [ml,bx] at hq;split at hq
     ·cases hq; exact hz
     ·cases hq; assumption
  ·intro frm pos text parts R3 s n h0 h1 ht hp hn
   cases s with
   | nil=>rw [eZ]; exact QD ⟨ht,hp,by simp only [dg] at hn; omega⟩
   | cons c r =>
    have hcl:(c::r).length=r.length+1:=rfl;rw [eZ];refine uk (λ hx=>uk (λ _=>ze (by decide)) (λ hl=>ih.r _ _ _ _ _ _ n O ?_ ?_ hp ?_)) (λ _=>uk (λ hx=>?_) (λ _=>?_))
    ·have:=sO hx;rw [n6]; simp only [aq,dg] at this h1 ⊢; omega
    ·exact I7
    ·rw [n6]; omega
    ·cases hc:ee f 1 ((c::r).drop 2) with
     | none=>exact qh
     | some y =>
      cases y with
      | none=>exact ze (by decide)
      | some r' =>
       simp only [];have hr:=(nU f).1 _ _ _ hc;have hr2:=hr.2;have hr1:=hr.1.length_le;have hx:=sO hx;have hfl:=Ii (frm:=frm) (pos:=pos) (text:=text) hp;rw [n6] at hr1 hr2;simp only [aq,dg] at hr1 hr2 h1 hx hn;have hw':=ih.w (((c::r).drop 2).take (((c::r).drop 2).length - r'.length - 1)) (pos+2) O (by simp only [List.length_take,n6,aq]; omega)
       cases hw:gi f (((c::r).drop 2).take (((c::r).drop 2).length - r'.length - 1)) (pos+2) with
       | none=>exact qh
       | some z =>
        have hw':=hw' z hw;rcases z with e | e
        ·intro e' h; cases h; exact hw'
        ·refine ih.r _ _ _ _ _ _ n O oh (by decide) (λ y hy=>?_) (by rw [bt,List.length_singleton]; omega);rcases List.mem_append.1 hy with hy | hy
         ·exact hfl.1 y hy
         ·rw [List.mem_singleton.1 hy]; exact hw'
    ·cases hi:jm (c::r) with
     | inl k=>exact ze (Ch hi)
     | inr tn =>
      have:=yI hi;exact uk (λ _=>ze (by decide)) (λ hl=>ih.r _ _ _ _ _ _ n O u6 ra hp u6)
  ·intro s a h0 h1;rw [gi];refine uk (λ h=>ze h) (λ hk=>?_);have hk:(gu s).2.Ar=0:=Classical.not_not.1 hk;have hx':=ih.e true _ (CP h0 h1 hk);intro q hq
   cases hx:eT f true ((gu s).1.map (mvT a)) with
   | none=>rw [hx] at hq; cases hq
   | some y =>
    rw [hx] at hq;have hx':=hx' y hx;rcases y with e' | ⟨x,l⟩
    ·cases hq; exact hx'
    ·simp only [] at hq;split at hq
     ·cases hq; exact hx'.1
     ·cases hq; exact (show (2:Int)≠0 by decide)
end Go.Ab.R06
end
section
namespace Go.Ab.R06
open Go.Ab Go.Ab.RB Go.Lib
section
variable {p:Prop}
theorem nh (h:p:=by simp only [n6,aq]; omega):p:=h
theorem Jo (h:p:=by simp only [n6,aq] at hs ⊢; omega):p:=h
end
theorem na {s s':Bytes->SE⊕Bytes}{b:UInt8}{r:Bytes}(h:s r=s' r):iE s (b::r)=iE s' (b::r):=by
 rw [fz,fz,h]
theorem qC:∀ f,(∀ k l g,l.length < f->f<=g->eg g k l=eg f k l)/\(∀ k n l g,l.length < f->f<=g->iH g k n l=iH f k n l)
 | 0=>⟨λ _ _ _ h=>absurd h (Nat.not_lt_zero _),λ _ _ _ _ h=>absurd h (Nat.not_lt_zero _)⟩
 | f+1=>by
  obtain ⟨ih1,ih2⟩:=qC f;constructor
  ·intro k l g hl hg;obtain ⟨g,rfl⟩:∃ g',g=g'+1:=⟨g - 1,by omega⟩
   cases l with
   | nil=>rw [eg,eg]
   | cons b r =>
    simp only [aq] at hl;rw [jH,jH];split
    ·rfl
    split
    ·exact ih1 _ _ _ nh O
    split
    ·split
     ·rfl
     ·rw [ih2 (k+1) 1 ((b::r).drop 2) g nh O]
      cases hi:iH f (k+1) 1 ((b::r).drop 2) with
      | inl e=>rfl
      | inr l1 =>
       have h2:=((fO f (k+1)).2 _ _ _ hi).2;exact ih1 _ _ _ (by simp only [n6,aq] at h2; omega) O
    ·have hs:(if b.toNat=92 then r else b::r).length<=r.length+1:=by split <;> simp
     split
     ·rfl
     ·rename_i c t hct;rw [hct] at hs;split
      ·rfl
      ·have:=(gK (c::t) G).1;exact ih1 _ _ _ Jo O
  ·intro k n l g hl hg;obtain ⟨g,rfl⟩:∃ g',g=g'+1:=⟨g - 1,by omega⟩
   rw [jM,jM];have hs:=(jG false l).length_le
   cases hbr:dz false l with
   | nil=>rfl
   | cons b r =>
    rw [hbr] at hs;simp only [aq] at hs;rw [iq,iq,na (ih1 k r g O O)]
    cases hl1:iE (eg f k) (b::r) with
    | inl e=>rfl
    | inr z =>
     obtain ⟨c,t,l1⟩:=z;have h2:=(iA (λ r r' _ hr=>(fO f k).1 _ _ hr) hl1).2;simp only [aq] at h2;rw [jl,jl,ih2 k (n - 1) l1 g O O,ih2 k (n+1) l1 g O O,ih2 k n l1 g O O]
def mH (k:Nat)(l:Bytes):SE⊕Bytes:=eg (l.length+1) k l
def oT (k n:Nat)(l:Bytes):SE⊕Bytes:=iH (l.length+1) k n l
theorem pT {f k:Nat}{l:Bytes}(h:l.length < f):eg f k l=mH k l:=(qC (l.length+1)).1 k l f O O
theorem sQ {f k n:Nat}{l:Bytes}(h:l.length < f):iH f k n l=oT k n l:=(qC (l.length+1)).2 k n l f O O
theorem jK (k:Nat)(b:UInt8)(r:Bytes):mH k (b::r)=if b.toNat=34 then .inr r
  else if hasPrefix (b::r) [36,36,123]=true then mH k ((b::r).drop 3)
  else if hasPrefix (b::r) [36,123]=true then (if 32<=k then .inl (4,some (b::r).length) else match oT (k+1) 1 ((b::r).drop 2) with | .inl e=>.inl e | .inr l=>mH k l)
  else match (if b.toNat=92 then r else b::r) with
   | []=>.inl (40,none)
   | c::t=>if kH (decodeL (c::t)) then .inl (2,some (c::t).length) else mH k ((c::t).drop (decodeL (c::t)).2):=by
 have e:mH k (b::r)=eg ((b::r).length+1) k (b::r):=rfl;rw [e,jH];split
 ·rfl
 split
 ·exact pT nh
 split
 ·split
  ·rfl
  ·rw [sQ nh]
   cases hi:oT (k+1) 1 ((b::r).drop 2) with
   | inl e=>rfl
   | inr l1 =>
    have h2:=((fO _ (k+1)).2 _ _ _ hi).2;exact pT (by simp only [n6,aq] at h2 ⊢; omega)
 ·have hs:(if b.toNat=92 then r else b::r).length<=r.length+1:=by split <;> simp
  generalize (if b.toNat=92 then r else b::r)=w at hs ⊢
  cases w with
  | nil=>rfl
  | cons c t =>
   simp only;split
   ·rfl
   ·have:=(gK (c::t) G).1;exact pT Jo
theorem xz (k n:Nat)(l:Bytes):oT k n l=MF (oT k) (mH k) n (dz false l):=by
 have e:oT k n l=iH (l.length+1) k n l:=rfl;rw [e,jM];have hs:=(jG false l).length_le
 cases hbr:dz false l with
 | nil=>rfl
 | cons b r =>
  rw [hbr] at hs;simp only [aq] at hs;rw [iq,iq,na (pT O :eg l.length k r=mH k r)]
  cases hl1:iE (mH k) (b::r) with
  | inl e=>rfl
  | inr z =>
   obtain ⟨c,t,l1⟩:=z;have h2:=(iA (λ r r' _ hr=>(fO _ k).1 _ _ hr) hl1).2;simp only [aq] at h2;rw [jl,jl,sQ O,sQ O,sQ O]
theorem C5 (c:Bool)(l:Bytes):dz c (32::l)=dz c l:=by
 unfold dz;rw [List.dropWhile_cons,if_pos (by decide)]
theorem LV (k n:Nat)(l:Bytes):oT k n (32::l)=oT k n l:=by rw [xz,C5,<- xz]
theorem vu:∀ (f c:Nat) (l:Bytes) (g:Nat),l.length < f->f<=g->gQ g c l=gQ f c l
 | 0,_,_,_,h,_=>absurd h (Nat.not_lt_zero _)
 | f+1,c,l,g,hl,hg=>by
  obtain ⟨g,rfl⟩:∃ g',g=g'+1:=⟨g - 1,by omega⟩
  rw [iL,iL];have hs:=(jG true l).length_le
  cases hbr:dz true l with
  | nil=>rfl
  | cons b r =>
   rw [hbr] at hs;simp only [aq] at hs;rw [gw,gw,na ((qC f).1 0 r g O O)]
   cases hl1:iE (eg f 0) (b::r) with
   | inl e=>rfl
   | inr z =>
    obtain ⟨k,t,l1⟩:=z;have h2:=(iA (λ r r' _ hr=>(fO f 0).1 _ _ hr) hl1).2;simp only [aq] at h2;rw [ig,ig,vu f (c+1) l1 g O O]
def mt (c:Nat)(l:Bytes):SE⊕List Tk:=gQ (l.length+1) c l
theorem qv (c:Nat)(l:Bytes):mt c l=yr (mt (c+1)) (mH 0) c (dz true l):=by
 have e:mt c l=gQ (l.length+1) c l:=rfl;rw [e,iL];have hs:=(jG true l).length_le
 cases hbr:dz true l with
 | nil=>rfl
 | cons b r =>
  rw [hbr] at hs;simp only [aq] at hs;rw [gw,gw,na (pT O :eg l.length 0 r=mH 0 r)]
  cases hl1:iE (mH 0) (b::r) with
  | inl e=>rfl
  | inr z =>
   obtain ⟨k,t,l1⟩:=z;have h2:=(iA (λ r r' _ hr=>(fO _ 0).1 _ _ hr) hl1).2;simp only [aq] at h2;rw [ig,ig,show gQ l.length (c+1) l1=mt (c+1) l1 from vu (l1.length+1) _ _ _ O O]
theorem FA (c:Nat)(l:Bytes):mt c (32::l)=mt c l:=by rw [qv,C5,<- qv]
theorem oa:∀ f,(∀ d l r,ee f d l=some (some r)->r.length < l.length)/\(∀ l r,fv f l=some (some r)->r.length < l.length)
 | 0=>⟨λ _ _ _ h=>(by rw [ee] at h; cases h),λ _ _ h=>(by rw [fv] at h; cases h)⟩
 | f+1=>by
  obtain ⟨ih1,ih2⟩:=oa f;constructor
  ·intro d l r h
   cases l with
   | nil=>rw [ee] at h; cases h
   | cons b t =>
    rw [ee] at h;simp only [aq];split at h
    ·have:=ih1 _ _ _ h; omega
    split at h
    ·split at h
     ·cases h; omega
     ·have:=ih1 _ _ _ h; omega
    split at h
    ·split at h
     ·cases h
     ·cases h
     ·rename_i q;have:=ih1 _ _ _ h; have:=ih2 _ _ q; omega
    ·have:=ih1 _ _ _ h; omega
  ·intro l r h
   cases l with
   | nil=>rw [fv] at h; cases h
   | cons b t =>
    rw [fv] at h;simp only [aq];split at h
    ·cases h; omega
    split at h
    ·have:=ih2 _ _ h; simp only [n6] at this; omega
    split at h
    ·have:=ih2 _ _ h; simp only [n6,aq] at this; omega
    split at h
    ·split at h
     ·cases h
     ·cases h
     ·rename_i q;have:=ih1 _ _ _ q; have:=ih2 _ _ h; simp only [n6,aq] at *; omega
    ·have:=ih2 _ _ h; omega
theorem rO:∀ f,(∀ d l g,l.length < f->f<=g->ee g d l=ee f d l)/\(∀ l g,l.length < f->f<=g->fv g l=fv f l)
 | 0=>⟨λ _ _ _ h=>absurd h (Nat.not_lt_zero _),λ _ _ h=>absurd h (Nat.not_lt_zero _)⟩
 | f+1=>by
  obtain ⟨ih1,ih2⟩:=rO f;constructor
  ·intro d l g hl hg;obtain ⟨g,rfl⟩:∃ g',g=g'+1:=⟨g - 1,by omega⟩
   cases l with
   | nil=>rw [ee,ee]
   | cons b r =>
    simp only [aq] at hl;rw [ee,ee,ih1 (d+1) r g O O,ih1 (d - 1) r g O O,ih1 d r g O O,ih2 r g O O];split
    ·rfl
    split
    ·rfl
    split
    ·cases hq:fv f r with
     | none=>rfl
     | some o=>cases o with
      | none=>rfl
      | some r' =>
       have:=(oa f).2 _ _ hq;exact ih1 _ _ _ O O
    ·rfl
  ·intro l g hl hg;obtain ⟨g,rfl⟩:∃ g',g=g'+1:=⟨g - 1,by omega⟩
   cases l with
   | nil=>rw [fv,fv]
   | cons b r =>
    simp only [aq] at hl;rw [fv,fv,ih2 r g O O,ih2 (r.drop 1) g (by simp only [n6]; omega) O,ih2 ((b::r).drop 3) g nh O,ih1 1 ((b::r).drop 2) g nh O];split
    ·rfl
    split
    ·rfl
    split
    ·rfl
    split
    ·cases hq:ee f 1 ((b::r).drop 2) with
     | none=>rfl
     | some o=>cases o with
      | none=>rfl
      | some r' =>
       have:=(oa f).1 _ _ _ hq;exact ih2 _ _ (by simp only [n6,aq] at this; omega) O
    ·rfl
def kq (d:Nat)(l:Bytes):Option (Option Bytes):=ee (l.length+1) d l
def kh (l:Bytes):Option (Option Bytes):=fv (l.length+1) l
theorem mh {f d:Nat}{l:Bytes}(h:l.length < f):ee f d l=kq d l:=(rO (l.length+1)).1 d l f O O
theorem nR {f:Nat}{l:Bytes}(h:l.length < f):fv f l=kh l:=(rO (l.length+1)).2 l f O O
theorem jD (d:Nat)(b:UInt8)(r:Bytes):kq d (b::r)=if b.toNat=123 then kq (d+1) r
  else if b.toNat=125 then (if d=1 then some (some r) else kq (d - 1) r)
  else if b.toNat=34 then (match kh r with | none=>none | some none=>some none | some (some r')=>kq d r')
  else kq d r:=by
 have e:kq d (b::r)=ee ((b::r).length+1) d (b::r):=rfl;rw [e,ee,mh G,mh G,mh G,nR G];split
 ·rfl
 split
 ·rfl
 split
 ·cases hq:kh r with
  | none=>rfl
  | some o=>cases o with
   | none=>rfl
   | some r' =>
    have:=(oa _).2 _ _ hq;exact mh oh
 ·rfl
theorem iN (b:UInt8)(r:Bytes):kh (b::r)=if b.toNat=34 then some (some r)
  else if b.toNat=92 then kh (r.drop 1)
  else if hasPrefix (b::r) [36,36,123]=true then kh ((b::r).drop 3)
  else if hasPrefix (b::r) [36,123]=true then (match kq 1 ((b::r).drop 2) with | none=>none | some none=>some none | some (some r')=>kh r')
  else kh r:=by
 have e:kh (b::r)=fv ((b::r).length+1) (b::r):=rfl;rw [e,fv,nR (l:=r) G,nR (l:=r.drop 1) nh,nR (l:=(b::r).drop 3) nh,mh nh];split
 ·rfl
 split
 ·rfl
 split
 ·rfl
 split
 ·cases hq:kq 1 ((b::r).drop 2) with
  | none=>rfl
  | some o=>cases o with
   | none=>rfl
   | some r' =>
    have:=(oa _).1 _ _ _ hq;exact nR (by simp only [n6,aq] at this ⊢; omega)
 ·rfl
end Go.Ab.R06
end
section
namespace Go.Ab.R06
open Go.Ab Go.Ab.RB Go.Lib
section
variable {p:Prop}
theorem Je (h:p:=by
 simp only [iJ,fe,gW,Bool.or_eq_true,n7,Bool.or_eq_false_iff,Bool.and_eq_false_iff,decide_eq_true_eq,decide_eq_false_iff_not] at *; omega):p:=h
end
abbrev Tok:=Int×Bytes
def ktk (z:Tk):Tok:=(z.1,z.2.1)
structure Go (D:Nat)(l:List Tok)(x y:Bytes):Prop where
 i:∀ k n,k+D<=32->oT k (n+1) x=oT k (n+1) y
 c:∀ d,kq (d+1) x=kq (d+1) y
 s:D<=32->∀ c ts,c+l.length<=16384->mt (c+l.length) y=.inr ts->∃ ts':List Tk,ts'.map ktk=l/\mt c x=.inr (ts'++ts)
theorem Go.refl {D:Nat}{x:Bytes}:Go D [] x x:=⟨λ _ _ _=>rfl,λ _=>rfl,λ _ _ _ts _ h=>⟨[],Z,h⟩⟩
theorem Go.trans {D:Nat}{l m:List Tok}{x y z:Bytes}(h:Go D l x y)(g:Go D m y z):Go D (l++m) x z where
 i k n hk:=(h.i k n hk).trans (g.i k n hk)
 c d:=(h.c d).trans (g.c d)
 s hD c ts hc hs:=by
  rw [bt] at hc hs;obtain ⟨t2,e2,h2⟩:=g.s hD (c+l.length) ts O (by rw [Nat.add_assoc]; exact hs);obtain ⟨t1,e1,h1⟩:=h.s hD c _ O h2;exact ⟨t1++t2,by rw [List.map_append,e1,e2],by rw [h1,ph]⟩
theorem Go.mono {D E:Nat}{l:List Tok}{x y:Bytes}(hDE:D<=E)(h:Go D l x y):Go E l x y :=
 ⟨λ k n hk=>h.i k n O,h.c,λ hE=>h.s O⟩
theorem Go.sp {D:Nat}{x:Bytes}:Go D [] (32::x) x :=
 ⟨λ k n _=>LV k (n+1) x,λ d=>by rw [jD,if_neg (by decide),if_neg (by decide),if_neg (by decide)],λ _ c ts _ h=>⟨[],Z,by rw [FA]; exact h⟩⟩
theorem yL (c:Bool){b:UInt8}{r:Bytes}(h1:gW b=false)(h2:b.toNat≠35):dz c (b::r)=b::r:=by
 unfold dz;rw [List.dropWhile_cons,if_neg (by simp [h1])];simp [h2]
def Wrd (D:Nat)(z:Tok)(x y:Bytes):Prop:=∃ b r,x=b::r/\gW b=false/\b.toNat≠35/\jx x=true/\∀ k,k+D<=32->iE (mH k) x=.inr (z.1,z.2,y)
theorem Wrd.int {D:Nat}{z:Tok}{x y:Bytes}(h:Wrd D z x y){k n:Nat}(hk:k+D<=32):oT k n x=if z.1=4/\z.2=[125] then (if n=1 then .inr y else oT k (n - 1) y) else if z.1=4/\z.2=[123] then oT k (n+1) y else oT k n y:=by
 obtain ⟨b,r,rfl,h1,h2,_,h4⟩:=h;rw [xz,yL _ h1 h2,iq,h4 k hk,jl]
theorem Wrd.scan {D:Nat}{z:Tok}{x y:Bytes}(h:Wrd D z x y)(hD:D<=32){c:Nat}{ts:List Tk}(hc:c+1<=16384)(hs:mt (c+1) y=.inr ts):∃ n,mt c x=.inr ((z.1,z.2,n)::ts):=by
 obtain ⟨b,r,rfl,h1,h2,h3,h4⟩:=h;refine ⟨(b::r).length,?_⟩;rw [qv,yL _ h1 h2,gw,if_neg (by rw [h3]; decide),if_neg O,h4 0 O,ig,hs]
theorem Wrd.go {D:Nat}{z:Tok}{x y:Bytes}(h:Wrd D z x y)(h1:¬ (z.1=4/\z.2=[125]))(h2:¬ (z.1=4/\z.2=[123]))(hc:∀ d,kq (d+1) x=kq (d+1) y):Go D [z] x y where
 i k n hk:=by rw [h.int hk,if_neg h1,if_neg h2]
 c:=hc
 s hD c ts hl hs:=by
  obtain ⟨n,hn⟩:=h.scan hD (c:=c) hl hs;exact ⟨[(z.1,z.2,n)],rfl,hn⟩
def nbr (z:UInt8):Bool:=decide (z.toNat≠123)&&decide (z.toNat≠125)&&decide (z.toNat≠34)
theorem nc (d:Nat)(y:Bytes):∀ t:Bytes,(∀ z∈t,nbr z=true)->kq d (t++y)=kq d y
 | [],_=>rfl
 | b::t,h=>by
  have hb:=h b List.mem_cons_self;simp only [nbr,n7,decide_eq_true_eq] at hb;rw [la,jD,if_neg hb.1.1,if_neg hb.1.2,if_neg hb.2];exact nc d y t (λ z hz=>h z (List.mem_cons_of_mem _ hz))
theorem Lc {b:UInt8}(h:iJ b=true):nbr b=true:=by
 simp only [iJ,nbr,Bool.or_eq_true,n7,decide_eq_true_eq] at *; omega
theorem Da {b:UInt8}(h:fe b=true):nbr b=true:=by
 simp only [fe,nbr,n7,decide_eq_true_eq] at *; omega
theorem NJ {b:UInt8}(h:idB b=true):nbr b=true:=by
 unfold idB at h;rw [Bool.or_eq_true] at h;exact h.elim Lc Da
theorem wx {p:UInt8->Bool}:∀ {t x:Bytes},(∀ z∈t,p z=true)->(∀ z∈x.head?,p z=false)->(t++x).takeWhile p=t/\(t++x).dropWhile p=x
 | [],x,_,hx=>by
  cases x with
  | nil=>exact ⟨Z,Z⟩
  | cons b r=>have:=hx b rfl; simp [this]
 | b::t,x,ht,hx=>by
  have hb:=ht b List.mem_cons_self;have ih:=wx (λ z hz=>ht z (List.mem_cons_of_mem _ hz)) hx;simp [hb,ih.1,ih.2]
def qM (y:Bytes):Prop:=∀ z∈y.head?,idB z=false
theorem D6 {b:UInt8}(h:iJ b=true):gW b=false/\b.toNat≠35/\fe b=false:=by
 exact Je
theorem Eu {b:UInt8}(h:fe b=true):gW b=false/\b.toNat≠35/\iJ b=false/\b.toNat≠10/\b.toNat≠34:=by
 exact Je
theorem kV {D:Nat}{t y:Bytes}(h:bG t=true)(hy:qM y):Go D [(1,t)] (t++y) y:=by
 cases t with
 | nil=>cases h
 | cons b r =>
  simp only [bG,n7,decide_eq_true_eq,th] at h;obtain ⟨⟨h1,h2⟩,h3⟩:=h;obtain ⟨f1,f2,f3⟩:=D6 h2
  have hall:∀ z∈b::r,idB z=true:=λ z hz=>by
   rcases ro.1 hz with rfl | hz
   ·unfold idB; rw [h2]; rfl
   ·exact h3 z hz
  have hr:=wx hall hy;refine Wrd.go ⟨b,r++y,rfl,f1,f2,by rw [la,fF,h2]; rfl,λ k _=>?_⟩ (λ q=>by cases q.1) (λ q=>by cases q.1) (λ d=>nc _ _ _ (λ z hz=>NJ (hall z hz)));rw [la,fz,if_pos h2];rw [la] at hr;rw [hr.1,hr.2,if_neg O]
theorem PY {D:Nat}{t y:Bytes}(h0:t≠[])(h:∀ z∈t,fe z=true)(hy:qM y):Go D [(2,t)] (t++y) y:=by
 cases t with
 | nil=>exact absurd Z h0
 | cons b r =>
  have hb:=h b List.mem_cons_self;obtain ⟨f1,f2,f3,f4,f5⟩:=Eu hb;have hr:=wx h (λ z hz=>by have:=hy z hz; unfold idB at this; rw [Bool.or_eq_false_iff] at this; exact this.2);refine Wrd.go ⟨b,r++y,rfl,f1,f2,by rw [la,fF,hb]; simp,λ k _=>?_⟩ (λ q=>by cases q.1) (λ q=>by cases q.1) (λ d=>nc _ _ _ (λ z hz=>Da (h z hz)));rw [la,fz,if_neg (by rw [f3]; decide),if_pos hb];rw [la] at hr;rw [hr.1,hr.2]
theorem qp {D:Nat}{b:UInt8}{w y:Bytes}(hb:gW b=false/\b.toNat≠35/\iJ b=false/\fe b=false/\b.toNat≠10/\b.toNat≠34)(hs:fK (b::w++y)=b::w):Wrd D (4,b::w) (b::w++y) y:=by
 obtain ⟨f1,f2,f3,f4,f5,f6⟩:=hb;refine ⟨b,w++y,rfl,f1,f2,?_,λ k _=>?_⟩
 ·have e:fK (b::(w++y))=b::w:=hs;rw [la,fF,e]; simp
 ·have e:fK (b::(w++y))=b::w:=hs;rw [la,fz,if_neg (by rw [f3]; decide),if_neg (by rw [f4]; decide),if_neg f5,if_neg f6,if_neg (by rw [e]; simp),e];refine congrArg Sum.inr (Prod.ext Z (Prod.ext Z ?_));show (b::w++y).drop (b::w).length=y;rw [List.drop_left]
theorem xu {D:Nat}{b:UInt8}{w y:Bytes}(hb:gW b=false/\b.toNat≠35/\iJ b=false/\fe b=false/\b.toNat≠10/\b.toNat≠34)(hs:fK (b::w++y)=b::w)(hn:∀ z∈b::w,nbr z=true):Go D [(4,b::w)] (b::w++y) y:=by
 refine (qp hb hs).go (λ q=>?_) (λ q=>?_) (λ d=>nc _ _ _ hn)
 ·have:=hn 125 (by rw [show b::w=[125] from q.2]; exact List.mem_singleton.2 Z); revert this; decide
 ·have:=hn 123 (by rw [show b::w=[123] from q.2]; exact List.mem_singleton.2 Z); revert this; decide
def Jh (b:UInt8):Bool:=decide (b∈([40,41,91,93,123,125,44,46,58,63,45]:Bytes))
theorem qw {b:UInt8}(h:Jh b=true)(y:Bytes):fK (b::y)=[b]:=by
 simp only [Jh,decide_eq_true_eq,ro,List.not_mem_nil,or_false] at h;rcases h with rfl | rfl | rfl | rfl | rfl | rfl | rfl | rfl | rfl | rfl | rfl <;> (unfold fK qL; simp [hasPrefix,List.isPrefixOf,KE,vA]; decide)
theorem ia {D:Nat}{b:UInt8}(h:Jh b=true)(hb:b≠123/\b≠125)(y:Bytes):Go D [(4,[b])] (b::y) y:=by
 have hs:=qw h y;simp only [Jh,decide_eq_true_eq,ro,List.not_mem_nil,or_false] at h;refine xu (w:=[]) ?_ hs ?_
 ·rcases h with rfl | rfl | rfl | rfl | rfl | rfl | rfl | rfl | rfl | rfl | rfl <;> decide
 ·intro z hz;obtain rfl:=List.mem_singleton.1 hz;rcases h with rfl | rfl | rfl | rfl | rfl | rfl | rfl | rfl | rfl | rfl | rfl <;> first | decide | exact absurd rfl hb.1 | exact absurd rfl hb.2
theorem zo {D:Nat}{l:List Tok}{x y:Bytes}(h:Go D l x (125::y)):Go D ((4,[123])::(l++[(4,[125])])) (123::x) y:=by
 have w1:Wrd D (4,[123]) (123::x) x:=qp (w:=[]) (by decide) (qw (by decide) x);have w2:Wrd D (4,[125]) (125::y) y:=qp (w:=[]) (by decide) (qw (by decide) y);refine ⟨λ k n hk=>?_,λ d=>?_,λ hD c ts hc hs=>?_⟩
 ·rw [w1.int hk,if_neg (by decide),if_pos (by decide),h.i k (n+1) hk,w2.int hk,if_pos (by decide),if_neg O]; rfl
 ·rw [jD,if_pos (by decide),h.c (d+1),jD,if_neg (by decide),if_pos (by decide),if_neg O]; rfl
 ·simp only [aq,bt,dg] at hc hs;obtain ⟨n2,h2⟩:=w2.scan hD (c:=c+1+l.length) O (by rw [<- hs]; congr 1; omega);obtain ⟨ts',e,h1⟩:=h.s hD (c+1) _ O h2;obtain ⟨n1,h0⟩:=w1.scan hD (c:=c) O h1;exact ⟨((4,[123],n1):Tk)::(ts'++[(4,[125],n2)]),by simp [ktk,e],by rw [h0]; simp⟩
def yy (D:Nat)(s:Bytes):Prop:=(∀ k y,k+D<=32->mH k (s++34::y)=.inr y)/\∀ y,kh (s++34::y)=some (some y)
theorem Gn {D:Nat}{s y:Bytes}(h:yy D s):Go D [(3,s)] (34::(s++34::y)) y:=by
 refine Wrd.go ⟨34,s++34::y,rfl,by decide,by decide,by rw [fF]; simp,λ k hk=>?_⟩ (λ q=>by cases q.1) (λ q=>by cases q.1) (λ d=>?_)
 ·rw [fz,if_neg (by decide),if_neg (by decide),if_neg (by decide),if_pos (by decide),h.1 k y hk];refine congrArg Sum.inr (Prod.ext rfl (Prod.ext ?_ rfl));show (s++34::y).take _=s;rw [show (s++34::y).length - y.length - 1=s.length by simp only [bt,aq]; omega,List.take_left]
 ·rw [jD,if_neg (by decide),if_neg (by decide),if_pos (by decide),h.2 y]
theorem zU {D:Nat}{l:List Tok}{t:Bytes}(hD:D<=32)(hl:l.length < 16384)(ht:t.length<=65536)(h:Go D l t []):∃ L e:List ad,(gu t).1=L++e/\(gu t).2.Ar=0/\L.map (λ t=>(t.Ar,t.C'))=l/\e.map (λ t=>(t.Ar,t.C'))=[(6,[])]:=by
 have he:mt (0+l.length) []=.inr [(6,[],0)]:=by
  rw [qv,show dz true []=[] from rfl,mx,if_neg O]
 obtain ⟨ts',e,hs⟩:=h.s hD 0 _ O he;refine ⟨ts'.map (tkS t),[tkS t (6,[],0)],?_,?_,?_,rfl⟩
 ·unfold gu;rw [if_neg O,show gQ (t.length+1) 0 t=mt 0 t from rfl,hs];show []++(ts'++[(6,[],0)]).map (tkS t)=_;simp
 ·unfold gu;rw [if_neg O,show gQ (t.length+1) 0 t=mt 0 t from rfl,hs]
  rfl
 ·rw [List.map_map,<- e]; rfl
end Go.Ab.R06
end
section
namespace Go.Ab.R06
open Go.Ab Go.Ab.RB Go.Lib
section
variable {p:Prop}
theorem q9 (h:p:=by rw [C3 O]; decide):p:=h
theorem zI (h:p:=by simp [hasPrefix,List.isPrefixOf]):p:=h
theorem xx (h:p:=by rw [C3 (by decide)]; decide):p:=h
theorem Gm (h:p:=by simp only [aq,dg] at hl ⊢; omega):p:=h
end
def pn:Bytes->Bytes
 | []=>[]
 | b::r=>(if b=36/\r.head? = some 123 then [36,b] else [b])++pn r
def quo (s:Bytes):Bytes:=(pn s).flatMap jy
inductive UV:Bytes->Prop where
 | nil:UV []
 | lo {b:UInt8} {r:Bytes} (hb:b.toNat < 128) (h:UV r):UV (b::r)
 | hi {u r:Bytes} {c:Nat} (hu:u≠[]) (ha:∀ y∈u,128<=y.toNat) (hd:∀ t,decodeL (u++t)=(c,u.length)) (hc:128<=c) (hn:¬ (c=65533/\u.length=1)) (h:UV r):UV (u++r)
theorem uK:∀ (n:Nat) (x:Bytes),x.length<=n->validD x=true->UV x
 | _,[],_,_=>.nil
 | 0,_::_,h,_=>absurd h G
 | n+1,b::r,hx,hv=>by
  by_cases hb:b.toNat < 128
  ·exact .lo hb (uK n r (by simpa using hx) (by rw [<- validD_cons b r hb]; exact hv))
  ·have RP:b::r≠[]:=by simp
   obtain ⟨Ue,hvr⟩:=(ua _ RP).1 hv;have hdf:=gK _ RP;have hgood:=hdf.2.2 Ue;have hN:=Ox (b::r).length ((b::r).getD 0 0).toNat ((b::r).getD 1 0).toNat ((b::r).getD 2 0).toNat ((b::r).getD 3 0).toNat G (UInt8.toNat_lt _);rw [<- decodeL_N] at hN;generalize hD:decodeL (b::r)=D at Ue hvr hdf hgood hN;obtain ⟨c,w⟩:=D;simp only at Ue hvr hdf hgood hN
   have hc:128<=c:=by
    rcases Nat.lt_or_ge c 128 with q | q
    ·exact Ke
    ·exact q
   have hhigh:=hN.2.2.2.2.1 hc
   have hp:∀ y∈(b::r).take w,128<=y.toNat:=by
    intro y hy;obtain ⟨j,hj,rfl⟩:=List.getElem_of_mem hy;rw [List.length_take] at hj;have hj2:j < (b::r).length:=by omega
    have hg:((b::r).getD j 0)=((b::r).take w)[j]'(by rw [List.length_take]; exact hj):=by
     rw [List.getElem_take,List.getD_eq_getElem?_getD,List.getElem?_eq_getElem hj2]; rfl
    rw [<- hg];obtain rfl | rfl | rfl | rfl:j=0\/j=1\/j=2\/j=3:=by omega
    ·exact hhigh.1
    ·exact hhigh.2.1 O
    ·exact hhigh.2.2.1 O
    ·exact hhigh.2.2.2 O
   have hl:((b::r).take w).length=w:=by rw [List.length_take]; omega
   have h:=UV.hi (u:=(b::r).take w) (r:=(b::r).drop w) (c:=c) (λ e=>by rw [e] at hl; simp at hl; omega) hp
    (λ t=>by have:=xI (c:Int) hgood.1 t; rw [hgood.2] at this; simpa using this) hc (by rw [hl]; exact Ue) (uK n _ (by rw [n6]; simp only [aq] at hx ⊢; omega) hvr)
   rwa [List.take_append_drop] at h
structure Pc (v x y:Bytes):Prop where
 s:∀ k,mH k x=mH k y
 q:kh x=kh y
 l:y.length<=x.length
 r:∃ j,∀ f frm pos text parts R3,text.length+v.length<=4096->eZ (f+j) frm pos text parts R3 x=eZ f frm (pos+((x.length - y.length:Nat):Int)) (text++v) parts R3 y
theorem Pc.refl (x:Bytes):Pc [] x x:=⟨λ _=>rfl,Z,mv _,0,λ f frm pos text parts R3 _=>by rw [Nat.sub_self,List.append_nil]; simp⟩
theorem Pc.trans {v w x y z:Bytes}(h:Pc v x y)(g:Pc w y z):Pc (v++w) x z where
 s k:=(h.s k).trans (g.s k)
 q:=h.q.trans g.q
 l:=Nat.le_trans g.l h.l
 r:=by
  obtain ⟨j1,h1⟩:=h.r;obtain ⟨j2,h2⟩:=g.r;refine ⟨j2+j1,λ f frm pos text parts R3 hl=>?_⟩;rw [bt] at hl;rw [<- Nat.add_assoc,h1 _ _ _ _ _ _ O,h2 _ _ _ _ _ _ ra,ph];have a:=h.l;have b:=g.l;congr 1; omega
theorem qB (f:Nat)(frm pos:Int)(text:Bytes)(parts:List aa)(R3:Bool)(c:UInt8)(r:Bytes):eZ (f+1) frm pos text parts R3 (c::r) =
  if hasPrefix (c::r) [36,36,123]=true then (if 4096 < text.length+2 then some (.inl (3,frm)) else eZ f frm (pos+3) (text++[36,123]) parts R3 ((c::r).drop 3))
   else if hasPrefix (c::r) [36,123]=true then (match ee f 1 ((c::r).drop 2) with
    | none=>none
    | some none=>some (.inl (40,pos))
    | some (some r')=>match gi f (((c::r).drop 2).take (((c::r).drop 2).length - r'.length - 1)) (pos+2) with
     | none=>none
     | some (.inl e)=>some (.inl e)
     | some (.inr e)=>eZ f (pos+((c::r).length - r'.length:Nat)) (pos+((c::r).length - r'.length:Nat)) [] (flS frm pos text parts++[e]) true r')
   else match jm (c::r) with
    | .inl k=>some (.inl (k,pos))
    | .inr (t,n)=>if 4096 < text.length+t.length then some (.inl (3,frm)) else eZ f frm (pos+(n:Int)) (text++t) parts R3 ((c::r).drop n):=by rw [eZ]; rfl
theorem qK (b:UInt8)(r:Bytes):jm (b::r)=if b.toNat=92 then (if (cO r).2.2=0 then .inr (encodeRune (cO r).1,(cO r).2.1.toNat+1) else .inl (cO r).2.2)
  else if kH (decodeL (b::r))\/b.toNat=34 then .inl 2 else .inr ((b::r).take (decodeL (b::r)).2,(decodeL (b::r)).2):=rfl
theorem NU (y:Bytes):Pc [36,123] (36::36::123::y) y where
 s k:=by rw [jK,if_neg (by decide),if_pos zI]; rfl
 q:=by rw [iN,if_neg (by decide),if_neg (by decide),if_pos zI]; rfl
 l:=by simp only [aq]; omega
 r:=⟨1,λ f frm pos text parts R3 hl=>by
  rw [qB,if_pos zI,if_neg (by simp only [aq,dg] at hl; omega)];have:(36::36::123::y).length - y.length=3:=by simp only [aq]; omega
  rw [this]; rfl⟩
theorem HT {b:UInt8}{y:Bytes}(hb:b.toNat < 128)(h34:b.toNat≠34)(h92:b.toNat≠92)(hc:¬ (b.toNat < 32\/b.toNat=127))(p1:hasPrefix (b::y) [36,36,123]=false)(p2:hasPrefix (b::y) [36,123]=false):Pc [b] (b::y) y:=by
 have hd:=decodeL_ascii b y hb;have hbad:¬ kH (decodeL (b::y)):=by rw [hd]; unfold kH; simp only; omega
 refine ⟨λ k=>?_,?_,by simp,1,λ f frm pos text parts R3 hl=>?_⟩
 ·rw [jK,if_neg h34,if_neg (by rw [p1]; decide),if_neg (by rw [p2]; decide),if_neg h92];simp only [hd] at hbad ⊢;rw [if_neg hbad]; rfl
 ·rw [iN,if_neg h34,if_neg h92,if_neg (by rw [p1]; decide),if_neg (by rw [p2]; decide)]
 ·have hi:jm (b::y)=.inr ([b],1):=by
   rw [qK,if_neg h92,if_neg (by rintro (q | q); exact hbad q; exact h34 q),hd]; rfl
  have e1:(b::y).length - y.length=1:=by simp only [aq]; omega
  rw [qB,if_neg (by rw [p1]; decide),if_neg (by rw [p2]; decide),hi];simp only;rw [if_neg Gm,e1]; rfl
def xk (z:UInt8):Bool:=decide (32<=z.toNat)&&decide (z.toNat < 127)&&decide (z.toNat≠34)&&decide (z.toNat≠92)&&decide (z.toNat≠36)
theorem C3 {b:UInt8}(h:b.toNat≠36)(y p:Bytes):hasPrefix (b::y) (36::p)=false:=by
 have:¬ (36:UInt8)=b:=λ e=>h (by rw [<- e]; rfl);simp [hasPrefix,List.isPrefixOf,this]
theorem vY (y:Bytes):∀ t:Bytes,(∀ z∈t,xk z=true)->(∀ k,mH k (t++y)=mH k y)/\kh (t++y)=kh y
 | [],_=>⟨λ _=>rfl,Z⟩
 | b::t,h=>by
  have hb:=h b List.mem_cons_self;simp only [xk,n7,decide_eq_true_eq] at hb;have p:=HT (b:=b) (y:=t++y) O hb.1.1.2 hb.1.2 O (C3 hb.2 _ _) (C3 hb.2 _ _);have ih:=vY y t (λ z hz=>h z (List.mem_cons_of_mem _ hz));exact ⟨λ k=>(p.s k).trans (ih.1 k),p.q.trans ih.2⟩
theorem vm:∀ u:Fin 256,∀ z∈ey u.val,xk z=true:=by decide +kernel
theorem OH {b c:UInt8}{rest y:Bytes}(hb:b.toNat < 128)(he:jy b=92::c::rest):Pc [b] (92::c::(rest++y)) y:=by
 have hr:=H7 b hb c rest he y
 have hcr:(32<=c.toNat/\c.toNat < 127)/\∀ z∈rest,xk z=true:=by
  by_cases h10:b.toNat=10
  ·rw [Cu h10] at he; injection he with _ he; injection he with h1 h2; subst h1; subst h2; exact ⟨by decide,by simp⟩
  by_cases h13:b.toNat=13
  ·rw [BJ h13] at he; injection he with _ he; injection he with h1 h2; subst h1; subst h2; exact ⟨by decide,by simp⟩
  by_cases h9:b.toNat=9
  ·rw [Ci h9] at he; injection he with _ he; injection he with h1 h2; subst h1; subst h2; exact ⟨by decide,by simp⟩
  by_cases hq:b.toNat=34\/b.toNat=92
  ·rw [GM hq] at he; injection he with _ he; injection he with h1 h2; subst h1; subst h2; exact ⟨by omega,by simp⟩
  by_cases hu:b.toNat < 32\/b.toNat=127
  ·rw [BW h10 h13 h9 hu] at he;have he:(92:UInt8)::117::(123::(ey b.toNat++[125]))=92::c::rest:=he
   injection he with _ he; injection he with h1 h2; subst h1; subst h2
   refine ⟨by decide,λ z hz=>?_⟩;rcases ro.1 hz with rfl | hz
   ·decide
   rcases List.mem_append.1 hz with hz | hz
   ·exact vm ⟨b.toNat,by omega⟩ z hz
   ·obtain rfl:=List.mem_singleton.1 hz; decide
  ·rw [vO O O  hu] at he; cases he
 have hp:=vY y rest hcr.2;have hd:=decodeL_ascii c (rest++y) O;refine ⟨λ k=>?_,?_,by simp only [aq,bt]; omega,1,λ f frm pos text parts R3 hl=>?_⟩
 ·rw [jK,if_neg (by decide),if_neg xx,if_neg xx,if_pos (by decide)];simp only [hd];rw [if_neg (by unfold kH; simp only; omega)];exact hp.1 k
 ·rw [iN,if_neg (by decide),if_pos (by decide)];exact hp.2
 ·have hi:jm (92::c::(rest++y))=.inr ([b],rest.length+1+1):=by
   have hr:cO (c::(rest++y))=((b.toNat:Int),((rest.length+1:Nat):Int),0):=hr;rw [qK,if_pos (by decide),hr,if_pos Z,vC b hb]; rfl
  have e1:(92::c::(rest++y)).length - y.length=rest.length+1+1:=by simp only [aq,bt]; omega
  rw [qB,if_neg xx,if_neg xx,hi];simp only;rw [if_neg Gm,e1]
  have:(92::c::(rest++y)).drop (rest.length+1+1)=y:=by
   rw [List.drop_succ_cons,List.drop_succ_cons,List.drop_left]
  rw [this]
theorem wi (y:Bytes):∀ t:Bytes,(∀ z∈t,128<=z.toNat)->kh (t++y)=kh y
 | [],_=>rfl
 | b::t,h=>by
  have hb:=h b List.mem_cons_self;rw [la,iN,if_neg O,if_neg O,if_neg q9,if_neg q9];exact wi y t (λ z hz=>h z (List.mem_cons_of_mem _ hz))
theorem K8 {u y:Bytes}{c:Nat}(hu:u≠[])(ha:∀ y∈u,128<=y.toNat)(hd:∀ t,decodeL (u++t)=(c,u.length))(hc:128<=c)(hn:¬ (c=65533/\u.length=1)):Pc u (u++y) y:=by
 have hq:=wi y u ha;have hd:=hd y
 cases u with
 | nil=>exact absurd Z hu
 | cons b p =>
  have hb:=ha b List.mem_cons_self
  have hbad:¬ kH (decodeL (b::(p++y))):=by
   have hd:decodeL (b::(p++y))=(c,(b::p).length):=hd;rw [hd]; unfold kH; simp only; omega
  have hd:decodeL (b::(p++y))=(c,(b::p).length):=hd;have hdr:(b::(p++y)).drop (b::p).length=y:=List.drop_left (l₁:=b::p);refine ⟨λ k=>?_,hq,by simp only [bt]; omega,1,λ f frm pos text parts R3 hl=>?_⟩
  ·rw [la,jK,if_neg O,if_neg q9,if_neg q9,if_neg O];simp only;rw [if_neg hbad,hd];show mH k ((b::(p++y)).drop (b::p).length)=_;rw [hdr]
  ·have hi:jm (b::(p++y))=.inr (b::p,(b::p).length):=by
    rw [qK,if_neg O,if_neg (by rintro (q | q); exact hbad q; omega),hd];show Sum.inr ((b::p++y).take (b::p).length,_)=_;rw [List.take_left]
   have e1:(b::p++y).length - y.length=(b::p).length:=by simp only [bt]; omega
   rw [e1,la,qB,if_neg q9,if_neg q9,hi];simp only;rw [if_neg O];show eZ f frm _ _ parts R3 ((b::(p++y)).drop (b::p).length)=_;rw [hdr]
theorem vv:∀ u r:Bytes,(∀ y∈u,128<=y.toNat)->pn (u++r)=u++pn r
 | [],_,_=>rfl
 | b::u,r,h=>by
  have hb:=h b List.mem_cons_self;rw [la,pn,if_neg (by rintro ⟨q,_⟩; rw [q] at hb; revert hb; decide),vv u r (λ y hy=>h y (List.mem_cons_of_mem _ hy))]; rfl
theorem ql (b:UInt8)(r:Bytes):quo (b::r)=(if b=36/\r.head? = some 123 then [36,36] else jy b)++quo r:=by
 unfold quo;rw [pn,List.flatMap_append];split
 ·rename_i h; rw [h.1]; rfl
 ·simp
theorem Ix (u r:Bytes)(h:∀ y∈u,128<=y.toNat):quo (u++r)=u++quo r:=by
 unfold quo;rw [vv u r h,List.flatMap_append,vp u h]
theorem uq (b:UInt8):(jy b=[b]/\b.toNat≠34/\b.toNat≠92/\¬ (b.toNat < 32\/b.toNat=127))\/∃ c rest,jy b=92::c::rest:=by
 by_cases hp:b.toNat≠34/\b.toNat≠92/\¬ (b.toNat < 32\/b.toNat=127)
 ·exact .inl ⟨vO hp.1 hp.2.1 hp.2.2,hp⟩
 ·refine .inr ?_;by_cases h10:b.toNat=10
  ·exact ⟨_,_,Cu h10⟩
  by_cases h13:b.toNat=13
  ·exact ⟨_,_,BJ h13⟩
  by_cases h9:b.toNat=9
  ·exact ⟨_,_,Ci h9⟩
  by_cases hq:b.toNat=34\/b.toNat=92
  ·exact ⟨_,_,GM hq⟩
  ·exact ⟨_,_,BW h10 h13 h9 O⟩
theorem x9:∀ (v y:Bytes),(quo v++y).head? = some 123->v.head? = some 123\/(v=[]/\y.head? = some 123)
 | [],y,h=>.inr ⟨Z,h⟩
 | b::r,y,h=>by
  refine .inl ?_;rw [ql] at h;split at h
  ·cases h
  ·rcases uq b with ⟨e,_⟩ | ⟨c,rest,e⟩
   ·rw [e] at h; exact h
   ·rw [e] at h; cases h
theorem OW (b:UInt8)(y:Bytes):hasPrefix (b::y) [36,123]=true↔b=36/\y.head? = some 123:=by
 cases y with
 | nil=>simp [hasPrefix,List.isPrefixOf]
 | cons c t =>
  simp only [hasPrefix,List.isPrefixOf,Bool.and_true,n7,beq_iff_eq,List.head?_cons,bx];exact ⟨λ h=>⟨h.1.symm,h.2.symm⟩,λ h=>⟨h.1.symm,h.2.symm⟩⟩
theorem pfx3 (b:UInt8)(y:Bytes):hasPrefix (b::y) [36,36,123]=true↔b=36/\hasPrefix y [36,123]=true:=by
 show (36 == b&&hasPrefix y [36,123])=true↔_;rw [n7,beq_iff_eq];exact ⟨λ h=>⟨h.1.symm,h.2⟩,λ h=>⟨h.1.symm,h.2⟩⟩
theorem KX (v y:Bytes)(hy:y.head?≠some 123)(h:hasPrefix (quo v++y) [36,123]=true):v=[]/\hasPrefix y [36,123]=true:=by
 cases v with
 | nil=>exact ⟨Z,h⟩
 | cons b r =>
  exfalso;rw [ql] at h;split at h
  ·cases h
  ·rename_i hn;rcases uq b with ⟨e,_⟩ | ⟨c,rest,e⟩
   ·rw [e] at h;obtain ⟨rfl,h2⟩:=(OW b (quo r++y)).1 h;rcases x9 r y h2 with q | ⟨_,q⟩
    ·exact hn ⟨Z,q⟩
    ·exact hy q
   ·rw [e] at h;have:=((OW 92 ((c::rest++quo r)++y)).1 h).1
    revert this; decide
theorem qO:∀ (n:Nat) (v y:Bytes),v.length<=n->UV v->y.head?≠some 123->(v.getLast? = some 36->hasPrefix y [36,123]=false)->Pc v (quo v++y) y
 | n,v,y,hn,hv,hy,hl=>by
  cases hv with
  | nil=>exact Pc.refl y
  | @lo b r hb hr =>
   cases n with
   | zero=>simp at hn
   | succ n =>
    have hn:r.length<=n:=by simpa using hn
    have hlr:r≠[]->(r.getLast? = some 36->hasPrefix y [36,123]=false):=λ RP h=>hl (by
     cases r with
     | nil=>exact absurd Z RP
     | cons c t=>rw [List.getLast?_cons_cons]; exact h)
    have ihr:Pc r (quo r++y) y:=by
     by_cases RP:r=[]
     ·subst RP; exact Pc.refl y
     ·exact qO n r y hn hr hy (hlr RP)
    rw [ql];by_cases hq:b=36/\r.head? = some 123
    ·rw [if_pos hq];obtain ⟨rfl,h2⟩:=hq
     obtain ⟨t,rfl⟩:∃ t,r=123::t:=by
      cases r with
      | nil=>cases h2
      | cons c t=>simp at h2; subst h2; exact ⟨t,rfl⟩
     have ht:UV t:=by
      generalize hw:(123::t:Bytes)=w at hr
      cases hr with
      | nil=>cases hw
      | lo _ h=>injection hw with _ e; rw [e]; exact h
      | @hi u r c hu ha _ _ _ _ =>
       cases u with
       | nil=>exact absurd Z hu
       | cons z p=>have:=ha z List.mem_cons_self; injection hw with e _; rw [<- e] at this; exact absurd this (by decide)
     have h3:quo (123::t)=123::quo t:=by
      rw [ql,if_neg (by rintro ⟨q,_⟩; revert q; decide),vO (by decide) (by decide) (by decide)]; rfl
     rw [h3]
     have iht:Pc t (quo t++y) y:=by
      by_cases RP:t=[]
      ·subst RP; exact Pc.refl y
      ·refine qO n t y (by simp only [aq] at hn; omega) ht hy (λ h=>hlr G ?_)
       cases t with
       | nil=>exact absurd Z RP
       | cons c t=>rw [List.getLast?_cons_cons]; exact h
     exact (NU (quo t++y)).trans iht
    ·rw [if_neg hq];rcases uq b with ⟨e,h34,h92,hc⟩ | ⟨c,rest,e⟩
     ·rw [e];refine Pc.trans (v:=[b]) (HT hb h34 h92 hc (Bool.eq_false_iff.2 λ h=>?_) (Bool.eq_false_iff.2 λ h=>?_)) ihr
      ·obtain ⟨rfl,h2⟩:=(pfx3 b _).1 h;obtain ⟨rfl,h3⟩:=KX r y hy h2;have:=hl rfl;rw [this] at h3; cases h3
      ·obtain ⟨rfl,h2⟩:=(OW b _).1 h;rcases x9 r y h2 with q | ⟨_,q⟩
       ·exact hq ⟨Z,q⟩
       ·exact hy q
     ·rw [e];have:=Pc.trans (OH (y:=quo r++y) hb e) ihr;simpa using this
  | @hi u r c hu ha hd hc hnn hr =>
   rw [Ix u r ha,ph]
   cases n with
   | zero=>simp only [bt] at hn; exact absurd (List.length_eq_zero_iff.1 O) hu
   | succ n =>
    have hul:=List.length_pos_iff.2 hu;rw [bt] at hn;refine (K8 hu ha hd hc hnn).trans ?_;by_cases RP:r=[]
    ·subst RP; exact Pc.refl y
    ·exact qO n r y O hr hy (λ h=>hl (by rw [List.getLast?_append,h]; rfl))
end Go.Ab.R06
end
section
namespace Go.Ab.R06
open Go.Ab Go.Ab.RB Go.Lib
section
variable {p:Prop}
theorem wm (h:p:=by
 rintro _ ⟨z,rfl,hz⟩
 exact hz):p:=h
theorem mT (h:p:=by
 rintro ⟨z1,z2⟩ hz
 exact ab hz):p:=h
theorem IW (h:p:=by
 refine d5 (bB (bh hl) ?_);rintro _ ⟨j,rfl,hp⟩
 exact ab ⟨j,Z,hp⟩):p:=h
theorem IF (h:p:=by exact bh (wh hL Mp he h3 O (z1,.mk L (j:Int) L' base (eD e)) _ _ _ _ _ _ _ _ _ _)):p:=h
theorem Kc (h:p:=by exact bh (uF hL Mp he h3 (z1,.mk L (j:Int) L' base (eD e)) _ _ _ _ _ _ _ _ _ _)):p:=h
theorem ri (h:p:=by exact ab ⟨j,Z,h3⟩):p:=h
theorem rP (h:p:=by exact qZ hL Mp _ he h3):p:=h
theorem tJ (h:p:=by exact sX hL Mp _ h):p:=h
end
section
variable {L:List ad} {base:Int}
theorem FX (hL:Gd (L.map (mvT base)))(Mp:L.length<=1000000000){L':Int}{b:Bool}{l:List ad}(ls:List Bytes)(hls:ls.length<=1000):∀ (k t i:Nat),t+k=ls.length->Pos L base i L' b l ->
  Ev2 (λ n m=>ba n ls m (t:Int) L (i:Int) L' base 0 0 []) (λ r=>match (ls.drop t).find? (λ s=>sgB b l s) with
   | some s=>∃ j:Nat,r=.inr (s,true,.mk L (j:Int) L' base dOk)/\Pos L base j L' b l
   | none=>∃ j:Nat,r=.inl (L,(j:Int),L',base,0,0,[])/\Pos L base j L' b l):=by
 intro k
 induction k with
 | zero =>
  intro t i ht h;refine aA ?_;simp only [ba];refine ae O (ab ?_);rw [List.drop_eq_nil_of_le O];exact ⟨i,rfl,h⟩
 | succ k ih =>
  intro t i ht h;refine aA ?_;simp only [ba];have hdr:ls.drop t=lat ls (t:Int)::ls.drop (t+1):=by rw [kT ls t O]; exact List.drop_eq_getElem_cons O
  refine aj O (ah w4 (ao _ tJ ?_));rintro ⟨z1,z2⟩ ⟨h1,j,h2,h3⟩;replace h1:z1=_:=h1; subst h1; cases h2;rw [hdr,List.find?_cons]
  cases hs:sgB b l (lat ls (t:Int)) with
  | true=>exact aj Z (ab ⟨j,Z,h3⟩)
  | false=>exact ae Bool.false_ne_true (ah (cH O O) (uO (P:=λ x=>Ev2 (λ n m=>ba n ls m x L (j:Int) L' base 0 0 []) _) (ih (t+1) j O h3)))
theorem JN (hL:Gd (L.map (mvT base)))(Mp:L.length<=1000000000){i:Nat}{L':Int}{b:Bool}{l:List ad}(ls:List Bytes)(hls:ls.length<=1000)(h:Pos L base i L' b l) :
  Ev2 (λ n _=>dA n (.mk L (i:Int) L' base dOk) ls) (λ r=>match ls.find? (λ s=>sgB b l s) with
   | some s=>∃ j:Nat,r=(s,true,.mk L (j:Int) L' base dOk)/\Pos L base j L' b l
   | none=>∃ j:Nat,r=([],false,.mk L (j:Int) L' base dOk)/\Pos L base j L' b l):=by
 simp only [dA];have hl:=FX hL Mp ls hls ls.length 0 i O h;rw [List.drop_zero] at hl
 cases hf:ls.find? (λ s=>sgB b l s) with
 | some s =>
  rw [hf] at hl;refine d5 (bB (bh hl) ?_);rintro _ ⟨j,rfl,hp⟩;exact ⟨j,rfl,hp⟩
 | none =>
  rw [hf] at hl;exact IW
theorem Gz (hL:Gd (L.map (mvT base)))(Mp:L.length<=1000000000){L':Int}{b:Bool}{l:List ad}{e:PE}(he:e.1≠0)(ls:List Bytes)(hls:ls.length<=1000):∀ (k t i:Nat),t+k=ls.length->Pos L base i L' b l ->
  Ev2 (λ n m=>ba n ls m (t:Int) L (i:Int) L' base e.1 e.2 []) (λ r=>∃ j:Nat,r=.inl (L,(j:Int),L',base,e.1,e.2,[])/\Pos L base j L' b l):=by
 intro k
 induction k with
 | zero =>
  intro t i ht h;refine aA ?_;simp only [ba];exact ae O (ab ⟨i,rfl,h⟩)
 | succ k ih =>
  intro t i ht h;refine aA ?_;simp only [ba];refine aj O (ah w4 (ao _ (qZ hL Mp _ he h) ?_));rintro _ ⟨j,rfl,h3⟩;exact ae Bool.false_ne_true (ah aV (uO (P:=λ x=>Ev2 (λ n m=>ba n ls m x L (j:Int) L' base e.1 e.2 []) _) (ih (t+1) j O h3)))
theorem LF (hL:Gd (L.map (mvT base)))(Mp:L.length<=1000000000){i:Nat}{L':Int}{b:Bool}{l:List ad}{e:PE}(he:e.1≠0)(ls:List Bytes)(hls:ls.length<=1000)(h:Pos L base i L' b l) :
  Ev2 (λ n _=>dA n (.mk L (i:Int) L' base (eD e)) ls) (λ r=>∃ j:Nat,r=([],false,.mk L (j:Int) L' base (eD e))/\Pos L base j L' b l):=by
 simp only [dA];have hl:=Gz hL Mp he ls hls ls.length 0 i O h;exact IW
theorem yJ {R7:Nat}(h:R7<=5):ja (R7:Int)=some ((oQ R7).map (·.1)):=by
 rcases R7 with _ | _ | _ | _ | _ | _ | k
 ·rfl
 ·rfl
 ·rfl
 ·rfl
 ·rfl
 ·rfl
 ·omega
def qq:List Bytes:=[[124,124],[38,38],[61,61],[33,61],[60],[60,61],[62],[62,61],[43],[45],[42],[47],[37]]
theorem QL (s:Bytes):∀ (k t:Nat),t+k=13->Ev2 (λ _ m=>gC s m (t:Int)) (·=match (qq.drop t).findIdx? (λ x=>decide (x=s)) with | some i=>.inr ((3+t+i:Nat):Int) | none=>.inl ()):=by
 intro k
 induction k with
 | zero =>
  intro t ht;refine aA ?_;simp only [gC];have:t=13:=by omega
  subst this;exact ae (by decide) (ab rfl)
 | succ k ih =>
  intro t ht;refine aA ?_;simp only [gC];have hdr:qq.drop t=lat qq (t:Int)::qq.drop (t+1):=by rw [kT qq t (by show t < 13; omega)]; exact List.drop_eq_getElem_cons (by show t < 13; omega)
  refine aj O (ah w4 ?_);rw [hdr,List.findIdx?_cons];by_cases hs:lat qq (t:Int)=s
  ·refine aj hs (ah aV (ab ?_));rw [decide_eq_true hs];show _=Sum.inr _;rw [show (3:Int)+(t:Int)=((3+t+0:Nat):Int) by omega]
  ·refine ae hs (ah aV (bB (uO (P:=λ x=>Ev2 (λ _ m=>gC s m x) _) (ih (t+1) O)) ?_));rintro r rfl;rw [decide_eq_false hs]
   cases (qq.drop (t+1)).findIdx? (λ x=>decide (x=s)) with
   | none=>rfl
   | some i =>
    show Sum.inr ((3+(t+1)+i:Nat):Int)=Sum.inr ((3+t+(i+1):Nat):Int);congr 2; omega
theorem M0 {R7:Nat}(h:R7<=5){p:Bytes×Int}(hp:p∈oQ R7):Ev2 (λ n _=>qm n p.1) (·=p.2):=by
 simp only [qm];have hl:=QL p.1 13 0 rfl;rw [List.drop_zero] at hl
 have:(match qq.findIdx? (λ x=>decide (x=p.1)) with | some i=>Sum.inr ((3+0+i:Nat):Int) | none=>(Sum.inl ():Unit⊕Int))=.inr p.2:=by
  have hall:∀ R7:Fin 6,∀ p∈oQ R7.1,(match qq.findIdx? (λ x=>decide (x=p.1)) with | some i=>Sum.inr ((3+0+i:Nat):Int) | none=>(Sum.inl ():Unit⊕Int))=.inr p.2:=by decide
  exact hall ⟨R7,by omega⟩ p hp
 rw [this] at hl;exact jR p.2 (bh hl) rfl
theorem GT (b:Bool)(l:List ad)(R7:Nat):((oQ R7).map (·.1)).find? (λ s=>sgB b l s)=(tT b l R7).map (·.1):=by
 unfold tT
 induction oQ R7 with
 | nil=>rfl
 | cons p r ih =>
  rw [cl,List.find?_cons,List.find?_cons]
  cases sgB b l p.1 with
  | true=>rfl
  | false=>exact ih
theorem LE {b:Bool}{l:List ad}{R7:Nat}{p:Bytes×Int}(h:tT b l R7=some p):p∈oQ R7/\sgB b l p.1=true:=⟨List.mem_of_find?_eq_some h,List.find?_some (p:=λ p:Bytes×Int=>sgB b l p.1) h⟩
theorem C4 {R7:Nat}:((oQ R7).map (·.1)).length<=1000:=by
 rcases R7 with _ | _ | _ | _ | _ | k <;> simp [oQ]
def uX {α:Type}(L:List ad)(base:Int)(L':Int)(b:Bool)(e:PE)(z:α×af):Prop:=∃ (j:Nat) (l':List ad),z.2=.mk L (j:Int) L' base (eD e)/\Pos L base j L' b l'
theorem Ec {e:PE}(he:e.1≠0):(!decide ((eD e).Ar=0))=true:=by show (!decide (e.1=0))=true; simp [he]
theorem En {i:Nat}{L':Int}{b:Bool}{l:List ad}{e:PE}(he:e.1≠0)(h:Pos L base i L' b l) :
  Ev2 (λ n _=>ct n (.mk L (i:Int) L' base (eD e))) (uX L base L' b e):=by
 refine aM ?_;simp only [ct,aK,qr];exact aj (Ec he) (ab ⟨i,l,Z,h⟩)
theorem uF (hL:Gd (L.map (mvT base)))(Mp:L.length<=1000000000){i:Nat}{L':Int}{b:Bool}{l:List ad}{e:PE}(he:e.1≠0)(h:Pos L base i L' b l)(r1:aa×af)(k op:Int)(nm key:Bytes)(vk vn:Int)(vs:Bytes)(vi:List ag)(vks:List Bytes)(kids:List aa) :
  Ev2 (λ n m=>br n (ax n) r1 m k op nm key vk vn vs vi vks kids L (i:Int) L' base e.1 e.2 []) (λ s=>∃ z,s=.inr z/\uX L base L' b e z):=by
 refine aA ?_;simp only [br];refine d5 (ao _ (qZ hL Mp _ he h) ?_);rintro _ ⟨j,rfl,h3⟩;refine ae Bool.false_ne_true (ao _ rP ?_);rintro _ ⟨j,rfl,h3⟩;exact ae Bool.false_ne_true (ab ⟨_,rfl,j,l,rfl,h3⟩)
theorem Ei (hL:Gd (L.map (mvT base)))(Mp:L.length<=1000000000){i:Nat}{L':Int}{b:Bool}{l:List ad}{e:PE}(he:e.1≠0)(h:Pos L base i L' b l) :
  Ev2 (λ n _=>cT n (.mk L (i:Int) L' base (eD e))) (uX L base L' b e):=by
 refine aM ?_;simp only [cT];refine ao _ (En he h) ?_;rintro ⟨z1,z2⟩ ⟨j,l',h2,h3⟩
 cases h2
 refine d5 (bB Kc ?_);exact wm
theorem MJ (hL:Gd (L.map (mvT base)))(Mp:L.length<=1000000000){i:Nat}{L':Int}{b:Bool}{l:List ad}{e:PE}(he:e.1≠0)(h:Pos L base i L' b l) :
  Ev2 (λ n _=>cy n (.mk L (i:Int) L' base (eD e))) (uX L base L' b e):=by
 refine aM ?_;simp only [cy];refine ao (λ t=>∃ j:Nat,t=(0,L,(j:Int),L',base,e.1,e.2,[])/\Pos L base j L' b l) ?_ ?_
 ·refine ao _ (qZ hL Mp _ he h) ?_;rintro _ ⟨j,rfl,h3⟩;refine ae Bool.false_ne_true (ao _ rP ?_);rintro _ ⟨j,rfl,h3⟩;exact ae Bool.false_ne_true ri
 ·rintro _ ⟨j,rfl,h3⟩;refine aj rfl (ao _ (Ei hL Mp he h3) ?_);exact mT
theorem wh (hL:Gd (L.map (mvT base)))(Mp:L.length<=1000000000){i:Nat}{L':Int}{b:Bool}{l:List ad}{e:PE}(he:e.1≠0)(h:Pos L base i L' b l){R7:Nat}(hlev:R7<=5)(r5:aa×af)(k op:Int)(nm key:Bytes)(vk vn:Int)(vs:Bytes)(vi:List ag)(vks:List Bytes)(kids:List aa) :
  Ev2 (λ n m=>bw n (aT n) (R7:Int) r5 m k op nm key vk vn vs vi vks kids L (i:Int) L' base e.1 e.2 []) (λ s=>∃ z,s=.inr z/\uX L base L' b e z):=by
 refine aA ?_;simp only [bw];refine ai _ (aw (yJ hlev) rfl) (ao _ (LF hL Mp he _ C4 h) ?_);rintro _ ⟨j,rfl,h3⟩;exact aj rfl (ab ⟨_,rfl,j,l,rfl,h3⟩)
theorem Ij (hL:Gd (L.map (mvT base)))(Mp:L.length<=1000000000){L':Int}{b:Bool}{e:PE}(he:e.1≠0):∀ (k R7 i:Nat) (l:List ad),R7+k=6->Pos L base i L' b l ->
  Ev2 (λ n _=>aT n (.mk L (i:Int) L' base (eD e)) (R7:Int)) (uX L base L' b e):=by
 intro k
 induction k with
 | zero =>
  intro R7 i l hk h;refine aM ?_;simp only [aT];refine aj O (ao _ (MJ hL Mp he h) ?_);exact mT
 | succ k ih =>
  intro R7 i l hk h;refine aM ?_;simp only [aT];refine ae O (ah aV (ao _ (uO (P:=λ x=>Ev2 (λ n _=>aT n (.mk L (i:Int) L' base (eD e)) x) _) (ih (R7+1) i l O h)) ?_));rintro ⟨z1,z2⟩ ⟨j,l',h2,h3⟩
  cases h2
  refine d5 (bB IF ?_);exact wm
theorem JO (hL:Gd (L.map (mvT base)))(Mp:L.length<=1000000000){i:Nat}{L':Int}{b:Bool}{l:List ad}{e:PE}(he:e.1≠0)(h:Pos L base i L' b l) :
  Ev2 (λ n _=>ax n (.mk L (i:Int) L' base (eD e))) (uX L base L' b e):=by
 refine aM ?_;simp only [ax];refine ao _ (Ij hL Mp he 6 0 i l rfl h) ?_;rintro ⟨z1,z2⟩ ⟨j,l',h2,h3⟩
 cases h2
 refine ao _ rP ?_;rintro _ ⟨j,rfl,h3⟩;exact aj rfl (ab ⟨j,l',rfl,h3⟩)
end
end Go.Ab.R06
end
section
namespace Go.Ab.R06
open Go.Ab Go.Ab.RB Go.Lib
section
variable {p:Prop}
theorem Gc (h:p:=by
 refine ab (bB (uF hL Mp he h3 r1 _ _ _ _ _ _ _ _ _ _) ?_);rintro _ ⟨z,rfl,j,l',hz1,hz2⟩
 exact ⟨z,Z,he,j,l',hz1,hz2⟩):p:=h
theorem FE (h:p:=by
 refine aj Z ?_;refine d6 (sX hL Mp _ h) λ j h3=>?_
 exact ab ⟨j,Z,h3⟩):p:=h
theorem xy (h:p:=by
 refine ah (by simp only [aq,dg,bt]; omega) ?_;refine ao _ (qZ hL Mp _ he h3) ?_;rintro _ ⟨j,rfl,h3⟩
 exact aj Z (ab ⟨he,j,l',.inl ⟨Z,h3⟩⟩)):p:=h
theorem qV (h:p:=by
 refine ay (λ hk=>?_) (λ hk=>ab ⟨_,_,j,l',rfl,by simp,h3⟩);refine ao _ (A4 hL Mp _ he h3) ?_;rintro _ ⟨j,l',rfl,h3⟩;refine ao _ (JO hL Mp he h3) ?_;rintro ⟨z1,z2⟩ ⟨j,l',h2,h3⟩
 cases h2
 refine ah (by simp only [aq,dg,bt]; omega) ?_
 exact ab ⟨_,_,j,l',Z,by simp,h3⟩):p:=h
theorem Hx (h:p:=by
 cases h2
 refine ah (by simp only [aq,dg,bt]; omega) ?_
 exact ab ⟨he,_,_,j,l',Z,by simp,h3⟩):p:=h
theorem BB (h:p:=by
 refine d6 (dN hL Mp h3 O) λ j ⟨h3,h4,h5⟩=>?_
 exact ai _ (aw Z Z) (ab ⟨Z,j,Z,h3⟩)):p:=h
theorem pD (h:p:=by
 refine ao (λ t=>∃ (ks:List aa) (j:Nat) (l':List ad),t=(ks,L,(j:Int),L'+1,base,e.1,e.2,[])/\Pos L base j (L'+1) true l') ?_ ?_
 ·refine ao _ (wU hL Mp _ he h3) ?_;rintro _ ⟨j,rfl,h3⟩;exact ae Bool.false_ne_true (ab ⟨_,j,_,rfl,h3⟩)
 rintro _ ⟨ks,j,l',rfl,h3⟩;refine ao _ (uW hL Mp _ he hn hb h3) ?_;rintro _ ⟨j,l',rfl,h3⟩
 exact ab ⟨he,j,l',Z,h3⟩):p:=h
theorem Aa (h:p:=by
 cases hz
 refine ao _ (kZ hL Mp _ hn hb h3 hxx) ?_;rintro _ ⟨he,j,l',rfl,h3⟩
 exact ab ⟨he,j,l',Z,h3⟩):p:=h
theorem zW (h:p:=by
 rintro ⟨ys,z⟩ ⟨j,l'',hy,hz,h3,hxx⟩
 cases hy; cases hz
 refine ao _ (kZ hL Mp _ hn hb h3 hxx) ?_;rintro _ ⟨j,rfl,h3,h4⟩
 cases hq
 exact ab ⟨Z,j,Z,h3⟩):p:=h
theorem rh (h:p:=by
 cases hq
 exact ab ⟨Z,j,Z,h3⟩):p:=h
theorem Ie (h:p:=by
 rw [if_pos hs] at hq; cases hq;refine ae (by simp [hs]) (ab ⟨j,l,by rw [List.append_nil],h3,?_⟩)
 unfold d4; rw [if_pos hs]; rfl):p:=h
theorem wF (h:p:=by
 refine ao _ (uW hL Mp _ he hn hb h3) ?_;rintro _ ⟨j,l',rfl,h3⟩
 exact ab ⟨he,j,l',Z,h3⟩):p:=h
theorem I4 (h:p:=by
 rintro ⟨ks,z⟩ hz;rcases q with e | ⟨ks',l'⟩
 ·obtain ⟨he,j,l',⟨hz,h3⟩ | ⟨hz,h3,h4⟩⟩:=hz
  ·cases hz; exact ab ⟨he,j,l',.inl ⟨rfl,h3⟩⟩
  ·cases hz; exact ab ⟨he,j,l',.inr ⟨rfl,h3,h4⟩⟩
 ·obtain ⟨j,l'',hz,h3,h4⟩:=hz
  cases hz; exact ab ⟨j,l'',rfl,rfl,h3,h4⟩):p:=h
theorem jU (h:p:=by exact JO hL Mp he h3):p:=h
theorem Ax (h:p:=by exact uW hL Mp _ he hn hb h3):p:=h
theorem gB (h:p:=by simp only [aq,dg,bt]; omega):p:=h
theorem md (h:p:=by exact sX hL Mp _ h3):p:=h
theorem pB (h:p:=by exact A4 hL Mp _ he h3):p:=h
theorem wC (h:p:=by exact Dv hL Mp _ he h3):p:=h
theorem wA (h:p:=by exact Fb ih _ _ gl L base hL Mp j (L'+1) _ h3 hx):p:=h
end
theorem kZ {L:List ad}{base:Int}(hL:Gd (L.map (mvT base)))(Mp:L.length<=1000000000){i:Nat}{L':Int}{b:Bool}{l:List ad}(s:Bytes){q:PE⊕(Unit×List ad)}(h0:0<=L')(hb:b=decide (0 < L'))(h:Pos L base i (L'+1) true l)(hq:d4 true s l=some q) :
  Ev2 (λ n _=>bj n (.mk L (i:Int) (L'+1) base dOk) s) (Gx L base L' b q):=by subst hb; exact JI hL Mp s h0 h hq
theorem uW {L:List ad}{base:Int}(hL:Gd (L.map (mvT base)))(Mp:L.length<=1000000000){i:Nat}{L':Int}{b:Bool}{l:List ad}{e:PE}(s:Bytes)(he:e.1≠0)(h0:0<=L')(hb:b=decide (0 < L'))(h:Pos L base i (L'+1) true l) :
  Ev2 (λ n _=>bj n (.mk L (i:Int) (L'+1) base (eD e)) s) (λ z=>∃ (j:Nat) (l':List ad),z=.mk L (j:Int) L' base (eD e)/\Pos L base j L' b l'):=by subst hb; exact KC hL Mp s he h0 h
theorem sg6 {b:Bool}{l:List ad}{s:Bytes}(h:sgB b l s=true):(hd b l).Ar≠6:=by have:=(qg.1 h).1; omega
theorem wd6 {b:Bool}{l:List ad}{s:Bytes}(h:wdB b l s=true):(hd b l).Ar≠6:=by have:=(wZ.1 h).1; omega
theorem M4 (e:aa):aa.mk e.Ar e.fOp e.A' e.B' (ag.mk e.By.Ar e.By.F' e.By.If e.By.Gw e.By.Df) e.AI e.fAt=e:=by
 obtain ⟨k,op,nm,key,⟨vk,vn,vs,vi,vks⟩,kids,at'⟩:=e; rfl
def Fl {α:Type}(F:Nat->af->Option (α×af))(b:Bool)(l:List ad)(x:PR α):Prop :=
 ∀ (L:List ad) (base:Int),Gd (L.map (mvT base))->L.length<=1000000000->∀ (i:Nat) (L':Int) (q:PE⊕(α×List ad)),Pos L base i L' b l->x=some q->Ev2 (λ n _=>F n (.mk L (i:Int) L' base dOk)) (Out L base L' b q)
def FlC {α:Type}(F:Nat->af->Option (α×af))(l:List ad)(x:PR α):Prop :=
 ∀ (L:List ad) (base:Int),Gd (L.map (mvT base))->L.length<=1000000000->∀ (i:Nat) (L':Int) (b:Bool) (q:PE⊕(α×List ad)),0<=L'->b=decide (0 < L')->Pos L base i (L'+1) true l->x=some q->Ev2 (λ n _=>F n (.mk L (i:Int) (L'+1) base dOk)) (Out L base L' b q)
def Lj (L:List ad)(base L':Int)(en:Bytes)(out:List aa)(q:PE⊕(List aa×List ad))(r:List aa×List ad×Int×Int×Int×Int×Int×Bytes):Prop:=match q with
 | .inl e=>e.1≠0/\∃ (j:Nat) (l':List ad),((r.2=(L,(j:Int),L',base,e.1,e.2,[])/\Pos L base j L' true l')\/(r.2=(L,(j:Int),L',base,0,0,[])/\Pos L base j L' true l'/\d4 true en l'=some (.inl e)))
 | .inr (ks,l')=>∃ (j:Nat) (l'':List ad),r=(out++ks,L,(j:Int),L',base,0,0,[])/\Pos L base j L' true l''/\d4 true en l''=some (.inr ((),l'))
def RdO (s:Bytes)(a:Int)(q:PE⊕(Int×Int×Bytes×List aa×Bool))(r:(Bytes×Int×Int×Int×Bytes×(List aa)×Bool)⊕(ap×am)):Prop:=match q with
 | .inl e=>e.1≠0/\∃ t,r=.inr (eD e,t)
 | .inr (frm,pos,text,parts,R3)=>∃ (i fr:Nat),frm=a+(fr:Int)/\pos=a+(i:Int)/\fr<=i/\i<=s.length/\parts.length<=2*i/\r=.inl (s,a,(i:Int),(fr:Int),text,parts,R3)
def WOut (q:PE⊕aa)(r:aa×ap):Prop:=match q with
 | .inl e=>e.1≠0/\r.2=eD e
 | .inr x=>r=(x,dOk)
structure Fol (f:Nat):Prop where
 e:∀ b l,Fl ax b l (eT f b l)
 b:∀ (R7:Nat) (li:Int) b l,li=R7->R7<=6->Fl (λ n p=>aT n p li) b l (pw f R7 b l)
 bl:∀ (R7:Nat) (li:Int) b l (x:aa) (r5:aa×af),li=R7->R7<=5->x.fAt=r5.1.fAt->∀ (L:List ad) (base:Int),Gd (L.map (mvT base))->L.length<=1000000000->∀ (i:Nat) (L':Int) (q:PE⊕(aa×List ad)),Pos L base i L' b l->qR f R7 b x l=some q ->
  Ev2 (λ n m=>bw n (aT n) li r5 m x.Ar x.fOp x.A' x.B' x.By.Ar x.By.F' x.By.If x.By.Gw x.By.Df x.AI L (i:Int) L' base 0 0 []) (λ s=>∃ z,s=.inr z/\Out L base L' b q z)
 u:∀ b l,Fl cy b l (unS f b l)
 pl:∀ b l (x:aa) (r1:aa×af),x.fAt=r1.1.fAt->∀ (L:List ad) (base:Int),Gd (L.map (mvT base))->L.length<=1000000000->∀ (i:Nat) (L':Int) (q:PE⊕(aa×List ad)),Pos L base i L' b l->lH f b x l=some q ->
  Ev2 (λ n m=>br n (ax n) r1 m x.Ar x.fOp x.A' x.B' x.By.Ar x.By.F' x.By.If x.By.Gw x.By.Df x.AI L (i:Int) L' base 0 0 []) (λ s=>∃ z,s=.inr z/\Out L base L' b q z)
 p:∀ b l,Fl ct b l (jC f b l)
 s:∀ b l,(hd b l).Ar=3->Fl dV b l (tS f b l)
 n:∀ b l,(hd b l).Ar=1->Fl eR b l (nQ f b l)
 i:∀ (en:Bytes) (l:List ad) (out:List aa),Gd l->out.length+l.length<=1000000000->∀ (L:List ad) (base:Int),Gd (L.map (mvT base))->L.length<=1000000000->∀ (i:Nat) (L':Int) (q:PE⊕(List aa×List ad)),Pos L base i L' true l->ji f en l=some q ->
  Ev2 (λ n m=>cv n (ax n) en m out L (i:Int) L' base 0 0 []) (Lj L base L' en out q)
 t:∀ (l:List ad) (out:List aa),Gl l->out.length+2*l.length<=3000000000->∀ (L:List ad) (base:Int),Gd (L.map (mvT base))->L.length<=1000000000->∀ (i:Nat) (L':Int) (q:PE⊕(List aa×List ad)),Pos L base i L' true l->rJ f l=some q ->
  Ev2 (λ n m=>bQ n (ax n) (cI n) m out L (i:Int) L' base 0 0 []) (Lj L base L' [125] out q)
 k:∀ l,Fl cI true l (nG f l)
 lo:∀ (a k:Int) l,wdB true l [102,111,114]=true->k=12\/k=13->FlC (λ n p=>dU n p a k) l (nz f a k (tl true l))
 tm:∀ (s:Bytes) (a:Int) q,0<=a->a+(s.length:Int)<=1000000000->mr f s a=some q->Ev2 (λ n _=>gJ n s a) (·=wz q)
 r:∀ (s:Bytes) (a:Int) (i fr:Nat) (text:Bytes) (parts:List aa) (R3:Bool) q,0<=a->a+(s.length:Int)<=1000000000->i<=s.length->fr<=i->text.length<=4096->parts.length<=2*i->eZ f (a+(fr:Int)) (a+(i:Int)) text parts R3 (s.drop i)=some q ->
  Ev2 (λ n m=>bM n (aI n) m s a (i:Int) (fr:Int) text parts R3) (RdO s a q)
 w:∀ (s:Bytes) (a:Int) q,0<=a->a+(s.length:Int)<=1000000000->gi f s a=some q->Ev2 (λ n _=>gA n s a) (WOut q)
theorem oj {α β γ:Type}{L:List ad}{base L':Int}{b:Bool}{x:PR α}{k:α->List ad->PR β}{q:PE⊕(β×List ad)}{f:Nat->Nat->Option (α×af)}{g:Nat->Nat->α×af->Option γ}{P:γ->Prop}(hq:pb x k=some q)
  (hc:∀ q',x=some q'->Ev2 f (Out L base L' b q')) (h1:∀ e z (j:Nat) l',e.1≠0->Pos L base j L' b l'->.inl e=q->Ev2 (λ n m=>g n m (z,.mk L (j:Int) L' base (eD e))) P)
  (h2:∀ a l (j:Nat),x=some (.inr (a,l))->Pos L base j L' b l->k a l=some q->Ev2 (λ n m=>g n m (a,.mk L (j:Int) L' base dOk)) P):Ev2 (λ n m=>(f n m).bind (g n m)) P:=by
 rcases d8 hq with ⟨e,hx,rfl⟩ | ⟨a,l,hx,hq⟩
 ·refine ao _ (hc _ hx) ?_;rintro ⟨z1,z2⟩ ⟨he,j,l',h3,h4⟩
  cases h3
  exact h1 e z1 j l' he h4 Z
 ·refine ao _ (hc _ hx) ?_;rintro ⟨z1,z2⟩ ⟨h,j,h3,h4⟩;replace h:z1=_:=h; subst h; cases h3;exact h2 _ l j hx h4 hq
theorem rX {β γ:Type}{L:List ad}{base L':Int}{b:Bool}{x:PR Unit}{k:Unit->List ad->PR β}{q:PE⊕(β×List ad)}{f:Nat->Nat->Option af}{g:Nat->Nat->af->Option γ}{P:γ->Prop}(hq:pb x k=some q)
  (hc:∀ q',x=some q'->Ev2 f (Gx L base L' b q')) (h1:∀ e (j:Nat) l',e.1≠0->Pos L base j L' b l'->.inl e=q->Ev2 (λ n m=>g n m (.mk L (j:Int) L' base (eD e))) P)
  (h2:∀ l (j:Nat),x=some (.inr ((),l))->Pos L base j L' b l->(L.drop j).map (mvT base)=l->k () l=some q->Ev2 (λ n m=>g n m (.mk L (j:Int) L' base dOk)) P):Ev2 (λ n m=>(f n m).bind (g n m)) P:=by
 rcases d8 hq with ⟨e,hx,rfl⟩ | ⟨a,l,hx,hq⟩
 ·refine ao _ (hc _ hx) ?_;rintro _ ⟨he,j,l',rfl,h4⟩;exact h1 e j l' he h4 rfl
 ·refine ao _ (hc _ hx) ?_;rintro _ ⟨j,rfl,h3,h4⟩;exact h2 l j hx h3 h4 hq
theorem EE {p:Prop}(h:p:=by
 rintro e z1 j l' he h3 rfl
 repeat' first
  | exact ab ⟨he,j,l',Z,h3⟩
  | exact aj Z (ab ⟨he,j,l',Z,h3⟩)
  | (refine ao _ pB ?_; rintro _ ⟨j,l',rfl,h3⟩)
  | (refine ao _ wC ?_; rintro _ ⟨j,l',rfl,h3⟩)
  | (refine ao _ Ax ?_; rintro _ ⟨j,l',rfl,h3⟩)
  | (refine ao _ jU ?_; rintro ⟨z1,z2⟩ ⟨j,l',h2,h3⟩; cases h2)
  | (refine ao _ (tW hL Mp he h3) ?_; rintro ⟨z1,z2⟩ ⟨j,l',h2,h3⟩; cases h2)
  | (refine ao _ rP ?_; rintro _ ⟨j,rfl,h3⟩)
  | (refine ao _ (wU hL Mp _ he h3) ?_; rintro _ ⟨j,rfl,h3⟩)):p:=h
theorem EX {p:Prop}(h:p:=by
 rintro e j l' he h3 rfl
 repeat' first
  | exact ab ⟨he,j,l',Z,h3⟩
  | exact aj Z (ab ⟨he,j,l',Z,h3⟩)
  | (refine ao _ pB ?_; rintro _ ⟨j,l',rfl,h3⟩)
  | (refine ao _ wC ?_; rintro _ ⟨j,l',rfl,h3⟩)
  | (refine ao _ Ax ?_; rintro _ ⟨j,l',rfl,h3⟩)
  | (refine ao _ jU ?_; rintro ⟨z1,z2⟩ ⟨j,l',h2,h3⟩; cases h2)
  | (refine ao _ (tW hL Mp he h3) ?_; rintro ⟨z1,z2⟩ ⟨j,l',h2,h3⟩; cases h2)
  | (refine ao _ rP ?_; rintro _ ⟨j,rfl,h3⟩)
  | (refine ao _ (wU hL Mp _ he h3) ?_; rintro _ ⟨j,rfl,h3⟩)):p:=h
theorem Rk {f:Nat}(ih:Fol f):∀ b l,Fl ax b l (eT (f+1) b l):=by
 intro b l L base hL Mp i L' q h hq;rw [eT] at hq;refine aM ?_;simp only [ax];refine oj hq (λ _ hx=>ih.b 0 0 b l rfl (by decide) L base hL Mp i L' _ h hx) ?_ ?_
 ·exact EE
 intro c l1 j hx h3 hq;refine d6 md λ j h3=>?_;by_cases hs:sgB b l1 [63]=true
 ·
  rw [if_pos hs] at hq;refine ae (by simp [hs]) ?_;refine d6 (dN hL Mp h3 (sg6 hs)) λ j ⟨h3,h4,h5⟩=>?_;refine oj hq (λ _ hx=>ih.e b _ L base hL Mp j L' _ h3 hx) ?_ ?_
  ·exact EE
  intro a l2 j hx h3 hq;refine rX hq (λ _ hx=>nb hL Mp _ h3 hx) ?_ ?_
  ·exact EX
  intro l3 j hx h3 h4 hq;refine oj hq (λ _ hx=>ih.e b _ L base hL Mp j L' _ h3 hx) ?_ ?_
  ·exact EE
  intro d l4 j hx h3 hq;exact rh
 ·
  rw [if_neg hs] at hq; cases hq;exact aj (by simpa using hs) rr
theorem QN {f:Nat}(ih:Fol f):∀ (R7:Nat) (li:Int) b l,li=R7->R7<=6->Fl (λ n p=>aT n p li) b l (pw (f+1) R7 b l):=by
 intro R7 li b l Xs h6 L base hL Mp i L' q h hq;rw [pw] at hq;refine aM ?_;simp only [aT];by_cases hv:5 < R7
 ·
  rw [if_pos hv] at hq;refine aj O ?_;refine ao _ (ih.u b l L base hL Mp i L' _ h hq) ?_;exact mT
 ·
  rw [if_neg hv] at hq;refine ae O (ah aV ?_);refine oj hq (λ _ hx=>ih.b (R7+1) (li+1) b l O O  L base hL Mp i L' _ h hx) ?_ ?_
  ·
   rintro e z1 j l' he h3 rfl;subst Xs;refine d5 (bB IF ?_);rintro _ ⟨z,rfl,j,l',hz1,hz2⟩;exact ⟨he,j,l',hz1,hz2⟩
  intro c l1 j hx h3 hq;refine d5 (bB (bh (ih.bl R7 li b _ _ (_,.mk L (j:Int) L' base dOk) Xs O rfl L base hL Mp j L' q h3 hq)) ?_);exact wm
theorem OO {f:Nat}(ih:Fol f):∀ (R7:Nat) (li:Int) b l (x:aa) (r5:aa×af),li=R7->R7<=5->x.fAt=r5.1.fAt->∀ (L:List ad) (base:Int),Gd (L.map (mvT base))->L.length<=1000000000->∀ (i:Nat) (L':Int) (q:PE⊕(aa×List ad)),Pos L base i L' b l->qR (f+1) R7 b x l=some q ->
  Ev2 (λ n m=>bw n (aT n) li r5 m x.Ar x.fOp x.A' x.B' x.By.Ar x.By.F' x.By.If x.By.Gw x.By.Df x.AI L (i:Int) L' base 0 0 []) (λ s=>∃ z,s=.inr z/\Out L base L' b q z):=by
 intro R7 li b l x r5 Xs hl5 Sd L base hL Mp i L' q h hq;rw [qR] at hq;refine aA ?_;simp only [bw];subst Xs;refine ai _ (aw (yJ hl5) rfl) ?_;have ha:=JN hL Mp ((oQ R7).map (·.1)) C4 h;rw [GT] at ha;have eta:aa.mk x.Ar x.fOp x.A' x.B' (ag.mk x.By.Ar x.By.F' x.By.If x.By.Gw x.By.Df) x.AI r5.1.fAt=x:=by rw [<- Sd]; exact M4 x
 rw [eta]
 cases hp:tT b l R7 with
 | none =>
  rw [hp] at ha hq
  cases hq
  refine ao _ ha ?_;rintro _ ⟨j,rfl,h3⟩;exact aj rfl (ab ⟨_,rfl,rfl,j,rfl,h3⟩)
 | some p =>
  rw [hp] at ha hq;obtain ⟨hm,hs⟩:=LE hp;refine ao _ ha ?_;rintro _ ⟨j,rfl,h3⟩;refine ae Bool.false_ne_true ?_;refine d6 (dN hL Mp h3 (sg6 hs)) λ j ⟨h3,h4,h5⟩=>?_;refine ah aV ?_;have hq:pb (pw f (R7+1) b (tl b l)) (λ y l=>qR f R7 b (aa.mk 7 p.2 [] [] v0 [x,y] x.fAt) l)=some q:=hq;refine oj hq (λ _ hx=>ih.b (R7+1) ((R7:Int)+1) b _ O O  L base hL Mp j L' _ h3 hx) ?_ ?_
  ·
   rintro e z1 j l' he h3 rfl;refine ai _ (M0 hl5 hm) ?_;refine bB (wh hL Mp he h3 hl5 r5 _ _ _ _ _ _ _ _ _ _) ?_;rintro _ ⟨z,rfl,j,l',hz1,hz2⟩;exact ⟨z,rfl,he,j,l',hz1,hz2⟩
  intro y l1 j hx h3 hq;refine ai _ (M0 hl5 hm) ?_;exact ih.bl R7 R7 b _ (aa.mk 7 p.2 [] [] v0 [x,_] x.fAt) r5 rfl hl5 Sd L base hL Mp j L' q h3 hq
theorem J4 {f:Nat}(ih:Fol f):∀ b l,Fl cT b l (pb (jC f b l) λ e l=>lH f b e l):=by
 intro b l L base hL Mp i L' q h hq;refine aM ?_;simp only [cT];refine oj hq (λ _ hx=>ih.p b l L base hL Mp i L' _ h hx) ?_ ?_
 ·
  rintro e z1 j l' he h3 rfl;refine d5 (bB Kc ?_);rintro _ ⟨z,rfl,j,l',hz1,hz2⟩;exact ⟨he,j,l',hz1,hz2⟩
 intro c l1 j hx h3 hq;refine d5 (bB (bh (ih.pl b _ _ (_,.mk L (j:Int) L' base dOk) rfl L base hL Mp j L' q h3 hq)) ?_);exact wm
theorem QK {f:Nat}(ih:Fol f):∀ b l,Fl cy b l (unS (f+1) b l):=by
 intro b l L base hL Mp i L' q h hq;rw [unS] at hq;refine aM ?_;simp only [cy];by_cases hs:sgB b l [33]=true
 ·
  rw [if_pos hs] at hq;refine ao (λ t=>∃ j:Nat,t=(1,L,(j:Int),L',base,0,0,[])/\Pos L base j L' b l) ?_ ?_
  ·
   refine d6 tJ λ j h3=>?_;exact aj hs ri
  ·
   rintro _ ⟨j,rfl,h3⟩;refine ae (show ¬ (1:Int)=0 by decide) ?_;refine d6 (dN hL Mp h3 (sg6 hs)) λ j ⟨h3,h4,h5⟩=>?_;refine oj hq (λ _ hx=>ih.u b _ L base hL Mp j L' _ h3 hx) ?_ ?_
   ·exact EE
   intro c l1 j hx h3 hq;exact rh
 rw [if_neg hs] at hq;by_cases hs2:sgB b l [45]=true
 ·
  rw [if_pos hs2] at hq;refine ao (λ t=>∃ j:Nat,t=(2,L,(j:Int),L',base,0,0,[])/\Pos L base j L' b l) ?_ ?_
  ·
   refine d6 tJ λ j h3=>?_;refine ae hs ?_;refine d6 md λ j h3=>?_;exact aj hs2 ri
  ·
   rintro _ ⟨j,rfl,h3⟩;refine ae (show ¬ (2:Int)=0 by decide) ?_;refine d6 (dN hL Mp h3 (sg6 hs2)) λ j ⟨h3,h4,h5⟩=>?_;refine oj hq (λ _ hx=>ih.u b _ L base hL Mp j L' _ h3 hx) ?_ ?_
   ·exact EE
   intro c l1 j hx h3 hq;exact rh
 rw [if_neg hs2] at hq;refine ao (λ t=>∃ j:Nat,t=(0,L,(j:Int),L',base,0,0,[])/\Pos L base j L' b l) ?_ ?_
 ·
  refine d6 tJ λ j h3=>?_;refine ae hs ?_;refine d6 md λ j h3=>?_;exact ae hs2 ri
 ·
  rintro _ ⟨j,rfl,h3⟩;refine aj rfl ?_;refine ao _ (J4 ih b l L base hL Mp j L' _ h3 hq) ?_;exact mT
theorem P0 {f:Nat}(ih:Fol f):∀ b l (x:aa) (r1:aa×af),x.fAt=r1.1.fAt->∀ (L:List ad) (base:Int),Gd (L.map (mvT base))->L.length<=1000000000->∀ (i:Nat) (L':Int) (q:PE⊕(aa×List ad)),Pos L base i L' b l->lH (f+1) b x l=some q ->
  Ev2 (λ n m=>br n (ax n) r1 m x.Ar x.fOp x.A' x.B' x.By.Ar x.By.F' x.By.If x.By.Gw x.By.Df x.AI L (i:Int) L' base 0 0 []) (λ s=>∃ z,s=.inr z/\Out L base L' b q z):=by
 intro b l x r1 Sd L base hL Mp i L' q h hq;have hn:=h.2.1;have hb:=h.2.2.2.1;rw [lH] at hq;refine aA ?_;simp only [br];have eta:aa.mk x.Ar x.fOp x.A' x.B' (ag.mk x.By.Ar x.By.F' x.By.If x.By.Gw x.By.Df) x.AI r1.1.fAt=x:=by rw [<- Sd]; exact M4 x
 rw [eta];refine d5 ?_;refine d6 tJ λ j h3=>?_;by_cases hs:sgB b l [46]=true
 ·
  rw [if_pos hs] at hq;refine aj hs ?_;refine d6 (dN hL Mp h3 (sg6 hs)) λ j ⟨h3,h4,h5⟩=>?_;refine d6 (fH hL Mp h3) λ j ⟨h3,h4,h5⟩=>?_;by_cases hk:(hd b (tl b l)).Ar=1
  ·
   rw [if_pos hk] at hq;refine aj hk ?_;refine d6 (dN hL Mp h3 O) λ j ⟨h3,h4,h5⟩=>?_;exact ab (ih.pl b _ (aa.mk 4 0 (hd b (tl b l)).C' [] v0 [x] x.fAt) r1 Sd L base hL Mp j L' q h3 hq)
  ·
   rw [if_neg hk] at hq; cases hq;refine ae hk (ai _ xw (ab ⟨_,rfl,(by decide:(2:Int)≠0),j,_,rfl,h3⟩))
 rw [if_neg hs] at hq;refine ae hs ?_;refine d6 md λ j h3=>?_;by_cases hs2:sgB b l [91]=true
 ·
  rw [if_pos hs2] at hq;refine aj hs2 ?_;refine ao _ (oJ hL Mp h3 (sg6 hs2)) ?_;rintro _ ⟨j,rfl,h3⟩;refine oj hq (λ _ hx=>ih.e true _ L base hL Mp j (L'+1) _ h3 hx) ?_ ?_
  ·
   rintro e z1 j l' he h3 rfl;refine ao _ Ax ?_;rintro _ ⟨j,l',rfl,h3⟩;exact Gc
  intro y l1 j hx h3 hq;refine rX hq (λ _ hx=>kZ hL Mp _ hn hb h3 hx) ?_ ?_
  ·
   rintro e j l' he h3 rfl;exact Gc
  intro l2 j hx h3 h4 hq;exact ab (ih.pl b _ (aa.mk 5 0 [] [] v0 [x,_] x.fAt) r1 Sd L base hL Mp j L' q h3 hq)
 ·
  rw [if_neg hs2] at hq; cases hq;exact ae hs2 (ab ⟨_,rfl,rfl,j,rfl,h3⟩)
theorem Pos.gl {L:List ad}{base:Int}(hL:Gd (L.map (mvT base)))(Mp:L.length<=1000000000){i:Nat}{L':Int}{b:Bool}{l:List ad}(h:Pos L base i L' b l)(hk:(hd b l).Ar≠6):Gl (tl b l):=by
 refine ⟨B7 (h.gd hL) hk,?_⟩;have h1:=congrArg List.length (sw (h.gd hL));have h2:=congrArg List.length h.2.2.2.2;have h3:=A9 b ((L.drop i).map (mvT base));rw [List.length_map,n6] at h3;rw [aq] at h1;omega
theorem BZ {b:Bool}{s:Bytes}{l:List ad}{e:PE}(h:d4 b s l=some (.inl e)):e.1≠0:=by
 unfold d4 at h;split at h
 ·cases h
 ·cases h; exact (show (2:Int)≠0 by decide)
def LP (L:List ad)(base L':Int)(en:Bytes)(q:PE⊕(List aa×List ad))(r:List aa×af):Prop:=match q with
 | .inl e=>e.1≠0/\∃ (j:Nat) (l':List ad),(r.2=.mk L (j:Int) L' base (eD e)/\Pos L base j L' true l')\/(r.2=.mk L (j:Int) L' base dOk/\Pos L base j L' true l'/\d4 true en l'=some (.inl e))
 | .inr (ks,l')=>∃ (j:Nat) (l'':List ad),r.1=ks/\r.2=.mk L (j:Int) L' base dOk/\Pos L base j L' true l''/\d4 true en l''=some (.inr ((),l'))
theorem Fb {f:Nat}(ih:Fol f):∀ (en:Bytes) (l:List ad),Gl l->∀ (L:List ad) (base:Int),Gd (L.map (mvT base))->L.length<=1000000000->∀ (i:Nat) (L':Int) (q:PE⊕(List aa×List ad)),Pos L base i L' true l->ji f en l=some q ->
  Ev2 (λ n _=>eP n (.mk L (i:Int) L' base dOk) en) (LP L base L' en q):=by
 intro en l gl L base hL Mp i L' q h hq;refine aM ?_;simp only [eP];refine ao _ (bh (ih.i en l [] gl.1 (by have:=gl.2; simp only [dg]; omega) L base hL Mp i L' q h hq)) ?_;exact I4
theorem BQ {f:Nat}(ih:Fol f):∀ (l:List ad),Gl l->∀ (L:List ad) (base:Int),Gd (L.map (mvT base))->L.length<=1000000000->∀ (i:Nat) (L':Int) (q:PE⊕(List aa×List ad)),Pos L base i L' true l->rJ f l=some q ->
  Ev2 (λ n _=>et n (.mk L (i:Int) L' base dOk)) (LP L base L' [125] q):=by
 intro l gl L base hL Mp i L' q h hq;refine aM ?_;simp only [et];refine ao _ (bh (ih.t l [] gl (by have:=gl.2; simp only [dg]; omega) L base hL Mp i L' q h hq)) ?_;exact I4
theorem Rh {f:Nat}(ih:Fol f):∀ b l,Fl ct b l (jC (f+1) b l):=by
 intro b l L base hL Mp i L' q h hq;have hn:=h.2.1;have hb:=h.2.2.2.1;rw [jC] at hq;refine aM ?_;simp only [ct,aK,qr];refine ae Bool.false_ne_true ?_;refine d6 (fH hL Mp h) λ j ⟨h3,h4,h5⟩=>?_;have tk:=yQ (h3.gd hL);have t1':=tk.1;have t2':=tk.2.1;by_cases k2:(hd b l).Ar=2
 ·
  rw [if_pos k2] at hq;refine aj k2 (ai _ (xZ _ (show (hd b l).C'.length<=1000000000 by omega)) ?_);by_cases hz:(sx (hd b l).C').2=0
  ·
   rw [if_pos hz] at hq; cases hq;refine aj hz ?_;exact BB
  ·
   rw [if_neg hz] at hq; cases hq;exact ae hz (ai _ xw (ab ⟨hz,j,l,rfl,h3⟩))
 rw [if_neg k2] at hq;refine ae k2 ?_;by_cases k3:(hd b l).Ar=3
 ·
  rw [if_pos k3] at hq;refine aj k3 (ao _ (ih.s b l k3 L base hL Mp j L' q h3 hq) ?_);exact mT
 rw [if_neg k3] at hq;refine ae k3 ?_;by_cases k1:(hd b l).Ar=1
 ·
  rw [if_pos k1] at hq;refine aj k1 (ao _ (ih.n b l k1 L base hL Mp j L' q h3 hq) ?_);exact mT
 rw [if_neg k1] at hq;refine ae k1 ?_;by_cases k4:(hd b l).Ar=4
 ·
  have sg:∀ s,sgB b l s=true↔(hd b l).C'=s:=λ s=>by rw [qg]; exact ⟨λ h=>h.2,λ h=>⟨k4,h⟩⟩
  refine aj k4 (ao (Out L base L' b q) (aM ?_) (λ z hz=>ab hz));simp only [fP];refine d6 (fH hL Mp h3) λ j ⟨h3,h4,h5⟩=>?_;by_cases s1:(hd b l).C'=[40]
  ·
   rw [if_pos ((sg _).2 s1)] at hq;refine aj s1 ?_;refine ao _ (oJ hL Mp h3 O) ?_;rintro _ ⟨j,rfl,h3⟩;refine oj hq (λ _ hx=>ih.e true _ L base hL Mp j (L'+1) _ h3 hx) ?_ ?_
   ·exact EE
   intro c l1 j hx h3 hq;refine rX hq (λ _ hx=>kZ hL Mp _ hn hb h3 hx) ?_ ?_
   ·exact EX
   intro l2 j hx h3 h4 hq;exact rh
  rw [if_neg (λ h=>s1 ((sg _).1 h))] at hq;refine ae s1 ?_;by_cases s2:(hd b l).C'=[91]
  ·
   rw [if_pos ((sg _).2 s2)] at hq;refine aj s2 ?_;have gl:=h3.gl hL Mp (by omega:(hd b l).Ar≠6);refine ao _ (oJ hL Mp h3 O) ?_;rintro _ ⟨j,rfl,h3⟩;refine d6 (qD hL Mp _ h3) λ j h3=>?_;by_cases hw:wdB true (tl b l) [102,111,114]=true
   ·
    rw [if_pos hw] at hq;refine aj hw (ao _ (ih.lo (hd b l).fAt 12 (tl b l) hw (by decide) L base hL Mp j L' b q hn hb h3 hq) ?_);exact mT
   ·
    rw [if_neg hw] at hq;refine ae hw ?_;rcases d8 hq with ⟨e,hx,rfl⟩ | ⟨ks,l1,hx,hq⟩
    ·
     refine ao _ wA ?_;rintro ⟨ys,z⟩ ⟨he,j,l',⟨hz,h3⟩ | ⟨hz,h3,hxx⟩⟩
     ·cases hz
      exact wF
     ·exact Aa
    ·
     refine ao _ wA ?_;exact zW
  rw [if_neg (λ h=>s2 ((sg _).1 h))] at hq;refine ae s2 ?_;by_cases s3:(hd b l).C'=[123]
  ·
   rw [if_pos ((sg _).2 s3)] at hq;refine aj s3 ?_;have gl:=h3.gl hL Mp (by omega:(hd b l).Ar≠6);refine ao _ (oJ hL Mp h3 O) ?_;rintro _ ⟨j,rfl,h3⟩;refine d6 (qD hL Mp _ h3) λ j h3=>?_;by_cases hw:wdB true (tl b l) [102,111,114]=true
   ·
    rw [if_pos hw] at hq;refine aj hw (ao _ (ih.lo (hd b l).fAt 13 (tl b l) hw (by decide) L base hL Mp j L' b q hn hb h3 hq) ?_);exact mT
   ·
    rw [if_neg hw] at hq;refine ae hw ?_;rcases d8 hq with ⟨e,hx,rfl⟩ | ⟨ks,l1,hx,hq⟩
    ·
     refine ao _ (BQ ih _ gl L base hL Mp j (L'+1) _ h3 hx) ?_;rintro ⟨ys,z⟩ ⟨he,j,l',⟨hz,h3⟩ | ⟨hz,h3,hxx⟩⟩
     ·cases hz
      exact wF
     ·exact Aa
    ·
     refine ao _ (BQ ih _ gl L base hL Mp j (L'+1) _ h3 hx) ?_;exact zW
  rw [if_neg (λ h=>s3 ((sg _).1 h))] at hq; cases hq;exact ae s3 tv
 ·
  have sn:∀ s,¬ sgB b l s=true:=λ s h=>k4 (qg.1 h).1;rw [if_neg (sn _),if_neg (sn _),if_neg (sn _)] at hq; cases hq;exact ae k4 tv
theorem QX {f:Nat}(ih:Fol f):∀ b l,(hd b l).Ar=1->Fl eR b l (nQ (f+1) b l):=by
 intro b l k1 L base hL Mp i L' q h hq;have hn:=h.2.1;have hb:=h.2.2.2.1;rw [nQ] at hq;refine aM ?_;simp only [eR];refine d6 (fH hL Mp h) λ j ⟨h3,h4,h5⟩=>?_;by_cases s1:(hd b l).C'=[110,117,108,108]
 ·
  rw [if_pos s1] at hq; cases hq;refine aj s1 ?_;exact BB
 rw [if_neg s1] at hq;refine ae s1 ?_;by_cases s2:(hd b l).C'=[116,114,117,101]
 ·
  rw [if_pos s2] at hq; cases hq;refine ai true (aj s2 (ab rfl)) (aj rfl ?_);refine d6 (dN hL Mp h3 O) λ j ⟨h3,h4,h5⟩=>?_;exact ai 1 (aj s2 (ab rfl)) (ai _ pu rr)
 rw [if_neg s2] at hq;by_cases s3:(hd b l).C'=[102,97,108,115,101]
 ·
  rw [if_pos s3] at hq; cases hq;refine ai true (ae s2 (ab (decide_eq_true s3))) (aj rfl ?_);refine d6 (dN hL Mp h3 O) λ j ⟨h3,h4,h5⟩=>?_;exact ai 0 (ae s2 (ab rfl)) (ai _ pu rr)
 rw [if_neg s3] at hq;refine ai false (ae s2 (ab (decide_eq_false s3))) (ae Bool.false_ne_true (ai _ um ?_));by_cases s4:fT (hd b l).C'=true
 ·
  rw [if_pos s4] at hq; cases hq;exact aj s4 tv
 rw [if_neg s4] at hq;refine ae s4 ?_;refine d6 (dN hL Mp h3 O) λ j ⟨h3,h4,h5⟩=>?_;refine d6 md λ j h3=>?_;by_cases s5:sgB b (tl b l) [40]=true
 ·
  rw [if_pos s5] at hq;refine ae (by simp [s5]) ?_;have gl:=h3.gl hL Mp (sg6 s5);refine ao _ (oJ hL Mp h3 (sg6 s5)) ?_;rintro _ ⟨j,rfl,h3⟩;rcases d8 hq with ⟨e,hx,rfl⟩ | ⟨ks,l1,hx,hq⟩
  ·
   refine ao _ wA ?_;rintro ⟨ys,z⟩ ⟨he,j,l',⟨hz,h3⟩ | ⟨hz,h3,hxx⟩⟩
   ·cases hz
    exact wF
   ·exact Aa
  ·
   refine ao _ wA ?_;exact zW
 ·
  rw [if_neg s5] at hq; cases hq;exact aj (by simpa using s5) rr
theorem QJ {f:Nat}(ih:Fol f):∀ (en:Bytes) (l:List ad) (out:List aa),Gd l->out.length+l.length<=1000000000->∀ (L:List ad) (base:Int),Gd (L.map (mvT base))->L.length<=1000000000->∀ (i:Nat) (L':Int) (q:PE⊕(List aa×List ad)),Pos L base i L' true l->ji (f+1) en l=some q ->
  Ev2 (λ n m=>cv n (ax n) en m out L (i:Int) L' base 0 0 []) (Lj L base L' en out q):=by
 intro en l out hg RA L base hL Mp i L' q h hq;have gl:Gl l:=⟨hg,by omega⟩
 have gt:=gll (b:=true) gl;rw [ji] at hq;refine aA ?_;simp only [cv,aK,qr];refine ao (λ t=>∃ j:Nat,t=(!sgB true l en,L,(j:Int),L',base,0,0,[])/\Pos L base j L' true l) ?_ ?_
 ·
  exact FE
 rintro _ ⟨j,rfl,h3⟩;by_cases hs:sgB true l en=true
 ·
  exact Ie
 rw [if_neg hs] at hq;refine aj (by simpa using hs) ?_;refine oj hq (λ _ hx=>ih.e true l L base hL Mp j L' _ h3 hx) ?_ ?_
 ·
  rintro e z1 j l' he h3 rfl;exact xy
 intro x l1 j hx h3 hq;have f1:=(fct f).e true l gl _ hx;refine ah gB ?_;refine d6 md λ j h3=>?_;by_cases hc:sgB true l1 [44]=true
 ·
  rw [if_pos hc] at hq;refine ae (by simp [hc]) ?_;have b1:=f1.2.1.length_le;have b2:=gll (b:=true) f1.2.2;have g2:=glt f1.2.2 hc;refine d6 (dN hL Mp h3 (sg6 hc)) λ j ⟨h3,h4,h5⟩=>?_;rcases d8 hq with ⟨e,hy,rfl⟩ | ⟨ks,l2,hy,hq⟩
  ·
   exact bB (ih.i en _ (out++[_]) g2.1 bY L base hL Mp j L' _ h3 hy) (λ r hr=>hr)
  ·
   cases hq
   refine bB (ih.i en _ (out++[_]) g2.1 bY L base hL Mp j L' _ h3 hy) ?_;rintro r ⟨j,l'',rfl,h3,hn⟩;exact ⟨j,l'',by rw [ph]; rfl,h3,hn⟩
 ·
  rw [if_neg hc] at hq;refine aj (by simpa using hc) ?_;rcases d8 hq with ⟨e,hy,rfl⟩ | ⟨u,l2,hy,hq⟩
  ·exact ab ⟨BZ hy,j,l1,.inr ⟨Z,h3,hy⟩⟩
  ·cases hq
   exact ab ⟨j,l1,Z,h3,hy⟩
theorem QI {f:Nat}(ih:Fol f):∀ (l:List ad) (out:List aa),Gl l->out.length+2*l.length<=3000000000->∀ (L:List ad) (base:Int),Gd (L.map (mvT base))->L.length<=1000000000->∀ (i:Nat) (L':Int) (q:PE⊕(List aa×List ad)),Pos L base i L' true l->rJ (f+1) l=some q ->
  Ev2 (λ n m=>bQ n (ax n) (cI n) m out L (i:Int) L' base 0 0 []) (Lj L base L' [125] out q):=by
 intro l out gl RA L base hL Mp i L' q h hq;have hgn:=sw (h.gd hL);rw [rJ] at hq;refine aA ?_;simp only [bQ,aK,qr];refine ao (λ t=>∃ j:Nat,t=(!sgB true l [125],L,(j:Int),L',base,0,0,[])/\Pos L base j L' true l) ?_ ?_
 ·
  exact FE
 rintro _ ⟨j,rfl,h3⟩;by_cases hs:sgB true l [125]=true
 ·
  exact Ie
 rw [if_neg hs] at hq;refine aj (by simpa using hs) ?_;refine oj hq (λ _ hx=>ih.k l L base hL Mp j L' _ h3 hx) ?_ ?_
 ·
  rintro e z1 j l' he h3 rfl;refine ah gB ?_;refine ao _ pB ?_;rintro _ ⟨j,l',rfl,h3⟩;refine ao _ jU ?_;rintro ⟨z1,z2⟩ ⟨j,l',h2,h3⟩
  cases h2
  exact xy
 intro x l1 j hx h3 hq;refine ah gB ?_;refine rX hq (λ _ hy=>nb hL Mp _ h3 hy) ?_ ?_
 ·
  rintro e j l' he h3 rfl;refine ao _ jU ?_;rintro ⟨z1,z2⟩ ⟨j,l',h2,h3⟩
  cases h2
  exact xy
 intro l2 j hy h3 h4 hq;refine oj hq (λ _ hv=>ih.e true l2 L base hL Mp j L' _ h3 hv) ?_ ?_
 ·
  rintro e z1 j l' he h3 rfl;exact xy
 intro y l3 j hv h3 hq;refine ah gB ?_;refine d6 md λ j h3=>?_;by_cases hc:sgB true l3 [44]=true
 ·
  rw [if_pos hc] at hq;refine ae (by simp [hc]) ?_;have gt:=gll (b:=true) gl;have f1:=(fct f).k l gl _ hx;have f2:=jv (b:=true) (s:=[61]) f1.2.2 _ hy;have f3:=(fct f).e true l2 f2.2.2 _ hv;have b1:=f1.2.1.length_le;have b2:=(f2.2.1.trans (tlS true l1)).length_le;have b3:=(f3.2.1.trans (tlS true l2)).length_le;have b4:=gll (b:=true) f3.2.2;have g2:=glt f3.2.2 hc;refine d6 (dN hL Mp h3 (sg6 hc)) λ j ⟨h3,h4,h5⟩=>?_;rcases d8 hq with ⟨e,hr,rfl⟩ | ⟨ks,l4,hr,hq⟩
  ·
   exact bB (ih.t _ ((out++[_])++[_]) g2 bY L base hL Mp j L' _ h3 hr) (λ r hr=>hr)
  ·
   cases hq
   refine bB (ih.t _ ((out++[_])++[_]) g2 bY L base hL Mp j L' _ h3 hr) ?_;rintro r ⟨j,l'',rfl,h3,hn⟩;exact ⟨j,l'',by rw [ph,ph]; rfl,h3,hn⟩
 ·
  rw [if_neg hc] at hq;refine aj (by simpa using hc) ?_;rcases d8 hq with ⟨e,hr,rfl⟩ | ⟨u,l4,hr,hq⟩
  ·exact ab ⟨BZ hr,j,l3,.inr ⟨Z,h3,hr⟩⟩
  ·cases hq
   exact ab ⟨j,l3,by rw [ph]; rfl,h3,hr⟩
theorem Q8 {f:Nat}(ih:Fol f):∀ l,Fl cI true l (nG (f+1) l):=by
 intro l L base hL Mp i L' q h hq;have hn:=h.2.1;have hb:=h.2.2.2.1;rw [nG] at hq;refine aM ?_;simp only [cI];refine d6 (fH hL Mp h) λ j ⟨h3,h4,h5⟩=>?_;by_cases k1:(hd true l).Ar=1
 ·
  rw [if_pos k1] at hq; cases hq;refine aj k1 ?_;exact BB
 rw [if_neg k1] at hq;refine ae k1 ?_;by_cases k3:(hd true l).Ar=3
 ·
  rw [if_pos k3] at hq;refine aj k3 (ao _ (ih.s true l k3 L base hL Mp j L' q h3 hq) ?_);exact mT
 rw [if_neg k3] at hq;refine ae k3 ?_;refine d6 md λ j h3=>?_;by_cases s1:sgB true l [40]=true
 ·
  rw [if_pos s1] at hq;refine aj s1 ?_;refine ao _ (oJ hL Mp h3 (sg6 s1)) ?_;rintro _ ⟨j,rfl,h3⟩;refine oj hq (λ _ hx=>ih.e true _ L base hL Mp j (L'+1) _ h3 hx) ?_ ?_
  ·exact EE
  intro c l1 j hx h3 hq;refine rX hq (λ _ hx=>kZ hL Mp _ hn hb h3 hx) ?_ ?_
  ·exact EX
  intro l2 j hx h3 h4 hq;exact rh
 ·
  rw [if_neg s1] at hq; cases hq;exact ae s1 tv
theorem OY {f:Nat}(ih:Fol f):∀ (a k:Int) l,wdB true l [102,111,114]=true->k=12\/k=13->FlC (λ n p=>dU n p a k) l (nz (f+1) a k (tl true l)):=by
 intro a k l hw hk L base hL Mp i L' b q hn hb h hq;rw [nz] at hq;refine aM ?_;simp only [dU];refine d6 (dN hL Mp h (wd6 hw)) λ j ⟨h3,h4,h5⟩=>?_;refine oj hq (λ _ hx=>oc hL Mp h3 hx) ?_ ?_
 ·
  rintro e z1 j l' he h3 rfl;refine ao (λ t=>∃ (w1 w2:Bytes) (j:Nat) (l':List ad),t=(w1,w2,L,(j:Int),L'+1,base,e.1,e.2,[])/\Pos L base j (L'+1) true l') ?_ ?_
  ·refine ao _ rP ?_;rintro _ ⟨j,rfl,h3⟩;exact ae Bool.false_ne_true (ab ⟨_,_,j,_,rfl,h3⟩)
  rintro _ ⟨w1,w2,j,l',rfl,h3⟩;refine ao _ wC ?_;rintro _ ⟨j,l',rfl,h3⟩;refine ao _ jU ?_;rintro ⟨z1,z2⟩ ⟨j,l',h2,h3⟩
  cases h2
  refine ah gB ?_;refine ao _ pB ?_;rintro _ ⟨j,l',rfl,h3⟩;refine ao _ jU ?_;rintro ⟨z1,z2⟩ ⟨j,l',h2,h3⟩
  cases h2
  refine ah gB ?_;refine ao (λ t=>∃ (en:Bytes) (ks:List aa) (j:Nat) (l':List ad),t=(en,ks,L,(j:Int),L'+1,base,e.1,e.2,[])/\ks.length<=3/\Pos L base j (L'+1) true l') ?_ ?_
  ·exact qV
  rintro _ ⟨en,ks,j,l',rfl,hks,h3⟩;exact pD
 intro v l1 j hx h3 hq;rcases d8 hq with ⟨e,hy,rfl⟩ | ⟨nk,l2,hy,hq⟩
 ·
  refine ao (λ t=>e.1≠0/\∃ (w1 w2:Bytes) (j:Nat) (l':List ad),t=(w1,w2,L,(j:Int),L'+1,base,e.1,e.2,[])/\Pos L base j (L'+1) true l') ?_ ?_
  ·
   refine d6 md λ j h3=>?_;by_cases hc:sgB true l1 [44]=true
   ·
    rw [if_pos hc] at hy;refine aj hc ?_;refine d6 (dN hL Mp h3 (sg6 hc)) λ j ⟨h3,h4,h5⟩=>?_;rcases d8 hy with ⟨e,hz,hee⟩ | ⟨v2,l3,hz,hee⟩
    ·cases hee
     refine ao _ (oc hL Mp h3 hz) ?_;rintro ⟨z1,z2⟩ ⟨he,j,l',h2,h3⟩
     cases h2
     exact ab ⟨he,_,_,j,l',Z,h3⟩
    ·cases hee
   ·
    rw [if_neg hc] at hy; cases hy
  rintro _ ⟨he,w1,w2,j,l',rfl,h3⟩;refine ao _ wC ?_;rintro _ ⟨j,l',rfl,h3⟩;refine ao _ jU ?_;rintro ⟨z1,z2⟩ ⟨j,l',h2,h3⟩
  cases h2
  refine ah gB ?_;refine ao _ pB ?_;rintro _ ⟨j,l',rfl,h3⟩;refine ao _ jU ?_;rintro ⟨z1,z2⟩ ⟨j,l',h2,h3⟩
  cases h2
  refine ah gB ?_;refine ao (λ t=>∃ (en:Bytes) (ks:List aa) (j:Nat) (l':List ad),t=(en,ks,L,(j:Int),L'+1,base,e.1,e.2,[])/\ks.length<=3/\Pos L base j (L'+1) true l') ?_ ?_
  ·exact qV
  rintro _ ⟨en,ks,j,l',rfl,hks,h3⟩;exact pD
 ·
  refine ao (λ t=>∃ (j:Nat),t=(nk.1,nk.2,L,(j:Int),L'+1,base,0,0,[])/\Pos L base j (L'+1) true l2) ?_ ?_
  ·
   refine d6 md λ j h3=>?_;by_cases hc:sgB true l1 [44]=true
   ·
    rw [if_pos hc] at hy;refine aj hc ?_;refine d6 (dN hL Mp h3 (sg6 hc)) λ j ⟨h3,h4,h5⟩=>?_;rcases d8 hy with ⟨e,hz,hee⟩ | ⟨v2,l3,hz,hee⟩
    ·cases hee
    ·
     refine d6 (oc hL Mp h3 hz) λ j h3=>?_
     cases hee
     exact ab ⟨j,Z,h3⟩
   ·
    rw [if_neg hc] at hy; cases hy;exact ae hc ri
  rintro _ ⟨j,rfl,h3⟩;refine rX hq (λ _ hx=>zO hL Mp _ h3 hx) ?_ ?_
  ·
   rintro e j l' he h3 rfl;refine ao _ jU ?_;rintro ⟨z1,z2⟩ ⟨j,l',h2,h3⟩
   cases h2
   refine ah gB ?_;refine ao _ pB ?_;rintro _ ⟨j,l',rfl,h3⟩;refine ao _ jU ?_;rintro ⟨z1,z2⟩ ⟨j,l',h2,h3⟩
   cases h2
   refine ah gB ?_;refine ao (λ t=>∃ (en:Bytes) (ks:List aa) (j:Nat) (l':List ad),t=(en,ks,L,(j:Int),L'+1,base,e.1,e.2,[])/\ks.length<=3/\Pos L base j (L'+1) true l') ?_ ?_
   ·exact qV
   rintro _ ⟨en,ks,j,l',rfl,hks,h3⟩;exact pD
  intro l3 j hx h3 h4 hq;refine oj hq (λ _ hx=>ih.e true l3 L base hL Mp j (L'+1) _ h3 hx) ?_ ?_
  ·
   rintro e z1 j l' he h3 rfl;refine ah gB ?_;refine ao _ pB ?_;rintro _ ⟨j,l',rfl,h3⟩;refine ao _ jU ?_;rintro ⟨z1,z2⟩ ⟨j,l',h2,h3⟩
   cases h2
   refine ah gB ?_;refine ao (λ t=>∃ (en:Bytes) (ks:List aa) (j:Nat) (l':List ad),t=(en,ks,L,(j:Int),L'+1,base,e.1,e.2,[])/\ks.length<=3/\Pos L base j (L'+1) true l') ?_ ?_
   ·exact qV
   rintro _ ⟨en,ks,j,l',rfl,hks,h3⟩;exact pD
  intro x l4 j hx h3 hq;refine ah gB ?_;refine rX hq (λ _ hx=>nb hL Mp _ h3 hx) ?_ ?_
  ·
   rintro e j l' he h3 rfl;refine ao _ jU ?_;rintro ⟨z1,z2⟩ ⟨j,l',h2,h3⟩
   cases h2
   refine ah gB ?_;refine ao (λ t=>∃ (en:Bytes) (ks:List aa) (j:Nat) (l':List ad),t=(en,ks,L,(j:Int),L'+1,base,e.1,e.2,[])/\ks.length<=3/\Pos L base j (L'+1) true l') ?_ ?_
   ·exact qV
   rintro _ ⟨en,ks,j,l',rfl,hks,h3⟩;exact pD
  intro l5 j hx h3 h4 hq;refine oj hq (λ _ hx=>ih.e true l5 L base hL Mp j (L'+1) _ h3 hx) ?_ ?_
  ·
   rintro e z1 j l' he h3 rfl;refine ah gB ?_;refine ao (λ t=>∃ (en:Bytes) (ks:List aa) (j:Nat) (l':List ad),t=(en,ks,L,(j:Int),L'+1,base,e.1,e.2,[])/\ks.length<=3/\Pos L base j (L'+1) true l') ?_ ?_
   ·exact qV
   rintro _ ⟨en,ks,j,l',rfl,hks,h3⟩;exact pD
  intro c l6 j hx h3 hq;refine ah gB ?_;rcases d8 hq with ⟨e,hy,rfl⟩ | ⟨ks,l7,hy,hq⟩
  ·
   refine ao (λ t=>e.1≠0/\∃ (en:Bytes) (ks:List aa) (j:Nat) (l':List ad),t=(en,ks,L,(j:Int),L'+1,base,e.1,e.2,[])/\ks.length<=3/\Pos L base j (L'+1) true l') ?_ ?_
   ·refine ay (λ hk=>?_) (λ hk=>?_)
    ·
     rw [if_pos hk] at hy;rcases d8 hy with ⟨e,hz,hee⟩ | ⟨u,l8,hz,hy⟩
     ·cases hee
      refine ao _ (nb hL Mp _ h3 hz) ?_;rintro _ ⟨he,j,l',rfl,h3⟩;refine ao _ jU ?_;rintro ⟨z1,z2⟩ ⟨j,l',h2,h3⟩;exact Hx
     ·
      refine ao _ (nb hL Mp _ h3 hz) ?_;rintro _ ⟨j,rfl,h3,h4⟩;rcases d8 hy with ⟨e,hz,hee⟩ | ⟨d,l9,hz,hee⟩
      ·cases hee
       refine ao _ (ih.e true l8 L base hL Mp j (L'+1) _ h3 hz) ?_;rintro ⟨z1,z2⟩ ⟨he,j,l',h2,h3⟩;exact Hx
      ·cases hee
    ·rw [if_neg hk] at hy; cases hy
   rintro _ ⟨he,en,ks,j,l',rfl,hks,h3⟩;exact pD
  ·
   refine ao (λ t=>∃ (j:Nat),t=((if k=13 then [125] else [93]:Bytes),ks,L,(j:Int),L'+1,base,0,0,[])/\ks.length<=3/\Pos L base j (L'+1) true l7) ?_ ?_
   ·refine ay (λ hk=>?_) (λ hk=>?_)
    ·
     rw [if_pos hk] at hy;rcases d8 hy with ⟨e,hz,hee⟩ | ⟨u,l8,hz,hy⟩
     ·cases hee
     ·
      refine ao _ (nb hL Mp _ h3 hz) ?_;rintro _ ⟨j,rfl,h3,h4⟩;rcases d8 hy with ⟨e,hz,hee⟩ | ⟨d,l9,hz,hee⟩
      ·cases hee
      ·
       refine d6 (ih.e true l8 L base hL Mp j (L'+1) _ h3 hz) λ j h3=>?_;refine ah gB ?_
       cases hee
       exact ab ⟨j,by rw [if_pos hk]; rfl,by simp,h3⟩
    ·rw [if_neg hk] at hy; cases hy;exact ab ⟨j,by rw [if_neg hk]; rfl,by simp,h3⟩
   rintro _ ⟨j,rfl,hks,h3⟩;rcases d8 hq with ⟨e,hy,rfl⟩ | ⟨ks2,l8,hy,hq⟩
   ·
    refine ao (λ t=>e.1≠0/\∃ (ks:List aa) (j:Nat) (l':List ad),t=(ks,L,(j:Int),L'+1,base,e.1,e.2,[])/\Pos L base j (L'+1) true l') ?_ ?_
    ·
     refine d6 (qD hL Mp _ h3) λ j h3=>?_;by_cases hc:wdB true l7 [105,102]=true
     ·
      rw [if_pos hc] at hy;refine aj hc ?_;refine d6 (dN hL Mp h3 (wd6 hc)) λ j ⟨h3,h4,h5⟩=>?_;rcases d8 hy with ⟨e,hz,hee⟩ | ⟨d,l9,hz,hee⟩
      ·cases hee
       refine ao _ (ih.e true _ L base hL Mp j (L'+1) _ h3 hz) ?_;rintro ⟨z1,z2⟩ ⟨he,j,l',h2,h3⟩
       cases h2
       refine ah gB ?_;exact ab ⟨he,_,j,l',Z,h3⟩
      ·cases hee
     ·
      rw [if_neg hc] at hy; cases hy
    rintro _ ⟨he,ks,j,l',rfl,h3⟩;exact wF
   ·
    refine ao (λ t=>∃ (j:Nat),t=(ks2,L,(j:Int),L'+1,base,0,0,[])/\Pos L base j (L'+1) true l8) ?_ ?_
    ·
     refine d6 (qD hL Mp _ h3) λ j h3=>?_;by_cases hc:wdB true l7 [105,102]=true
     ·
      rw [if_pos hc] at hy;refine aj hc ?_;refine d6 (dN hL Mp h3 (wd6 hc)) λ j ⟨h3,h4,h5⟩=>?_;rcases d8 hy with ⟨e,hz,hee⟩ | ⟨d,l9,hz,hee⟩
      ·cases hee
      ·
       refine d6 (ih.e true _ L base hL Mp j (L'+1) _ h3 hz) λ j h3=>?_;refine ah gB ?_
       cases hee
       exact ab ⟨j,Z,h3⟩
     ·
      rw [if_neg hc] at hy; cases hy;exact ae hc ri
    rintro _ ⟨j,rfl,h3⟩;refine rX hq (λ _ hx=>kZ hL Mp _ hn hb h3 hx) ?_ ?_
    ·exact EX
    intro l9 j hx h3 h4 hq;exact rh
theorem QV {f:Nat}(ih:Fol f):∀ b l,(hd b l).Ar=3->Fl dV b l (tS (f+1) b l):=by
 intro b l k3 L base hL Mp i L' q h hq;rw [tS] at hq;refine aM ?_;simp only [dV];refine d6 (fH hL Mp h) λ j ⟨h3,h4,h5⟩=>?_;have tk:=yQ (h3.gd hL);have t1':=tk.1;have t2':=tk.2.2.1 k3;refine ah (cH (by show _<=(hd b l).fAt+1; omega) (by show (hd b l).fAt+1<=_; omega)) ?_
 cases ht:mr f (hd b l).C' ((hd b l).fAt+1) with
 | none=>rw [ht] at hq; cases hq
 | some y =>
  rw [ht] at hq;have hf:=(fct f).tm _ _ O O  y ht;refine ai _ (ih.tm (hd b l).C' ((hd b l).fAt+1) y O O  ht) ?_;rcases y with e | e
  ·cases hq
   exact ae hf (ai _ xw (ab ⟨hf,j,l,Z,h3⟩))
  ·cases hq
   refine aj Z ?_;refine d6 (dN hL Mp h3 O) λ j ⟨h3,h4,h5⟩=>?_;exact ab ⟨Z,j,Z,h3⟩
end Go.Ab.R06
end
section
namespace Go.Ab.R06
open Go.Ab Go.Ab.RB Go.Lib
section
variable {p:Prop}
theorem GO (h:p:=by
 exact aj (by decide) (ab (by unfold uB; rw [if_neg (by decide)]; rfl))):p:=h
theorem HN (h:p:=by
 cases y with
 | none =>
  rintro r (rfl | rfl)
  ·exact ab Z
  ·rfl
 | some r'=>rintro r rfl; rfl):p:=h
theorem J8 (h:p:=by
 have hlr:r.length=s.length - (i+1):=by rw [<- g3,n6]
 refine aj O (ab ?_);show Sum.inr ci=Sum.inr _
 congr 1; omega):p:=h
theorem PZ (h:p:=by (try simp only []); omega):p:=h
theorem JB (h:p:=by exact cH (by show _<=(s.length:Int) - (r'.length:Int) - 1+1; omega) (by show (s.length:Int) - (r'.length:Int) - 1+1<=_; omega)):p:=h
theorem GG (h:p:=by exact ah (cH (by (try simp only []); omega) (by (try simp only []); omega)) (ab Z)):p:=h
theorem Bi (h:p:=by exact cH (by show _<=ci+1; omega) (by show ci+1<=_; omega)):p:=h
theorem Ou (h:p:=by exact cH (by (try simp only []); omega) (by (try simp only []); omega)):p:=h
theorem Ae (h:p:=by rw [List.length_take]; omega):p:=h
theorem tR (h:p:=by exact aw (lY _ _) hp):p:=h
theorem BH (h:p:=by exact ae Bool.false_ne_true (ab Z)):p:=h
end
theorem za {s:Bytes}{i:Nat}{b:UInt8}{r:Bytes}(h:s.drop i=b::r):s.getD i 0=b/\i < s.length/\s.drop (i+1)=r:=by
 have hi:i < s.length:=by
  rcases Nat.lt_or_ge i s.length with q | q
  ·exact q
  ·rw [List.drop_eq_nil_of_le q] at h; cases h
 rw [List.drop_eq_getElem_cons hi] at h
 injection h with h1 h2
 refine ⟨?_,hi,h2⟩;rw [<- h1]; simp [hi]
theorem MI {s:Bytes}{i:Nat}(h:s.drop i=[]):s.length<=i:=List.drop_eq_nil_iff.1 h
theorem wa (s:Bytes)(i k:Nat):s.drop (i+k)=(s.drop i).drop k:=by rw [List.drop_drop]
theorem NI {s r:Bytes}(h:r <:+ s):s.drop (s.length - r.length)=r:=(List.suffix_iff_eq_drop.1 h).symm
theorem lY (l p:Bytes):strings_HasPrefix l p=some (hasPrefix l p):=rfl
def CO (s:Bytes)(y:Option Bytes)(r:Unit⊕Int):Prop:=match y with
 | none=>r=.inl ()\/r=.inr (-1)
 | some r'=>r=.inr ((s.length:Int) - (r'.length:Int) - 1)
def PC (s:Bytes):Option Bytes->Int
 | none=>-1
 | some r'=>(s.length:Int) - (r'.length:Int) - 1
theorem BK {s:Bytes}{i:Int}{y:Option Bytes}(h:Ev2 (λ n m=>dd (eJ n) s m i 1) (CO s y)):Ev2 (λ n _=>da n s i) (·=PC s y):=by
 refine aM ?_;simp only [da];refine d5 (bB (bh (f:=λ n m=>dd (eJ n) s m i 1) h) ?_);exact HN
theorem Mv {s:Bytes}{i:Int}{y:Option Bytes}(h:Ev2 (λ n m=>dD (da n) s m i) (CO s y)):Ev2 (λ n _=>eJ n s i) (·=PC s y):=by
 refine aM ?_;simp only [eJ];refine d5 (bB (bh (f:=λ n m=>dD (da n) s m i) h) ?_);exact HN
theorem JQ {s:Bytes}(hs:s.length<=1000000000):∀ (f:Nat),
  (∀ (d i:Nat) (ci di:Int) (y:Option Bytes),ci=i->di=d->1<=d->d+(s.drop i).length<=2000000000->i<=1000000010->ee f d (s.drop i)=some y->Ev2 (λ n m=>dd (eJ n) s m ci di) (CO s y)) /\
  (∀ (i:Nat) (ci:Int) (y:Option Bytes),ci=i->i<=1000000010->fv f (s.drop i)=some y->Ev2 (λ n m=>dD (da n) s m ci) (CO s y))
 | 0=>⟨λ d i ci di y _ _ _ _ _ h=>(by rw [ee] at h; cases h),λ i ci y _ _ h=>(by rw [fv] at h; cases h)⟩
 | f+1=>by
  obtain ⟨i1,i2⟩:=JQ hs f;constructor
  ·intro d i ci di y hci hdi h1 hd hi h;refine aA ?_;simp only [dd]
   cases hl:s.drop i with
   | nil =>
    rw [hl,ee] at h; cases h;have:=MI hl;exact ae O (ab (.inl rfl))
   | cons b r =>
    obtain ⟨g1,g2,g3⟩:=za hl;have hb:byt s ci=(b.toNat:Int):=by rw [hci,eA,g1]
    rw [hl,ee] at h;rw [hl,aq] at hd;refine aj O (ah O ?_);rw [hb];refine d5 ?_;by_cases h123:b.toNat=123
    ·rw [if_pos h123] at h;refine aj O (ah aV (ab (ah Bi ?_)));exact i1 (d+1) (i+1) (ci+1) (di+1) y O O O (by rw [g3]; omega) O (by rw [g3]; exact h)
    rw [if_neg h123] at h;refine ae O ?_;by_cases h125:b.toNat=125
    ·rw [if_pos h125] at h;refine aj O (ah aV ?_);by_cases hd1:d=1
     ·rw [if_pos hd1] at h; cases h;exact J8
     ·rw [if_neg hd1] at h;refine ae O (ab (ah Bi ?_));exact i1 (d - 1) (i+1) (ci+1) (di - 1) y O O O (by rw [g3]; omega) O (by rw [g3]; exact h)
    rw [if_neg h125] at h;refine ae O ?_;by_cases h34:b.toNat=34
    ·rw [if_pos h34] at h;refine aj O (ah aV ?_)
     cases hq:fv f r with
     | none=>rw [hq] at h; cases h
     | some z =>
      rw [hq] at h;refine ai _ (Mv (i2 (i+1) (ci+1) z O O  (by rw [g3]; exact hq))) ?_
      cases z with
      | none=>cases h; exact aj (show (-1:Int) < 0 by decide) (ab (.inr rfl))
      | some r' =>
       have hsf:=(nU f).2 _ _ hq;have OF:=hsf.1.length_le;have hrl:r.length=s.length - (i+1):=by rw [<- g3,n6]
       have hrs:r' <:+ s:=by rw [<- g3] at hsf; exact hsf.1.trans (List.drop_suffix _ _)
       have hsd:=NI hrs;refine ae (by show ¬ (s.length:Int) - (r'.length:Int) - 1 < 0; omega) (ab (ah JB ?_));exact i1 d (s.length - r'.length) _ di y (by show (s.length:Int) - (r'.length:Int) - 1+1=_; omega) hdi h1 (by rw [hsd]; omega) O (by rw [hsd]; exact h)
    ·rw [if_neg h34] at h;refine ae O (ab (ah Bi ?_));exact i1 d (i+1) (ci+1) di y O O O (by rw [g3]; omega) O (by rw [g3]; exact h)
  ·intro i ci y hci hi h;refine aA ?_;simp only [dD]
   cases hl:s.drop i with
   | nil =>
    rw [hl,fv] at h; cases h;have:=MI hl;exact ae O (ab (.inl rfl))
   | cons b r =>
    obtain ⟨g1,g2,g3⟩:=za hl;have hb:byt s ci=(b.toNat:Int):=by rw [hci,eA,g1]
    have hsub:sub s ci (s.length:Int)=b::r:=by rw [jh,hci,Int.toNat_natCast,hl]
    rw [hl,fv] at h;refine aj O ?_;rw [hb,hsub];refine d5 (ah O ?_);by_cases h34:b.toNat=34
    ·rw [if_pos h34] at h; cases h;exact J8
    rw [if_neg h34] at h;refine ae O (ah O ?_);by_cases h92:b.toNat=92
    ·rw [if_pos h92] at h;refine aj O (ah aV (ab (ah aV ?_)));exact i2 (i+1+1) (ci+1+1) y O O  (by rw [wa s (i+1) 1,g3]; exact h)
    rw [if_neg h92] at h;refine ae O (ah O (ai _ (aw (lY _ _) rfl) ?_));by_cases hp3:hasPrefix (b::r) [36,36,123]=true
    ·rw [if_pos hp3] at h;refine aj hp3 (ah aV (ab (ah aV ?_)));exact i2 (i+3) (ci+2+1) y O O  (by rw [wa s i 3,hl]; exact h)
    rw [if_neg hp3] at h;refine ae hp3 (ah O (ai _ (aw (lY _ _) rfl) ?_));by_cases hp2:hasPrefix (b::r) [36,123]=true
    ·rw [if_pos hp2] at h;refine aj hp2 (ah aV ?_)
     cases hq:ee f 1 ((b::r).drop 2) with
     | none=>rw [hq] at h; cases h
     | some z =>
      rw [hq] at h;have e2:s.drop (i+2)=(b::r).drop 2:=by rw [wa s i 2,hl]
      refine ai _ (BK (i1 1 (i+2) (ci+2) 1 z O rfl (by decide) u6 O (by rw [e2]; exact hq))) ?_
      cases z with
      | none=>cases h; exact aj (show (-1:Int) < 0 by decide) (ab (.inr rfl))
      | some r' =>
       have hsf:=(nU f).1 _ _ _ hq;have OF:=hsf.1.length_le;have hrl:((b::r).drop 2).length=s.length - (i+2):=by rw [<- e2,n6]
       have hrs:r' <:+ s:=by rw [<- e2] at hsf; exact hsf.1.trans (List.drop_suffix _ _)
       have hsd:=NI hrs;refine ae (by show ¬ (s.length:Int) - (r'.length:Int) - 1 < 0; omega) (ab (ah JB ?_));exact i2 (s.length - r'.length) _ y (by show (s.length:Int) - (r'.length:Int) - 1+1=_; omega) O (by rw [hsd]; exact h)
    ·rw [if_neg hp2] at h;refine ae hp2 (ab (ah aV ?_));exact i2 (i+1) (ci+1) y O O  (by rw [g3]; exact h)
theorem rW:∀ (k:Nat) (l:Bytes) (a:Nat) (x:Bytes),(bf k l a).2 < l.length->bf k (l.take ((bf k l a).2+1)++x) a=bf k l a
 | 0,l,a,x,_=>by rw [bf,bf]
 | k+1,[],a,x,h=>by simp at h
 | k+1,b::r,a,x,h=>by
  have e:bf (k+1) (b::r) a=match nV b with
   | some d=>((bf k r (16*a+d)).1,(bf k r (16*a+d)).2+1)
   | none=>(a,0):=by rw [bf]; cases nV b <;> rfl
  cases hd:nV b with
  | none =>
   rw [hd] at e;rw [e];show bf (k+1) (b::x) a=_;rw [bf,hd]
  | some d =>
   rw [hd] at e;simp only at e;rw [e] at h ⊢;have ih:=rW k r (16*a+d) x (by simp only [aq] at h; omega);show bf (k+1) (b::(r.take ((bf k r (16*a+d)).2+1)++x)) a=_;rw [bf,hd];simp only [ih]
theorem CR (b:UInt8):strings_IndexByte ([48,49,50,51,52,53,54,55,56,57,97,98,99,100,101,102]:Bytes) (b.toNat:Int)=some (indexByte DG b)/\decide (0<=indexByte DG b)=(nV b).isSome:=by
 constructor
 ·exact I0
 ·rw [vW]
  cases nV b with
  | none=>rfl
  | some d=>simp
theorem KF (s:Bytes)(_hs:s.length<=1000000000):∀ (k i a:Nat),i+k=6->i<=s.length->Ev2 (λ _ m=>bO s m (i:Int)) (·=((i+(bf k (s.drop i) a).2:Nat):Int)):=by
 intro k
 induction k with
 | zero =>
  intro i a hi hl;refine aA ?_;simp only [bO];refine ai false (ay (λ _=>ae O (ab rfl)) (λ _=>ab rfl)) (ae Bool.false_ne_true (ab ?_));rw [bf]; rfl
 | succ k ih =>
  intro i a hi hl;refine aA ?_;simp only [bO]
  cases hd:s.drop i with
  | nil =>
   have:=MI hd;refine ai false nD (ae Bool.false_ne_true (ab ?_));rw [bf]; rfl
  | cons b r =>
   obtain ⟨g1,g2,g3⟩:=za hd;have hb:byt s (i:Int)=(b.toNat:Int):=by rw [eA,g1]
   refine ai (nV b).isSome ?_ ?_
   ·refine aj O (aj O (ah O ?_));rw [hb];exact ai _ (aw (CR b).1 Z) (ab (CR b).2)
   ·rw [bf]
    cases hx:nV b with
    | none=>exact ae Bool.false_ne_true (ab Z)
    | some d =>
     refine aj rfl (ah aV ?_);have:=kg (P:=λ j=>Ev2 (λ _ m=>bO s m j) _) (ih (i+1) (16*a+d) O O);refine bB this ?_;rintro _ rfl;rw [g3]; congr 1; simp only []; omega
theorem KH (s:Bytes)(hs:s.length<=1000000000):Ev2 (λ n _=>fY n s) (·=((bf 6 s 0).2:Int)):=by
 simp only [fY];refine ai _ (bh (f:=λ _ m=>bO s m 0) (KF s hs 6 0 0 rfl (rg _))) (ab ?_);rw [List.drop_zero,Nat.zero_add]
theorem FQ (b:UInt8)(r:Bytes)(h:b.toNat < 128):decodeL (b::r)=(b.toNat,1):=by
 have e:=vC b h;have h2:=xI (b.toNat:Int) (by unfold gx; omega) r;rw [e] at h2;simpa using h2
theorem QR (r:Bytes):(decodeL (92::r)).1=92:=by
 have:=FQ (92:UInt8) r (by decide);rw [this]; rfl
theorem Mu (x:Bytes):((cO (x++[34])).2.2=0->(cO (x++[34])).2.1=(x.length:Int)->(Ge (34::92::(x++[34]))).1=encodeRune (cO (x++[34])).1/\(Ge (34::92::(x++[34]))).2.2=0)/\((cO (x++[34])).2.2≠0->(Ge (34::92::(x++[34]))).2.2≠0):=by
 have h34:(34:UInt8).toNat=34:=rfl;rw [vM,if_pos h34,oL,if_neg (show ¬ (92:UInt8).toNat=34 by decide),if_pos (QR _)];constructor
 ·intro h0 h1;rw [if_pos h0,h1,Int.toNat_natCast,List.drop_left];have hn:(92::(x++[34])).length=(x.length+1)+1:=by simp
  rw [hn,oL,if_pos h34];have hr:=(pV (x++[34])).2.2.1 h0;have hle:=lU _ hr.1;simp only [ur];rw [if_neg O,if_neg O];exact ⟨rfl,rfl⟩
 ·intro h0;rw [if_neg h0];exact h0
theorem Ly {c:UInt8}(h:c.toNat≠117)(t t':Bytes):cO (c::t)=cO (c::t')/\((cO (c::t)).2.2=0->(cO (c::t)).2.1=1)/\((cO (c::t)).2.2≠0->(cO (c::t)).2.2=2):=by
 have e:∀ t:Bytes,cO (c::t)=if c.toNat=110 then (10,1,0) else if c.toNat=114 then (13,1,0) else if c.toNat=116 then (9,1,0) else if c.toNat=34\/c.toNat=92 then ((c.toNat:Int),1,0) else (0,0,2):=λ t=>by
  rw [mJ];simp only [if_neg h]
 rw [e t,e t'];refine ⟨rfl,?_⟩;by_cases h1:c.toNat=110
 ·rw [if_pos h1]; simp
 rw [if_neg h1];by_cases h2:c.toNat=114
 ·rw [if_pos h2]; simp
 rw [if_neg h2];by_cases h3:c.toNat=116
 ·rw [if_pos h3]; simp
 rw [if_neg h3];by_cases h4:c.toNat=34\/c.toNat=92
 ·rw [if_pos h4]; simp
 rw [if_neg h4]; simp
theorem Cn (d:UInt8)(u:Bytes):cO (117::d::u)=if d.toNat=123 then ((fm u).1,(fm u).2.1+2,(fm u).2.2) else (0,0,2):=by
 rw [mJ]; rfl
theorem Dx (u:Bytes)(h:(bf 6 u 0).2 < u.length):fm (u.take ((bf 6 u 0).2+1)++[34])=fm u/\((fm u).2.2=0->(fm u).2.1=(((bf 6 u 0).2+1:Nat):Int))/\((fm u).2.2≠0->(fm u).2.2=2):=by
 have e:=rW 6 u 0 [34] h;unfold fm;rw [e];generalize bf 6 u 0=H at h ⊢;obtain ⟨v,c⟩:=H;simp only at h ⊢
 have l1:¬ c=(u.take (c+1)++[34]).length:=by
  rw [bt,List.length_take,List.length_singleton]; omega
 have g1:∀ k,k<=c->(u.take (c+1)++[34]).getD k 0=u.getD k 0:=by
  intro k hk;rw [List.getD_eq_getElem?_getD,List.getD_eq_getElem?_getD,List.getElem?_append_left Ae,List.getElem?_take_of_lt O]
 rw [if_neg l1,if_neg (show ¬ c=u.length by omega),g1 c (mv _),g1 0 (rg _)];refine ⟨rfl,?_⟩;split
 ·simp
 ·simp
def uB (r:Bytes):Bytes×Int×Int:=if (cO r).2.2=0 then (encodeRune (cO r).1,(cO r).2.1+1,0) else ([],0,(cO r).2.2)
theorem Cy {s x:Bytes}{k:Int}(_hs:s.length<=1000000000)(hxs:x.length<=100)(hk:k=((x.length+1:Nat):Int))(hx:s.take (x.length+1)=92::x){q:Bytes×Int×Int}(h0:(cO (x++[34])).2.2=0->(cO (x++[34])).2.1=(x.length:Int)/\q=(encodeRune (cO (x++[34])).1,k,0))(h1:(cO (x++[34])).2.2≠0->q=([],0,2)) :
  Ev2 (λ n _=>if (s.length:Int) < k then some (([]:Bytes),(0:Int),(40:Int)) else
   ck ((0:Int)<=0/\0<=k/\k<=(s.length:Int)) <|
   ck (([34]:Bytes).length+(sub s 0 k).length<=9223372036854775807) <|
   ck ((([34]:Bytes)++(sub s 0 k)).length+([34]:Bytes).length<=9223372036854775807) <|
   (fZ n ((([34]:Bytes)++(sub s 0 k))++([34]:Bytes))).bind λ S3 =>
   if S3.2.2=0 then some (S3.1,k,0) else some (([]:Bytes),0,2)) (·=q):=by
 have hl:(92::x).length=x.length+1:=rfl
 have hxl:x.length+1<=s.length:=by
  have:=congrArg List.length hx;rw [List.length_take,hl] at this; omega
 have hsub:sub s 0 k=92::x:=by
  subst hk;show (s.take _).drop 0=_;rw [List.drop_zero,Int.toNat_natCast,hx]
 rw [hsub];refine ae O (ah O (ah pA (ah bY ?_)));have RA:((([34]:Bytes)++(92::x))++([34]:Bytes)).length<=1000000000:=by simp only [bt,aq,dg]; omega
 refine ai _ (P2 _ RA) ?_;have e:(([34]:Bytes)++(92::x))++([34]:Bytes)=34::92::(x++[34]):=rfl;rw [e];obtain ⟨u1,u2⟩:=Mu x;by_cases hz:(cO (x++[34])).2.2=0
 ·obtain ⟨z1,z2⟩:=h0 hz;obtain ⟨w1,w2⟩:=u1 hz z1;exact aj w2 (ab (by rw [w1,z2]))
 ·exact ae (u2 hz) (ab (h1 hz).symm)
theorem MW {r:Bytes}(hs:(92::r:Bytes).length<=1000000000):Ev2 (λ n _=>kx n (92::r)) (·=uB r):=by
 simp only [kx];have hl0:(92::r:Bytes).length=r.length+1:=rfl
 cases r with
 | nil =>
  refine fx 2 (ai false (aw (lY _ _) (by decide)) BH) ?_;exact GO
 | cons c t =>
  by_cases hc:c.toNat=117
  ·have hc':c=117:=(p6 (by decide)).1 hc;subst hc';have hp:hasPrefix (92::117::t) [92,117]=true:=by simp [hasPrefix]
   cases t with
   | nil =>
    refine fx 4 (ai true tR (aj Z (ai false ul (ae Bool.false_ne_true ul)))) ?_;exact GO
   | cons d u =>
    have hl:(92::117::d::u:Bytes).length=u.length+3:=rfl;have hb:byt (92::117::d::u) 2=(d.toNat:Int):=rfl;have e:=Cn d u;by_cases hd:d.toNat=123
    ·rw [if_pos hd] at e;have hd':d=123:=(p6 (by decide)).1 hd
     have h6:Ev2 (λ _ _=>(if (2:Int) < ((92::117::d::u:Bytes).length:Int) then ck ((0:Int)<=2/\(2:Int) < ((92::117::d::u:Bytes).length:Int)) <| some (!decide (byt (92::117::d::u) 2=123)) else some false:Option Bool)) (·=false):=by
      refine aj O (ah O (ab ?_));rw [hb,hd]; rfl
     cases u with
     | nil =>
      refine fx 4 (ai true tR (aj Z (ai false h6 (ae Bool.false_ne_true pJ)))) ?_;refine aj G (ab ?_);have hx:(fm []).2.2=40:=by decide
      unfold uB;rw [e];show _=if (fm []).2.2=0 then _ else ([],0,(fm []).2.2);rw [hx]; rfl
     | cons v w =>
      have hlv:(v::w).length=w.length+1:=rfl;have hsub:sub (92::117::d::v::w) 3 ((92::117::d::v::w:Bytes).length:Int)=v::w:=by rw [jh]; rfl
      have hrun:=oB 6 (v::w) 0;refine fx (4+((bf 6 (v::w) 0).2:Int)) (ai true tR (aj Z (ai false h6 (ae Bool.false_ne_true (aj O (ah O ?_)))))) ?_
      ·rw [hsub];exact ai _ (KH _ O) uC
      by_cases hc:(bf 6 (v::w) 0).2=(v::w).length
      ·refine aj O (ab ?_);have hx:(fm (v::w)).2.2=40:=by unfold fm; simp only [hc,if_true]
       unfold uB;rw [e];show _=if (fm (v::w)).2.2=0 then _ else ([],0,(fm (v::w)).2.2);rw [hx]; rfl
      ·obtain ⟨x1,x2,x3⟩:=Dx (v::w) O;have hlt:((v::w).take ((bf 6 (v::w) 0).2+1)).length=(bf 6 (v::w) 0).2+1:=by rw [List.length_take]; omega
       have ex:cO ((117::d::(v::w).take ((bf 6 (v::w) 0).2+1))++[34])=cO (117::d::v::w):=by
        show cO (117::d::((v::w).take ((bf 6 (v::w) 0).2+1)++[34]))=_;rw [Cn,if_pos hd,x1,e]
       refine Cy (x:=117::d::(v::w).take ((bf 6 (v::w) 0).2+1)) hs (by simp only [aq,hlt]; omega) (by simp only [aq,hlt]; omega) ?_ ?_ ?_
       ·simp only [aq,hlt]; rfl
       ·rw [ex];intro hz;have hz':(fm (v::w)).2.2=0:=by rw [e] at hz; exact hz
        refine ⟨?_,?_⟩
        ·rw [e]; show (fm (v::w)).2.1+2=_; rw [x2 hz']; simp only [aq,hlt]; omega
        ·unfold uB; rw [if_pos hz];refine Prod.ext Z (Prod.ext ?_ Z);rw [e]; show (fm (v::w)).2.1+2+1=4+((bf 6 (v::w) 0).2:Int); rw [x2 hz']; omega
       ·rw [ex];intro hz;have hz':(fm (v::w)).2.2≠0:=by rw [e] at hz; exact hz
        unfold uB; rw [if_neg hz];rw [e]; show ([],0,(fm (v::w)).2.2)=_; rw [x3 hz']
    ·rw [if_neg hd] at e;refine jR ([],0,2) (ai true tR (aj rfl (ai true (aj O (ah O (ab ?_))) (aj rfl (ab rfl))))) ?_
     ·rw [hb]; simp; omega
     ·unfold uB; rw [e]; rfl
  ·have hp:hasPrefix (92::c::t) [92,117]=false:=by
    have:¬ c=117:=λ h=>hc (by rw [h]; rfl);unfold hasPrefix;simp only [List.isPrefixOf,beq_self_eq_true,Bool.true_and];rw [beq_eq_false_iff_ne.2 (λ h=>this h.symm)]; rfl
   obtain ⟨o1,o2,o3⟩:=Ly hc t [34];refine fx 2 (ai false tR BH) ?_;refine Cy (x:=[c]) hs G rfl rfl ?_ ?_
   ·intro hz;have hz:(cO (c::[34])).2.2=0:=hz;rw [<- o1] at hz;refine ⟨?_,?_⟩
    ·show (cO (c::[34])).2.1=_; rw [<- o1,o2 hz]; rfl
    ·unfold uB; rw [if_pos hz,o2 hz];show _=(encodeRune (cO (c::[34])).1,_,_);rw [<- o1]; rfl
   ·intro hz;have hz:(cO (c::[34])).2.2≠0:=hz;rw [<- o1] at hz;unfold uB; rw [if_neg hz,o3 hz]
theorem Ir (s:Bytes)(a i fr:Int)(text:Bytes)(parts:List aa)(R3:Bool)(h:inR (a+fr)):dh (.mk s a i fr text parts R3)=some (if 4096 < text.length then ap.mk 3 (a+fr) [] else dOk,.mk s a i fr text parts R3):=by
 unfold dh;by_cases hl:4096 < text.length
 ·rw [if_pos (by show (4096:Int) < (text.length:Int); omega),if_pos hl];exact bF h
 ·rw [if_neg (by show ¬ (4096:Int) < (text.length:Int); omega),if_neg hl]; rfl
def ItO (s:Bytes)(a i fr:Int)(text:Bytes)(parts:List aa)(R3:Bool)(q:Int⊕(Bytes×Nat))(r:ap×am):Prop:=match q with
 | .inl k=>r.1=ap.mk k (a+i) []
 | .inr (t,n)=>if 4096 < text.length+t.length then r.1=ap.mk 3 (a+fr) [] else r=(dOk,.mk s a (i+n) fr (text++t) parts R3)
theorem Pr {s:Bytes}(hs:s.length<=1000000000){a fr:Int}{i:Nat}(ha:0<=a)(ha2:a<=1000000000)(hf:0<=fr)(hf2:fr<=1000000000)(text:Bytes)(ht:text.length<=4096)(parts:List aa)(R3:Bool){b:UInt8}{r:Bytes}(hl:s.drop i=b::r) :
  Ev2 (λ n _=>fj n (.mk s a (i:Int) fr text parts R3)) (ItO s a i fr text parts R3 (jm (b::r))):=by
 obtain ⟨g1,g2,g3⟩:=za hl;have hsub:sub s (i:Int) (s.length:Int)=b::r:=by rw [jh,Int.toNat_natCast,hl]
 have Mp:(b::r).length=s.length - i:=by rw [<- hl,n6]
 have hb0:byt (b::r) 0=(b.toNat:Int):=rfl;have hlc:(b::r).length=r.length+1:=rfl
 have fin:∀ (t:Bytes) (n:Nat),jm (b::r)=.inr (t,n)->n<=1000000000->t.length<=1000000000->Ev2 (λ _ _=>(dh (am.mk s a ((i:Int)+(n:Int)) fr (text++t) parts R3)).bind λ SL=>some (SL.1,(am.mk SL.2.fs SL.2.fat SL.2.fi SL.2.D' SL.2.E' SL.2.BY SL.2.IN))) (ItO s a i fr text parts R3 (jm (b::r))):=by
  intro t n hi _ _;refine ai _ (aw (Ir s a _ fr _ parts R3 aV) rfl) (ab ?_);rw [hi];unfold ItO;simp only [bt];by_cases hl:4096 < text.length+t.length
  ·rw [if_pos hl,if_pos hl]
  ·rw [if_neg hl,if_neg hl]
 simp only [fj];rw [hsub];refine ah O ?_;by_cases h92:b.toNat=92
 ·have hb':b=92:=(p6 (by decide)).1 h92;have hle:=pV r;have hi:jm (b::r)=if (cO r).2.2=0 then .inr (encodeRune (cO r).1,(cO r).2.1.toNat+1) else .inl (cO r).2.2:=by rw [jm,if_pos h92]
  subst hb';by_cases hz:(cO r).2.2=0
  ·rw [if_pos hz] at hi;obtain ⟨e1,e2⟩:=hle.2.2.1 hz;have hel:=lU _ e1;refine fx ((i:Int)+(((cO r).2.1.toNat+1:Nat):Int),text++encodeRune (cO r).1) (ah O (aj (by rw [hb0]; rfl) (ai _ (MW O) ?_))) (fin _ _ hi O O);unfold uB; rw [if_pos hz];refine aj rfl (ah PZ (ah Ou (ab ?_)));simp only [];congr 2; omega
  ·rw [if_neg hz] at hi;refine jR (ap.mk (cO r).2.2 (a+(i:Int)) [],am.mk s a (i:Int) fr text parts R3) (ah O (aj (by rw [hb0]; rfl) (ai _ (MW O) ?_))) ?_
   ·unfold uB; rw [if_neg hz];exact ae hz GG
   ·rw [hi]; rfl
 ·have hd:aZ (b::r)=some (((decodeL (b::r)).1:Int),((decodeL (b::r)).2:Int)):=by
   exact AH
  have hdf:=gK (b::r) G
  have hq:(decodeL (b::r)).1=34↔b.toNat=34:=by
   by_cases h128:b.toNat < 128
   ·rw [FQ b r h128]
   ·have:=NA b r O; omega
  have hi:jm (b::r)=if kH (decodeL (b::r))\/b.toNat=34 then .inl 2 else .inr ((b::r).take (decodeL (b::r)).2,(decodeL (b::r)).2):=by rw [jm,if_neg h92]
  have hsb:∀ w:Nat,sub (b::r) 0 (w:Int)=(b::r).take w:=λ w=>by show ((b::r).take _).drop 0=_; rw [List.drop_zero,Int.toNat_natCast]
  generalize decodeL (b::r)=D at hd hdf hq hi;obtain ⟨c,w⟩:=D;simp only at hd hdf hq
  have hbad:Ev2 (λ _ _=>(if (c:Int)=65533 then if (w:Int)=1 then some true else if (c:Int) < 32 then some true else if (c:Int)=127 then some true else some (decide ((c:Int)=34)) else if (c:Int) < 32 then some true else if (c:Int)=127 then some true else some (decide ((c:Int)=34)):Option Bool)) (·=decide (kH (c,w)\/b.toNat=34)):=by
   have mk:∀ x:Bool,(x=true↔(((c=65533/\w=1)\/c < 32\/c=127)\/c=34))->x=decide (kH (c,w)\/b.toNat=34):=by
    intro x hx;refine eqB ?_;rw [hx,decide_eq_true_eq,<- hq]
    rfl
   refine ay (λ h1=>ay (λ h2=>ab (mk _ ?_)) (λ h2=>ay (λ h3=>ab (mk _ ?_)) (λ h3=>ay (λ h4=>ab (mk _ ?_)) (λ h4=>ab (mk _ ?_))))) (λ h1=>ay (λ h3=>ab (mk _ ?_)) (λ h3=>ay (λ h4=>ab (mk _ ?_)) (λ h4=>ab (mk _ ?_))))
   all_goals (try rw [decide_eq_true_eq])
   all_goals (try simp only [true_iff])
   all_goals omega
  by_cases hx:kH (c,w)\/b.toNat=34
  ·rw [if_pos hx] at hi;refine jR (ap.mk 2 (a+(i:Int)) [],am.mk s a (i:Int) fr text parts R3) (ah O (ae (by rw [hb0]; omega) (ai _ (aw hd rfl) (ai _ hbad (aj (decide_eq_true hx) GG))))) ?_;rw [hi]; rfl
  ·rw [if_neg hx] at hi;have hw2:=hdf.2.1;refine fx ((i:Int)+(w:Int),text++(b::r).take w) (ah O (ae (by rw [hb0]; omega) (ai _ (aw hd rfl) (ai _ hbad (ae (by simpa using hx) ?_))))) (fin _ _ hi O Ae);simp only [hsb];exact ah O (ah Ae uC)
end Go.Ab.R06
end
section
namespace Go.Ab.R06
open Go.Ab Go.Ab.RB Go.Lib
section
variable {p:Prop}
theorem HD (h:p:=by
 exact ai true (aw (lY _ _) hp3) (aj Z (ah (by simp only [aq,dg]; omega) (ah (cH O O) (ai _ (aw hlong Z) (ab Z)))))):p:=h
theorem Bg (h:p:=by
 exact ai _ (IY hz) (ab Z)):p:=h
theorem Hk (h:p:=by exact cH (by show _<=a+(i:Int); omega) (by show a+(i:Int)<=_; omega)):p:=h
theorem qN (h:p:=by exact aw (lY _ _) (by simpa using hp3)):p:=h
theorem Ah (h:p:=by exact aw (lY _ _) (by simpa using hp2)):p:=h
theorem A6 (h:p:=by exact cH (by show _<=(i:Int)+2; omega) (by show (i:Int)+2<=_; omega)):p:=h
theorem G5 (h:p:=by exact bh (f:=λ n m=>bM n (aI n) m s a 0 0 [] [] false) hread):p:=h
end
theorem De {src:Bytes->SE⊕Bytes}{l:Bytes}(hs:∀ r e n,r.length<=l.length->src r=.inl e->e.2=some n->n<=l.length){e:SE}{n:Nat}(h:iE src l=.inl e)(hn:e.2=some n):n<=l.length:=by
 cases l with
 | nil=>cases h; cases hn; exact rg _
 | cons b r =>
  rw [fz] at h;split at h
  ·split at h
   ·cases h; cases hn; exact mv _
   ·cases h
  split at h
  ·cases h
  split at h
  ·cases h
  split at h
  ·split at h
   ·rename_i e' he
    cases h
    exact hs r e n (Nat.le_succ _) he hn
   ·cases h
  split at h
  ·cases h; cases hn; exact mv _
  ·cases h
theorem Hr:∀ (f k:Nat),(∀ l e n,eg f k l=.inl e->e.2=some n->n<=l.length)/\(∀ d l e n,iH f k d l=.inl e->e.2=some n->n<=l.length)
 | 0,k=>⟨λ l e n h hn=>(by rw [eg] at h; cases h; cases hn),λ d l e n h hn=>(by rw [iH] at h; cases h; cases hn)⟩
 | f+1,k=>by
  have ih:=Hr f;constructor
  ·intro l e n h hn
   cases l with
   | nil=>rw [eg] at h; cases h; cases hn
   | cons b r =>
    rw [jH] at h;split at h
    ·cases h
    split at h
    ·have:=(ih k).1 _ e n h hn;rw [n6] at this; omega
    split at h
    ·split at h
     ·cases h; cases hn; exact mv _
     ·split at h
      ·rename_i e' he
       cases h
       have:=(ih (k+1)).2 _ _ e n he hn;rw [n6] at this; omega
      ·rename_i l' he;have h1:=((fO f (k+1)).2 _ _ _ he).2;have:=(ih k).1 _ e n h hn;rw [n6] at h1; omega
    ·have hX:(if b.toNat=92 then r else b::r).length<=(b::r).length:=by split <;> simp
     generalize (if b.toNat=92 then r else b::r)=X at h hX
     cases X with
     | nil=>cases h; cases hn
     | cons c t =>
      simp only at h;split at h
      ·cases h; cases hn; exact hX
      ·have:=(ih k).1 _ e n h hn;rw [n6] at this; omega
  ·intro d l e n h hn;rw [jM] at h;have hk:=tV false l
   cases hsk:dz false l with
   | nil=>rw [hsk,Jy] at h; cases h; cases hn
   | cons b r =>
    rw [hsk] at hk;rw [hsk,iq] at h
    cases ht:iE (eg f k) (b::r) with
    | inl e' =>
     rw [ht,uQ] at h; cases h;exact Nat.le_trans (De (λ x y m hx hxy hm=>Nat.le_trans ((ih k).1 x y m hxy hm) hx) ht hn) hk
    | inr z =>
     obtain ⟨c,t,l'⟩:=z;have h1:=(iA (λ x y _ hxy=>(fO f k).1 x y hxy) ht).2;rw [ht,jl] at h;split at h
     ·split at h
      ·cases h
      ·have:=(ih k).2 _ _ e n h hn; omega
     split at h
     ·have:=(ih k).2 _ _ e n h hn; omega
     ·have:=(ih k).2 _ _ e n h hn; omega
theorem yt:∀ (f c:Nat) (l:Bytes) (e:SE) (n:Nat),gQ f c l=.inl e->e.2=some n->n<=l.length
 | 0,c,l,e,n,h,hn=>by rw [gQ] at h; cases h; cases hn
 | f+1,c,l,e,n,h,hn=>by
  rw [iL] at h;have hk:=tV true l
  cases hsk:dz true l with
  | nil =>
   rw [hsk,mx] at h;split at h
   ·cases h; cases hn; exact rg _
   ·cases h
  | cons b r =>
   rw [hsk] at hk;rw [hsk,gw] at h;split at h
   ·cases h; cases hn; exact hk
   split at h
   ·cases h; cases hn; exact hk
   cases ht:iE (eg f 0) (b::r) with
   | inl e' =>
    rw [ht] at h; cases h
    cases he:e'.2 with
    | none=>unfold Mw at hn; rw [he] at hn; cases hn; exact hk
    | some m =>
     unfold Mw at hn; rw [he] at hn; cases hn;exact Nat.le_trans (De (λ x y m hx hxy hm=>Nat.le_trans ((Hr f 0).1 x y m hxy hm) hx) ht he) hk
   | inr z =>
    obtain ⟨k,t,l'⟩:=z;have h1:=(iA (λ x y _ hxy=>(fO f 0).1 x y hxy) ht).2;rw [ht,ig] at h
    cases hs:gQ f (c+1) l' with
    | inl e' =>
     rw [hs] at h; cases h;have:=yt f (c+1) l' e n hs hn;omega
    | inr ts'=>rw [hs] at h; cases h
theorem K6 (s:Bytes):0<=(gu s).2.fAt/\(gu s).2.fAt<=(s.length:Int):=by
 unfold gu;split
 ·exact ⟨Int.le_refl _,by show (0:Int)<=_; omega⟩
 ·cases hs:gQ (s.length+1) 0 s with
  | inr ts=>exact ⟨Int.le_refl _,by show (0:Int)<=_; omega⟩
  | inl e =>
   show 0<=(wL s 0 e).fAt/\(wL s 0 e).fAt<=_;unfold wL
   cases he:e.2 with
   | none=>exact ⟨Int.le_refl _,by show (0:Int)<=_; omega⟩
   | some n =>
    have:=yt _ _ _ e n hs he;exact ⟨by show 0<=(s.length:Int) - (n:Int); omega,by show (s.length:Int) - (n:Int)<=_; omega⟩
theorem QU {f:Nat}(ih:Fol f):∀ (s:Bytes) (a:Int) q,0<=a->a+(s.length:Int)<=1000000000->gi (f+1) s a=some q->Ev2 (λ n _=>gA n s a) (WOut q):=by
 intro s a q h0 h1 hq;rw [gi] at hq;refine aM ?_;simp only [gA];refine ai _ (LD s) ?_;by_cases hk:(gu s).2.Ar=0
 ·rw [if_neg (by simpa using hk)] at hq;refine aj hk ?_;have hg:=CP h0 h1 hk;have Mp:(gu s).1.length<=65537:=(w5 h0 h1 hk).2.2;have hL:=hg.1;have hL1:(gu s).1.length<=1000000000:=by omega
  generalize hLL:(gu s).1=L at hq hL Mp hL1
  have RP:0 < L.length:=by
   have:=yo hL;rcases Nat.eq_zero_or_pos L.length with q | q
   ·rw [List.length_eq_zero_iff.1 q] at this; exact absurd rfl this
   ·exact q
  have hpos:Pos L a 0 1 true (L.map (mvT a)):=⟨RP,by decide,by omega,Z,Z⟩
  cases hx:eT f true (L.map (mvT a)) with
  | none=>rw [hx] at hq; cases hq
  | some y =>
   rw [hx] at hq;have hr:=ih.e true _ L a hL hL1 0 1 y hpos hx;rcases y with e | ⟨x,l⟩
   ·cases hq
    refine ao _ hr ?_;rintro ⟨z1,z2⟩ ⟨he,j,l',h2,h3⟩
    cases h2
    refine ao (λ t=>∃ j:Nat,t=(L,(j:Int),1,a,e.1,e.2,[])) (ao _ (fH hL hL1 h3) ?_) ?_
    ·rintro ⟨z1,z2⟩ ⟨h1,j,h2,h3,h4,h5⟩;replace h1:z1=_:=h1; subst h1; cases h2;exact ay (λ _=>ab ⟨j,rfl⟩) (λ _=>ai _ (aw (w7 he _ _ _ _) rfl) (ab ⟨j,rfl⟩))
    ·rintro _ ⟨j,rfl⟩;exact ab ⟨he,rfl⟩
   ·refine ao _ hr ?_;rintro ⟨z1,z2⟩ ⟨hz,j,h2,h3⟩;replace hz:z1=_:=hz; subst hz; cases h2;have hq:(if (hd true l).Ar=6 then some (.inr z1) else some (.inl (2,(hd true l).fAt)))=some q:=hq;by_cases k6:(hd true l).Ar=6
    ·rw [if_pos k6] at hq; cases hq;refine ao (λ t=>∃ j:Nat,t=(L,(j:Int),1,a,0,0,[])) (ao _ (fH hL hL1 h3) ?_) ?_
     ·rintro ⟨y1,y2⟩ ⟨h1,j,h2,h3,h4,h5⟩;replace h1:y1=_:=h1; subst h1; cases h2;exact aj k6 (ab ⟨j,rfl⟩)
     ·rintro _ ⟨j,rfl⟩;exact ab rfl
    ·rw [if_neg k6] at hq; cases hq;refine ao (λ t=>∃ j:Nat,t=(L,(j:Int),1,a,2,(hd true l).fAt,[])) (ao _ (fH hL hL1 h3) ?_) ?_
     ·rintro ⟨y1,y2⟩ ⟨h1,j,h2,h3,h4,h5⟩;replace h1:y1=_:=h1; subst h1; cases h2;exact ae k6 (ai _ xw (ab ⟨j,rfl⟩))
     ·rintro _ ⟨j,rfl⟩;exact ab ⟨(by decide:(2:Int)≠0),rfl⟩
 ·rw [if_pos hk] at hq; cases hq;have:=K6 s;refine ae hk (ah aV (ab ⟨hk,rfl⟩))
theorem Cz {s:Bytes}{a:Int}{i fr:Nat}(text:Bytes)(parts:List aa)(R3:Bool)(ha:0<=a)(h1:a+(s.length:Int)<=1000000000)(hi:i<=s.length)(hf:fr<=i)(hp:parts.length<=2*i) :
  dK (.mk s a (i:Int) (fr:Int) text parts R3)=some (.mk s a (i:Int) (fr:Int) [] (flS (a+(fr:Int)) (a+(i:Int)) text parts) R3):=by
 unfold dK flS;by_cases h:fr < i
 ·rw [if_pos (by show (fr:Int) < (i:Int); omega),if_pos O];show ((ck (inR (a+(fr:Int))) <| ck ((parts.length+1)*160<=140737488355328) <| some (parts++[rv text (a+(fr:Int))]):Option (List aa)).bind λ f6=>some (am.mk s a (i:Int) (fr:Int) ([]:Bytes) f6 R3))=_;rw [bF aV,bF O]; rfl
 ·rw [if_neg (by show ¬ (fr:Int) < (i:Int); omega),if_neg O]; rfl
theorem IY {e:aa}(hb:Sz e):Ev2 (λ n _=>gY n e dOk) (·=wz (ml (.inr e))):=by
 simp only [gY];refine aj rfl (ai _ (LB hb) ?_);by_cases h:chk e=0
 ·exact aj h (ab (by unfold ml; simp only [h,if_true]; rfl))
 ·exact ae h (ab (by unfold ml; simp only [h,if_false]; rfl))
theorem Nz {f:Nat}(ih:Fol f):∀ (s:Bytes) (a:Int) q,0<=a->a+(s.length:Int)<=1000000000->mr (f+1) s a=some q->Ev2 (λ n _=>gJ n s a) (·=wz q):=by
 intro s a q h0 h1 hq;rw [mr] at hq;refine aM ?_;simp only [gJ]
 cases hr:eZ f a a [] [] false s with
 | none=>rw [hr] at hq; cases hq
 | some y =>
  rw [hr] at hq;have RA:=(fct f).r a a [] [] false s (2*s.length) h0 h1 (by decide) (λ y hy=>by cases hy) G y hr;have hread:=ih.r s a 0 0 [] [] false y h0 h1 (rg _) (mv _) (by decide) (by decide) (by simpa using hr);rcases y with e | ⟨frm,pos,text,parts,R3⟩
  ·cases hq
   refine ao (λ r=>e.1≠0/\r.1=eD e) (aM ?_) ?_
   ·simp only [eY];refine d5 (bB G5 ?_);rintro r ⟨he,t,rfl⟩;exact ⟨he,rfl⟩
   ·rintro ⟨r1,r2⟩ ⟨he,hz⟩
    cases hz
    exact ae he (ab Z)
  ·have hq:some (ml (.inr (rS a (frm,pos,text,parts,R3))))=some q:=hq
   cases hq
   refine ao (λ r=>∃ (i fr:Nat),frm=a+(fr:Int)/\pos=a+(i:Int)/\fr<=i/\i<=s.length/\parts.length<=2*i/\r=(dOk,.mk s a (i:Int) (fr:Int) text parts R3)) (aM ?_) ?_
   ·simp only [eY];refine d5 (bB G5 ?_);rintro r ⟨i,fr,g1,g2,g3,g4,g5,rfl⟩;exact ab ⟨i,fr,g1,g2,g3,g4,g5,rfl⟩
   ·rintro _ ⟨i,fr,rfl,rfl,g3,g4,g5,rfl⟩;have hz:Sz (rS a (a+(fr:Int),a+(i:Int),text,parts,R3)):=yX O RA;refine aj rfl (ai _ pu ?_)
    cases R3 with
    | true =>
     refine ai (2,0,[],[],0,0,[],[],[],flS (a+(fr:Int)) (a+(i:Int)) text parts,a) (aj Z (ai _ (aw (Cz text parts true h0 h1 g4 g3 g5) Z) (ab Z))) ?_;exact Bg
    | false =>
     refine ai (1,0,[],[],3,0,text,[],[],[],a) BH ?_;exact Bg
theorem Q0 {f:Nat}(ih:Fol f):∀ (s:Bytes) (a:Int) (i fr:Nat) (text:Bytes) (parts:List aa) (R3:Bool) q,0<=a->a+(s.length:Int)<=1000000000->i<=s.length->fr<=i->text.length<=4096->parts.length<=2*i->eZ (f+1) (a+(fr:Int)) (a+(i:Int)) text parts R3 (s.drop i)=some q ->
  Ev2 (λ n m=>bM n (aI n) m s a (i:Int) (fr:Int) text parts R3) (RdO s a q):=by
 intro s a i fr text parts R3 q h0 h1 hi hf ht hp hq;refine aA ?_;simp only [bM]
 cases hl:s.drop i with
 | nil =>
  rw [hl,eZ] at hq; cases hq;have:=MI hl;exact ae O (ab ⟨i,fr,rfl,rfl,hf,hi,hp,rfl⟩)
 | cons b r =>
  obtain ⟨g1,g2,g3⟩:=za hl;have hsub:sub s (i:Int) (s.length:Int)=b::r:=by rw [jh,Int.toNat_natCast,hl]
  have Mp:(b::r).length=s.length - i:=by rw [<- hl,n6]
  rw [hl,eZ] at hq;refine aj O (ah O ?_);rw [hsub];by_cases hp3:hasPrefix (b::r) [36,36,123]=true
  ·rw [if_pos hp3] at hq;have hpl:=sO hp3;simp only [aq,dg] at hpl Mp;have hlong:=Ir s a ((i:Int)+3) (fr:Int) (text++[36,123]) parts R3 aV;have htl:(text++[36,123]).length=text.length+2:=by simp
   rw [htl] at hlong;by_cases hlg:4096 < text.length+2
   ·rw [if_pos hlg] at hq hlong; cases hq;refine ai (3,a+(fr:Int),[],s,a,(i:Int)+3,(fr:Int),text++[36,123],parts,R3) ?_ (ae (show ¬ (3:Int)=0 by decide) (ab ⟨(by decide:(3:Int)≠0),_,rfl⟩));exact HD
   ·rw [if_neg hlg] at hq hlong;refine ai (0,0,[],s,a,(i:Int)+3,(fr:Int),text++[36,123],parts,R3) ?_ (aj rfl ?_)
    ·exact HD
    ·have e3:s.drop (i+3)=(b::r).drop 3:=by rw [wa s i 3,hl]
     have:=ih.r s a (i+3) fr (text++[36,123]) parts R3 q h0 h1 O O O O  (by
      rw [e3,show a+((i+3:Nat):Int)=a+(i:Int)+3 by omega]; exact hq)
     rw [show ((i+3:Nat):Int)=(i:Int)+3 by omega] at this;exact this
  rw [if_neg hp3] at hq;by_cases hp2:hasPrefix (b::r) [36,123]=true
  ·rw [if_pos hp2] at hq;have hpl:=sO hp2;simp only [aq,dg] at hpl Mp;have e2:s.drop (i+2)=(b::r).drop 2:=by rw [wa s i 2,hl]
   have hfl:=Cz text parts R3 h0 h1 hi hf hp;have hflen:(flS (a+(fr:Int)) (a+(i:Int)) text parts).length<=parts.length+1:=by unfold flS; split <;> simp
   cases hc:ee f 1 ((b::r).drop 2) with
   | none=>rw [hc] at hq; cases hq
   | some y =>
    rw [hc] at hq;have hcl:=BK ((JQ (s:=s) O f).1 1 (i+2) ((i:Int)+2) 1 y O rfl (by decide) u6 O (by rw [e2]; exact hc));have pre:∀ {P:ap×am->Prop},Ev2 (λ n _=>(aI (n+1) (am.mk s a (i:Int) (fr:Int) text parts R3))) P->Ev2 (λ n _=>(aI n (am.mk s a (i:Int) (fr:Int) text parts R3))) P:=λ h=>aM h
    cases y with
    | none =>
     cases hq
     refine ai (40,a+(i:Int),[],s,a,(i:Int),(fr:Int),[],flS (a+(fr:Int)) (a+(i:Int)) text parts,true) ?_ (ae (show ¬ (40:Int)=0 by decide) (ab ⟨(by decide:(40:Int)≠0),_,Z⟩));refine ai false qN (ae Bool.false_ne_true (ai true (aw (lY _ _) hp2) (aj Z ?_)));refine ai (ap.mk 40 (a+(i:Int)) [],am.mk s a (i:Int) (fr:Int) [] (flS (a+(fr:Int)) (a+(i:Int)) text parts) true) (pre ?_) (ab Z);simp only [aI];exact ai _ (aw hfl Z) (ah A6 (ai _ hcl (aj (by show (-1:Int) < 0; decide) (ah Hk (ab Z)))))
    | some r' =>
     simp only at hq;have hsf:=(nU f).1 _ _ _ hc;have OF:=hsf.2;have hd2:((b::r).drop 2).length=s.length - (i+2):=by rw [<- e2,n6]
     have hrs:r' <:+ s:=by rw [<- e2] at hsf; exact hsf.1.trans (List.drop_suffix _ _)
     have hsd:=NI hrs;have hcp:PC s (some r')=((s.length - r'.length - 1:Nat):Int):=by show (s.length:Int) - (r'.length:Int) - 1=_; omega
     rw [hcp] at hcl
     have hsub2:sub s ((i:Int)+2) ((s.length - r'.length - 1:Nat):Int)=((b::r).drop 2).take (((b::r).drop 2).length - r'.length - 1):=by
      rw [show (i:Int)+2=((i+2:Nat):Int) by omega,CC,List.drop_take,e2];congr 1; omega
     generalize hX:((b::r).drop 2).take (((b::r).drop 2).length - r'.length - 1)=X at hq hsub2;have hXl:X.length<=((b::r).drop 2).length:=by rw [<- hX,List.length_take]; omega
     cases hw:gi f X (a+(i:Int)+2) with
     | none=>rw [hw] at hq; cases hq
     | some z =>
      rw [hw] at hq;have hwh:=ih.w X (a+(i:Int)+2) z O O  hw
      have lead:∀ {P:ap×am->Prop},Ev2 (λ n _=>(gA n X (a+(i:Int)+2)).bind λ Sf=>if Sf.2.Ar=0 then ck (((flS (a+(fr:Int)) (a+(i:Int)) text parts).length+1)*160<=140737488355328) <| ck (inR (((s.length - r'.length - 1:Nat):Int)+1)) <| some (ap.mk 0 0 ([]:Bytes),am.mk s a (((s.length - r'.length - 1:Nat):Int)+1) (((s.length - r'.length - 1:Nat):Int)+1) [] (flS (a+(fr:Int)) (a+(i:Int)) text parts++[Sf.1]) true) else some (Sf.2,am.mk s a (i:Int) (fr:Int) [] (flS (a+(fr:Int)) (a+(i:Int)) text parts) true)) P ->
        Ev2 (λ n _=>(aI n (am.mk s a (i:Int) (fr:Int) text parts R3))) P:=by
       intro P hP;refine pre ?_;simp only [aI];refine ai _ (aw hfl rfl) (ah A6 (ai _ hcl (ae O (ah A6 (ah ⟨by show (0:Int)<=(i:Int)+2; omega,by show (i:Int)+2<=_; omega,by show _<=(s.length:Int); omega⟩ (ah Hk (ah (cH (by show _<=a+(i:Int)+2; omega) (by show a+(i:Int)+2<=_; omega)) ?_)))))));simp only [hsub2];exact hP
      rcases z with e | e
      ·cases hq
       have he:=(fct f).w X (a+(i:Int)+2) O O  _ hw;refine ai (e.1,e.2,[],s,a,(i:Int),(fr:Int),[],flS (a+(fr:Int)) (a+(i:Int)) text parts,true) ?_ (ae he (ab ⟨he,_,rfl⟩));refine ai false qN (ae Bool.false_ne_true (ai true (aw (lY _ _) hp2) (aj rfl ?_)));refine ai (eD e,am.mk s a (i:Int) (fr:Int) [] (flS (a+(fr:Int)) (a+(i:Int)) text parts) true) (lead (ao _ hwh ?_)) (ab rfl);rintro ⟨w1,w2⟩ ⟨_,hz⟩
       cases hz
       exact ae he (ab Z)
      ·have hq:eZ f (a+(i:Int)+(((b::r).length - r'.length:Nat):Int)) (a+(i:Int)+(((b::r).length - r'.length:Nat):Int)) [] (flS (a+(fr:Int)) (a+(i:Int)) text parts++[e]) true r'=some q:=hq
       have hpos:a+(i:Int)+(((b::r).length - r'.length:Nat):Int)=a+((s.length - r'.length:Nat):Int):=by
        have:=hsf.1.length_le;simp only [aq] at hd2 ⊢; omega
       rw [hpos] at hq;have hi2:((s.length - r'.length - 1:Nat):Int)+1=((s.length - r'.length:Nat):Int):=by omega
       refine ai (0,0,[],s,a,((s.length - r'.length:Nat):Int),((s.length - r'.length:Nat):Int),[],flS (a+(fr:Int)) (a+(i:Int)) text parts++[e],true) ?_ (aj Z ?_)
       ·refine ai false qN (ae Bool.false_ne_true (ai true (aw (lY _ _) hp2) (aj rfl ?_)));refine ai (dOk,am.mk s a ((s.length - r'.length:Nat):Int) ((s.length - r'.length:Nat):Int) [] (flS (a+(fr:Int)) (a+(i:Int)) text parts++[e]) true) (lead (ao _ hwh ?_)) (ab rfl);rintro _ rfl;refine aj rfl (ah O (ah aV (ab ?_)));rw [hi2]; rfl
       ·exact ih.r s a (s.length - r'.length) (s.length - r'.length) [] _ true q h0 h1 O (mv _) (by decide) (by rw [bt,List.length_singleton]; omega) (by rw [hsd]; exact hq)
  rw [if_neg hp2] at hq;have hit:=Pr (s:=s) O (a:=a) (fr:=(fr:Int)) (i:=i) h0 O O O text ht parts R3 hl
  cases hi':jm (b::r) with
  | inl k =>
   rw [hi'] at hq hit; cases hq;have hk:=Ch hi';refine ao (λ t=>t.1=k/\t.2.1=a+(i:Int)/\t.2.2.1=[]) ?_ ?_
   ·refine ai false qN (ae Bool.false_ne_true (ai false Ah (ae Bool.false_ne_true ?_)));refine ao _ hit ?_;rintro ⟨z1,z2⟩ hz;have hz:z1=ap.mk k (a+(i:Int)) []:=hz;subst hz;exact ab ⟨rfl,rfl,rfl⟩
   ·rintro ⟨t1,t2,t3,t4⟩ ⟨k1,k2,k3⟩;simp only at k1 k2 k3;subst k1 k2 k3;exact ae hk (ab ⟨hk,_,rfl⟩)
  | inr tn =>
   obtain ⟨t,n⟩:=tn;rw [hi'] at hq hit;have hq:(if 4096 < text.length+t.length then some (.inl (3,a+(fr:Int))) else eZ f (a+(fr:Int)) (a+(i:Int)+(n:Int)) (text++t) parts R3 ((b::r).drop n))=some q:=hq;have hn:=yI hi';by_cases hlg:4096 < text.length+t.length
   ·rw [if_pos hlg] at hq; cases hq;refine ao (λ t=>t.1=3/\t.2.1=a+(fr:Int)/\t.2.2.1=[]) ?_ ?_
    ·refine ai false qN (ae Bool.false_ne_true (ai false Ah (ae Bool.false_ne_true ?_)));refine ao _ hit ?_;rintro ⟨z1,z2⟩ hz;unfold ItO at hz;simp only [if_pos hlg] at hz;subst hz;exact ab ⟨rfl,rfl,rfl⟩
    ·rintro ⟨t1,t2,t3,t4⟩ ⟨k1,k2,k3⟩;simp only at k1 k2 k3;subst k1 k2 k3;exact ae (show ¬ (3:Int)=0 by decide) (ab ⟨(by decide:(3:Int)≠0),_,rfl⟩)
   ·rw [if_neg hlg] at hq;refine ai (0,0,[],s,a,(i:Int)+(n:Int),(fr:Int),text++t,parts,R3) ?_ (aj rfl ?_)
    ·refine ai false qN (ae Bool.false_ne_true (ai false Ah (ae Bool.false_ne_true ?_)));refine ao _ hit ?_;rintro ⟨z1,z2⟩ hz;unfold ItO at hz;simp only [if_neg hlg] at hz
     cases hz
     exact ab Z
    ·have e3:s.drop (i+n)=(b::r).drop n:=by rw [wa s i n,hl]
     have:=ih.r s a (i+n) fr (text++t) parts R3 q h0 h1 O O  ra O (by
      rw [e3,show a+((i+n:Nat):Int)=a+(i:Int)+(n:Int) by omega]; exact hq)
     rw [show ((i+n:Nat):Int)=(i:Int)+(n:Int) by omega] at this;exact this
theorem fol:∀ f,Fol f:=by
 intro f
 induction f with
 | zero =>
  constructor
  ·intro b l L base hL Mp i L' q h hq; rw [eT] at hq; cases hq
  ·intro R7 li b l _ _ L base hL Mp i L' q h hq; rw [pw] at hq; cases hq
  ·intro R7 li b l x r5 _ _ _ L base hL Mp i L' q h hq; rw [qR] at hq; cases hq
  ·intro b l L base hL Mp i L' q h hq; rw [unS] at hq; cases hq
  ·intro b l x r1 _ L base hL Mp i L' q h hq; rw [lH] at hq; cases hq
  ·intro b l L base hL Mp i L' q h hq; rw [jC] at hq; cases hq
  ·intro b l _ L base hL Mp i L' q h hq; rw [tS] at hq; cases hq
  ·intro b l _ L base hL Mp i L' q h hq; rw [nQ] at hq; cases hq
  ·intro en l out _ _ L base hL Mp i L' q h hq; rw [ji] at hq; cases hq
  ·intro l out _ _ L base hL Mp i L' q h hq; rw [rJ] at hq; cases hq
  ·intro l L base hL Mp i L' q h hq; rw [nG] at hq; cases hq
  ·intro a k l _ _ L base hL Mp i L' b q _ _ h hq; rw [nz] at hq; cases hq
  ·intro s a q _ _ hq; rw [mr] at hq; cases hq
  ·intro s a i fr text parts R3 q _ _ _ _ _ _ hq; rw [eZ] at hq; cases hq
  ·intro s a q _ _ hq; rw [gi] at hq; cases hq
 | succ f ih=>exact ⟨Rk ih,QN ih,OO ih,QK ih,P0 ih,Rh ih,QV ih,QX ih,QJ ih,QI ih,Q8 ih,OY ih,Nz ih,Q0 ih,QU ih⟩
end Go.Ab.R06
end
section
namespace Go.Ab.R06
open Go.Ab Go.Ab.RB Go.Lib
inductive F2 {α β:Type}(P:α->β->Prop):List α->List β->Prop where
 | nil:F2 P [] []
 | cons {a:α} {b:β} {l:List α} {m:List β} (h:P a b) (t:F2 P l m):F2 P (a::l) (b::m)
theorem F2.app {α β:Type}{P:α->β->Prop}{a c:List α}{b d:List β}(h:F2 P a b)(g:F2 P c d):F2 P (a++c) (b++d):=by
 induction h with
 | nil=>exact g
 | cons p _ ih=>exact .cons p ih
theorem F2.len {α β:Type}{P:α->β->Prop}{a:List α}{b:List β}(h:F2 P a b):b.length=a.length:=by
 induction h with
 | nil=>rfl
 | cons p _ ih=>rw [aq,aq,ih]
theorem F2.zip {α β:Type}{P:α->β->Prop}{a:List α}{b:List β}(h:F2 P a b):∀ p∈a.zip b,P p.1 p.2:=by
 induction h with
 | nil=>intro p hp; cases hp
 | cons p _ ih =>
  intro q hq;rw [List.zip_cons_cons] at hq;rcases ro.1 hq with rfl | hq
  ·exact p
  ·exact ih q hq
theorem F2.map {α β γ:Type}{P:β->γ->Prop}(f:α->β)(g:α->γ):∀ l:List α,(∀ a∈l,P (f a) (g a))->F2 P (l.map f) (l.map g)
 | [],_=>.nil
 | a::l,h=>.cons (h a List.mem_cons_self) (F2.map f g l λ b hb=>h b (List.mem_cons_of_mem _ hb))
theorem f21 {α β:Type}{P:α->β->Prop}{a:α}{b:β}(h:P a b):F2 P [a] [b]:=.cons h .nil
section
variable {R:Int->Int->Prop}
def TR (R:Int->Int->Prop)(t t':ad):Prop:=t'.Ar=t.Ar/\t'.C'=t.C'/\R t.fAt t'.fAt
inductive RE (R:Int->Int->Prop):aa->aa->Prop where
 | mk {x y:aa} (k:y.Ar=x.Ar) (o:y.fOp=x.fOp) (n:y.A'=x.A') (m:y.B'=x.B') (v:y.By=x.By) (a:R x.fAt y.fAt) (c:x.AI.length<=4000000000) (l:y.AI.length=x.AI.length) (s:∀ p∈x.AI.zip y.AI,RE R p.1 p.2):RE R x y
theorem RE.at {x y:aa}(h:RE R x y):R x.fAt y.fAt:=by cases h; assumption
theorem re_n {k o:Int}{n m:Bytes}{v:ag}{ks ks':List aa}{a a':Int}(h:F2 (RE R) ks ks')(ha:R a a')(hc:ks.length<=4000000000):RE R (aa.mk k o n m v ks a) (aa.mk k o n m v ks' a') :=
 .mk Z Z Z Z Z ha hc h.len h.zip
def RT (R:Int->Int->Prop){α β:Type}(P:α->β->Prop):Option (PE⊕α)->Option (PE⊕β)->Prop
 | none,none=>True
 | some (.inl e),some (.inl e')=>e'.1=e.1/\R e.2 e'.2
 | some (.inr a),some (.inr b)=>P a b
 | _,_=>False
theorem nf2 (b:Bool){l m:List ad}(h:F2 (TR R) l m):F2 (TR R) (nf b l) (nf b m):=by
 cases b
 ·exact h
 ·induction h with
  | nil=>exact .nil
  | @cons x y l m p t ih =>
   show F2 (TR R) ((x::l).dropWhile nlT) ((y::m).dropWhile nlT);rw [List.dropWhile_cons,List.dropWhile_cons,show nlT y=nlT x by unfold nlT; rw [p.1]];split
   ·exact ih
   ·exact .cons p t
theorem hd2 (b:Bool){l m:List ad}(g:Gl l)(h:F2 (TR R) l m):TR R (hd b l) (hd b m)/\F2 (TR R) (tl b l) (tl b m):=by
 have h1:=nf2 b h;have h2:=yo (sf (b:=b) g.1);unfold hd tl;generalize nf b l=x at h1 h2 ⊢;generalize nf b m=y at h1 ⊢
 cases h1 with
 | nil=>exact absurd Z h2
 | cons p t=>exact ⟨p,t⟩
theorem k2' {b:Bool}{l m:List ad}(h:F2 (TR R) l m)(g:Gl l):(hd b m).Ar=(hd b l).Ar:=(hd2 b g h).1.1
theorem x2 {b:Bool}{l m:List ad}(h:F2 (TR R) l m)(g:Gl l):(hd b m).C'=(hd b l).C':=(hd2 b g h).1.2.1
theorem shp2 {x y:aa}(k:y.Ar=x.Ar)(o:y.fOp=x.fOp)(n:y.A'=x.A')(m:y.B'=x.B')(v:y.By=x.By)(l:y.AI.length=x.AI.length):qt y=qt x:=by
 unfold qt;simp only [gq,iB,k,o,n,m,v,l]
theorem Rj {x y:aa}(k:y.Ar=x.Ar)(o:y.fOp=x.fOp)(n:y.A'=x.A')(m:y.B'=x.B')(v:y.By=x.By)(l:y.AI.length=x.AI.length):iR y=iR x:=by
 unfold iR;simp only [shp2 k o n m v l,k,n,m,v]
theorem vis2 {x y:aa}(h:RE R x y):∀ c lv,j7 c lv y=j7 c lv x:=by
 induction h with
 | @mk x y k o n m v a c l s ih =>
  have hl:∀ (xs ys:List aa),ys.length=xs.length->(∀ p∈xs.zip ys,∀ c lv,j7 c lv p.2=j7 c lv p.1)->∀ c lv,jg c lv ys=jg c lv xs:=by
   intro xs
   induction xs with
   | nil =>
    intro ys hl _ c lv;rw [List.length_eq_zero_iff.1 hl]
   | cons p xs ihx =>
    intro ys hl hp c lv
    cases ys with
    | nil=>cases hl
    | cons q ys =>
     rw [List.zip_cons_cons] at hp;have h1:=hp _ List.mem_cons_self;rw [kW,kW,h1 c lv];split
     ·exact ihx ys (Nat.succ.inj hl) (λ p hq=>hp p (List.mem_cons_of_mem _ hq)) _ _
     ·rfl
  intro c lv;rw [lV,lV,Rj k o n m v l,hl x.AI y.AI l ih]
theorem Pd {x y:aa}(h:RE R x y):chk y=chk x:=by unfold chk; rw [vis2 h]
theorem fin2 {x y:aa}(h:RE R x y):RT R (RE R) (some (ml (.inr x))) (some (ml (.inr y))):=by
 unfold ml;simp only [Pd h];split
 ·exact h
 ·exact ⟨Z,h.at⟩
end
end Go.Ab.R06
end
section
namespace Go.Ab.R06
open Go.Ab Go.Ab.RB Go.Lib
def Ans {α:Type}(p:Nat->Option α)(r:α):Prop:=∃ N,∀ f,N<=f->p f=some r
theorem iS {α:Type}{r:α}:Ans (λ _=>some r) r:=⟨0,λ _ _=>rfl⟩
theorem dZ {α:Type}{p:Nat->Option α}{r:α}(h:Ans (λ f=>p (f+1)) r):Ans p r:=by
 obtain ⟨N,h⟩:=h;refine ⟨N+1,λ f hf=>?_⟩;obtain ⟨g,rfl⟩:∃ g,f=g+1:=⟨f - 1,by omega⟩
 exact h g O
theorem gz {α:Type}{p q:Nat->Option α}{r:α}(h:∀ f,p f=q f)(k:Ans q r):Ans p r:=by
 obtain ⟨N,k⟩:=k;exact ⟨N,λ f hf=>(h f).trans (k f hf)⟩
theorem ez {α β:Type}{x:Nat->PR α}{k:Nat->α->List ad->PR β}{a:α}{l:List ad}{r:PE⊕(β×List ad)}(h:Ans x (.inr (a,l)))(g:Ans (λ f=>k f a l) r):Ans (λ f=>pb (x f) (k f)) r:=by
 obtain ⟨N,h⟩:=h; obtain ⟨M,g⟩:=g;refine ⟨N+M,λ f hf=>?_⟩;show pb (x f) (k f)=some r;rw [h f O];exact g f O
abbrev EQV (x y:aa):Prop:=RE (λ _ _=>True) x y
def kQ (L:List ad):List Tok:=L.map λ t=>(t.Ar,t.C')
theorem bb {L:List ad}{a:Tok}{ts:List Tok}(h:kQ L=a::ts):∃ t M,L=t::M/\t.Ar=a.1/\t.C'=a.2/\kQ M=ts:=by
 cases L with
 | nil=>cases h
 | cons t M =>
  simp only [kQ,cl,List.cons.injEq] at h;exact ⟨t,M,rfl,congrArg Prod.fst h.1,congrArg Prod.snd h.1,h.2⟩
theorem ep {ts us:List Tok}:∀ {L:List ad},kQ L=ts++us->∃ M K,L=M++K/\kQ M=ts/\kQ K=us:=by
 induction ts with
 | nil=>intro L h; exact ⟨[],L,rfl,rfl,h⟩
 | cons a ts ih =>
  intro L h;obtain ⟨t,M,rfl,h1,h2,h3⟩:=bb (a:=a) h;obtain ⟨A,K,rfl,h4,h5⟩:=ih h3;refine ⟨t::A,K,rfl,?_,h5⟩;simp only [kQ,cl] at h4 ⊢;rw [h4,h1,h2]
theorem eu {L:List ad}(h:kQ L=[]):L=[]:=by
 cases L with
 | nil=>rfl
 | cons=>cases h
theorem HI {t:ad}(h:t.Ar≠5)(b:Bool)(l:List ad):nf b (t::l)=t::l:=by
 cases b with
 | false=>rfl
 | true=>simp [nf,nlT,h]
theorem gD {t:ad}(h:t.Ar≠5)(b:Bool)(l:List ad):hd b (t::l)=t:=by simp [hd,HI h]
theorem cA {t:ad}(h:t.Ar≠5)(b:Bool)(l:List ad):tl b (t::l)=l:=by simp [tl,HI h]
theorem cB {t:ad}(h:t.Ar≠5)(b:Bool)(l:List ad)(s:Bytes):sgB b (t::l) s=(decide (t.Ar=4)&&decide (t.C'=s)):=by simp [sgB,gD h]
theorem uU {t:ad}(h:t.Ar≠5)(b:Bool)(l:List ad)(s:Bytes):wdB b (t::l) s=(decide (t.Ar=1)&&decide (t.C'=s)):=by simp [wdB,gD h]
def opB (s:Bytes)(i:Nat):Option (Bytes×Int):=(oQ i).find? λ p=>decide (s=p.1)
theorem p9 {t:ad}(h:t.Ar=4)(b:Bool)(l:List ad)(i:Nat):tT b (t::l) i=opB t.C' i:=by
 unfold tT opB;congr 1
 funext p
 rw [cB O,h]; simp
theorem Dy {α:Type}(l:List α):l.find? (λ _=>false)=none:=by induction l with
 | nil=>rfl
 | cons a l ih=>simp [ih]
theorem Ex {t:ad}(h:t.Ar≠4)(h5:t.Ar≠5)(b:Bool)(l:List ad)(i:Nat):tT b (t::l) i=none:=by
 unfold tT;rw [show (λ p:Bytes×Int=>sgB b (t::l) p.1)=λ _=>false from funext λ p=>by rw [cB h5]; simp [h]];exact Dy _
structure Stp (j:Nat)(b:Bool)(l:List ad):Prop where
 o:∀ i,j<=i->i<=5->tT b l i=none
 d:sgB b l [46]=false
 k:sgB b l [91]=false
 c:sgB b l [40]=false
theorem Stp.mono {j i:Nat}{b:Bool}{l:List ad}(h:Stp j b l)(hji:j<=i):Stp i b l:=⟨λ k hk h5=>h.o k O h5,h.d,h.k,h.c⟩
structure Lq (b:Bool)(l:List ad):Prop where
 s:Stp 0 b l
 q:sgB b l [63]=false
def Dw (s:Bytes):Bool:=decide (s∈([[41],[93],[125],[44],[58],[61],[61,62]]:List Bytes))
theorem NC {s:Bytes}(h:Dw s=true)(i:Nat):opB s i=none:=by
 unfold Dw at h;rw [decide_eq_true_eq] at h;simp only [ro,List.not_mem_nil,or_false] at h;rcases i with _ | _ | _ | _ | _ | i <;> rcases h with rfl | rfl | rfl | rfl | rfl | rfl | rfl <;> rfl
theorem lf {t:ad}(h:t.Ar=4)(hs:Dw t.C'=true)(b:Bool)(l:List ad):Lq b (t::l):=by
 have h5:t.Ar≠5:=by omega
 have hd:∀ s:Bytes,Dw s=false->sgB b (t::l) s=false:=λ s hn=>by
  rw [cB h5,h];simp only [decide_true,Bool.true_and,decide_eq_false_iff_not];intro e; rw [e,hn] at hs; cases hs
 exact ⟨⟨λ i _ _=>by rw [p9 h]; exact NC hs i,hd _ (by decide),hd _ (by decide),hd _ (by decide)⟩,hd _ (by decide)⟩
theorem u7 {t:ad}(h:t.Ar≠4)(h5:t.Ar≠5)(b:Bool)(l:List ad):Lq b (t::l):=by
 have hd:∀ s:Bytes,sgB b (t::l) s=false:=λ s=>by rw [cB h5]; simp [h]
 exact ⟨⟨λ i _ _=>Ex h h5 b l i,hd _,hd _,hd _⟩,hd _⟩
def C0 (ts:List Tok)(e:aa):Prop:=∀ L,kQ L=ts->∃ e',EQV e e'/\∀ b l,Lq b l->Ans (λ f=>eT f b (L++l)) (.inr (e',l))
def CB (j:Nat)(ts:List Tok)(e:aa):Prop:=∀ L,kQ L=ts->∃ e',EQV e e'/\∀ b l r,Stp (j+1) b l->Ans (λ f=>qR f j b e' l) r->Ans (λ f=>pw f j b (L++l)) r
def CF (j:Nat)(ts:List Tok)(e:aa):Prop:=∀ L,kQ L=ts->∃ e',EQV e e'/\∀ b l,Stp j b l->Ans (λ f=>pw f j b (L++l)) (.inr (e',l))
def C7 (ts:List Tok)(e:aa):Prop:=∀ L,kQ L=ts->∃ e',EQV e e'/\∀ b l,Stp 6 b l->Ans (λ f=>unS f b (L++l)) (.inr (e',l))
def C8 (ts:List Tok)(e:aa):Prop:=∀ L,kQ L=ts->∃ e',EQV e e'/\∀ b l r,sgB b l [40]=false->Ans (λ f=>lH f b e' l) r->Ans (λ f=>unS f b (L++l)) r
theorem Rl {ts:List Tok}{e:aa}(h:C8 ts e):C7 ts e:=by
 intro L hL;obtain ⟨e',h1,h2⟩:=h L hL;refine ⟨e',h1,λ b l hs=>h2 b l _ hs.c (dZ ?_)⟩;simp only [lH,hs.d,hs.k];exact iS
theorem M5 {ts:List Tok}{e:aa}(h:C7 ts e):CF 6 ts e:=by
 intro L hL;obtain ⟨e',h1,h2⟩:=h L hL;refine ⟨e',h1,λ b l hs=>dZ ?_⟩;simp only [pw];exact gz (λ f=>if_pos O) (h2 b l hs)
theorem vr {j:Nat}(hj:j<=5){ts:List Tok}{e:aa}(h:CF (j+1) ts e):CB j ts e:=by
 intro L hL;obtain ⟨e',h1,h2⟩:=h L hL;refine ⟨e',h1,λ b l r hs hr=>dZ ?_⟩;simp only [pw];exact gz (λ f=>if_neg O) (ez (h2 b l hs) hr)
theorem mn {j:Nat}(hj:j<=5){ts:List Tok}{e:aa}(h:CB j ts e):CF j ts e:=by
 intro L hL;obtain ⟨e',h1,h2⟩:=h L hL;refine ⟨e',h1,λ b l hs=>h2 b l _ (hs.mono O) (dZ ?_)⟩;simp only [qR,hs.o j (mv _) hj];exact iS
theorem Rr {ts:List Tok}{e:aa}(h:CF 0 ts e):C0 ts e:=by
 intro L hL;obtain ⟨e',h1,h2⟩:=h L hL;refine ⟨e',h1,λ b l hs=>dZ ?_⟩;simp only [eT];refine ez (h2 b l hs.s) ?_;simp only [hs.q];exact iS
def CL:Nat->List Tok->aa->Prop
 | 0=>C0
 | 7=>C7
 | 8=>C8
 | n+1=>CB n
theorem ME {ts:List Tok}{e:aa}:∀ {n:Nat},n<=7->CL (n+1) ts e->CL n ts e
 | 0,_,h=>Rr (mn O h)
 | 1,_,h=>vr (j:=0) O (mn (j:=1) O h)
 | 2,_,h=>vr (j:=1) O (mn (j:=2) O h)
 | 3,_,h=>vr (j:=2) O (mn (j:=3) O h)
 | 4,_,h=>vr (j:=3) O (mn (j:=4) O h)
 | 5,_,h=>vr (j:=4) O (mn (j:=5) O h)
 | 6,_,h=>vr (j:=5) O (M5 h)
 | 7,_,h=>Rl h
theorem BO {ts:List Tok}{e:aa}:∀ {k n:Nat},n+k<=8->CL (n+k) ts e->CL n ts e
 | 0,_,_,h=>h
 | k+1,n,hn,h=>BO (k:=k) O (ME O h)
theorem Rq {j:Nat}(hj:j<=6){ts:List Tok}{e:aa}(h:CL (j+1) ts e):CF j ts e :=
 match j,hj,h with
 | 0,_,h=>mn O h
 | 1,_,h=>mn O h
 | 2,_,h=>mn O h
 | 3,_,h=>mn O h
 | 4,_,h=>mn O h
 | 5,_,h=>mn O h
 | 6,_,h=>M5 h
theorem Rm {j:Nat}(hj:j<=5){ts:List Tok}{e:aa}(h:CL (j+1) ts e):CB j ts e :=
 match j,hj,h with
 | 0,_,h=>h
 | 1,_,h=>h
 | 2,_,h=>h
 | 3,_,h=>h
 | 4,_,h=>h
 | 5,_,h=>h
end Go.Ab.R06
end
