/- Texts of the proof, one behind the other. No statement is proved here. -/
import Derived.Lib.Replace
import Derived.Lib.CountLaws
import Derived.Lib.Join
import Derived.Test.YtmdefcidhgbikaaDoorZ16Oa
import Derived.Test.YtmdefcidhgbikaaDoorZ16Ob
import Derived.Test.YtmdefcidhgbikaaDoorZ16Oc
set_option maxHeartbeats 4000000
section
namespace Go.Ab.R06
open Go.Proofs Go.Ab Go.Ab.RB
attribute [local irreducible] awp eM a8 aE dx AV.sub M cT
def aI (s1_0:List Bytes)(s2_1:List Bytes):Nat→Int→Option (Unit⊕Bool)
 | 0,_=>none
 | m+1,t8 =>
 if t8 < (s1_0.length:Int) then
  ck ((0:Int)≤t8∧t8 < (s1_0.length:Int)) <|
  ck ((0:Int)≤t8∧t8 < (s2_1.length:Int)) <|
  if lat s1_0 t8=lat s2_1 t8 then
   ck (inR (t8+1)) <|
   aI s1_0 s2_1 m (t8+1)
  else
   some (.inr false)
 else
  some (.inl ())
def aQ (n:Nat)(s1_0:List Bytes)(s2_1:List Bytes):Option Bool :=
 if (s1_0.length:Int)=(s2_1.length:Int) then
  jn (aI s1_0 s2_1 n 0) λ _q15 =>
  some true
 else
  some false
theorem dC (n:Nat)(s1_0:List Bytes)(s2_1:List Bytes)(r:Bool)(h0:aQ n s1_0 s2_1=some r):aE Tryd.prog 32 [eL eS s1_0,eL eS s2_1] (·=.p (eB r)):=by
 unfold aQ at h0
 refine aY good Tryd.func32 rfl rfl rfl λ w0=>mP (λ v:Bool=>.p (eB v)) ?_
 refine nx 8 rfl (oLl (f:=eS) rfl rfl ?_)
 refine nx 1 rfl (oLl (f:=eS) rfl rfl ?_)
 refine nx 2 rfl (fN [10] h0 rfl (λ c1 h0=>?_) λ c1 h0=>?_)
 ·refine nx 6 rfl (oLl (f:=eS) rfl rfl ?_)
  refine nx 3 rfl ?_
  obtain ⟨o16,h1,hL0,hR0⟩:=fP h0
  refine kEx 0 (λ v17:Unit=>o16=.inl v17) (λ v17=>⟨[],[]⟩) (λ v17 hv=>?_) ?_
  ·have h0:=hL0 _ hv
   exact nx 6 rfl (mQ (oi h0) rfl (sr))
  refine lG (λ (q18:Int)=>⟨[(0,.p (eL eS s1_0)),(1,.p (eL eS s2_1)),(12,.p (eI (s1_0.length:Int))),(13,.p (eI q18))],[]⟩) (λ m (q18:Int)=>aI s1_0 s2_1 m q18) (λ _=>rfl) 0 h1 (gE rfl rfl) ?_
  rintro m t8 h1
  replace h1:aI s1_0 s2_1 (m+1) t8=some o16:=h1
  rw [aI] at h1
  refine nx 5 rfl (fD [14] h1 rfl (λ c9 h1=>?_) λ c9 h1=>?_)
  ·refine nx 10 rfl (cc' h1 λ hk10 h1=>?_)
   refine cc' h1 λ hk11 h1=>mD [(0,.p (eL eS s1_0)),(1,.p (eL eS s2_1)),(5,.p (eI t8)),(12,.p (eI (s1_0.length:Int))),(13,.p (eI t8))] rfl ⟨rfl,rfl,rfl,rfl,rfl,trivial⟩ rfl (dR 2 rfl ?_)
   refine dq (.rptr [eS (lat s1_0 t8)]) [16,17] rfl (λ _ e _ q=>ah rfl (op_at (f:=eS) (l:=s1_0) (λ x=>[eS x]) rfl rfl rfl rfl rfl rfl (e _ _ rfl) rfl (e _ _ rfl) hk10 (λ _=>rfl) (λ _=>rfl) q)) rfl (dR 3 rfl ?_)
   refine dq (.rptr [eS (lat s2_1 t8)]) [20,21] rfl (λ _ e _ q=>ah rfl (op_at (f:=eS) (l:=s2_1) (λ x=>[eS x]) rfl rfl rfl rfl rfl rfl (e _ _ rfl) rfl (e _ _ rfl) hk11 (λ _=>rfl) (λ _=>rfl) q)) rfl (dR 1 rfl ?_)
   refine dq (.p (eB (!decide (lat s1_0 t8=lat s2_1 t8)))) [19,23] rfl (λ _ e _ q=>ah rfl (gD rfl rfl rfl (e _ _ rfl) (e _ _ rfl) rfl q)) rfl (dE rfl ?_)
   refine nx 1 rfl (fN [24] h1 rfl (λ c12 h1=>?_) λ c12 h1=>?_)
   ·refine nx 3 rfl (oA h1 rfl rfl λ hk13 h1=>?_)
    exact nx 2 rfl (eX (t8+1) h1 (gE rfl rfl))
   exact nx 6 rfl (mQ (hR0 _ (oi h1).symm) rfl (sr))
  exact nx 2 rfl (eXi _ (oi h1).symm (gE rfl rfl))
 exact nx 6 rfl (mQ (oi h0) rfl (sr))
def ae (s1_0:List ab)(s2_1:List ab)(eq_2:ab→ab→Option Bool):Nat→Int→Option (Unit⊕Bool)
 | 0,_=>none
 | m+1,t10 =>
 if t10 < (s1_0.length:Int) then
  ck ((0:Int)≤t10∧t10 < (s1_0.length:Int)) <|
  ck ((0:Int)≤t10∧t10 < (s2_1.length:Int)) <|
  (eq_2 (lat s1_0 t10) (lat s2_1 t10)).bind λ r14 =>
  if (!r14)=true then
   some (.inr false)
  else
   ck (inR (t10+1)) <|
   ae s1_0 s2_1 eq_2 m (t10+1)
 else
  some (.inl ())
def av (n:Nat)(s1_0:List ab)(s2_1:List ab)(eq_2:ab→ab→Option Bool):Option Bool :=
 if (s1_0.length:Int)=(s2_1.length:Int) then
  jn (ae s1_0 s2_1 eq_2 n 0) λ _q19 =>
  some true
 else
  some false
theorem cA (n:Nat)(s1_0:List ab)(s2_1:List ab)(eq_2:ab→ab→Option Bool)(F_eq_2:FuncId)(C_eq_2:List AV)(K_eq_2:AV.mapA.go (λ _=>none) C_eq_2=some C_eq_2)(E_eq_2:∀ vs w,(callFunc F_eq_2 vs).run Tryd.prog w=.ok (.enter F_eq_2 vs) w)(H_eq_2:∀ (x0:ab) (x1:ab) r,eq_2 x0 x1=some r→dK Tryd.prog F_eq_2 ([.p (.agg (ab.cs x0)),.p (.agg (ab.cs x1))]++C_eq_2) (·=.p (eB r)))(r:Bool)(h0:av n s1_0 s2_1 eq_2=some r):dK Tryd.prog 33 [.p (eL bP s1_0),.p (eL bP s2_1),.func (.func F_eq_2) C_eq_2] (·=.p (eB r)):=by
 unfold av at h0
 refine np good Tryd.func33 rfl rfl rfl λ w0=>mP (λ v:Bool=>.p (eB v)) ?_
 refine nx 8 rfl (oLl (f:=bP) rfl rfl ?_)
 refine nx 1 rfl (oLl (f:=bP) rfl rfl ?_)
 refine nx 2 rfl (fN [14] h0 rfl (λ c1 h0=>?_) λ c1 h0=>?_)
 ·refine nx 6 rfl (oLl (f:=bP) rfl rfl ?_)
  refine nx 3 rfl ?_
  obtain ⟨o20,h1,hL0,hR0⟩:=fP h0
  refine kEx 0 (λ v21:Unit=>o20=.inl v21) (λ v21=>⟨[],[]⟩) (λ v21 hv=>?_) ?_
  ·have h0:=hL0 _ hv
   exact nx 6 rfl (mQ (oi h0) rfl (sr))
  refine lG (λ (q22:Int)=>⟨[(1,.p (eL bP s2_1)),(2,.func (.func F_eq_2) C_eq_2),(15,.p (eL bP s1_0)),(16,.p (eI (s1_0.length:Int))),(17,.p (eI q22))],[]⟩) (λ m (q22:Int)=>ae s1_0 s2_1 eq_2 m q22) (λ _=>rfl) 0 h1 (gE rfl rfl) ?_
  rintro m t10 h1
  replace h1:ae s1_0 s2_1 eq_2 (m+1) t10=some o20:=h1
  rw [ae] at h1
  refine nx 5 rfl (fD [18] h1 rfl (λ c11 h1=>?_) λ c11 h1=>?_)
  ·refine nx 7 rfl (oE h1 ab.cells_eq rfl rfl (λ _=>rfl) λ hk12 h1=>?_)
   refine nx 9 rfl (oE h1 ab.cells_eq rfl rfl (λ _=>rfl) λ hk13 h1=>?_)
   refine nx 9 rfl (bd h1 λ r14 e15 h1=>?_)
   refine mG (gFn 2 C_eq_2 rfl (by simp only [fh K_eq_2])) (mG (gFn 26 C_eq_2 rfl (by simp only [fh K_eq_2])) ?_)
   refine mO rfl (fj (q:=[.p (.agg (ab.cs (lat s1_0 t10))),.p (.agg (ab.cs (lat s2_1 t10)))]) (H_eq_2 (lat s1_0 t10) (lat s2_1 t10) _ e15) rfl rfl rfl rfl K_eq_2 rfl rfl ⟨sr,sr,trivial⟩ E_eq_2 rfl ?_)
   refine nx 2 rfl (fB [30] h1 rfl (λ c16 h1=>?_) λ c16 h1=>?_)
   ·exact nx 6 rfl (mQ (hR0 _ (oi h1).symm) rfl (sr))
   refine nx 3 rfl (oA h1 rfl rfl λ hk17 h1=>?_)
   exact nx 2 rfl (eX (t10+1) h1 (gE rfl rfl))
  exact nx 2 rfl (eXi _ (oi h1).symm (gE rfl rfl))
 exact nx 6 rfl (mQ (oi h0) rfl (sr))
def bX:Nat→ab→ab→Option Bool
 | 0,_,_=>none
 | n+1,a_0,b_1 =>
 (
   if a_0.fKind=b_1.fKind then
    if a_0.fNum=b_1.fNum then
     if a_0.fStr=b_1.fStr then
      (aQ n a_0.fKeys b_1.fKeys).bind λ r4 =>
      if r4=true then
       (av n a_0.fItems b_1.fItems (λ x0 x1=>(bX n) x0 x1)).bind λ r8 =>
       some r8
      else
       some false
     else
      some false
    else
     some false
   else
    some false
  : Option Bool).bind λ t10 =>
 some t10
theorem lj (n:Nat):∀ (a_0:ab) (b_1:ab) (r:Bool),bX n a_0 b_1=some r→aE Tryd.prog 14 [.agg (ab.cs a_0),.agg (ab.cs b_1)] (·=.p (eB r)):=by
 induction n with
 | zero=>intro a_0 b_1 r h0; cases h0
 | succ n ih =>
 have ih_value_Equal_ok:=ih
 intro a_0 b_1 r h0
 rw [bX] at h0
 refine aY good Tryd.func14 rfl rfl rfl λ w0=>mP (λ v:Bool=>.p (eB v)) ?_
 refine nx 7 rfl (bd h0 λ o12 h1 h0=>?_)
 refine kN o12 (λ v13=>⟨[(4,.p (eB v13))],[]⟩) ?_ ?_
 ·exact nx 2 rfl (mQ (oi h0) rfl (sr))
 refine nx 7 rfl (fD [9,10] h1 rfl (λ c1 h1=>?_) λ c1 h1=>?_)
 ·refine nx 7 rfl (fD [15,16,17] h1 rfl (λ c2 h1=>?_) λ c2 h1=>?_)
  ·refine nx 4 rfl (oS rfl rfl ?_)
   refine nx 2 rfl (fD [22,23,24] h1 rfl (λ c3 h1=>?_) λ c3 h1=>?_)
   ·refine nx 4 rfl (bd h1 λ r4 e5 h1=>?_)
    refine oK (dC _ a_0.fKeys b_1.fKeys _ e5) rfl ⟨sr,sr,trivial⟩ Tryd.call32 rfl (nx 2 rfl ?_)
    refine fB [29,30,31] h1 rfl (λ c6 h1=>?_) λ c6 h1=>?_
    ·refine nx 4 rfl (bd h1 λ r8 e9 h1=>?_)
     refine mO rfl (jl (cA _ a_0.fItems b_1.fItems (λ x0 x1=>(bX n) x0 x1) 14 [] rfl Tryd.call14 (λ x0 x1 r h=>(ih_value_Equal_ok x0 x1 r h).q) _ e9) rfl rfl rfl rfl (cv rfl (cv rfl (cv (iD rfl) gT))) ⟨sr,sr,sr,trivial⟩ Tryd.call33 rfl ?_)
     exact nx 3 rfl (eX _ (oi h1).symm (gE rfl rfl))
    exact nx 8 rfl (eX _ (oi h1).symm (gE rfl rfl))
   exact nx 15 rfl (eX _ (oi h1).symm (gE rfl rfl))
  exact nx 22 rfl (eX _ (oi h1).symm (gE rfl rfl))
 exact nx 29 rfl (eX _ (oi h1).symm (gE rfl rfl))
def ag (s1_0:List aa)(s2_1:List aa)(eq_2:aa→aa→Option Bool):Nat→Int→Option (Unit⊕Bool)
 | 0,_=>none
 | m+1,t10 =>
 if t10 < (s1_0.length:Int) then
  ck ((0:Int)≤t10∧t10 < (s1_0.length:Int)) <|
  ck ((0:Int)≤t10∧t10 < (s2_1.length:Int)) <|
  (eq_2 (lat s1_0 t10) (lat s2_1 t10)).bind λ r14 =>
  if (!r14)=true then
   some (.inr false)
  else
   ck (inR (t10+1)) <|
   ag s1_0 s2_1 eq_2 m (t10+1)
 else
  some (.inl ())
def aw (n:Nat)(s1_0:List aa)(s2_1:List aa)(eq_2:aa→aa→Option Bool):Option Bool :=
 if (s1_0.length:Int)=(s2_1.length:Int) then
  jn (ag s1_0 s2_1 eq_2 n 0) λ _q19 =>
  some true
 else
  some false
theorem cR (n:Nat)(s1_0:List aa)(s2_1:List aa)(eq_2:aa→aa→Option Bool)(F_eq_2:FuncId)(C_eq_2:List AV)(K_eq_2:AV.mapA.go (λ _=>none) C_eq_2=some C_eq_2)(E_eq_2:∀ vs w,(callFunc F_eq_2 vs).run Tryd.prog w=.ok (.enter F_eq_2 vs) w)(H_eq_2:∀ (x0:aa) (x1:aa) r,eq_2 x0 x1=some r→dK Tryd.prog F_eq_2 ([.p (.agg (aa.cs x0)),.p (.agg (aa.cs x1))]++C_eq_2) (·=.p (eB r)))(r:Bool)(h0:aw n s1_0 s2_1 eq_2=some r):dK Tryd.prog 15 [.p (eL ay s1_0),.p (eL ay s2_1),.func (.func F_eq_2) C_eq_2] (·=.p (eB r)):=by
 unfold aw at h0
 refine np good Tryd.func15 rfl rfl rfl λ w0=>mP (λ v:Bool=>.p (eB v)) ?_
 refine nx 8 rfl (oLl (f:=ay) rfl rfl ?_)
 refine nx 1 rfl (oLl (f:=ay) rfl rfl ?_)
 refine nx 2 rfl (fN [14] h0 rfl (λ c1 h0=>?_) λ c1 h0=>?_)
 ·refine nx 6 rfl (oLl (f:=ay) rfl rfl ?_)
  refine nx 3 rfl ?_
  obtain ⟨o20,h1,hL0,hR0⟩:=fP h0
  refine kEx 0 (λ v21:Unit=>o20=.inl v21) (λ v21=>⟨[],[]⟩) (λ v21 hv=>?_) ?_
  ·have h0:=hL0 _ hv
   exact nx 6 rfl (mQ (oi h0) rfl (sr))
  refine lG (λ (q22:Int)=>⟨[(1,.p (eL ay s2_1)),(2,.func (.func F_eq_2) C_eq_2),(15,.p (eL ay s1_0)),(16,.p (eI (s1_0.length:Int))),(17,.p (eI q22))],[]⟩) (λ m (q22:Int)=>ag s1_0 s2_1 eq_2 m q22) (λ _=>rfl) 0 h1 (gE rfl rfl) ?_
  rintro m t10 h1
  replace h1:ag s1_0 s2_1 eq_2 (m+1) t10=some o20:=h1
  rw [ag] at h1
  refine nx 5 rfl (fD [18] h1 rfl (λ c11 h1=>?_) λ c11 h1=>?_)
  ·refine nx 7 rfl (oE h1 aa.cells_eq rfl rfl (λ _=>rfl) λ hk12 h1=>?_)
   refine nx 9 rfl (oE h1 aa.cells_eq rfl rfl (λ _=>rfl) λ hk13 h1=>?_)
   refine nx 9 rfl (bd h1 λ r14 e15 h1=>?_)
   refine mG (gFn 2 C_eq_2 rfl (by simp only [fh K_eq_2])) (mG (gFn 26 C_eq_2 rfl (by simp only [fh K_eq_2])) ?_)
   refine mO rfl (fj (q:=[.p (.agg (aa.cs (lat s1_0 t10))),.p (.agg (aa.cs (lat s2_1 t10)))]) (H_eq_2 (lat s1_0 t10) (lat s2_1 t10) _ e15) rfl rfl rfl rfl K_eq_2 rfl rfl ⟨sr,sr,trivial⟩ E_eq_2 rfl ?_)
   refine nx 2 rfl (fB [30] h1 rfl (λ c16 h1=>?_) λ c16 h1=>?_)
   ·exact nx 6 rfl (mQ (hR0 _ (oi h1).symm) rfl (sr))
   refine nx 3 rfl (oA h1 rfl rfl λ hk17 h1=>?_)
   exact nx 2 rfl (eX (t10+1) h1 (gE rfl rfl))
  exact nx 2 rfl (eXi _ (oi h1).symm (gE rfl rfl))
 exact nx 6 rfl (mQ (oi h0) rfl (sr))
def aL:Nat→aa→aa→Option Bool
 | 0,_,_=>none
 | n+1,a_0,b_1 =>
 (
   if a_0.fKind=b_1.fKind then
    if a_0.fOp=b_1.fOp then
     if a_0.fName=b_1.fName then
      if a_0.fKey=b_1.fKey then
       (bX n a_0.fValue b_1.fValue).bind λ r5 =>
       if r5=true then
        (aw n a_0.fKids b_1.fKids (λ x0 x1=>(aL n) x0 x1)).bind λ r9 =>
        some r9
       else
        some false
      else
       some false
     else
      some false
    else
     some false
   else
    some false
  : Option Bool).bind λ t11 =>
 some t11
theorem bi (n:Nat):∀ (a_0:aa) (b_1:aa) (r:Bool),aL n a_0 b_1=some r→aE Tryd.prog 7 [.agg (aa.cs a_0),.agg (aa.cs b_1)] (·=.p (eB r)):=by
 induction n with
 | zero=>intro a_0 b_1 r h0; cases h0
 | succ n ih =>
 have ih_format_EqualExpr_ok:=ih
 intro a_0 b_1 r h0
 rw [aL] at h0
 refine aY good Tryd.func7 rfl rfl rfl λ w0=>mP (λ v:Bool=>.p (eB v)) ?_
 refine nx 7 rfl (bd h0 λ o13 h1 h0=>?_)
 refine kN o13 (λ v14=>⟨[(4,.p (eB v14))],[]⟩) ?_ ?_
 ·exact nx 2 rfl (mQ (oi h0) rfl (sr))
 refine nx 7 rfl (fD [9,10] h1 rfl (λ c1 h1=>?_) λ c1 h1=>?_)
 ·refine nx 7 rfl (fD [15,16,17] h1 rfl (λ c2 h1=>?_) λ c2 h1=>?_)
  ·refine nx 4 rfl (oS rfl rfl ?_)
   refine nx 2 rfl (fD [22,23,24] h1 rfl (λ c3 h1=>?_) λ c3 h1=>?_)
   ·refine nx 4 rfl (oS rfl rfl ?_)
    refine nx 2 rfl (fD [29,30,31] h1 rfl (λ c4 h1=>?_) λ c4 h1=>?_)
    ·refine nx 4 rfl (bd h1 λ r5 e6 h1=>?_)
     refine oK (lj _ a_0.fValue b_1.fValue _ e6) rfl ⟨sr,sr,trivial⟩ Tryd.call14 rfl (nx 2 rfl ?_)
     refine fB [36,37,38] h1 rfl (λ c7 h1=>?_) λ c7 h1=>?_
     ·refine nx 4 rfl (bd h1 λ r9 e10 h1=>?_)
      refine mO rfl (jl (cR _ a_0.fKids b_1.fKids (λ x0 x1=>(aL n) x0 x1) 7 [] rfl Tryd.call7 (λ x0 x1 r h=>(ih_format_EqualExpr_ok x0 x1 r h).q) _ e10) rfl rfl rfl rfl (cv rfl (cv rfl (cv (iD rfl) gT))) ⟨sr,sr,sr,trivial⟩ Tryd.call15 rfl ?_)
      exact nx 3 rfl (eX _ (oi h1).symm (gE rfl rfl))
     exact nx 8 rfl (eX _ (oi h1).symm (gE rfl rfl))
    exact nx 15 rfl (eX _ (oi h1).symm (gE rfl rfl))
   exact nx 22 rfl (eX _ (oi h1).symm (gE rfl rfl))
  exact nx 29 rfl (eX _ (oi h1).symm (gE rfl rfl))
 exact nx 36 rfl (eX _ (oi h1).symm (gE rfl rfl))
def cH (n:Nat)(s_0:Bytes):Option Bytes :=
 (d5 s_0).bind λ r1 =>
 (cX n r1).bind λ r3 =>
 ck (inR ((r3.length:Int) - 1)) <|
 ck ((0:Int)≤1∧1≤(r3.length:Int) - 1∧(r3.length:Int) - 1≤(r3.length:Int)) <|
 some (sub r3 1 ((r3.length:Int) - 1))
theorem gj (n:Nat)(s_0:Bytes)(r:Bytes)(h0:cH n s_0=some r):aE Tryd.prog 35 [eS s_0] (·=.p (eS r)):=by
 unfold cH at h0
 refine aY good Tryd.func35 rfl rfl rfl λ w0=>mP (λ v:Bytes=>.p (eS v)) ?_
 refine nx 7 rfl (bd h0 λ r1 e2 h0=>?_)
 refine oK (jM s_0 _ e2) rfl ⟨sr,trivial⟩ Tryd.call45 rfl (bd h0 λ r3 e4 h0=>?_)
 refine oK (gY _ r1 _ e4) rfl ⟨sr,trivial⟩ Tryd.call43 rfl (nx 6 rfl ?_)
 refine oLs rfl (oA h0 rfl rfl λ hk5 h0=>?_)
 exact oP h0 rfl rfl rfl λ hk6 h0=>nx 3 rfl (mQ (oi h0) rfl (sr))
def cO (n:Nat)(v_0:ab):Option Bytes :=
 if v_0.fKind=1 then
  if v_0.fNum=1 then
   some ([116,114,117,101]:Bytes)
  else
   some ([102,97,108,115,101]:Bytes)
 else
  if v_0.fKind=2 then
   (d6 v_0.fNum).bind λ r4 =>
   some r4
  else
   if v_0.fKind=3 then
    (cH n v_0.fStr).bind λ r7 =>
    ck (([34]:Bytes).length+r7.length≤9223372036854775807) <|
    ck ((([34]:Bytes)++r7).length+([34]:Bytes).length≤9223372036854775807) <|
    some ((([34]:Bytes)++r7)++([34]:Bytes))
   else
    some ([110,117,108,108]:Bytes)
theorem jh (n:Nat)(v_0:ab)(r:Bytes)(h0:cO n v_0=some r):aE Tryd.prog 16 [.agg (ab.cs v_0)] (·=.p (eS r)):=by
 unfold cO at h0
 refine aY good Tryd.func16 rfl rfl rfl λ w0=>mP (λ v:Bytes=>.p (eS v)) ?_
 refine nx 17 rfl (fD [5,6] h0 rfl (λ c1 h0=>?_) λ c1 h0=>?_)
 ·refine nx 8 rfl (fD [9] h0 rfl (λ c2 h0=>?_) λ c2 h0=>?_)
  ·exact nx 6 rfl (mQ (oi h0) rfl (sr))
  exact nx 7 rfl (mQ (oi h0) rfl (sr))
 refine nx 6 rfl (fD [10,11] h0 rfl (λ c3 h0=>?_) λ c3 h0=>?_)
 ·refine nx 5 rfl (bd h0 λ r4 e5 h0=>?_)
  refine oK (jI v_0.fNum _ e5) rfl ⟨sr,trivial⟩ Tryd.call34 rfl (nx 3 rfl ?_)
  exact mQ (oi h0) rfl (sr)
 refine nx 6 rfl (fD [15,16] h0 rfl (λ c6 h0=>?_) λ c6 h0=>?_)
 ·refine nx 5 rfl (bd h0 λ r7 e8 h0=>?_)
  refine oK (gj _ v_0.fStr _ e8) rfl ⟨sr,trivial⟩ Tryd.call35 rfl (oC h0 rfl λ hk9 h0=>?_)
  exact oC h0 rfl λ hk10 h0=>nx 3 rfl (mQ (oi h0) rfl (sr))
 exact nx 7 rfl (mQ (oi h0) rfl (sr))
def eq (e_0:aa):Option Bool :=
 (
   if e_0.fKind=1 then
    if e_0.fValue.fKind=3 then
     some (!decide (e_0.fValue.fStr=([]:Bytes)))
    else
     some false
   else
    some false
  : Option Bool).bind λ t3 =>
 some t3
theorem kz (e_0:aa)(r:Bool)(h0:eq e_0=some r):aE Tryd.prog 37 [.agg (aa.cs e_0)] (·=.p (eB r)):=by
 unfold eq at h0
 refine aY good Tryd.func37 rfl rfl rfl λ w0=>mP (λ v:Bool=>.p (eB v)) ?_
 refine nx 6 rfl (bd h0 λ o5 h1 h0=>?_)
 refine kN o5 (λ v6=>⟨[(2,.p (eB v6))],[]⟩) ?_ ?_
 ·exact nx 2 rfl (mQ (oi h0) rfl (sr))
 refine nx 5 rfl (fD [5,6] h1 rfl (λ c1 h1=>?_) λ c1 h1=>?_)
 ·refine nx 6 rfl (fD [10,11,12] h1 rfl (λ c2 h1=>?_) λ c2 h1=>?_)
  ·refine nx 3 rfl (oS rfl rfl ?_)
   exact nx 3 rfl (eX _ (oi h1).symm (gE rfl rfl))
  exact nx 7 rfl (eX _ (oi h1).symm (gE rfl rfl))
 exact nx 13 rfl (eX _ (oi h1).symm (gE rfl rfl))
def bs (s_0:Bytes):Nat→Int→Option (Unit⊕Bool)
 | 0,_=>none
 | m+1,t19 =>
 if t19 < (s_0.length:Int) then
  ck ((0:Int)≤t19∧t19 < (s_0.length:Int)) <|
  (
    ck ((0:Int)≤t19∧t19 < (s_0.length:Int)) <|
    if byt s_0 t19=95 then
     some false
    else
     if iOr .u8 (byt s_0 t19) 32 < 97 then
      if t19=0 then
       some true
      else
       ck ((0:Int)≤t19∧t19 < (s_0.length:Int)) <|
       if byt s_0 t19 < 48 then
        some true
       else
        ck ((0:Int)≤t19∧t19 < (s_0.length:Int)) <|
        some (decide (57 < byt s_0 t19))
     else
      if 122 < iOr .u8 (byt s_0 t19) 32 then
       if t19=0 then
        some true
       else
        ck ((0:Int)≤t19∧t19 < (s_0.length:Int)) <|
        if byt s_0 t19 < 48 then
         some true
        else
         ck ((0:Int)≤t19∧t19 < (s_0.length:Int)) <|
         some (decide (57 < byt s_0 t19))
      else
       some false
   : Option Bool).bind λ t34 =>
  if t34=true then
   some (.inr false)
  else
   ck (inR (t19+1)) <|
   bs s_0 m (t19+1)
 else
  some (.inl ())
def dy (n:Nat)(s_0:Bytes):Option Bool :=
 jn (bs s_0 n 0) λ _q46 =>
 (
   if s_0=([]:Bytes) then
    some true
   else
    if s_0=([110,117,108,108]:Bytes) then
     some true
    else
     if s_0=([116,114,117,101]:Bytes) then
      some true
     else
      if s_0=([102,97,108,115,101]:Bytes) then
       some true
      else
       if s_0=([102,111,114]:Bytes) then
        some true
       else
        if s_0=([105,110]:Bytes) then
         some true
        else
         some (decide (s_0=([105,102]:Bytes)))
  : Option Bool).bind λ t44 =>
 if t44=true then
  some false
 else
  some (decide ((s_0.length:Int)≤64))
theorem kZ (n:Nat)(s_0:Bytes)(r:Bool)(h0:dy n s_0=some r):aE Tryd.prog 49 [eS s_0] (·=.p (eB r)):=by
 unfold dy at h0
 refine aY good Tryd.func49 rfl rfl rfl λ w0=>mP (λ v:Bool=>.p (eB v)) ?_
 refine nx 8 rfl (oLs rfl ?_)
 refine nx 3 rfl ?_
 obtain ⟨o49,h1,hL0,hR0⟩:=fP h0
 refine kEx 0 (λ v50:Unit=>o49=.inl v50) (λ v50=>⟨[(0,.p (eS s_0))],[]⟩) (λ v50 hv=>?_) ?_
 ·have h0:=hL0 _ hv
  refine nx 8 rfl (bd h0 λ o51 h1 h0=>?_)
  refine kN o51 (λ v52=>⟨[(0,.p (eS s_0)),(44,.p (eB v52))],[]⟩) ?_ ?_
  ·refine nx 1 rfl (fB [44] h0 rfl (λ c45 h0=>?_) λ c45 h0=>?_)
   ·exact nx 6 rfl (mQ (oi h0) rfl (sr))
   refine nx 5 rfl (oLs rfl ?_)
   exact nx 4 rfl (mQ (oi h0) rfl (sr))
  refine nx 2 rfl (oS rfl rfl ?_)
  refine nx 2 rfl (fD [44,45] h1 rfl (λ c38 h1=>?_) λ c38 h1=>?_)
  ·exact nx 2 rfl (eX _ (oi h1).symm (gE rfl rfl))
  refine nx 3 rfl (oS rfl rfl ?_)
  refine nx 2 rfl (fD [44,46] h1 rfl (λ c39 h1=>?_) λ c39 h1=>?_)
  ·exact nx 2 rfl (eX _ (oi h1).symm (gE rfl rfl))
  refine nx 3 rfl (oS rfl rfl ?_)
  refine nx 2 rfl (fD [44,47] h1 rfl (λ c40 h1=>?_) λ c40 h1=>?_)
  ·exact nx 2 rfl (eX _ (oi h1).symm (gE rfl rfl))
  refine nx 3 rfl (oS rfl rfl ?_)
  refine nx 2 rfl (fD [44,48] h1 rfl (λ c41 h1=>?_) λ c41 h1=>?_)
  ·exact nx 2 rfl (eX _ (oi h1).symm (gE rfl rfl))
  refine nx 3 rfl (oS rfl rfl ?_)
  refine nx 2 rfl (fD [44,49] h1 rfl (λ c42 h1=>?_) λ c42 h1=>?_)
  ·exact nx 2 rfl (eX _ (oi h1).symm (gE rfl rfl))
  refine nx 3 rfl (oS rfl rfl ?_)
  refine nx 2 rfl (fD [44,50] h1 rfl (λ c43 h1=>?_) λ c43 h1=>?_)
  ·exact nx 2 rfl (eX _ (oi h1).symm (gE rfl rfl))
  refine nx 2 rfl (oS rfl rfl ?_)
  exact nx 2 rfl (eX _ (oi h1).symm (gE rfl rfl))
 refine lG (λ (q53:Int)=>⟨[(0,.p (eS s_0)),(6,.p (eI (s_0.length:Int))),(7,.p (eI q53))],[]⟩) (λ m (q53:Int)=>bs s_0 m q53) (λ _=>rfl) 0 h1 (gE rfl rfl) ?_
 rintro m t19 h1
 replace h1:bs s_0 (m+1) t19=some o49:=h1
 rw [bs] at h1
 refine nx 5 rfl (fD [8] h1 rfl (λ c20 h1=>?_) λ c20 h1=>?_)
 ·refine nx 13 rfl (oI h1 rfl λ hk21 h1=>?_)
  refine nx 4 rfl (bd h1 λ o54 h2 h1=>?_)
  refine kN o54 (λ v55=>⟨[(0,.p (eS s_0)),(6,.p (eI (s_0.length:Int))),(7,.p (eI t19)),(41,.p (eB v55))],[]⟩) ?_ ?_
  ·refine nx 1 rfl (fB [41] h1 rfl (λ c35 h1=>?_) λ c35 h1=>?_)
   ·exact nx 6 rfl (mQ (hR0 _ (oi h1).symm) rfl (sr))
   refine nx 3 rfl (oA h1 rfl rfl λ hk36 h1=>?_)
   exact nx 2 rfl (eX (t19+1) h1 (gE rfl rfl))
  refine nx 3 rfl (oI h2 rfl λ hk22 h2=>?_)
  refine nx 2 rfl (fN [17,18] h2 rfl (λ c23 h2=>?_) λ c23 h2=>?_)
  ·exact nx 24 rfl (eX _ (oi h2).symm (gE rfl rfl))
  refine nx 3 rfl (fD [20,21] h2 rfl (λ c24 h2=>?_) λ c24 h2=>?_)
  ·refine nx 8 rfl (fD [28,29] h2 rfl (λ c25 h2=>?_) λ c25 h2=>?_)
   ·exact nx 13 rfl (eX _ (oi h2).symm (gE rfl rfl))
   refine nx 2 rfl (oI h2 rfl λ hk26 h2=>?_)
   refine nx 3 rfl (fD [33,34,35] h2 rfl (λ c27 h2=>?_) λ c27 h2=>?_)
   ·exact nx 7 rfl (eX _ (oi h2).symm (gE rfl rfl))
   refine nx 2 rfl (oI h2 rfl λ hk28 h2=>?_)
   exact nx 4 rfl (eX _ (oi h2).symm (gE rfl rfl))
  refine nx 5 rfl (fD [23,24,25,26] h2 rfl (λ c29 h2=>?_) λ c29 h2=>?_)
  ·refine nx 3 rfl (fD [28,29] h2 rfl (λ c30 h2=>?_) λ c30 h2=>?_)
   ·exact nx 13 rfl (eX _ (oi h2).symm (gE rfl rfl))
   refine nx 2 rfl (oI h2 rfl λ hk31 h2=>?_)
   refine nx 3 rfl (fD [33,34,35] h2 rfl (λ c32 h2=>?_) λ c32 h2=>?_)
   ·exact nx 7 rfl (eX _ (oi h2).symm (gE rfl rfl))
   refine nx 2 rfl (oI h2 rfl λ hk33 h2=>?_)
   exact nx 4 rfl (eX _ (oi h2).symm (gE rfl rfl))
  exact nx 16 rfl (eX _ (oi h2).symm (gE rfl rfl))
 exact nx 2 rfl (eXi _ (oi h1).symm (gE rfl rfl))
def cI (e_0:aa):Option Int :=
 if e_0.fKind=8 then
  some 0
 else
  if e_0.fKind=6 then
   some 7
  else
   if e_0.fKind=7 then
    if e_0.fOp=3 then
     some 1
    else
     if e_0.fOp=4 then
      some 2
     else
      if e_0.fOp≤6 then
       some 3
      else
       if e_0.fOp≤10 then
        some 4
       else
        if e_0.fOp≤12 then
         some 5
        else
         some 6
   else
    some 8
theorem gX (e_0:aa)(r:Int)(h0:cI e_0=some r):aE Tryd.prog 22 [.agg (aa.cs e_0)] (·=.p (eI r)):=by
 unfold cI at h0
 refine aY good Tryd.func22 rfl rfl rfl λ w0=>mP (λ v:Int=>.p (eI v)) ?_
 refine nx 17 rfl (fD [5,6] h0 rfl (λ c1 h0=>?_) λ c1 h0=>?_)
 ·exact nx 6 rfl (mQ (oi h0) rfl (sr))
 refine nx 6 rfl (fD [7,8] h0 rfl (λ c2 h0=>?_) λ c2 h0=>?_)
 ·exact nx 6 rfl (mQ (oi h0) rfl (sr))
 refine nx 6 rfl (fD [9,10] h0 rfl (λ c3 h0=>?_) λ c3 h0=>?_)
 ·refine nx 10 rfl (fD [11,14] h0 rfl (λ c4 h0=>?_) λ c4 h0=>?_)
  ·exact nx 6 rfl (mQ (oi h0) rfl (sr))
  refine nx 8 rfl (fD [15,18] h0 rfl (λ c5 h0=>?_) λ c5 h0=>?_)
  ·exact nx 6 rfl (mQ (oi h0) rfl (sr))
  refine nx 8 rfl (fD [19,22] h0 rfl (λ c6 h0=>?_) λ c6 h0=>?_)
  ·exact nx 6 rfl (mQ (oi h0) rfl (sr))
  refine nx 8 rfl (mG (gE (t:=⟨[(1,.ptr 1 0),(23,.p (eB (decide (e_0.fOp≤10))))],[(1,(aa.cs e_0).map .p)]⟩) rfl rfl) ?_)
  refine fD [23] h0 rfl (λ c7 h0=>?_) λ c7 h0=>?_
  ·exact nx 6 rfl (mQ (oi h0) rfl (sr))
  refine nx 8 rfl (fD [27,30] h0 rfl (λ c8 h0=>?_) λ c8 h0=>?_)
  ·exact nx 6 rfl (mQ (oi h0) rfl (sr))
  exact nx 7 rfl (mQ (oi h0) rfl (sr))
 exact nx 7 rfl (mQ (oi h0) rfl (sr))
def cY (o_0:Int):Option Bytes :=
 (
   if o_0 < 0 then
    some true
   else
    some (decide (16≤o_0))
  : Option Bool).bind λ t2 =>
 if t2=true then
  some ([]:Bytes)
 else
  ck ((0:Int)≤o_0∧o_0 < 16) <|
  some (lat ([([]:Bytes),([33]:Bytes),([45]:Bytes),([124,124]:Bytes),([38,38]:Bytes),([61,61]:Bytes),([33,61]:Bytes),([60]:Bytes),([60,61]:Bytes),([62]:Bytes),([62,61]:Bytes),([43]:Bytes),([45]:Bytes),([42]:Bytes),([47]:Bytes),([37]:Bytes)]:List Bytes) o_0)
theorem ia (o_0:Int)(r:Bytes)(h0:cY o_0=some r):aE Tryd.prog 21 [eI o_0] (·=.p (eS r)):=by
 unfold cY at h0
 refine aY good Tryd.func21 rfl rfl rfl λ w0=>mP (λ v:Bytes=>.p (eS v)) ?_
 refine nx 12 rfl (bd h0 λ o6 h1 h0=>?_)
 refine kN o6 (λ v7=>⟨[(0,.p (eI o_0)),(3,.ptr 3 0),(10,.p (eB v7))],[(3,[.p (eS ([]:Bytes)),.p (eS ([33]:Bytes)),.p (eS ([45]:Bytes)),.p (eS ([124,124]:Bytes)),.p (eS ([38,38]:Bytes)),.p (eS ([61,61]:Bytes)),.p (eS ([33,61]:Bytes)),.p (eS ([60]:Bytes)),.p (eS ([60,61]:Bytes)),.p (eS ([62]:Bytes)),.p (eS ([62,61]:Bytes)),.p (eS ([43]:Bytes)),.p (eS ([45]:Bytes)),.p (eS ([42]:Bytes)),.p (eS ([47]:Bytes)),.p (eS ([37]:Bytes))])]⟩) ?_ ?_
 ·refine nx 1 rfl (fB [10] h0 rfl (λ c3 h0=>?_) λ c3 h0=>?_)
  ·exact nx 6 rfl (mQ (oi h0) rfl (sr))
  refine nx 5 rfl (cc' h0 λ hk4 h0=>?_)
  refine mO rfl (kq rfl rfl rfl rfl rfl rfl rfl rfl rfl hk4 ?_)
  refine mO rfl (sS (default:Bytes) (f:=eS) (l:=[([]:Bytes),([33]:Bytes),([45]:Bytes),([124,124]:Bytes),([38,38]:Bytes),([61,61]:Bytes),([33,61]:Bytes),([60]:Bytes),([60,61]:Bytes),([62]:Bytes),([62,61]:Bytes),([43]:Bytes),([45]:Bytes),([42]:Bytes),([47]:Bytes),([37]:Bytes)]) rfl rfl rfl rfl rfl rfl rfl (by have:=hk4; simp only [List.length_cons,List.length_nil]; omega) ?_)
  exact nx 3 rfl (mQ (oi h0) rfl (sr))
 refine nx 4 rfl (fD [6,7] h1 rfl (λ c1 h1=>?_) λ c1 h1=>?_)
 ·exact nx 4 rfl (eX _ (oi h1).symm (gE rfl rfl))
 exact nx 4 rfl (eX _ (oi h1).symm (gE rfl rfl))
def aU (n:Nat)(r_format_Expr:aa→Option Bytes)(l_0:List aa):Nat→Bool→Int→(List UInt8)→Option (List UInt8)
 | 0,_,_,_=>none
 | m+1,text38,t39,f40 =>
 if t39 < (l_0.length:Int) then
  (
    ck ((0:Int)≤t39∧t39 < (l_0.length:Int)) <|
    (
      (eq (lat l_0 t39)).bind λ r43 =>
      if r43=true then
       if (!text38)=true then
        some (decide (1 < (l_0.length:Int)))
       else
        some false
      else
       some false
     : Option Bool).bind λ text47 =>
    if (!text47)=true then
     (r_format_Expr (lat l_0 t39)).bind λ r49 =>
     ck (([36,123]:Bytes).length+r49.length≤9223372036854775807) <|
     ck ((([36,123]:Bytes)++r49).length+([125]:Bytes).length≤9223372036854775807) <|
     (az (al.mk f40) ((([36,123]:Bytes)++r49)++([125]:Bytes))).bind λ r53 =>
     some (text47,r53.2.2.fbuf)
    else
     (
       (
         ck (inR ((l_0.length:Int) - 1)) <|
         if t39 < (l_0.length:Int) - 1 then
          (strings_HasSuffix (((lat l_0 t39).fValue).fStr) ([36]:Bytes)).bind λ r57 =>
          some r57
         else
          some false
        : Option Bool).bind λ t59 =>
       if t59=true then
        ck (inR (((((lat l_0 t39).fValue).fStr).length:Int) - 1)) <|
        ck ((0:Int)≤0∧0≤((((lat l_0 t39).fValue).fStr).length:Int) - 1∧((((lat l_0 t39).fValue).fStr).length:Int) - 1≤((((lat l_0 t39).fValue).fStr).length:Int)) <|
        some (sub (((lat l_0 t39).fValue).fStr) 0 (((((lat l_0 t39).fValue).fStr).length:Int) - 1),([92,117,123,50,52,125]:Bytes))
       else
        some (((lat l_0 t39).fValue).fStr,([]:Bytes))
      : Option (Bytes×Bytes)).bind λ q84 =>
     (cH n q84.1).bind λ r65 =>
     ck (r65.length+q84.2.length≤9223372036854775807) <|
     (az (al.mk f40) (r65++q84.2)).bind λ r68 =>
     some (text47,r68.2.2.fbuf)
   : Option (Bool×(List UInt8))).bind λ q82 =>
  ck (inR (t39+1)) <|
  aU n r_format_Expr l_0 m q82.1 (t39+1) q82.2
 else
  some f40
def bn (r_format_Expr:aa→Option Bytes)(l_0:List aa):Nat→(List Bytes)→Int→Option (List Bytes)
 | 0,_,_=>none
 | m+1,out9,t10 =>
 if t10 < (l_0.length:Int) then
  ck ((0:Int)≤t10∧t10 < (l_0.length:Int)) <|
  (r_format_Expr (lat l_0 t10)).bind λ r13 =>
  ck ((out9.length+[r13].length)*16≤140737488355328) <|
  ck (inR (t10+1)) <|
  bn r_format_Expr l_0 m (out9++[r13]) (t10+1)
 else
  some out9
def bp (r_format_Expr:aa→Option Bytes)(r_format_key:aa→Option Bytes)(l_0:List aa):Nat→(List Bytes)→Int→Option (List Bytes)
 | 0,_,_=>none
 | m+1,out16,i17 =>
 ck (inR (i17+1)) <|
 if i17+1 < (l_0.length:Int) then
  ck ((0:Int)≤i17∧i17 < (l_0.length:Int)) <|
  (r_format_key (lat l_0 i17)).bind λ r21 =>
  ck (r21.length+([32,61,32]:Bytes).length≤9223372036854775807) <|
  ck (inR (i17+1)) <|
  ck ((0:Int)≤i17+1∧i17+1 < (l_0.length:Int)) <|
  (r_format_Expr (lat l_0 (i17+1))).bind λ r26 =>
  ck ((r21++([32,61,32]:Bytes)).length+r26.length≤9223372036854775807) <|
  ck ((out16.length+([(r21++([32,61,32]:Bytes))++r26]).length)*16≤140737488355328) <|
  ck (inR (i17+2)) <|
  bp r_format_Expr r_format_key l_0 m (out16++([(r21++([32,61,32]:Bytes))++r26])) (i17+2)
 else
  some out16
mutual
def aj:Nat→aa→Option Bytes
 | 0,_=>none
 | n+1,e_0 =>
 if e_0.fKind=1 then
  (cO n e_0.fValue).bind λ r2 =>
  some r2
 else
  if e_0.fKind=2 then
   ((cu n) e_0.fKids).bind λ r5 =>
   some r5
  else
   if e_0.fKind=3 then
    some e_0.fName
   else
    if e_0.fKind=9 then
     ck (e_0.fName.length+([40]:Bytes).length≤9223372036854775807) <|
     ((dm n) e_0.fKids).bind λ r10 =>
     ck ((e_0.fName++([40]:Bytes)).length+r10.length≤9223372036854775807) <|
     ck (((e_0.fName++([40]:Bytes))++r10).length+([41]:Bytes).length≤9223372036854775807) <|
     some (((e_0.fName++([40]:Bytes))++r10)++([41]:Bytes))
    else
     if e_0.fKind=10 then
      ((dm n) e_0.fKids).bind λ r15 =>
      ck (([91]:Bytes).length+r15.length≤9223372036854775807) <|
      ck ((([91]:Bytes)++r15).length+([93]:Bytes).length≤9223372036854775807) <|
      some ((([91]:Bytes)++r15)++([93]:Bytes))
     else
      if e_0.fKind=11 then
       ((cL n) e_0.fKids).bind λ r20 =>
       some r20
      else
       (
         if e_0.fKind=4 then
          some (decide ((e_0.fKids.length:Int)=1))
         else
          some false
        : Option Bool).bind λ t23 =>
       if t23=true then
        ck ((0:Int)≤0∧0 < (e_0.fKids.length:Int)) <|
        ((cZ n) (lat e_0.fKids 0) 8).bind λ r26 =>
        ck (r26.length+([46]:Bytes).length≤9223372036854775807) <|
        ck ((r26++([46]:Bytes)).length+e_0.fName.length≤9223372036854775807) <|
        some ((r26++([46]:Bytes))++e_0.fName)
       else
        (
          if e_0.fKind=5 then
           some (decide ((e_0.fKids.length:Int)=2))
          else
           some false
         : Option Bool).bind λ t31 =>
        if t31=true then
         ck ((0:Int)≤0∧0 < (e_0.fKids.length:Int)) <|
         ((cZ n) (lat e_0.fKids 0) 8).bind λ r34 =>
         ck (r34.length+([91]:Bytes).length≤9223372036854775807) <|
         ck ((0:Int)≤1∧1 < (e_0.fKids.length:Int)) <|
         ((aj n) (lat e_0.fKids 1)).bind λ r38 =>
         ck ((r34++([91]:Bytes)).length+r38.length≤9223372036854775807) <|
         ck (((r34++([91]:Bytes))++r38).length+([93]:Bytes).length≤9223372036854775807) <|
         some (((r34++([91]:Bytes))++r38)++([93]:Bytes))
        else
         (
           if e_0.fKind=6 then
            some (decide ((e_0.fKids.length:Int)=1))
           else
            some false
          : Option Bool).bind λ t43 =>
         if t43=true then
          (cY e_0.fOp).bind λ r45 =>
          ck ((0:Int)≤0∧0 < (e_0.fKids.length:Int)) <|
          ((cZ n) (lat e_0.fKids 0) 7).bind λ r48 =>
          ck (r45.length+r48.length≤9223372036854775807) <|
          some (r45++r48)
         else
          (
            if e_0.fKind=7 then
             some (decide ((e_0.fKids.length:Int)=2))
            else
             some false
           : Option Bool).bind λ t52 =>
          if t52=true then
           (cI e_0).bind λ r54 =>
           ck ((0:Int)≤0∧0 < (e_0.fKids.length:Int)) <|
           ((cZ n) (lat e_0.fKids 0) r54).bind λ r57 =>
           ck (r57.length+([32]:Bytes).length≤9223372036854775807) <|
           (cY e_0.fOp).bind λ r60 =>
           ck ((r57++([32]:Bytes)).length+r60.length≤9223372036854775807) <|
           ck (((r57++([32]:Bytes))++r60).length+([32]:Bytes).length≤9223372036854775807) <|
           ck ((0:Int)≤1∧1 < (e_0.fKids.length:Int)) <|
           ck (inR (r54+1)) <|
           ((cZ n) (lat e_0.fKids 1) (r54+1)).bind λ r66 =>
           ck ((((r57++([32]:Bytes))++r60)++([32]:Bytes)).length+r66.length≤9223372036854775807) <|
           some ((((r57++([32]:Bytes))++r60)++([32]:Bytes))++r66)
          else
           (
             if e_0.fKind=8 then
              some (decide ((e_0.fKids.length:Int)=3))
             else
              some false
            : Option Bool).bind λ t70 =>
           if t70=true then
            ck ((0:Int)≤0∧0 < (e_0.fKids.length:Int)) <|
            ((cZ n) (lat e_0.fKids 0) 1).bind λ r73 =>
            ck (r73.length+([32,63,32]:Bytes).length≤9223372036854775807) <|
            ck ((0:Int)≤1∧1 < (e_0.fKids.length:Int)) <|
            ((aj n) (lat e_0.fKids 1)).bind λ r77 =>
            ck ((r73++([32,63,32]:Bytes)).length+r77.length≤9223372036854775807) <|
            ck (((r73++([32,63,32]:Bytes))++r77).length+([32,58,32]:Bytes).length≤9223372036854775807) <|
            ck ((0:Int)≤2∧2 < (e_0.fKids.length:Int)) <|
            ((aj n) (lat e_0.fKids 2)).bind λ r82 =>
            ck ((((r73++([32,63,32]:Bytes))++r77)++([32,58,32]:Bytes)).length+r82.length≤9223372036854775807) <|
            some ((((r73++([32,63,32]:Bytes))++r77)++([32,58,32]:Bytes))++r82)
           else
            (
              if e_0.fKind=12 then
               some (decide (2≤(e_0.fKids.length:Int)))
              else
               some false
             : Option Bool).bind λ t86 =>
            if t86=true then
             ((dp n) e_0).bind λ r88 =>
             ck (([91]:Bytes).length+r88.length≤9223372036854775807) <|
             ck ((([91]:Bytes)++r88).length+([93]:Bytes).length≤9223372036854775807) <|
             some ((([91]:Bytes)++r88)++([93]:Bytes))
            else
             (
               if e_0.fKind=13 then
                some (decide (3≤(e_0.fKids.length:Int)))
               else
                some false
              : Option Bool).bind λ t93 =>
             if t93=true then
              ((dp n) e_0).bind λ r95 =>
              ck (([123]:Bytes).length+r95.length≤9223372036854775807) <|
              ck ((([123]:Bytes)++r95).length+([125]:Bytes).length≤9223372036854775807) <|
              some ((([123]:Bytes)++r95)++([125]:Bytes))
             else
              some ([]:Bytes)
def cu:Nat→(List aa)→Option Bytes
 | 0,_=>none
 | n+1,l_0 =>
 (aK (al.mk []) 34).bind λ r1 =>
 (aU n (aj n) l_0 n false 0 r1.2.fbuf).bind λ f76 =>
 (aK (al.mk f76) 34).bind λ r77 =>
 (bK (al.mk r77.2.fbuf)).bind λ r79 =>
 some r79.1
def dm:Nat→(List aa)→Option Bytes
 | 0,_=>none
 | n+1,l_0 =>
 (bn (aj n) l_0 n [] 0).bind λ out19 =>
 (strings_Join out19 ([44,32]:Bytes)).bind λ r20 =>
 some r20
def cL:Nat→(List aa)→Option Bytes
 | 0,_=>none
 | n+1,l_0 =>
 (bp (aj n) (cV n) l_0 n [] 0).bind λ out33 =>
 (strings_Join out33 ([44,32]:Bytes)).bind λ r34 =>
 ck (([123]:Bytes).length+r34.length≤9223372036854775807) <|
 ck ((([123]:Bytes)++r34).length+([125]:Bytes).length≤9223372036854775807) <|
 some ((([123]:Bytes)++r34)++([125]:Bytes))
def cZ:Nat→aa→Int→Option Bytes
 | 0,_,_=>none
 | n+1,e_0,n_1 =>
 (cI e_0).bind λ r1 =>
 if r1 < n_1 then
  ((aj n) e_0).bind λ r4 =>
  ck (([40]:Bytes).length+r4.length≤9223372036854775807) <|
  ck ((([40]:Bytes)++r4).length+([41]:Bytes).length≤9223372036854775807) <|
  some ((([40]:Bytes)++r4)++([41]:Bytes))
 else
  ((aj n) e_0).bind λ r8 =>
  some r8
def dp:Nat→aa→Option Bytes
 | 0,_=>none
 | n+1,e_0 =>
 (
   if e_0.fKey=([]:Bytes) then
    some ([102,111,114,32]:Bytes)
   else
    ck (e_0.fKey.length+([44,32]:Bytes).length≤9223372036854775807) <|
    ck (([102,111,114,32]:Bytes).length+(e_0.fKey++([44,32]:Bytes)).length≤9223372036854775807) <|
    some (([102,111,114,32]:Bytes)++(e_0.fKey++([44,32]:Bytes)))
  : Option Bytes).bind λ s4 =>
 ck (e_0.fName.length+([32,105,110,32]:Bytes).length≤9223372036854775807) <|
 ck ((0:Int)≤0∧0 < (e_0.fKids.length:Int)) <|
 ((aj n) (lat e_0.fKids 0)).bind λ r7 =>
 ck ((e_0.fName++([32,105,110,32]:Bytes)).length+r7.length≤9223372036854775807) <|
 ck (((e_0.fName++([32,105,110,32]:Bytes))++r7).length+([32,58,32]:Bytes).length≤9223372036854775807) <|
 ck ((0:Int)≤1∧1 < (e_0.fKids.length:Int)) <|
 ((aj n) (lat e_0.fKids 1)).bind λ r12 =>
 ck ((((e_0.fName++([32,105,110,32]:Bytes))++r7)++([32,58,32]:Bytes)).length+r12.length≤9223372036854775807) <|
 ck (s4.length+((((e_0.fName++([32,105,110,32]:Bytes))++r7)++([32,58,32]:Bytes))++r12).length≤9223372036854775807) <|
 ck ((0:Int)≤2∧2≤(e_0.fKids.length:Int)∧(e_0.fKids.length:Int)≤(e_0.fKids.length:Int)) <|
 (
   if e_0.fKind=13 then
    ck ((0:Int)≤0∧0 < ((sub e_0.fKids 2 (e_0.fKids.length:Int)).length:Int)) <|
    ((aj n) (lat (sub e_0.fKids 2 (e_0.fKids.length:Int)) 0)).bind λ r19 =>
    ck (([32,61,62,32]:Bytes).length+r19.length≤9223372036854775807) <|
    ck ((s4++((((e_0.fName++([32,105,110,32]:Bytes))++r7)++([32,58,32]:Bytes))++r12)).length+(([32,61,62,32]:Bytes)++r19).length≤9223372036854775807) <|
    ck ((0:Int)≤1∧1≤((sub e_0.fKids 2 (e_0.fKids.length:Int)).length:Int)∧((sub e_0.fKids 2 (e_0.fKids.length:Int)).length:Int)≤((sub e_0.fKids 2 (e_0.fKids.length:Int)).length:Int)) <|
    some ((s4++((((e_0.fName++([32,105,110,32]:Bytes))++r7)++([32,58,32]:Bytes))++r12))++(([32,61,62,32]:Bytes)++r19),sub (sub e_0.fKids 2 (e_0.fKids.length:Int)) 1 ((sub e_0.fKids 2 (e_0.fKids.length:Int)).length:Int))
   else
    some (s4++((((e_0.fName++([32,105,110,32]:Bytes))++r7)++([32,58,32]:Bytes))++r12),sub e_0.fKids 2 (e_0.fKids.length:Int))
  : Option (Bytes×(List aa))).bind λ q34 =>
 (
   if 0 < (q34.2.length:Int) then
    ck ((0:Int)≤0∧0 < (q34.2.length:Int)) <|
    ((aj n) (lat q34.2 0)).bind λ r28 =>
    ck (([32,105,102,32]:Bytes).length+r28.length≤9223372036854775807) <|
    ck (q34.1.length+(([32,105,102,32]:Bytes)++r28).length≤9223372036854775807) <|
    some (q34.1++(([32,105,102,32]:Bytes)++r28))
   else
    some q34.1
  : Option Bytes).bind λ s32 =>
 some s32
def cV:Nat→aa→Option Bytes
 | 0,_=>none
 | n+1,e_0 =>
 (
   if e_0.fKind=1 then
    some (decide (e_0.fValue.fKind=3))
   else
    some false
  : Option Bool).bind λ t2 =>
 if t2=true then
  (dy n e_0.fValue.fStr).bind λ r4 =>
  if r4=true then
   some e_0.fValue.fStr
  else
   ((aj n) e_0).bind λ r7 =>
   some r7
 else
  if e_0.fKind=2 then
   ((aj n) e_0).bind λ r10 =>
   some r10
  else
   ((aj n) e_0).bind λ r12 =>
   ck (([40]:Bytes).length+r12.length≤9223372036854775807) <|
   ck ((([40]:Bytes)++r12).length+([41]:Bytes).length≤9223372036854775807) <|
   some ((([40]:Bytes)++r12)++([41]:Bytes))
end
theorem kA (n:Nat):(∀ (e_0:aa) (r:Bytes),aj n e_0=some r→aE Tryd.prog 8 [.agg (aa.cs e_0)] (·=.p (eS r)))∧(∀ (l_0:List aa) (r:Bytes),cu n l_0=some r→aE Tryd.prog 17 [eL ay l_0] (·=.p (eS r)))∧(∀ (l_0:List aa) (r:Bytes),dm n l_0=some r→aE Tryd.prog 18 [eL ay l_0] (·=.p (eS r)))∧(∀ (l_0:List aa) (r:Bytes),cL n l_0=some r→aE Tryd.prog 19 [eL ay l_0] (·=.p (eS r)))∧(∀ (e_0:aa) (n_1:Int) (r:Bytes),cZ n e_0 n_1=some r→aE Tryd.prog 20 [.agg (aa.cs e_0),eI n_1] (·=.p (eS r)))∧(∀ (e_0:aa) (r:Bytes),dp n e_0=some r→aE Tryd.prog 23 [.agg (aa.cs e_0)] (·=.p (eS r)))∧(∀ (e_0:aa) (r:Bytes),cV n e_0=some r→aE Tryd.prog 41 [.agg (aa.cs e_0)] (·=.p (eS r))):=by
 induction n with
 | zero=>exact ⟨(by intro e_0 r h0; cases h0),(by intro l_0 r h0; cases h0),(by intro l_0 r h0; cases h0),(by intro l_0 r h0; cases h0),(by intro e_0 n_1 r h0; cases h0),(by intro e_0 r h0; cases h0),(by intro e_0 r h0; cases h0)⟩
 | succ n ih =>
 obtain ⟨ih_format_Expr_ok,ih_format_template_ok,ih_format_list_ok,ih_format_mapping_ok,ih_format_at_ok,ih_format_loop_ok,ih_format_key_ok⟩:=ih
 refine ⟨?_,?_,?_,?_,?_,?_,?_⟩
 ·skip
  intro e_0 r h0
  rw [aj] at h0
  refine aY good Tryd.func8 rfl rfl rfl λ w0=>mP (λ v:Bytes=>.p (eS v)) ?_
  refine nx 17 rfl (fD [7,8] h0 rfl (λ c1 h0=>?_) λ c1 h0=>?_)
  ·refine nx 5 rfl (bd h0 λ r2 e3 h0=>?_)
   refine oK (jh _ e_0.fValue _ e3) rfl ⟨sr,trivial⟩ Tryd.call16 rfl (nx 3 rfl ?_)
   exact mQ (oi h0) rfl (sr)
  refine nx 6 rfl (fD [12,13] h0 rfl (λ c4 h0=>?_) λ c4 h0=>?_)
  ·refine nx 5 rfl (bd h0 λ r5 e6 h0=>?_)
   refine oK (ih_format_template_ok e_0.fKids _ e6) rfl ⟨sr,trivial⟩ Tryd.call17 rfl (nx 3 rfl ?_)
   exact mQ (oi h0) rfl (sr)
  refine nx 6 rfl (fD [17,18] h0 rfl (λ c7 h0=>?_) λ c7 h0=>?_)
  ·exact nx 8 rfl (mQ (oi h0) rfl (sr))
  refine nx 6 rfl (fD [21,22] h0 rfl (λ c8 h0=>?_) λ c8 h0=>?_)
  ·refine nx 2 rfl (cc' h0 λ hk9 h0=>?_)
   refine bd h0 λ r10 e11 h0=>cc' h0 λ hk12 h0=>cc' h0 λ hk13 h0=>mD [(1,.ptr 1 0)] rfl ⟨rfl,trivial⟩ rfl (dR 2 rfl ?_)
   refine dq (.p (eS (e_0.fName++([40]:Bytes)))) [24] rfl (λ _ e _ q=>ah rfl (aM rfl rfl rfl (e _ _ rfl) rfl hk9 q)) rfl (dR 2 rfl ?_)
   refine dq (.p (eS r10)) [27] rfl (λ _ e _ q=>ah rfl (a6 (ih_format_list_ok e_0.fKids _ e11) rfl rfl rfl (aG (e _ _ rfl) aX) ⟨sr,trivial⟩ Tryd.call18 rfl q)) rfl (dq (.p (eS ((e_0.fName++([40]:Bytes))++r10))) [25,28] rfl (λ _ e _ q=>ah rfl (aM rfl rfl rfl (e _ _ rfl) (e _ _ rfl) hk12 q)) rfl ?_)
   refine dq (.p (eS (((e_0.fName++([40]:Bytes))++r10)++([41]:Bytes)))) [29] rfl (λ _ e _ q=>ah rfl (aM rfl rfl rfl (e _ _ rfl) rfl hk13 q)) rfl (dR 1 rfl ?_)
   refine dE rfl (nx 2 rfl ?_)
   exact mQ (oi h0) rfl (sr)
  refine nx 6 rfl (fD [31,32] h0 rfl (λ c14 h0=>?_) λ c14 h0=>?_)
  ·refine nx 5 rfl (bd h0 λ r15 e16 h0=>?_)
   refine oK (ih_format_list_ok e_0.fKids _ e16) rfl ⟨sr,trivial⟩ Tryd.call18 rfl (oC h0 rfl λ hk17 h0=>?_)
   exact oC h0 rfl λ hk18 h0=>nx 3 rfl (mQ (oi h0) rfl (sr))
  refine nx 6 rfl (fD [38,39] h0 rfl (λ c19 h0=>?_) λ c19 h0=>?_)
  ·refine nx 5 rfl (bd h0 λ r20 e21 h0=>?_)
   refine oK (ih_format_mapping_ok e_0.fKids _ e21) rfl ⟨sr,trivial⟩ Tryd.call19 rfl (nx 3 rfl ?_)
   exact mQ (oi h0) rfl (sr)
  refine nx 11 rfl (bd h0 λ o106 h1 h0=>?_)
  refine kN o106 (λ v107=>⟨[(1,.ptr 1 0),(3,.p (eL ay e_0.fKids)),(45,.p (eB v107))],[(1,(aa.cs e_0).map .p)]⟩) ?_ ?_
  ·refine nx 1 rfl (fB [45] h0 rfl (λ c24 h0=>?_) λ c24 h0=>?_)
   ·refine nx 2 rfl (cc' h0 λ hk25 h0=>?_)
    refine bd h0 λ r26 e27 h0=>cc' h0 λ hk28 h0=>cc' h0 λ hk29 h0=>mD [(1,.ptr 1 0),(3,.p (eL ay e_0.fKids))] rfl ⟨rfl,rfl,trivial⟩ rfl (dR 1 rfl ?_)
    refine dq (.rptr (aa.cs (lat e_0.fKids 0))) [54] rfl (λ _ e _ q=>ah rfl (op_at (f:=ay) (l:=e_0.fKids) aa.cs rfl rfl rfl rfl rfl rfl (e _ _ rfl) rfl rfl hk25 aa.cells_eq (λ _=>rfl) q)) rfl (dR 1 rfl ?_)
    refine dq (.p (eS r26)) [56] rfl (λ _ e _ q=>ah rfl (a6 (ih_format_at_ok (lat e_0.fKids 0) 8 _ e27) rfl rfl rfl (aG (e _ _ rfl) (aG rfl aX)) ⟨sr,sr,trivial⟩ Tryd.call20 rfl q)) rfl (dq (.p (eS (r26++([46]:Bytes)))) [57] rfl (λ _ e _ q=>ah rfl (aM rfl rfl rfl (e _ _ rfl) rfl hk28 q)) rfl ?_)
    refine dR 2 rfl (dq (.p (eS ((r26++([46]:Bytes))++e_0.fName))) [58,60] rfl (λ _ e _ q=>ah rfl (aM rfl rfl rfl (e _ _ rfl) (e _ _ rfl) hk29 q)) rfl ?_)
    refine dR 1 rfl (dE rfl ?_)
    exact nx 2 rfl (mQ (oi h0) rfl (sr))
   refine nx 2 rfl (bd h0 λ o108 h1 h0=>?_)
   refine kN o108 (λ v109=>⟨[(1,.ptr 1 0),(3,.p (eL ay e_0.fKids)),(62,.p (eB v109))],[(1,(aa.cs e_0).map .p)]⟩) ?_ ?_
   ·refine nx 1 rfl (fB [62] h0 rfl (λ c32 h0=>?_) λ c32 h0=>?_)
    ·refine nx 2 rfl (cc' h0 λ hk33 h0=>?_)
     refine bd h0 λ r34 e35 h0=>cc' h0 λ hk36 h0=>cc' h0 λ hk37 h0=>bd h0 λ r38 e39 h0=>cc' h0 λ hk40 h0=>cc' h0 λ hk41 h0=>mD [(3,.p (eL ay e_0.fKids))] rfl ⟨rfl,trivial⟩ rfl (dR 1 rfl ?_)
     refine dq (.rptr (aa.cs (lat e_0.fKids 0))) [71] rfl (λ _ e _ q=>ah rfl (op_at (f:=ay) (l:=e_0.fKids) aa.cs rfl rfl rfl rfl rfl rfl (e _ _ rfl) rfl rfl hk33 aa.cells_eq (λ _=>rfl) q)) rfl (dR 1 rfl ?_)
     refine dq (.p (eS r34)) [73] rfl (λ _ e _ q=>ah rfl (a6 (ih_format_at_ok (lat e_0.fKids 0) 8 _ e35) rfl rfl rfl (aG (e _ _ rfl) (aG rfl aX)) ⟨sr,sr,trivial⟩ Tryd.call20 rfl q)) rfl (dq (.p (eS (r34++([91]:Bytes)))) [74] rfl (λ _ e _ q=>ah rfl (aM rfl rfl rfl (e _ _ rfl) rfl hk36 q)) rfl ?_)
     refine dR 1 rfl (dq (.rptr (aa.cs (lat e_0.fKids 1))) [76] rfl (λ _ e _ q=>ah rfl (op_at (f:=ay) (l:=e_0.fKids) aa.cs rfl rfl rfl rfl rfl rfl (e _ _ rfl) rfl rfl hk37 aa.cells_eq (λ _=>rfl) q)) rfl ?_)
     refine dR 1 rfl (dq (.p (eS r38)) [78] rfl (λ _ e _ q=>ah rfl (a6 (ih_format_Expr_ok (lat e_0.fKids 1) _ e39) rfl rfl rfl (aG (e _ _ rfl) aX) ⟨sr,trivial⟩ Tryd.call8 rfl q)) rfl ?_)
     refine dq (.p (eS ((r34++([91]:Bytes))++r38))) [75,79] rfl (λ _ e _ q=>ah rfl (aM rfl rfl rfl (e _ _ rfl) (e _ _ rfl) hk40 q)) rfl (dq (.p (eS (((r34++([91]:Bytes))++r38)++([93]:Bytes)))) [80] rfl (λ _ e _ q=>ah rfl (aM rfl rfl rfl (e _ _ rfl) rfl hk41 q)) rfl ?_)
     refine dR 1 rfl (dE rfl ?_)
     exact nx 2 rfl (mQ (oi h0) rfl (sr))
    refine nx 2 rfl (bd h0 λ o110 h1 h0=>?_)
    refine kN o110 (λ v111=>⟨[(1,.ptr 1 0),(3,.p (eL ay e_0.fKids)),(82,.p (eB v111))],[(1,(aa.cs e_0).map .p)]⟩) ?_ ?_
    ·refine nx 1 rfl (fB [82] h0 rfl (λ c44 h0=>?_) λ c44 h0=>?_)
     ·refine nx 2 rfl (bd h0 λ r45 e46 h0=>?_)
      refine cc' h0 λ hk47 h0=>bd h0 λ r48 e49 h0=>cc' h0 λ hk50 h0=>mD [(1,.ptr 1 0),(3,.p (eL ay e_0.fKids))] rfl ⟨rfl,rfl,trivial⟩ rfl (dR 2 rfl ?_)
      refine dq (.p (eS r45)) [92] rfl (λ _ e _ q=>ah rfl (a6 (ia e_0.fOp _ e46) rfl rfl rfl (aG (e _ _ rfl) aX) ⟨sr,trivial⟩ Tryd.call21 rfl q)) rfl (dR 1 rfl ?_)
      refine dq (.rptr (aa.cs (lat e_0.fKids 0))) [94] rfl (λ _ e _ q=>ah rfl (op_at (f:=ay) (l:=e_0.fKids) aa.cs rfl rfl rfl rfl rfl rfl (e _ _ rfl) rfl rfl hk47 aa.cells_eq (λ _=>rfl) q)) rfl (dR 1 rfl ?_)
      refine dq (.p (eS r48)) [96] rfl (λ _ e _ q=>ah rfl (a6 (ih_format_at_ok (lat e_0.fKids 0) 7 _ e49) rfl rfl rfl (aG (e _ _ rfl) (aG rfl aX)) ⟨sr,sr,trivial⟩ Tryd.call20 rfl q)) rfl (dq (.p (eS (r45++r48))) [93,97] rfl (λ _ e _ q=>ah rfl (aM rfl rfl rfl (e _ _ rfl) (e _ _ rfl) hk50 q)) rfl ?_)
      refine dR 1 rfl (dE rfl ?_)
      exact nx 2 rfl (mQ (oi h0) rfl (sr))
     refine nx 2 rfl (bd h0 λ o112 h1 h0=>?_)
     refine kN o112 (λ v113=>⟨[(1,.ptr 1 0),(3,.p (eL ay e_0.fKids)),(99,.p (eB v113))],[(1,(aa.cs e_0).map .p)]⟩) ?_ ?_
     ·refine nx 1 rfl (fB [99] h0 rfl (λ c53 h0=>?_) λ c53 h0=>?_)
      ·refine nx 4 rfl (bd h0 λ r54 e55 h0=>?_)
       refine oK (gX e_0 _ e55) rfl ⟨sr,trivial⟩ Tryd.call22 rfl (nx 3 rfl ?_)
       refine cc' h0 λ hk56 h0=>bd h0 λ r57 e58 h0=>cc' h0 λ hk59 h0=>bd h0 λ r60 e61 h0=>cc' h0 λ hk62 h0=>cc' h0 λ hk63 h0=>cc' h0 λ hk64 h0=>cc' h0 λ hk65 h0=>bd h0 λ r66 e67 h0=>cc' h0 λ hk68 h0=>mD [(1,.ptr 1 0),(3,.p (eL ay e_0.fKids)),(4,.p (eI r54))] rfl ⟨rfl,rfl,rfl,trivial⟩ rfl (dR 1 rfl ?_)
       refine dq (.rptr (aa.cs (lat e_0.fKids 0))) [110] rfl (λ _ e _ q=>ah rfl (op_at (f:=ay) (l:=e_0.fKids) aa.cs rfl rfl rfl rfl rfl rfl (e _ _ rfl) rfl rfl hk56 aa.cells_eq (λ _=>rfl) q)) rfl (dR 2 rfl ?_)
       refine dq (.p (eS r57)) [112,113] rfl (λ _ e _ q=>ah rfl (a6 (ih_format_at_ok (lat e_0.fKids 0) r54 _ e58) rfl rfl rfl (aG (e _ _ rfl) (aG (e _ _ rfl) aX)) ⟨sr,sr,trivial⟩ Tryd.call20 rfl q)) rfl (dq (.p (eS (r57++([32]:Bytes)))) [114] rfl (λ _ e _ q=>ah rfl (aM rfl rfl rfl (e _ _ rfl) rfl hk59 q)) rfl ?_)
       refine dR 2 rfl (dq (.p (eS r60)) [117] rfl (λ _ e _ q=>ah rfl (a6 (ia e_0.fOp _ e61) rfl rfl rfl (aG (e _ _ rfl) aX) ⟨sr,trivial⟩ Tryd.call21 rfl q)) rfl ?_)
       refine dq (.p (eS ((r57++([32]:Bytes))++r60))) [115,118] rfl (λ _ e _ q=>ah rfl (aM rfl rfl rfl (e _ _ rfl) (e _ _ rfl) hk62 q)) rfl (dq (.p (eS (((r57++([32]:Bytes))++r60)++([32]:Bytes)))) [119] rfl (λ _ e _ q=>ah rfl (aM rfl rfl rfl (e _ _ rfl) rfl hk63 q)) rfl ?_)
       refine dR 1 rfl (dq (.rptr (aa.cs (lat e_0.fKids 1))) [121] rfl (λ _ e _ q=>ah rfl (op_at (f:=ay) (l:=e_0.fKids) aa.cs rfl rfl rfl rfl rfl rfl (e _ _ rfl) rfl rfl hk64 aa.cells_eq (λ _=>rfl) q)) rfl ?_)
       refine dR 2 rfl (dq (.p (eI (r54+1))) [124] rfl (λ _ e _ q=>ah rfl (iT rfl rfl rfl (e _ _ rfl) rfl rfl hk65 q)) rfl ?_)
       refine dq (.p (eS r66)) [123,125] rfl (λ _ e _ q=>ah rfl (a6 (ih_format_at_ok (lat e_0.fKids 1) (r54+1) _ e67) rfl rfl rfl (aG (e _ _ rfl) (aG (e _ _ rfl) aX)) ⟨sr,sr,trivial⟩ Tryd.call20 rfl q)) rfl (dq (.p (eS ((((r57++([32]:Bytes))++r60)++([32]:Bytes))++r66))) [120,126] rfl (λ _ e _ q=>ah rfl (aM rfl rfl rfl (e _ _ rfl) (e _ _ rfl) hk68 q)) rfl ?_)
       refine dR 1 rfl (dE rfl ?_)
       exact nx 2 rfl (mQ (oi h0) rfl (sr))
      refine nx 2 rfl (bd h0 λ o114 h1 h0=>?_)
      refine kN o114 (λ v115=>⟨[(1,.ptr 1 0),(3,.p (eL ay e_0.fKids)),(128,.p (eB v115))],[(1,(aa.cs e_0).map .p)]⟩) ?_ ?_
      ·refine nx 1 rfl (fB [128] h0 rfl (λ c71 h0=>?_) λ c71 h0=>?_)
       ·refine nx 2 rfl (cc' h0 λ hk72 h0=>?_)
        refine bd h0 λ r73 e74 h0=>cc' h0 λ hk75 h0=>cc' h0 λ hk76 h0=>bd h0 λ r77 e78 h0=>cc' h0 λ hk79 h0=>cc' h0 λ hk80 h0=>cc' h0 λ hk81 h0=>bd h0 λ r82 e83 h0=>cc' h0 λ hk84 h0=>mD [(3,.p (eL ay e_0.fKids))] rfl ⟨rfl,trivial⟩ rfl (dR 1 rfl ?_)
        refine dq (.rptr (aa.cs (lat e_0.fKids 0))) [137] rfl (λ _ e _ q=>ah rfl (op_at (f:=ay) (l:=e_0.fKids) aa.cs rfl rfl rfl rfl rfl rfl (e _ _ rfl) rfl rfl hk72 aa.cells_eq (λ _=>rfl) q)) rfl (dR 1 rfl ?_)
        refine dq (.p (eS r73)) [139] rfl (λ _ e _ q=>ah rfl (a6 (ih_format_at_ok (lat e_0.fKids 0) 1 _ e74) rfl rfl rfl (aG (e _ _ rfl) (aG rfl aX)) ⟨sr,sr,trivial⟩ Tryd.call20 rfl q)) rfl (dq (.p (eS (r73++([32,63,32]:Bytes)))) [140] rfl (λ _ e _ q=>ah rfl (aM rfl rfl rfl (e _ _ rfl) rfl hk75 q)) rfl ?_)
        refine dR 1 rfl (dq (.rptr (aa.cs (lat e_0.fKids 1))) [142] rfl (λ _ e _ q=>ah rfl (op_at (f:=ay) (l:=e_0.fKids) aa.cs rfl rfl rfl rfl rfl rfl (e _ _ rfl) rfl rfl hk76 aa.cells_eq (λ _=>rfl) q)) rfl ?_)
        refine dR 1 rfl (dq (.p (eS r77)) [144] rfl (λ _ e _ q=>ah rfl (a6 (ih_format_Expr_ok (lat e_0.fKids 1) _ e78) rfl rfl rfl (aG (e _ _ rfl) aX) ⟨sr,trivial⟩ Tryd.call8 rfl q)) rfl ?_)
        refine dq (.p (eS ((r73++([32,63,32]:Bytes))++r77))) [141,145] rfl (λ _ e _ q=>ah rfl (aM rfl rfl rfl (e _ _ rfl) (e _ _ rfl) hk79 q)) rfl (dq (.p (eS (((r73++([32,63,32]:Bytes))++r77)++([32,58,32]:Bytes)))) [146] rfl (λ _ e _ q=>ah rfl (aM rfl rfl rfl (e _ _ rfl) rfl hk80 q)) rfl ?_)
        refine dR 1 rfl (dq (.rptr (aa.cs (lat e_0.fKids 2))) [148] rfl (λ _ e _ q=>ah rfl (op_at (f:=ay) (l:=e_0.fKids) aa.cs rfl rfl rfl rfl rfl rfl (e _ _ rfl) rfl rfl hk81 aa.cells_eq (λ _=>rfl) q)) rfl ?_)
        refine dR 1 rfl (dq (.p (eS r82)) [150] rfl (λ _ e _ q=>ah rfl (a6 (ih_format_Expr_ok (lat e_0.fKids 2) _ e83) rfl rfl rfl (aG (e _ _ rfl) aX) ⟨sr,trivial⟩ Tryd.call8 rfl q)) rfl ?_)
        refine dq (.p (eS ((((r73++([32,63,32]:Bytes))++r77)++([32,58,32]:Bytes))++r82))) [147,151] rfl (λ _ e _ q=>ah rfl (aM rfl rfl rfl (e _ _ rfl) (e _ _ rfl) hk84 q)) rfl (dR 1 rfl ?_)
        refine dE rfl (nx 2 rfl ?_)
        exact mQ (oi h0) rfl (sr)
       refine nx 2 rfl (bd h0 λ o116 h1 h0=>?_)
       refine kN o116 (λ v117=>⟨[(1,.ptr 1 0),(3,.p (eL ay e_0.fKids)),(153,.p (eB v117))],[(1,(aa.cs e_0).map .p)]⟩) ?_ ?_
       ·refine nx 1 rfl (fB [153] h0 rfl (λ c87 h0=>?_) λ c87 h0=>?_)
        ·refine nx 4 rfl (bd h0 λ r88 e89 h0=>?_)
         refine oK (ih_format_loop_ok e_0 _ e89) rfl ⟨sr,trivial⟩ Tryd.call23 rfl (oC h0 rfl λ hk90 h0=>?_)
         exact oC h0 rfl λ hk91 h0=>nx 3 rfl (mQ (oi h0) rfl (sr))
        refine nx 2 rfl (bd h0 λ o118 h1 h0=>?_)
        refine kN o118 (λ v119=>⟨[(1,.ptr 1 0),(166,.p (eB v119))],[(1,(aa.cs e_0).map .p)]⟩) ?_ ?_
        ·refine nx 1 rfl (fB [166] h0 rfl (λ c94 h0=>?_) λ c94 h0=>?_)
         ·refine nx 4 rfl (bd h0 λ r95 e96 h0=>?_)
          refine oK (ih_format_loop_ok e_0 _ e96) rfl ⟨sr,trivial⟩ Tryd.call23 rfl (oC h0 rfl λ hk97 h0=>?_)
          exact oC h0 rfl λ hk98 h0=>nx 3 rfl (mQ (oi h0) rfl (sr))
         exact nx 7 rfl (mQ (oi h0) rfl (sr))
        refine nx 5 rfl (fD [169,170] h1 rfl (λ c92 h1=>?_) λ c92 h1=>?_)
        ·refine nx 1 rfl (oLl (f:=ay) rfl rfl ?_)
         exact nx 4 rfl (eX _ (oi h1).symm (gE rfl rfl))
        exact nx 6 rfl (eX _ (oi h1).symm (gE rfl rfl))
       refine nx 5 rfl (fD [156,157] h1 rfl (λ c85 h1=>?_) λ c85 h1=>?_)
       ·refine nx 1 rfl (oLl (f:=ay) rfl rfl ?_)
        exact nx 4 rfl (eX _ (oi h1).symm (gE rfl rfl))
       exact nx 6 rfl (eX _ (oi h1).symm (gE rfl rfl))
      refine nx 5 rfl (fD [131,132] h1 rfl (λ c69 h1=>?_) λ c69 h1=>?_)
      ·refine nx 1 rfl (oLl (f:=ay) rfl rfl ?_)
       exact nx 4 rfl (eX _ (oi h1).symm (gE rfl rfl))
      exact nx 6 rfl (eX _ (oi h1).symm (gE rfl rfl))
     refine nx 5 rfl (fD [102,103] h1 rfl (λ c51 h1=>?_) λ c51 h1=>?_)
     ·refine nx 1 rfl (oLl (f:=ay) rfl rfl ?_)
      exact nx 4 rfl (eX _ (oi h1).symm (gE rfl rfl))
     exact nx 6 rfl (eX _ (oi h1).symm (gE rfl rfl))
    refine nx 5 rfl (fD [85,86] h1 rfl (λ c42 h1=>?_) λ c42 h1=>?_)
    ·refine nx 1 rfl (oLl (f:=ay) rfl rfl ?_)
     exact nx 4 rfl (eX _ (oi h1).symm (gE rfl rfl))
    exact nx 6 rfl (eX _ (oi h1).symm (gE rfl rfl))
   refine nx 5 rfl (fD [65,66] h1 rfl (λ c30 h1=>?_) λ c30 h1=>?_)
   ·refine nx 1 rfl (oLl (f:=ay) rfl rfl ?_)
    exact nx 4 rfl (eX _ (oi h1).symm (gE rfl rfl))
   exact nx 6 rfl (eX _ (oi h1).symm (gE rfl rfl))
  refine nx 5 rfl (fD [48,49] h1 rfl (λ c22 h1=>?_) λ c22 h1=>?_)
  ·refine nx 1 rfl (oLl (f:=ay) rfl rfl ?_)
   exact nx 4 rfl (eX _ (oi h1).symm (gE rfl rfl))
  exact nx 6 rfl (eX _ (oi h1).symm (gE rfl rfl))
 ·skip
  intro l_0 r h0
  rw [cu] at h0
  refine aY good Tryd.func17 rfl rfl rfl λ w0=>mP (λ v:Bytes=>.p (eS v)) ?_
  refine nx 6 rfl (mO rfl (jE rfl rfl rfl rfl rfl rfl rfl ?_))
  refine nx 3 rfl (bd h0 λ r1 e2 h0=>?_)
  refine mO rfl (bz [3] [890000] 101000 101001 (aZ (al.mk []) 34 _ e2) rfl rfl rfl rfl rfl ⟨sr,sr,trivial⟩ rfl rfl ⟨⟨_,rfl,⟨sr,AV.sub_nilvec _ _ _,trivial⟩⟩,trivial⟩ rfl rfl rfl rfl rfl rfl rfl rfl Tryd.call36 rfl rfl ?_)
  refine nx 9 rfl (oLl (f:=ay) rfl rfl ?_)
  refine nx 3 rfl (bd h0 λ o86 h1 h0=>?_)
  refine kE 0 o86 (λ v87=>⟨[(3,.ptr 3 0)],[(3,[.bptr 65 2 3,.vec 103000 1 (5+1) (v87.map eU)])]⟩) ?_ ?_
  ·refine nx 3 rfl (bd h0 λ r77 e78 h0=>?_)
   refine mO rfl (bz [3] [103000] 106000 106001 (aZ (al.mk o86) 34 _ e78) rfl rfl rfl rfl rfl ⟨sr,sr,trivial⟩ rfl rfl ⟨⟨_,rfl,⟨sr,sr,trivial⟩⟩,trivial⟩ rfl rfl rfl rfl rfl rfl rfl rfl Tryd.call36 rfl rfl ?_)
   refine nx 3 rfl (bd h0 λ r79 e80 h0=>?_)
   refine mO rfl (bz [3] [106000] 107000 107000 (dh (al.mk r77.2.fbuf) _ e80) rfl rfl rfl rfl rfl ⟨sr,trivial⟩ rfl rfl ⟨⟨_,rfl,⟨sr,sr,trivial⟩⟩,trivial⟩ rfl rfl rfl rfl rfl rfl rfl rfl Tryd.call27 rfl rfl ?_)
   exact nx 3 rfl (mQ (oi h0) rfl (sr))
  refine lG (λ (q88:Bool×Int×(List UInt8))=>⟨[(0,.p (eL ay l_0)),(3,.ptr 3 0),(4,.p (eB q88.1)),(10,.p (eL ay l_0)),(11,.p (eI (l_0.length:Int))),(12,.p (eI q88.2.1))],[(3,[.bptr 65 2 3,.vec 103000 1 (5+1) (q88.2.2.map eU)])]⟩) (λ m (q88:Bool×Int×(List UInt8))=>aU n (aj n) l_0 m q88.1 q88.2.1 q88.2.2) (λ _=>rfl) (false,0,r1.2.fbuf) h1 (bh (b9 101000 103000 rfl rfl rfl rfl rfl) (gE rfl rfl)) ?_
  rintro m ⟨text38,t39,f40⟩ h1
  replace h1:aU n (aj n) l_0 (m+1) text38 t39 f40=some o86:=h1
  rw [aU] at h1
  refine nx 5 rfl (fD [13] h1 rfl (λ c41 h1=>?_) λ c41 h1=>?_)
  ·refine nx 3 rfl (bd h1 λ o89 h2 h1=>?_)
   refine kN o89 (λ v90=>⟨[(0,.p (eL ay l_0)),(3,.ptr 3 0),(4,.p (eB v90.1)),(10,.p (eL ay l_0)),(11,.p (eI (l_0.length:Int))),(12,.p (eI t39))],[(3,[.bptr 65 2 3,.vec 105000 1 (5+1) (v90.2.map eU)])]⟩) ?_ ?_
   ·refine nx 2 rfl (oA h1 rfl rfl λ hk72 h1=>?_)
    exact nx 2 rfl (eX (o89.1,t39+1,o89.2) h1 (bh (b9 105000 103000 rfl rfl rfl rfl rfl) (gE rfl rfl)))
   refine nx 4 rfl (oE h2 aa.cells_eq rfl rfl (λ _=>rfl) λ hk42 h2=>?_)
   refine nx 6 rfl (bd h2 λ o91 h3 h2=>?_)
   refine kN o91 (λ v92=>⟨[(0,.p (eL ay l_0)),(3,.ptr 3 0),(4,.p (eB v92)),(5,.p (eI t39)),(6,.ptr 6 0),(10,.p (eL ay l_0)),(11,.p (eI (l_0.length:Int))),(12,.p (eI t39))],[(3,[.bptr 65 2 3,.vec 103000 1 (5+1) (f40.map eU)]),(6,(aa.cs (lat l_0 t39)).map .p)]⟩) ?_ ?_
   ·refine nx 7 rfl (fB [29] h2 rfl (λ c48 h2=>?_) λ c48 h2=>?_)
    ·refine nx 4 rfl (bd h2 λ r49 e50 h2=>?_)
     refine oK (ih_format_Expr_ok (lat l_0 t39) _ e50) rfl ⟨sr,trivial⟩ Tryd.call8 rfl (oC h2 rfl λ hk51 h2=>?_)
     refine oC h2 rfl λ hk52 h2=>bd h2 λ r53 e54 h2=>mO rfl (bz [3] [103000] 104000 104001 (aH (al.mk f40) ((([36,123]:Bytes)++r49)++([125]:Bytes)) _ e54) rfl rfl rfl rfl rfl ⟨sr,sr,trivial⟩ rfl rfl ⟨⟨_,rfl,⟨sr,sr,trivial⟩⟩,trivial⟩ rfl rfl rfl rfl rfl rfl rfl rfl Tryd.call38 rfl rfl ?_)
     exact nx 2 rfl (eX _ (oi h2).symm (bh (b9 104000 105000 rfl rfl rfl rfl rfl) (gE rfl rfl)))
    refine nx 11 rfl (bd h2 λ o93 h3 h2=>?_)
    refine kN o93 (λ v94=>⟨[(0,.p (eL ay l_0)),(3,.ptr 3 0),(4,.p (eB o91)),(7,.p (eS v94.1)),(8,.p (eS v94.2)),(10,.p (eL ay l_0)),(11,.p (eI (l_0.length:Int))),(12,.p (eI t39))],[(3,[.bptr 65 2 3,.vec 103000 1 (5+1) (f40.map eU)])]⟩) ?_ ?_
    ·refine nx 3 rfl (bd h2 λ r65 e66 h2=>?_)
     refine oK (gj _ o93.1 _ e66) rfl ⟨sr,trivial⟩ Tryd.call35 rfl (nx 1 rfl ?_)
     refine oC h2 rfl λ hk67 h2=>bd h2 λ r68 e69 h2=>mO rfl (bz [3] [103000] 105000 105001 (aH (al.mk f40) (r65++o93.2) _ e69) rfl rfl rfl rfl rfl ⟨sr,sr,trivial⟩ rfl rfl ⟨⟨_,rfl,⟨sr,sr,trivial⟩⟩,trivial⟩ rfl rfl rfl rfl rfl rfl rfl rfl Tryd.call38 rfl rfl ?_)
     exact nx 1 rfl (eX _ (oi h2).symm (gE rfl rfl))
    refine nx 1 rfl (bd h3 λ o95 h4 h3=>?_)
    refine kN o95 (λ v96=>⟨[(0,.p (eL ay l_0)),(3,.ptr 3 0),(4,.p (eB o91)),(7,.p (eS (((lat l_0 t39).fValue).fStr))),(8,.p (eS ([]:Bytes))),(10,.p (eL ay l_0)),(11,.p (eI (l_0.length:Int))),(12,.p (eI t39)),(46,.p (eB v96))],[(3,[.bptr 65 2 3,.vec 103000 1 (5+1) (f40.map eU)])]⟩) ?_ ?_
    ·refine nx 1 rfl (fB [46] h3 rfl (λ c60 h3=>?_) λ c60 h3=>?_)
     ·refine nx 4 rfl (oLs rfl ?_)
      exact oA h3 rfl rfl λ hk61 h3=>oP h3 rfl rfl rfl λ hk62 h3=>nx 3 rfl (eX _ (oi h3).symm (gE rfl rfl))
     exact nx 2 rfl (eX _ (oi h3).symm (gE rfl rfl))
    refine nx 3 rfl (oLl (f:=ay) rfl rfl ?_)
    refine oA h4 rfl rfl λ hk55 h4=>nx 2 rfl (fD [42,43] h4 rfl (λ c56 h4=>?_) λ c56 h4=>?_)
    ·refine nx 1 rfl (bd h4 λ r57 e58 h4=>?_)
     refine oK (iw (((lat l_0 t39).fValue).fStr) ([36]:Bytes) _ e58) rfl ⟨sr,sr,trivial⟩ Tryd.call39 rfl (nx 2 rfl ?_)
     exact eX _ (oi h4).symm (gE rfl rfl)
    exact nx 4 rfl (eX _ (oi h4).symm (gE rfl rfl))
   refine nx 2 rfl (bd h3 λ r43 e44 h3=>?_)
   refine oK (kz (lat l_0 t39) _ e44) rfl ⟨sr,trivial⟩ Tryd.call37 rfl (nx 1 rfl ?_)
   refine fB [18,19] h3 rfl (λ c45 h3=>?_) λ c45 h3=>?_
   ·refine nx 4 rfl (fB [21,22,23] h3 rfl (λ c46 h3=>?_) λ c46 h3=>?_)
    ·refine nx 1 rfl (oLl (f:=ay) rfl rfl ?_)
     exact nx 4 rfl (eX _ (oi h3).symm (gE rfl rfl))
    exact nx 6 rfl (eX _ (oi h3).symm (gE rfl rfl))
   exact nx 10 rfl (eX _ (oi h3).symm (gE rfl rfl))
  exact nx 2 rfl (eXi _ (oi h1).symm (gE rfl rfl))
 ·skip
  intro l_0 r h0
  rw [dm] at h0
  refine aY good Tryd.func18 rfl rfl rfl λ w0=>mP (λ v:Bytes=>.p (eS v)) ?_
  refine nx 12 rfl (oLl (f:=ay) rfl rfl ?_)
  refine nx 3 rfl (bd h0 λ o23 h1 h0=>?_)
  refine kE 0 o23 (λ v24=>⟨[(3,.vec 16 1 0 (v24.map eS))],[]⟩) ?_ ?_
  ·refine nx 4 rfl (bd h0 λ r20 e21 h0=>?_)
   refine oK (gV o23 ([44,32]:Bytes) _ e21) rfl ⟨AV.sub_vec _ _ _ _,sr,trivial⟩ Tryd.call40 rfl (nx 3 rfl ?_)
   exact mQ (oi h0) rfl (sr)
  refine lG (λ (q25:(List Bytes)×Int)=>⟨[(3,.vec 16 1 0 (q25.1.map eS)),(6,.p (eL ay l_0)),(7,.p (eI (l_0.length:Int))),(8,.p (eI q25.2))],[]⟩) (λ m (q25:(List Bytes)×Int)=>bn (aj n) l_0 m q25.1 q25.2) (λ _=>rfl) ([],0) h1 (fI (tn ⟨⟨_,rfl,AV.sub_nilvec _ _ _⟩,er rfl,er rfl,er rfl,trivial⟩ trivial)) ?_
  rintro m ⟨out9,t10⟩ h1
  replace h1:bn (aj n) l_0 (m+1) out9 t10=some o23:=h1
  rw [bn] at h1
  refine nx 5 rfl (fD [9] h1 rfl (λ c11 h1=>?_) λ c11 h1=>?_)
  ·refine nx 6 rfl (oE h1 aa.cells_eq rfl rfl (λ _=>rfl) λ hk12 h1=>?_)
   refine nx 7 rfl (bd h1 λ r13 e14 h1=>?_)
   refine oK (ih_format_Expr_ok (lat l_0 t10) _ e14) rfl ⟨sr,trivial⟩ Tryd.call8 rfl (mO rfl (di eS [r13] rfl rfl rfl rfl rfl rfl rfl rfl rfl rfl rfl rfl rfl rfl ?_))
   refine cc' h1 λ hk15 h1=>mO rfl (kJ eS out9 [r13] rfl rfl rfl rfl rfl rfl rfl rfl rfl rfl rfl rfl rfl (λ _=>rfl) rfl rfl rfl rfl hk15 ?_)
   refine nx 3 rfl (oA h1 rfl rfl λ hk16 h1=>?_)
   exact nx 2 rfl (eX (out9++[r13],t10+1) h1 (gE rfl rfl))
  exact nx 2 rfl (eXi _ (oi h1).symm (gE rfl rfl))
 ·skip
  intro l_0 r h0
  rw [cL] at h0
  refine aY good Tryd.func19 rfl rfl rfl λ w0=>mP (λ v:Bytes=>.p (eS v)) ?_
  refine nx 14 rfl (bd h0 λ o39 h1 h0=>?_)
  refine kE 0 o39 (λ v40=>⟨[(3,.vec 27 1 0 (v40.map eS))],[]⟩) ?_ ?_
  ·refine nx 4 rfl (bd h0 λ r34 e35 h0=>?_)
   refine oK (gV o39 ([44,32]:Bytes) _ e35) rfl ⟨AV.sub_vec _ _ _ _,sr,trivial⟩ Tryd.call40 rfl (oC h0 rfl λ hk36 h0=>?_)
   exact oC h0 rfl λ hk37 h0=>nx 3 rfl (mQ (oi h0) rfl (sr))
  refine lG (λ (q41:(List Bytes)×Int)=>⟨[(0,.p (eL ay l_0)),(3,.vec 27 1 0 (q41.1.map eS)),(4,.p (eI q41.2))],[]⟩) (λ m (q41:(List Bytes)×Int)=>bp (aj n) (cV n) l_0 m q41.1 q41.2) (λ _=>rfl) ([],0) h1 (fI (tn ⟨er rfl,⟨_,rfl,AV.sub_nilvec _ _ _⟩,er rfl,trivial⟩ trivial)) ?_
  rintro m ⟨out16,i17⟩ h1
  replace h1:bp (aj n) (cV n) l_0 (m+1) out16 i17=some o39:=h1
  rw [bp] at h1
  refine nx 4 rfl (oA h1 rfl rfl λ hk18 h1=>?_)
  refine nx 1 rfl (oLl (f:=ay) rfl rfl ?_)
  refine nx 2 rfl (fD [9] h1 rfl (λ c19 h1=>?_) λ c19 h1=>?_)
  ·refine nx 4 rfl (cc' h1 λ hk20 h1=>?_)
   refine bd h1 λ r21 e22 h1=>cc' h1 λ hk23 h1=>cc' h1 λ hk24 h1=>cc' h1 λ hk25 h1=>bd h1 λ r26 e27 h1=>cc' h1 λ hk28 h1=>cc' h1 λ hk29 h1=>mG (gE (t:=⟨[(0,.p (eL ay l_0)),(3,.vec 27 1 0 (out16.map eS)),(4,.p (eI i17))],[]⟩) rfl rfl) (mS ⟨2,[15,16],(by3 (.some λ i=>Nat.beq i 27||Nat.beq i 27) .none .none),(by3 [(0,.p (eL ay l_0)),(3,.vec 27 1 0 (out16.map eS)),(4,.p (eI i17))] [(0,.p (eL ay l_0)),(3,.p (eL eS out16)),(4,.p (eI i17))] [(0,.p (eL ay l_0)),(4,.p (eI i17))]),(λ _=>[])⟩ rfl rfl rfl ⟨rfl,rfl,rfl,trivial⟩ (lt2 ⟨rfl,rfl,rfl,trivial⟩ ⟨rfl,rfl,trivial⟩) rfl rfl rfl rfl ?_)
   refine aO (by3 (.vec 27 1 0 (out16.map eS)) (.p (eL eS out16)) (.p (eL eS out16))) rfl rfl rfl (gk rfl rfl (λ _=>rfl)) (lt2 rfl rfl) (bo rfl (bo rfl (aC [(3,_)] ⟨.inl rfl,trivial⟩ (λ sl hsl K hK=>ah rfl (dj rfl rfl rfl (hsl _ _ rfl) hK)) aN))) (aO (λ _=>.p (eL ay l_0)) rfl rfl rfl (gk rfl rfl (λ _=>rfl)) (lt2 rfl rfl) (bo rfl (aC [(0,_)] ⟨.inl rfl,trivial⟩ (λ sl hsl K hK=>ah rfl (dj rfl rfl rfl (hsl _ _ rfl) hK)) (aC [(0,_)] ⟨.inl rfl,trivial⟩ (λ sl hsl K hK=>ah rfl (dj rfl rfl rfl (hsl _ _ rfl) hK)) aN))) ?_)
   refine aO (λ _=>.p (eI i17)) rfl rfl rfl (gk rfl rfl (λ _=>rfl)) (lt2 rfl rfl) (bo rfl (aC [(4,_)] ⟨.inl rfl,trivial⟩ (λ sl hsl K hK=>ah rfl (dj rfl rfl rfl (hsl _ _ rfl) hK)) (aC [(4,_)] ⟨.inl rfl,trivial⟩ (λ sl hsl K hK=>ah rfl (dj rfl rfl rfl (hsl _ _ rfl) hK)) aN))) (aO (λ _=>.rptr (aa.cs (lat l_0 i17))) rfl rfl rfl (gk rfl rfl (λ _=>rfl)) (lt2 rfl rfl) (bo rfl (aC [(13,_),(14,_)] ⟨.inr ⟨1,_,rfl,rfl,rfl⟩,.inr ⟨2,_,rfl,rfl,rfl⟩,trivial⟩ (λ sl hsl K hK=>ah rfl (op_at (f:=ay) (l:=l_0) aa.cs rfl rfl rfl rfl rfl rfl (hsl _ _ rfl) rfl (hsl _ _ rfl) hk20 aa.cells_eq (λ _=>rfl) hK)) (aC [(13,_),(14,_)] ⟨.inr ⟨1,_,rfl,rfl,rfl⟩,.inr ⟨2,_,rfl,rfl,rfl⟩,trivial⟩ (λ sl hsl K hK=>ah rfl (op_at (f:=ay) (l:=l_0) aa.cs rfl rfl rfl rfl rfl rfl (hsl _ _ rfl) rfl (hsl _ _ rfl) hk20 aa.cells_eq (λ _=>rfl) hK)) aN))) ?_)
   refine aO (λ _=>.p (.agg (aa.cs (lat l_0 i17)))) rfl rfl rfl (gk rfl rfl (λ _=>rfl)) (lt2 rfl rfl) (bo rfl (aC [(15,_)] ⟨.inr ⟨3,_,rfl,rfl,rfl⟩,trivial⟩ (λ sl hsl K hK=>ah rfl (eV rfl rfl rfl rfl rfl (hsl _ _ rfl) rfl hK)) (aC [(15,_)] ⟨.inr ⟨3,_,rfl,rfl,rfl⟩,trivial⟩ (λ sl hsl K hK=>ah rfl (eV rfl rfl rfl rfl rfl (hsl _ _ rfl) rfl hK)) aN))) (aO (λ _=>.p (eS r21)) rfl rfl rfl (gk rfl rfl (λ _=>rfl)) (lt2 rfl rfl) (bo rfl (aC [(16,_)] ⟨.inr ⟨4,_,rfl,rfl,rfl⟩,trivial⟩ (λ sl hsl K hK=>ah rfl (a6 (ih_format_key_ok (lat l_0 i17) _ e22) rfl rfl rfl (aG (hsl _ _ rfl) aX) ⟨sr,trivial⟩ Tryd.call41 rfl hK)) (aC [(16,_)] ⟨.inr ⟨4,_,rfl,rfl,rfl⟩,trivial⟩ (λ sl hsl K hK=>ah rfl (a6 (ih_format_key_ok (lat l_0 i17) _ e22) rfl rfl rfl (aG (hsl _ _ rfl) aX) ⟨sr,trivial⟩ Tryd.call41 rfl hK)) aN))) ?_)
   refine aO (λ _=>.p (eS (r21++([32,61,32]:Bytes)))) rfl rfl rfl (gk rfl rfl (λ _=>rfl)) (lt2 rfl rfl) (bo rfl (aC [(17,_)] ⟨.inr ⟨5,_,rfl,rfl,rfl⟩,trivial⟩ (λ sl hsl K hK=>ah rfl (aM rfl rfl rfl (hsl _ _ rfl) rfl hk23 hK)) (aC [(17,_)] ⟨.inr ⟨5,_,rfl,rfl,rfl⟩,trivial⟩ (λ sl hsl K hK=>ah rfl (aM rfl rfl rfl (hsl _ _ rfl) rfl hk23 hK)) aN))) (aO (λ _=>.p (eL ay l_0)) rfl rfl rfl (gk rfl rfl (λ _=>rfl)) (lt2 rfl rfl) (bo rfl (aC [(0,_)] ⟨.inl rfl,trivial⟩ (λ sl hsl K hK=>ah rfl (dj rfl rfl rfl (hsl _ _ rfl) hK)) (aC [(0,_)] ⟨.inl rfl,trivial⟩ (λ sl hsl K hK=>ah rfl (dj rfl rfl rfl (hsl _ _ rfl) hK)) aN))) ?_)
   refine aO (λ _=>.p (eI i17)) rfl rfl rfl (gk rfl rfl (λ _=>rfl)) (lt2 rfl rfl) (bo rfl (aC [(4,_)] ⟨.inl rfl,trivial⟩ (λ sl hsl K hK=>ah rfl (dj rfl rfl rfl (hsl _ _ rfl) hK)) (aC [(4,_)] ⟨.inl rfl,trivial⟩ (λ sl hsl K hK=>ah rfl (dj rfl rfl rfl (hsl _ _ rfl) hK)) aN))) (aO (λ _=>.p (eI (i17+1))) rfl rfl rfl (gk rfl rfl (λ _=>rfl)) (lt2 rfl rfl) (bo rfl (aC [(20,_)] ⟨.inr ⟨8,_,rfl,rfl,rfl⟩,trivial⟩ (λ sl hsl K hK=>ah rfl (iT rfl rfl rfl (hsl _ _ rfl) rfl rfl hk24 hK)) (aC [(20,_)] ⟨.inr ⟨8,_,rfl,rfl,rfl⟩,trivial⟩ (λ sl hsl K hK=>ah rfl (iT rfl rfl rfl (hsl _ _ rfl) rfl rfl hk24 hK)) aN))) ?_)
   refine aO (λ _=>.rptr (aa.cs (lat l_0 (i17+1)))) rfl rfl rfl (gk rfl rfl (λ _=>rfl)) (lt2 rfl rfl) (bo rfl (aC [(19,_),(21,_)] ⟨.inr ⟨7,_,rfl,rfl,rfl⟩,.inr ⟨9,_,rfl,rfl,rfl⟩,trivial⟩ (λ sl hsl K hK=>ah rfl (op_at (f:=ay) (l:=l_0) aa.cs rfl rfl rfl rfl rfl rfl (hsl _ _ rfl) rfl (hsl _ _ rfl) hk25 aa.cells_eq (λ _=>rfl) hK)) (aC [(19,_),(21,_)] ⟨.inr ⟨7,_,rfl,rfl,rfl⟩,.inr ⟨9,_,rfl,rfl,rfl⟩,trivial⟩ (λ sl hsl K hK=>ah rfl (op_at (f:=ay) (l:=l_0) aa.cs rfl rfl rfl rfl rfl rfl (hsl _ _ rfl) rfl (hsl _ _ rfl) hk25 aa.cells_eq (λ _=>rfl) hK)) aN))) (aO (λ _=>.p (.agg (aa.cs (lat l_0 (i17+1))))) rfl rfl rfl (gk rfl rfl (λ _=>rfl)) (lt2 rfl rfl) (bo rfl (aC [(22,_)] ⟨.inr ⟨10,_,rfl,rfl,rfl⟩,trivial⟩ (λ sl hsl K hK=>ah rfl (eV rfl rfl rfl rfl rfl (hsl _ _ rfl) rfl hK)) (aC [(22,_)] ⟨.inr ⟨10,_,rfl,rfl,rfl⟩,trivial⟩ (λ sl hsl K hK=>ah rfl (eV rfl rfl rfl rfl rfl (hsl _ _ rfl) rfl hK)) aN))) ?_)
   refine aO (λ _=>.p (eS r26)) rfl rfl rfl (gk rfl rfl (λ _=>rfl)) (lt2 rfl rfl) (bo rfl (bo rfl (aC [(23,_)] ⟨.inr ⟨11,_,rfl,rfl,rfl⟩,trivial⟩ (λ sl hsl K hK=>ah rfl (a6 (ih_format_Expr_ok (lat l_0 (i17+1)) _ e27) rfl rfl rfl (aG (hsl _ _ rfl) aX) ⟨sr,trivial⟩ Tryd.call8 rfl hK)) aN))) (aO (λ _=>.p (eS ((r21++([32,61,32]:Bytes))++r26))) rfl rfl rfl (gk rfl rfl (λ _=>rfl)) (lt2 rfl rfl) (bo rfl (aC [(18,_),(24,_)] ⟨.inr ⟨6,_,rfl,rfl,rfl⟩,.inr ⟨12,_,rfl,rfl,rfl⟩,trivial⟩ (λ sl hsl K hK=>ah rfl (aM rfl rfl rfl (hsl _ _ rfl) (hsl _ _ rfl) hk28 hK)) (aC [(18,_),(24,_)] ⟨.inr ⟨6,_,rfl,rfl,rfl⟩,.inr ⟨12,_,rfl,rfl,rfl⟩,trivial⟩ (λ sl hsl K hK=>ah rfl (aM rfl rfl rfl (hsl _ _ rfl) (hsl _ _ rfl) hk28 hK)) aN))) ?_)
   refine aO (λ _=>.p (eL eS ([(r21++([32,61,32]:Bytes))++r26]))) rfl rfl rfl (gk rfl rfl (λ _=>rfl)) (lt2 rfl rfl) (bo rfl (bo rfl (aC [(25,_)] ⟨.inr ⟨13,_,rfl,rfl,rfl⟩,trivial⟩ (λ sl hsl K hK=>ah rfl (di eS [(r21++([32,61,32]:Bytes))++r26] rfl rfl rfl rfl rfl rfl (fK (hsl _ _ rfl) rfl jB) rfl rfl rfl rfl rfl rfl rfl hK)) aN))) (kQ (λ _=>.vec 27 1 0 ((out16++([(r21++([32,61,32]:Bytes))++r26])).map eS)) [(12,_),(26,_)] rfl ⟨.inr ⟨0,_,rfl,rfl,rfl⟩,.inr ⟨14,_,rfl,rfl,rfl⟩,trivial⟩ rfl rfl (bO rfl (λ _=>rfl)) (lt2 (λ h=>absurd h (by decide)) (λ _=>rfl)) (λ sl hsl K hK=>ah rfl (kJ eS out16 ([(r21++([32,61,32]:Bytes))++r26]) rfl rfl rfl rfl rfl rfl rfl rfl (hsl _ _ rfl) rfl rfl (hsl _ _ rfl) rfl (λ _=>rfl) rfl rfl rfl rfl hk29 hK)) ?_)
   refine kQ (λ _=>.vec 27 1 0 ((out16++([(r21++([32,61,32]:Bytes))++r26])).map eS)) [(27,_)] rfl ⟨.inr ⟨15,_,rfl,rfl,rfl⟩,trivial⟩ rfl rfl (λ _=>rfl) (lt2 (λ h=>absurd h (by decide)) (λ h=>absurd h (by decide))) (λ sl hsl K hK=>ah rfl (iE rfl rfl rfl (hsl _ _ rfl) hK)) (nB ?_)
   refine nx 3 rfl (oA h1 rfl rfl λ hk30 h1=>?_)
   exact nx 2 rfl (eX (out16++([(r21++([32,61,32]:Bytes))++r26]),i17+2) h1 (gE rfl rfl))
  exact nx 2 rfl (eXi _ (oi h1).symm (gE rfl rfl))
 ·skip
  intro e_0 n_1 r h0
  rw [cZ] at h0
  refine aY good Tryd.func20 rfl rfl rfl λ w0=>mP (λ v:Bytes=>.p (eS v)) ?_
  refine nx 9 rfl (bd h0 λ r1 e2 h0=>?_)
  refine oK (gX e_0 _ e2) rfl ⟨sr,trivial⟩ Tryd.call22 rfl (nx 3 rfl ?_)
  refine fD [8] h0 rfl (λ c3 h0=>?_) λ c3 h0=>?_
  ·refine nx 4 rfl (bd h0 λ r4 e5 h0=>?_)
   refine oK (ih_format_Expr_ok e_0 _ e5) rfl ⟨sr,trivial⟩ Tryd.call8 rfl (oC h0 rfl λ hk6 h0=>?_)
   exact oC h0 rfl λ hk7 h0=>nx 3 rfl (mQ (oi h0) rfl (sr))
  refine nx 5 rfl (bd h0 λ r8 e9 h0=>?_)
  refine oK (ih_format_Expr_ok e_0 _ e9) rfl ⟨sr,trivial⟩ Tryd.call8 rfl (nx 3 rfl ?_)
  exact mQ (oi h0) rfl (sr)
 ·skip
  intro e_0 r h0
  rw [dp] at h0
  refine aY good Tryd.func23 rfl rfl rfl λ w0=>mP (λ v:Bytes=>.p (eS v)) ?_
  refine nx 10 rfl (bd h0 λ o36 h1 h0=>?_)
  refine kN o36 (λ v37=>⟨[(1,.ptr 1 0),(3,.p (eS v37))],[(1,(aa.cs e_0).map .p)]⟩) ?_ ?_
  ·refine nx 2 rfl (cc' h0 λ hk5 h0=>?_)
   refine cc' h0 λ hk6 h0=>bd h0 λ r7 e8 h0=>cc' h0 λ hk9 h0=>cc' h0 λ hk10 h0=>cc' h0 λ hk11 h0=>bd h0 λ r12 e13 h0=>cc' h0 λ hk14 h0=>cc' h0 λ hk15 h0=>mG (gE (t:=⟨[(1,.ptr 1 0),(3,.p (eS o36))],[(1,(aa.cs e_0).map .p)]⟩) rfl rfl) (mS ⟨1,[18],(λ _=>.none),(by2 [(1,.ptr 1 0),(3,.p (eS o36))] [(1,.ptr 1 0)]),(λ _=>[(1,[.p (eI e_0.fKind),.p (eI e_0.fOp),.p (eS e_0.fName),.p (eS e_0.fKey),.p (eI e_0.fValue.fKind),.p (eI e_0.fValue.fNum),.p (eS e_0.fValue.fStr),.p (eL bP e_0.fValue.fItems),.p (eL eS e_0.fValue.fKeys),.p (eL ay e_0.fKids),.p (eI e_0.fAt)])])⟩ rfl rfl rfl ⟨rfl,rfl,trivial⟩ (lt1 ⟨rfl,trivial⟩) rfl rfl rfl rfl ?_)
   refine aO (λ _=>.p (eS o36)) rfl rfl rfl (bO rfl (λ _=>rfl)) (lt1 rfl) (bo rfl (aC [(3,_)] ⟨.inl rfl,trivial⟩ (λ sl hsl K hK=>ah rfl (dj rfl rfl rfl (hsl _ _ rfl) hK)) aN)) (aO (λ _=>.ptr 1 2) rfl rfl rfl (bO rfl (λ _=>rfl)) (lt1 rfl) (bo rfl (aC [(1,_)] ⟨.inl rfl,trivial⟩ (λ sl hsl K hK=>ah rfl (cK rfl rfl rfl rfl rfl rfl rfl rfl (hsl _ _ rfl) hK)) aN)) ?_)
   refine aO (λ _=>.p (eS e_0.fName)) rfl rfl rfl (bO rfl (λ _=>rfl)) (lt1 rfl) (bo rfl (aC [(14,_)] ⟨.inr ⟨1,_,rfl,rfl,rfl⟩,trivial⟩ (λ sl hsl K hK=>ah rfl (eg rfl rfl rfl rfl rfl (hsl _ _ rfl) rfl rfl hK)) aN)) (aO (λ _=>.p (eS (e_0.fName++([32,105,110,32]:Bytes)))) rfl rfl rfl (bO rfl (λ _=>rfl)) (lt1 rfl) (bo rfl (aC [(15,_)] ⟨.inr ⟨2,_,rfl,rfl,rfl⟩,trivial⟩ (λ sl hsl K hK=>ah rfl (aM rfl rfl rfl (hsl _ _ rfl) rfl hk5 hK)) aN)) ?_)
   refine aO (λ _=>.ptr 1 9) rfl rfl rfl (bO rfl (λ _=>rfl)) (lt1 rfl) (bo rfl (aC [(1,_)] ⟨.inl rfl,trivial⟩ (λ sl hsl K hK=>ah rfl (cK rfl rfl rfl rfl rfl rfl rfl rfl (hsl _ _ rfl) hK)) aN)) (aO (λ _=>.p (eL ay e_0.fKids)) rfl rfl rfl (bO rfl (λ _=>rfl)) (lt1 rfl) (bo rfl (aC [(17,_)] ⟨.inr ⟨4,_,rfl,rfl,rfl⟩,trivial⟩ (λ sl hsl K hK=>ah rfl (eg rfl rfl rfl rfl rfl (hsl _ _ rfl) rfl rfl hK)) aN)) ?_)
   refine aO (λ _=>.rptr (aa.cs (lat e_0.fKids 0))) rfl rfl rfl (bO rfl (λ _=>rfl)) (lt1 rfl) (bo rfl (aC [(18,_)] ⟨.inr ⟨5,_,rfl,rfl,rfl⟩,trivial⟩ (λ sl hsl K hK=>ah rfl (op_at (f:=ay) (l:=e_0.fKids) aa.cs rfl rfl rfl rfl rfl rfl (hsl _ _ rfl) rfl rfl hk6 aa.cells_eq (λ _=>rfl) hK)) aN)) (aO (λ _=>.p (.agg (aa.cs (lat e_0.fKids 0)))) rfl rfl rfl (bO rfl (λ _=>rfl)) (lt1 rfl) (bo rfl (aC [(19,_)] ⟨.inr ⟨6,_,rfl,rfl,rfl⟩,trivial⟩ (λ sl hsl K hK=>ah rfl (eV rfl rfl rfl rfl rfl (hsl _ _ rfl) rfl hK)) aN)) ?_)
   refine aO (λ _=>.p (eS r7)) rfl rfl rfl (bO rfl (λ _=>rfl)) (lt1 rfl) (bo rfl (aC [(20,_)] ⟨.inr ⟨7,_,rfl,rfl,rfl⟩,trivial⟩ (λ sl hsl K hK=>ah rfl (a6 (ih_format_Expr_ok (lat e_0.fKids 0) _ e8) rfl rfl rfl (aG (hsl _ _ rfl) aX) ⟨sr,trivial⟩ Tryd.call8 rfl hK)) aN)) (aO (λ _=>.p (eS ((e_0.fName++([32,105,110,32]:Bytes))++r7))) rfl rfl rfl (bO rfl (λ _=>rfl)) (lt1 rfl) (bo rfl (aC [(16,_),(21,_)] ⟨.inr ⟨3,_,rfl,rfl,rfl⟩,.inr ⟨8,_,rfl,rfl,rfl⟩,trivial⟩ (λ sl hsl K hK=>ah rfl (aM rfl rfl rfl (hsl _ _ rfl) (hsl _ _ rfl) hk9 hK)) aN)) ?_)
   refine aO (λ _=>.p (eS (((e_0.fName++([32,105,110,32]:Bytes))++r7)++([32,58,32]:Bytes)))) rfl rfl rfl (bO rfl (λ _=>rfl)) (lt1 rfl) (bo rfl (aC [(22,_)] ⟨.inr ⟨9,_,rfl,rfl,rfl⟩,trivial⟩ (λ sl hsl K hK=>ah rfl (aM rfl rfl rfl (hsl _ _ rfl) rfl hk10 hK)) aN)) (aO (λ _=>.ptr 1 9) rfl rfl rfl (bO rfl (λ _=>rfl)) (lt1 rfl) (bo rfl (aC [(1,_)] ⟨.inl rfl,trivial⟩ (λ sl hsl K hK=>ah rfl (cK rfl rfl rfl rfl rfl rfl rfl rfl (hsl _ _ rfl) hK)) aN)) ?_)
   refine aO (λ _=>.p (eL ay e_0.fKids)) rfl rfl rfl (bO rfl (λ _=>rfl)) (lt1 rfl) (bo rfl (aC [(24,_)] ⟨.inr ⟨11,_,rfl,rfl,rfl⟩,trivial⟩ (λ sl hsl K hK=>ah rfl (eg rfl rfl rfl rfl rfl (hsl _ _ rfl) rfl rfl hK)) aN)) (aO (λ _=>.rptr (aa.cs (lat e_0.fKids 1))) rfl rfl rfl (bO rfl (λ _=>rfl)) (lt1 rfl) (bo rfl (aC [(25,_)] ⟨.inr ⟨12,_,rfl,rfl,rfl⟩,trivial⟩ (λ sl hsl K hK=>ah rfl (op_at (f:=ay) (l:=e_0.fKids) aa.cs rfl rfl rfl rfl rfl rfl (hsl _ _ rfl) rfl rfl hk11 aa.cells_eq (λ _=>rfl) hK)) aN)) ?_)
   refine aO (λ _=>.p (.agg (aa.cs (lat e_0.fKids 1)))) rfl rfl rfl (bO rfl (λ _=>rfl)) (lt1 rfl) (bo rfl (aC [(26,_)] ⟨.inr ⟨13,_,rfl,rfl,rfl⟩,trivial⟩ (λ sl hsl K hK=>ah rfl (eV rfl rfl rfl rfl rfl (hsl _ _ rfl) rfl hK)) aN)) (aO (λ _=>.p (eS r12)) rfl rfl rfl (bO rfl (λ _=>rfl)) (lt1 rfl) (bo rfl (aC [(27,_)] ⟨.inr ⟨14,_,rfl,rfl,rfl⟩,trivial⟩ (λ sl hsl K hK=>ah rfl (a6 (ih_format_Expr_ok (lat e_0.fKids 1) _ e13) rfl rfl rfl (aG (hsl _ _ rfl) aX) ⟨sr,trivial⟩ Tryd.call8 rfl hK)) aN)) ?_)
   refine aO (λ _=>.p (eS ((((e_0.fName++([32,105,110,32]:Bytes))++r7)++([32,58,32]:Bytes))++r12))) rfl rfl rfl (bO rfl (λ _=>rfl)) (lt1 rfl) (bo rfl (aC [(23,_),(28,_)] ⟨.inr ⟨10,_,rfl,rfl,rfl⟩,.inr ⟨15,_,rfl,rfl,rfl⟩,trivial⟩ (λ sl hsl K hK=>ah rfl (aM rfl rfl rfl (hsl _ _ rfl) (hsl _ _ rfl) hk14 hK)) aN)) (aO (λ _=>.p (eS (o36++((((e_0.fName++([32,105,110,32]:Bytes))++r7)++([32,58,32]:Bytes))++r12)))) rfl rfl rfl (bO rfl (λ _=>rfl)) (lt1 rfl) (bo rfl (aC [(13,_),(29,_)] ⟨.inr ⟨0,_,rfl,rfl,rfl⟩,.inr ⟨16,_,rfl,rfl,rfl⟩,trivial⟩ (λ sl hsl K hK=>ah rfl (aM rfl rfl rfl (hsl _ _ rfl) (hsl _ _ rfl) hk15 hK)) aN)) ?_)
   refine kQ (λ _=>.p (eS (o36++((((e_0.fName++([32,105,110,32]:Bytes))++r7)++([32,58,32]:Bytes))++r12)))) [(30,_)] rfl ⟨.inr ⟨17,_,rfl,rfl,rfl⟩,trivial⟩ rfl rfl (λ _=>rfl) (lt1 (λ h=>absurd h (by decide))) (λ sl hsl K hK=>ah rfl (iE rfl rfl rfl (hsl _ _ rfl) hK)) (nB ?_)
   refine nx 5 rfl (cc' h0 λ hk16 h0=>?_)
   refine mO rfl (mW (f:=ay) (l:=e_0.fKids) rfl rfl rfl rfl rfl rfl rfl rfl rfl rfl hk16 (λ x=>congrArg List.length (aa.cells_eq x)) ?_)
   refine nx 3 rfl (bd h0 λ o38 h1 h0=>?_)
   refine kN o38 (λ v39=>⟨[(3,.p (eS v39.1)),(4,.p (eL ay v39.2))],[]⟩) ?_ ?_
   ·refine nx 2 rfl (bd h0 λ o40 h1 h0=>?_)
    refine kN o40 (λ v41=>⟨[(3,.p (eS v41))],[]⟩) ?_ ?_
    ·exact nx 7 rfl (mQ (oi h0) rfl (sr))
    refine nx 3 rfl (oLl (f:=ay) rfl rfl ?_)
    refine nx 2 rfl (fD [48] h1 rfl (λ c26 h1=>?_) λ c26 h1=>?_)
    ·refine nx 4 rfl (oE h1 aa.cells_eq rfl rfl (λ _=>rfl) λ hk27 h1=>?_)
     refine nx 1 rfl (bd h1 λ r28 e29 h1=>?_)
     refine oK (ih_format_Expr_ok (lat o38.2 0) _ e29) rfl ⟨sr,trivial⟩ Tryd.call8 rfl (oC h1 rfl λ hk30 h1=>?_)
     exact oC h1 rfl λ hk31 h1=>nx 2 rfl (eX _ (oi h1).symm (gE rfl rfl))
    exact nx 2 rfl (eX _ (oi h1).symm (gE rfl rfl))
   refine nx 6 rfl (fD [36] h1 rfl (λ c17 h1=>?_) λ c17 h1=>?_)
   ·refine nx 5 rfl (oE h1 aa.cells_eq rfl rfl (λ _=>rfl) λ hk18 h1=>?_)
    refine nx 1 rfl (bd h1 λ r19 e20 h1=>?_)
    refine oK (ih_format_Expr_ok (lat (sub e_0.fKids 2 (e_0.fKids.length:Int)) 0) _ e20) rfl ⟨sr,trivial⟩ Tryd.call8 rfl (oC h1 rfl λ hk21 h1=>?_)
    refine oC h1 rfl λ hk22 h1=>nx 2 rfl (mG (gE (t:=⟨[(3,.p (eS ((o36++((((e_0.fName++([32,105,110,32]:Bytes))++r7)++([32,58,32]:Bytes))++r12))++(([32,61,62,32]:Bytes)++r19)))),(4,.p (eL ay (sub e_0.fKids 2 (e_0.fKids.length:Int))))],[]⟩) rfl rfl) ?_)
    refine nx 2 rfl (cc' h1 λ hk23 h1=>?_)
    refine mO rfl (mW (f:=ay) (l:=sub e_0.fKids 2 (e_0.fKids.length:Int)) rfl rfl rfl rfl rfl rfl rfl rfl rfl rfl hk23 (λ x=>congrArg List.length (aa.cells_eq x)) ?_)
    exact nx 2 rfl (eX _ (oi h1).symm (gE rfl rfl))
   exact nx 2 rfl (eX _ (oi h1).symm (gE rfl rfl))
  refine nx 4 rfl (oS rfl rfl ?_)
  refine nx 1 rfl (fN [7] h1 rfl (λ c1 h1=>?_) λ c1 h1=>?_)
  ·exact nx 2 rfl (eX _ (oi h1).symm (gE rfl rfl))
  refine nx 5 rfl (oC h1 rfl λ hk2 h1=>?_)
  exact oC h1 rfl λ hk3 h1=>nx 2 rfl (eX _ (oi h1).symm (gE rfl rfl))
 ·skip
  intro e_0 r h0
  rw [cV] at h0
  refine aY good Tryd.func41 rfl rfl rfl λ w0=>mP (λ v:Bytes=>.p (eS v)) ?_
  refine nx 8 rfl (bd h0 λ o17 h1 h0=>?_)
  refine kN o17 (λ v18=>⟨[(1,.ptr 1 0),(3,.p (eB v18))],[(1,(aa.cs e_0).map .p)]⟩) ?_ ?_
  ·refine nx 1 rfl (fB [3] h0 rfl (λ c3 h0=>?_) λ c3 h0=>?_)
   ·refine nx 7 rfl (bd h0 λ r4 e5 h0=>?_)
    refine oK (kZ _ e_0.fValue.fStr _ e5) rfl ⟨sr,trivial⟩ Tryd.call49 rfl (nx 1 rfl ?_)
    refine fB [16] h0 rfl (λ c6 h0=>?_) λ c6 h0=>?_
    ·exact nx 9 rfl (mQ (oi h0) rfl (sr))
    refine nx 5 rfl (bd h0 λ r7 e8 h0=>?_)
    refine oK (ih_format_Expr_ok e_0 _ e8) rfl ⟨sr,trivial⟩ Tryd.call8 rfl (nx 3 rfl ?_)
    exact mQ (oi h0) rfl (sr)
   refine nx 8 rfl (fD [22,25] h0 rfl (λ c9 h0=>?_) λ c9 h0=>?_)
   ·refine nx 4 rfl (bd h0 λ r10 e11 h0=>?_)
    refine oK (ih_format_Expr_ok e_0 _ e11) rfl ⟨sr,trivial⟩ Tryd.call8 rfl (nx 3 rfl ?_)
    exact mQ (oi h0) rfl (sr)
   refine nx 5 rfl (bd h0 λ r12 e13 h0=>?_)
   refine oK (ih_format_Expr_ok e_0 _ e13) rfl ⟨sr,trivial⟩ Tryd.call8 rfl (oC h0 rfl λ hk14 h0=>?_)
   exact oC h0 rfl λ hk15 h0=>nx 3 rfl (mQ (oi h0) rfl (sr))
  refine nx 5 rfl (fD [6,7] h1 rfl (λ c1 h1=>?_) λ c1 h1=>?_)
  ·exact nx 7 rfl (eX _ (oi h1).symm (gE rfl rfl))
  exact nx 7 rfl (eX _ (oi h1).symm (gE rfl rfl))
theorem co (n:Nat):∀ (e_0:aa) (r:Bytes),aj n e_0=some r→aE Tryd.prog 8 [.agg (aa.cs e_0)] (·=.p (eS r)):=(kA n).1
def d9 (s_0:Bytes):Option aa :=
 some (aa.mk 3 0 s_0 ([]:Bytes) (ab.mk 0 0 ([]:Bytes) [] []) [] 0)
theorem dU (s_0:Bytes)(r:aa)(h0:d9 s_0=some r):aE Tryd.prog 11 [eS s_0] (·=.p (.agg (aa.cs r))):=by
 unfold d9 at h0
 refine aY good Tryd.func11 rfl rfl rfl λ w0=>mP (λ v:aa=>.p (.agg (aa.cs v))) ?_
 exact nx 11 rfl (mQ (oi h0) rfl (en ⟨.inl rfl,.inl rfl,.inl rfl,.inl rfl,.inl rfl,.inl rfl,.inl rfl,.inr ⟨rfl,rfl⟩,.inr ⟨rfl,rfl⟩,.inr ⟨rfl,rfl⟩,.inl rfl,trivial⟩))
def cw (n:Nat)(b_1:aD)(indent_2:Bytes):Nat→Int→(List UInt8)→Option (List UInt8)
 | 0,_,_=>none
 | m+1,t14,f15 =>
 if t14 < (b_1.fAttrs.length:Int) then
  ck ((0:Int)≤t14∧t14 < (b_1.fAttrs.length:Int)) <|
  ck (indent_2.length+((lat b_1.fAttrs t14).fName).length≤9223372036854775807) <|
  ck ((indent_2++((lat b_1.fAttrs t14).fName)).length+([32,61,32]:Bytes).length≤9223372036854775807) <|
  (aj n ((lat b_1.fAttrs t14).fExpr)).bind λ r20 =>
  ck (((indent_2++((lat b_1.fAttrs t14).fName))++([32,61,32]:Bytes)).length+r20.length≤9223372036854775807) <|
  ck ((((indent_2++((lat b_1.fAttrs t14).fName))++([32,61,32]:Bytes))++r20).length+([10]:Bytes).length≤9223372036854775807) <|
  (az (al.mk f15) ((((indent_2++((lat b_1.fAttrs t14).fName))++([32,61,32]:Bytes))++r20)++([10]:Bytes))).bind λ r24 =>
  ck (inR (t14+1)) <|
  cw n b_1 indent_2 m (t14+1) r24.2.2.fbuf
 else
  some f15
def cr (n:Nat)(b_1:aD)(t69:Int):Nat→Int→(List UInt8)→Option (List UInt8)
 | 0,_,_=>none
 | m+1,t86,f87 =>
 if t86 < (((lat b_1.fBlocks t69).fLabels).length:Int) then
  ck ((0:Int)≤t86∧t86 < (((lat b_1.fBlocks t69).fLabels).length:Int)) <|
  (cX n (lat ((lat b_1.fBlocks t69).fLabels) t86)).bind λ r90 =>
  ck (([32]:Bytes).length+r90.length≤9223372036854775807) <|
  (az (al.mk f87) (([32]:Bytes)++r90)).bind λ r93 =>
  ck (inR (t86+1)) <|
  cr n b_1 t69 m (t86+1) r93.2.2.fbuf
 else
  some f87
def ct (n:Nat)(r_format_write:al→aD→Bytes→Option al)(b_1:aD)(indent_2:Bytes):Nat→Int→(List UInt8)→Option (List UInt8)
 | 0,_,_=>none
 | m+1,t69,f70 =>
 if t69 < (b_1.fBlocks.length:Int) then
  ck ((0:Int)≤t69∧t69 < (b_1.fBlocks.length:Int)) <|
  ck (indent_2.length+((lat b_1.fBlocks t69).fType).length≤9223372036854775807) <|
  (az (al.mk f70) (indent_2++((lat b_1.fBlocks t69).fType))).bind λ r74 =>
  (cr n b_1 t69 n 0 r74.2.2.fbuf).bind λ f98 =>
  (az (al.mk f98) ([32,123,10]:Bytes)).bind λ r99 =>
  ck (indent_2.length+([32,32]:Bytes).length≤9223372036854775807) <|
  (r_format_write (al.mk r99.2.2.fbuf) ((lat b_1.fBlocks t69).fBody) (indent_2++([32,32]:Bytes))).bind λ r102 =>
  ck (indent_2.length+([125,10]:Bytes).length≤9223372036854775807) <|
  (az (al.mk r102.fbuf) (indent_2++([125,10]:Bytes))).bind λ r105 =>
  ck (inR (t69+1)) <|
  ct n r_format_write b_1 indent_2 m (t69+1) r105.2.2.fbuf
 else
  some f70
def cm:Nat→al→aD→Bytes→Option al
 | 0,_,_,_=>none
 | n+1,w_0,b_1,indent_2 =>
 (cw n b_1 indent_2 n 0 w_0.fbuf).bind λ f29 =>
 (ct n (cm n) b_1 indent_2 n 0 f29).bind λ f110 =>
 some (al.mk f110)
theorem kj (n:Nat):∀ (w_0:al) (b_1:aD) (indent_2:Bytes) (r:al),cm n w_0 b_1 indent_2=some r→dx Tryd.prog 26 [.ptr 1000000 0,.p (.agg (aD.cs b_1)),.p (eS indent_2)] [(1000000,[.bptr 65 2 1000000,.vec 900000 1 (5+1) (w_0.fbuf.map eU)])] (λ x y=>x=.tuple []∧y=[(1000000,[.bptr 65 2 1000000,.vec 2000000 1 (5+1) (r.fbuf.map eU)])]):=by
 induction n with
 | zero=>intro w_0 b_1 indent_2 r h0; cases h0
 | succ n ih =>
 have ih_format_write_ok:=ih
 intro w_0 b_1 indent_2 r h0
 rw [cm] at h0
 refine pR good [800000] [1000000] Tryd.func26 rfl rfl rfl rfl rfl λ w0 F=>mPo (λ v:al=>.tuple []) (λ v=>[(1000000,[.bptr 65 2 1000000,.vec 2000000 1 (5+1) (v.fbuf.map eU)])]) ?_
 refine nx 9 rfl (oLl (f:=bg) rfl rfl ?_)
 refine nx 3 rfl (bd h0 λ o114 h1 h0=>?_)
 refine kE 0 o114 (λ v115=>⟨[(0,.ptr 1000000 0),(2,.p (eS indent_2)),(4,.ptr 4 0)],[(4,(aD.cs b_1).map .p),(1000000,[.bptr 65 2 1000000,.vec 900000 1 (5+1) (v115.map eU)])]⟩) ?_ ?_
 ·refine nx 5 rfl (oLl (f:=cG) rfl rfl ?_)
  refine nx 3 rfl (bd h0 λ o116 h1 h0=>?_)
  refine kE 2 o116 (λ v117=>⟨[],[(1000000,[.bptr 65 2 1000000,.vec 900000 1 (5+1) (v117.map eU)])]⟩) ?_ ?_
  ·exact nx 1 rfl (mQon (oi h0) (bh (b9 900000 800000 rfl rfl rfl rfl rfl) (eT _)) rfl rfl rfl rfl (sr) ⟨⟨_,rfl,⟨sr,sr,trivial⟩⟩,trivial⟩)
  refine lG (λ (q118:Int×(List UInt8))=>⟨[(0,.ptr 1000000 0),(2,.p (eS indent_2)),(33,.p (eL cG b_1.fBlocks)),(34,.p (eI (b_1.fBlocks.length:Int))),(35,.p (eI q118.1))],[(1000000,[.bptr 65 2 1000000,.vec 900000 1 (5+1) (q118.2.map eU)])]⟩) (λ m (q118:Int×(List UInt8))=>ct n (cm n) b_1 indent_2 m q118.1 q118.2) (λ _=>rfl) (0,o114) h1 (gE rfl rfl) ?_
  rintro m ⟨t69,f70⟩ h1
  replace h1:ct n (cm n) b_1 indent_2 (m+1) t69 f70=some o116:=h1
  rw [ct] at h1
  refine nx 5 rfl (fD [36] h1 rfl (λ c71 h1=>?_) λ c71 h1=>?_)
  ·refine nx 6 rfl (oE h1 ak.cells_eq rfl rfl (λ _=>rfl) λ hk72 h1=>?_)
   refine nx 10 rfl (oC h1 rfl λ hk73 h1=>?_)
   refine bd h1 λ r74 e75 h1=>mO rfl (bz [1000000] [900000] 109000 109001 (aH (al.mk f70) (indent_2++((lat b_1.fBlocks t69).fType)) _ e75) rfl rfl rfl rfl rfl ⟨sr,sr,trivial⟩ rfl rfl ⟨⟨_,rfl,⟨sr,sr,trivial⟩⟩,trivial⟩ rfl rfl rfl rfl rfl rfl rfl rfl Tryd.call38 rfl rfl ?_)
   refine nx 6 rfl (oLl (f:=eS) rfl rfl ?_)
   refine nx 3 rfl (bd h1 λ o119 h2 h1=>?_)
   refine kE 4 o119 (λ v120=>⟨[(0,.ptr 1000000 0),(2,.p (eS indent_2)),(9,.ptr 9 0),(33,.p (eL cG b_1.fBlocks)),(34,.p (eI (b_1.fBlocks.length:Int))),(35,.p (eI t69))],[(9,(ak.cs (lat b_1.fBlocks t69)).map .p),(1000000,[.bptr 65 2 1000000,.vec 110000 1 (5+1) (v120.map eU)])]⟩) ?_ ?_
   ·refine nx 4 rfl (bd h1 λ r99 e100 h1=>?_)
    refine mO rfl (bz [1000000] [110000] 112000 112001 (aH (al.mk o119) ([32,123,10]:Bytes) _ e100) rfl rfl rfl rfl rfl ⟨sr,sr,trivial⟩ rfl rfl ⟨⟨_,rfl,⟨sr,sr,trivial⟩⟩,trivial⟩ rfl rfl rfl rfl rfl rfl rfl rfl Tryd.call38 rfl rfl ?_)
    refine nx 7 rfl (oC h1 rfl λ hk101 h1=>?_)
    refine bd h1 λ r102 e103 h1=>mO rfl (bz [1000000] [112000] 113000 113001 (ih_format_write_ok (al.mk r99.2.2.fbuf) ((lat b_1.fBlocks t69).fBody) (indent_2++([32,32]:Bytes)) _ e103) rfl rfl rfl rfl rfl ⟨sr,sr,sr,trivial⟩ rfl rfl ⟨⟨_,rfl,⟨sr,sr,trivial⟩⟩,trivial⟩ rfl rfl rfl rfl rfl rfl rfl rfl Tryd.call26 rfl rfl ?_)
    refine nx 4 rfl (oC h1 rfl λ hk104 h1=>?_)
    refine bd h1 λ r105 e106 h1=>mO rfl (bz [1000000] [113000] 114000 114001 (aH (al.mk r102.fbuf) (indent_2++([125,10]:Bytes)) _ e106) rfl rfl rfl rfl rfl ⟨sr,sr,trivial⟩ rfl rfl ⟨⟨_,rfl,⟨sr,sr,trivial⟩⟩,trivial⟩ rfl rfl rfl rfl rfl rfl rfl rfl Tryd.call38 rfl rfl ?_)
    refine nx 2 rfl (oA h1 rfl rfl λ hk107 h1=>?_)
    exact nx 2 rfl (eX (t69+1,r105.2.2.fbuf) h1 (bh (b9 114000 900000 rfl rfl rfl rfl rfl) (gE rfl rfl)))
   refine lG (λ (q121:Int×(List UInt8))=>⟨[(0,.ptr 1000000 0),(2,.p (eS indent_2)),(9,.ptr 9 0),(33,.p (eL cG b_1.fBlocks)),(34,.p (eI (b_1.fBlocks.length:Int))),(35,.p (eI t69)),(46,.p (eL eS ((lat b_1.fBlocks t69).fLabels))),(47,.p (eI (((lat b_1.fBlocks t69).fLabels).length:Int))),(48,.p (eI q121.1))],[(9,(ak.cs (lat b_1.fBlocks t69)).map .p),(1000000,[.bptr 65 2 1000000,.vec 110000 1 (5+1) (q121.2.map eU)])]⟩) (λ m (q121:Int×(List UInt8))=>cr n b_1 t69 m q121.1 q121.2) (λ _=>rfl) (0,r74.2.2.fbuf) h2 (bh (b9 109000 110000 rfl rfl rfl rfl rfl) (gE rfl rfl)) ?_
   rintro m ⟨t86,f87⟩ h2
   replace h2:cr n b_1 t69 (m+1) t86 f87=some o119:=h2
   rw [cr] at h2
   refine nx 5 rfl (fD [49] h2 rfl (λ c88 h2=>?_) λ c88 h2=>?_)
   ·refine nx 6 rfl (oE h2 (λ _=>rfl) rfl rfl (λ _=>rfl) λ hk89 h2=>?_)
    refine nx 6 rfl (bd h2 λ r90 e91 h2=>?_)
    refine oK (gY _ (lat ((lat b_1.fBlocks t69).fLabels) t86) _ e91) rfl ⟨sr,trivial⟩ Tryd.call43 rfl (oC h2 rfl λ hk92 h2=>?_)
    refine bd h2 λ r93 e94 h2=>mO rfl (bz [1000000] [110000] 111000 111001 (aH (al.mk f87) (([32]:Bytes)++r90) _ e94) rfl rfl rfl rfl rfl ⟨sr,sr,trivial⟩ rfl rfl ⟨⟨_,rfl,⟨sr,sr,trivial⟩⟩,trivial⟩ rfl rfl rfl rfl rfl rfl rfl rfl Tryd.call38 rfl rfl ?_)
    refine nx 2 rfl (oA h2 rfl rfl λ hk95 h2=>?_)
    exact nx 2 rfl (eX (t86+1,r93.2.2.fbuf) h2 (bh (b9 111000 110000 rfl rfl rfl rfl rfl) (gE rfl rfl)))
   exact nx 2 rfl (eXi _ (oi h2).symm (gE rfl rfl))
  exact nx 2 rfl (eXi _ (oi h1).symm (gE rfl rfl))
 refine lG (λ (q122:Int×(List UInt8))=>⟨[(0,.ptr 1000000 0),(2,.p (eS indent_2)),(4,.ptr 4 0),(13,.p (eL bg b_1.fAttrs)),(14,.p (eI (b_1.fAttrs.length:Int))),(15,.p (eI q122.1))],[(4,(aD.cs b_1).map .p),(1000000,[.bptr 65 2 1000000,.vec 900000 1 (5+1) (q122.2.map eU)])]⟩) (λ m (q122:Int×(List UInt8))=>cw n b_1 indent_2 m q122.1 q122.2) (λ _=>rfl) (0,w_0.fbuf) h1 (gE rfl rfl) ?_
 rintro m ⟨t14,f15⟩ h1
 replace h1:cw n b_1 indent_2 (m+1) t14 f15=some o114:=h1
 rw [cw] at h1
 refine nx 5 rfl (fD [16] h1 rfl (λ c16 h1=>?_) λ c16 h1=>?_)
 ·refine nx 6 rfl (oE h1 ad.cells_eq rfl rfl (λ _=>rfl) λ hk17 h1=>?_)
  refine nx 4 rfl (cc' h1 λ hk18 h1=>?_)
  refine cc' h1 λ hk19 h1=>bd h1 λ r20 e21 h1=>cc' h1 λ hk22 h1=>cc' h1 λ hk23 h1=>bd h1 λ r24 e25 h1=>mG (gE (t:=⟨[(0,.ptr 1000000 0),(2,.p (eS indent_2)),(4,.ptr 4 0),(7,.ptr 7 0),(13,.p (eL bg b_1.fAttrs)),(14,.p (eI (b_1.fAttrs.length:Int))),(15,.p (eI t14))],[(4,(aD.cs b_1).map .p),(7,(ad.cs (lat b_1.fAttrs t14)).map .p),(1000000,[.bptr 65 2 1000000,.vec 900000 1 (5+1) (f15.map eU)])]⟩) rfl rfl) (mS ⟨1,[11],(by2 (.some (dB [900000] 102000 102001)) .none),(λ _=>[(0,.ptr 1000000 0),(2,.p (eS indent_2)),(4,.ptr 4 0),(7,.ptr 7 0),(13,.p (eL bg b_1.fAttrs)),(14,.p (eI (b_1.fAttrs.length:Int))),(15,.p (eI t14))]),(by2 ([(4,[.p (eL bg b_1.fAttrs),.p (eL cG b_1.fBlocks)]),(7,[.p (eS ((lat b_1.fAttrs t14).fName)),.p (eI (((lat b_1.fAttrs t14).fExpr).fKind)),.p (eI (((lat b_1.fAttrs t14).fExpr).fOp)),.p (eS (((lat b_1.fAttrs t14).fExpr).fName)),.p (eS (((lat b_1.fAttrs t14).fExpr).fKey)),.p (eI ((((lat b_1.fAttrs t14).fExpr).fValue).fKind)),.p (eI ((((lat b_1.fAttrs t14).fExpr).fValue).fNum)),.p (eS ((((lat b_1.fAttrs t14).fExpr).fValue).fStr)),.p (eL bP ((((lat b_1.fAttrs t14).fExpr).fValue).fItems)),.p (eL eS ((((lat b_1.fAttrs t14).fExpr).fValue).fKeys)),.p (eL ay (((lat b_1.fAttrs t14).fExpr).fKids)),.p (eI (((lat b_1.fAttrs t14).fExpr).fAt)),.p (eI ((lat b_1.fAttrs t14).fAt))]),(1000000,[.bptr 65 2 1000000,.vec 900000 1 (5+1) (f15.map eU)])]) ([(1000000,[.bptr 65 2 1000000,.vec 102000 1 (5+1) (r24.2.2.fbuf.map eU)]),(4,[.p (eL bg b_1.fAttrs),.p (eL cG b_1.fBlocks)]),(7,[.p (eS ((lat b_1.fAttrs t14).fName)),.p (eI (((lat b_1.fAttrs t14).fExpr).fKind)),.p (eI (((lat b_1.fAttrs t14).fExpr).fOp)),.p (eS (((lat b_1.fAttrs t14).fExpr).fName)),.p (eS (((lat b_1.fAttrs t14).fExpr).fKey)),.p (eI ((((lat b_1.fAttrs t14).fExpr).fValue).fKind)),.p (eI ((((lat b_1.fAttrs t14).fExpr).fValue).fNum)),.p (eS ((((lat b_1.fAttrs t14).fExpr).fValue).fStr)),.p (eL bP ((((lat b_1.fAttrs t14).fExpr).fValue).fItems)),.p (eL eS ((((lat b_1.fAttrs t14).fExpr).fValue).fKeys)),.p (eL ay (((lat b_1.fAttrs t14).fExpr).fKids)),.p (eI (((lat b_1.fAttrs t14).fExpr).fAt)),.p (eI ((lat b_1.fAttrs t14).fAt))])]))⟩ rfl rfl rfl ⟨rfl,rfl,rfl,rfl,rfl,rfl,rfl,trivial⟩ (lt1 ⟨rfl,rfl,rfl,rfl,rfl,rfl,rfl,trivial⟩) rfl rfl rfl rfl ?_)
  refine aO (λ _=>.ptr 1000000 0) rfl rfl rfl (bO rfl (λ _=>rfl)) (lt1 rfl) (bo rfl (aC [(0,_)] ⟨.inl rfl,trivial⟩ (λ sl hsl K hK=>ah rfl (dj rfl rfl rfl (hsl _ _ rfl) hK)) aN)) (aO (λ _=>.p (eS indent_2)) rfl rfl rfl (bO rfl (λ _=>rfl)) (lt1 rfl) (aC [(2,_)] ⟨.inl rfl,trivial⟩ (λ sl hsl K hK=>ah rfl (dj rfl rfl rfl (hsl _ _ rfl) hK)) (aC [(2,_)] ⟨.inl rfl,trivial⟩ (λ sl hsl K hK=>ah rfl (dj rfl rfl rfl (hsl _ _ rfl) hK)) aN)) ?_)
  refine aO (λ _=>.ptr 7 0) rfl rfl rfl (bO rfl (λ _=>rfl)) (lt1 rfl) (aC [(7,_)] ⟨.inl rfl,trivial⟩ (λ sl hsl K hK=>ah rfl (cK rfl rfl rfl rfl rfl rfl rfl rfl (hsl _ _ rfl) hK)) (aC [(7,_)] ⟨.inl rfl,trivial⟩ (λ sl hsl K hK=>ah rfl (cK rfl rfl rfl rfl rfl rfl rfl rfl (hsl _ _ rfl) hK)) aN)) (aO (λ _=>.p (eS ((lat b_1.fAttrs t14).fName))) rfl rfl rfl (bO rfl (λ _=>rfl)) (lt1 rfl) (aC [(21,_)] ⟨.inr ⟨2,_,rfl,rfl,rfl⟩,trivial⟩ (λ sl hsl K hK=>ah rfl (eg rfl rfl rfl rfl rfl (hsl _ _ rfl) rfl rfl hK)) (aC [(21,_)] ⟨.inr ⟨2,_,rfl,rfl,rfl⟩,trivial⟩ (λ sl hsl K hK=>ah rfl (eg rfl rfl rfl rfl rfl (hsl _ _ rfl) rfl rfl hK)) aN)) ?_)
  refine aO (λ _=>.p (eS (indent_2++((lat b_1.fAttrs t14).fName)))) rfl rfl rfl (bO rfl (λ _=>rfl)) (lt1 rfl) (aC [(20,_),(22,_)] ⟨.inr ⟨1,_,rfl,rfl,rfl⟩,.inr ⟨3,_,rfl,rfl,rfl⟩,trivial⟩ (λ sl hsl K hK=>ah rfl (aM rfl rfl rfl (hsl _ _ rfl) (hsl _ _ rfl) hk18 hK)) (aC [(20,_),(22,_)] ⟨.inr ⟨1,_,rfl,rfl,rfl⟩,.inr ⟨3,_,rfl,rfl,rfl⟩,trivial⟩ (λ sl hsl K hK=>ah rfl (aM rfl rfl rfl (hsl _ _ rfl) (hsl _ _ rfl) hk18 hK)) aN)) (aO (λ _=>.p (eS ((indent_2++((lat b_1.fAttrs t14).fName))++([32,61,32]:Bytes)))) rfl rfl rfl (bO rfl (λ _=>rfl)) (lt1 rfl) (aC [(23,_)] ⟨.inr ⟨4,_,rfl,rfl,rfl⟩,trivial⟩ (λ sl hsl K hK=>ah rfl (aM rfl rfl rfl (hsl _ _ rfl) rfl hk19 hK)) (aC [(23,_)] ⟨.inr ⟨4,_,rfl,rfl,rfl⟩,trivial⟩ (λ sl hsl K hK=>ah rfl (aM rfl rfl rfl (hsl _ _ rfl) rfl hk19 hK)) aN)) ?_)
  refine aO (λ _=>.ptr 7 1) rfl rfl rfl (bO rfl (λ _=>rfl)) (lt1 rfl) (aC [(7,_)] ⟨.inl rfl,trivial⟩ (λ sl hsl K hK=>ah rfl (cK rfl rfl rfl rfl rfl rfl rfl rfl (hsl _ _ rfl) hK)) (aC [(7,_)] ⟨.inl rfl,trivial⟩ (λ sl hsl K hK=>ah rfl (cK rfl rfl rfl rfl rfl rfl rfl rfl (hsl _ _ rfl) hK)) aN)) (aO (λ _=>.p (.agg (aa.cs ((lat b_1.fAttrs t14).fExpr)))) rfl rfl rfl (bO rfl (λ _=>rfl)) (lt1 rfl) (aC [(25,_)] ⟨.inr ⟨6,_,rfl,rfl,rfl⟩,trivial⟩ (λ sl hsl K hK=>ah rfl (fE rfl rfl rfl rfl rfl (hsl _ _ rfl) rfl rfl rfl hK)) (aC [(25,_)] ⟨.inr ⟨6,_,rfl,rfl,rfl⟩,trivial⟩ (λ sl hsl K hK=>ah rfl (fE rfl rfl rfl rfl rfl (hsl _ _ rfl) rfl rfl rfl hK)) aN)) ?_)
  refine aO (λ _=>.p (eS r20)) rfl rfl rfl (bO rfl (λ _=>rfl)) (lt1 rfl) (bo rfl (aC [(26,_)] ⟨.inr ⟨7,_,rfl,rfl,rfl⟩,trivial⟩ (λ sl hsl K hK=>ah rfl (a6 (co _ ((lat b_1.fAttrs t14).fExpr) _ e21) rfl rfl rfl (aG (hsl _ _ rfl) aX) ⟨sr,trivial⟩ Tryd.call8 rfl hK)) aN)) (aO (λ _=>.p (eS (((indent_2++((lat b_1.fAttrs t14).fName))++([32,61,32]:Bytes))++r20))) rfl rfl rfl (bO rfl (λ _=>rfl)) (lt1 rfl) (aC [(24,_),(27,_)] ⟨.inr ⟨5,_,rfl,rfl,rfl⟩,.inr ⟨8,_,rfl,rfl,rfl⟩,trivial⟩ (λ sl hsl K hK=>ah rfl (aM rfl rfl rfl (hsl _ _ rfl) (hsl _ _ rfl) hk22 hK)) (aC [(24,_),(27,_)] ⟨.inr ⟨5,_,rfl,rfl,rfl⟩,.inr ⟨8,_,rfl,rfl,rfl⟩,trivial⟩ (λ sl hsl K hK=>ah rfl (aM rfl rfl rfl (hsl _ _ rfl) (hsl _ _ rfl) hk22 hK)) aN)) ?_)
  refine aO (λ _=>.p (eS ((((indent_2++((lat b_1.fAttrs t14).fName))++([32,61,32]:Bytes))++r20)++([10]:Bytes)))) rfl rfl rfl (bO rfl (λ _=>rfl)) (lt1 rfl) (bo rfl (aC [(28,_)] ⟨.inr ⟨9,_,rfl,rfl,rfl⟩,trivial⟩ (λ sl hsl K hK=>ah rfl (aM rfl rfl rfl (hsl _ _ rfl) rfl hk23 hK)) aN)) (kQ (λ _=>.tuple [.p (eI r24.1),.p (eE r24.2.1)]) [(19,_),(29,_)] rfl ⟨.inr ⟨0,_,rfl,rfl,rfl⟩,.inr ⟨10,_,rfl,rfl,rfl⟩,trivial⟩ rfl rfl (λ _=>rfl) (lt1 (λ h=>absurd h (by decide))) (λ sl hsl K hK=>ah rfl (bz [1000000] [900000] 102000 102001 (aH (al.mk f15) ((((indent_2++((lat b_1.fAttrs t14).fName))++([32,61,32]:Bytes))++r20)++([10]:Bytes)) _ e25) rfl rfl rfl (aG (hsl _ _ rfl) (aG (hsl _ _ rfl) aX)) rfl ⟨sr,sr,trivial⟩ rfl rfl ⟨⟨_,rfl,⟨sr,sr,trivial⟩⟩,trivial⟩ rfl rfl rfl rfl rfl rfl rfl rfl Tryd.call38 rfl rfl hK)) ?_)
  refine nB (nx 2 rfl ?_)
  exact oA h1 rfl rfl λ hk26 h1=>nx 2 rfl (eX (t14+1,r24.2.2.fbuf) h1 (bh (b9 102000 900000 rfl rfl rfl rfl rfl) (gE rfl rfl)))
 exact nx 2 rfl (eXi _ (oi h1).symm (gE rfl rfl))
def ek (n:Nat)(b_0:aD):Option Bytes :=
 (cm n (al.mk []) b_0 ([]:Bytes)).bind λ r1 =>
 (bK (al.mk r1.fbuf)).bind λ r3 =>
 some r3.1
theorem ly (n:Nat)(b_0:aD)(r:Bytes)(h0:ek n b_0=some r):aE Tryd.prog 12 [.agg (aD.cs b_0)] (·=.p (eS r)):=by
 unfold ek at h0
 refine aY good Tryd.func12 rfl rfl rfl λ w0=>mP (λ v:Bytes=>.p (eS v)) ?_
 refine nx 7 rfl (mO rfl (jE rfl rfl rfl rfl rfl rfl rfl ?_))
 refine nx 4 rfl (bd h0 λ r1 e2 h0=>?_)
 refine mO rfl (bz [3] [890000] 101000 101001 (kj _ (al.mk []) b_0 ([]:Bytes) _ e2) rfl rfl rfl rfl rfl ⟨sr,sr,sr,trivial⟩ rfl rfl ⟨⟨_,rfl,⟨sr,AV.sub_nilvec _ _ _,trivial⟩⟩,trivial⟩ rfl rfl rfl rfl rfl rfl rfl rfl Tryd.call26 rfl rfl ?_)
 refine nx 3 rfl (bd h0 λ r3 e4 h0=>?_)
 refine mO rfl (bz [3] [101000] 102000 102000 (dh (al.mk r1.fbuf) _ e4) rfl rfl rfl rfl rfl ⟨sr,trivial⟩ rfl rfl ⟨⟨_,rfl,⟨sr,sr,trivial⟩⟩,trivial⟩ rfl rfl rfl rfl rfl rfl rfl rfl Tryd.call27 rfl rfl ?_)
 exact nx 3 rfl (mQ (oi h0) rfl (sr))
def af (s1_0:List ad)(s2_1:List ad)(eq_2:ad→ad→Option Bool):Nat→Int→Option (Unit⊕Bool)
 | 0,_=>none
 | m+1,t10 =>
 if t10 < (s1_0.length:Int) then
  ck ((0:Int)≤t10∧t10 < (s1_0.length:Int)) <|
  ck ((0:Int)≤t10∧t10 < (s2_1.length:Int)) <|
  (eq_2 (lat s1_0 t10) (lat s2_1 t10)).bind λ r14 =>
  if (!r14)=true then
   some (.inr false)
  else
   ck (inR (t10+1)) <|
   af s1_0 s2_1 eq_2 m (t10+1)
 else
  some (.inl ())
def au (n:Nat)(s1_0:List ad)(s2_1:List ad)(eq_2:ad→ad→Option Bool):Option Bool :=
 if (s1_0.length:Int)=(s2_1.length:Int) then
  jn (af s1_0 s2_1 eq_2 n 0) λ _q19 =>
  some true
 else
  some false
theorem bH (n:Nat)(s1_0:List ad)(s2_1:List ad)(eq_2:ad→ad→Option Bool)(F_eq_2:FuncId)(C_eq_2:List AV)(K_eq_2:AV.mapA.go (λ _=>none) C_eq_2=some C_eq_2)(E_eq_2:∀ vs w,(callFunc F_eq_2 vs).run Tryd.prog w=.ok (.enter F_eq_2 vs) w)(H_eq_2:∀ (x0:ad) (x1:ad) r,eq_2 x0 x1=some r→dK Tryd.prog F_eq_2 ([.p (.agg (ad.cs x0)),.p (.agg (ad.cs x1))]++C_eq_2) (·=.p (eB r)))(r:Bool)(h0:au n s1_0 s2_1 eq_2=some r):dK Tryd.prog 28 [.p (eL bg s1_0),.p (eL bg s2_1),.func (.func F_eq_2) C_eq_2] (·=.p (eB r)):=by
 unfold au at h0
 refine np good Tryd.func28 rfl rfl rfl λ w0=>mP (λ v:Bool=>.p (eB v)) ?_
 refine nx 8 rfl (oLl (f:=bg) rfl rfl ?_)
 refine nx 1 rfl (oLl (f:=bg) rfl rfl ?_)
 refine nx 2 rfl (fN [14] h0 rfl (λ c1 h0=>?_) λ c1 h0=>?_)
 ·refine nx 6 rfl (oLl (f:=bg) rfl rfl ?_)
  refine nx 3 rfl ?_
  obtain ⟨o20,h1,hL0,hR0⟩:=fP h0
  refine kEx 0 (λ v21:Unit=>o20=.inl v21) (λ v21=>⟨[],[]⟩) (λ v21 hv=>?_) ?_
  ·have h0:=hL0 _ hv
   exact nx 6 rfl (mQ (oi h0) rfl (sr))
  refine lG (λ (q22:Int)=>⟨[(1,.p (eL bg s2_1)),(2,.func (.func F_eq_2) C_eq_2),(15,.p (eL bg s1_0)),(16,.p (eI (s1_0.length:Int))),(17,.p (eI q22))],[]⟩) (λ m (q22:Int)=>af s1_0 s2_1 eq_2 m q22) (λ _=>rfl) 0 h1 (gE rfl rfl) ?_
  rintro m t10 h1
  replace h1:af s1_0 s2_1 eq_2 (m+1) t10=some o20:=h1
  rw [af] at h1
  refine nx 5 rfl (fD [18] h1 rfl (λ c11 h1=>?_) λ c11 h1=>?_)
  ·refine nx 7 rfl (oE h1 ad.cells_eq rfl rfl (λ _=>rfl) λ hk12 h1=>?_)
   refine nx 9 rfl (oE h1 ad.cells_eq rfl rfl (λ _=>rfl) λ hk13 h1=>?_)
   refine nx 9 rfl (bd h1 λ r14 e15 h1=>?_)
   refine mG (gFn 2 C_eq_2 rfl (by simp only [fh K_eq_2])) (mG (gFn 26 C_eq_2 rfl (by simp only [fh K_eq_2])) ?_)
   refine mO rfl (fj (q:=[.p (.agg (ad.cs (lat s1_0 t10))),.p (.agg (ad.cs (lat s2_1 t10)))]) (H_eq_2 (lat s1_0 t10) (lat s2_1 t10) _ e15) rfl rfl rfl rfl K_eq_2 rfl rfl ⟨sr,sr,trivial⟩ E_eq_2 rfl ?_)
   refine nx 2 rfl (fB [30] h1 rfl (λ c16 h1=>?_) λ c16 h1=>?_)
   ·exact nx 6 rfl (mQ (hR0 _ (oi h1).symm) rfl (sr))
   refine nx 3 rfl (oA h1 rfl rfl λ hk17 h1=>?_)
   exact nx 2 rfl (eX (t10+1) h1 (gE rfl rfl))
  exact nx 2 rfl (eXi _ (oi h1).symm (gE rfl rfl))
 exact nx 6 rfl (mQ (oi h0) rfl (sr))
def bV (n:Nat)(x_0:ad)(y_1:ad):Option Bool :=
 (
   if x_0.fName=y_1.fName then
    (aL n x_0.fExpr y_1.fExpr).bind λ r2 =>
    some r2
   else
    some false
  : Option Bool).bind λ t4 =>
 some t4
theorem g8 (n:Nat)(x_0:ad)(y_1:ad)(r:Bool)(h0:bV n x_0 y_1=some r):aE Tryd.prog 29 [.agg (ad.cs x_0),.agg (ad.cs y_1)] (·=.p (eB r)):=by
 unfold bV at h0
 refine aY good Tryd.func29 rfl rfl rfl λ w0=>mP (λ v:Bool=>.p (eB v)) ?_
 refine nx 7 rfl (bd h0 λ o6 h1 h0=>?_)
 refine kN o6 (λ v7=>⟨[(4,.p (eB v7))],[]⟩) ?_ ?_
 ·exact nx 2 rfl (mQ (oi h0) rfl (sr))
 refine nx 5 rfl (oS rfl rfl ?_)
 refine nx 1 rfl (fD [9,10] h1 rfl (λ c1 h1=>?_) λ c1 h1=>?_)
 ·refine nx 4 rfl (bd h1 λ r2 e3 h1=>?_)
  refine oK (bi _ x_0.fExpr y_1.fExpr _ e3) rfl ⟨sr,sr,trivial⟩ Tryd.call7 rfl (nx 3 rfl ?_)
  exact eX _ (oi h1).symm (gE rfl rfl)
 exact nx 8 rfl (eX _ (oi h1).symm (gE rfl rfl))
def am (s1_0:List ak)(s2_1:List ak)(eq_2:ak→ak→Option Bool):Nat→Int→Option (Unit⊕Bool)
 | 0,_=>none
 | m+1,t10 =>
 if t10 < (s1_0.length:Int) then
  ck ((0:Int)≤t10∧t10 < (s1_0.length:Int)) <|
  ck ((0:Int)≤t10∧t10 < (s2_1.length:Int)) <|
  (eq_2 (lat s1_0 t10) (lat s2_1 t10)).bind λ r14 =>
  if (!r14)=true then
   some (.inr false)
  else
   ck (inR (t10+1)) <|
   am s1_0 s2_1 eq_2 m (t10+1)
 else
  some (.inl ())
def aA (n:Nat)(s1_0:List ak)(s2_1:List ak)(eq_2:ak→ak→Option Bool):Option Bool :=
 if (s1_0.length:Int)=(s2_1.length:Int) then
  jn (am s1_0 s2_1 eq_2 n 0) λ _q19 =>
  some true
 else
  some false
theorem cy (n:Nat)(s1_0:List ak)(s2_1:List ak)(eq_2:ak→ak→Option Bool)(F_eq_2:FuncId)(C_eq_2:List AV)(K_eq_2:AV.mapA.go (λ _=>none) C_eq_2=some C_eq_2)(E_eq_2:∀ vs w,(callFunc F_eq_2 vs).run Tryd.prog w=.ok (.enter F_eq_2 vs) w)(H_eq_2:∀ (x0:ak) (x1:ak) r,eq_2 x0 x1=some r→dK Tryd.prog F_eq_2 ([.p (.agg (ak.cs x0)),.p (.agg (ak.cs x1))]++C_eq_2) (·=.p (eB r)))(r:Bool)(h0:aA n s1_0 s2_1 eq_2=some r):dK Tryd.prog 30 [.p (eL cG s1_0),.p (eL cG s2_1),.func (.func F_eq_2) C_eq_2] (·=.p (eB r)):=by
 unfold aA at h0
 refine np good Tryd.func30 rfl rfl rfl λ w0=>mP (λ v:Bool=>.p (eB v)) ?_
 refine nx 8 rfl (oLl (f:=cG) rfl rfl ?_)
 refine nx 1 rfl (oLl (f:=cG) rfl rfl ?_)
 refine nx 2 rfl (fN [14] h0 rfl (λ c1 h0=>?_) λ c1 h0=>?_)
 ·refine nx 6 rfl (oLl (f:=cG) rfl rfl ?_)
  refine nx 3 rfl ?_
  obtain ⟨o20,h1,hL0,hR0⟩:=fP h0
  refine kEx 0 (λ v21:Unit=>o20=.inl v21) (λ v21=>⟨[],[]⟩) (λ v21 hv=>?_) ?_
  ·have h0:=hL0 _ hv
   exact nx 6 rfl (mQ (oi h0) rfl (sr))
  refine lG (λ (q22:Int)=>⟨[(1,.p (eL cG s2_1)),(2,.func (.func F_eq_2) C_eq_2),(15,.p (eL cG s1_0)),(16,.p (eI (s1_0.length:Int))),(17,.p (eI q22))],[]⟩) (λ m (q22:Int)=>am s1_0 s2_1 eq_2 m q22) (λ _=>rfl) 0 h1 (gE rfl rfl) ?_
  rintro m t10 h1
  replace h1:am s1_0 s2_1 eq_2 (m+1) t10=some o20:=h1
  rw [am] at h1
  refine nx 5 rfl (fD [18] h1 rfl (λ c11 h1=>?_) λ c11 h1=>?_)
  ·refine nx 7 rfl (oE h1 ak.cells_eq rfl rfl (λ _=>rfl) λ hk12 h1=>?_)
   refine nx 9 rfl (oE h1 ak.cells_eq rfl rfl (λ _=>rfl) λ hk13 h1=>?_)
   refine nx 9 rfl (bd h1 λ r14 e15 h1=>?_)
   refine mG (gFn 2 C_eq_2 rfl (by simp only [fh K_eq_2])) (mG (gFn 26 C_eq_2 rfl (by simp only [fh K_eq_2])) ?_)
   refine mO rfl (fj (q:=[.p (.agg (ak.cs (lat s1_0 t10))),.p (.agg (ak.cs (lat s2_1 t10)))]) (H_eq_2 (lat s1_0 t10) (lat s2_1 t10) _ e15) rfl rfl rfl rfl K_eq_2 rfl rfl ⟨sr,sr,trivial⟩ E_eq_2 rfl ?_)
   refine nx 2 rfl (fB [30] h1 rfl (λ c16 h1=>?_) λ c16 h1=>?_)
   ·exact nx 6 rfl (mQ (hR0 _ (oi h1).symm) rfl (sr))
   refine nx 3 rfl (oA h1 rfl rfl λ hk17 h1=>?_)
   exact nx 2 rfl (eX (t10+1) h1 (gE rfl rfl))
  exact nx 2 rfl (eXi _ (oi h1).symm (gE rfl rfl))
 exact nx 6 rfl (mQ (oi h0) rfl (sr))
mutual
def bu:Nat→aD→aD→Option Bool
 | 0,_,_=>none
 | n+1,a_0,b_1 =>
 (
   (au n a_0.fAttrs b_1.fAttrs (λ x0 x1=>bV n x0 x1)).bind λ r2 =>
   if r2=true then
    (aA n a_0.fBlocks b_1.fBlocks (λ x0 x1=>(bU n) x0 x1)).bind λ r6 =>
    some r6
   else
    some false
  : Option Bool).bind λ t8 =>
 some t8
def bU:Nat→ak→ak→Option Bool
 | 0,_,_=>none
 | n+1,x_0,y_1 =>
 (
   if x_0.fType=y_1.fType then
    (aQ n x_0.fLabels y_1.fLabels).bind λ r2 =>
    if r2=true then
     ((bu n) x_0.fBody y_1.fBody).bind λ r5 =>
     some r5
    else
     some false
   else
    some false
  : Option Bool).bind λ t7 =>
 some t7
end
theorem iu (n:Nat):(∀ (a_0:aD) (b_1:aD) (r:Bool),bu n a_0 b_1=some r→aE Tryd.prog 13 [.agg (aD.cs a_0),.agg (aD.cs b_1)] (·=.p (eB r)))∧(∀ (x_0:ak) (y_1:ak) (r:Bool),bU n x_0 y_1=some r→aE Tryd.prog 31 [.agg (ak.cs x_0),.agg (ak.cs y_1)] (·=.p (eB r))):=by
 induction n with
 | zero=>exact ⟨(by intro a_0 b_1 r h0; cases h0),(by intro x_0 y_1 r h0; cases h0)⟩
 | succ n ih =>
 obtain ⟨ih_format_EqualBody_ok,ih_format_EqualBody_2_ok⟩:=ih
 refine ⟨?_,?_⟩
 ·skip
  intro a_0 b_1 r h0
  rw [bu] at h0
  refine aY good Tryd.func13 rfl rfl rfl λ w0=>mP (λ v:Bool=>.p (eB v)) ?_
  refine nx 7 rfl (bd h0 λ o10 h1 h0=>?_)
  refine kN o10 (λ v11=>⟨[(4,.p (eB v11))],[]⟩) ?_ ?_
  ·exact nx 2 rfl (mQ (oi h0) rfl (sr))
  refine nx 5 rfl (bd h1 λ r2 e3 h1=>?_)
  refine mO rfl (jl (bH _ a_0.fAttrs b_1.fAttrs (λ x0 x1=>bV n x0 x1) 29 [] rfl Tryd.call29 (λ x0 x1 r h=>(g8 _ x0 x1 r h).q) _ e3) rfl rfl rfl rfl (cv rfl (cv rfl (cv (iD rfl) gT))) ⟨sr,sr,sr,trivial⟩ Tryd.call28 rfl ?_)
  refine nx 1 rfl (fB [9,10] h1 rfl (λ c4 h1=>?_) λ c4 h1=>?_)
  ·refine nx 4 rfl (bd h1 λ r6 e7 h1=>?_)
   refine mO rfl (jl (cy _ a_0.fBlocks b_1.fBlocks (λ x0 x1=>(bU n) x0 x1) 31 [] rfl Tryd.call31 (λ x0 x1 r h=>(ih_format_EqualBody_2_ok x0 x1 r h).q) _ e7) rfl rfl rfl rfl (cv rfl (cv rfl (cv (iD rfl) gT))) ⟨sr,sr,sr,trivial⟩ Tryd.call30 rfl ?_)
   exact nx 3 rfl (eX _ (oi h1).symm (gE rfl rfl))
  exact nx 8 rfl (eX _ (oi h1).symm (gE rfl rfl))
 ·skip
  intro x_0 y_1 r h0
  rw [bU] at h0
  refine aY good Tryd.func31 rfl rfl rfl λ w0=>mP (λ v:Bool=>.p (eB v)) ?_
  refine nx 7 rfl (bd h0 λ o9 h1 h0=>?_)
  refine kN o9 (λ v10=>⟨[(4,.p (eB v10))],[]⟩) ?_ ?_
  ·exact nx 2 rfl (mQ (oi h0) rfl (sr))
  refine nx 5 rfl (oS rfl rfl ?_)
  refine nx 1 rfl (fD [9,10] h1 rfl (λ c1 h1=>?_) λ c1 h1=>?_)
  ·refine nx 4 rfl (bd h1 λ r2 e3 h1=>?_)
   refine oK (dC _ x_0.fLabels y_1.fLabels _ e3) rfl ⟨sr,sr,trivial⟩ Tryd.call32 rfl (nx 2 rfl ?_)
   refine fB [15,16,17] h1 rfl (λ c4 h1=>?_) λ c4 h1=>?_
   ·refine nx 4 rfl (bd h1 λ r5 e6 h1=>?_)
    refine oK (ih_format_EqualBody_ok x_0.fBody y_1.fBody _ e6) rfl ⟨sr,sr,trivial⟩ Tryd.call13 rfl (nx 3 rfl ?_)
    exact eX _ (oi h1).symm (gE rfl rfl)
   exact nx 8 rfl (eX _ (oi h1).symm (gE rfl rfl))
  exact nx 15 rfl (eX _ (oi h1).symm (gE rfl rfl))
theorem fw (n:Nat):∀ (a_0:aD) (b_1:aD) (r:Bool),bu n a_0 b_1=some r→aE Tryd.prog 13 [.agg (aD.cs a_0),.agg (aD.cs b_1)] (·=.p (eB r)):=(iu n).1
def dk (n:Nat):Option Bool :=
 ((λ x0=>d9 x0) ([97]:Bytes)).bind λ r2 =>
 ((λ x0=>d9 x0) ([98]:Bytes)).bind λ r4 =>
 ((λ x0=>d9 x0) ([99]:Bytes)).bind λ r6 =>
 (
   (aj n (aa.mk 7 13 ([]:Bytes) ([]:Bytes) (ab.mk 0 0 ([]:Bytes) [] []) ([(aa.mk 7 11 ([]:Bytes) ([]:Bytes) (ab.mk 0 0 ([]:Bytes) [] []) [r2,r4] 0),r6]) 0)).bind λ r8 =>
   if r8=([40,97,32,43,32,98,41,32,42,32,99]:Bytes) then
    (aj n (aa.mk 2 0 ([]:Bytes) ([]:Bytes) (ab.mk 0 0 ([]:Bytes) [] []) ([(aa.mk 1 0 ([]:Bytes) ([]:Bytes) (ab.mk 3 0 ([120]:Bytes) [] []) [] 0)]) 0)).bind λ r11 =>
    if r11=([34,36,123,34,120,34,125,34]:Bytes) then
     (ek n (aD.mk ([(ad.mk ([97]:Bytes) (aa.mk 7 11 ([]:Bytes) ([]:Bytes) (ab.mk 0 0 ([]:Bytes) [] []) [r2,r4] 0) 0)]) ([(ak.mk ([98]:Bytes) ([([120]:Bytes)]) (aD.mk [] []) 0)]))).bind λ r14 =>
     if r14=([97,32,61,32,97,32,43,32,98,10,98,32,34,120,34,32,123,10,125,10]:Bytes) then
      (aL n (aa.mk 7 11 ([]:Bytes) ([]:Bytes) (ab.mk 0 0 ([]:Bytes) [] []) [r2,r4] 0) (aa.mk 7 11 ([]:Bytes) ([]:Bytes) (ab.mk 0 0 ([]:Bytes) [] []) [r2,r4] 0)).bind λ r17 =>
      if r17=true then
       (aL n (aa.mk 7 11 ([]:Bytes) ([]:Bytes) (ab.mk 0 0 ([]:Bytes) [] []) [r2,r4] 0) (aa.mk 7 13 ([]:Bytes) ([]:Bytes) (ab.mk 0 0 ([]:Bytes) [] []) ([(aa.mk 7 11 ([]:Bytes) ([]:Bytes) (ab.mk 0 0 ([]:Bytes) [] []) [r2,r4] 0),r6]) 0)).bind λ r20 =>
       if (!r20)=true then
        (bu n (aD.mk ([(ad.mk ([97]:Bytes) (aa.mk 7 11 ([]:Bytes) ([]:Bytes) (ab.mk 0 0 ([]:Bytes) [] []) [r2,r4] 0) 0)]) ([(ak.mk ([98]:Bytes) ([([120]:Bytes)]) (aD.mk [] []) 0)])) (aD.mk ([(ad.mk ([97]:Bytes) (aa.mk 7 11 ([]:Bytes) ([]:Bytes) (ab.mk 0 0 ([]:Bytes) [] []) [r2,r4] 0) 0)]) ([(ak.mk ([98]:Bytes) ([([120]:Bytes)]) (aD.mk [] []) 0)]))).bind λ r23 =>
        if r23=true then
         (bu n (aD.mk ([(ad.mk ([97]:Bytes) (aa.mk 7 11 ([]:Bytes) ([]:Bytes) (ab.mk 0 0 ([]:Bytes) [] []) [r2,r4] 0) 0)]) ([(ak.mk ([98]:Bytes) ([([120]:Bytes)]) (aD.mk [] []) 0)])) (aD.mk [] [])).bind λ r26 =>
         some (!r26)
        else
         some false
       else
        some false
      else
       some false
     else
      some false
    else
     some false
   else
    some false
  : Option Bool).bind λ t28 =>
 some t28
theorem io (n:Nat)(r:Bool)(h0:dk n=some r):aE Tryd.prog 5 [] (·=.p (eB r)):=by
 unfold dk at h0
 refine aY good Tryd.func5 rfl rfl rfl λ w0=>mP (λ v:Bool=>.p (eB v)) ?_
 refine nx 11 rfl (bd h0 λ r2 e3 h0=>?_)
 refine mO rfl (fj (q:=[.p (eS ([97]:Bytes))]) ((λ x0 r h=>(dU x0 r h).q) ([97]:Bytes) _ e3) rfl rfl rfl rfl rfl rfl rfl ⟨sr,trivial⟩ Tryd.call11 rfl ?_)
 refine nx 1 rfl (bd h0 λ r4 e5 h0=>?_)
 refine mO rfl (fj (q:=[.p (eS ([98]:Bytes))]) ((λ x0 r h=>(dU x0 r h).q) ([98]:Bytes) _ e5) rfl rfl rfl rfl rfl rfl rfl ⟨sr,trivial⟩ Tryd.call11 rfl ?_)
 refine mO rfl (di ay [r2,r4] rfl rfl rfl rfl rfl rfl rfl rfl rfl rfl rfl rfl rfl (by first | rfl | (simp only [List.map_cons,List.map_nil,aa.agg_eq]; done) | (simp only [List.map_cons,List.map_nil,aa.agg_eq]; rfl)) ?_)
 refine nx 2 rfl (mG (gz 11 (y:=.p (.agg (aa.cs (aa.mk 7 11 ([]:Bytes) ([]:Bytes) (ab.mk 0 0 ([]:Bytes) [] []) [r2,r4] 0)))) rfl (en ⟨.inl rfl,.inl rfl,.inl rfl,.inl rfl,.inl rfl,.inl rfl,.inl rfl,.inr ⟨rfl,rfl⟩,.inr ⟨rfl,rfl⟩,.inl rfl,.inl rfl,trivial⟩)) ?_)
 refine nx 3 rfl (bd h0 λ r6 e7 h0=>?_)
 refine mG (gE (t:=⟨[(1,.func (.func 11) []),(2,.ptr 2 0)],[(2,(aa.cs (aa.mk 7 11 ([]:Bytes) ([]:Bytes) (ab.mk 0 0 ([]:Bytes) [] []) [r2,r4] 0)).map .p)]⟩) rfl rfl) (mS ⟨2,[5,6],(by3 (.some λ i=>Nat.beq i 3) .none .none),(λ _=>[(1,.func (.func 11) []),(2,.ptr 2 0)]),(by3 ([(2,[.p (eI ((aa.mk 7 11 ([]:Bytes) ([]:Bytes) (ab.mk 0 0 ([]:Bytes) [] []) [r2,r4] 0).fKind)),.p (eI ((aa.mk 7 11 ([]:Bytes) ([]:Bytes) (ab.mk 0 0 ([]:Bytes) [] []) [r2,r4] 0).fOp)),.p (eS ((aa.mk 7 11 ([]:Bytes) ([]:Bytes) (ab.mk 0 0 ([]:Bytes) [] []) [r2,r4] 0).fName)),.p (eS ((aa.mk 7 11 ([]:Bytes) ([]:Bytes) (ab.mk 0 0 ([]:Bytes) [] []) [r2,r4] 0).fKey)),.p (eI (((aa.mk 7 11 ([]:Bytes) ([]:Bytes) (ab.mk 0 0 ([]:Bytes) [] []) [r2,r4] 0).fValue).fKind)),.p (eI (((aa.mk 7 11 ([]:Bytes) ([]:Bytes) (ab.mk 0 0 ([]:Bytes) [] []) [r2,r4] 0).fValue).fNum)),.p (eS (((aa.mk 7 11 ([]:Bytes) ([]:Bytes) (ab.mk 0 0 ([]:Bytes) [] []) [r2,r4] 0).fValue).fStr)),.p (eL bP (((aa.mk 7 11 ([]:Bytes) ([]:Bytes) (ab.mk 0 0 ([]:Bytes) [] []) [r2,r4] 0).fValue).fItems)),.p (eL eS (((aa.mk 7 11 ([]:Bytes) ([]:Bytes) (ab.mk 0 0 ([]:Bytes) [] []) [r2,r4] 0).fValue).fKeys)),.p (eL ay ((aa.mk 7 11 ([]:Bytes) ([]:Bytes) (ab.mk 0 0 ([]:Bytes) [] []) [r2,r4] 0).fKids)),.p (eI ((aa.mk 7 11 ([]:Bytes) ([]:Bytes) (ab.mk 0 0 ([]:Bytes) [] []) [r2,r4] 0).fAt))])]) ([(3,[.p (eI 0),.p (eI 0),.p (eS ([]:Bytes)),.p (eS ([]:Bytes)),.p (eI 0),.p (eI 0),.p (eS ([]:Bytes)),.p (.val (.slice none 0 0)),.p (.val (.slice none 0 0)),.p (.val (.slice none 0 0)),.p (eI 0)]),(2,[.p (eI ((aa.mk 7 11 ([]:Bytes) ([]:Bytes) (ab.mk 0 0 ([]:Bytes) [] []) [r2,r4] 0).fKind)),.p (eI ((aa.mk 7 11 ([]:Bytes) ([]:Bytes) (ab.mk 0 0 ([]:Bytes) [] []) [r2,r4] 0).fOp)),.p (eS ((aa.mk 7 11 ([]:Bytes) ([]:Bytes) (ab.mk 0 0 ([]:Bytes) [] []) [r2,r4] 0).fName)),.p (eS ((aa.mk 7 11 ([]:Bytes) ([]:Bytes) (ab.mk 0 0 ([]:Bytes) [] []) [r2,r4] 0).fKey)),.p (eI (((aa.mk 7 11 ([]:Bytes) ([]:Bytes) (ab.mk 0 0 ([]:Bytes) [] []) [r2,r4] 0).fValue).fKind)),.p (eI (((aa.mk 7 11 ([]:Bytes) ([]:Bytes) (ab.mk 0 0 ([]:Bytes) [] []) [r2,r4] 0).fValue).fNum)),.p (eS (((aa.mk 7 11 ([]:Bytes) ([]:Bytes) (ab.mk 0 0 ([]:Bytes) [] []) [r2,r4] 0).fValue).fStr)),.p (eL bP (((aa.mk 7 11 ([]:Bytes) ([]:Bytes) (ab.mk 0 0 ([]:Bytes) [] []) [r2,r4] 0).fValue).fItems)),.p (eL eS (((aa.mk 7 11 ([]:Bytes) ([]:Bytes) (ab.mk 0 0 ([]:Bytes) [] []) [r2,r4] 0).fValue).fKeys)),.p (eL ay ((aa.mk 7 11 ([]:Bytes) ([]:Bytes) (ab.mk 0 0 ([]:Bytes) [] []) [r2,r4] 0).fKids)),.p (eI ((aa.mk 7 11 ([]:Bytes) ([]:Bytes) (ab.mk 0 0 ([]:Bytes) [] []) [r2,r4] 0).fAt))])]) ([(3,[.p (eI 7),.p (eI 13),.p (eS ([]:Bytes)),.p (eS ([]:Bytes)),.p (eI 0),.p (eI 0),.p (eS ([]:Bytes)),.p (.val (.slice none 0 0)),.p (.val (.slice none 0 0)),.p (eL ay ([(aa.mk 7 11 ([]:Bytes) ([]:Bytes) (ab.mk 0 0 ([]:Bytes) [] []) [r2,r4] 0),r6])),.p (eI 0)]),(3,[.p (eI 0),.p (eI 0),.p (eS ([]:Bytes)),.p (eS ([]:Bytes)),.p (eI 0),.p (eI 0),.p (eS ([]:Bytes)),.p (.val (.slice none 0 0)),.p (.val (.slice none 0 0)),.p (.val (.slice none 0 0)),.p (eI 0)]),(2,[.p (eI ((aa.mk 7 11 ([]:Bytes) ([]:Bytes) (ab.mk 0 0 ([]:Bytes) [] []) [r2,r4] 0).fKind)),.p (eI ((aa.mk 7 11 ([]:Bytes) ([]:Bytes) (ab.mk 0 0 ([]:Bytes) [] []) [r2,r4] 0).fOp)),.p (eS ((aa.mk 7 11 ([]:Bytes) ([]:Bytes) (ab.mk 0 0 ([]:Bytes) [] []) [r2,r4] 0).fName)),.p (eS ((aa.mk 7 11 ([]:Bytes) ([]:Bytes) (ab.mk 0 0 ([]:Bytes) [] []) [r2,r4] 0).fKey)),.p (eI (((aa.mk 7 11 ([]:Bytes) ([]:Bytes) (ab.mk 0 0 ([]:Bytes) [] []) [r2,r4] 0).fValue).fKind)),.p (eI (((aa.mk 7 11 ([]:Bytes) ([]:Bytes) (ab.mk 0 0 ([]:Bytes) [] []) [r2,r4] 0).fValue).fNum)),.p (eS (((aa.mk 7 11 ([]:Bytes) ([]:Bytes) (ab.mk 0 0 ([]:Bytes) [] []) [r2,r4] 0).fValue).fStr)),.p (eL bP (((aa.mk 7 11 ([]:Bytes) ([]:Bytes) (ab.mk 0 0 ([]:Bytes) [] []) [r2,r4] 0).fValue).fItems)),.p (eL eS (((aa.mk 7 11 ([]:Bytes) ([]:Bytes) (ab.mk 0 0 ([]:Bytes) [] []) [r2,r4] 0).fValue).fKeys)),.p (eL ay ((aa.mk 7 11 ([]:Bytes) ([]:Bytes) (ab.mk 0 0 ([]:Bytes) [] []) [r2,r4] 0).fKids)),.p (eI ((aa.mk 7 11 ([]:Bytes) ([]:Bytes) (ab.mk 0 0 ([]:Bytes) [] []) [r2,r4] 0).fAt))])]))⟩ rfl rfl rfl ⟨rfl,rfl,trivial⟩ (lt2 ⟨rfl,rfl,trivial⟩ ⟨rfl,rfl,trivial⟩) rfl rfl rfl rfl ?_)
 refine aO (λ _=>.p (.agg (aa.cs (aa.mk 7 11 ([]:Bytes) ([]:Bytes) (ab.mk 0 0 ([]:Bytes) [] []) [r2,r4] 0)))) rfl rfl rfl (gk rfl rfl (λ _=>rfl)) (lt2 rfl rfl) (bo rfl (aC [(2,_)] ⟨.inl rfl,trivial⟩ (λ sl hsl K hK=>ah rfl (fE rfl rfl rfl rfl rfl (hsl _ _ rfl) rfl rfl rfl hK)) (aC [(2,_)] ⟨.inl rfl,trivial⟩ (λ sl hsl K hK=>ah rfl (fE rfl rfl rfl rfl rfl (hsl _ _ rfl) rfl rfl rfl hK)) aN))) (aO (λ _=>.func (.func 11) []) rfl rfl rfl (gk rfl rfl (λ _=>rfl)) (lt2 rfl rfl) (bo rfl (aC [(1,_)] ⟨.inl rfl,trivial⟩ (λ sl hsl K hK=>ah rfl (dj rfl rfl rfl (hsl _ _ rfl) hK)) (aC [(1,_)] ⟨.inl rfl,trivial⟩ (λ sl hsl K hK=>ah rfl (dj rfl rfl rfl (hsl _ _ rfl) hK)) aN))) ?_)
 refine aO (λ _=>.p (.agg (aa.cs r6))) rfl rfl rfl (gk rfl rfl (λ _=>rfl)) (lt2 rfl rfl) (bo rfl (aC [(13,_)] ⟨.inr ⟨1,_,rfl,rfl,rfl⟩,trivial⟩ (λ sl hsl K hK=>ah rfl (fj (q:=[.p (eS ([99]:Bytes))]) ((λ x0 r h=>(dU x0 r h).q) ([99]:Bytes) _ e7) rfl rfl rfl (hsl _ _ rfl) rfl (aG rfl aX) rfl ⟨sr,trivial⟩ Tryd.call11 rfl hK)) (aC [(13,_)] ⟨.inr ⟨1,_,rfl,rfl,rfl⟩,trivial⟩ (λ sl hsl K hK=>ah rfl (fj (q:=[.p (eS ([99]:Bytes))]) ((λ x0 r h=>(dU x0 r h).q) ([99]:Bytes) _ e7) rfl rfl rfl (hsl _ _ rfl) rfl (aG rfl aX) rfl ⟨sr,trivial⟩ Tryd.call11 rfl hK)) aN))) (aO (λ _=>.p (eL ay ([(aa.mk 7 11 ([]:Bytes) ([]:Bytes) (ab.mk 0 0 ([]:Bytes) [] []) [r2,r4] 0),r6]))) rfl rfl rfl (gk rfl rfl (λ _=>rfl)) (lt2 rfl rfl) (bo rfl (aC [(12,_),(14,_)] ⟨.inr ⟨0,_,rfl,rfl,rfl⟩,.inr ⟨2,_,rfl,rfl,rfl⟩,trivial⟩ (λ sl hsl K hK=>ah rfl (di ay [(aa.mk 7 11 ([]:Bytes) ([]:Bytes) (ab.mk 0 0 ([]:Bytes) [] []) [r2,r4] 0),r6] rfl rfl rfl rfl rfl rfl (fK (hsl _ _ rfl) rfl (fK (hsl _ _ rfl) rfl jB)) rfl rfl rfl rfl rfl rfl (by first | rfl | (simp only [List.map_cons,List.map_nil,aa.agg_eq]; done) | (simp only [List.map_cons,List.map_nil,aa.agg_eq]; rfl)) hK)) (aC [(12,_),(14,_)] ⟨.inr ⟨0,_,rfl,rfl,rfl⟩,.inr ⟨2,_,rfl,rfl,rfl⟩,trivial⟩ (λ sl hsl K hK=>ah rfl (di ay [(aa.mk 7 11 ([]:Bytes) ([]:Bytes) (ab.mk 0 0 ([]:Bytes) [] []) [r2,r4] 0),r6] rfl rfl rfl rfl rfl rfl (fK (hsl _ _ rfl) rfl (fK (hsl _ _ rfl) rfl jB)) rfl rfl rfl rfl rfl rfl (by first | rfl | (simp only [List.map_cons,List.map_nil,aa.agg_eq]; done) | (simp only [List.map_cons,List.map_nil,aa.agg_eq]; rfl)) hK)) aN))) ?_)
 refine aO (λ _=>.p (.agg [eI 7,eI 13,eS ([]:Bytes),eS ([]:Bytes),eI 0,eI 0,eS ([]:Bytes),.val (.slice none 0 0),.val (.slice none 0 0),eL ay ([(aa.mk 7 11 ([]:Bytes) ([]:Bytes) (ab.mk 0 0 ([]:Bytes) [] []) [r2,r4] 0),r6]),eI 0])) rfl rfl rfl (gk rfl rfl (λ _=>rfl)) (lt2 rfl rfl) (bo rfl (aC [(15,_)] ⟨.inr ⟨3,_,rfl,rfl,rfl⟩,trivial⟩ (λ sl hsl K hK=>ah rfl (lR rfl rfl rfl rfl rfl rfl (eQ rfl (eQ rfl (eQ (hsl _ _ rfl) mF))) rfl rfl hK)) (aC [(15,_)] ⟨.inr ⟨3,_,rfl,rfl,rfl⟩,trivial⟩ (λ sl hsl K hK=>ah rfl (lR rfl rfl rfl rfl rfl rfl (eQ rfl (eQ rfl (eQ (hsl _ _ rfl) mF))) rfl rfl hK)) aN))) (kQ (λ _=>.ptr 3 0) [] rfl trivial rfl rfl (bO rfl (λ _=>rfl)) (lt2 (λ h=>absurd h (by decide)) (λ _=>rfl)) (λ sl hsl K hK=>ah rfl (ou rfl rfl rfl rfl rfl hK)) ?_)
 refine sV [(3,_),(16,_)] rfl ⟨.inr ⟨5,_,rfl,rfl,rfl⟩,.inr ⟨4,_,rfl,rfl,rfl⟩,trivial⟩ rfl (λ sl hsl K hK=>ah rfl (lm rfl rfl rfl (hsl _ _ rfl) (hsl _ _ rfl) rfl rfl rfl (Nat.le_of_ble_eq_true rfl) hK)) (nB ?_)
 refine nx 6 rfl (mG (gz 18 (y:=.p (.agg (aa.cs (aa.mk 1 0 ([]:Bytes) ([]:Bytes) (ab.mk 3 0 ([120]:Bytes) [] []) [] 0)))) rfl (en ⟨.inl rfl,.inl rfl,.inl rfl,.inl rfl,.inl rfl,.inl rfl,.inl rfl,.inr ⟨rfl,rfl⟩,.inr ⟨rfl,rfl⟩,.inr ⟨rfl,rfl⟩,.inl rfl,trivial⟩)) ?_)
 refine nx 6 rfl (mO rfl (di bg [(ad.mk ([97]:Bytes) (aa.mk 7 11 ([]:Bytes) ([]:Bytes) (ab.mk 0 0 ([]:Bytes) [] []) [r2,r4] 0) 0)] rfl rfl rfl rfl rfl rfl rfl rfl rfl rfl rfl rfl rfl (by first | rfl | (simp only [List.map_cons,List.map_nil,ad.agg_eq]; done) | (simp only [List.map_cons,List.map_nil,ad.agg_eq]; rfl)) ?_))
 refine mO rfl (di eS [([120]:Bytes)] rfl rfl rfl rfl rfl rfl rfl rfl rfl rfl rfl rfl rfl rfl ?_)
 refine nx 1 rfl (mG (gz 23 (y:=.p (.agg (ak.cs (ak.mk ([98]:Bytes) ([([120]:Bytes)]) (aD.mk [] []) 0)))) rfl (en ⟨.inl rfl,.inl rfl,.inr ⟨rfl,rfl⟩,.inr ⟨rfl,rfl⟩,.inl rfl,trivial⟩)) ?_)
 refine mO rfl (di cG [(ak.mk ([98]:Bytes) ([([120]:Bytes)]) (aD.mk [] []) 0)] rfl rfl rfl rfl rfl rfl rfl rfl rfl rfl rfl rfl rfl (by first | rfl | (simp only [List.map_cons,List.map_nil,ak.agg_eq]; done) | (simp only [List.map_cons,List.map_nil,ak.agg_eq]; rfl)) ?_)
 refine nx 5 rfl (bd h0 λ o30 h1 h0=>?_)
 refine kN o30 (λ v31=>⟨[(0,.p (eB v31))],[]⟩) ?_ ?_
 ·exact nx 2 rfl (mQ (oi h0) rfl (sr))
 refine nx 2 rfl (bd h1 λ r8 e9 h1=>?_)
 refine oK (co _ (aa.mk 7 13 ([]:Bytes) ([]:Bytes) (ab.mk 0 0 ([]:Bytes) [] []) ([(aa.mk 7 11 ([]:Bytes) ([]:Bytes) (ab.mk 0 0 ([]:Bytes) [] []) [r2,r4] 0),r6]) 0) _ e9) rfl ⟨en ⟨.inl rfl,.inl rfl,.inl rfl,.inl rfl,.inl rfl,.inl rfl,.inl rfl,.inr ⟨rfl,rfl⟩,.inr ⟨rfl,rfl⟩,.inl rfl,.inl rfl,trivial⟩,trivial⟩ Tryd.call8 rfl (oS rfl rfl ?_)
 refine nx 1 rfl (fD [28,29] h1 rfl (λ c10 h1=>?_) λ c10 h1=>?_)
 ·refine nx 1 rfl (mO rfl (di ay [(aa.mk 1 0 ([]:Bytes) ([]:Bytes) (ab.mk 3 0 ([120]:Bytes) [] []) [] 0)] rfl rfl rfl rfl rfl rfl rfl rfl rfl rfl rfl rfl rfl (by first | rfl | (simp only [List.map_cons,List.map_nil,aa.agg_eq]; done) | (simp only [List.map_cons,List.map_nil,aa.agg_eq]; rfl)) ?_))
  refine nx 1 rfl (bd h1 λ r11 e12 h1=>?_)
  refine oK (co _ (aa.mk 2 0 ([]:Bytes) ([]:Bytes) (ab.mk 0 0 ([]:Bytes) [] []) ([(aa.mk 1 0 ([]:Bytes) ([]:Bytes) (ab.mk 3 0 ([120]:Bytes) [] []) [] 0)]) 0) _ e12) rfl ⟨en ⟨.inl rfl,.inl rfl,.inl rfl,.inl rfl,.inl rfl,.inl rfl,.inl rfl,.inr ⟨rfl,rfl⟩,.inr ⟨rfl,rfl⟩,.inl rfl,.inl rfl,trivial⟩,trivial⟩ Tryd.call8 rfl (oS rfl rfl ?_)
  refine nx 2 rfl (fD [34,35,36] h1 rfl (λ c13 h1=>?_) λ c13 h1=>?_)
  ·refine nx 1 rfl (bd h1 λ r14 e15 h1=>?_)
   refine oK (ly _ (aD.mk ([(ad.mk ([97]:Bytes) (aa.mk 7 11 ([]:Bytes) ([]:Bytes) (ab.mk 0 0 ([]:Bytes) [] []) [r2,r4] 0) 0)]) ([(ak.mk ([98]:Bytes) ([([120]:Bytes)]) (aD.mk [] []) 0)])) _ e15) rfl ⟨sr,trivial⟩ Tryd.call12 rfl (oS rfl rfl ?_)
   refine nx 2 rfl (fD [39,40,41] h1 rfl (λ c16 h1=>?_) λ c16 h1=>?_)
   ·refine nx 2 rfl (bd h1 λ r17 e18 h1=>?_)
    refine oK (bi _ (aa.mk 7 11 ([]:Bytes) ([]:Bytes) (ab.mk 0 0 ([]:Bytes) [] []) [r2,r4] 0) (aa.mk 7 11 ([]:Bytes) ([]:Bytes) (ab.mk 0 0 ([]:Bytes) [] []) [r2,r4] 0) _ e18) rfl ⟨sr,sr,trivial⟩ Tryd.call7 rfl (nx 2 rfl ?_)
    refine fB [44,45,46] h1 rfl (λ c19 h1=>?_) λ c19 h1=>?_
    ·refine nx 2 rfl (bd h1 λ r20 e21 h1=>?_)
     refine oK (bi _ (aa.mk 7 11 ([]:Bytes) ([]:Bytes) (ab.mk 0 0 ([]:Bytes) [] []) [r2,r4] 0) (aa.mk 7 13 ([]:Bytes) ([]:Bytes) (ab.mk 0 0 ([]:Bytes) [] []) ([(aa.mk 7 11 ([]:Bytes) ([]:Bytes) (ab.mk 0 0 ([]:Bytes) [] []) [r2,r4] 0),r6]) 0) _ e21) rfl ⟨sr,en ⟨.inl rfl,.inl rfl,.inl rfl,.inl rfl,.inl rfl,.inl rfl,.inl rfl,.inr ⟨rfl,rfl⟩,.inr ⟨rfl,rfl⟩,.inl rfl,.inl rfl,trivial⟩,trivial⟩ Tryd.call7 rfl (nx 3 rfl ?_)
     refine fB [50,51,52] h1 rfl (λ c22 h1=>?_) λ c22 h1=>?_
     ·refine nx 2 rfl (bd h1 λ r23 e24 h1=>?_)
      refine oK (fw _ (aD.mk ([(ad.mk ([97]:Bytes) (aa.mk 7 11 ([]:Bytes) ([]:Bytes) (ab.mk 0 0 ([]:Bytes) [] []) [r2,r4] 0) 0)]) ([(ak.mk ([98]:Bytes) ([([120]:Bytes)]) (aD.mk [] []) 0)])) (aD.mk ([(ad.mk ([97]:Bytes) (aa.mk 7 11 ([]:Bytes) ([]:Bytes) (ab.mk 0 0 ([]:Bytes) [] []) [r2,r4] 0) 0)]) ([(ak.mk ([98]:Bytes) ([([120]:Bytes)]) (aD.mk [] []) 0)])) _ e24) rfl ⟨sr,sr,trivial⟩ Tryd.call13 rfl (nx 2 rfl ?_)
      refine fB [55,56,57] h1 rfl (λ c25 h1=>?_) λ c25 h1=>?_
      ·refine nx 2 rfl (bd h1 λ r26 e27 h1=>?_)
       refine oK (fw _ (aD.mk ([(ad.mk ([97]:Bytes) (aa.mk 7 11 ([]:Bytes) ([]:Bytes) (ab.mk 0 0 ([]:Bytes) [] []) [r2,r4] 0) 0)]) ([(ak.mk ([98]:Bytes) ([([120]:Bytes)]) (aD.mk [] []) 0)])) (aD.mk [] []) _ e27) rfl ⟨sr,en ⟨.inr ⟨rfl,rfl⟩,.inr ⟨rfl,rfl⟩,trivial⟩,trivial⟩ Tryd.call13 rfl (nx 4 rfl ?_)
       exact eX _ (oi h1).symm (gE rfl rfl)
      exact nx 7 rfl (eX _ (oi h1).symm (gE rfl rfl))
     exact nx 12 rfl (eX _ (oi h1).symm (gE rfl rfl))
    exact nx 18 rfl (eX _ (oi h1).symm (gE rfl rfl))
   exact nx 23 rfl (eX _ (oi h1).symm (gE rfl rfl))
  exact nx 28 rfl (eX _ (oi h1).symm (gE rfl rfl))
 exact nx 35 rfl (eX _ (oi h1).symm (gE rfl rfl))
def cj (r_ref14_left:aa→Int→Int→Option Int)(e_0:aa)(levels_2:Int):Nat→Int→Int→Option Int
 | 0,_,_=>none
 | m+1,nodes13,i14 =>
 (
   if i14 < (e_0.fKids.length:Int) then
    some (decide (0≤nodes13))
   else
    some false
  : Option Bool).bind λ t16 =>
 if t16=true then
  ck ((0:Int)≤i14∧i14 < (e_0.fKids.length:Int)) <|
  ck (inR (levels_2 - 1)) <|
  (r_ref14_left (lat e_0.fKids i14) nodes13 (levels_2 - 1)).bind λ r20 =>
  ck (inR (i14+1)) <|
  cj r_ref14_left e_0 levels_2 m r20 (i14+1)
 else
  some nodes13
def db:Nat→aa→Int→Int→Option Int
 | 0,_,_,_=>none
 | n+1,e_0,nodes_1,levels_2 =>
 if levels_2≤0 then
  some (-1)
 else
  ck (inR (nodes_1 - 1)) <|
  (cj (db n) e_0 levels_2 n (nodes_1 - 1) 0).bind λ nodes25 =>
  some nodes25
theorem mn (n:Nat):∀ (e_0:aa) (nodes_1:Int) (levels_2:Int) (r:Int),db n e_0 nodes_1 levels_2=some r→aE Tryd.prog 24 [.agg (aa.cs e_0),eI nodes_1,eI levels_2] (·=.p (eI r)):=by
 induction n with
 | zero=>intro e_0 nodes_1 levels_2 r h0; cases h0
 | succ n ih =>
 have ih_ref14_left_ok:=ih
 intro e_0 nodes_1 levels_2 r h0
 rw [db] at h0
 refine aY good Tryd.func24 rfl rfl rfl λ w0=>mP (λ v:Int=>.p (eI v)) ?_
 refine nx 11 rfl (fD [9] h0 rfl (λ c1 h0=>?_) λ c1 h0=>?_)
 ·exact nx 6 rfl (mQ (oi h0) rfl (sr))
 refine nx 5 rfl (oA h0 rfl rfl λ hk2 h0=>?_)
 refine nx 8 rfl (bd h0 λ o28 h1 h0=>?_)
 refine kE 0 o28 (λ v29=>⟨[(1,.p (eI v29))],[]⟩) ?_ ?_
 ·exact nx 7 rfl (mQ (oi h0) rfl (sr))
 refine lG (λ (q30:Int×Int)=>⟨[(1,.p (eI q30.1)),(2,.p (eI levels_2)),(3,.ptr 3 0),(7,.p (eI q30.2))],[(3,(aa.cs e_0).map .p)]⟩) (λ m (q30:Int×Int)=>cj (db n) e_0 levels_2 m q30.1 q30.2) (λ _=>rfl) (nodes_1 - 1,0) h1 (gE rfl rfl) ?_
 rintro m ⟨nodes13,i14⟩ h1
 replace h1:cj (db n) e_0 levels_2 (m+1) nodes13 i14=some o28:=h1
 rw [cj] at h1
 refine nx 2 rfl (bd h1 λ o31 h2 h1=>?_)
 refine kN o31 (λ v32=>⟨[(1,.p (eI nodes13)),(2,.p (eI levels_2)),(3,.ptr 3 0),(7,.p (eI i14)),(20,.p (eB v32))],[(3,(aa.cs e_0).map .p)]⟩) ?_ ?_
 ·refine nx 1 rfl (fB [20] h1 rfl (λ c17 h1=>?_) λ c17 h1=>?_)
  ·refine nx 8 rfl (oE h1 aa.cells_eq rfl rfl (λ _=>rfl) λ hk18 h1=>?_)
   refine nx 3 rfl (oA h1 rfl rfl λ hk19 h1=>?_)
   refine bd h1 λ r20 e21 h1=>oK (ih_ref14_left_ok (lat e_0.fKids i14) nodes13 (levels_2 - 1) _ e21) rfl ⟨sr,sr,sr,trivial⟩ Tryd.call24 rfl (nx 4 rfl ?_)
   exact oA h1 rfl rfl λ hk22 h1=>nx 2 rfl (eX (r20,i14+1) h1 (gE rfl rfl))
  exact nx 2 rfl (eXi _ (oi h1).symm (gE rfl rfl))
 refine nx 4 rfl (oLl (f:=ay) rfl rfl ?_)
 refine nx 2 rfl (fD [16,17] h2 rfl (λ c15 h2=>?_) λ c15 h2=>?_)
 ·exact nx 4 rfl (eX _ (oi h2).symm (gE rfl rfl))
 exact nx 4 rfl (eX _ (oi h2).symm (gE rfl rfl))
def fg (n:Nat)(e_0:aa)(nodes_1:Int):Option Bool :=
 (db n e_0 nodes_1 40).bind λ r1 =>
 some (decide (0≤r1))
theorem lH (n:Nat)(e_0:aa)(nodes_1:Int)(r:Bool)(h0:fg n e_0 nodes_1=some r):aE Tryd.prog 9 [.agg (aa.cs e_0),eI nodes_1] (·=.p (eB r)):=by
 unfold fg at h0
 refine aY good Tryd.func9 rfl rfl rfl λ w0=>mP (λ v:Bool=>.p (eB v)) ?_
 refine nx 9 rfl (bd h0 λ r1 e2 h0=>?_)
 refine oK (mn _ e_0 nodes_1 40 _ e2) rfl ⟨sr,sr,sr,trivial⟩ Tryd.call24 rfl (nx 4 rfl ?_)
 exact mQ (oi h0) rfl (sr)
def aF (k_0:Int):Option Bool :=
 (
   if k_0=12 then
    some true
   else
    some (decide (k_0=13))
  : Option Bool).bind λ t2 =>
 some t2
theorem iR (k_0:Int)(r:Bool)(h0:aF k_0=some r):aE Tryd.prog 62 [eI k_0] (·=.p (eB r)):=by
 unfold aF at h0
 refine aY good Tryd.func62 rfl rfl rfl λ w0=>mP (λ v:Bool=>.p (eB v)) ?_
 refine nx 5 rfl (bd h0 λ o4 h1 h0=>?_)
 refine kN o4 (λ v5=>⟨[(2,.p (eB v5))],[]⟩) ?_ ?_
 ·exact nx 2 rfl (mQ (oi h0) rfl (sr))
 refine nx 4 rfl (fD [4,5] h1 rfl (λ c1 h1=>?_) λ c1 h1=>?_)
 ·exact nx 5 rfl (eX _ (oi h1).symm (gE rfl rfl))
 exact nx 5 rfl (eX _ (oi h1).symm (gE rfl rfl))
def ax (k_0:Int):Option Bool :=
 (
   if k_0=3 then
    some true
   else
    if k_0=4 then
     some true
    else
     if k_0=9 then
      some true
     else
      (aF k_0).bind λ r4 =>
      some r4
  : Option Bool).bind λ t6 =>
 some t6
theorem fQ (k_0:Int)(r:Bool)(h0:ax k_0=some r):aE Tryd.prog 52 [eI k_0] (·=.p (eB r)):=by
 unfold ax at h0
 refine aY good Tryd.func52 rfl rfl rfl λ w0=>mP (λ v:Bool=>.p (eB v)) ?_
 refine nx 5 rfl (bd h0 λ o8 h1 h0=>?_)
 refine kN o8 (λ v9=>⟨[(2,.p (eB v9))],[]⟩) ?_ ?_
 ·exact nx 2 rfl (mQ (oi h0) rfl (sr))
 refine nx 4 rfl (fD [4,5] h1 rfl (λ c1 h1=>?_) λ c1 h1=>?_)
 ·exact nx 13 rfl (eX _ (oi h1).symm (gE rfl rfl))
 refine nx 4 rfl (fD [7,8,9] h1 rfl (λ c2 h1=>?_) λ c2 h1=>?_)
 ·exact nx 9 rfl (eX _ (oi h1).symm (gE rfl rfl))
 refine nx 4 rfl (fD [11,12,13] h1 rfl (λ c3 h1=>?_) λ c3 h1=>?_)
 ·exact nx 5 rfl (eX _ (oi h1).symm (gE rfl rfl))
 refine nx 1 rfl (bd h1 λ r4 e5 h1=>?_)
 refine oK (iR k_0 _ e5) rfl ⟨sr,trivial⟩ Tryd.call62 rfl (nx 3 rfl ?_)
 exact eX _ (oi h1).symm (gE rfl rfl)
def bW (k_0:Int)(n_1:Int):Option Bool :=
 (
   if k_0=1 then
    some true
   else
    some (decide (k_0=3))
  : Option Bool).bind λ t2 =>
 if t2=true then
  some (decide (n_1=0))
 else
  if k_0=2 then
   some (decide (1≤n_1))
  else
   (
     if k_0=4 then
      some true
     else
      some (decide (k_0=6))
    : Option Bool).bind λ t6 =>
   if t6=true then
    some (decide (n_1=1))
   else
    (
      if k_0=5 then
       some true
      else
       some (decide (k_0=7))
     : Option Bool).bind λ t9 =>
    if t9=true then
     some (decide (n_1=2))
    else
     if k_0=8 then
      some (decide (n_1=3))
     else
      (
        if k_0=9 then
         some true
        else
         some (decide (k_0=10))
       : Option Bool).bind λ t13 =>
      if t13=true then
       some true
      else
       if k_0=11 then
        ck ((2:Int)≠0) <|
        some (decide (n_1.tmod 2=0))
       else
        if k_0=12 then
         (
           if n_1=2 then
            some true
           else
            some (decide (n_1=3))
          : Option Bool).bind λ t19 =>
         some t19
        else
         if k_0=13 then
          (
            if n_1=3 then
             some true
            else
             some (decide (n_1=4))
           : Option Bool).bind λ t22 =>
          some t22
         else
          some false
theorem mu (k_0:Int)(n_1:Int)(r:Bool)(h0:bW k_0 n_1=some r):aE Tryd.prog 61 [eI k_0,eI n_1] (·=.p (eB r)):=by
 unfold bW at h0
 refine aY good Tryd.func61 rfl rfl rfl λ w0=>mP (λ v:Bool=>.p (eB v)) ?_
 refine nx 11 rfl (bd h0 λ o29 h1 h0=>?_)
 refine kN o29 (λ v30=>⟨[(1,.p (eI n_1)),(5,.p (eI k_0)),(6,.p (eB v30))],[]⟩) ?_ ?_
 ·refine nx 1 rfl (fB [6] h0 rfl (λ c3 h0=>?_) λ c3 h0=>?_)
  ·exact nx 8 rfl (mQ (oi h0) rfl (sr))
  refine nx 6 rfl (fD [11,12] h0 rfl (λ c4 h0=>?_) λ c4 h0=>?_)
  ·exact nx 8 rfl (mQ (oi h0) rfl (sr))
  refine nx 2 rfl (bd h0 λ o31 h1 h0=>?_)
  refine kN o31 (λ v32=>⟨[(1,.p (eI n_1)),(5,.p (eI k_0)),(15,.p (eB v32))],[]⟩) ?_ ?_
  ·refine nx 1 rfl (fB [15] h0 rfl (λ c7 h0=>?_) λ c7 h0=>?_)
   ·exact nx 8 rfl (mQ (oi h0) rfl (sr))
   refine nx 2 rfl (bd h0 λ o33 h1 h0=>?_)
   refine kN o33 (λ v34=>⟨[(1,.p (eI n_1)),(5,.p (eI k_0)),(20,.p (eB v34))],[]⟩) ?_ ?_
   ·refine nx 1 rfl (fB [20] h0 rfl (λ c10 h0=>?_) λ c10 h0=>?_)
    ·exact nx 8 rfl (mQ (oi h0) rfl (sr))
    refine nx 6 rfl (fD [25,26] h0 rfl (λ c11 h0=>?_) λ c11 h0=>?_)
    ·exact nx 8 rfl (mQ (oi h0) rfl (sr))
    refine nx 2 rfl (bd h0 λ o35 h1 h0=>?_)
    refine kN o35 (λ v36=>⟨[(1,.p (eI n_1)),(5,.p (eI k_0)),(29,.p (eB v36))],[]⟩) ?_ ?_
    ·refine nx 1 rfl (fB [29] h0 rfl (λ c14 h0=>?_) λ c14 h0=>?_)
     ·exact nx 6 rfl (mQ (oi h0) rfl (sr))
     refine nx 6 rfl (fD [32,33] h0 rfl (λ c15 h0=>?_) λ c15 h0=>?_)
     ·refine nx 4 rfl (cc' h0 λ hk16 h0=>?_)
      refine mO rfl (vT rfl rfl rfl rfl rfl rfl hk16 ?_)
      exact nx 4 rfl (mQ (oi h0) rfl (sr))
     refine nx 6 rfl (fD [37,38] h0 rfl (λ c17 h0=>?_) λ c17 h0=>?_)
     ·refine nx 2 rfl (bd h0 λ o37 h1 h0=>?_)
      refine kN o37 (λ v38=>⟨[(4,.p (eB v38))],[]⟩) ?_ ?_
      ·exact nx 2 rfl (mQ (oi h0) rfl (sr))
      refine nx 4 rfl (fD [40,41] h1 rfl (λ c18 h1=>?_) λ c18 h1=>?_)
      ·exact nx 5 rfl (eX _ (oi h1).symm (gE rfl rfl))
      exact nx 5 rfl (eX _ (oi h1).symm (gE rfl rfl))
     refine nx 6 rfl (fD [45,46] h0 rfl (λ c20 h0=>?_) λ c20 h0=>?_)
     ·refine nx 2 rfl (bd h0 λ o39 h1 h0=>?_)
      refine kN o39 (λ v40=>⟨[(4,.p (eB v40))],[]⟩) ?_ ?_
      ·exact nx 2 rfl (mQ (oi h0) rfl (sr))
      refine nx 4 rfl (fD [48,49] h1 rfl (λ c21 h1=>?_) λ c21 h1=>?_)
      ·exact nx 5 rfl (eX _ (oi h1).symm (gE rfl rfl))
      exact nx 5 rfl (eX _ (oi h1).symm (gE rfl rfl))
     exact nx 7 rfl (mQ (oi h0) rfl (sr))
    refine nx 5 rfl (fD [29,30] h1 rfl (λ c12 h1=>?_) λ c12 h1=>?_)
    ·exact nx 2 rfl (eX _ (oi h1).symm (gE rfl rfl))
    exact nx 5 rfl (eX _ (oi h1).symm (gE rfl rfl))
   refine nx 5 rfl (fD [20,21] h1 rfl (λ c8 h1=>?_) λ c8 h1=>?_)
   ·exact nx 2 rfl (eX _ (oi h1).symm (gE rfl rfl))
   exact nx 5 rfl (eX _ (oi h1).symm (gE rfl rfl))
  refine nx 5 rfl (fD [15,16] h1 rfl (λ c5 h1=>?_) λ c5 h1=>?_)
  ·exact nx 2 rfl (eX _ (oi h1).symm (gE rfl rfl))
  exact nx 5 rfl (eX _ (oi h1).symm (gE rfl rfl))
 refine nx 5 rfl (fD [6,7] h1 rfl (λ c1 h1=>?_) λ c1 h1=>?_)
 ·exact nx 2 rfl (eX _ (oi h1).symm (gE rfl rfl))
 exact nx 5 rfl (eX _ (oi h1).symm (gE rfl rfl))
def cF (v_0:ab):Option Bool :=
 (
   if v_0.fKind=0 then
    if v_0.fNum=0 then
     if v_0.fStr=([]:Bytes) then
      if (v_0.fItems.length:Int)=0 then
       some (decide ((v_0.fKeys.length:Int)=0))
      else
       some false
     else
      some false
    else
     some false
   else
    some false
  : Option Bool).bind λ t5 =>
 some t5
theorem mx (v_0:ab)(r:Bool)(h0:cF v_0=some r):aE Tryd.prog 63 [.agg (ab.cs v_0)] (·=.p (eB r)):=by
 unfold cF at h0
 refine aY good Tryd.func63 rfl rfl rfl λ w0=>mP (λ v:Bool=>.p (eB v)) ?_
 refine nx 6 rfl (bd h0 λ o7 h1 h0=>?_)
 refine kN o7 (λ v8=>⟨[(2,.p (eB v8))],[]⟩) ?_ ?_
 ·exact nx 2 rfl (mQ (oi h0) rfl (sr))
 refine nx 5 rfl (fD [5,6] h1 rfl (λ c1 h1=>?_) λ c1 h1=>?_)
 ·refine nx 5 rfl (fD [9,10,11] h1 rfl (λ c2 h1=>?_) λ c2 h1=>?_)
  ·refine nx 2 rfl (oS rfl rfl ?_)
   refine nx 2 rfl (fD [14,15,16] h1 rfl (λ c3 h1=>?_) λ c3 h1=>?_)
   ·refine nx 2 rfl (oLl (f:=bP) rfl rfl ?_)
    refine nx 3 rfl (fD [20,21,22] h1 rfl (λ c4 h1=>?_) λ c4 h1=>?_)
    ·refine nx 2 rfl (oLl (f:=eS) rfl rfl ?_)
     exact nx 4 rfl (eX _ (oi h1).symm (gE rfl rfl))
    exact nx 7 rfl (eX _ (oi h1).symm (gE rfl rfl))
   exact nx 13 rfl (eX _ (oi h1).symm (gE rfl rfl))
  exact nx 18 rfl (eX _ (oi h1).symm (gE rfl rfl))
 exact nx 23 rfl (eX _ (oi h1).symm (gE rfl rfl))
def bc (e_0:aa):Option Bool :=
 (
   (bW e_0.fKind (e_0.fKids.length:Int)).bind λ r1 =>
   if (!r1)=true then
    some true
   else
    (aF e_0.fKind).bind λ r4 =>
    if (!r4)=true then
     if e_0.fKey=([]:Bytes) then
      (ax e_0.fKind).bind λ r8 =>
      if (!r8)=true then
       some (!decide (e_0.fName=([]:Bytes)))
      else
       some false
     else
      some true
    else
     (ax e_0.fKind).bind λ r11 =>
     if (!r11)=true then
      some (!decide (e_0.fName=([]:Bytes)))
     else
      some false
  : Option Bool).bind λ t14 =>
 if t14=true then
  some false
 else
  if e_0.fKind=1 then
   (
     if e_0.fOp=0 then
      if e_0.fValue.fKind=0 then
       some true
      else
       if e_0.fValue.fKind=1 then
        some true
       else
        if e_0.fValue.fKind=3 then
         some true
        else
         if e_0.fValue.fKind=2 then
          some (decide (0≤e_0.fValue.fNum))
         else
          some false
     else
      some false
    : Option Bool).bind λ t22 =>
   some t22
  else
   (cF e_0.fValue).bind λ r23 =>
   if (!r23)=true then
    some false
   else
    if e_0.fKind=6 then
     (
       if e_0.fOp=1 then
        some true
       else
        some (decide (e_0.fOp=2))
      : Option Bool).bind λ t28 =>
     some t28
    else
     if e_0.fKind=7 then
      (
        if 3≤e_0.fOp then
         some (decide (e_0.fOp≤15))
        else
         some false
       : Option Bool).bind λ t31 =>
      some t31
     else
      some (decide (e_0.fOp=0))
theorem ko (e_0:aa)(r:Bool)(h0:bc e_0=some r):aE Tryd.prog 50 [.agg (aa.cs e_0)] (·=.p (eB r)):=by
 unfold bc at h0
 refine aY good Tryd.func50 rfl rfl rfl λ w0=>mP (λ v:Bool=>.p (eB v)) ?_
 refine nx 7 rfl (bd h0 λ o36 h1 h0=>?_)
 refine kN o36 (λ v37=>⟨[(1,.ptr 1 0),(32,.p (eB v37))],[(1,(aa.cs e_0).map .p)]⟩) ?_ ?_
 ·refine nx 1 rfl (fB [32] h0 rfl (λ c15 h0=>?_) λ c15 h0=>?_)
  ·exact nx 6 rfl (mQ (oi h0) rfl (sr))
  refine nx 9 rfl (fD [35] h0 rfl (λ c16 h0=>?_) λ c16 h0=>?_)
  ·refine nx 9 rfl (bd h0 λ o38 h1 h0=>?_)
   refine kN o38 (λ v39=>⟨[(2,.p (eB v39))],[]⟩) ?_ ?_
   ·exact nx 2 rfl (mQ (oi h0) rfl (sr))
   refine nx 5 rfl (fD [41,42] h1 rfl (λ c17 h1=>?_) λ c17 h1=>?_)
   ·refine nx 3 rfl (fD [44,45] h1 rfl (λ c18 h1=>?_) λ c18 h1=>?_)
    ·exact nx 20 rfl (eX _ (oi h1).symm (gE rfl rfl))
    refine nx 4 rfl (fD [47,48,49] h1 rfl (λ c19 h1=>?_) λ c19 h1=>?_)
    ·exact nx 16 rfl (eX _ (oi h1).symm (gE rfl rfl))
    refine nx 4 rfl (fD [51,52,53] h1 rfl (λ c20 h1=>?_) λ c20 h1=>?_)
    ·exact nx 12 rfl (eX _ (oi h1).symm (gE rfl rfl))
    refine nx 3 rfl (fD [55,56] h1 rfl (λ c21 h1=>?_) λ c21 h1=>?_)
    ·exact nx 9 rfl (eX _ (oi h1).symm (gE rfl rfl))
    exact nx 9 rfl (eX _ (oi h1).symm (gE rfl rfl))
   exact nx 23 rfl (eX _ (oi h1).symm (gE rfl rfl))
  refine nx 7 rfl (bd h0 λ r23 e24 h0=>?_)
  refine oK (mx e_0.fValue _ e24) rfl ⟨sr,trivial⟩ Tryd.call63 rfl (nx 2 rfl ?_)
  refine fB [67] h0 rfl (λ c25 h0=>?_) λ c25 h0=>?_
  ·exact nx 6 rfl (mQ (oi h0) rfl (sr))
  refine nx 14 rfl (fD [70,71] h0 rfl (λ c26 h0=>?_) λ c26 h0=>?_)
  ·refine nx 2 rfl (bd h0 λ o40 h1 h0=>?_)
   refine kN o40 (λ v41=>⟨[(2,.p (eB v41))],[]⟩) ?_ ?_
   ·exact nx 2 rfl (mQ (oi h0) rfl (sr))
   refine nx 5 rfl (fD [74,75] h1 rfl (λ c27 h1=>?_) λ c27 h1=>?_)
   ·exact nx 6 rfl (eX _ (oi h1).symm (gE rfl rfl))
   exact nx 6 rfl (eX _ (oi h1).symm (gE rfl rfl))
  refine nx 6 rfl (fD [80,81] h0 rfl (λ c29 h0=>?_) λ c29 h0=>?_)
  ·refine nx 2 rfl (bd h0 λ o42 h1 h0=>?_)
   refine kN o42 (λ v43=>⟨[(2,.p (eB v43))],[]⟩) ?_ ?_
   ·exact nx 2 rfl (mQ (oi h0) rfl (sr))
   refine nx 5 rfl (fD [84,85] h1 rfl (λ c30 h1=>?_) λ c30 h1=>?_)
   ·exact nx 6 rfl (eX _ (oi h1).symm (gE rfl rfl))
   exact nx 6 rfl (eX _ (oi h1).symm (gE rfl rfl))
  exact nx 10 rfl (mQ (oi h0) rfl (sr))
 refine nx 5 rfl (oLl (f:=ay) rfl rfl ?_)
 refine bd h1 λ r1 e2 h1=>oK (mu e_0.fKind (e_0.fKids.length:Int) _ e2) rfl ⟨sr,sr,trivial⟩ Tryd.call61 rfl (nx 2 rfl ?_)
 refine fB [10,11] h1 rfl (λ c3 h1=>?_) λ c3 h1=>?_
 ·exact nx 22 rfl (eX _ (oi h1).symm (gE rfl rfl))
 refine nx 2 rfl (bd h1 λ r4 e5 h1=>?_)
 refine oK (iR e_0.fKind _ e5) rfl ⟨sr,trivial⟩ Tryd.call62 rfl (nx 2 rfl ?_)
 refine fB [15,16] h1 rfl (λ c6 h1=>?_) λ c6 h1=>?_
 ·refine nx 2 rfl (oS rfl rfl ?_)
  refine nx 3 rfl (fN [19,20,21,22] h1 rfl (λ c7 h1=>?_) λ c7 h1=>?_)
  ·refine nx 2 rfl (bd h1 λ r8 e9 h1=>?_)
   refine oK (fQ e_0.fKind _ e9) rfl ⟨sr,trivial⟩ Tryd.call52 rfl (nx 2 rfl ?_)
   refine fB [26,27] h1 rfl (λ c10 h1=>?_) λ c10 h1=>?_
   ·refine nx 2 rfl (oS rfl rfl ?_)
    exact nx 3 rfl (eX _ (oi h1).symm (gE rfl rfl))
   exact nx 6 rfl (eX _ (oi h1).symm (gE rfl rfl))
  exact nx 11 rfl (eX _ (oi h1).symm (gE rfl rfl))
 refine nx 8 rfl (bd h1 λ r11 e12 h1=>?_)
 refine oK (fQ e_0.fKind _ e12) rfl ⟨sr,trivial⟩ Tryd.call52 rfl (nx 2 rfl ?_)
 refine fB [26,27] h1 rfl (λ c13 h1=>?_) λ c13 h1=>?_
 ·refine nx 2 rfl (oS rfl rfl ?_)
  exact nx 3 rfl (eX _ (oi h1).symm (gE rfl rfl))
 exact nx 6 rfl (eX _ (oi h1).symm (gE rfl rfl))
def dr (v_0:ab):Option Bool :=
 (
   if v_0.fKind=2 then
    some true
   else
    if v_0.fKind=1 then
     if v_0.fNum=0 then
      some true
     else
      if v_0.fNum=1 then
       some true
      else
       some (decide (v_0.fNum=0))
    else
     some (decide (v_0.fNum=0))
  : Option Bool).bind λ num5 =>
 (
   if v_0.fKind=3 then
    some true
   else
    some (decide (v_0.fStr=([]:Bytes)))
  : Option Bool).bind λ str7 =>
 (
   if v_0.fKind=4 then
    some true
   else
    if v_0.fKind=5 then
     some true
    else
     some (decide ((v_0.fItems.length:Int)=0))
  : Option Bool).bind λ items10 =>
 (
   if v_0.fKind=5 then
    if (v_0.fKeys.length:Int)=(v_0.fItems.length:Int) then
     some true
    else
     some false
   else
    some (decide ((v_0.fKeys.length:Int)=0))
  : Option Bool).bind λ keys13 =>
 (
   if 0≤v_0.fKind then
    if v_0.fKind≤6 then
     if num5=true then
      if str7=true then
       if items10=true then
        some keys13
       else
        some false
      else
       some false
     else
      some false
    else
     some false
   else
    some false
  : Option Bool).bind λ t19 =>
 some t19
theorem kt (v_0:ab)(r:Bool)(h0:dr v_0=some r):aE Tryd.prog 77 [.agg (ab.cs v_0)] (·=.p (eB r)):=by
 unfold dr at h0
 refine aY good Tryd.func77 rfl rfl rfl λ w0=>mP (λ v:Bool=>.p (eB v)) ?_
 refine nx 6 rfl (bd h0 λ o25 h1 h0=>?_)
 refine kN o25 (λ v26=>⟨[(1,.ptr 1 0),(3,.p (eB v26))],[(1,(ab.cs v_0).map .p)]⟩) ?_ ?_
 ·refine nx 2 rfl (bd h0 λ o27 h1 h0=>?_)
  refine kN o27 (λ v28=>⟨[(1,.ptr 1 0),(3,.p (eB o25)),(4,.p (eB v28))],[(1,(ab.cs v_0).map .p)]⟩) ?_ ?_
  ·refine nx 2 rfl (bd h0 λ o29 h1 h0=>?_)
   refine kN o29 (λ v30=>⟨[(1,.ptr 1 0),(3,.p (eB o25)),(4,.p (eB o27)),(5,.p (eB v30))],[(1,(ab.cs v_0).map .p)]⟩) ?_ ?_
   ·refine nx 2 rfl (bd h0 λ o31 h1 h0=>?_)
    refine kN o31 (λ v32=>⟨[(1,.ptr 1 0),(3,.p (eB o25)),(4,.p (eB o27)),(5,.p (eB o29)),(6,.p (eB v32))],[(1,(ab.cs v_0).map .p)]⟩) ?_ ?_
    ·refine nx 2 rfl (bd h0 λ o33 h1 h0=>?_)
     refine kN o33 (λ v34=>⟨[(2,.p (eB v34))],[]⟩) ?_ ?_
     ·exact nx 2 rfl (mQ (oi h0) rfl (sr))
     refine nx 5 rfl (fD [77,78] h1 rfl (λ c14 h1=>?_) λ c14 h1=>?_)
     ·refine nx 5 rfl (fD [81,82,83] h1 rfl (λ c15 h1=>?_) λ c15 h1=>?_)
      ·refine nx 3 rfl (fB [3,84,85,86] h1 rfl (λ c16 h1=>?_) λ c16 h1=>?_)
       ·refine nx 3 rfl (fB [4,87,88,89] h1 rfl (λ c17 h1=>?_) λ c17 h1=>?_)
        ·refine nx 3 rfl (fB [5,90,91,92] h1 rfl (λ c18 h1=>?_) λ c18 h1=>?_)
         ·exact nx 4 rfl (eX _ (oi h1).symm (gE rfl rfl))
         exact nx 4 rfl (eX _ (oi h1).symm (gE rfl rfl))
        exact nx 7 rfl (eX _ (oi h1).symm (gE rfl rfl))
       exact nx 10 rfl (eX _ (oi h1).symm (gE rfl rfl))
      exact nx 13 rfl (eX _ (oi h1).symm (gE rfl rfl))
     exact nx 18 rfl (eX _ (oi h1).symm (gE rfl rfl))
    refine nx 5 rfl (fD [54,55] h1 rfl (λ c11 h1=>?_) λ c11 h1=>?_)
    ·refine nx 2 rfl (oLl (f:=eS) rfl rfl ?_)
     refine nx 2 rfl (oLl (f:=bP) rfl rfl ?_)
     refine nx 3 rfl (fD [62,63,64] h1 rfl (λ c12 h1=>?_) λ c12 h1=>?_)
     ·exact nx 12 rfl (eX _ (oi h1).symm (gE rfl rfl))
     refine nx 4 rfl (lT [68] (tB c11) rfl ?_)
     exact nx 8 rfl (eX _ (oi h1).symm (gE rfl rfl))
    refine nx 13 rfl (lT [68] (tP c11) rfl ?_)
    refine nx 2 rfl (oLl (f:=eS) rfl rfl ?_)
    exact nx 5 rfl (eX _ (oi h1).symm (gE rfl rfl))
   refine nx 5 rfl (fD [40,41] h1 rfl (λ c8 h1=>?_) λ c8 h1=>?_)
   ·exact nx 12 rfl (eX _ (oi h1).symm (gE rfl rfl))
   refine nx 5 rfl (fD [44,45,46] h1 rfl (λ c9 h1=>?_) λ c9 h1=>?_)
   ·exact nx 7 rfl (eX _ (oi h1).symm (gE rfl rfl))
   refine nx 2 rfl (oLl (f:=bP) rfl rfl ?_)
   exact nx 4 rfl (eX _ (oi h1).symm (gE rfl rfl))
  refine nx 5 rfl (fD [32,33] h1 rfl (λ c6 h1=>?_) λ c6 h1=>?_)
  ·exact nx 6 rfl (eX _ (oi h1).symm (gE rfl rfl))
  refine nx 2 rfl (oS rfl rfl ?_)
  exact nx 3 rfl (eX _ (oi h1).symm (gE rfl rfl))
 refine nx 5 rfl (fD [9,10] h1 rfl (λ c1 h1=>?_) λ c1 h1=>?_)
 ·exact nx 21 rfl (eX _ (oi h1).symm (gE rfl rfl))
 refine nx 4 rfl (fD [13,14] h1 rfl (λ c2 h1=>?_) λ c2 h1=>?_)
 ·refine nx 4 rfl (fD [17,18] h1 rfl (λ c3 h1=>?_) λ c3 h1=>?_)
  ·exact nx 13 rfl (eX _ (oi h1).symm (gE rfl rfl))
  refine nx 7 rfl (fD [21,22,23,24,25] h1 rfl (λ c4 h1=>?_) λ c4 h1=>?_)
  ·exact nx 6 rfl (eX _ (oi h1).symm (gE rfl rfl))
  exact nx 6 rfl (eX _ (oi h1).symm (gE rfl rfl))
 exact nx 17 rfl (eX _ (oi h1).symm (gE rfl rfl))
def dD (n:Nat)(s_0:Bytes):Option Int :=
 if 4096 < (s_0.length:Int) then
  some 3
 else
  (dQ n s_0).bind λ r2 =>
  if (!r2)=true then
   some 1
  else
   some 0
theorem iO (n:Nat)(s_0:Bytes)(r:Int)(h0:dD n s_0=some r):aE Tryd.prog 79 [eS s_0] (·=.p (eI r)):=by
 unfold dD at h0
 refine aY good Tryd.func79 rfl rfl rfl λ w0=>mP (λ v:Int=>.p (eI v)) ?_
 refine nx 8 rfl (oLs rfl ?_)
 refine nx 2 rfl (fD [5] h0 rfl (λ c1 h0=>?_) λ c1 h0=>?_)
 ·exact nx 6 rfl (mQ (oi h0) rfl (sr))
 refine nx 6 rfl (bd h0 λ r2 e3 h0=>?_)
 refine oK (ls _ s_0 _ e3) rfl ⟨sr,trivial⟩ Tryd.call89 rfl (nx 2 rfl ?_)
 refine fB [8] h0 rfl (λ c4 h0=>?_) λ c4 h0=>?_
 ·exact nx 6 rfl (mQ (oi h0) rfl (sr))
 exact nx 7 rfl (mQ (oi h0) rfl (sr))
def bC (n:Nat)(v_0:ab):Nat→Int→Option (Unit⊕Int)
 | 0,_=>none
 | m+1,i25 =>
 if i25 < (v_0.fKeys.length:Int) then
  ck ((0:Int)≤i25∧i25 < (v_0.fKeys.length:Int)) <|
  (dD n (lat v_0.fKeys i25)).bind λ r28 =>
  if r28=0 then
   (
     if 0 < i25 then
      ck (inR (i25 - 1)) <|
      ck ((0:Int)≤i25 - 1∧i25 - 1 < (v_0.fKeys.length:Int)) <|
      ck ((0:Int)≤i25∧i25 < (v_0.fKeys.length:Int)) <|
      some (!Op.bytesLess (lat v_0.fKeys (i25 - 1)) (lat v_0.fKeys i25))
     else
      some false
    : Option Bool).bind λ t35 =>
   if t35=true then
    some (.inr 1)
   else
    ck (inR (i25+1)) <|
    bC n v_0 m (i25+1)
  else
   some (.inr r28)
 else
  some (.inl ())
def ee (n:Nat)(v_0:ab):Option Int :=
 (dr v_0).bind λ r1 =>
 if (!r1)=true then
  some 1
 else
  (
    if v_0.fKind=2 then
     (cP v_0.fNum).bind λ r5 =>
     some (!r5)
    else
     some false
   : Option Bool).bind λ t7 =>
  if t7=true then
   some 5
  else
   (dD n v_0.fStr).bind λ r9 =>
   if r9=0 then
    jn (bC n v_0 n 0) λ _q40 =>
    some 0
   else
    some r9
theorem mg (n:Nat)(v_0:ab)(r:Int)(h0:ee n v_0=some r):aE Tryd.prog 69 [.agg (ab.cs v_0)] (·=.p (eI r)):=by
 unfold ee at h0
 refine aY good Tryd.func69 rfl rfl rfl λ w0=>mP (λ v:Int=>.p (eI v)) ?_
 refine nx 9 rfl (bd h0 λ r1 e2 h0=>?_)
 refine oK (kt v_0 _ e2) rfl ⟨sr,trivial⟩ Tryd.call77 rfl (nx 2 rfl ?_)
 refine fB [8] h0 rfl (λ c3 h0=>?_) λ c3 h0=>?_
 ·exact nx 6 rfl (mQ (oi h0) rfl (sr))
 refine nx 4 rfl (bd h0 λ o42 h1 h0=>?_)
 refine kN o42 (λ v43=>⟨[(1,.ptr 1 0),(17,.p (eB v43))],[(1,(ab.cs v_0).map .p)]⟩) ?_ ?_
 ·refine nx 1 rfl (fB [17] h0 rfl (λ c8 h0=>?_) λ c8 h0=>?_)
  ·exact nx 6 rfl (mQ (oi h0) rfl (sr))
  refine nx 7 rfl (bd h0 λ r9 e10 h0=>?_)
  refine oK (iO _ v_0.fStr _ e10) rfl ⟨sr,trivial⟩ Tryd.call79 rfl (nx 7 rfl ?_)
  refine fN [22] h0 rfl (λ c11 h0=>?_) λ c11 h0=>?_
  ·refine nx 8 rfl ?_
   obtain ⟨o44,h1,hL0,hR0⟩:=fP h0
   refine kEx 0 (λ v45:Unit=>o44=.inl v45) (λ v45=>⟨[],[]⟩) (λ v45 hv=>?_) ?_
   ·have h0:=hL0 _ hv
    exact nx 6 rfl (mQ (oi h0) rfl (sr))
   refine lG (λ (q46:Int)=>⟨[(1,.ptr 1 0),(4,.p (eI q46))],[(1,(ab.cs v_0).map .p)]⟩) (λ m (q46:Int)=>bC n v_0 m q46) (λ _=>rfl) 0 h1 (gE rfl rfl) ?_
   rintro m i25 h1
   replace h1:bC n v_0 (m+1) i25=some o44:=h1
   rw [bC] at h1
   refine nx 6 rfl (oLl (f:=eS) rfl rfl ?_)
   refine nx 2 rfl (fD [28] h1 rfl (λ c26 h1=>?_) λ c26 h1=>?_)
   ·refine nx 10 rfl (oE h1 (λ _=>rfl) rfl rfl (λ _=>rfl) λ hk27 h1=>?_)
    refine nx 1 rfl (bd h1 λ r28 e29 h1=>?_)
    refine oK (iO _ (lat v_0.fKeys i25) _ e29) rfl ⟨sr,trivial⟩ Tryd.call79 rfl (nx 7 rfl ?_)
    refine fN [38] h1 rfl (λ c30 h1=>?_) λ c30 h1=>?_
    ·refine nx 3 rfl (bd h1 λ o47 h2 h1=>?_)
     refine kN o47 (λ v48=>⟨[(1,.ptr 1 0),(4,.p (eI i25)),(55,.p (eB v48))],[(1,(ab.cs v_0).map .p)]⟩) ?_ ?_
     ·refine nx 1 rfl (fB [55] h1 rfl (λ c36 h1=>?_) λ c36 h1=>?_)
      ·exact nx 6 rfl (mQ (hR0 _ (oi h1).symm) rfl (sr))
      refine nx 4 rfl (oA h1 rfl rfl λ hk37 h1=>?_)
      exact nx 2 rfl (eX (i25+1) h1 (gE rfl rfl))
     refine fD (p:=0 < i25) [] h2 rfl (λ c31 h2=>?_) λ c31 h2=>?_
     ·refine cc' h2 λ hk32 h2=>cc' h2 λ hk33 h2=>cc' h2 λ hk34 h2=>mD [(1,.ptr 1 0),(4,.p (eI i25))] rfl ⟨rfl,rfl,trivial⟩ rfl (dR 1 rfl ?_)
      refine dL (dt c31) rfl (dR 4 rfl ?_)
      refine dq (.p (eI (i25 - 1))) [42,45] rfl (λ _ e _ q=>et (iT rfl rfl rfl (e _ _ rfl) rfl rfl hk32 q) rfl rfl (e _ _ rfl) (rfl)) rfl (dq (.rptr [eS (lat v_0.fKeys (i25 - 1))]) [42,44,46] rfl (λ _ e _ q=>et (op_at (f:=eS) (l:=v_0.fKeys) (λ x=>[eS x]) rfl rfl rfl rfl rfl rfl (e _ _ rfl) rfl (e _ _ rfl) hk33 (λ _=>rfl) (λ _=>rfl) q) rfl rfl (e _ _ rfl) (rfl)) rfl ?_)
      refine dR 4 rfl (dq (.rptr [eS (lat v_0.fKeys i25)]) [42,50,51] rfl (λ _ e _ q=>et (op_at (f:=eS) (l:=v_0.fKeys) (λ x=>[eS x]) rfl rfl rfl rfl rfl rfl (e _ _ rfl) rfl (e _ _ rfl) hk34 (λ _=>rfl) (λ _=>rfl) q) rfl rfl (e _ _ rfl) (rfl)) rfl ?_)
      refine dR 1 rfl (dq (.p (eB (!Op.bytesLess (lat v_0.fKeys (i25 - 1)) (lat v_0.fKeys i25)))) [42,48,53] rfl (λ _ e _ q=>et (gD rfl rfl rfl (e _ _ rfl) (e _ _ rfl) rfl q) rfl rfl (e _ _ rfl) (rfl)) rfl ?_)
      refine dR 1 rfl (dE rfl ?_)
      exact nx 1 rfl (eX _ (oi h2).symm (gE rfl rfl))
     refine mD [(1,.ptr 1 0),(4,.p (eI i25))] rfl ⟨rfl,rfl,trivial⟩ rfl (dR 1 rfl ?_)
     refine dL (df c31) rfl (dR 14 rfl ?_)
     refine dE rfl (nx 1 rfl ?_)
     exact eX _ (oi h2).symm (gE rfl rfl)
    exact nx 7 rfl (mQ (hR0 _ (oi h1).symm) rfl (sr))
   exact nx 2 rfl (eXi _ (oi h1).symm (gE rfl rfl))
  exact nx 7 rfl (mQ (oi h0) rfl (sr))
 refine nx 5 rfl (fD [11,12] h1 rfl (λ c4 h1=>?_) λ c4 h1=>?_)
 ·refine nx 2 rfl (bd h1 λ r5 e6 h1=>?_)
  refine oK (lu v_0.fNum _ e6) rfl ⟨sr,trivial⟩ Tryd.call78 rfl (nx 3 rfl ?_)
  exact eX _ (oi h1).symm (gE rfl rfl)
 exact nx 6 rfl (eX _ (oi h1).symm (gE rfl rfl))
def bA (r_ref07_check:ab→Int→Int→Option (Int×Int))(v_0:ab)(level_1:Int):Nat→Int→Int→Option (Int⊕(Int×Int))
 | 0,_,_=>none
 | m+1,n16,i17 =>
 if i17 < (v_0.fItems.length:Int) then
  ck ((0:Int)≤i17∧i17 < (v_0.fItems.length:Int)) <|
  ck (inR (level_1+1)) <|
  (r_ref07_check (lat v_0.fItems i17) (level_1+1) n16).bind λ r21 =>
  if r21.1=0 then
   ck (inR (i17+1)) <|
   bA r_ref07_check v_0 level_1 m r21.2 (i17+1)
  else
   some (.inr (r21.1,r21.2))
 else
  some (.inl n16)
def bY:Nat→ab→Int→Int→Option (Int×Int)
 | 0,_,_,_=>none
 | n+1,v_0,level_1,before_2 =>
 if 32 < level_1 then
  some (4,before_2)
 else
  if 4096≤before_2 then
   some (14,before_2)
  else
   (ee n v_0).bind λ r3 =>
   if r3=0 then
    ck (inR (before_2+1)) <|
    jn (bA (bY n) v_0 level_1 n (before_2+1) 0) λ n27 =>
    some (0,n27)
   else
    some (r3,before_2)
theorem lO (n:Nat):∀ (v_0:ab) (level_1:Int) (before_2:Int) (r:Int×Int),bY n v_0 level_1 before_2=some r→aE Tryd.prog 64 [.agg (ab.cs v_0),eI level_1,eI before_2] (·=.tuple [.p (eI r.1),.p (eI r.2)]):=by
 induction n with
 | zero=>intro v_0 level_1 before_2 r h0; cases h0
 | succ n ih =>
 have ih_ref07_check_ok:=ih
 intro v_0 level_1 before_2 r h0
 rw [bY] at h0
 refine aY good Tryd.func64 rfl rfl rfl λ w0=>mP (λ v:Int×Int=>.tuple [.p (eI v.1),.p (eI v.2)]) ?_
 refine nx 12 rfl (fD [14] h0 rfl (λ c1 h0=>?_) λ c1 h0=>?_)
 ·exact nx 8 rfl (mQ (oi h0) rfl (cD ⟨sr,sr,trivial⟩))
 refine nx 8 rfl (fD [17] h0 rfl (λ c2 h0=>?_) λ c2 h0=>?_)
 ·exact nx 8 rfl (mQ (oi h0) rfl (cD ⟨sr,sr,trivial⟩))
 refine nx 6 rfl (bd h0 λ r3 e4 h0=>?_)
 refine oK (mg _ v_0 _ e4) rfl ⟨sr,trivial⟩ Tryd.call69 rfl (nx 7 rfl ?_)
 refine fN [22] h0 rfl (λ c5 h0=>?_) λ c5 h0=>?_
 ·refine nx 5 rfl (oA h0 rfl rfl λ hk6 h0=>?_)
  refine nx 8 rfl ?_
  obtain ⟨o29,h1,hL0,hR0⟩:=fP h0
  refine kEx 0 (λ v30:Int=>o29=.inl v30) (λ v30=>⟨[(9,.p (eI v30))],[]⟩) (λ v30 hv=>?_) ?_
  ·have h0:=hL0 _ hv
   exact nx 8 rfl (mQ (oi h0) rfl (cD ⟨sr,sr,trivial⟩))
  refine lG (λ (q31:Int×Int)=>⟨[(1,.p (eI level_1)),(3,.ptr 3 0),(9,.p (eI q31.1)),(10,.p (eI q31.2))],[(3,(ab.cs v_0).map .p)]⟩) (λ m (q31:Int×Int)=>bA (bY n) v_0 level_1 m q31.1 q31.2) (λ _=>rfl) (before_2+1,0) h1 (gE rfl rfl) ?_
  rintro m ⟨n16,i17⟩ h1
  replace h1:bA (bY n) v_0 level_1 (m+1) n16 i17=some o29:=h1
  rw [bA] at h1
  refine nx 6 rfl (oLl (f:=bP) rfl rfl ?_)
  refine nx 2 rfl (fD [31] h1 rfl (λ c18 h1=>?_) λ c18 h1=>?_)
  ·refine nx 9 rfl (oE h1 ab.cells_eq rfl rfl (λ _=>rfl) λ hk19 h1=>?_)
   refine nx 2 rfl (oA h1 rfl rfl λ hk20 h1=>?_)
   refine nx 1 rfl (bd h1 λ r21 e22 h1=>?_)
   refine oK (ih_ref07_check_ok (lat v_0.fItems i17) (level_1+1) n16 _ e22) rfl ⟨sr,sr,sr,trivial⟩ Tryd.call64 rfl (nx 12 rfl ?_)
   refine fN [47] h1 rfl (λ c23 h1=>?_) λ c23 h1=>?_
   ·refine nx 8 rfl (oA h1 rfl rfl λ hk24 h1=>?_)
    exact nx 2 rfl (eX (r21.2,i17+1) h1 (gE rfl rfl))
   refine nx 8 rfl (mG (gE (t:=⟨[(6,.p (eI r21.1)),(7,.p (eI r21.2))],[]⟩) rfl rfl) ?_)
   exact nx 1 rfl (mQ (hR0 _ (oi h1).symm) rfl (cD ⟨sr,sr,trivial⟩))
  exact nx 2 rfl (eXi _ (oi h1).symm (gE rfl rfl))
 exact nx 9 rfl (mQ (oi h0) rfl (cD ⟨sr,sr,trivial⟩))
def dM (n:Nat)(v_0:ab):Option Int :=
 (bY n v_0 1 0).bind λ r1 =>
 some r1.1
theorem lz (n:Nat)(v_0:ab)(r:Int)(h0:dM n v_0=some r):aE Tryd.prog 51 [.agg (ab.cs v_0)] (·=.p (eI r)):=by
 unfold dM at h0
 refine aY good Tryd.func51 rfl rfl rfl λ w0=>mP (λ v:Int=>.p (eI v)) ?_
 refine nx 8 rfl (bd h0 λ r1 e2 h0=>?_)
 refine oK (lO _ v_0 1 0 _ e2) rfl ⟨sr,sr,sr,trivial⟩ Tryd.call64 rfl (nx 12 rfl ?_)
 exact mQ (oi h0) rfl (sr)
def dW (c_0:Int):Option Bool :=
 (
   if 97≤c_0 then
    if c_0≤122 then
     some true
    else
     if 65≤c_0 then
      if c_0≤90 then
       some true
      else
       some (decide (c_0=95))
     else
      some (decide (c_0=95))
   else
    if 65≤c_0 then
     if c_0≤90 then
      some true
     else
      some (decide (c_0=95))
    else
     some (decide (c_0=95))
  : Option Bool).bind λ t7 =>
 some t7
theorem gW (c_0:Int)(r:Bool)(h0:dW c_0=some r):aE Tryd.prog 65 [eK .u8 c_0] (·=.p (eB r)):=by
 unfold dW at h0
 refine aY good Tryd.func65 rfl rfl rfl λ w0=>mP (λ v:Bool=>.p (eB v)) ?_
 refine nx 5 rfl (bd h0 λ o9 h1 h0=>?_)
 refine kN o9 (λ v10=>⟨[(2,.p (eB v10))],[]⟩) ?_ ?_
 ·exact nx 2 rfl (mQ (oi h0) rfl (sr))
 refine nx 4 rfl (fD [4,5] h1 rfl (λ c1 h1=>?_) λ c1 h1=>?_)
 ·refine nx 4 rfl (fD [7,8,9] h1 rfl (λ c2 h1=>?_) λ c2 h1=>?_)
  ·exact nx 13 rfl (eX _ (oi h1).symm (gE rfl rfl))
  refine nx 3 rfl (fD [11,12] h1 rfl (λ c3 h1=>?_) λ c3 h1=>?_)
  ·refine nx 5 rfl (fD [14,15,16,17] h1 rfl (λ c4 h1=>?_) λ c4 h1=>?_)
   ·exact nx 5 rfl (eX _ (oi h1).symm (gE rfl rfl))
   exact nx 5 rfl (eX _ (oi h1).symm (gE rfl rfl))
  exact nx 10 rfl (eX _ (oi h1).symm (gE rfl rfl))
 refine nx 7 rfl (fD [11,12] h1 rfl (λ c5 h1=>?_) λ c5 h1=>?_)
 ·refine nx 5 rfl (fD [14,15,16,17] h1 rfl (λ c6 h1=>?_) λ c6 h1=>?_)
  ·exact nx 5 rfl (eX _ (oi h1).symm (gE rfl rfl))
  exact nx 5 rfl (eX _ (oi h1).symm (gE rfl rfl))
 exact nx 10 rfl (eX _ (oi h1).symm (gE rfl rfl))
def bD (s_0:Bytes):Nat→Int→Option (Unit⊕Bool)
 | 0,_=>none
 | m+1,i20 =>
 if i20 < (s_0.length:Int) then
  (
    ck ((0:Int)≤i20∧i20 < (s_0.length:Int)) <|
    (dW (byt s_0 i20)).bind λ r23 =>
    if (!r23)=true then
     ck ((0:Int)≤i20∧i20 < (s_0.length:Int)) <|
     if byt s_0 i20 < 48 then
      some true
     else
      ck ((0:Int)≤i20∧i20 < (s_0.length:Int)) <|
      some (decide (57 < byt s_0 i20))
    else
     some false
   : Option Bool).bind λ t29 =>
  if t29=true then
   some (.inr false)
  else
   ck (inR (i20+1)) <|
   bD s_0 m (i20+1)
 else
  some (.inl ())
def bZ (n:Nat)(s_0:Bytes):Option Bool :=
 (
   if s_0=([]:Bytes) then
    some true
   else
    if 64 < (s_0.length:Int) then
     some true
    else
     ck ((0:Int)≤0∧0 < (s_0.length:Int)) <|
     (dW (byt s_0 0)).bind λ r4 =>
     some (!r4)
  : Option Bool).bind λ t6 =>
 if t6=true then
  some false
 else
  jn (bD s_0 n 0) λ _q34 =>
  some true
theorem fu (n:Nat)(s_0:Bytes)(r:Bool)(h0:bZ n s_0=some r):aE Tryd.prog 53 [eS s_0] (·=.p (eB r)):=by
 unfold bZ at h0
 refine aY good Tryd.func53 rfl rfl rfl λ w0=>mP (λ v:Bool=>.p (eB v)) ?_
 refine nx 6 rfl (bd h0 λ o36 h1 h0=>?_)
 refine kN o36 (λ v37=>⟨[(0,.p (eS s_0)),(16,.p (eB v37))],[]⟩) ?_ ?_
 ·refine nx 1 rfl (fB [16] h0 rfl (λ c7 h0=>?_) λ c7 h0=>?_)
  ·exact nx 6 rfl (mQ (oi h0) rfl (sr))
  refine nx 8 rfl ?_
  obtain ⟨o38,h1,hL0,hR0⟩:=fP h0
  refine kEx 0 (λ v39:Unit=>o38=.inl v39) (λ v39=>⟨[],[]⟩) (λ v39 hv=>?_) ?_
  ·have h0:=hL0 _ hv
   exact nx 6 rfl (mQ (oi h0) rfl (sr))
  refine lG (λ (q40:Int)=>⟨[(0,.p (eS s_0)),(3,.p (eI q40))],[]⟩) (λ m (q40:Int)=>bD s_0 m q40) (λ _=>rfl) 0 h1 (gE rfl rfl) ?_
  rintro m i20 h1
  replace h1:bD s_0 (m+1) i20=some o38:=h1
  rw [bD] at h1
  refine nx 5 rfl (oLs rfl ?_)
  refine nx 2 rfl (fD [20] h1 rfl (λ c21 h1=>?_) λ c21 h1=>?_)
  ·refine nx 5 rfl (bd h1 λ o41 h2 h1=>?_)
   refine kN o41 (λ v42=>⟨[(0,.p (eS s_0)),(3,.p (eI i20)),(39,.p (eB v42))],[]⟩) ?_ ?_
   ·refine nx 1 rfl (fB [39] h1 rfl (λ c30 h1=>?_) λ c30 h1=>?_)
    ·exact nx 6 rfl (mQ (hR0 _ (oi h1).symm) rfl (sr))
    refine nx 4 rfl (oA h1 rfl rfl λ hk31 h1=>?_)
    exact nx 2 rfl (eX (i20+1) h1 (gE rfl rfl))
   refine nx 3 rfl (oI h2 rfl λ hk22 h2=>?_)
   refine bd h2 λ r23 e24 h2=>oK (gW (byt s_0 i20) _ e24) rfl ⟨sr,trivial⟩ Tryd.call65 rfl (nx 2 rfl ?_)
   refine fB [27,28] h2 rfl (λ c25 h2=>?_) λ c25 h2=>?_
   ·refine nx 2 rfl (oI h2 rfl λ hk26 h2=>?_)
    refine nx 2 rfl (fD [32,33] h2 rfl (λ c27 h2=>?_) λ c27 h2=>?_)
    ·exact nx 7 rfl (eX _ (oi h2).symm (gE rfl rfl))
    refine nx 2 rfl (oI h2 rfl λ hk28 h2=>?_)
    exact nx 4 rfl (eX _ (oi h2).symm (gE rfl rfl))
   exact nx 12 rfl (eX _ (oi h2).symm (gE rfl rfl))
  exact nx 2 rfl (eXi _ (oi h1).symm (gE rfl rfl))
 refine nx 2 rfl (oS rfl rfl ?_)
 refine nx 1 rfl (fD [5,6] h1 rfl (λ c1 h1=>?_) λ c1 h1=>?_)
 ·exact nx 11 rfl (eX _ (oi h1).symm (gE rfl rfl))
 refine nx 1 rfl (oLs rfl ?_)
 refine nx 3 rfl (fD [9,10,11] h1 rfl (λ c2 h1=>?_) λ c2 h1=>?_)
 ·exact nx 6 rfl (eX _ (oi h1).symm (gE rfl rfl))
 refine nx 1 rfl (oI h1 rfl λ hk3 h1=>?_)
 refine bd h1 λ r4 e5 h1=>oK (gW (byt s_0 0) _ e5) rfl ⟨sr,trivial⟩ Tryd.call65 rfl (nx 3 rfl ?_)
 exact eX _ (oi h1).symm (gE rfl rfl)
def bJ (s_0:Bytes):Option Bool :=
 (
   if s_0=([110,117,108,108]:Bytes) then
    some true
   else
    if s_0=([116,114,117,101]:Bytes) then
     some true
    else
     if s_0=([102,97,108,115,101]:Bytes) then
      some true
     else
      if s_0=([102,111,114]:Bytes) then
       some true
      else
       if s_0=([105,110]:Bytes) then
        some true
       else
        some (decide (s_0=([105,102]:Bytes)))
  : Option Bool).bind λ t6 =>
 some t6
theorem fW (s_0:Bytes)(r:Bool)(h0:bJ s_0=some r):aE Tryd.prog 54 [eS s_0] (·=.p (eB r)):=by
 unfold bJ at h0
 refine aY good Tryd.func54 rfl rfl rfl λ w0=>mP (λ v:Bool=>.p (eB v)) ?_
 refine nx 5 rfl (bd h0 λ o8 h1 h0=>?_)
 refine kN o8 (λ v9=>⟨[(2,.p (eB v9))],[]⟩) ?_ ?_
 ·exact nx 2 rfl (mQ (oi h0) rfl (sr))
 refine nx 2 rfl (oS rfl rfl ?_)
 refine nx 1 rfl (fD [4,5] h1 rfl (λ c1 h1=>?_) λ c1 h1=>?_)
 ·exact nx 21 rfl (eX _ (oi h1).symm (gE rfl rfl))
 refine nx 1 rfl (oS rfl rfl ?_)
 refine nx 2 rfl (fD [7,8,9] h1 rfl (λ c2 h1=>?_) λ c2 h1=>?_)
 ·exact nx 17 rfl (eX _ (oi h1).symm (gE rfl rfl))
 refine nx 1 rfl (oS rfl rfl ?_)
 refine nx 2 rfl (fD [11,12,13] h1 rfl (λ c3 h1=>?_) λ c3 h1=>?_)
 ·exact nx 13 rfl (eX _ (oi h1).symm (gE rfl rfl))
 refine nx 1 rfl (oS rfl rfl ?_)
 refine nx 2 rfl (fD [15,16,17] h1 rfl (λ c4 h1=>?_) λ c4 h1=>?_)
 ·exact nx 9 rfl (eX _ (oi h1).symm (gE rfl rfl))
 refine nx 1 rfl (oS rfl rfl ?_)
 refine nx 2 rfl (fD [19,20,21] h1 rfl (λ c5 h1=>?_) λ c5 h1=>?_)
 ·exact nx 5 rfl (eX _ (oi h1).symm (gE rfl rfl))
 refine nx 1 rfl (oS rfl rfl ?_)
 exact nx 3 rfl (eX _ (oi h1).symm (gE rfl rfl))
def eJ (n:Nat)(s_0:Bytes):Option Bool :=
 (
   (bZ n s_0).bind λ r1 =>
   if r1=true then
    (bJ s_0).bind λ r4 =>
    some (!r4)
   else
    some false
  : Option Bool).bind λ t6 =>
 some t6
theorem ml (n:Nat)(s_0:Bytes)(r:Bool)(h0:eJ n s_0=some r):aE Tryd.prog 55 [eS s_0] (·=.p (eB r)):=by
 unfold eJ at h0
 refine aY good Tryd.func55 rfl rfl rfl λ w0=>mP (λ v:Bool=>.p (eB v)) ?_
 refine nx 5 rfl (bd h0 λ o8 h1 h0=>?_)
 refine kN o8 (λ v9=>⟨[(2,.p (eB v9))],[]⟩) ?_ ?_
 ·exact nx 2 rfl (mQ (oi h0) rfl (sr))
 refine nx 2 rfl (bd h1 λ r1 e2 h1=>?_)
 refine oK (fu _ s_0 _ e2) rfl ⟨sr,trivial⟩ Tryd.call53 rfl (nx 1 rfl ?_)
 refine fB [4,5] h1 rfl (λ c3 h1=>?_) λ c3 h1=>?_
 ·refine nx 1 rfl (bd h1 λ r4 e5 h1=>?_)
  refine oK (fW s_0 _ e5) rfl ⟨sr,trivial⟩ Tryd.call54 rfl (nx 4 rfl ?_)
  exact eX _ (oi h1).symm (gE rfl rfl)
 exact nx 6 rfl (eX _ (oi h1).symm (gE rfl rfl))
def ed (n:Nat)(e_0:aa):Option Int :=
 (bc e_0).bind λ r1 =>
 if (!r1)=true then
  some 1
 else
  if e_0.fKind=1 then
   (dM n e_0.fValue).bind λ r5 =>
   some r5
  else
   (
     (ax e_0.fKind).bind λ r7 =>
     if r7=true then
      (bZ n e_0.fName).bind λ r10 =>
      if (!r10)=true then
       some true
      else
       if e_0.fKind=4 then
        some false
       else
        (bJ e_0.fName).bind λ r14 =>
        some r14
     else
      some false
    : Option Bool).bind λ t16 =>
   if t16=true then
    some 7
   else
    (
      if e_0.fKey=([]:Bytes) then
       some false
      else
       (eJ n e_0.fKey).bind λ r19 =>
       some (!r19)
     : Option Bool).bind λ t21 =>
    if t21=true then
     some 7
    else
     some 0
theorem mj (n:Nat)(e_0:aa)(r:Int)(h0:ed n e_0=some r):aE Tryd.prog 42 [.agg (aa.cs e_0)] (·=.p (eI r)):=by
 unfold ed at h0
 refine aY good Tryd.func42 rfl rfl rfl λ w0=>mP (λ v:Int=>.p (eI v)) ?_
 refine nx 9 rfl (bd h0 λ r1 e2 h0=>?_)
 refine oK (ko e_0 _ e2) rfl ⟨sr,trivial⟩ Tryd.call50 rfl (nx 2 rfl ?_)
 refine fB [5] h0 rfl (λ c3 h0=>?_) λ c3 h0=>?_
 ·exact nx 6 rfl (mQ (oi h0) rfl (sr))
 refine nx 9 rfl (fD [8] h0 rfl (λ c4 h0=>?_) λ c4 h0=>?_)
 ·refine nx 5 rfl (bd h0 λ r5 e6 h0=>?_)
  refine oK (lz _ e_0.fValue _ e6) rfl ⟨sr,trivial⟩ Tryd.call51 rfl (nx 3 rfl ?_)
  exact mQ (oi h0) rfl (sr)
 refine nx 4 rfl (bd h0 λ o25 h1 h0=>?_)
 refine kN o25 (λ v26=>⟨[(1,.ptr 1 0),(30,.p (eB v26))],[(1,(aa.cs e_0).map .p)]⟩) ?_ ?_
 ·refine nx 1 rfl (fB [30] h0 rfl (λ c17 h0=>?_) λ c17 h0=>?_)
  ·exact nx 6 rfl (mQ (oi h0) rfl (sr))
  refine nx 4 rfl (bd h0 λ o27 h1 h0=>?_)
  refine kN o27 (λ v28=>⟨[(39,.p (eB v28))],[]⟩) ?_ ?_
  ·refine nx 1 rfl (fB [39] h0 rfl (λ c22 h0=>?_) λ c22 h0=>?_)
   ·exact nx 6 rfl (mQ (oi h0) rfl (sr))
   exact nx 7 rfl (mQ (oi h0) rfl (sr))
  refine nx 3 rfl (oS rfl rfl ?_)
  refine nx 1 rfl (fN [33,34] h1 rfl (λ c18 h1=>?_) λ c18 h1=>?_)
  ·exact nx 6 rfl (eX _ (oi h1).symm (gE rfl rfl))
  refine nx 2 rfl (bd h1 λ r19 e20 h1=>?_)
  refine oK (ml _ e_0.fKey _ e20) rfl ⟨sr,trivial⟩ Tryd.call55 rfl (nx 3 rfl ?_)
  exact eX _ (oi h1).symm (gE rfl rfl)
 refine nx 3 rfl (bd h1 λ r7 e8 h1=>?_)
 refine oK (fQ e_0.fKind _ e8) rfl ⟨sr,trivial⟩ Tryd.call52 rfl (nx 1 rfl ?_)
 refine fB [14,15] h1 rfl (λ c9 h1=>?_) λ c9 h1=>?_
 ·refine nx 2 rfl (bd h1 λ r10 e11 h1=>?_)
  refine oK (fu _ e_0.fName _ e11) rfl ⟨sr,trivial⟩ Tryd.call53 rfl (nx 2 rfl ?_)
  refine fB [19,20] h1 rfl (λ c12 h1=>?_) λ c12 h1=>?_
  ·exact nx 11 rfl (eX _ (oi h1).symm (gE rfl rfl))
  refine nx 4 rfl (fN [23,24] h1 rfl (λ c13 h1=>?_) λ c13 h1=>?_)
  ·exact nx 7 rfl (eX _ (oi h1).symm (gE rfl rfl))
  refine nx 2 rfl (bd h1 λ r14 e15 h1=>?_)
  refine oK (fW e_0.fName _ e15) rfl ⟨sr,trivial⟩ Tryd.call54 rfl (nx 4 rfl ?_)
  exact eX _ (oi h1).symm (gE rfl rfl)
 exact nx 16 rfl (eX _ (oi h1).symm (gE rfl rfl))
def aS (r_ref14_check:aa→Int→Int→Option (Int×Int))(e_0:aa)(level_1:Int):Nat→Int→Int→Int→Option (Int×Int)
 | 0,_,_,_=>none
 | m+1,k17,n18,i19 =>
 (
   if i19 < (e_0.fKids.length:Int) then
    some (decide (k17=0))
   else
    some false
  : Option Bool).bind λ t21 =>
 if t21=true then
  ck ((0:Int)≤i19∧i19 < (e_0.fKids.length:Int)) <|
  ck (inR (level_1+1)) <|
  (r_ref14_check (lat e_0.fKids i19) (level_1+1) n18).bind λ r25 =>
  ck (inR (i19+1)) <|
  aS r_ref14_check e_0 level_1 m r25.1 r25.2 (i19+1)
 else
  some (k17,n18)
def br:Nat→aa→Int→Int→Option (Int×Int)
 | 0,_,_,_=>none
 | n+1,e_0,level_1,before_2 =>
 if 32 < level_1 then
  some (4,0)
 else
  if 4096≤before_2 then
   some (14,0)
  else
   (ed n e_0).bind λ r3 =>
   ck (inR (before_2+1)) <|
   (aS (br n) e_0 level_1 n r3 (before_2+1) 0).bind λ q33 =>
   some (q33.1,q33.2)
theorem lM (n:Nat):∀ (e_0:aa) (level_1:Int) (before_2:Int) (r:Int×Int),br n e_0 level_1 before_2=some r→aE Tryd.prog 25 [.agg (aa.cs e_0),eI level_1,eI before_2] (·=.tuple [.p (eI r.1),.p (eI r.2)]):=by
 induction n with
 | zero=>intro e_0 level_1 before_2 r h0; cases h0
 | succ n ih =>
 have ih_ref14_check_ok:=ih
 intro e_0 level_1 before_2 r h0
 rw [br] at h0
 refine aY good Tryd.func25 rfl rfl rfl λ w0=>mP (λ v:Int×Int=>.tuple [.p (eI v.1),.p (eI v.2)]) ?_
 refine nx 12 rfl (fD [12] h0 rfl (λ c1 h0=>?_) λ c1 h0=>?_)
 ·exact nx 7 rfl (mQ (oi h0) rfl (cD ⟨sr,sr,trivial⟩))
 refine nx 8 rfl (fD [14] h0 rfl (λ c2 h0=>?_) λ c2 h0=>?_)
 ·exact nx 7 rfl (mQ (oi h0) rfl (cD ⟨sr,sr,trivial⟩))
 refine nx 5 rfl (bd h0 λ r3 e4 h0=>?_)
 refine oK (mj _ e_0 _ e4) rfl ⟨sr,trivial⟩ Tryd.call42 rfl (nx 5 rfl ?_)
 refine oA h0 rfl rfl λ hk5 h0=>nx 8 rfl (bd h0 λ o35 h1 h0=>?_)
 refine kE 0 o35 (λ v36=>⟨[(8,.p (eI v36.1)),(9,.p (eI v36.2))],[]⟩) ?_ ?_
 ·exact nx 9 rfl (mQ (oi h0) rfl (cD ⟨sr,sr,trivial⟩))
 refine lG (λ (q37:Int×Int×Int)=>⟨[(1,.p (eI level_1)),(3,.ptr 3 0),(8,.p (eI q37.1)),(9,.p (eI q37.2.1)),(10,.p (eI q37.2.2))],[(3,(aa.cs e_0).map .p)]⟩) (λ m (q37:Int×Int×Int)=>aS (br n) e_0 level_1 m q37.1 q37.2.1 q37.2.2) (λ _=>rfl) (r3,before_2+1,0) h1 (gE rfl rfl) ?_
 rintro m ⟨k17,n18,i19⟩ h1
 replace h1:aS (br n) e_0 level_1 (m+1) k17 n18 i19=some o35:=h1
 rw [aS] at h1
 refine nx 2 rfl (bd h1 λ o38 h2 h1=>?_)
 refine kN o38 (λ v39=>⟨[(1,.p (eI level_1)),(3,.ptr 3 0),(8,.p (eI k17)),(9,.p (eI n18)),(10,.p (eI i19)),(27,.p (eB v39))],[(3,(aa.cs e_0).map .p)]⟩) ?_ ?_
 ·refine nx 1 rfl (fB [27] h1 rfl (λ c22 h1=>?_) λ c22 h1=>?_)
  ·refine nx 8 rfl (oE h1 aa.cells_eq rfl rfl (λ _=>rfl) λ hk23 h1=>?_)
   refine nx 2 rfl (oA h1 rfl rfl λ hk24 h1=>?_)
   refine nx 1 rfl (bd h1 λ r25 e26 h1=>?_)
   refine oK (ih_ref14_check_ok (lat e_0.fKids i19) (level_1+1) n18 _ e26) rfl ⟨sr,sr,sr,trivial⟩ Tryd.call25 rfl (nx 8 rfl ?_)
   exact oA h1 rfl rfl λ hk27 h1=>nx 2 rfl (eX (r25.1,r25.2,i19+1) h1 (gE rfl rfl))
  exact nx 2 rfl (eXi _ (oi h1).symm (gE rfl rfl))
 refine nx 4 rfl (oLl (f:=ay) rfl rfl ?_)
 refine nx 2 rfl (fD [23,24] h2 rfl (λ c20 h2=>?_) λ c20 h2=>?_)
 ·exact nx 4 rfl (eX _ (oi h2).symm (gE rfl rfl))
 exact nx 4 rfl (eX _ (oi h2).symm (gE rfl rfl))
def dz (n:Nat)(e_0:aa):Option Int :=
 (br n e_0 1 0).bind λ r1 =>
 some r1.1
theorem lg (n:Nat)(e_0:aa)(r:Int)(h0:dz n e_0=some r):aE Tryd.prog 10 [.agg (aa.cs e_0)] (·=.p (eI r)):=by
 unfold dz at h0
 refine aY good Tryd.func10 rfl rfl rfl λ w0=>mP (λ v:Int=>.p (eI v)) ?_
 refine nx 8 rfl (bd h0 λ r1 e2 h0=>?_)
 refine oK (lM _ e_0 1 0 _ e2) rfl ⟨sr,sr,sr,trivial⟩ Tryd.call25 rfl (nx 12 rfl ?_)
 exact mQ (oi h0) rfl (sr)
def cJ (n:Nat)(l_0:List aa):Nat→Int→Option (Unit⊕Bool)
 | 0,_=>none
 | m+1,i13 =>
 if i13 < (l_0.length:Int) then
  (
    ck ((0:Int)≤i13∧i13 < (l_0.length:Int)) <|
    (fg n (lat l_0 i13) 300).bind λ r16 =>
    if (!r16)=true then
     some true
    else
     ck ((0:Int)≤i13∧i13 < (l_0.length:Int)) <|
     (dz n (lat l_0 i13)).bind λ r20 =>
     some (!decide (r20=0))
   : Option Bool).bind λ t22 =>
  if t22=true then
   some (.inr false)
  else
   ck (inR (i13+1)) <|
   cJ n l_0 m (i13+1)
 else
  some (.inl ())
def gu (n:Nat)(l_0:List aa):Option Bool :=
 jn (cJ n l_0 n 0) λ _q26 =>
 some true
theorem nN (n:Nat)(l_0:List aa)(r:Bool)(h0:gu n l_0=some r):aE Tryd.prog 4 [eL ay l_0] (·=.p (eB r)):=by
 unfold gu at h0
 refine aY good Tryd.func4 rfl rfl rfl λ w0=>mP (λ v:Bool=>.p (eB v)) ?_
 refine nx 10 rfl ?_
 obtain ⟨o28,h1,hL0,hR0⟩:=fP h0
 refine kEx 0 (λ v29:Unit=>o28=.inl v29) (λ v29=>⟨[],[]⟩) (λ v29 hv=>?_) ?_
 ·have h0:=hL0 _ hv
  exact nx 6 rfl (mQ (oi h0) rfl (sr))
 refine lG (λ (q30:Int)=>⟨[(0,.p (eL ay l_0)),(3,.p (eI q30))],[]⟩) (λ m (q30:Int)=>cJ n l_0 m q30) (λ _=>rfl) 0 h1 (gE rfl rfl) ?_
 rintro m i13 h1
 replace h1:cJ n l_0 (m+1) i13=some o28:=h1
 rw [cJ] at h1
 refine nx 5 rfl (oLl (f:=ay) rfl rfl ?_)
 refine nx 2 rfl (fD [7] h1 rfl (λ c14 h1=>?_) λ c14 h1=>?_)
 ·refine nx 5 rfl (bd h1 λ o31 h2 h1=>?_)
  refine kN o31 (λ v32=>⟨[(0,.p (eL ay l_0)),(3,.p (eI i13)),(23,.p (eB v32))],[]⟩) ?_ ?_
  ·refine nx 1 rfl (fB [23] h1 rfl (λ c23 h1=>?_) λ c23 h1=>?_)
   ·exact nx 6 rfl (mQ (hR0 _ (oi h1).symm) rfl (sr))
   refine nx 4 rfl (oA h1 rfl rfl λ hk24 h1=>?_)
   exact nx 2 rfl (eX (i13+1) h1 (gE rfl rfl))
  refine nx 3 rfl (oE h2 aa.cells_eq rfl rfl (λ _=>rfl) λ hk15 h2=>?_)
  refine nx 1 rfl (bd h2 λ r16 e17 h2=>?_)
  refine oK (lH _ (lat l_0 i13) 300 _ e17) rfl ⟨sr,sr,trivial⟩ Tryd.call9 rfl (nx 2 rfl ?_)
  refine fB [15,16] h2 rfl (λ c18 h2=>?_) λ c18 h2=>?_
  ·exact nx 8 rfl (eX _ (oi h2).symm (gE rfl rfl))
  refine nx 2 rfl (oE h2 aa.cells_eq rfl rfl (λ _=>rfl) λ hk19 h2=>?_)
  refine nx 1 rfl (bd h2 λ r20 e21 h2=>?_)
  refine oK (lg _ (lat l_0 i13) _ e21) rfl ⟨sr,trivial⟩ Tryd.call10 rfl (nx 3 rfl ?_)
  exact eX _ (oi h2).symm (gE rfl rfl)
 exact nx 2 rfl (eXi _ (oi h1).symm (gE rfl rfl))
end Go.Ab.R06
end
section
namespace Go.Ab.R06
open Go.Ab Go.Ab.RB Go.Lib
theorem pV (b:UInt8):dW (b.toNat:Int)=some (eR b):=by
 simp only [dW]
 have h:=oc b
 generalize eR b=o at h ⊢
 have mk:∀ x:Bool,(x=true↔(97≤b.toNat∧b.toNat≤122)∨(65≤b.toNat∧b.toNat≤90)∨b.toNat=95)→some x=some o:=λ x hx=>congrArg some (eqB (by rw [hx,h]))
 repeat' split
 all_goals (simp only [Option.bind_some]; apply mk; first | (rw [decide_eq_true_eq]; omega) | (simp; omega))
theorem rh (s:Bytes)(hs:s.length≤1000000):∀ (k i:Nat),i+k=s.length→Ev2 (λ _ m=>bD s m (i:Int)) (·=if eG (λ j=>idB (s.getD j 0)) i k then .inl () else .inr false):=by
 intro k
 induction k with
 | zero =>
  intro i hi
  refine aW ?_
  simp only [bD]
  refine ai (by omega) (ac rfl)
 | succ k ih =>
  intro i hi
  refine aW ?_
  simp only [bD]
  refine aT (by omega) ?_
  have hb:byt s i=((s.getD i 0).toNat:Int):=iH s i
  rw [hb]
  refine ao (!idB (s.getD i 0)) ?_ ?_
  ·refine ap (by omega) (ao _ (aP (pV _) rfl) ?_)
   have h:=ig (s.getD i 0)
   simp only [idB]
   generalize s.getD i 0=b at h ⊢
   cases hl:eR b with
   | true=>exact ai (by simp) (ac (by simp))
   | false =>
    refine aT (by simp) (ap (by omega) (aB (λ h1=>ac ?_) (λ h1=>ap (by omega) (ac ?_))))
    ·have:dZ b=false:=by rw [← Bool.not_eq_true,h]; omega
     simp [this]
    ·refine eqB ?_
     rw [decide_eq_true_eq,Bool.false_or,Bool.not_eq_true',← Bool.not_eq_true,h]
     omega
  ·cases hk:idB (s.getD i 0) with
   | false=>exact aT rfl (ac (by simp only [eG,hk,Bool.false_and]; rfl))
   | true =>
    refine ai (by simp) (ap (bq (by omega) (by omega)) ?_)
    have:=ih (i+1) (by omega)
    rw [Int.natCast_add,Int.natCast_one] at this
    simp only [eG,hk,Bool.true_and]
    exact this
theorem rf (s:Bytes)(hs:s.length≤1000000):Ev2 (λ n _=>bZ n s) (·=aV s):=by
 simp only [bZ]
 have hi:=oN s
 refine ao (decide (s=[])||decide (64 < (s.length:Int))||!eR (s.getD 0 0)) ?_ ?_
 ·refine aB (λ h=>ac (by simp [h])) (λ h=>aB (λ h1=>ac (by simp [h1])) (λ h1=>ap ?_ ?_))
  ·have:=List.length_pos_iff.2 h; omega
  ·refine ao (eR (s.getD 0 0)) (aP (pV _) rfl) (ac ?_)
   have:decide (64 < (s.length:Int))=false:=decide_eq_false h1
   simp [h,this]
 ·refine aB (λ h=>ac (eqB ?_)) (λ h=>?_)
  ·rw [hi]; simp at h ⊢; intro q1 q2 q3
   rcases h with (h | h) | h
   ·exact absurd h q1
   ·omega
   ·rw [h] at q3; cases q3
  ·have l:=rh s hs s.length 0 (by omega)
   simp only [Bool.or_eq_true,decide_eq_true_eq,not_or] at h
   obtain ⟨⟨h1,h2⟩,h3⟩:=h
   have h3:eR (s.getD 0 0)=true:=by simpa using h3
   cases ha:eG (λ j=>idB (s.getD j 0)) 0 s.length with
   | false =>
    rw [ha] at l hi
    refine rN false (cS l) (eqB ?_)
    rw [hi]; simp
   | true =>
    rw [ha] at l hi
    refine nu () (cS l) (ac (eqB ?_))
    rw [hi]; simp only [true_iff]
    exact ⟨h1,by omega,h3,trivial⟩
theorem kI (s:Bytes):Ev2 (λ n _=>bZ n s) (·=aV s):=by
 by_cases hs:s.length≤1000000
 ·exact rf s hs
 ·have hi:aV s=false:=by
   cases h:aV s with
   | false=>rfl
   | true=>have:=((fH s).1 h).2.1; omega
  have hne:s≠[]:=λ h=>by subst h; simp at hs
  simp only [bZ,hi]
  exact ao true (ai hne (aT (by omega) (ac rfl))) (aT rfl (ac rfl))
theorem tR (s:Bytes):Ev2 (λ n _=>dQ n s) (·=(decide (s.length≤4096)&&validD s)):=by
 by_cases hs:s.length≤1000000
 ·exact mH s (by omega)
 ·simp only [dQ]
  exact aT (by omega) (ac (by simp; omega))
section
variable {α β:Type}
theorem gh {p:Prop} [Decidable p] {a b:Option α}(h1:p→∃ r,a=some r)(h2:¬p→∃ r,b=some r):∃ r,(if p then a else b)=some r:=by
 by_cases h:p
 ·simpa only [if_pos h] using h1 h
 ·simpa only [if_neg h] using h2 h
theorem fx {g:Option β}{k:β→Option α}(h:∃ r,g=some r)(hk:∀ x,∃ r,k x=some r):∃ r,g.bind k=some r:=by
 obtain ⟨x,rfl⟩:=h
 exact hk x
theorem jg {p:Prop} [Decidable p] {a:Option α}(hp:p)(h:∃ r,a=some r):∃ r,ck p a=some r:=by rw [bL hp]; exact h
theorem nF {o:Option α}(h:∃ r,o=some r):Ev2 (λ _ _=>o) (λ r=>o=some r):=by
 obtain ⟨r,hr⟩:=h
 exact aP hr hr
end
theorem vM (s:Bytes):∃ r,bJ s=some r:=by unfold bJ; repeat' (first | exact ⟨_,rfl⟩ | refine fx ?_ (λ _=>?_) | refine gh (λ _=>?_) (λ _=>?_) | refine jg (by decide) ?_)
def resB (s:Bytes):Bool:=(bJ s).getD false
theorem vt (s:Bytes):bJ s=some (resB s):=by
 obtain ⟨r,h⟩:=vM s
 unfold resB; rw [h]; rfl
theorem ik (k:Int):∃ r,aF k=some r:=by unfold aF; repeat' (first | exact ⟨_,rfl⟩ | refine fx ?_ (λ _=>?_) | refine gh (λ _=>?_) (λ _=>?_) | refine jg (by decide) ?_)
theorem gP (k:Int):∃ r,ax k=some r:=by unfold ax; repeat' (first | exact ⟨_,rfl⟩ | exact ik _ | refine fx ?_ (λ _=>?_) | refine gh (λ _=>?_) (λ _=>?_) | refine jg (by decide) ?_)
theorem jN (k n:Int):∃ r,bW k n=some r:=by unfold bW; repeat' (first | exact ⟨_,rfl⟩ | exact ik _ | exact gP _ | refine fx ?_ (λ _=>?_) | refine gh (λ _=>?_) (λ _=>?_) | refine jg (by decide) ?_)
theorem nG (v:ab):∃ r,cF v=some r:=by unfold cF; repeat' (first | exact ⟨_,rfl⟩ | exact ik _ | exact gP _ | exact jN _ _ | refine fx ?_ (λ _=>?_) | refine gh (λ _=>?_) (λ _=>?_) | refine jg (by decide) ?_)
theorem sN (e:aa):∃ r,bc e=some r:=by unfold bc; repeat' (first | exact ⟨_,rfl⟩ | exact ik _ | exact gP _ | exact jN _ _ | exact nG _ | refine fx ?_ (λ _=>?_) | refine gh (λ _=>?_) (λ _=>?_) | refine jg (by decide) ?_)
theorem rn (v:ab):∃ r,dr v=some r:=by unfold dr; repeat' (first | exact ⟨_,rfl⟩ | exact ik _ | exact gP _ | exact jN _ _ | exact nG _ | refine fx ?_ (λ _=>?_) | refine gh (λ _=>?_) (λ _=>?_) | refine jg (by decide) ?_)
theorem rT (n:Int):∃ r,cP n=some r:=by unfold cP; repeat' (first | exact ⟨_,rfl⟩ | exact ik _ | exact gP _ | exact jN _ _ | exact nG _ | refine fx ?_ (λ _=>?_) | refine gh (λ _=>?_) (λ _=>?_) | refine jg (by decide) ?_)
end Go.Ab.R06
end
section
namespace Go.Ab.R06
open Go.Ab Go.Ab.RB Go.Lib
theorem d4 {P:Int→Prop}{i:Nat}(h:P ((i+1:Nat):Int)):P ((i:Int)+1):=by rwa [Int.natCast_add,Int.natCast_one] at h
theorem d8 {α:Type} [Inhabited α] (l:List α){i:Nat}(h:i < l.length):l.drop i=lat l (i:Int)::l.drop (i+1):=by
 rw [kH l i h]; exact List.drop_eq_getElem_cons h
def qj (v:ab):Prop:=dr v=some true∧(v.fKind=2→cP v.fNum=some true)∧v.fStr.length≤4096∧validD v.fStr=true
theorem pW (s:Bytes):Ev2 (λ n _=>dD n s) (λ r=>r=0→s.length≤4096∧validD s=true):=by
 simp only [dD]
 refine aB (λ _=>ac (by simp)) (λ h=>?_)
 refine bj _ (tR s) (λ r hr=>?_)
 subst hr
 refine aB (λ _=>ac (by simp)) (λ h1=>ac (λ _=>?_))
 simp at h1
 exact h1
theorem tD {v:ab}(hb:ab.Bd v):Ev2 (λ n _=>ee n v) (λ r=>r=0→qj v):=by
 have hl:=hb.bKeys
 unfold cW at hl
 simp only [ee]
 refine bj _ (nF (rn v)) (λ r1 h1=>?_)
 refine aB (λ _=>ac (by simp)) (λ h2=>?_)
 have h2:r1=true:=by simpa using h2
 subst h2
 refine bj (λ t=>t=false→v.fKind=2→cP v.fNum=some true) ?_ (λ t ht=>?_)
 ·refine aB (λ _=>bj _ (nF (rT _)) (λ r h=>ac (λ hr _=>?_))) (λ h=>ac (λ _ k=>absurd k h))
  have:r=true:=by simpa using hr
  rw [h,this]
 ·refine aB (λ _=>ac (by simp)) (λ h3=>?_)
  have h3:t=false:=by simpa using h3
  refine bj _ (pW v.fStr) (λ r hr=>?_)
  refine aB (λ h4=>?_) (λ h4=>ac (λ h=>absurd h h4))
  have h5:=hr h4
  have loop:∀ (k i:Nat),i+k=v.fKeys.length→Ev2 (λ n m=>bC n v m (i:Int)) (λ s=>∀ y,s=.inr y→y≠0):=by
   intro k
   induction k with
   | zero =>
    intro i hi
    refine aW ?_
    simp only [bC]
    exact ai (by omega) (ac (by intro y hy; cases hy))
   | succ k ih =>
    intro i hi
    refine aW ?_
    simp only [bC]
    refine aT (by omega) (ap (by omega) ?_)
    refine bj _ (pW _) (λ r _=>?_)
    refine aB (λ _=>?_) (λ h=>ac (by intro y hy; cases hy; exact h))
    refine bj (λ _=>True) ?_ (λ t _=>?_)
    ·exact aB (λ _=>ap (bq (by omega) (by omega)) (ap (by omega) (ap (by omega) (ac trivial)))) (λ _=>ac trivial)
    ·refine aB (λ _=>ac (by intro y hy; cases hy; decide)) (λ _=>ap (bq (by omega) (by omega)) ?_)
     exact d4 (P:=λ j=>Ev2 (λ n m=>bC n v m j) _) (ih (i+1) (by omega))
  refine kY (dd (cS (f:=λ n m=>bC n v m 0) (loop v.fKeys.length 0 (by omega))) (λ s hs=>?_))
  cases s with
  | inl x=>exact ac (λ _=>⟨h1,ht h3,h5⟩)
  | inr y=>exact λ h=>absurd h (hs y rfl)
theorem rm {v:ab}(hb:ab.Bd v):∀ (level before:Int),0≤level→level≤33→0≤before→before≤4096 →
  Ev2 (λ n _=>bY n v level before) (λ r=>0≤r.2∧r.2≤4096∧(r.1=0→qj v)):=by
 induction hb with
 | @mk x bKind bNum bStr bItems eItems bKeys eKeys ih =>
  intro level before h1 h2 h3 h4
  have hb:ab.Bd x:=.mk bKind bNum bStr bItems eItems bKeys eKeys
  have hl:=bItems
  unfold cW at hl
  refine bM ?_
  simp only [bY]
  refine aB (λ _=>ac ⟨h3,h4,by simp⟩) (λ h=>?_)
  refine aB (λ _=>ac ⟨h3,h4,by simp⟩) (λ h5=>?_)
  refine bj _ (tD hb) (λ r hr=>?_)
  refine aB (λ h0=>?_) (λ h0=>ac ⟨h3,h4,λ k=>absurd k h0⟩)
  refine ap (bq (by omega) (by omega)) ?_
  have loop:∀ (k i:Nat) (b:Int),i+k=x.fItems.length→0≤b→b≤4096→Ev2 (λ n m=>bA (bY n) x level m b (i:Int)) (λ s=>match s with | .inl y=>0≤y∧y≤4096 | .inr y=>0≤y.2∧y.2≤4096∧y.1≠0):=by
   intro k
   induction k with
   | zero =>
    intro i b hi h6 h7
    refine aW ?_
    simp only [bA]
    exact ai (by omega) (ac ⟨h6,h7⟩)
   | succ k ihk =>
    intro i b hi h6 h7
    refine aW ?_
    simp only [bA]
    refine aT (by omega) (ap (by omega) (ap (bq (by omega) (by omega)) ?_))
    refine bj _ (ih _ (dX (by omega)) (level+1) b (by omega) (by omega) h6 h7) (λ r hr=>?_)
    refine aB (λ _=>ap (bq (by omega) (by omega)) ?_) (λ h8=>ac ⟨hr.1,hr.2.1,h8⟩)
    exact d4 (P:=λ j=>Ev2 (λ n m=>bA (bY n) x level m r.2 j) _) (ihk (i+1) r.2 (by omega) hr.1 hr.2.1)
  refine kY (dd (cS (f:=λ n m=>bA (bY n) x level m (before+1) 0) (loop x.fItems.length 0 (before+1) (by omega) (by omega) (by omega))) (λ s hs=>?_))
  cases s with
  | inl y=>exact ac ⟨hs.1,hs.2,λ _=>hr h0⟩
  | inr y=>exact ⟨hs.1,hs.2.1,λ k=>absurd k hs.2.2⟩
theorem qQ {v:ab}(hb:ab.Bd v):Ev2 (λ n _=>dM n v) (λ r=>r=0→qj v):=by
 simp only [dM]
 exact bj _ (rm hb 1 0 (by decide) (by decide) (by decide) (by decide)) (λ r hr=>ac hr.2.2)
def nH (s:Bytes):Prop:=aV s=true∧resB s=false
def sO (e:aa):Prop:=bc e=some true∧(e.fKind=1→qj e.fValue) ∧
 (e.fKind≠1→(ax e.fKind=some true→aV e.fName=true∧(e.fKind≠4→resB e.fName=false))∧(e.fKey≠[]→nH e.fKey))
inductive fY:aa→Prop where
 | mk {e:aa} (h:sO e) (kids:∀ x∈e.fKids,fY x):fY e
theorem sT (s:Bytes):Ev2 (λ n _=>eJ n s) (λ r=>r=true→nH s):=by
 simp only [eJ]
 refine bj (λ r=>r=true→nH s) ?_ (λ r hr=>ac hr)
 refine bj _ (kI s) (λ r hr=>?_)
 refine aB (λ h=>?_) (λ _=>ac (by simp))
 refine bj _ (aP (vt s) rfl) (λ q hq=>ac (λ h1=>⟨by rw [← hr]; exact h,?_⟩))
 subst hq
 simpa using h1
theorem sI {e:aa}(hb:aa.Bd e):Ev2 (λ n _=>ed n e) (λ r=>r=0→sO e):=by
 simp only [ed]
 refine bj _ (nF (sN e)) (λ r1 h1=>?_)
 refine aB (λ _=>ac (by simp)) (λ h2=>?_)
 have h2:r1=true:=by simpa using h2
 subst h2
 refine aB (λ h3=>bj _ (qQ hb.bValue) (λ r hr=>ac (λ h=>⟨h1,λ _=>hr h,λ k=>absurd h3 k⟩))) (λ h3=>?_)
 refine bj (λ t=>t=false→ax e.fKind=some true→aV e.fName=true∧(e.fKind≠4→resB e.fName=false)) ?_ (λ t ht=>?_)
 ·refine bj _ (nF (gP _)) (λ q hq=>?_)
  refine aB (λ h4=>?_) (λ h4=>ac (λ _ k=>absurd (Option.some.inj (hq.symm.trans k)) h4))
  refine bj _ (kI _) (λ q2 hq2=>?_)
  subst hq2
  refine aB (λ _=>ac (by simp)) (λ h5=>?_)
  have h5:aV e.fName=true:=by simpa using h5
  refine aB (λ h6=>ac (λ _ _=>⟨h5,λ k=>absurd h6 k⟩)) (λ _=>?_)
  exact bj _ (aP (vt _) rfl) (λ q3 hq3=>ac (λ k _=>⟨h5,λ _=>hq3 ▸ k⟩))
 ·refine aB (λ _=>ac (by simp)) (λ h4=>?_)
  have h4:t=false:=by simpa using h4
  refine bj (λ t=>t=false→e.fKey≠[]→nH e.fKey) ?_ (λ u hu=>?_)
  ·refine aB (λ h=>ac (λ _ k=>absurd h k)) (λ _=>?_)
   exact bj _ (sT _) (λ q hq=>ac (λ k _=>hq (by simpa using k)))
  ·refine aB (λ _=>ac (by simp)) (λ h5=>ac (λ _=>⟨h1,λ k=>absurd k h3,λ _=>⟨ht h4,hu (by simpa using h5)⟩⟩))
theorem ru {e:aa}(hb:aa.Bd e):∀ (level before:Int),0≤level→level≤33→0≤before→before≤4096 →
  Ev2 (λ n _=>br n e level before) (λ r=>0≤r.2∧r.2≤4096∧(r.1=0→fY e)):=by
 induction hb with
 | @mk x bKind bOp bName bKey bValue bKids eKids bAt ih =>
  intro level before h1 h2 h3 h4
  have hb:aa.Bd x:=.mk bKind bOp bName bKey bValue bKids eKids bAt
  have hl:=bKids
  unfold cW at hl
  refine bM ?_
  simp only [br]
  refine aB (λ _=>ac ⟨by decide,by decide,by simp⟩) (λ h=>?_)
  refine aB (λ _=>ac ⟨by decide,by decide,by simp⟩) (λ h5=>?_)
  refine bj _ (sI hb) (λ r hr=>?_)
  refine ap (bq (by omega) (by omega)) ?_
  have loop:∀ (k i:Nat) (c b:Int),i+k=x.fKids.length→0≤b→b≤4096→Ev2 (λ n m=>aS (br n) x level m c b (i:Int)) (λ s=>0≤s.2∧s.2≤4096∧(s.1=0→c=0∧∀ y∈x.fKids.drop i,fY y)):=by
   intro k
   induction k with
   | zero =>
    intro i c b hi h6 h7
    refine aW ?_
    simp only [aS]
    refine ao false (ai (by omega) (ac rfl)) (ai (by simp) (ac ⟨h6,h7,λ h=>⟨h,λ y hy=>?_⟩⟩))
    rw [List.drop_eq_nil_of_le (by omega)] at hy; cases hy
   | succ k ihk =>
    intro i c b hi h6 h7
    refine aW ?_
    simp only [aS]
    refine ao (decide (c=0)) (aT (by omega) (ac rfl)) (aB (λ h8=>?_) (λ h8=>ac ⟨h6,h7,λ h=>absurd (by simpa using h) h8⟩))
    have h8:c=0:=by simpa using h8
    refine ap (by omega) (ap (bq (by omega) (by omega)) ?_)
    refine bj _ (ih _ (dX (by omega)) (level+1) b (by omega) (by omega) h6 h7) (λ q hq=>?_)
    refine ap (bq (by omega) (by omega)) ?_
    refine dd (d4 (P:=λ j=>Ev2 (λ n m=>aS (br n) x level m q.1 q.2 j) _) (ihk (i+1) q.1 q.2 (by omega) hq.1 hq.2.1)) (λ s hs=>⟨hs.1,hs.2.1,λ h=>⟨h8,λ y hy=>?_⟩⟩)
    obtain ⟨k1,k2⟩:=hs.2.2 h
    rw [d8 _ (by omega)] at hy
    rcases List.mem_cons.1 hy with rfl | hy
    ·exact hq.2.2 k1
    ·exact k2 y hy
  refine bj _ (cS (f:=λ n m=>aS (br n) x level m r (before+1) 0) (loop x.fKids.length 0 r (before+1) (by omega) (by omega) (by omega))) (λ s hs=>ac ⟨hs.1,hs.2.1,λ h=>?_⟩)
  obtain ⟨k1,k2⟩:=hs.2.2 h
  exact .mk (hr k1) (by simpa using k2)
theorem re {e:aa}(hb:aa.Bd e):Ev2 (λ n _=>dz n e) (λ r=>r=0→fY e):=by
 simp only [dz]
 exact bj _ (ru hb 1 0 (by decide) (by decide) (by decide) (by decide)) (λ r hr=>ac hr.2.2)
mutual
def nodesE:aa→Nat
 | .mk _ _ _ _ _ kids _=>1+nodesL kids
def nodesL:List aa→Nat
 | []=>0
 | x::r=>nodesE x+nodesL r
end
theorem nodesE_eq (e:aa):nodesE e=1+nodesL e.fKids:=by cases e; simp only [nodesE,aa.fKids]
theorem sP {e:aa}(hb:aa.Bd e):∀ (nodes levels:Int),0≤nodes→nodes≤1000000→-1000000≤levels→levels≤1000000 →
  Ev2 (λ n _=>db n e nodes levels) (λ r=>-1≤r∧r≤nodes∧(0≤r→r=nodes - (nodesE e:Int))):=by
 induction hb with
 | @mk x bKind bOp bName bKey bValue bKids eKids bAt ih =>
  intro nodes levels h1 h2 h3 h4
  have hl:=bKids
  unfold cW at hl
  refine bM ?_
  simp only [db]
  refine aB (λ _=>ac ⟨by omega,by omega,by omega⟩) (λ h=>?_)
  refine ap (bq (by omega) (by omega)) ?_
  have loop:∀ (k i:Nat) (c:Int),i+k=x.fKids.length→-1≤c→c≤1000000→Ev2 (λ n m=>cj (db n) x levels m c (i:Int)) (λ s=>-1≤s∧s≤c∧(0≤s→s=c - (nodesL (x.fKids.drop i):Int))):=by
   intro k
   induction k with
   | zero =>
    intro i c hi h6 h7
    refine aW ?_
    simp only [cj]
    refine ao false (ai (by omega) (ac rfl)) (ai (by simp) (ac ⟨h6,by omega,λ _=>?_⟩))
    rw [List.drop_eq_nil_of_le (by omega)]; simp [nodesL]
   | succ k ihk =>
    intro i c hi h6 h7
    refine aW ?_
    simp only [cj]
    refine ao (decide (0≤c)) (aT (by omega) (ac rfl)) (aB (λ h8=>?_) (λ h8=>ac ⟨h6,by omega,λ h=>absurd (by simpa using h) h8⟩))
    have h8:0≤c:=by simpa using h8
    refine ap (by omega) (ap (bq (by omega) (by omega)) ?_)
    refine bj _ (ih _ (dX (by omega)) c (levels - 1) h8 h7 (by omega) (by omega)) (λ q hq=>?_)
    refine ap (bq (by omega) (by omega)) ?_
    refine dd (d4 (P:=λ j=>Ev2 (λ n m=>cj (db n) x levels m q j) _) (ihk (i+1) q (by omega) hq.1 (by omega))) (λ s hs=>⟨hs.1,by omega,λ h=>?_⟩)
    rw [d8 _ (by omega)]
    have a1:=hs.2.2 h
    have a2:=hq.2.2 (by omega)
    simp only [nodesL]
    omega
  refine bj _ (cS (f:=λ n m=>cj (db n) x levels m (nodes - 1) 0) (loop x.fKids.length 0 (nodes - 1) (by omega) (by omega) (by omega))) (λ s hs=>ac ⟨hs.1,by omega,λ h=>?_⟩)
  have:=hs.2.2 h
  rw [nodesE_eq]
  simp only [List.drop_zero] at this
  omega
theorem rk {e:aa}(hb:aa.Bd e)(nodes:Int)(h1:0≤nodes)(h2:nodes≤1000000):Ev2 (λ n _=>fg n e nodes) (λ r=>r=true→(nodesE e:Int)≤nodes):=by
 simp only [fg]
 refine bj _ (sP hb nodes 40 h1 h2 (by decide) (by decide)) (λ r hr=>ac (λ h=>?_))
 have h:0≤r:=by simpa using h
 have:=hr.2.2 h
 omega
end Go.Ab.R06
end
section
namespace Go.Ab.R06.U
open Go.Ab.R06
open Go.Ab Go.Ab.RB Go.Lib
theorem rnvalid (v:Int):cP v=some (decide (-eN≤v∧v≤eN)):=by
 unfold cP eN
 by_cases h:-9007199254740992≤v <;> simp [h]
theorem ckT {α:Type}(x:Option α):ck True x=x:=bL trivial
theorem zero_eq (v:ab)(h:v.fItems.length+v.fKeys.length≤1000000000000000):expr_zero v=cF v:=by
 unfold expr_zero cF
 by_cases h1:v.fKind=0
 ·by_cases h2:v.fNum=0
  ·by_cases h3:v.fStr=[]
   ·simp only [if_pos h1,if_pos h2,if_pos h3]
    rw [bL (bq (by omega) (by omega))]
    by_cases h4:(v.fItems.length:Int)=0
    ·rw [if_pos h4]
     simp only [Option.bind_some,Option.some.injEq,decide_eq_decide]; omega
    ·rw [if_neg h4]
     simp only [Option.bind_some,Option.some.injEq,decide_eq_false_iff_not]; omega
   ·simp only [if_pos h1,if_pos h2,if_neg h3]
  ·simp only [if_pos h1,if_neg h2]
 ·simp only [if_neg h1]
theorem z_tot (v:ab):∃ b,cF v=some b:=by
 unfold cF
 repeat' split
 all_goals exact ⟨_,rfl⟩
theorem shaped_eq (e:aa)(h:e.fValue.fItems.length+e.fValue.fKeys.length≤1000000000000000):expr_shaped e=bc e:=by
 obtain ⟨z,hz⟩:=z_tot e.fValue
 have hz':=(zero_eq e.fValue h).trans hz
 unfold expr_shaped bc expr_operator
 rw [hz,hz']
 clear hz hz' h
 have hk0:0≤(e.fKids.length:Int):=by omega
 have hp:(e.fKids.length:Int).tmod 2=0∨(e.fKids.length:Int).tmod 2=1:=by
  have:=Int.emod_two_eq (e.fKids.length:Int)
  rwa [Int.tmod_eq_emod_of_nonneg hk0]
 generalize (e.fKids.length:Int)=m at hk0 hp ⊢
 generalize e.fKind=k
 generalize e.fOp=op
 generalize e.fValue.fKind=vk
 generalize e.fValue.fNum=vn
 generalize e.fName=name
 generalize e.fKey=key
 by_cases hr:k < 1∨13 < k
 ·have e2:bW k m=some false:=by
   unfold bW
   simp only [show ¬ k=1 by omega,show ¬ k=2 by omega,show ¬ k=3 by omega,show ¬ k=4 by omega,show ¬ k=5 by omega,show ¬ k=6 by omega,show ¬ k=7 by omega,show ¬ k=8 by omega,show ¬ k=9 by omega,show ¬ k=10 by omega,show ¬ k=11 by omega,show ¬ k=12 by omega,show ¬ k=13 by omega,if_false,decide_false,Option.bind_some,Bool.false_eq_true]
  rw [e2]
  by_cases q:k < 1
  ·rw [if_pos q]; rfl
  ·rw [if_neg q,if_pos (by omega)]; rfl
 ·have hk:k=1∨k=2∨k=3∨k=4∨k=5∨k=6∨k=7∨k=8∨k=9∨k=10∨k=11∨k=12∨k=13:=by omega
  unfold expr_named expr_loop expr_kids bW aF ax
  unfold aF
  by_cases hn:name=[] <;> by_cases hke:key=[] <;> cases z <;> rcases hp with hp | hp
  all_goals (rcases hk with rfl | rfl | rfl | rfl | rfl | rfl | rfl | rfl | rfl | rfl | rfl | rfl | rfl)
  all_goals (simp [hn,hke,hp,ckT]; try done)
  all_goals (repeat' split)
  all_goals (try (simp_all; done))
  all_goals (try omega)
  all_goals (try simp_all)
  all_goals (repeat' split)
  all_goals (try (simp_all; done))
  all_goals (try omega)
theorem rres_ev (s:Bytes):bJ s=some (resB s):=by
 unfold bJ resB resL
 simp only [List.any_cons,List.any_nil,Bool.or_false]
 by_cases h1:s=[110,117,108,108]
 ·simp [h1]
 by_cases h2:s=[116,114,117,101]
 ·simp [h2]
 by_cases h3:s=[102,97,108,115,101]
 ·simp [h3]
 by_cases h4:s=[102,111,114]
 ·simp [h4]
 by_cases h5:s=[105,110]
 ·simp [h5]
 by_cases h6:s=[105,102]
 ·simp [h6]
 simp [h1,h2,h3,h4,h5,h6]
def BadV (v:ab):Prop:=v.fKind=1∧v.fNum≠0∧v.fNum≠1∨v.fKind≠1∧v.fKind≠2∧v.fNum≠0∨v.fKind≠3∧v.fStr≠[]∨v.fItems≠[]∨v.fKeys≠[]
theorem len_pos {α:Type}(l:List α):(0 < (l.length:Int))↔l≠[]:=by rw [← List.length_pos_iff]; omega
theorem len_zero {α:Type}(l:List α):((l.length:Int)=0)↔l=[]:=by rw [← List.length_eq_zero_iff]; omega
theorem vshaped_r (v:ab)(h0:0≤v.fKind)(h3:v.fKind≤3):∃ b,dr v=some b∧(b=true↔¬ BadV v):=by
 unfold dr BadV
 have hk:v.fKind=0∨v.fKind=1∨v.fKind=2∨v.fKind=3:=by omega
 clear h0 h3
 rcases hk with h | h | h | h <;> by_cases a:v.fNum=0 <;> by_cases b:v.fNum=1 <;> by_cases c:v.fStr=[] <;> by_cases d:v.fItems=[] <;> by_cases e:v.fKeys=[] <;> simp [h,a,b,c,d,e]
theorem valC_bad {v:ab}(h:BadV v):valC v=1:=if_pos h
theorem valC_good {v:ab}(h:¬ BadV v):valC v=if v.fKind=2∧¬ (-eN≤v.fNum∧v.fNum≤eN) then 5 else if v.fKind=3∧4096 < v.fStr.length then 3 else if v.fKind=3∧validD v.fStr=false then 1 else 0:=if_neg h
def txtC (s:Bytes):Int:=if 4096 < s.length then 3 else if validD s=false then 1 else 0
theorem text_r (s:Bytes):Ev2 (λ n _=>dD n s) (·=txtC s):=by
 simp only [dD]
 unfold txtC
 refine aB (λ h=>ac (by rw [if_pos (by omega)])) (λ h=>?_)
 rw [if_neg (show ¬ 4096 < s.length by omega)]
 refine ao _ (mH s (by omega)) ?_
 have:decide (s.length≤4096)=true:=by rw [decide_eq_true_eq]; omega
 rw [this,Bool.true_and]
 cases validD s with
 | true=>exact ai (by decide) (ac rfl)
 | false=>exact aT (by decide) (ac rfl)
theorem txt_nil:txtC []=0:=by unfold txtC; rw [if_neg (by decide)]; rfl
theorem vnode_r (v:ab)(h0:0≤v.fKind)(h3:v.fKind≤3):Ev2 (λ n _=>ee n v) (·=valC v):=by
 obtain ⟨b,hb,hi⟩:=vshaped_r v h0 h3
 simp only [ee]
 refine ao _ (aP hb rfl) (aB (λ h=>ac ?_) (λ h=>?_))
 ·have:BadV v:=Classical.byContradiction λ k=>by rw [hi.2 k] at h; simp at h
  rw [valC_bad this]
 ·have hg:¬ BadV v:=hi.1 (by simpa using h)
  rw [valC_good hg]
  have nv:cP v.fNum=some (decide (-eN≤v.fNum∧v.fNum≤eN)):=rnvalid v.fNum
  have tail:v.fKeys=[]:=by unfold BadV at hg; simp only [not_or] at hg; exact Classical.not_not.1 hg.2.2.2.2
  have str:v.fKind≠3→v.fStr=[]:=λ k=>by unfold BadV at hg; simp only [not_or] at hg; exact Classical.byContradiction λ q=>hg.2.2.1 ⟨k,q⟩
  have last:Ev2 (λ n _=>(dD n v.fStr).bind λ r9=>if r9=0 then jn (bC n v n 0) λ _=>some 0 else some r9) (·=txtC v.fStr):=by
   refine ao _ (text_r _) (aB (λ h=>?_) (λ h=>ac rfl))
   refine nu () (cS (f:=λ n m=>bC n v m 0) (aW ?_)) (ac h.symm)
   simp only [bC]
   exact ai (by rw [tail]; decide) (ac rfl)
  by_cases h2:v.fKind=2
  ·simp only [h2,if_true,true_and]
   refine ao (!decide (-eN≤v.fNum∧v.fNum≤eN)) (ao _ (aP nv rfl) (ac rfl)) (aB (λ h=>ac ?_) (λ h=>?_))
   ·rw [if_pos (λ k=>by rw [decide_eq_true k] at h; exact absurd h (by decide))]
   ·rw [if_neg (show ¬ ¬ (-eN≤v.fNum∧v.fNum≤eN) from λ k=>h (by rw [decide_eq_false k]; rfl)),if_neg (by omega),if_neg (by omega)]
    rw [str (by omega),txt_nil] at last
    rw [str (by omega)]
    exact last
  ·refine ao false (ai h2 (ac rfl)) (ai (by decide) ?_)
   rw [if_neg (by omega)]
   by_cases h5:v.fKind=3
   ·simp only [h5,true_and]; exact last
   ·rw [if_neg (by omega),if_neg (by omega)]
    rw [str h5,txt_nil] at last
    rw [str h5]
    exact last
theorem valC_items {v:ab}(h:valC v=0):v.fItems=[]:=by
 have hg:¬ BadV v:=λ k=>by rw [valC_bad k] at h; cases h
 unfold BadV at hg; simp only [not_or] at hg; exact Classical.not_not.1 hg.2.2.2.1
theorem vCheck_r (v:ab)(h0:0≤v.fKind)(h3:v.fKind≤3):Ev2 (λ n _=>dM n v) (·=valC v):=by
 simp only [dM]
 refine bj (λ r=>r.1=valC v) (bM ?_) (λ r hr=>ac hr)
 simp only [bY]
 refine ai (by decide) (ai (by decide) (ao _ (vnode_r v h0 h3) (aB (λ h=>ap (by decide) ?_) (λ h=>ac rfl))))
 refine nu 1 (cS (f:=λ n m=>bA (bY n) v 1 m (0+1) 0) (aW ?_)) (ac h.symm)
 simp only [bA]
 exact ai (by rw [valC_items h]; decide) (ac rfl)
theorem named_r (k:Int):ax k=some (decide (k=3∨k=4∨k=9∨k=12∨k=13)):=by
 unfold ax aF
 by_cases a:k=3
 ·simp [a]
 by_cases b:k=4
 ·simp [b]
 by_cases c:k=9
 ·simp [c]
 by_cases d:k=12
 ·simp [d]
 simp [a,b,c,d]
theorem shaped_tot (e:aa):∃ r,bc e=some r:=by unfold bc; repeat' (first | exact ⟨_,rfl⟩ | exact ik _ | exact ⟨_,named_r _⟩ | exact jN _ _ | exact z_tot _ | refine fx ?_ (λ _=>?_) | refine gh (λ _=>?_) (λ _=>?_) | refine jg (by decide) ?_)
theorem vsz_bd {v:ab}(hb:ab.Bd v):VSz v:=by
 induction hb with
 | @mk x bKind bNum bStr bItems eItems bKeys eKeys ih =>
  have h1:=bItems
  have h2:=bKeys
  unfold cW at h1 h2
  exact .mk (by omega) ih
theorem sz_bd {e:aa}(hb:aa.Bd e):Sz e:=by
 induction hb with
 | @mk x bKind bOp bName bKey bValue bKids eKids bAt ih =>
  unfold cW at bName bKey bKids
  exact .mk (by omega) (by omega) (vsz_bd bValue) (by omega) ih
theorem shaped_r {e:aa}(hb:Sz e):bc e=some (shpE e):=by
 have h:=shaped_eq e hb.v
 obtain ⟨r,hr⟩:=shaped_tot e
 unfold shpE
 rw [h,hr]; rfl
theorem shpE_lit {e:aa}(hb:Sz e)(h:shpE e=true)(hk:e.fKind=1):0≤e.fValue.fKind∧e.fValue.fKind≤3:=by
 have h1:=shaped_r hb
 rw [h] at h1
 unfold bc at h1
 generalize (Option.bind (bW e.fKind (e.fKids.length:Int)) _:Option Bool)=o at h1
 cases o with
 | none=>cases h1
 | some t =>
  cases t with
  | true=>cases h1
  | false =>
   simp only [Option.bind_some,Bool.false_eq_true,if_false,hk,if_true] at h1
   by_cases a:e.fOp=0
   ·by_cases b:e.fValue.fKind=0
    ·omega
    ·by_cases c:e.fValue.fKind=1
     ·omega
     ·by_cases d:e.fValue.fKind=3
      ·omega
      ·by_cases f:e.fValue.fKind=2
       ·omega
       ·simp [a,b,c,d,f] at h1
   ·simp [a] at h1
theorem node_r {e:aa}(hb:Sz e):Ev2 (λ n _=>ed n e) (·=nodeC e):=by
 have b1:=hb.n
 have b2:=hb.k
 simp only [ed]
 unfold nodeC
 refine ao _ (aP (shaped_r hb) rfl) (aB (λ h=>ac (by rw [if_pos (by simpa using h)])) (λ h=>?_))
 have h:shpE e=true:=by simpa using h
 rw [if_neg (show ¬ shpE e=false by rw [h]; decide)]
 refine aB (λ hk=>?_) (λ hk=>?_)
 ·rw [if_pos hk]
  exact ao _ (vCheck_r _ (shpE_lit hb h hk).1 (shpE_lit hb h hk).2) (ac rfl)
 rw [if_neg hk]
 refine ao (decide ((e.fKind=3∨e.fKind=4∨e.fKind=9∨e.fKind=12∨e.fKind=13)∧(aV e.fName=false∨e.fKind≠4∧resB e.fName=true))) ?_ ?_
 ·refine ao _ (aP (named_r _) rfl) (aB (λ hn=>?_) (λ hn=>ac ?_))
  ·have hn:=of_decide_eq_true hn
   rw [show decide ((e.fKind=3∨e.fKind=4∨e.fKind=9∨e.fKind=12∨e.fKind=13)∧(aV e.fName=false∨e.fKind≠4∧resB e.fName=true))=decide (aV e.fName=false∨e.fKind≠4∧resB e.fName=true) by simp only [hn,true_and]]
   refine ao _ (kI _) (aB (λ hi=>ac ?_) (λ hi=>aB (λ h4=>ac ?_) (λ h4=>ao _ (aP (rres_ev _) rfl) (ac ?_))))
   ·have hi:aV e.fName=false:=by simpa using hi
    simp [hi]
   ·have hi:aV e.fName=true:=by simpa using hi
    simp [hi,h4]
   ·have hi:aV e.fName=true:=by simpa using hi
    simp [hi,h4]
  ·have hn:¬ (e.fKind=3∨e.fKind=4∨e.fKind=9∨e.fKind=12∨e.fKind=13):=λ k=>hn (decide_eq_true k)
   simp only [hn,false_and,decide_false]
 ·refine aB (λ hq=>ac (by rw [if_pos (of_decide_eq_true hq)])) (λ hq=>?_)
  rw [if_neg (λ k=>hq (decide_eq_true k))]
  refine ao (decide (e.fKey≠[]∧(aV e.fKey=false∨resB e.fKey=true))) ?_ ?_
  ·refine aB (λ hk=>ac (by simp [hk])) (λ hk=>?_)
   simp only [eJ]
   refine ao (aV e.fKey&&!resB e.fKey) ?_ (ac ?_)
   ·refine ao (aV e.fKey&&!resB e.fKey) (ao _ (kI _) (aB (λ hi=>ao _ (aP (rres_ev _) rfl) (ac ?_)) (λ hi=>ac ?_))) (ac rfl)
    ·rw [hi]; rfl
    ·have hi:aV e.fKey=false:=by simpa using hi
     rw [hi]; rfl
   ·cases aV e.fKey <;> cases resB e.fKey <;> simp [hk]
  ·refine aB (λ hq=>ac (by rw [if_pos (of_decide_eq_true hq)])) (λ hq=>ac ?_)
   rw [if_neg (λ k=>hq (decide_eq_true k))]
theorem vis_r {e:aa}(hb:Sz e):∀ (c lv:Nat) (ci li:Int),ci=c→li=lv→c≤4096→lv≤33 →
  Ev2 (λ n _=>br n e li ci) (λ r=>r.1=(visE c lv e).1∧(r.1=0→r.2=(((visE c lv e).2:Nat):Int))∧(visE c lv e).2≤4096):=by
 induction hb with
 | @mk x sn sk sv hs skids ih =>
  intro c lv ci li hc hl h1 h2
  have hb:Sz x:=.mk sn sk sv hs skids
  refine bM ?_
  simp only [br]
  rw [visE_eq]
  refine aB (λ h=>?_) (λ h=>?_)
  ·rw [if_pos (by omega)]; exact ac ⟨rfl,by simp,h1⟩
  rw [if_neg (show ¬ 32 < lv by omega)]
  refine aB (λ h5=>?_) (λ h5=>?_)
  ·rw [if_pos (by omega)]; exact ac ⟨rfl,by simp,h1⟩
  rw [if_neg (show ¬ 4096≤c by omega)]
  refine ao _ (node_r hb) ?_
  refine ap (bq (by omega) (by omega)) ?_
  have stop:∀ (i ci kk:Int),kk≠0→Ev2 (λ n m=>aS (br n) x li m kk ci i) (·=(kk,ci)):=by
   intro i ci kk hk
   refine aW ?_
   simp only [aS]
   refine ao false (aB (λ _=>ac (by simpa using hk)) (λ _=>ac rfl)) (ai (by decide) (ac rfl))
  by_cases h0:nodeC x=0
  ·rw [if_pos h0,h0]
   have loop:∀ (k i c:Nat) (ci:Int),i+k=x.fKids.length→ci=c→c≤4096→Ev2 (λ n m=>aS (br n) x li m 0 ci (i:Int)) (λ s=>(visL c (lv+1) (x.fKids.drop i)).2≤4096∧s.1=(visL c (lv+1) (x.fKids.drop i)).1∧(s.1=0→s.2=(((visL c (lv+1) (x.fKids.drop i)).2:Nat):Int))):=by
    intro k
    induction k with
    | zero =>
     intro i c ci hi hc h6
     refine aW ?_
     simp only [aS]
     rw [List.drop_eq_nil_of_le (by omega)]
     refine ao false (ai (by omega) (ac rfl)) (ai (by decide) (ac ⟨by rw [visL]; exact h6,by rw [visL],λ _=>by rw [visL]; exact hc⟩))
    | succ k ihk =>
     intro i c ci hi hc h6
     refine aW ?_
     simp only [aS]
     rw [d8 _ (show i < x.fKids.length by omega),visL_cons]
     refine ao true (aT (by omega) (ac rfl)) (aT rfl (ap (by omega) (ap (bq (by omega) (by omega)) ?_)))
     refine bj _ (ih _ (dX (by omega)) c (lv+1) ci (li+1) hc (by omega) h6 (by omega)) ?_
     rintro ⟨r1,r2⟩ ⟨q1,q2,q3⟩
     simp only at q1 q2
     refine ap (bq (by omega) (by omega)) ?_
     by_cases h8:r1=0
     ·subst h8
      have q2:=q2 rfl
      simp only [if_pos q1.symm]
      subst q2
      exact d4 (P:=λ j=>Ev2 (λ n m=>aS (br n) x li m 0 _ j) _) (ihk (i+1) _ _ (by omega) rfl q3)
     ·simp only [if_neg (show ¬ (visE c (lv+1) (lat x.fKids (i:Int))).1=0 by rw [← q1]; exact h8)]
      exact dd (stop _ _ _ h8) (λ s hs=>by subst hs; exact ⟨q3,q1,λ k=>absurd k h8⟩)
   refine bj _ (cS (f:=λ n m=>aS (br n) x li m 0 (ci+1) 0) (loop x.fKids.length 0 (c+1) (ci+1) (by omega) (by omega) (by omega))) ?_
   rintro s ⟨s1,s2,s3⟩
   simp only [List.drop_zero] at s1 s2 s3
   exact ac ⟨s2,s3,s1⟩
  ·rw [if_neg h0]
   exact bj _ (cS (f:=λ n m=>aS (br n) x li m (nodeC x) (ci+1) 0) (stop _ _ _ h0)) (λ s hs=>by subst hs; exact ac ⟨rfl,λ k=>absurd k h0,by omega⟩)
theorem check_r {e:aa}(hb:Sz e):Ev2 (λ n _=>dz n e) (·=chk e):=by
 simp only [dz]
 exact bj _ (vis_r hb 0 1 0 1 rfl rfl (by decide) (by decide)) (λ r hr=>ac hr.1)
theorem kids_facts {k n:Int}(h:bW k n=some true):(k=1∧n=0)∨(k=2∧1≤n)∨(k=3∧n=0)∨(k=4∧n=1)∨(k=5∧n=2)∨(k=6∧n=1)∨(k=7∧n=2)∨(k=8∧n=3)∨k=9∨k=10∨(k=11∧n.tmod 2=0)∨(k=12∧(n=2∨n=3))∨(k=13∧(n=3∨n=4)):=by
 unfold bW ck at h
 by_cases h1:k=1
 ·subst h1; simp at h; exact .inl ⟨rfl,h⟩
 by_cases h2:k=2
 ·subst h2; simp at h; exact .inr (.inl ⟨rfl,h⟩)
 by_cases h3:k=3
 ·subst h3; simp at h; omega
 by_cases h4:k=4
 ·subst h4; simp at h; omega
 by_cases h5:k=5
 ·subst h5; simp at h; omega
 by_cases h6:k=6
 ·subst h6; simp at h; omega
 by_cases h7:k=7
 ·subst h7; simp at h; omega
 by_cases h8:k=8
 ·subst h8; simp at h; omega
 by_cases h9:k=9
 ·subst h9; simp
 by_cases h10:k=10
 ·subst h10; simp
 by_cases h11:k=11
 ·subst h11; simp at h; simp [h]
 by_cases h12:k=12
 ·subst h12
  by_cases q:n=2
  ·subst q; simp
  ·simp [q] at h; omega
 by_cases h13:k=13
 ·subst h13
  by_cases q:n=3
  ·subst q; simp
  ·simp [q] at h; omega
 simp [h1,h2,h3,h4,h5,h6,h7,h8,h9,h10,h11,h12,h13] at h
theorem zero_fact {v:ab}(h:cF v=some true):v=v0:=by
 obtain ⟨k,n,s,l,y⟩:=v
 unfold cF at h
 simp only [ab.fKind,ab.fNum,ab.fStr,ab.fItems,ab.fKeys] at h
 by_cases h1:k=0 <;> by_cases h2:n=0 <;> by_cases h3:s=[] <;> by_cases h4:l=[] <;> by_cases h5:y=[] <;> simp [h1,h2,h3,h4,h5] at h
 subst h1 h2 h3 h4 h5
 rfl
theorem zero_tot (v:ab):∃ b,cF v=some b:=by
 unfold cF
 repeat' split
 all_goals exact ⟨_,rfl⟩
theorem len1 {α:Type}{l:List α}(h:(l.length:Int)=1):∃ x,l=[x]:=by
 match l,h with
 | [x],_=>exact ⟨x,rfl⟩
 | [],h=>simp at h
 | _::_::_,h=>simp only [List.length_cons] at h; omega
theorem len2 {α:Type}{l:List α}(h:(l.length:Int)=2):∃ x y,l=[x,y]:=by
 match l,h with
 | [x,y],_=>exact ⟨x,y,rfl⟩
 | [],h=>simp at h
 | [_],h=>simp at h
 | _::_::_::_,h=>simp only [List.length_cons] at h; omega
theorem len3 {α:Type}{l:List α}(h:(l.length:Int)=3):∃ x y z,l=[x,y,z]:=by
 match l,h with
 | [x,y,z],_=>exact ⟨x,y,z,rfl⟩
 | [],h=>simp at h
 | [_],h=>simp at h
 | [_,_],h=>simp at h
 | _::_::_::_::_,h=>simp only [List.length_cons] at h; omega
theorem len4 {α:Type}{l:List α}(h:(l.length:Int)=4):∃ x y z w,l=[x,y,z,w]:=by
 match l,h with
 | [x,y,z,w],_=>exact ⟨x,y,z,w,rfl⟩
 | [],h=>simp at h
 | [_],h=>simp at h
 | [_,_],h=>simp at h
 | [_,_,_],h=>simp at h
 | _::_::_::_::_::_,h=>simp only [List.length_cons] at h; omega
theorem lit_of {v:ab}(hk:v.fKind=0∨v.fKind=1∨v.fKind=2∨v.fKind=3)(hn:v.fKind=2→0≤v.fNum)(h:valC v=0):LitV v:=by
 obtain ⟨k,n,s,l,y⟩:=v
 simp only [ab.fKind,ab.fNum] at hk hn
 have h:(if k=1∧n≠0∧n≠1∨k≠1∧k≠2∧n≠0∨k≠3∧s≠[]∨l≠[]∨y≠[] then (1:Int)
  else if k=2∧¬(-eN≤n∧n≤eN) then 5 else if k=3∧4096 < s.length then 3 else if k=3∧validD s=false then 1 else 0)=0:=h
 by_cases q:k=1∧n≠0∧n≠1∨k≠1∧k≠2∧n≠0∨k≠3∧s≠[]∨l≠[]∨y≠[]
 ·rw [if_pos q] at h; cases h
 rw [if_neg q] at h
 by_cases q2:k=2∧¬(-eN≤n∧n≤eN)
 ·rw [if_pos q2] at h; cases h
 rw [if_neg q2] at h
 by_cases q3:k=3∧4096 < s.length
 ·rw [if_pos q3] at h; cases h
 rw [if_neg q3] at h
 by_cases q4:k=3∧validD s=false
 ·rw [if_pos q4] at h; cases h
 simp only [not_or,not_and,Decidable.not_not] at q
 obtain ⟨p1,p2,p3,p4,p5⟩:=q
 subst p4 p5
 rcases hk with rfl | rfl | rfl | rfl
 ·cases p2 (by omega) (by omega); cases p3 (by omega); exact .null
 ·cases p3 (by omega)
  exact .bool n (by
   by_cases n0:n=0
   ·exact .inl n0
   ·exact .inr (p1 rfl n0))
 ·cases p3 (by omega)
  simp only [true_and,Decidable.not_not] at q2
  exact .num n (hn rfl) q2.2
 ·cases p2 (by omega) (by omega)
  simp only [true_and,Bool.not_eq_false] at q3 q4
  exact .str s q4 (by omega)
theorem shape_of {e:aa}(hb:Sz e)(h:nodeC e=0):Shp e:=by
 have hs:shpE e=true:=by
  unfold nodeC at h
  split at h
  ·cases h
  ·rename_i q; simpa using q
 have h1:=shaped_r hb
 rw [hs] at h1
 unfold nodeC at h
 rw [if_neg (by rw [hs]; decide)] at h
 unfold bc at h1
 obtain ⟨zb,hz⟩:=zero_tot e.fValue
 cases hk:bW e.fKind (e.fKids.length:Int) with
 | none=>rw [hk] at h1; cases h1
 | some kb =>
  cases kb with
  | false=>rw [hk] at h1; simp at h1
  | true =>
   have kf:=kids_facts hk
   rw [hk,hz] at h1
   obtain ⟨k,o,n,y,v,l,a⟩:=e
   simp only [aa.fKind,aa.fOp,aa.fName,aa.fKey,aa.fValue,aa.fKids] at h h1 kf hz
   have hzv:zb=true→v=v0:=λ e=>zero_fact (by rw [hz,e])
   rcases kf with ⟨rfl,hl⟩ | ⟨rfl,hl⟩ | ⟨rfl,hl⟩ | ⟨rfl,hl⟩ | ⟨rfl,hl⟩ | ⟨rfl,hl⟩ | ⟨rfl,hl⟩ | ⟨rfl,hl⟩ | rfl | rfl | ⟨rfl,hl⟩ | ⟨rfl,hl⟩ | ⟨rfl,hl⟩
   · -- literals
    have hl:l=[]:=by simpa using hl
    subst hl
    have h:valC v=0:=by simpa using h
    by_cases ky:y=[]
    ·by_cases nm:n=[]
     ·subst ky nm
      by_cases ho:o=0
      ·subst ho
       refine .lit v a (lit_of ?_ ?_ h)
       ·by_cases q0:v.fKind=0
        ·exact .inl q0
        by_cases q1:v.fKind=1
        ·exact .inr (.inl q1)
        by_cases q3:v.fKind=3
        ·exact .inr (.inr (.inr q3))
        by_cases q2:v.fKind=2
        ·exact .inr (.inr (.inl q2))
        simp [aF,ax,q0,q1,q2,q3] at h1
       ·intro q2
        simp [aF,ax,q2] at h1
        exact of_decide_eq_true h1
      ·simp [aF,ax,ho] at h1
     ·simp [aF,ax,ky,nm] at h1
    ·simp [aF,ax,ky] at h1
   ·have hy:y=[]:=by by_cases q:y=[] <;> first | exact q | (exfalso; simp [aF,ax,q] at h1)
    have hn:n=[]:=by by_cases q:n=[] <;> first | exact q | (exfalso; simp [aF,ax,q,hy] at h1)
    subst hy hn
    simp [aF,ax] at h1
    cases hzv (by cases zb <;> simp at h1 ⊢)
    have ho:o=0:=by cases zb <;> simp at h1 <;> exact of_decide_eq_true h1
    subst ho
    exact .tmpl l a (by rintro rfl; simp at hl)
   ·have hl:l=[]:=by simpa using hl
    have hy:y=[]:=by by_cases q:y=[] <;> first | exact q | (exfalso; simp [aF,ax,q] at h1)
    subst hy hl
    simp [aF,ax] at h1 h
    cases hzv (by cases zb <;> simp at h1 ⊢)
    have ho:o=0:=by cases zb <;> simp at h1 <;> exact of_decide_eq_true h1
    subst ho
    exact .name n a h.1 h.2
   ·obtain ⟨x,rfl⟩:=len1 hl
    have hy:y=[]:=by by_cases q:y=[] <;> first | exact q | (exfalso; simp [aF,ax,q] at h1)
    subst hy
    simp [aF,ax] at h1 h
    cases hzv (by cases zb <;> simp at h1 ⊢)
    have ho:o=0:=by cases zb <;> simp at h1 <;> exact of_decide_eq_true h1
    subst ho
    exact .attr n x a h
   ·obtain ⟨x,z,rfl⟩:=len2 hl
    have hy:y=[]:=by by_cases q:y=[] <;> first | exact q | (exfalso; simp [aF,ax,q] at h1)
    have hn:n=[]:=by by_cases q:n=[] <;> first | exact q | (exfalso; simp [aF,ax,q,hy] at h1)
    subst hy hn
    simp [aF,ax] at h1
    cases hzv (by cases zb <;> simp at h1 ⊢)
    have ho:o=0:=by cases zb <;> simp at h1 <;> exact of_decide_eq_true h1
    subst ho
    exact .idx x z a
   ·obtain ⟨x,rfl⟩:=len1 hl
    have hy:y=[]:=by by_cases q:y=[] <;> first | exact q | (exfalso; simp [aF,ax,q] at h1)
    have hn:n=[]:=by by_cases q:n=[] <;> first | exact q | (exfalso; simp [aF,ax,q,hy] at h1)
    subst hy hn
    simp [aF,ax] at h1
    cases hzv (by cases zb <;> simp at h1 ⊢)
    refine .un o x a ?_
    by_cases o1:o=1
    ·exact .inl o1
    ·cases zb <;> simp [o1] at h1
     exact .inr (of_decide_eq_true h1)
   ·obtain ⟨x,z,rfl⟩:=len2 hl
    have hy:y=[]:=by by_cases q:y=[] <;> first | exact q | (exfalso; simp [aF,ax,q] at h1)
    have hn:n=[]:=by by_cases q:n=[] <;> first | exact q | (exfalso; simp [aF,ax,q,hy] at h1)
    subst hy hn
    simp [aF,ax] at h1
    cases hzv (by cases zb <;> simp at h1 ⊢)
    refine .bin o x z a ?_
    by_cases o1:3≤o
    ·cases zb <;> simp [o1] at h1
     exact ⟨o1,of_decide_eq_true h1⟩
    ·cases zb <;> simp [o1] at h1
   ·obtain ⟨x,z,w,rfl⟩:=len3 hl
    have hy:y=[]:=by by_cases q:y=[] <;> first | exact q | (exfalso; simp [aF,ax,q] at h1)
    have hn:n=[]:=by by_cases q:n=[] <;> first | exact q | (exfalso; simp [aF,ax,q,hy] at h1)
    subst hy hn
    simp [aF,ax] at h1
    cases hzv (by cases zb <;> simp at h1 ⊢)
    have ho:o=0:=by cases zb <;> simp at h1 <;> exact of_decide_eq_true h1
    subst ho
    exact .cond x z w a
   ·have hy:y=[]:=by by_cases q:y=[] <;> first | exact q | (exfalso; simp [aF,ax,q] at h1)
    subst hy
    simp [aF,ax] at h1 h
    cases hzv (by cases zb <;> simp at h1 ⊢)
    have ho:o=0:=by cases zb <;> simp at h1 <;> exact of_decide_eq_true h1
    subst ho
    exact .call n l a h.1 h.2
   ·have hy:y=[]:=by by_cases q:y=[] <;> first | exact q | (exfalso; simp [aF,ax,q] at h1)
    have hn:n=[]:=by by_cases q:n=[] <;> first | exact q | (exfalso; simp [aF,ax,q,hy] at h1)
    subst hy hn
    simp [aF,ax] at h1
    cases hzv (by cases zb <;> simp at h1 ⊢)
    have ho:o=0:=by cases zb <;> simp at h1 <;> exact of_decide_eq_true h1
    subst ho
    exact .list l a
   ·have hy:y=[]:=by by_cases q:y=[] <;> first | exact q | (exfalso; simp [aF,ax,q] at h1)
    have hn:n=[]:=by by_cases q:n=[] <;> first | exact q | (exfalso; simp [aF,ax,q,hy] at h1)
    subst hy hn
    simp [aF,ax] at h1
    cases hzv (by cases zb <;> simp at h1 ⊢)
    have ho:o=0:=by cases zb <;> simp at h1 <;> exact of_decide_eq_true h1
    subst ho
    refine .map l a ?_
    rw [Int.tmod_eq_emod_of_nonneg (by omega)] at hl
    omega
   ·simp [aF,ax] at h1 h
    cases hzv (by cases zb <;> simp at h1 ⊢)
    have ho:o=0:=by cases zb <;> simp at h1 <;> exact of_decide_eq_true h1
    subst ho
    have hi:aV n=true∧resB n=false:=by
     by_cases q:aV n=false∨resB n=true
     ·simp [q] at h
     ·simpa using q
    have hy:y=[]∨aV y=true∧resB y=false:=by
     simp [hi] at h
     by_cases q:¬y=[]∧(aV y=false∨resB y=true)
     ·simp [q] at h
     ·by_cases y0:y=[]
      ·exact .inl y0
      ·simp [y0] at q; exact .inr q
    rcases hl with hl | hl
    ·obtain ⟨x,z,rfl⟩:=len2 hl
     exact .loop false n y x z [] [] a hi.1 hi.2 hy (.inl ⟨rfl,rfl⟩) (.inl rfl)
    ·obtain ⟨x,z,w,rfl⟩:=len3 hl
     exact .loop false n y x z [] [w] a hi.1 hi.2 hy (.inl ⟨rfl,rfl⟩) (.inr ⟨w,rfl⟩)
   ·simp [aF,ax] at h1 h
    cases hzv (by cases zb <;> simp at h1 ⊢)
    have ho:o=0:=by cases zb <;> simp at h1 <;> exact of_decide_eq_true h1
    subst ho
    have hi:aV n=true∧resB n=false:=by
     by_cases q:aV n=false∨resB n=true
     ·simp [q] at h
     ·simpa using q
    have hy:y=[]∨aV y=true∧resB y=false:=by
     simp [hi] at h
     by_cases q:¬y=[]∧(aV y=false∨resB y=true)
     ·simp [q] at h
     ·by_cases y0:y=[]
      ·exact .inl y0
      ·simp [y0] at q; exact .inr q
    rcases hl with hl | hl
    ·obtain ⟨x,z,w,rfl⟩:=len3 hl
     exact .loop true n y x z [w] [] a hi.1 hi.2 hy (.inr ⟨rfl,w,rfl⟩) (.inl rfl)
    ·obtain ⟨x,z,w,u,rfl⟩:=len4 hl
     exact .loop true n y x z [w] [u] a hi.1 hi.2 hy (.inr ⟨rfl,w,rfl⟩) (.inr ⟨u,rfl⟩)
def VM (e:aa):Prop:=∀ c lv,(visE c lv e).1=0→(visE c lv e).2=c+nodesE e∧∀ c' lv',c'≤c→lv'≤lv→(visE c' lv' e).1=0
theorem vml:∀ (l:List aa),(∀ x∈l,VM x)→∀ c lv,(visL c lv l).1=0→(visL c lv l).2=c+nodesL l∧(∀ c' lv',c'≤c→lv'≤lv→(visL c' lv' l).1=0)∧∀ x∈l,∃ d,(visE d lv x).1=0
 | [],_,c,lv,_=>by
  refine ⟨by simp [visL,nodesL],λ c' lv' _ _=>by simp [visL],λ x hx=>by cases hx⟩
 | x::r,h,c,lv,h0=>by
  rw [visL_cons] at h0 ⊢
  have hx:=h x List.mem_cons_self c lv
  by_cases q:(visE c lv x).1=0
  ·rw [if_pos q] at h0 ⊢
   obtain ⟨x1,x2⟩:=hx q
   obtain ⟨r1,r2,r3⟩:=vml r (λ y hy=>h y (List.mem_cons_of_mem _ hy)) _ lv h0
   refine ⟨by rw [r1,x1]; simp only [nodesL]; omega,λ c' lv' h1 h2=>?_,λ y hy=>?_⟩
   ·rw [visL_cons,if_pos (x2 c' lv' h1 h2)]
    have:=(h x List.mem_cons_self c' lv' (x2 c' lv' h1 h2)).1
    exact r2 _ lv' (by rw [this,x1]; omega) h2
   ·rcases List.mem_cons.1 hy with rfl | hy
    ·exact ⟨c,q⟩
    ·exact r3 y hy
  ·rw [if_neg q] at h0; exact absurd h0 q
theorem vis_mono {e:aa}(hb:aa.Bd e):VM e:=by
 induction hb with
 | @mk x bKind bOp bName bKey bValue bKids eKids bAt ih =>
  intro c lv h
  rw [visE_eq] at h ⊢
  by_cases q1:32 < lv
  ·rw [if_pos q1] at h; cases h
  by_cases q2:4096≤c
  ·rw [if_neg q1,if_pos q2] at h; cases h
  by_cases q3:nodeC x=0
  ·rw [if_neg q1,if_neg q2,if_pos q3] at h ⊢
   obtain ⟨l1,l2,-⟩:=vml x.fKids ih _ _ h
   refine ⟨by rw [l1,nodesE_eq]; omega,λ c' lv' h1 h2=>?_⟩
   rw [visE_eq,if_neg (by omega),if_neg (by omega),if_pos q3]
   exact l2 _ _ (by omega) (by omega)
  ·rw [if_neg q1,if_neg q2,if_neg q3] at h; exact absurd h q3
theorem kids_nodes:∀ l:List aa,l.length≤nodesL l
 | []=>Nat.zero_le _
 | x::l=>by
  have:=kids_nodes l; have:=nodesE_pos x
  simp only [nodesL,List.length_cons]; omega
theorem ve_of {e:aa}(hb:aa.Bd e):∀ c lv,1≤lv→nodesE e≤1000→(visE c lv e).1=0→VE lv e:=by
 induction hb with
 | @mk x bKind bOp bName bKey bValue bKids eKids bAt ih =>
  intro c lv h1 hn h
  have hB:aa.Bd x:=.mk bKind bOp bName bKey bValue bKids eKids bAt
  have hc:chk x=0:=(vis_mono hB c lv h).2 0 1 (Nat.zero_le _) h1
  rw [visE_eq] at h
  by_cases q1:32 < lv
  ·rw [if_pos q1] at h; cases h
  by_cases q2:4096≤c
  ·rw [if_neg q1,if_pos q2] at h; cases h
  by_cases q3:nodeC x=0
  ·rw [if_neg q1,if_neg q2,if_pos q3] at h
   obtain ⟨-,-,l3⟩:=vml x.fKids (λ y hy=>vis_mono (eKids y hy)) _ _ h
   rw [nodesE_eq] at hn
   refine .mk (by omega) (shape_of (sz_bd hB) q3) hc (by have:=kids_nodes x.fKids; omega) λ y hy=>?_
   obtain ⟨d,hd⟩:=l3 y hy
   exact ih y hy d (lv+1) (by omega) (by have:=nodes_mem hy; omega) hd
  ·rw [if_neg q1,if_neg q2,if_neg q3] at h; exact absurd h q3
theorem eqv_list {l m:List aa}(hl:m.length=l.length)(h:∀ p∈l.zip m,txtF p.2=txtF p.1):m.map txtF=l.map txtF:=by
 induction l generalizing m with
 | nil =>
  cases m with
  | nil=>rfl
  | cons=>simp at hl
 | cons x l ih =>
  cases m with
  | nil=>simp at hl
  | cons y m =>
   rw [List.map_cons,List.map_cons,h (x,y) (by simp),ih (by simpa using hl) λ p hp=>h p (by rw [List.zip_cons_cons]; exact List.mem_cons_of_mem _ hp)]
def hdE (x:aa):Int×Int×ab:=(x.fKind,x.fOp,x.fValue)
theorem hd_lvX {x y:aa}(h:hdE y=hdE x):lvX y=lvX x:=by
 simp only [hdE,Prod.mk.injEq] at h
 unfold lvX; rw [h.1,h.2.1]
theorem hd_isPl {x y:aa}(h:hdE y=hdE x):isPlF y=isPlF x:=by
 simp only [hdE,Prod.mk.injEq] at h
 unfold isPlF; rw [h.1,h.2.2]
theorem hd_prt {x y:aa}(h:hdE y=hdE x)(n:Nat)(t:Bytes):prt false n y t=prt false n x t:=by unfold prt; rw [hd_lvX h]
theorem hd_key {x y:aa}(h:hdE y=hdE x)(t:Bytes):keyF y t=keyF x t:=by
 simp only [hdE,Prod.mk.injEq] at h
 unfold keyF; rw [h.1,h.2.2]
theorem hd_getD:∀ {l m:List aa} (i:Nat),m.map hdE=l.map hdE→hdE (m.getD i e0)=hdE (l.getD i e0)
 | [],[],_,_=>rfl
 | [],_::_,_,h=>by cases h
 | _::_,[],_,h=>by cases h
 | x::l,y::m,0,h=>by
  simp only [List.map_cons,List.cons.injEq] at h
  exact h.1
 | x::l,y::m,i+1,h=>by
  simp only [List.map_cons,List.cons.injEq] at h
  simpa using hd_getD i h.2
theorem hd_tmF (big:Bool):∀ {l m:List aa} (ts:List Bytes) (b:Bool),m.map hdE=l.map hdE→tmF big (m.zip ts) b=tmF big (l.zip ts) b
 | [],[],_,_,_=>rfl
 | [],_::_,_,_,h=>by cases h
 | _::_,[],_,_,h=>by cases h
 | x::l,y::m,[],_,_=>rfl
 | x::l,y::m,t::ts,b,h=>by
  simp only [List.map_cons,List.cons.injEq] at h
  have hv:y.fValue=x.fValue:=by have:=h.1; simp only [hdE,Prod.mk.injEq] at this; exact this.2.2
  have hlen:m.length=l.length:=by simpa using congrArg List.length h.2
  have he:(m.zip ts).isEmpty=(l.zip ts).isEmpty:=by
   cases m <;> cases l <;> cases ts <;> first | rfl | (simp at hlen)
  simp only [List.zip_cons_cons,tmF]
  rw [hd_isPl h.1,hv,he,hd_tmF big ts true h.2,hd_tmF big ts false h.2]
theorem hd_enF:∀ {l m:List aa} (ts:List Bytes),m.map hdE=l.map hdE→enF m ts=enF l ts
 | [],[],_,_=>rfl
 | [],_::_,_,h=>by cases h
 | _::_,[],_,h=>by cases h
 | [_],[_],ts,_=>by cases ts <;> rfl
 | [_],_::_::_,_,h=>by simp at h
 | _::_::_,[_],_,h=>by simp at h
 | k::x::l,k'::x'::m,ts,h=>by
  simp only [List.map_cons,List.cons.injEq] at h
  have hlen:m.length=l.length:=by simpa using congrArg List.length h.2.2
  match ts with
  | []=>cases l <;> cases m <;> rfl
  | [t]=>cases l <;> cases m <;> rfl
  | t::u::q =>
   have hr:=hd_enF q h.2.2
   cases l with
   | nil =>
    cases m with
    | nil=>cases q <;> simp only [enF,hd_key h.1]
    | cons=>simp at hlen
   | cons a l =>
    cases m with
    | nil=>simp at hlen
    | cons b m=>cases q <;> simp only [enF,hd_key h.1,hr]
theorem cmbF_hd {x y:aa}(k:y.fKind=x.fKind)(o:y.fOp=x.fOp)(n:y.fName=x.fName)(m:y.fKey=x.fKey)(v:y.fValue=x.fValue)(h:y.fKids.map hdE=x.fKids.map hdE)(ts:List Bytes):cmbF y ts=cmbF x ts:=by
 have hlen:y.fKids.length=x.fKids.length:=by simpa using congrArg List.length h
 have hp:∀ a i,pX false a y.fKids ts i=pX false a x.fKids ts i:=λ a i=>hd_prt (hd_getD i h) a _
 have hv:lvX y=lvX x:=by unfold lvX; rw [k,o]
 unfold cmbF lpX
 simp only [k,o,n,m,v,hp,hv,hlen,hd_tmF _ ts false h,hd_enF ts h]
theorem txtF_eqv {x y:aa}(h:EQV x y):txtF y=txtF x:=by
 induction h with
 | mk k o n m v a c l s ih =>
  rw [txtF_eq,txtF_eq,eqv_list l ih]
  refine cmbF_hd k o n m v ?_ _
  rename_i x y
  clear ih c a
  generalize x.fKids=p at l s
  generalize y.fKids=q at l s
  induction p generalizing q with
  | nil =>
   cases q with
   | nil=>rfl
   | cons=>simp at l
  | cons e p ih =>
   cases q with
   | nil=>simp at l
   | cons f q =>
    have h1:=s (e,f) (by simp)
    rw [List.map_cons,List.map_cons,ih q (by simpa using l) λ z hz=>s z (by rw [List.zip_cons_cons]; exact List.mem_cons_of_mem _ hz)]
    cases h1 with
    | mk k o n m v a c l s=>simp only [hdE,k,o,v]
end Go.Ab.R06.U
end
section
namespace Go.Ab.R06
open Go.Ab Go.Ab.RB Go.Lib
theorem aD.Bd.ind {P:aD→Prop}(h:∀ b,aD.Bd b→(∀ k∈b.fBlocks,P k.fBody)→P b):∀ b,aD.Bd b→P b:=λ _b hb =>
 aD.Bd.rec (motive_1:=λ b _=>P b) (motive_2:=λ k _=>P k.fBody) (λ {x} b1 b2 b3 b4 ih=>h x (.mk b1 b2 b3 b4) (λ k hk=>ih k hk)) (λ {_x} _b1 _b2 _b3 _b4 _b5 ih=>ih) hb
def escD:Bytes→Bytes
 | []=>[]
 | b::r=>(if b=36∧r.head? = some 123 then [36,b] else [b])++escD r
abbrev tO:Bytes:=[36,123]
abbrev tN:Bytes:=[36,36,123]
theorem sW (b:UInt8)(r:Bytes):tO.isPrefixOf (b::r)=true↔b=36∧r.head? = some 123:=by
 cases r with
 | nil=>simp only [List.isPrefixOf,Bool.and_false,List.head?_nil]; exact ⟨λ h=>absurd h (by decide),λ h=>by cases h.2⟩
 | cons c t =>
  simp only [List.isPrefixOf,Bool.and_true,Bool.and_eq_true,beq_iff_eq,List.head?_cons,Option.some.injEq]
  exact ⟨λ h=>⟨h.1.symm,h.2.symm⟩,λ h=>⟨h.1.symm,h.2.symm⟩⟩
theorem lQ:∀ s:Bytes,s.length≤(escD s).length∧(escD s).length≤2*s.length
 | []=>by simp [escD]
 | b::r=>by
  have:=lQ r
  simp only [escD,List.length_append,List.length_cons]
  split <;> simp <;> omega
theorem qm:∀ (n:Nat) (s:Bytes) (k:Nat),s.length≤n→count s tO≤k→replaceK tO tN k s=escD s
 | _,[],k,_,_=>by
  cases k with
  | zero=>rfl
  | succ k=>rfl
 | n+1,b::r,k,hn,hk=>by
  simp only [List.length_cons] at hn
  by_cases hp:tO.isPrefixOf (b::r)=true
  ·obtain ⟨rfl,h2⟩:=(sW b r).1 hp
   obtain ⟨t,rfl⟩:∃ t,r=123::t:=by
    cases r with
    | nil=>cases h2
    | cons c t=>simp at h2; subst h2; exact ⟨t,rfl⟩
   have hi:index (36::123::t) tO=((0:Nat):Int):=by simp only [index,hp,if_true]; rfl
   have hc:=count_hit (sub:=tO) (by decide) hi
   have hc:count (36::123::t) tO=1+count t tO:=by simpa [tO] using hc
   obtain ⟨k,rfl⟩:∃ j,k=j+1:=⟨k - 1,by omega⟩
   rw [replaceK_hit _ _ _ _ 0 hi]
   have ih:=qm n t k (by simp only [List.length_cons] at hn; omega) (by omega)
   have hd:(36::123::t:Bytes).drop (0+tO.length)=t:=by simp [tO]
   rw [hd,ih]
   have h123:¬ ((123:UInt8)=36∧t.head? = some 123):=λ h=>absurd h.1 (by decide)
   simp [escD,tN]
  ·have hp':tO.isPrefixOf (b::r)=false:=Bool.eq_false_iff.2 hp
   have hne:¬ (b=36∧r.head? = some 123):=λ h=>hp ((sW b r).2 h)
   have hx:index (b::r) tO=if index r tO == -1 then -1 else index r tO+1:=by simp [index,hp']
   have hge:=index_ge r tO
   have he:escD (b::r)=b::escD r:=by simp [escD,hne]
   by_cases hm:index r tO=-1
   ·rw [hm] at hx
    have hx:index (b::r) tO=-1:=by simpa using hx
    have ih:=qm n r k (by omega) (by rw [count_miss hm]; omega)
    have h1:replaceK tO tN k (b::r)=b::r:=by
     cases k with
     | zero=>rfl
     | succ k=>rw [replaceK,hx]; rfl
    have h2:replaceK tO tN k r=r:=by
     cases k with
     | zero=>rfl
     | succ k=>rw [replaceK,hm]; rfl
    rw [h1,he,← ih,h2]
   ·obtain ⟨i,hi⟩:∃ i:Nat,index r tO=i:=⟨(index r tO).toNat,by omega⟩
    have hx:index (b::r) tO=((i+1:Nat):Int):=by
     rw [hx,hi,if_neg (by rw [beq_iff_eq]; omega)]; omega
    have c1:=count_hit (sub:=tO) (by decide) hx
    have c2:=count_hit (sub:=tO) (by decide) hi
    have hd:(b::r).drop (i+1+tO.length)=r.drop (i+tO.length):=by
     rw [show i+1+tO.length=(i+tO.length)+1 by omega,List.drop_succ_cons]
    rw [hd] at c1
    obtain ⟨k,rfl⟩:∃ j,k=j+1:=⟨k - 1,by omega⟩
    have ih:=qm n r (k+1) (by omega) (by omega)
    rw [replaceK_hit _ _ _ _ (i+1) hx,hd,he,← ih,replaceK_hit _ _ _ _ i hi]
    simp
theorem tE (s:Bytes):replaceAll s tO tN=escD s:=by
 unfold replaceAll replace
 rw [if_neg (by decide)]
 refine qm s.length s _ (Nat.le_refl _) ?_
 unfold replaceNum
 rw [if_pos (.inl (by decide))]
 exact Nat.le_refl _
theorem lJ:∀ (n:Nat) (s:Bytes),s.length≤n→count s tO*2≤s.length
 | 0,s,h=>by
  obtain rfl:=List.eq_nil_of_length_eq_zero (by omega:s.length=0)
  rw [count_miss rfl]; simp
 | n+1,s,h=>by
  by_cases hm:index s tO=-1
  ·rw [count_miss hm]; omega
  ·have hge:=index_ge s tO
   obtain ⟨i,hi⟩:∃ i:Nat,index s tO=i:=⟨(index s tO).toNat,by omega⟩
   have hr:=index_room s tO (by omega)
   have c:=count_hit (sub:=tO) (by decide) hi
   have hl:tO.length=2:=rfl
   rw [hl] at hr c
   have ih:=lJ n (s.drop (i+2)) (by rw [List.length_drop]; omega)
   rw [List.length_drop] at ih
   omega
theorem rx (s:Bytes)(hs:s.length≤1000000):d5 s=some (escD s):=by
 unfold d5 strings_ReplaceAll
 have h1:=lJ s.length s (Nat.le_refl _)
 have h2:countB (str s) (str tO)=count s tO:=by unfold countB; rw [d7,d7]
 rw [bL ⟨by omega,by decide,by rw [h2]; simp only [List.length_cons,List.length_nil]; omega⟩]
 simp only [Option.bind_some]
 rw [tE]
end Go.Ab.R06
end
section
namespace Go.Ab.R06
open Go.Ab
theorem eu {s1_0:List Bytes}{s2_1:List Bytes}:∀ (m m':Nat),m≤m'→∀ (y0:Int),Le (aI s1_0 s2_1 m y0) (aI s1_0 s2_1 m' y0):=by
 intro m
 induction m with
 | zero=>intro m' _ y0; exact bT _
 | succ m ih =>
 intro m' hm y0
 cases m' with
 | zero=>omega
 | succ m' =>
 simp only [aI]
 repeat' (with_reducible (first | exact ar _ | apply ih | refine cC ?_ | refine bE ?_ ?_ | refine bf ?_ (λ _=>?_) | refine cB ?_ (λ _=>?_) | omega | intro _))
theorem dA {n n':Nat}(hn:n≤n'){s1_0:List Bytes}{s2_1:List Bytes}:Le (aQ n s1_0 s2_1) (aQ n' s1_0 s2_1):=by
 simp only [aQ]
 repeat' (with_reducible (first | exact ar _ | apply eu | refine cC ?_ | refine bE ?_ ?_ | refine bf ?_ (λ _=>?_) | refine cB ?_ (λ _=>?_) | omega | intro _))
theorem cq {s1_0:List ab}{s2_1:List ab}{eq_2 eq_2':ab→ab→Option Bool}(h_eq_2:∀ x0 x1,Le (eq_2 x0 x1) (eq_2' x0 x1)):∀ (m m':Nat),m≤m'→∀ (y0:Int),Le (ae s1_0 s2_1 eq_2 m y0) (ae s1_0 s2_1 eq_2' m' y0):=by
 intro m
 induction m with
 | zero=>intro m' _ y0; exact bT _
 | succ m ih =>
 intro m' hm y0
 cases m' with
 | zero=>omega
 | succ m' =>
 simp only [ae]
 repeat' (with_reducible (first | exact ar _ | apply ih | apply h_eq_2 | refine cC ?_ | refine bE ?_ ?_ | refine bf ?_ (λ _=>?_) | refine cB ?_ (λ _=>?_) | omega | intro _))
theorem cz {n n':Nat}(hn:n≤n'){s1_0:List ab}{s2_1:List ab}{eq_2 eq_2':ab→ab→Option Bool}(h_eq_2:∀ x0 x1,Le (eq_2 x0 x1) (eq_2' x0 x1)):Le (av n s1_0 s2_1 eq_2) (av n' s1_0 s2_1 eq_2'):=by
 simp only [av]
 repeat' (with_reducible (first | exact ar _ | apply h_eq_2 | apply cq | refine cC ?_ | refine bE ?_ ?_ | refine bf ?_ (λ _=>?_) | refine cB ?_ (λ _=>?_) | omega | intro _))
theorem kd (n:Nat):∀ n':Nat,n≤n'→(∀ (a_0:ab) (b_1:ab),Le (bX n a_0 b_1) (bX n' a_0 b_1)):=by
 induction n with
 | zero=>exact λ n' _=>(by intro a_0 b_1; exact bT _)
 | succ n ih =>
 intro n' hn
 cases n' with
 | zero=>omega
 | succ n' =>
 have hn':n≤n':=by omega
 have ih_value_Equal_le:=ih n' hn'
 intro a_0 b_1
 simp only [bX]
 repeat' (with_reducible (first | exact ar _ | apply ih_value_Equal_le | apply dA | apply cz | refine cC ?_ | refine bE ?_ ?_ | refine bf ?_ (λ _=>?_) | refine cB ?_ (λ _=>?_) | omega | intro _))
theorem lW {n n':Nat}(hn:n≤n'):∀ (a_0:ab) (b_1:ab),Le (bX n a_0 b_1) (bX n' a_0 b_1):=(kd n n' hn)
theorem cE {s1_0:List aa}{s2_1:List aa}{eq_2 eq_2':aa→aa→Option Bool}(h_eq_2:∀ x0 x1,Le (eq_2 x0 x1) (eq_2' x0 x1)):∀ (m m':Nat),m≤m'→∀ (y0:Int),Le (ag s1_0 s2_1 eq_2 m y0) (ag s1_0 s2_1 eq_2' m' y0):=by
 intro m
 induction m with
 | zero=>intro m' _ y0; exact bT _
 | succ m ih =>
 intro m' hm y0
 cases m' with
 | zero=>omega
 | succ m' =>
 simp only [ag]
 repeat' (with_reducible (first | exact ar _ | apply ih | apply h_eq_2 | refine cC ?_ | refine bE ?_ ?_ | refine bf ?_ (λ _=>?_) | refine cB ?_ (λ _=>?_) | omega | intro _))
theorem cQ {n n':Nat}(hn:n≤n'){s1_0:List aa}{s2_1:List aa}{eq_2 eq_2':aa→aa→Option Bool}(h_eq_2:∀ x0 x1,Le (eq_2 x0 x1) (eq_2' x0 x1)):Le (aw n s1_0 s2_1 eq_2) (aw n' s1_0 s2_1 eq_2'):=by
 simp only [aw]
 repeat' (with_reducible (first | exact ar _ | apply h_eq_2 | apply cE | refine cC ?_ | refine bE ?_ ?_ | refine bf ?_ (λ _=>?_) | refine cB ?_ (λ _=>?_) | omega | intro _))
theorem im (n:Nat):∀ n':Nat,n≤n'→(∀ (a_0:aa) (b_1:aa),Le (aL n a_0 b_1) (aL n' a_0 b_1)):=by
 induction n with
 | zero=>exact λ n' _=>(by intro a_0 b_1; exact bT _)
 | succ n ih =>
 intro n' hn
 cases n' with
 | zero=>omega
 | succ n' =>
 have hn':n≤n':=by omega
 have ih_format_EqualExpr_le:=ih n' hn'
 intro a_0 b_1
 simp only [aL]
 repeat' (with_reducible (first | exact ar _ | apply ih_format_EqualExpr_le | apply lW | apply cQ | refine cC ?_ | refine bE ?_ ?_ | refine bf ?_ (λ _=>?_) | refine cB ?_ (λ _=>?_) | omega | intro _))
theorem fv {n n':Nat}(hn:n≤n'):∀ (a_0:aa) (b_1:aa),Le (aL n a_0 b_1) (aL n' a_0 b_1):=(im n n' hn)
theorem iX {s_0:Bytes}:∀ (m m':Nat),m≤m'→∀ (y0:Int) (y1:List UInt8),Le (bB s_0 m y0 y1) (bB s_0 m' y0 y1):=by
 intro m
 induction m with
 | zero=>intro m' _ y0 y1; exact bT _
 | succ m ih =>
 intro m' hm y0 y1
 cases m' with
 | zero=>omega
 | succ m' =>
 simp only [bB]
 repeat' (with_reducible (first | exact ar _ | apply ih | refine cC ?_ | refine bE ?_ ?_ | refine bf ?_ (λ _=>?_) | refine cB ?_ (λ _=>?_) | omega | intro _))
theorem gZ {n n':Nat}(hn:n≤n'){s_0:Bytes}:Le (cX n s_0) (cX n' s_0):=by
 simp only [cX]
 repeat' (with_reducible (first | exact ar _ | apply iX | refine cC ?_ | refine bE ?_ ?_ | refine bf ?_ (λ _=>?_) | refine cB ?_ (λ _=>?_) | omega | intro _))
theorem gr {n n':Nat}(hn:n≤n'){s_0:Bytes}:Le (cH n s_0) (cH n' s_0):=by
 simp only [cH]
 repeat' (with_reducible (first | exact ar _ | apply gZ | refine cC ?_ | refine bE ?_ ?_ | refine bf ?_ (λ _=>?_) | refine cB ?_ (λ _=>?_) | omega | intro _))
theorem jm {n n':Nat}(hn:n≤n'){v_0:ab}:Le (cO n v_0) (cO n' v_0):=by
 simp only [cO]
 repeat' (with_reducible (first | exact ar _ | apply gr | refine cC ?_ | refine bE ?_ ?_ | refine bf ?_ (λ _=>?_) | refine cB ?_ (λ _=>?_) | omega | intro _))
theorem jt {s_0:Bytes}:∀ (m m':Nat),m≤m'→∀ (y0:Int),Le (bs s_0 m y0) (bs s_0 m' y0):=by
 intro m
 induction m with
 | zero=>intro m' _ y0; exact bT _
 | succ m ih =>
 intro m' hm y0
 cases m' with
 | zero=>omega
 | succ m' =>
 simp only [bs]
 repeat' (with_reducible (first | exact ar _ | apply ih | refine cC ?_ | refine bE ?_ ?_ | refine bf ?_ (λ _=>?_) | refine cB ?_ (λ _=>?_) | omega | intro _))
theorem lX {n n':Nat}(hn:n≤n'){s_0:Bytes}:Le (dy n s_0) (dy n' s_0):=by
 simp only [dy]
 repeat' (with_reducible (first | exact ar _ | apply jt | refine cC ?_ | refine bE ?_ ?_ | refine bf ?_ (λ _=>?_) | refine cB ?_ (λ _=>?_) | omega | intro _))
theorem g5 {n n':Nat}(hn:n≤n'){r_format_Expr r_format_Expr':aa→Option Bytes}(h_format_Expr:∀ x0,Le (r_format_Expr x0) (r_format_Expr' x0)){l_0:List aa}:∀ (m m':Nat),m≤m'→∀ (y0:Bool) (y1:Int) (y2:List UInt8),Le (aU n r_format_Expr l_0 m y0 y1 y2) (aU n' r_format_Expr' l_0 m' y0 y1 y2):=by
 intro m
 induction m with
 | zero=>intro m' _ y0 y1 y2; exact bT _
 | succ m ih =>
 intro m' hm y0 y1 y2
 cases m' with
 | zero=>omega
 | succ m' =>
 simp only [aU]
 repeat' (with_reducible (first | exact ar _ | apply ih | apply h_format_Expr | apply gr | refine cC ?_ | refine bE ?_ ?_ | refine bf ?_ (λ _=>?_) | refine cB ?_ (λ _=>?_) | omega | intro _))
theorem ju {r_format_Expr r_format_Expr':aa→Option Bytes}(h_format_Expr:∀ x0,Le (r_format_Expr x0) (r_format_Expr' x0)){l_0:List aa}:∀ (m m':Nat),m≤m'→∀ (y0:List Bytes) (y1:Int),Le (bn r_format_Expr l_0 m y0 y1) (bn r_format_Expr' l_0 m' y0 y1):=by
 intro m
 induction m with
 | zero=>intro m' _ y0 y1; exact bT _
 | succ m ih =>
 intro m' hm y0 y1
 cases m' with
 | zero=>omega
 | succ m' =>
 simp only [bn]
 repeat' (with_reducible (first | exact ar _ | apply ih | apply h_format_Expr | refine cC ?_ | refine bE ?_ ?_ | refine bf ?_ (λ _=>?_) | refine cB ?_ (λ _=>?_) | omega | intro _))
theorem ir {r_format_Expr r_format_Expr':aa→Option Bytes}(h_format_Expr:∀ x0,Le (r_format_Expr x0) (r_format_Expr' x0)){r_format_key r_format_key':aa→Option Bytes}(h_format_key:∀ x0,Le (r_format_key x0) (r_format_key' x0)){l_0:List aa}:∀ (m m':Nat),m≤m'→∀ (y0:List Bytes) (y1:Int),Le (bp r_format_Expr r_format_key l_0 m y0 y1) (bp r_format_Expr' r_format_key' l_0 m' y0 y1):=by
 intro m
 induction m with
 | zero=>intro m' _ y0 y1; exact bT _
 | succ m ih =>
 intro m' hm y0 y1
 cases m' with
 | zero=>omega
 | succ m' =>
 simp only [bp]
 repeat' (with_reducible (first | exact ar _ | apply ih | apply h_format_Expr | apply h_format_key | refine cC ?_ | refine bE ?_ ?_ | refine bf ?_ (λ _=>?_) | refine cB ?_ (λ _=>?_) | omega | intro _))
theorem ku (n:Nat):∀ n':Nat,n≤n'→(∀ (e_0:aa),Le (aj n e_0) (aj n' e_0))∧(∀ (l_0:List aa),Le (cu n l_0) (cu n' l_0))∧(∀ (l_0:List aa),Le (dm n l_0) (dm n' l_0))∧(∀ (l_0:List aa),Le (cL n l_0) (cL n' l_0))∧(∀ (e_0:aa) (n_1:Int),Le (cZ n e_0 n_1) (cZ n' e_0 n_1))∧(∀ (e_0:aa),Le (dp n e_0) (dp n' e_0))∧(∀ (e_0:aa),Le (cV n e_0) (cV n' e_0)):=by
 induction n with
 | zero=>exact λ n' _=>⟨(by intro e_0; exact bT _),(by intro l_0; exact bT _),(by intro l_0; exact bT _),(by intro l_0; exact bT _),(by intro e_0 n_1; exact bT _),(by intro e_0; exact bT _),(by intro e_0; exact bT _)⟩
 | succ n ih =>
 intro n' hn
 cases n' with
 | zero=>omega
 | succ n' =>
 have hn':n≤n':=by omega
 obtain ⟨ih_format_Expr_le,ih_format_template_le,ih_format_list_le,ih_format_mapping_le,ih_format_at_le,ih_format_loop_le,ih_format_key_le⟩:=ih n' hn'
 refine ⟨?_,?_,?_,?_,?_,?_,?_⟩
 ·intro e_0
  simp only [aj]
  repeat' (with_reducible (first | exact ar _ | apply ih_format_Expr_le | apply ih_format_template_le | apply ih_format_list_le | apply ih_format_mapping_le | apply ih_format_at_le | apply ih_format_loop_le | apply ih_format_key_le | apply jm | refine cC ?_ | refine bE ?_ ?_ | refine bf ?_ (λ _=>?_) | refine cB ?_ (λ _=>?_) | omega | intro _))
 ·intro l_0
  simp only [cu]
  repeat' (with_reducible (first | exact ar _ | apply ih_format_Expr_le | apply ih_format_template_le | apply ih_format_list_le | apply ih_format_mapping_le | apply ih_format_at_le | apply ih_format_loop_le | apply ih_format_key_le | apply g5 | refine cC ?_ | refine bE ?_ ?_ | refine bf ?_ (λ _=>?_) | refine cB ?_ (λ _=>?_) | omega | intro _))
 ·intro l_0
  simp only [dm]
  repeat' (with_reducible (first | exact ar _ | apply ih_format_Expr_le | apply ih_format_template_le | apply ih_format_list_le | apply ih_format_mapping_le | apply ih_format_at_le | apply ih_format_loop_le | apply ih_format_key_le | apply ju | refine cC ?_ | refine bE ?_ ?_ | refine bf ?_ (λ _=>?_) | refine cB ?_ (λ _=>?_) | omega | intro _))
 ·intro l_0
  simp only [cL]
  repeat' (with_reducible (first | exact ar _ | apply ih_format_Expr_le | apply ih_format_template_le | apply ih_format_list_le | apply ih_format_mapping_le | apply ih_format_at_le | apply ih_format_loop_le | apply ih_format_key_le | apply ir | refine cC ?_ | refine bE ?_ ?_ | refine bf ?_ (λ _=>?_) | refine cB ?_ (λ _=>?_) | omega | intro _))
 ·intro e_0 n_1
  simp only [cZ]
  repeat' (with_reducible (first | exact ar _ | apply ih_format_Expr_le | apply ih_format_template_le | apply ih_format_list_le | apply ih_format_mapping_le | apply ih_format_at_le | apply ih_format_loop_le | apply ih_format_key_le | refine cC ?_ | refine bE ?_ ?_ | refine bf ?_ (λ _=>?_) | refine cB ?_ (λ _=>?_) | omega | intro _))
 ·intro e_0
  simp only [dp]
  repeat' (with_reducible (first | exact ar _ | apply ih_format_Expr_le | apply ih_format_template_le | apply ih_format_list_le | apply ih_format_mapping_le | apply ih_format_at_le | apply ih_format_loop_le | apply ih_format_key_le | refine cC ?_ | refine bE ?_ ?_ | refine bf ?_ (λ _=>?_) | refine cB ?_ (λ _=>?_) | omega | intro _))
 ·intro e_0
  simp only [cV]
  repeat' (with_reducible (first | exact ar _ | apply ih_format_Expr_le | apply ih_format_template_le | apply ih_format_list_le | apply ih_format_mapping_le | apply ih_format_at_le | apply ih_format_loop_le | apply ih_format_key_le | apply lX | refine cC ?_ | refine bE ?_ ?_ | refine bf ?_ (λ _=>?_) | refine cB ?_ (λ _=>?_) | omega | intro _))
theorem iB {n n':Nat}(hn:n≤n'):∀ (e_0:aa),Le (aj n e_0) (aj n' e_0):=(ku n n' hn).1
theorem iV {n n':Nat}(hn:n≤n'){b_1:aD}{indent_2:Bytes}:∀ (m m':Nat),m≤m'→∀ (y0:Int) (y1:List UInt8),Le (cw n b_1 indent_2 m y0 y1) (cw n' b_1 indent_2 m' y0 y1):=by
 intro m
 induction m with
 | zero=>intro m' _ y0 y1; exact bT _
 | succ m ih =>
 intro m' hm y0 y1
 cases m' with
 | zero=>omega
 | succ m' =>
 simp only [cw]
 repeat' (with_reducible (first | exact ar _ | apply ih | apply iB | refine cC ?_ | refine bE ?_ ?_ | refine bf ?_ (λ _=>?_) | refine cB ?_ (λ _=>?_) | omega | intro _))
theorem jd {n n':Nat}(hn:n≤n'){b_1:aD}{t69:Int}:∀ (m m':Nat),m≤m'→∀ (y0:Int) (y1:List UInt8),Le (cr n b_1 t69 m y0 y1) (cr n' b_1 t69 m' y0 y1):=by
 intro m
 induction m with
 | zero=>intro m' _ y0 y1; exact bT _
 | succ m ih =>
 intro m' hm y0 y1
 cases m' with
 | zero=>omega
 | succ m' =>
 simp only [cr]
 repeat' (with_reducible (first | exact ar _ | apply ih | apply gZ | refine cC ?_ | refine bE ?_ ?_ | refine bf ?_ (λ _=>?_) | refine cB ?_ (λ _=>?_) | omega | intro _))
theorem jb {n n':Nat}(hn:n≤n'){r_format_write r_format_write':al→aD→Bytes→Option al}(h_format_write:∀ x0 x1 x2,Le (r_format_write x0 x1 x2) (r_format_write' x0 x1 x2)){b_1:aD}{indent_2:Bytes}:∀ (m m':Nat),m≤m'→∀ (y0:Int) (y1:List UInt8),Le (ct n r_format_write b_1 indent_2 m y0 y1) (ct n' r_format_write' b_1 indent_2 m' y0 y1):=by
 intro m
 induction m with
 | zero=>intro m' _ y0 y1; exact bT _
 | succ m ih =>
 intro m' hm y0 y1
 cases m' with
 | zero=>omega
 | succ m' =>
 simp only [ct]
 repeat' (with_reducible (first | exact ar _ | apply ih | apply h_format_write | apply jd | refine cC ?_ | refine bE ?_ ?_ | refine bf ?_ (λ _=>?_) | refine cB ?_ (λ _=>?_) | omega | intro _))
theorem jF (n:Nat):∀ n':Nat,n≤n'→(∀ (w_0:al) (b_1:aD) (indent_2:Bytes),Le (cm n w_0 b_1 indent_2) (cm n' w_0 b_1 indent_2)):=by
 induction n with
 | zero=>exact λ n' _=>(by intro w_0 b_1 indent_2; exact bT _)
 | succ n ih =>
 intro n' hn
 cases n' with
 | zero=>omega
 | succ n' =>
 have hn':n≤n':=by omega
 have ih_format_write_le:=ih n' hn'
 intro w_0 b_1 indent_2
 simp only [cm]
 repeat' (with_reducible (first | exact ar _ | apply ih_format_write_le | apply iV | apply jb | refine cC ?_ | refine bE ?_ ?_ | refine bf ?_ (λ _=>?_) | refine cB ?_ (λ _=>?_) | omega | intro _))
theorem kp {n n':Nat}(hn:n≤n'):∀ (w_0:al) (b_1:aD) (indent_2:Bytes),Le (cm n w_0 b_1 indent_2) (cm n' w_0 b_1 indent_2):=(jF n n' hn)
theorem md {n n':Nat}(hn:n≤n'){b_0:aD}:Le (ek n b_0) (ek n' b_0):=by
 simp only [ek]
 repeat' (with_reducible (first | exact ar _ | apply kp | refine cC ?_ | refine bE ?_ ?_ | refine bf ?_ (λ _=>?_) | refine cB ?_ (λ _=>?_) | omega | intro _))
theorem bF {s1_0:List ad}{s2_1:List ad}{eq_2 eq_2':ad→ad→Option Bool}(h_eq_2:∀ x0 x1,Le (eq_2 x0 x1) (eq_2' x0 x1)):∀ (m m':Nat),m≤m'→∀ (y0:Int),Le (af s1_0 s2_1 eq_2 m y0) (af s1_0 s2_1 eq_2' m' y0):=by
 intro m
 induction m with
 | zero=>intro m' _ y0; exact bT _
 | succ m ih =>
 intro m' hm y0
 cases m' with
 | zero=>omega
 | succ m' =>
 simp only [af]
 repeat' (with_reducible (first | exact ar _ | apply ih | apply h_eq_2 | refine cC ?_ | refine bE ?_ ?_ | refine bf ?_ (λ _=>?_) | refine cB ?_ (λ _=>?_) | omega | intro _))
theorem bI {n n':Nat}(hn:n≤n'){s1_0:List ad}{s2_1:List ad}{eq_2 eq_2':ad→ad→Option Bool}(h_eq_2:∀ x0 x1,Le (eq_2 x0 x1) (eq_2' x0 x1)):Le (au n s1_0 s2_1 eq_2) (au n' s1_0 s2_1 eq_2'):=by
 simp only [au]
 repeat' (with_reducible (first | exact ar _ | apply h_eq_2 | apply bF | refine cC ?_ | refine bE ?_ ?_ | refine bf ?_ (λ _=>?_) | refine cB ?_ (λ _=>?_) | omega | intro _))
theorem g0 {n n':Nat}(hn:n≤n'){x_0:ad}{y_1:ad}:Le (bV n x_0 y_1) (bV n' x_0 y_1):=by
 simp only [bV]
 repeat' (with_reducible (first | exact ar _ | apply fv | refine cC ?_ | refine bE ?_ ?_ | refine bf ?_ (λ _=>?_) | refine cB ?_ (λ _=>?_) | omega | intro _))
theorem cp {s1_0:List ak}{s2_1:List ak}{eq_2 eq_2':ak→ak→Option Bool}(h_eq_2:∀ x0 x1,Le (eq_2 x0 x1) (eq_2' x0 x1)):∀ (m m':Nat),m≤m'→∀ (y0:Int),Le (am s1_0 s2_1 eq_2 m y0) (am s1_0 s2_1 eq_2' m' y0):=by
 intro m
 induction m with
 | zero=>intro m' _ y0; exact bT _
 | succ m ih =>
 intro m' hm y0
 cases m' with
 | zero=>omega
 | succ m' =>
 simp only [am]
 repeat' (with_reducible (first | exact ar _ | apply ih | apply h_eq_2 | refine cC ?_ | refine bE ?_ ?_ | refine bf ?_ (λ _=>?_) | refine cB ?_ (λ _=>?_) | omega | intro _))
theorem cx {n n':Nat}(hn:n≤n'){s1_0:List ak}{s2_1:List ak}{eq_2 eq_2':ak→ak→Option Bool}(h_eq_2:∀ x0 x1,Le (eq_2 x0 x1) (eq_2' x0 x1)):Le (aA n s1_0 s2_1 eq_2) (aA n' s1_0 s2_1 eq_2'):=by
 simp only [aA]
 repeat' (with_reducible (first | exact ar _ | apply h_eq_2 | apply cp | refine cC ?_ | refine bE ?_ ?_ | refine bf ?_ (λ _=>?_) | refine cB ?_ (λ _=>?_) | omega | intro _))
theorem il (n:Nat):∀ n':Nat,n≤n'→(∀ (a_0:aD) (b_1:aD),Le (bu n a_0 b_1) (bu n' a_0 b_1))∧(∀ (x_0:ak) (y_1:ak),Le (bU n x_0 y_1) (bU n' x_0 y_1)):=by
 induction n with
 | zero=>exact λ n' _=>⟨(by intro a_0 b_1; exact bT _),(by intro x_0 y_1; exact bT _)⟩
 | succ n ih =>
 intro n' hn
 cases n' with
 | zero=>omega
 | succ n' =>
 have hn':n≤n':=by omega
 obtain ⟨ih_format_EqualBody_le,ih_format_EqualBody_2_le⟩:=ih n' hn'
 refine ⟨?_,?_⟩
 ·intro a_0 b_1
  simp only [bu]
  repeat' (with_reducible (first | exact ar _ | apply ih_format_EqualBody_le | apply ih_format_EqualBody_2_le | apply bI | apply g0 | apply cx | refine cC ?_ | refine bE ?_ ?_ | refine bf ?_ (λ _=>?_) | refine cB ?_ (λ _=>?_) | omega | intro _))
 ·intro x_0 y_1
  simp only [bU]
  repeat' (with_reducible (first | exact ar _ | apply ih_format_EqualBody_le | apply ih_format_EqualBody_2_le | apply dA | refine cC ?_ | refine bE ?_ ?_ | refine bf ?_ (λ _=>?_) | refine cB ?_ (λ _=>?_) | omega | intro _))
theorem iM {n n':Nat}(hn:n≤n'):∀ (a_0:aD) (b_1:aD),Le (bu n a_0 b_1) (bu n' a_0 b_1):=(il n n' hn).1
theorem kM {n n':Nat}(hn:n≤n'):Le (dk n) (dk n'):=by
 simp only [dk]
 repeat' (with_reducible (first | exact ar _ | apply iB | apply md | apply fv | apply iM | refine cC ?_ | refine bE ?_ ?_ | refine bf ?_ (λ _=>?_) | refine cB ?_ (λ _=>?_) | omega | intro _))
set_option maxRecDepth 100000 in
theorem pk:dk 40=some true:=by decide +kernel
theorem nT:Ev2 (λ n _=>dk n) (·=true):=tL 40 pk (λ _n hn=>kM hn) rfl
end Go.Ab.R06
end
section
namespace Go.Ab.R06
open Go.Ab Go.Ab.RB Go.Lib
def bO {α:Type}(p:α→α→Bool):List α→List α→Bool
 | [],[]=>true
 | x::r,y::q=>p x y&&bO p r q
 | _,_=>false
theorem kR (p:Nat→Bool):∀ (k i:Nat),eG p (i+1) k=eG (λ j=>p (j+1)) i k
 | 0,_=>rfl
 | k+1,i=>by simp only [eG]; rw [kR p k (i+1)]
theorem kK {α:Type} [Inhabited α] (p:α→α→Bool):∀ a b:List α,bO p a b=(decide (a.length=b.length)&&eG (λ i=>p (a.getD i default) (b.getD i default)) 0 a.length)
 | [],[]=>rfl
 | [],y::q=>by simp [bO]
 | x::r,[]=>by simp [bO]
 | x::r,y::q=>by
  simp only [bO,List.length_cons,eG,List.getD_cons_zero,Nat.zero_add]
  rw [kK p r q,kR]
  simp only [List.getD_cons_succ,Nat.add_right_cancel_iff]
  cases p x y <;> cases decide (r.length=q.length) <;> simp
theorem kV {f:Nat→Nat→Int→Option (Unit⊕Bool)}(len:Nat)(p:Nat→Bool)(h0:Ev2 (λ n m=>f n m (len:Int)) (·=.inl ()))
  (hs:∀ i:Nat,i < len→∀ P:Unit⊕Bool→Prop,(p i=true→Ev2 (λ n m=>f n m ((i:Int)+1)) P)→(p i=false→P (.inr false))→Ev2 (λ n m=>f n m (i:Int)) P) :
  ∀ k i,i+k=len→Ev2 (λ n m=>f n m (i:Int)) (·=if eG p i k=true then .inl () else .inr false):=by
 intro k
 induction k with
 | zero =>
  intro i hi
  obtain rfl:i=len:=by omega
  exact h0
 | succ k ih =>
  intro i hi
  refine hs i (by omega) _ (λ h=>?_) (λ h=>?_)
  ·have:=ih (i+1) (by omega)
   rw [Int.natCast_add,Int.natCast_one] at this
   simpa only [eG,h,Bool.true_and] using this
  ·simp [eG,h]
theorem oY {f:Nat→Nat→Int→Option (Unit⊕Bool)}{len:Nat}{p:Nat→Bool}{k:Nat→Nat→Option Bool}{q:Bool}(h:Ev2 (λ n m=>f n m 0) (·=if eG p 0 len=true then .inl () else .inr false))
  (hk:Ev2 k (·=q)):Ev2 (λ n m=>jn (f n n 0) (λ _=>k n m)) (·=(eG p 0 len&&q)):=by
 refine kY (dd (cS (f:=λ n m=>f n m 0) h) (λ s hs=>?_))
 subst hs
 cases eG p 0 len with
 | true=>exact hk
 | false=>rfl
theorem nt {x:Bool}(h:(!x)=true):x=false:=by simpa using h
theorem nf {x:Bool}(h:¬ (!x)=true):x=true:=by simpa using h
def eqS (a b:Bytes):Bool:=decide (a=b)
theorem vC (a b:List Bytes)(ha:a.length*16≤cW):Ev2 (λ n _=>aQ n a b) (·=bO eqS a b):=by
 unfold cW at ha
 simp only [aQ]
 rw [kK]
 refine aB (λ h=>?_) (λ h=>ac (by simp; omega))
 have h:a.length=b.length:=by omega
 rw [decide_eq_true h,Bool.true_and]
 rw [← Bool.and_true (eG _ 0 a.length)]
 refine oY (f:=λ n m i=>aI a b m i) (kV a.length _ ?_ (λ i hi P h1 h2=>?_) a.length 0 (by omega)) (ac rfl)
 ·refine aW ?_
  simp only [aI]
  exact ai (by omega) (ac rfl)
 ·refine aW ?_
  simp only [aI]
  refine aT (by omega) (ap (by omega) (ap (by omega) (aB (λ h=>ap (bq (by omega) (by omega)) (h1 (decide_eq_true h))) (λ h=>ac (h2 (decide_eq_false h))))))
mutual
def eqV:ab→ab→Bool
 | .mk k n s l ks,.mk k' n' s' l' ks'=>decide (k=k')&&decide (n=n')&&eqS s s'&&bO eqS ks ks'&&ki l l'
def ki:List ab→List ab→Bool
 | [],[]=>true
 | x::r,y::q=>eqV x y&&ki r q
 | _,_=>false
end
theorem qI:∀ a b,ki a b=bO eqV a b
 | [],[]=>by simp only [ki,bO]
 | [],_::_=>by simp only [ki,bO]
 | _::_,[]=>by simp only [ki,bO]
 | x::r,y::q=>by simp only [ki,bO]; rw [qI r q]
theorem uS (a b:ab):eqV a b=(decide (a.fKind=b.fKind)&&decide (a.fNum=b.fNum)&&eqS a.fStr b.fStr&&bO eqS a.fKeys b.fKeys&&bO eqV a.fItems b.fItems):=by
 cases a; cases b
 simp only [eqV,qI,ab.fKind,ab.fNum,ab.fStr,ab.fKeys,ab.fItems]
 rfl
theorem tG (a b:List ab)(ha:a.length*80≤cW)(e:Nat→ab→ab→Option Bool)(he:∀ x∈a,∀ y,Ev2 (λ n _=>e n x y) (·=eqV x y)) :
  Ev2 (λ n _=>av n a b (e n)) (·=bO eqV a b):=by
 unfold cW at ha
 simp only [av]
 rw [kK]
 refine aB (λ h=>?_) (λ h=>ac (by simp; omega))
 have h:a.length=b.length:=by omega
 rw [decide_eq_true h,Bool.true_and]
 rw [← Bool.and_true (eG _ 0 a.length)]
 refine oY (f:=λ n m i=>ae a b (e n) m i) (kV a.length _ ?_ (λ i hi P h1 h2=>?_) a.length 0 (by omega)) (ac rfl)
 ·refine aW ?_
  simp only [ae]
  exact ai (by omega) (ac rfl)
 ·refine aW ?_
  simp only [ae]
  refine aT (by omega) (ap (by omega) (ap (by omega) (ao _ (he _ (dX (by omega)) _) ?_)))
  exact aB (λ h=>ac (h2 (nt h))) (λ h=>ap (bq (by omega) (by omega)) (h1 (nf h)))
theorem pP {a:ab}(hb:ab.Bd a):∀ b,Ev2 (λ n _=>bX n a b) (·=eqV a b):=by
 induction hb with
 | @mk x bKind bNum bStr bItems eItems bKeys eKeys ih =>
  intro b
  refine bM ?_
  simp only [bX]
  rw [uS]
  refine bj (·=(decide (x.fKind=b.fKind)&&decide (x.fNum=b.fNum)&&eqS x.fStr b.fStr&&bO eqS x.fKeys b.fKeys&&bO eqV x.fItems b.fItems)) ?_ (λ t ht=>ac ht)
  refine aB (λ h1=>?_) (λ h1=>ac (by simp [h1]))
  refine aB (λ h2=>?_) (λ h2=>ac (by simp [h2]))
  refine aB (λ h3=>?_) (λ h3=>ac (by simp [h3,eqS]))
  refine ao _ (vC _ _ bKeys) ?_
  simp only [h1,h2,h3,eqS,decide_true,Bool.true_and]
  refine aB (λ h4=>?_) (λ h4=>ac (by simp [Bool.eq_false_iff.2 h4]))
  exact ao _ (tG _ _ bItems (λ n x0 x1=>bX n x0 x1) (λ x hx y=>ih x hx y)) (ac (by simp [h4]))
def quo (s:Bytes):Bytes:=(escD s).flatMap dY
theorem iF (s:Bytes):s.length≤(quo s).length∧(quo s).length≤12*s.length:=by
 have h1:=ix (escD s)
 have h2:=lQ s
 unfold quo; omega
theorem qZ (s:Bytes):sub (gR s) 1 (((gR s).length:Int) - 1)=s.flatMap dY:=by
 have e:(((gR s).length:Int) - 1)=(((s.flatMap dY).length+1:Nat):Int):=by simp [gR]
 rw [e,← Int.natCast_one,qy]
 simp [gR]
theorem jG (s:Bytes)(hs:s.length≤300000):Ev2 (λ n _=>cH n s) (·=quo s):=by
 simp only [cH]
 have h2:=lQ s
 have h1:=ix (escD s)
 have hq:(gR (escD s)).length=((escD s).flatMap dY).length+2:=by simp [gR]
 refine ao _ (aP (rx s (by omega)) rfl) (ao _ (rR _ (by omega)) (ap (bq (by omega) (by omega)) (ap (by omega) (ac ?_))))
 rw [qZ]; rfl
def nR (v:ab):Bytes :=
 if v.fKind=1 then (if v.fNum=1 then [116,114,117,101] else [102,97,108,115,101])
 else if v.fKind=2 then itoa v.fNum
 else if v.fKind=3 then [34]++quo v.fStr++[34]
 else [110,117,108,108]
structure LitV (v:ab):Prop where
 kind:v.fKind=0∨v.fKind=1∨v.fKind=2∨v.fKind=3
 num:v.fKind=2→0≤v.fNum∧v.fNum≤eN
 str:v.fStr.length≤4096
theorem uT {v:ab}(h:LitV v):Ev2 (λ n _=>cO n v) (·=nR v):=by
 have hs:=h.str
 have hq:=iF v.fStr
 simp only [cO,nR]
 refine aB (λ h1=>?_) (λ h1=>?_)
 ·rw [if_pos h1]
  exact aB (λ h2=>ac (by rw [if_pos h2])) (λ h2=>ac (by rw [if_neg h2]))
 ·rw [if_neg h1]
  refine aB (λ h2=>?_) (λ h2=>?_)
  ·rw [if_pos h2]
   have hn:=h.num h2
   have:d6 v.fNum=some (itoa v.fNum):=by
    unfold d6 strconv_Itoa
    unfold eN at hn
    rw [bL (bq (by omega) (by omega))]; rfl
   exact ao _ (aP this rfl) (ac rfl)
  ·rw [if_neg h2]
   refine aB (λ h3=>?_) (λ h3=>ac (by rw [if_neg h3]))
   rw [if_pos h3]
   exact ao _ (jG _ (by omega)) (ap (by simp only [List.length_cons,List.length_nil]; omega) (ap (by simp only [List.length_append,List.length_cons,List.length_nil]; omega) (ac rfl)))
theorem tp {v:ab}(h:LitV v):(nR v).length≤50000:=by
 have hs:=h.str
 have hq:=iF v.fStr
 unfold nR
 split
 ·split <;> simp
 ·split
  ·rename_i h2
   have:=rU (h.num h2).1 (h.num h2).2
   omega
  ·split
   ·simp only [List.length_append,List.length_cons,List.length_nil]; omega
   ·simp
theorem kids_facts {k n:Int}(h:bW k n=some true):(k=1∧n=0)∨(k=2∧1≤n)∨(k=3∧n=0)∨(k=4∧n=1)∨(k=5∧n=2)∨(k=6∧n=1)∨(k=7∧n=2)∨(k=8∧n=3)∨k=9∨k=10∨(k=11∧n.tmod 2=0)∨(k=12∧(n=2∨n=3))∨(k=13∧(n=3∨n=4)):=by
 unfold bW ck at h
 by_cases h1:k=1
 ·subst h1; simp at h; exact .inl ⟨rfl,h⟩
 by_cases h2:k=2
 ·subst h2; simp at h; exact .inr (.inl ⟨rfl,h⟩)
 by_cases h3:k=3
 ·subst h3; simp at h; omega
 by_cases h4:k=4
 ·subst h4; simp at h; omega
 by_cases h5:k=5
 ·subst h5; simp at h; omega
 by_cases h6:k=6
 ·subst h6; simp at h; omega
 by_cases h7:k=7
 ·subst h7; simp at h; omega
 by_cases h8:k=8
 ·subst h8; simp at h; omega
 by_cases h9:k=9
 ·subst h9; simp
 by_cases h10:k=10
 ·subst h10; simp
 by_cases h11:k=11
 ·subst h11; simp at h; simp [h]
 by_cases h12:k=12
 ·subst h12
  by_cases q:n=2
  ·subst q; simp
  ·simp [q] at h; omega
 by_cases h13:k=13
 ·subst h13
  by_cases q:n=3
  ·subst q; simp
  ·simp [q] at h; omega
 simp [h1,h2,h3,h4,h5,h6,h7,h8,h9,h10,h11,h12,h13] at h
theorem gI {e:aa}(h:bc e=some true):bW e.fKind (e.fKids.length:Int)=some true ∧
  (e.fKind=1→(e.fValue.fKind=0∨e.fValue.fKind=1∨e.fValue.fKind=2∨e.fValue.fKind=3)∧(e.fValue.fKind=2→0≤e.fValue.fNum)) ∧
  (e.fKind=6→e.fOp=1∨e.fOp=2)∧(e.fKind=7→3≤e.fOp∧e.fOp≤15):=by
 unfold bc at h
 obtain ⟨a,ha⟩:=jN e.fKind (e.fKids.length:Int)
 obtain ⟨b,hb⟩:=ik e.fKind
 obtain ⟨c,hc⟩:=gP e.fKind
 obtain ⟨d,hd⟩:=nG e.fValue
 simp only [ha,hb,hc,hd,Option.bind_some] at h
 cases a with
 | false=>simp at h
 | true =>
  refine ⟨ha,?_⟩
  generalize hT:(if (!true)=true then some true else _:Option Bool)=T at h
  cases T with
  | none=>cases h
  | some t =>
   simp only [Option.bind_some] at h
   cases t with
   | true=>simp at h
   | false =>
    simp only [Bool.false_eq_true,if_false] at h
    by_cases h1:e.fKind=1
    ·rw [if_pos h1] at h
     refine ⟨λ _=>?_,λ k=>by omega,λ k=>by omega⟩
     by_cases h2:e.fOp=0
     ·rw [if_pos h2] at h
      by_cases q0:e.fValue.fKind=0
      ·exact ⟨.inl q0,λ k=>by omega⟩
      by_cases q1:e.fValue.fKind=1
      ·exact ⟨.inr (.inl q1),λ k=>by omega⟩
      by_cases q3:e.fValue.fKind=3
      ·exact ⟨.inr (.inr (.inr q3)),λ k=>by omega⟩
      by_cases q2:e.fValue.fKind=2
      ·refine ⟨.inr (.inr (.inl q2)),λ _=>?_⟩
       rw [if_neg q0,if_neg q1,if_neg q3,if_pos q2] at h
       simpa using h
      ·rw [if_neg q0,if_neg q1,if_neg q3,if_neg q2] at h
       simp at h
     ·rw [if_neg h2] at h; simp at h
    ·rw [if_neg h1] at h
     refine ⟨λ k=>absurd k h1,?_⟩
     cases d with
     | false=>simp at h
     | true =>
      simp only [Bool.not_true,Bool.false_eq_true,if_false] at h
      by_cases h6:e.fKind=6
      ·rw [if_pos h6] at h
       refine ⟨λ _=>?_,λ k=>by omega⟩
       by_cases o1:e.fOp=1
       ·exact .inl o1
       ·rw [if_neg o1] at h; simp at h; exact .inr h
      ·rw [if_neg h6] at h
       refine ⟨λ k=>absurd k h6,λ h7=>?_⟩
       rw [if_pos h7] at h
       by_cases o1:3≤e.fOp
       ·rw [if_pos o1] at h; simp at h; exact ⟨o1,h⟩
       ·rw [if_neg o1] at h; simp at h
theorem od {e:aa}(h:fY e)(h1:e.fKind=1):LitV e.fValue:=by
 cases h with
 | mk h _ =>
  obtain ⟨_,f1,_⟩:=gI h.1
  obtain ⟨v1,v2,v3,v4⟩:=h.2.1 h1
  refine ⟨(f1 h1).1,λ k=>⟨(f1 h1).2 k,?_⟩,v3⟩
  have:=v2 k
  unfold cP at this
  unfold eN
  by_cases q:(-9007199254740992)≤e.fValue.fNum
  ·rw [if_pos q] at this; simpa using this
  ·rw [if_neg q] at this; simp at this
def jc (e:aa):Bool:=decide (e.fKind=1)&&decide (e.fValue.fKind=3)&&!decide (e.fValue.fStr=[])
theorem u7 (e:aa):eq e=some (jc e):=by
 unfold eq jc
 by_cases h1:e.fKind=1 <;> by_cases h2:e.fValue.fKind=3 <;> simp [h1,h2]
def kT (s:Bytes)(last:Bool):Bytes:=if last=false∧s.getD (s.length - 1) 0=36 then quo (s.take (s.length - 1))++[92,117,123,50,52,125] else quo s
def fU (big:Bool):List aa→List Bytes→Bool→Bytes
 | x::r,t::q,b=>if (jc x&&!b&&big)=true then kT x.fValue.fStr r.isEmpty++fU big r q true else ([36,123]++t++[125])++fU big r q false
 | _,_,_=>[]
def lvl (e:aa):Int:=(cI e).getD 8
def sgn (o:Int):Bytes:=(cY o).getD []
def atT (e:aa)(t:Bytes)(n:Int):Bytes:=if lvl e < n then [40]++t++[41] else t
def gU (e:aa)(t:Bytes):Bytes:=if e.fKind=1∧e.fValue.fKind=3 then (if aV e.fValue.fStr=true∧resB e.fValue.fStr=false then e.fValue.fStr else t) else if e.fKind=2 then t else [40]++t++[41]
def gi:List aa→List Bytes→List Bytes
 | x::_::r,t::u::q=>(gU x t++[32,61,32]++u)::gi r q
 | _,_=>[]
def iN (e:aa)(ts:List Bytes):Bytes :=
 [102,111,114,32]++(if e.fKey=[] then [] else e.fKey++[44,32])++e.fName++[32,105,110,32]++ts.getD 0 []++[32,58,32]++ts.getD 1 [] ++
  (if e.fKind=13 then [32,61,62,32]++ts.getD 2 []++(if 3 < ts.length then [32,105,102,32]++ts.getD 3 [] else []) else (if 2 < ts.length then [32,105,102,32]++ts.getD 2 [] else []))
def ey (e:aa)(ts:List Bytes):Bytes :=
 if e.fKind=1 then nR e.fValue
 else if e.fKind=2 then [34]++fU (decide (1 < e.fKids.length)) e.fKids ts false++[34]
 else if e.fKind=3 then e.fName
 else if e.fKind=4 then atT (lat e.fKids 0) (ts.getD 0 []) 8++[46]++e.fName
 else if e.fKind=5 then atT (lat e.fKids 0) (ts.getD 0 []) 8++[91]++ts.getD 1 []++[93]
 else if e.fKind=6 then sgn e.fOp++atT (lat e.fKids 0) (ts.getD 0 []) 7
 else if e.fKind=7 then atT (lat e.fKids 0) (ts.getD 0 []) (lvl e)++[32]++sgn e.fOp++[32]++atT (lat e.fKids 1) (ts.getD 1 []) (lvl e+1)
 else if e.fKind=8 then atT (lat e.fKids 0) (ts.getD 0 []) 1++[32,63,32]++ts.getD 1 []++[32,58,32]++ts.getD 2 []
 else if e.fKind=9 then e.fName++[40]++join ts [44,32]++[41]
 else if e.fKind=10 then [91]++join ts [44,32]++[93]
 else if e.fKind=11 then [123]++join (gi e.fKids ts) [44,32]++[125]
 else if e.fKind=12 then [91]++iN e ts++[93]
 else [123]++iN e ts++[125]
mutual
def aJ:aa→Bytes
 | .mk k o n y v l a=>ey (.mk k o n y v l a) (lw l)
def lw:List aa→List Bytes
 | []=>[]
 | x::r=>aJ x::lw r
end
theorem nn:∀ l,lw l=l.map aJ
 | []=>by simp only [lw,List.map_nil]
 | x::r=>by simp only [lw,List.map_cons]; rw [nn r]
theorem oa (e:aa):aJ e=ey e (e.fKids.map aJ):=by
 cases e
 simp only [aJ,nn,aa.fKids]
theorem sy (e:aa):cI e=some (lvl e):=by
 obtain ⟨r,h⟩:∃ r,cI e=some r:=by
  unfold cI
  repeat' (first | exact ⟨_,rfl⟩ | refine gh (λ _=>?_) (λ _=>?_))
 unfold lvl; rw [h]; rfl
theorem qL (e:aa):0≤lvl e∧lvl e≤8:=by
 unfold lvl cI
 repeat' split
 all_goals simp
theorem uI {o:Int}(h0:0≤o)(h1:o < 16):cY o=some (sgn o):=by
 obtain ⟨r,h⟩:∃ r,cY o=some r:=by
  unfold cY
  rw [if_neg (by omega)]
  simp only [Option.bind_some]
  rw [if_neg (by rw [decide_eq_true_eq]; omega),bL ⟨h0,h1⟩]
  exact ⟨_,rfl⟩
 unfold sgn; rw [h]; rfl
theorem qw (o:Int):(sgn o).length≤2:=by
 unfold sgn cY
 by_cases h:o < 0
 ·rw [if_pos h]; simp
 ·rw [if_neg h]
  by_cases h1:16≤o
  ·simp [h1]
  ·simp only [Option.bind_some]
   rw [if_neg (by rw [decide_eq_true_eq]; omega),bL ⟨by omega,by omega⟩]
   obtain ⟨k,rfl⟩:∃ k:Nat,o=k:=⟨o.toNat,by omega⟩
   have hk:k < 16:=by omega
   rw [Option.getD_some,p9]
   have:∀ j:Fin 16,(([([]:Bytes),([33]:Bytes),([45]:Bytes),([124,124]:Bytes),([38,38]:Bytes),([61,61]:Bytes),([33,61]:Bytes),([60]:Bytes),([60,61]:Bytes),([62]:Bytes),([62,61]:Bytes),([43]:Bytes),([45]:Bytes),([42]:Bytes),([47]:Bytes),([37]:Bytes)]:List Bytes).getD j.1 default).length≤2:=by decide
   exact this ⟨k,hk⟩
theorem tZ (s:Bytes)(hs:s.length≤1000000):∀ (k i:Nat),i+k=s.length→Ev2 (λ _ m=>bs s m (i:Int)) (·=if eG (mr s) i k then .inl () else .inr false):=by
 intro k
 induction k with
 | zero =>
  intro i hi
  refine aW ?_
  simp only [bs]
  exact ai (by omega) (ac rfl)
 | succ k ih =>
  intro i hi
  have hb:=oc (s.getD i 0)
  have hd:=ig (s.getD i 0)
  have ho:=vv (s.getD i 0)
  refine aW ?_
  simp only [bs,iH]
  refine aT (by omega) (ap (by omega) ?_)
  refine ao (!mr s i) (ap (by omega) ?_) ?_
  ·refine aB (λ h1=>ac ?_) (λ h1=>?_)
   ·symm; rw [Bool.not_eq_false',ew]; left; rw [hb]; omega
   ·have rest:¬ (97≤iOr .u8 ((s.getD i 0).toNat:Int) 32∧iOr .u8 ((s.getD i 0).toNat:Int) 32≤122)→Ev2 (λ _ _=>if (i:Int)=0 then some true else ck ((0:Int)≤(i:Int)∧(i:Int) < (s.length:Int)) <| if ((s.getD i 0).toNat:Int) < 48 then some true else ck ((0:Int)≤(i:Int)∧(i:Int) < (s.length:Int)) <| some (decide (57 < ((s.getD i 0).toNat:Int)))) (·=!mr s i):=by
     intro hn
     have hl:eR (s.getD i 0)=false:=by
      rw [Bool.eq_false_iff]
      intro h
      rw [hb] at h
      rcases h with h | h | h
      ·exact hn (ho.2 (.inl h))
      ·exact hn (ho.2 (.inr h))
      ·omega
     refine aB (λ h2=>ac ?_) (λ h2=>ap (by omega) (aB (λ h3=>ac ?_) (λ h3=>ap (by omega) (ac ?_))))
     ·have:i=0:=by omega
      subst this
      simp only [mr,hl]; simp
     ·have:dZ (s.getD i 0)=false:=by rw [Bool.eq_false_iff]; intro h; rw [hd] at h; omega
      simp only [mr,hl,this]; simp
     ·have hi0:i≠0:=by omega
      refine eqB ?_
      rw [decide_eq_true_eq,Bool.not_eq_true',Bool.eq_false_iff,ne_eq,ew,hl]
      constructor
      ·intro h k; rcases k with k | k
       ·cases k
       ·rw [hd] at k; omega
      ·intro h; have:¬ (48≤(s.getD i 0).toNat∧(s.getD i 0).toNat≤57):=λ k=>h (.inr ⟨hi0,hd.2 k⟩)
       omega
    refine aB (λ h2=>rest (by omega)) (λ h2=>aB (λ h3=>rest (by omega)) (λ h3=>ac ?_))
    symm; rw [Bool.not_eq_false',ew]; left
    rw [hb]
    have:=ho.1 ⟨by omega,by omega⟩
    omega
  ·cases hk:mr s i with
   | false=>exact aT rfl (ac (by simp only [eG,hk,Bool.false_and]; rfl))
   | true =>
    refine ai (by simp) (ap (bq (by omega) (by omega)) ?_)
    simp only [eG,hk,Bool.true_and]
    exact d4 (P:=λ j=>Ev2 (λ _ m=>bs s m j) _) (ih (i+1) (by omega))
end Go.Ab.R06
end
