/- The statement LifecycleOrder is proved, and its tied card: for all inputs that are Go values of the law's parameters' types, the law returns true and never panics, where what it reads is of bulk at most 1048576 (the second form). No further condition. -/
import Derived.Test.YtdhapbkkniegoaaGreatDoorCards
import Derived.Test.YtdhapbkkniegoaaGreatDoorTie
import Derived.WalkKit
import Derived.SizedLaws
import Derived.ProofKit
import Derived.OpenShut
import Derived.ShutString
import Derived.LaidMore
import Derived.Stop.Joined
import Derived.Deep.DeepHandedRow
import Derived.Deep.DeepWitnessRowRef
import Derived.Test.YtdhapbkkniegoaaGreatDoorZ43a
import Derived.Test.YtdhapbkkniegoaaGreatDoorZ43b
import Derived.Test.YtdhapbkkniegoaaGreatDoorZ43c
import Derived.Test.YtdhapbkkniegoaaGreatDoorZ43d
import Derived.Test.YtdhapbkkniegoaaGreatDoorZ43e
import Derived.Test.YtdhapbkkniegoaaGreatDoorZ43f
section
set_option linter.unusedVariables false
set_option linter.unusedSimpArgs false
set_option linter.unnecessarySimpa false
namespace Go.Ab.R06
open Go.Proofs Go.Ab Go.Ab.RB
attribute [local irreducible] awp gO aY aB cD AV.sub M dh
def b5 (l_0:List aa)(by_1:Int):Nat→(List aa)→Int→Option (List aa)
 | 0,_,_=>none
 | m+1,turned18,i19 =>
 if i19 < (l_0.length:Int) then
  ck (inR (i19+(by_1.tmod (l_0.length:Int)))) <|
  ck (((l_0.length:Int):Int)≠0) <|
  ck ((0:Int)≤(i19+(by_1.tmod (l_0.length:Int))).tmod (l_0.length:Int)∧(i19+(by_1.tmod (l_0.length:Int))).tmod (l_0.length:Int) < (l_0.length:Int)) <|
  ck ((turned18.length+[(lat l_0 ((i19+(by_1.tmod (l_0.length:Int))).tmod (l_0.length:Int)))].length)*320≤140737488355328) <|
  ck (inR (i19+1)) <|
  b5 l_0 by_1 m (turned18++[(lat l_0 ((i19+(by_1.tmod (l_0.length:Int))).tmod (l_0.length:Int)))]) (i19+1)
 else
  some turned18
def bV (n:Nat)(l_0:List aa)(by_1:Int)(r29:(List aa))(r31:(List aa)):Nat→Int→Option (Unit⊕Bool)
 | 0,_=>none
 | m+1,i46 =>
 if i46 < (l_0.length:Int) then
  ck ((0:Int)≤i46∧i46 < (r31.length:Int)) <|
  ck (inR (i46+(by_1.tmod (l_0.length:Int)))) <|
  ck (((l_0.length:Int):Int)≠0) <|
  ck ((0:Int)≤(i46+(by_1.tmod (l_0.length:Int))).tmod (l_0.length:Int)∧(i46+(by_1.tmod (l_0.length:Int))).tmod (l_0.length:Int) < (r29.length:Int)) <|
  (gj n (lat r31 i46) (lat r29 ((i46+(by_1.tmod (l_0.length:Int))).tmod (l_0.length:Int)))).bind λ r52 =>
  if (!r52)=true then
   some (.inr false)
  else
   ck (inR (i46+1)) <|
   bV n l_0 by_1 r29 r31 m (i46+1)
 else
  some (.inl ())
def fO (n:Nat)(l_0:List aa)(by_1:Int):Option Bool :=
 (
   (hH n l_0).bind λ r1 =>
   if (!r1)=true then
    some true
   else
    some (decide ((l_0.length:Int)=0))
  : Option Bool).bind λ t4 =>
 if t4=true then
  (cF n).bind λ r6 =>
  some r6
 else
  ck (inR (by_1)) <|
  ck (((l_0.length:Int):Int)≠0) <|
  (b5 l_0 by_1 n [] 0).bind λ turned28 =>
  (bo n l_0).bind λ r29 =>
  (bo n turned28).bind λ r31 =>
  (
    if (r29.length:Int)=(l_0.length:Int) then
     some (!decide ((r31.length:Int)=(l_0.length:Int)))
    else
     some true
   : Option Bool).bind λ t34 =>
  if t34=true then
   some false
  else
   jn (bV n l_0 by_1 r29 r31 n 0) λ q62 =>
   (cF n).bind λ r57 =>
   some r57
set_option maxHeartbeats 4000000 in
theorem lX (n:Nat)(l_0:List aa)(by_1:Int)(r:Bool)(h0:fO n l_0 by_1=some r):aB Tryz.prog 7 [eL ac l_0,eK .u8 by_1] (·=.p (eB r)):=by
 unfold fO at h0
 refine aU good Tryz.func7 rfl rfl rfl λ w0=>mP (λ v:Bool=>.p (eB v)) ?_
 refine nx 6 rfl (bd h0 λ o63 h1 h0=>?_)
 refine kN o63 (λ v64=>⟨[(0,.p (eL ac l_0)),(1,.p (eK .u8 by_1)),(18,.p (eB v64))],[]⟩) ?_ ?_
 ·refine nx 1 rfl (fB [18] h0 rfl (λ c5 h0=>?_) λ c5 h0=>?_)
  ·refine nx 3 rfl (bd h0 λ r6 e7 h0=>?_)
   refine oK (dG _  _ e7) rfl trivial Tryz.call9 rfl (nx 3 rfl ?_)
   exact mQ (oi h0) rfl (sr)
  refine nx 5 rfl (cc' h0 λ hk8 h0=>?_)
  refine mO rfl (dy rfl rfl rfl rfl rfl rfl rfl rfl (fY hk8) ?_)
  refine nx 1 rfl (oLl (f:=ac) rfl rfl ?_)
  refine cc' h0 λ hk9 h0=>mO rfl (pj rfl rfl rfl rfl rfl rfl hk9 ?_)
  refine nx 12 rfl (bd h0 λ o65 h1 h0=>?_)
  refine kE 0 o65 (λ v66=>⟨[(0,.p (eL ac l_0)),(5,.p (eI (by_1.tmod (l_0.length:Int)))),(6,.vec 42 22 0 (v66.map ac))],[]⟩) ?_ ?_
  ·refine nx 4 rfl (bd h0 λ r29 e30 h0=>?_)
   refine oK (cH _ l_0 _ e30) rfl ⟨sr,trivial⟩ Tryz.call10 rfl (nx 1 rfl ?_)
   refine bd h0 λ r31 e32 h0=>oK (cH _ o65 _ e32) rfl ⟨AV.sub_vec _ _ _ _,trivial⟩ Tryz.call10 rfl (nx 5 rfl ?_)
   refine bd h0 λ o67 h1 h0=>kN o67 (λ v68=>⟨[(0,.p (eL ac l_0)),(5,.p (eI (by_1.tmod (l_0.length:Int)))),(8,.p (eL ac r29)),(9,.p (eL ac r31)),(58,.p (eB v68))],[]⟩) ?_ ?_
   ·refine nx 1 rfl (fB [58] h0 rfl (λ c35 h0=>?_) λ c35 h0=>?_)
    ·exact nx 6 rfl (mQ (oi h0) rfl (sr))
    refine nx 8 rfl ?_
    obtain ⟨o69,h1,hL0,hR0⟩:=cU h0
    refine kEx 2 (λ v70:Unit=>o69=.inl v70) (λ v70=>⟨[],[]⟩) (λ v70 hv=>?_) ?_
    ·have h0:=hL0 _ hv
     refine nx 3 rfl (bd h0 λ r57 e58 h0=>?_)
     refine oK (dG _  _ e58) rfl trivial Tryz.call9 rfl (nx 3 rfl ?_)
     exact mQ (oi h0) rfl (sr)
    refine lG (λ (q71:Int)=>⟨[(0,.p (eL ac l_0)),(5,.p (eI (by_1.tmod (l_0.length:Int)))),(8,.p (eL ac r29)),(9,.p (eL ac r31)),(10,.p (eI q71))],[]⟩) (λ m (q71:Int)=>bV n l_0 by_1 r29 r31 m q71) (λ _=>rfl) 0 h1 (gE rfl rfl) ?_
    rintro m i46 h1
    replace h1:bV n l_0 by_1 r29 r31 (m+1) i46=some o69:=h1
    rw [bV] at h1
    refine nx 5 rfl (oLl (f:=ac) rfl rfl ?_)
    refine nx 2 rfl (fD [62] h1 rfl (λ c47 h1=>?_) λ c47 h1=>?_)
    ·refine nx 5 rfl (cc' h1 λ hk48 h1=>?_)
     refine cc' h1 λ hk49 h1=>cc' h1 λ hk50 h1=>cc' h1 λ hk51 h1=>bd h1 λ r52 e53 h1=>mD [(0,.p (eL ac l_0)),(5,.p (eI (by_1.tmod (l_0.length:Int)))),(8,.p (eL ac r29)),(9,.p (eL ac r31)),(10,.p (eI i46))] rfl ⟨rfl,rfl,rfl,rfl,rfl,trivial⟩ rfl (dR 2 rfl ?_)
     refine dq (.rptr (aa.cs (lat r31 i46))) [65,66] rfl (λ _ e _ q=>af rfl (bf (f:=ac) (l:=r31) aa.cs rfl rfl rfl rfl rfl rfl (e _ _ rfl) rfl (e _ _ rfl) hk48 aa.cells_eq (λ _=>rfl) q)) rfl (dR 4 rfl ?_)
     refine dq (.p (eI (i46+(by_1.tmod (l_0.length:Int))))) [70,71] rfl (λ _ e _ q=>af rfl (iS rfl rfl rfl (e _ _ rfl) (e _ _ rfl) rfl hk49 q)) rfl (dR 1 rfl ?_)
     refine dq (.p (eI (l_0.length:Int))) [73] rfl (λ _ e _ q=>af rfl (yt (f:=ac) (l:=l_0) rfl rfl rfl rfl rfl (e _ _ rfl) rfl q)) rfl (dq (.p (eI ((i46+(by_1.tmod (l_0.length:Int))).tmod (l_0.length:Int)))) [72,74] rfl (λ _ e _ q=>af rfl (pj rfl rfl rfl (e _ _ rfl) (e _ _ rfl) rfl hk50 q)) rfl ?_)
     refine dq (.rptr (aa.cs (lat r29 ((i46+(by_1.tmod (l_0.length:Int))).tmod (l_0.length:Int))))) [69,75] rfl (λ _ e _ q=>af rfl (bf (f:=ac) (l:=r29) aa.cs rfl rfl rfl rfl rfl rfl (e _ _ rfl) rfl (e _ _ rfl) hk51 aa.cells_eq (λ _=>rfl) q)) rfl (dR 1 rfl ?_)
     refine dq (.p (eB r52)) [68,77] rfl (λ _ e _ q=>af rfl (aJ (bi _ (lat r31 i46) (lat r29 ((i46+(by_1.tmod (l_0.length:Int))).tmod (l_0.length:Int))) _ e53) rfl rfl rfl (au (e _ _ rfl) (au (e _ _ rfl) aK)) ⟨sr,sr,trivial⟩ Tryz.call12 rfl q)) rfl (dR 1 rfl ?_)
     refine dE rfl (nx 1 rfl ?_)
     refine fB [79] h1 rfl (λ c54 h1=>?_) λ c54 h1=>?_
     ·exact nx 6 rfl (mQ (hR0 _ (oi h1).symm) rfl (sr))
     refine nx 4 rfl (oA h1 rfl rfl λ hk55 h1=>?_)
     exact nx 2 rfl (eX (i46+1) h1 (gE rfl rfl))
    exact nx 2 rfl (eXi _ (oi h1).symm (gE rfl rfl))
   refine nx 2 rfl (oLl (f:=ac) rfl rfl ?_)
   refine nx 1 rfl (oLl (f:=ac) rfl rfl ?_)
   refine nx 2 rfl (fN [51,52] h1 rfl (λ c33 h1=>?_) λ c33 h1=>?_)
   ·refine nx 1 rfl (oLl (f:=ac) rfl rfl ?_)
    refine nx 1 rfl (oLl (f:=ac) rfl rfl ?_)
    exact nx 3 rfl (eX _ (oi h1).symm (gE rfl rfl))
   exact nx 7 rfl (eX _ (oi h1).symm (gE rfl rfl))
  refine lG (λ (q72:(List aa)×Int)=>⟨[(0,.p (eL ac l_0)),(5,.p (eI (by_1.tmod (l_0.length:Int)))),(6,.vec 42 22 0 (q72.1.map ac)),(7,.p (eI q72.2))],[]⟩) (λ m (q72:(List aa)×Int)=>b5 l_0 by_1 m q72.1 q72.2) (λ _=>rfl) ([],0) h1 (aI (cb ⟨er rfl,er rfl,⟨_,rfl,AV.sub_nilvec _ _ _⟩,er rfl,trivial⟩ trivial)) ?_
  rintro m ⟨turned18,i19⟩ h1
  replace h1:b5 l_0 by_1 (m+1) turned18 i19=some o65:=h1
  rw [b5] at h1
  refine nx 5 rfl (oLl (f:=ac) rfl rfl ?_)
  refine nx 2 rfl (fD [28] h1 rfl (λ c20 h1=>?_) λ c20 h1=>?_)
  ·refine nx 9 rfl (oA h1 rfl rfl λ hk21 h1=>?_)
   refine nx 1 rfl (oLl (f:=ac) rfl rfl ?_)
   refine cc' h1 λ hk22 h1=>mO rfl (pj rfl rfl rfl rfl rfl rfl hk22 ?_)
   refine oE h1 aa.cells_eq rfl rfl (λ _=>rfl) λ hk23 h1=>nx 1 rfl (mO rfl (bS ac [(lat l_0 ((i19+(by_1.tmod (l_0.length:Int))).tmod (l_0.length:Int)))] rfl rfl rfl rfl rfl rfl rfl rfl rfl rfl rfl rfl rfl (by first | rfl | (simp only [List.map_cons,List.map_nil,aa.agg_eq]; done) | (simp only [List.map_cons,List.map_nil,aa.agg_eq]; rfl)) ?_))
   refine cc' h1 λ hk24 h1=>mO rfl (fp ac turned18 [(lat l_0 ((i19+(by_1.tmod (l_0.length:Int))).tmod (l_0.length:Int)))] rfl rfl rfl rfl rfl rfl rfl rfl rfl rfl rfl rfl rfl (λ x=>congrArg List.length (aa.cells_eq x)) rfl rfl rfl rfl hk24 ?_)
   refine nx 4 rfl (oA h1 rfl rfl λ hk25 h1=>?_)
   exact nx 2 rfl (eX (turned18++[(lat l_0 ((i19+(by_1.tmod (l_0.length:Int))).tmod (l_0.length:Int)))],i19+1) h1 (gE rfl rfl))
  exact nx 2 rfl (eXi _ (oi h1).symm (gE rfl rfl))
 refine nx 2 rfl (bd h1 λ r1 e2 h1=>?_)
 refine oK (ju _ l_0 _ e2) rfl ⟨sr,trivial⟩ Tryz.call8 rfl (nx 2 rfl ?_)
 refine fB [13,14] h1 rfl (λ c3 h1=>?_) λ c3 h1=>?_
 ·exact nx 5 rfl (eX _ (oi h1).symm (gE rfl rfl))
 refine nx 1 rfl (oLl (f:=ac) rfl rfl ?_)
 exact nx 3 rfl (eX _ (oi h1).symm (gE rfl rfl))
end Go.Ab.R06
end
section
set_option linter.unusedVariables false
set_option linter.unusedSimpArgs false
set_option linter.unnecessarySimpa false
namespace Go.Ab.R06
open Go.Ab Go.Ab.RB Go.Lib
def turn (l:List aa)(k:Nat):List aa:=(List.range l.length).map λ i=>cat l ((i+k) % l.length)
theorem gQ (l:List aa)(k:Nat):(turn l k).length=l.length:=by simp [turn]
theorem nX (l:List aa)(k i:Nat)(h:i < l.length):cat (turn l k) i=cat l ((i+k) % l.length):=by
 rw [cat,List.getD_eq_getElem?_getD,List.getElem?_eq_getElem (by rw [gQ]; exact h)]
 simp [turn]
theorem Dr {l:List aa}(hb:∀ c∈l,aa.Bd c)(k:Nat):∀ c∈turn l k,aa.Bd c:=by
 intro c hc
 unfold turn at hc
 obtain ⟨i,hi,rfl⟩:=List.mem_map.1 hc
 have:=List.mem_range.1 hi
 exact hb _ (ly (Nat.mod_lt _ (by omega)))
theorem yR (l:List aa)(k i:Nat)(h:i < l.length):(turn l k).take (i+1)=(turn l k).take i++[cat l ((i+k) % l.length)]:=by
 rw [List.take_add_one,List.getElem?_eq_getElem (by rw [gQ]; exact h)]
 simp [turn]
section
variable {l:List aa} {k:Nat}
theorem sf {i j:Nat}(hi:i < l.length)(hj:j < l.length):ne (turn l k) i j↔ne l ((i+k) % l.length) ((j+k) % l.length):=by
 unfold ne
 rw [gQ,nX l k i hi,nX l k j hj]
 exact ⟨λ h=>⟨Nat.mod_lt _ (by omega),Nat.mod_lt _ (by omega),h.2.2⟩,λ h=>⟨hi,hj,h.2.2⟩⟩
theorem uO (hk:k < l.length){j:Nat}(hj:j < l.length):∃ i,i < l.length∧(i+k) % l.length=j:=by
 by_cases h:k≤j
 ·exact ⟨j - k,by omega,by rw [Nat.sub_add_cancel h,Nat.mod_eq_of_lt hj]⟩
 ·exact ⟨j+l.length - k,by omega,by rw [Nat.sub_add_cancel (by omega),Nat.add_mod_right,Nat.mod_eq_of_lt hj]⟩
theorem Cr (hk:k < l.length){i:Nat}(hi:i < l.length):Rc (turn l k) i↔Rc l ((i+k) % l.length):=by
 constructor
 ·intro h
  have:∀ {i},Rc (turn l k) i→i < l.length→Rc l ((i+k) % l.length):=by
   intro i h
   refine Rch.least (S:=λ i=>i < l.length→Rc l ((i+k) % l.length)) (λ i j hf hn hj=>?_) (λ i j hs hn hj=>?_) h
   ·have hi:i < l.length:=by have:=hn.1; rwa [gQ] at this
    have hn':=(sf hi hj).1 hn
    refine .one ⟨hn'.1,?_⟩ hn'
    have:=hf.2
    rwa [nX l k i hi] at this
   ·have hi:i < l.length:=by have:=hn.1; rwa [gQ] at this
    exact .more (hs hi) ((sf hi hj).1 hn)
  exact this h hi
 ·intro h
  have:∀ {m},Rc l m→∀ i,i < l.length→(i+k) % l.length=m→Rc (turn l k) i:=by
   intro m h
   refine Rch.least (S:=λ m=>∀ i,i < l.length→(i+k) % l.length=m→Rc (turn l k) i) (λ a b hf hn i hi e=>?_) (λ a b hs hn i hi e=>?_) h
   ·obtain ⟨x,hx,ex⟩:=uO hk hf.1
    subst e ex
    refine .one ⟨by rw [gQ]; exact hx,?_⟩ ((sf hx hi).2 hn)
    rw [nX l k x hx]; exact hf.2
   ·obtain ⟨x,hx,ex⟩:=uO hk hn.1
    subst e ex
    exact .more (hs x hx rfl) ((sf hx hi).2 hn)
  exact this h i hi rfl
theorem Ar (hk:k < l.length){i:Nat}(hi:i < l.length):(rcB (turn l k)).getD i false=(rcB l).getD ((i+k) % l.length) false:=by
 rw [u4 _ _ (by rw [gQ]; exact hi),u4 _ _ (Nat.mod_lt _ (by omega))]
 have:=Cr hk hi
 by_cases h:Rc (turn l k) i
 ·have h':=this.1 h
  simp [h,h']
 ·have h':¬ Rc l ((i+k) % l.length):=λ q=>h (this.2 q)
  simp [h,h']
theorem y8 (hk:k < l.length){i:Nat}(hi:i < l.length):cat (cY (turn l k)) i=cat (cY l) ((i+k) % l.length):=by
 rw [fy _ _ (by rw [gQ]; exact hi),fy _ _ (Nat.mod_lt _ (by omega)),nX l k i hi,Ar hk hi]
theorem wI (a b:Nat):((a:Int)).tmod (b:Int)=((a % b:Nat):Int):=by
 rw [Int.tmod_eq_emod_of_nonneg (by omega)]; rfl
variable (hb:∀ c∈l,aa.Bd c) (hl:l.length≤30) {B:Nat}
theorem AL (hl:l.length≤30)(h0:0 < l.length):∀ (j i:Nat),i+j=l.length→Ev2 (λ _ m=>b5 l (B:Int) m ((turn l (B % l.length)).take i) (i:Int)) (·=turn l (B % l.length)):=by
 have htl:=gQ l (B % l.length)
 intro j
 induction j with
 | zero =>
  intro i hi
  refine ap ?_
  simp only [b5]
  exact am (by omega) (ab (List.take_of_length_le (by omega)))
 | succ j ih =>
  intro i hi
  have h1:i < l.length:=by omega
  have hm:=Nat.mod_lt B h0
  have hm2:=Nat.mod_lt (i+B % l.length) h0
  refine ap ?_
  have e1:(i:Int)+((B % l.length:Nat):Int)=((i+B % l.length:Nat):Int):=by omega
  simp only [b5,e1,wI]
  rw [fo]
  refine al (by omega) (ag (aF (by omega) (by omega)) (ag (by omega) (ag (by omega) (ag (by simp only [List.length_take,List.length_cons,List.length_nil]; omega) (ag (aF (by omega) (by omega)) ?_)))))
  have:=ih (i+1) (by omega)
  rw [Int.natCast_add,Int.natCast_one,yR l _ i h1] at this
  exact this
theorem B4 (hb:∀ c∈l,aa.Bd c)(hl:l.length≤30)(h0:0 < l.length):∀ (j i:Nat),i+j=l.length→Ev2 (λ n m=>bV n l (B:Int) (cY l) (cY (turn l (B % l.length))) m (i:Int)) (·=.inl ()):=by
 have htl:=gQ l (B % l.length)
 have hpl:=dm l
 have hptl:=dm (turn l (B % l.length))
 intro j
 induction j with
 | zero =>
  intro i hi
  refine ap ?_
  simp only [bV]
  exact am (by omega) (ab rfl)
 | succ j ih =>
  intro i hi
  have h1:i < l.length:=by omega
  have hm:=Nat.mod_lt B h0
  have hm2:=Nat.mod_lt (i+B % l.length) h0
  have hn:=ih (i+1) (by omega)
  rw [Int.natCast_add,Int.natCast_one] at hn
  refine ap ?_
  have e1:(i:Int)+((B % l.length:Nat):Int)=((i+B % l.length:Nat):Int):=by omega
  simp only [bV,e1,wI]
  rw [fo (cY (turn l (B % l.length))) i,fo,y8 hm h1]
  refine al (by omega) (ag (by omega) (ag (aF (by omega) (by omega)) (ag (by omega) (ag (by omega) ?_))))
  exact ai true (oM _ (pA (pT hb) (by omega))) (am (by simp) (ag (aF (by omega) (by omega)) hn))
end
theorem zg {l:List aa}(hb:∀ c∈l,aa.Bd c)(hw:l.length≤da){B:Nat}(hB:B≤1000):Ev2 (λ n _=>fO n l (B:Int)) (·=true):=by
 simp only [fO]
 refine dw (λ t=>t=false→l.length≤30∧0 < l.length) ?_ (λ t ht=>ar (λ h=>ai true iu (ab rfl)) (λ h=>?_))
 ·refine dw _ (sZ l hw) (λ t ht=>ar (λ h=>ab (by simp)) (λ h=>ab λ h2=>?_))
  have h2:=of_decide_eq_false h2
  exact ⟨ht (by simpa using h),by omega⟩
 ·obtain ⟨hl,h0⟩:=ht (by simpa using h)
  have htl:=gQ l (B % l.length)
  have hpl:=dm l
  have hptl:=dm (turn l (B % l.length))
  have l1:=AL (B:=B) hl h0 l.length 0 (by omega)
  rw [List.take_zero] at l1
  refine ag (aF (by omega) (by omega)) (ag (by omega) (ai _ (aH (f:=λ _ m=>b5 l (B:Int) m [] 0) l1) ?_))
  refine ai _ (hQ hb hl) (ai _ (hQ (Dr hb _) (by omega)) (ai false (al (by omega) (ab (by simp [htl,hptl]))) (am (by simp) ?_)))
  exact dF () (aH (f:=λ n m=>bV n l (B:Int) (cY l) (cY (turn l (B % l.length))) m 0) (B4 hb hl h0 _ 0 (Nat.zero_add _))) (ai true iu (ab rfl))
end Go.Ab.R06
end
section
set_option linter.unusedVariables false
set_option linter.unusedSimpArgs false
set_option linter.unnecessarySimpa false
namespace Go.Ab.R06
open Go.Proofs Go.Ab Go.Ab.RB
theorem zO (qs:List PV)(h:WTa tt [22,5] qs):aB Tryz.prog 7 qs (·=.p (.val (.bool true))):=by
 match qs,h with
 | [a,b],⟨⟨n,h1,h2⟩,⟨m,k1,k2⟩,_⟩ =>
  obtain ⟨l,rfl,b1,b2⟩:=jW h1 h2
  cases m with
  | zero=>exact k1.elim
  | succ m =>
   obtain ⟨x,e1,hw⟩:=yk (k:=.u8) rfl k1
   obtain rfl:=mx e1 k2
   have hx:0≤x∧x < 256:=by
    have e1:IntKind.u8.min=0:=rfl
    have e2:IntKind.u8.max=255:=rfl
    simp [Lit.wf] at hw; omega
   obtain ⟨B,rfl⟩:∃ B:Nat,x=B:=⟨x.toNat,by omega⟩
   obtain ⟨n,r,hr,rfl⟩:=tc (zg b2 b1 (B:=B) (by omega))
   exact lX n l B true hr
end Go.Ab.R06
end
section
set_option linter.unusedSimpArgs false
set_option linter.unnecessarySimpa false
namespace Go.Proofs.YtdhapbkkniegoaaGreatDoor.lifecycleOrder
open Go.ChangeShapes Go.WideShapes Go.ChangeAt Go.RowKit
set_option linter.unusedVariables false
theorem own:ownKnob Tryz.prog.godebug=none:=by kernel_rfl
theorem laid:laidOutB Tryz.prog=true:=by kernel_rfl
theorem mapped:mapsRowed Tryz.prog=true:=by kernel_rfl
theorem full:((List.range Tryz.prog.types.size).all λ t=>match Tryz.prog.underlying t with | some (.slice e)=>decide (0 < Tryz.prog.cellsOf e) | _=>true)=true:=by kernel_rfl
theorem rowed:(([22,5]:List Nat).all λ t=>decide (t < Tryz.prog.types.size))=true:=by kernel_rfl
theorem plain:([22,35,9,27,28,33,29,3,30,31,4,5]:List Nat).all (Go.Ab.iG Go.Ab.tt [22,35,9,27,28,33,29,3,30,31,4,5])=true:=by kernel_rfl
theorem closed:([22,35,9,27,28,33,29,3,30,31,4,5]:List Nat).all (elB Tryz.prog 512 [22,35,9,27,28,33,29,3,30,31,4,5])=true:=by kernel_rfl
theorem globs:Go.Ab.oO Tryz.prog Rows.lifecycleOrderUptoRow.laid=true:=by kernel_rfl
noncomputable def laidW0 (os:Os):World :=
  { World.doorLaid Tryz.prog 72 os with heap:=(World.doorLaid Tryz.prog 72 os).heap.modify 1 fun
      | .cells _ t frozen=>.cells (Go.Ab.sM.map Go.Ab.GC.val).toArray t frozen
      | o=>o }
noncomputable def laidW (os:Os):World:=laidW0 os
theorem laid_met (os:Os):laidMetH Tryz.prog Rows.lifecycleOrderUptoRow.laid ((laidW os).forCall (λ _ _=>0) ⟨#[],#[.slice none 0 0,.int .u8 0],[]⟩).memory :=
  laidMetH_of_parts3 (fuel:=8) (laidMet_of_run' 8 (by kernel_rfl) (by kernel_rfl)) (by kernel_rfl) (by kernel_rfl)
theorem reads (os:Os){H:Type}(enc:TypeId×Value→H):(DataW.whole enc Tryz.prog ((laidW os).forCall (λ _ _=>0) ⟨#[],#[.slice none 0 0,.int .u8 0],[]⟩).memory Tryz.f7.params.toList Rows.lifecycleOrderSpec.vars false #[.slice none 0 0,.int .u8 0].toList 8).isSome=true:=by kernel_rfl
set_option maxRecDepth 100000 in
theorem small (os:Os){H:Type}(enc:TypeId×Value→H):(DataW.whole enc Tryz.prog ((laidW os).forCall (λ _ _=>0) ⟨#[],#[.slice none 0 0,.int .u8 0],[]⟩).memory Tryz.f7.params.toList Rows.lifecycleOrderSpec.vars false #[.slice none 0 0,.int .u8 0].toList 8).map (λ x=>Rows.uptoSmall H (x.1++x.2.1))=some true:=by kernel_rfl
set_option maxRecDepth 100000 in
theorem lifted (os:Os)(started:os.Started)(H:Type)(enc:TypeId×Value→H)(F:Stop.Interp) :
    ReturnsInHanded {} Tryz.checked os 7 .any ((Rows.OpenSpec.upto Rows.lifecycleOrderSpec).preRow enc Tryz.prog Tryz.f7 Rows.lifecycleOrderUptoRow.domain false Rows.lifecycleOrderUptoRow.laid) (((Rows.OpenSpec.upto Rows.lifecycleOrderSpec).at F).post enc Tryz.prog Tryz.f7 false true false false):=by
  obtain ⟨x,hx⟩:=Option.isSome_iff_exists.1 (reads os enc)
  refine returnsInHanded_of_row (C:=Tryz.checked) (s:=Rows.OpenSpec.upto Rows.lifecycleOrderSpec) own started (by kernel_rfl) Tryz.func7
    (witness_row_atRef (enc:=enc) (C:=Tryz.checked) false (laidW os) #[.slice none 0 0,.int .u8 0] rfl (by kernel_rfl) (by kernel_rfl) (by kernel_rfl)
      (OpenSpec.preRow_of_cond 8 hx rfl (λ k hk=>by cases hk; have q:=small os (H:=H) enc; rw [hx] at q; exact Option.some.inj q) (by kernel_rfl) (laid_met os))) ?_
  intro W base args ds gs before hval0 hW _ hcond hsz0 hL hsh _
  have hk:Rows.uptoSmall H (ds++gs)=true:=hcond _ rfl
  rw [MakeChecks.laidMetH_plain _ _ _ (by kernel_rfl)] at hL
  have hgl:=Go.Ab.p6 globs hL hsh
  have hval:∀ (j:Nat) t v,Tryz.f7.params[j]? = some t→args[j]? = some v→Value.okWide Tryz.prog W .any base t v:=hval0
  have hW':=hW
  obtain ⟨p,q,hA0,hV,rfl,hfz,hnd⟩:=hW
  have hA:DataW.TrodAll enc Tryz.prog W 0 (λ _=>true) true Tryz.f7.params.toList args.toList ds p:=hA0
  have hsz:(DataW.weightsEach Tryz.prog (Tryz.f7.params.toList++Rows.lifecycleOrderSpec.plain.varTypes Tryz.prog) (ds++gs)).all (·≤reachBytes)=true:=hsz0
  rw [Tryz.params7] at hA hval hsz
  obtain ⟨rfl,rfl⟩:=trodVars_none hV
  rw [List.append_nil] at hk
  clear hA0 hval0 hV hsz0
  rw [List.append_nil] at hsz
  have hA2:DataW.TrodAll enc Tryz.prog W 0 (λ _=>true) true [22,5] args.toList ds p:=hA
  have hlt:∀ x∈p,x.block < W.heap.size:=λ x hx=>hW'.lt x (List.mem_append_left _ hx)
  obtain ⟨qs,g1,g2,g3⟩:=Go.Ab.kD Go.Ab.good plain (by decide) (λ j t v hj hv=>hval j t v (by simpa using hj) (by simpa using hv)) hA2 (λ w hw=>upto_w closed (ts:=[22,5]) (by decide) hk hw)
  have hds:∃ d0 d1,ds=[d0,d1]:=by
    obtain ⟨v0,vs0,d0,ds0,p0,q0,_,e0,_,_,r0⟩:=trodAll_cons hA2
    obtain ⟨v1,vs1,d1,ds1,p1,q1,_,e1,_,_,r1⟩:=trodAll_cons r0
    obtain ⟨_,z,_⟩:=trodAll_nil r1
    exact ⟨d0,d1,by rw [e0,e1,z]⟩
  obtain ⟨d0,d1,rfl⟩:=hds
  refine (Go.Ab.grown_of (Go.Ab.R06.zO qs g3) W hgl (by simpa using g1.symm) (λ i c v hc hv=>g2 i c v hc (by simpa using hv))).mono λ e W' ⟨he,hg⟩=>?_
  subst he
  exact ⟨_,rfl,Go.Ab.ml (pa:=p) (pv:=[]) hW' (λ _ _ _=>(trodAll_cons_mk (shut_bool Tryz.underlying4 _) trodAll_mk0)) (λ sp hsp=>Go.Ab.mh laid mapped full hg rowed hlt hA2 sp (λ x hx=>hsp x (List.mem_append_left _ hx))) (λ _ _=>rfl) rfl
    hg (ok_one (by kernel_rfl) rfl (okWide_bool_mk Tryz.underlying4 _))⟩
theorem said:Rows.LifecycleOrderUptoSaid :=
  OpenClaim.holds_of_cond 7 Tryz.f7 rfl rfl rfl rfl rfl rfl rfl ⟨rfl,rfl,rfl,rfl,rfl⟩ rfl rfl rfl rfl rfl (by kernel_rfl) Tryz.func7 (by kernel_rfl)
    (of_decide_eq_true (by kernel_rfl)) (by unfold Func.isWrapper; first | (rw [if_pos (by decide +kernel)]; kernel_rfl) | (rw [if_neg (by decide +kernel)]; exact ⟨rfl,rfl⟩))
    (λ os started H enc _ F=>by rw [OpenClaim.pre_eq_preRow]; exact lifted os started H enc F)
theorem plainly (f:FuncId)(fn:Func)(hf:Tryz.pinned.checked.prog.funcNamed "provision/provisionlaw43.LifecycleOrder" = some f) (hfn:Tryz.pinned.checked.prog.funcs[f]? = some fn) :
    true=Tryz.pinned.checked.prog.looks []∧∀ (j:Nat) t,fn.params[j]? = some t→Tryz.pinned.checked.prog.wantsStandIn t=false:=by
  obtain rfl:f=7:=Option.some.inj ((show Tryz.prog.funcNamed "provision/provisionlaw43.LifecycleOrder" = some 7 by kernel_rfl).symm.trans hf) |>.symm
  obtain rfl:fn=Tryz.f7:=(Option.some.inj (Tryz.func7.symm.trans hfn)).symm
  refine ⟨by kernel_rfl,λ j t ht=>?_⟩
  rw [Tryz.params7] at ht
  have hm:t∈([22,5]:List Nat):=by have:=Array.mem_of_getElem? ht; first | (simp at this ⊢; omega) | simpa using this
  have hall:(([22,5]:List Nat).all λ u=>!Tryz.prog.wantsStandIn u)=true:=by kernel_rfl
  exact (show Tryz.prog.wantsStandIn t=false by simpa using List.all_eq_true.1 hall t hm)
theorem proved:Rows.LifecycleOrderUptoCardSaid :=
  Claim7.holds_tied_plain_at .later [] _ _ _ _ said (λ _ h=>by cases h) (by kernel_rfl) (λ _ h=>by cases h) lifecycleOrderUpto_row_tie rfl ⟨rfl,rfl⟩ (by kernel_rfl) rfl plainly (by kernel_rfl)
#print axioms proved
end Go.Proofs.YtdhapbkkniegoaaGreatDoor.lifecycleOrder
end
