/- Texts of the proof, one behind the other. No statement is proved here. -/
import Derived.WalkKit
import Derived.Lib.IndexAny
import Derived.Test.YthnafgjbhlpfgaaGreatDoorZ08Sa
import Derived.Test.YthnafgjbhlpfgaaGreatDoorZ08Sb
import Derived.Test.YthnafgjbhlpfgaaGreatDoorZ08Sc
import Derived.Test.YthnafgjbhlpfgaaGreatDoorZ08Sd
set_option maxHeartbeats 4000000
section
namespace Go.Ab.R06
open Go.Proofs Go.Ab Go.Ab.RB
attribute [local irreducible] awp ea aO au bs AV.sub M bY
def csH (v:aa):List PV:=[eI v.AT,eI v.A',eS v.By,eL (λ _=>PV.agg []) v.Ar,eL eS v.AI]
theorem qu (n:Nat)(Cz:aa)(s_1:ac)(r:Int×Int)(h0:dZ n Cz s_1=some r):au Tryz.prog 42 [.agg (csH Cz),.agg (ac.cs s_1)] (·=.tuple [.p (eI r.1),.p (eI r.2)]):=by
 unfold dZ at h0;refine aZ good Tryz.func42 Z Z Z λ w0=>mP (λ v:Int×Int=>.tuple [.p (eI v.1),.p (eI v.2)]) ?_;refine nx 14 Z (fD [10] h0 Z (λ c1 h0=>?_) λ c1 h0=>?_)
 ·exact nx 7 Z (mQ (oi h0) Z (ar ⟨sr,sr,trivial⟩))
 refine nx 4 Z (bd h0 λ o14 h1 h0=>?_);refine kN o14 (λ v15=>⟨[(2,.ptr 2 0),(3,.ptr 3 0),(27,.p (eB v15))],[(2,(csH Cz).map .p),(3,(ac.cs s_1).map .p)]⟩) ?_ ?_
 ·refine nx 1 Z (fB [27] h0 Z (λ c7 h0=>?_) λ c7 h0=>?_)
  ·exact nx 7 Z (mQ (oi h0) Z (ar ⟨sr,sr,trivial⟩))
  refine nx 8 Z (fB [29] h0 Z (λ c8 h0=>?_) λ c8 h0=>?_)
  ·refine nx 8 Z (oLl (f:=λ _:aa=>PV.agg []) Z Z ?_);refine nx 2 Z (fD [35] h0 Z (λ c9 h0=>?_) λ c9 h0=>?_)
   ·exact nx 7 Z (mQ (oi h0) Z (ar ⟨sr,sr,trivial⟩))
   exact nx 10 Z (mQ (oi h0) Z (ar ⟨sr,sr,trivial⟩))
  refine nx 8 Z (bd h0 λ CG D7 h0=>?_);refine oK (cn _ Cz.AI s_1.BY _ D7) Z ⟨sr,sr,trivial⟩ Tryz.call71 Z (nx 12 Z ?_);refine fB [47] h0 Z (λ D9 h0=>?_) λ D9 h0=>?_
  ·exact nx 7 Z (mQ (oi h0) Z (ar ⟨sr,sr,trivial⟩))
  exact nx 9 Z (mQ (oi h0) Z (ar ⟨sr,sr,trivial⟩))
 refine nx 4 Z (fB [12,13] h1 Z (λ c2 h1=>?_) λ c2 h1=>?_)
 ·refine nx 5 Z (fN [16,17,18] h1 Z (λ c3 h1=>?_) λ c3 h1=>?_)
  ·refine nx 4 Z (fB [21,22] h1 Z (λ c4 h1=>?_) λ c4 h1=>?_)
   ·exact nx 6 Z (eX _ (oi h1).symm (gE Z Z))
   exact nx 6 Z (eX _ (oi h1).symm (gE Z Z))
  exact nx 10 Z (eX _ (oi h1).symm (gE Z Z))
 refine nx 9 Z (fB [21,22] h1 Z (λ c5 h1=>?_) λ c5 h1=>?_)
 ·exact nx 6 Z (eX _ (oi h1).symm (gE Z Z))
 exact nx 6 Z (eX _ (oi h1).symm (gE Z Z))
def Val:List Nat->aa->Prop|[],_=>True|i::q,v=>∃ y,v.Ar[i]? = some y/\Val q y
theorem kG (r:aa->Option aa)(v:aa):∀ (m:Nat) (t:Int) (l o:List aa),bC r v m t l=some o->0<=t->l.length=o.length/\∀ j:Nat,(j:Int)<t->o[j]? = l[j]?
  | 0,_,_,_,h,_=>by cases h
  | m+1,t,l,o,h,h0=>by
    rw [bC] at h;split at h
    · obtain ⟨k1,h⟩:=cU h;obtain ⟨CX,k2,h⟩:=Option.bind_eq_some_iff.1 h;obtain ⟨k3,h⟩:=cU h;obtain ⟨k4,h⟩:=cU h;obtain ⟨e1,e2⟩:=kG r v m _ _ _ h O;refine ⟨by rw [<- e1,List.length_set],λ j hj=>?_⟩;rw [e2 j O,List.getElem?_set_ne O]
    · cases h
      exact ⟨Z,λ _ _=>rfl⟩
def cpI (v:aa)(i:Nat)(y:aa)(qq:Bool×Int×List aa):Prop:=0<=qq.2.1/\qq.2.2.length=v.Ar.length/\(qq.1=true->(i:Int)<qq.2.1)/\(qq.1=false->qq.2.1<=(i:Int))
noncomputable def cpL (n:Nat) (v:aa) (i:Nat) (y:aa) (m:Nat) (qq:Bool×Int×List aa):Option (List aa):=@ck _ (cpI v i y qq) (Classical.propDecidable _) (bC (bu n) v m qq.2.1 qq.2.2)
theorem Ci (n:Nat)(v:aa)(i:Nat)(y:aa)(qq:Bool×Int×List aa):cpL n v i y 0 qq=none:=by
  unfold cpL ck; split <;> rfl
theorem zX {n:Nat}{v:aa}{i:Nat}{y:aa}{m:Nat}{qq:Bool×Int×List aa}{o:List aa}(h:cpL n v i y m qq=some o):cpI v i y qq/\bC (bu n) v m qq.2.1 qq.2.2=some o:=@cU _ _ (Classical.propDecidable _) _ _ h
theorem rx {n:Nat}{v:aa}{i:Nat}{y:aa}{m:Nat}{qq:Bool×Int×List aa}{o:List aa}(h:cpI v i y qq)(h2:bC (bu n) v m qq.2.1 qq.2.2=some o):cpL n v i y m qq=some o:=(@dX _ _ (Classical.propDecidable _) _ h).trans h2
theorem BM {a n k u:Nat}(h:(tks a n)[k]? = some u):k<n/\u=a+k:=by
  have hk:k<n:=by have:=(List.getElem?_eq_some_iff.1 h).1; simpa [tks] using this
  unfold tks at h;rw [List.getElem?_range' hk] at h
  cases h
  exact ⟨hk,by omega⟩
theorem Au {a n k:Nat}(h:k<n):(tks a n)[k]? = some (a+k):=by
  unfold tks;rw [List.getElem?_range' h,Nat.one_mul]
theorem qm (n:Nat):∀ (q:List Nat) (Cz r:aa),bu n Cz=some r->Val q r->q.length<=32->CopC Tryz.prog 43 q Cz r:=by
 induction n with
 | zero=>intro q Cz r h0; cases h0
 | succ n ih=>
 intro q Cz r h0 hv hq
 cases q with
 | nil=>exact fo (n+1) Cz r h0
 | cons i q=>
 rw [bu] at h0;refine gN good (101000::tks 104000 31) [] Tryz.func43 Z Z Z Z Z λ w0 F=>mPo (λ v:aa=>.agg [.p (eI v.AT),.p (eI v.A'),.p (eS v.By),.sem (tks 2000000 32) (Node (tks 2000000 32) (i::q) v),.p (eL eS v.AI)]) (λ v=>[]) ?_;refine nx 9 rfl (cc' h0 λ EK h0=>?_);refine oK (ew Cz.AI EK) rfl ⟨sr,trivial⟩ Tryz.call72 rfl (nx 7 rfl ?_);rcases Bool.eq_false_or_eq_true Cz.Ar.isEmpty with c2|c2
 ·exfalso;replace h0:=zE c2 h0;obtain ⟨_,_,h0⟩:=Option.bind_eq_some_iff.1 h0
  cases h0
  obtain ⟨y,hy,_⟩:=hv
  cases hy
 replace h0:=zf c2 h0;refine cc' h0 λ EB h0=>mO Z (br [] [] 101000 101001 (dw Cz.Ar c2 EB) Z Z Z Z Z ⟨sr,trivial⟩ Z Z trivial Z Z Z Z Z Z Z Z Tryz.call73 Z (lf Z (jK _) Z) ?_);refine nx 12 Z (bd h0 λ Ei h1 h0=>?_)
 obtain ⟨y,hy,hvy⟩:∃ y,Ei[i]? = some y/\Val q y:=by
  have e:=Option.some.inj h0;rw [<- e] at hv;exact hv
 have CE:=(kG _ _ _ _ _ _ h1 (Int.le_refl _)).1;have hil:i<Ei.length:=(List.getElem?_eq_some_iff.1 hy).1;refine kE 0 Ei (λ FC=>⟨[(1,.ptr 1 0),(2,.ptr 2 0)],[(1,[.p (eI Cz.AT),.p (eI Cz.A'),.p (eS Cz.By),.arr 101000 5 0 FC.length,.p (eL eS Cz.AI)]),(2,[.p (eI 0),.p (eI 0),.p (eS ([]:Bk)),.p (.val (.slice none 0 0)),.p (.val (.slice none 0 0))]),(101000,eN FC i (.sem (tks 104000 32) (Node (tks 104000 32) q y)))]⟩) ?_ ?_
 ·refine nx 3 Z (mG (uH (sl':=[(1,.ptr 1 0),(2,.ptr 2 0)]) (ob':=[(1,[.p (eI Cz.AT),.p (eI Cz.A'),.p (eS Cz.By),(.sem (101000::tks 104000 31) (Node (101000::tks 104000 31) (i::q) (aa.mk Cz.AT Cz.A' Cz.By Ei Cz.AI))),.p (eL eS Cz.AI)]),(2,[.p (eI 0),.p (eI 0),.p (eS ([]:Bk)),.p (.val (.slice none 0 0)),.p (.val (.slice none 0 0))])]) 101000 i (tks 104000 31) q (aa.mk Cz.AT Cz.A' Cz.By Ei Cz.AI) y Z Z Z (mT _ _ _) hy ⟨_,vz hil,xb λ k hk u hu=>(by rw [Au (by simp only [d4] at hq; omega),(BM hu).2])⟩ (λ j m z p hz hp=>(Classical.em (j=i/\m=3)).imp id λ h=>xq hz hp h) ⟨⟨_,Z,.inl Z⟩,⟨_,Z,.inl Z⟩,trivial⟩ ⟨⟨Z,_,Z,⟨.inl Z,.inl Z,.inl Z,.inr ⟨Z,Z⟩,.inl Z,trivial⟩⟩,⟨Z,_,Z,⟨.inl Z,.inl Z,.inl Z,.inl Z,.inl Z,trivial⟩⟩,trivial⟩) ?_);exact nx 4 Z (mQo (oi h0) (bB _) Z Z Z Z (l7 ⟨sr,sr,sr,oR Z (λ _ _ _ h=>h),sr,trivial⟩) trivial)
 refine lG (λ (qq:Bool×Int×List aa)=>match qq with|(false,t,l)=>(⟨[(1,.ptr 1 0),(2,.ptr 2 0),(14,.p (eI (Cz.Ar.length:Int))),(15,.p (eI t))],[(1,[.p (eI Cz.AT),.p (eI Cz.A'),.p (eS Cz.By),.arr 101000 5 0 l.length,.p (eL eS Cz.AI)]),(2,[.p (eI 0),.p (eI 0),.p (eS ([]:Bk)),.p (.val (.slice none 0 0)),.p (.val (.slice none 0 0))]),(101000,d5 ah l)]⟩:AS)|(true,t,l)=>⟨[(1,.ptr 1 0),(2,.ptr 2 0),(14,.p (eI (Cz.Ar.length:Int))),(15,.p (eI t))],[(1,[.p (eI Cz.AT),.p (eI Cz.A'),.p (eS Cz.By),.arr 101000 5 0 l.length,.p (eL eS Cz.AI)]),(2,[.p (eI 0),.p (eI 0),.p (eS ([]:Bk)),.p (.val (.slice none 0 0)),.p (.val (.slice none 0 0))]),(101000,eN l i (.sem (tks 104000 32) (Node (tks 104000 32) q y)))]⟩) (cpL n Cz i y) (Ci n Cz i y) (false,0,Cz.Ar) (rx ⟨Int.le_refl _,rfl,λ h=>Bool.noConfusion h,λ _=>Int.natCast_nonneg i⟩ h1) (bS (fS ⟨er rfl,er rfl,er rfl,er rfl,trivial⟩ ⟨⟨_,rfl,⟨sr,sr,sr,AV.sub_of_eq (congrArg (AV.arr 101000 5 0) G),sr,trivial⟩⟩,⟨_,rfl,⟨sr,sr,sr,sr,sr,trivial⟩⟩,⟨_,rfl,cq _⟩,trivial⟩)) ?_;rintro m ⟨b,CS,l18⟩ h9;obtain ⟨⟨hi0,hi1,hit,hif⟩,h1⟩:=zX h9
 clear h9
 replace hi0:0<=CS:=hi0;replace hi1:l18.length=Cz.Ar.length:=hi1;replace h1:bC (bu n) Cz (m+1) CS l18=some Ei:=h1;rw [bC] at h1
 cases b with
 | false=>
  replace hif:CS<=(i:Int):=hif rfl;refine nx 5 Z (fD [16] h1 Z (λ D8 h1=>?_) λ D8 h1=>?_)
  ·refine nx 9 Z (cc' h1 λ C4 h1=>?_);refine bd h1 λ CX Et h1=>cc' h1 λ DI h1=>?_;by_cases e:CS.toNat=i
   ·subst e
    obtain rfl:CX=y:=by
     obtain ⟨_,h2⟩:=cU h1;have h3:=(kG _ _ _ _ _ _ h2 O).2 CS.toNat O;rw [hy,List.getElem?_set_self O] at h3;exact (Option.some.inj h3).symm
    refine mG (bS (t:=⟨[(1,.ptr 1 0),(2,.ptr 2 0),(3,.p (eI CS)),(14,.p (eI (Cz.Ar.length:Int))),(15,.p (eI CS))],[(1,[.p (eI Cz.AT),.p (eI Cz.A'),.p (eS Cz.By),.arr 101000 5 0 l18.length,.p (eL eS Cz.AI)]),(2,[.p (eI 0),.p (eI 0),.p (eS ([]:Bk)),.p (.val (.slice none 0 0)),.p (.val (.slice none 0 0))]),(101000,d5 ah l18)]⟩) (fS ⟨er Z,er Z,er Z,er Z,er Z,trivial⟩ ⟨⟨_,Z,⟨sr,sr,sr,AV.sub_of_eq (congrArg (AV.arr 101000 5 0) G),sr,trivial⟩⟩,⟨_,Z,⟨sr,sr,sr,sr,sr,trivial⟩⟩,⟨_,Z,cq _⟩,trivial⟩)) (mS ⟨2,[8,10],(by2 (.some (bz [] 104000 104032)) .none),(λ _=>[(1,.ptr 1 0),(2,.ptr 2 0),(3,.p (eI CS)),(14,.p (eI (Cz.Ar.length:Int))),(15,.p (eI CS))]),(by3 ([(1,[.p (eI Cz.AT),.p (eI Cz.A'),.p (eS Cz.By),.arr 101000 5 0 l18.length,.p (eL eS Cz.AI)]),(2,[.p (eI 0),.p (eI 0),.p (eS ([]:Bk)),.p (.val (.slice none 0 0)),.p (.val (.slice none 0 0))]),(101000,d5 ah l18)]) ([(1,[.p (eI Cz.AT),.p (eI Cz.A'),.p (eS Cz.By),.arr 101000 5 0 l18.length,.p (eL eS Cz.AI)]),(2,[.p (eI 0),.p (eI 0),.p (eS ([]:Bk)),.p (.val (.slice none 0 0)),.p (.val (.slice none 0 0))]),(101000,d5 ah l18)]) ([(101000,eN (l18.set CS.toNat CX) CS.toNat (.sem (tks 104000 32) (Node (tks 104000 32) q CX))),(1,[.p (eI Cz.AT),.p (eI Cz.A'),.p (eS Cz.By),.arr 101000 5 0 l18.length,.p (eL eS Cz.AI)]),(2,[.p (eI 0),.p (eI 0),.p (eS ([]:Bk)),.p (.val (.slice none 0 0)),.p (.val (.slice none 0 0))]),(101000,d5 ah l18)]))⟩ Z Z Z ⟨Z,Z,Z,Z,Z,trivial⟩ (lt2 ⟨Z,Z,Z,Z,Z,trivial⟩ ⟨Z,Z,Z,Z,Z,trivial⟩) Z Z Z Z ?_);refine al (λ _=>.ptr 1 3) Z Z Z (bj Z Z Y) (lt2 Z Z) (aj Z (af [(1,_)] ⟨.inl Z,trivial⟩ (λ sl Cy K hK=>ae Z (aD Z Z Z Z Z Z Z Z (Cy _ _ Z) hK)) (af [(1,_)] ⟨.inl Z,trivial⟩ (λ sl Cy K hK=>ae Z (aD Z Z Z Z Z Z Z Z (Cy _ _ Z) hK)) ak))) (al (λ _=>.arr 101000 5 0 l18.length) Z Z Z (bj Z Z Y) (lt2 Z Z) (aj Z (af [(18,_)] ⟨.inr ⟨0,_,Z,Z,Z⟩,trivial⟩ (λ sl Cy K hK=>ae Z (bm Z Z Z Z Z (Cy _ _ Z) Z Z hK)) (af [(18,_)] ⟨.inr ⟨0,_,Z,Z,Z⟩,trivial⟩ (λ sl Cy K hK=>ae Z (bm Z Z Z Z Z (Cy _ _ Z) Z Z hK)) ak))) ?_);refine al (λ _=>.p (eI CS)) Z Z Z (bj Z Z Y) (lt2 Z Z) (aj Z (af [(3,_)] ⟨.inl Z,trivial⟩ (λ sl Cy K hK=>ae Z (aA Z Z Z (Cy _ _ Z) hK)) (af [(3,_)] ⟨.inl Z,trivial⟩ (λ sl Cy K hK=>ae Z (aA Z Z Z (Cy _ _ Z) hK)) ak))) (al (λ _=>.ptr 1 3) Z Z Z (bj Z Z Y) (lt2 Z Z) (aj Z (af [(1,_)] ⟨.inl Z,trivial⟩ (λ sl Cy K hK=>ae Z (aD Z Z Z Z Z Z Z Z (Cy _ _ Z) hK)) (af [(1,_)] ⟨.inl Z,trivial⟩ (λ sl Cy K hK=>ae Z (aD Z Z Z Z Z Z Z Z (Cy _ _ Z) hK)) ak))) ?_);refine al (λ _=>.arr 101000 5 0 l18.length) Z Z Z (bj Z Z Y) (lt2 Z Z) (aj Z (af [(21,_)] ⟨.inr ⟨3,_,Z,Z,Z⟩,trivial⟩ (λ sl Cy K hK=>ae Z (bm Z Z Z Z Z (Cy _ _ Z) Z Z hK)) (af [(21,_)] ⟨.inr ⟨3,_,Z,Z,Z⟩,trivial⟩ (λ sl Cy K hK=>ae Z (bm Z Z Z Z Z (Cy _ _ Z) Z Z hK)) ak))) (al (λ _=>.p (eI CS)) Z Z Z (bj Z Z Y) (lt2 Z Z) (aj Z (af [(3,_)] ⟨.inl Z,trivial⟩ (λ sl Cy K hK=>ae Z (aA Z Z Z (Cy _ _ Z) hK)) (af [(3,_)] ⟨.inl Z,trivial⟩ (λ sl Cy K hK=>ae Z (aA Z Z Z (Cy _ _ Z) hK)) ak))) ?_);refine al (λ _=>.ptr 101000 (0+CS.toNat*5)) Z Z Z (bj Z Z Y) (lt2 Z Z) (aj Z (af [(22,_),(23,_)] ⟨.inr ⟨4,_,Z,Z,Z⟩,.inr ⟨5,_,Z,Z,Z⟩,trivial⟩ (λ sl Cy K hK=>ae Z (cz Z Z Z Z Z Z (Cy _ _ Z) (Cy _ _ Z) Z C4 hK)) (af [(22,_),(23,_)] ⟨.inr ⟨4,_,Z,Z,Z⟩,.inr ⟨5,_,Z,Z,Z⟩,trivial⟩ (λ sl Cy K hK=>ae Z (cz Z Z Z Z Z Z (Cy _ _ Z) (Cy _ _ Z) Z C4 hK)) ak))) (al (λ _=>.p (.agg (aa.cs (lat l18 CS)))) Z Z Z (bj Z Z Y) (lt2 Z Z) (aj Z (aj Z (af [(24,_)] ⟨.inr ⟨6,_,Z,Z,Z⟩,trivial⟩ (λ sl Cy K hK=>ae Z (lV ah aa.cs l18 Z Z Z Z Z (Cy _ _ Z) Z Z Z C4 aa.B' Y hK)) ak))) ?_);refine cQ (λ _=>q5 104000 q CX) [(25,_)] Z ⟨.inr ⟨7,_,Z,Z,Z⟩,trivial⟩ Z Z (bK Z Y) (lt2 (λ h=>absurd h (by decide)) Y) (λ sl Cy K hK=>ae Z (sk (ih q (lat l18 CS) CX Et hvy (by simp only [d4] at hq; omega)) Z Z Z (am (Cy _ _ Z) aM) Tryz.call43 (wk Z Z (wk Z Z (Ak Z Z))) hK)) (al (λ _=>.ptr 101000 (0+CS.toNat*5)) Z Z Z (bj Z Z Y) (lt2 Z Z) (aj Z (af [(19,_),(20,_)] ⟨.inr ⟨1,_,Z,Z,Z⟩,.inr ⟨2,_,Z,Z,Z⟩,trivial⟩ (λ sl Cy K hK=>ae Z (cz Z Z Z Z Z Z (Cy _ _ Z) (Cy _ _ Z) Z DI hK)) (aj Z ak))) ?_);refine ct [(26,_),(27,_)] Z ⟨.inr ⟨8,_,Z,Z,Z⟩,.inr ⟨9,_,Z,Z,Z⟩,trivial⟩ Z (λ sl Cy K hK=>ae Z (se l18 (tks 104000 32) (Node (tks 104000 32) q CX) CX (n:=CS) Z Z Z (Cy _ _ Z) (Cy _ _ Z) Z Z DI hK)) (eY ?_);refine nx 2 Z (oA h1 Z Z λ D6 h1=>?_);exact nx 2 Z (eX (true,CS+1,l18.set CS.toNat CX) (rx ⟨by show 0<=CS+1; omega,by show (l18.set _ _).length=_; rw [List.length_set]; exact hi1,λ _=>(by show ((CS.toNat:Nat):Int)<CS+1; omega),λ h=>Bool.noConfusion h⟩ h1) (bS (fS ⟨er Z,er Z,er Z,er Z,trivial⟩ ⟨⟨_,Z,⟨sr,sr,sr,AV.sub_of_eq (congrArg (AV.arr 101000 5 0) G),sr,trivial⟩⟩,⟨_,Z,⟨sr,sr,sr,sr,sr,trivial⟩⟩,⟨_,Z,cq _⟩,trivial⟩)))
   refine mG (bS (t:=⟨[(1,.ptr 1 0),(2,.ptr 2 0),(3,.p (eI CS)),(14,.p (eI (Cz.Ar.length:Int))),(15,.p (eI CS))],[(1,[.p (eI Cz.AT),.p (eI Cz.A'),.p (eS Cz.By),.arr 101000 5 0 l18.length,.p (eL eS Cz.AI)]),(2,[.p (eI 0),.p (eI 0),.p (eS ([]:Bk)),.p (.val (.slice none 0 0)),.p (.val (.slice none 0 0))]),(101000,d5 ah l18)]⟩) (fS ⟨er Z,er Z,er Z,er Z,er Z,trivial⟩ ⟨⟨_,Z,⟨sr,sr,sr,AV.sub_of_eq (congrArg (AV.arr 101000 5 0) G),sr,trivial⟩⟩,⟨_,Z,⟨sr,sr,sr,sr,sr,trivial⟩⟩,⟨_,Z,cq _⟩,trivial⟩)) (mS ⟨1,[10],(λ _=>.none),(λ _=>[(1,.ptr 1 0),(2,.ptr 2 0),(3,.p (eI CS)),(14,.p (eI (Cz.Ar.length:Int))),(15,.p (eI CS))]),(by2 ([(1,[.p (eI Cz.AT),.p (eI Cz.A'),.p (eS Cz.By),.arr 101000 5 0 l18.length,.p (eL eS Cz.AI)]),(2,[.p (eI 0),.p (eI 0),.p (eS ([]:Bk)),.p (.val (.slice none 0 0)),.p (.val (.slice none 0 0))]),(101000,d5 ah l18)]) ([(101000,d5 ah (l18.set CS.toNat CX)),(1,[.p (eI Cz.AT),.p (eI Cz.A'),.p (eS Cz.By),.arr 101000 5 0 l18.length,.p (eL eS Cz.AI)]),(2,[.p (eI 0),.p (eI 0),.p (eS ([]:Bk)),.p (.val (.slice none 0 0)),.p (.val (.slice none 0 0))]),(101000,d5 ah l18)]))⟩ Z Z Z ⟨Z,Z,Z,Z,Z,trivial⟩ (lt1 ⟨Z,Z,Z,Z,Z,trivial⟩) Z Z Z Z ?_);refine al (λ _=>.ptr 1 3) Z Z Z (bK Z Y) (lt1 Z) (aj Z (af [(1,_)] ⟨.inl Z,trivial⟩ (λ sl Cy K hK=>ae Z (aD Z Z Z Z Z Z Z Z (Cy _ _ Z) hK)) ak)) (al (λ _=>.arr 101000 5 0 l18.length) Z Z Z (bK Z Y) (lt1 Z) (aj Z (af [(18,_)] ⟨.inr ⟨0,_,Z,Z,Z⟩,trivial⟩ (λ sl Cy K hK=>ae Z (bm Z Z Z Z Z (Cy _ _ Z) Z Z hK)) ak)) ?_);refine al (λ _=>.p (eI CS)) Z Z Z (bK Z Y) (lt1 Z) (aj Z (af [(3,_)] ⟨.inl Z,trivial⟩ (λ sl Cy K hK=>ae Z (aA Z Z Z (Cy _ _ Z) hK)) ak)) (al (λ _=>.ptr 1 3) Z Z Z (bK Z Y) (lt1 Z) (aj Z (af [(1,_)] ⟨.inl Z,trivial⟩ (λ sl Cy K hK=>ae Z (aD Z Z Z Z Z Z Z Z (Cy _ _ Z) hK)) ak)) ?_);refine al (λ _=>.arr 101000 5 0 l18.length) Z Z Z (bK Z Y) (lt1 Z) (aj Z (af [(21,_)] ⟨.inr ⟨3,_,Z,Z,Z⟩,trivial⟩ (λ sl Cy K hK=>ae Z (bm Z Z Z Z Z (Cy _ _ Z) Z Z hK)) ak)) (al (λ _=>.p (eI CS)) Z Z Z (bK Z Y) (lt1 Z) (aj Z (af [(3,_)] ⟨.inl Z,trivial⟩ (λ sl Cy K hK=>ae Z (aA Z Z Z (Cy _ _ Z) hK)) ak)) ?_);refine al (λ _=>.ptr 101000 (0+CS.toNat*5)) Z Z Z (bK Z Y) (lt1 Z) (aj Z (af [(22,_),(23,_)] ⟨.inr ⟨4,_,Z,Z,Z⟩,.inr ⟨5,_,Z,Z,Z⟩,trivial⟩ (λ sl Cy K hK=>ae Z (cz Z Z Z Z Z Z (Cy _ _ Z) (Cy _ _ Z) Z C4 hK)) ak)) (al (λ _=>.p (.agg (aa.cs (lat l18 CS)))) Z Z Z (bK Z Y) (lt1 Z) (aj Z (af [(24,_)] ⟨.inr ⟨6,_,Z,Z,Z⟩,trivial⟩ (λ sl Cy K hK=>ae Z (lV ah aa.cs l18 Z Z Z Z Z (Cy _ _ Z) Z Z Z C4 aa.B' Y hK)) ak)) ?_);refine al (λ _=>.p (.agg (aa.cs CX))) Z Z Z (bK Z Y) (lt1 Z) (aj Z (af [(25,_)] ⟨.inr ⟨7,_,Z,Z,Z⟩,trivial⟩ (λ sl Cy K hK=>ae Z (aY (fo n (lat l18 CS) _ Et) Z Z Z (am (Cy _ _ Z) aM) ⟨sr,trivial⟩ Tryz.call43 Z hK)) ak)) (al (λ _=>.ptr 101000 (0+CS.toNat*5)) Z Z Z (bK Z Y) (lt1 Z) (aj Z (af [(19,_),(20,_)] ⟨.inr ⟨1,_,Z,Z,Z⟩,.inr ⟨2,_,Z,Z,Z⟩,trivial⟩ (λ sl Cy K hK=>ae Z (cz Z Z Z Z Z Z (Cy _ _ Z) (Cy _ _ Z) Z DI hK)) ak)) ?_);refine ct [(26,_),(27,_)] Z ⟨.inr ⟨8,_,Z,Z,Z⟩,.inr ⟨9,_,Z,Z,Z⟩,trivial⟩ Z (λ sl Cy K hK=>ae Z (kD ah aa.cs l18 CX (n:=CS) Z Z Z (Cy _ _ Z) (Cy _ _ Z) Z Z Z DI aa.B' Y Y hK)) (eY ?_);refine nx 2 Z (oA h1 Z Z λ D6 h1=>?_);exact nx 2 Z (eX (false,CS+1,l18.set CS.toNat CX) (rx ⟨by show 0<=CS+1; omega,by show (l18.set _ _).length=_; rw [List.length_set]; exact hi1,λ h=>Bool.noConfusion h,λ _=>(by show CS+1<=(i:Int); omega)⟩ h1) (bS (fS ⟨er Z,er Z,er Z,er Z,trivial⟩ ⟨⟨_,Z,⟨sr,sr,sr,AV.sub_of_eq (congrArg (AV.arr 101000 5 0) G),sr,trivial⟩⟩,⟨_,Z,⟨sr,sr,sr,sr,sr,trivial⟩⟩,⟨_,Z,cq _⟩,trivial⟩)))
  exfalso
  cases h1
  omega
 | true=>
  replace hit:(i:Int)<CS:=hit rfl;have CQ:CS.toNat≠i:=by omega
  refine nx 5 Z (fD [16] h1 Z (λ D8 h1=>?_) λ D8 h1=>?_)
  ·refine nx 9 Z (cc' h1 λ C4 h1=>?_);refine bd h1 λ CX Et h1=>cc' h1 λ DI h1=>?_;refine mG (bS (t:=⟨[(1,.ptr 1 0),(2,.ptr 2 0),(3,.p (eI CS)),(14,.p (eI (Cz.Ar.length:Int))),(15,.p (eI CS))],[(1,[.p (eI Cz.AT),.p (eI Cz.A'),.p (eS Cz.By),.arr 101000 5 0 l18.length,.p (eL eS Cz.AI)]),(2,[.p (eI 0),.p (eI 0),.p (eS ([]:Bk)),.p (.val (.slice none 0 0)),.p (.val (.slice none 0 0))]),(101000,eN l18 i (.sem (tks 104000 32) (Node (tks 104000 32) q y)))]⟩) (fS ⟨er Z,er Z,er Z,er Z,er Z,trivial⟩ ⟨⟨_,Z,⟨sr,sr,sr,AV.sub_of_eq (congrArg (AV.arr 101000 5 0) G),sr,trivial⟩⟩,⟨_,Z,⟨sr,sr,sr,sr,sr,trivial⟩⟩,⟨_,Z,cq _⟩,trivial⟩)) (mS ⟨1,[10],(λ _=>.none),(λ _=>[(1,.ptr 1 0),(2,.ptr 2 0),(3,.p (eI CS)),(14,.p (eI (Cz.Ar.length:Int))),(15,.p (eI CS))]),(by2 ([(1,[.p (eI Cz.AT),.p (eI Cz.A'),.p (eS Cz.By),.arr 101000 5 0 l18.length,.p (eL eS Cz.AI)]),(2,[.p (eI 0),.p (eI 0),.p (eS ([]:Bk)),.p (.val (.slice none 0 0)),.p (.val (.slice none 0 0))]),(101000,eN l18 i (.sem (tks 104000 32) (Node (tks 104000 32) q y)))]) ([(101000,eN (l18.set CS.toNat CX) i (.sem (tks 104000 32) (Node (tks 104000 32) q y))),(1,[.p (eI Cz.AT),.p (eI Cz.A'),.p (eS Cz.By),.arr 101000 5 0 l18.length,.p (eL eS Cz.AI)]),(2,[.p (eI 0),.p (eI 0),.p (eS ([]:Bk)),.p (.val (.slice none 0 0)),.p (.val (.slice none 0 0))]),(101000,eN l18 i (.sem (tks 104000 32) (Node (tks 104000 32) q y)))]))⟩ Z Z Z ⟨Z,Z,Z,Z,Z,trivial⟩ (lt1 ⟨Z,Z,Z,Z,Z,trivial⟩) Z Z Z Z ?_);refine al (λ _=>.ptr 1 3) Z Z Z (bK Z Y) (lt1 Z) (aj Z (af [(1,_)] ⟨.inl Z,trivial⟩ (λ sl Cy K hK=>ae Z (aD Z Z Z Z Z Z Z Z (Cy _ _ Z) hK)) ak)) (al (λ _=>.arr 101000 5 0 l18.length) Z Z Z (bK Z Y) (lt1 Z) (aj Z (af [(18,_)] ⟨.inr ⟨0,_,Z,Z,Z⟩,trivial⟩ (λ sl Cy K hK=>ae Z (bm Z Z Z Z Z (Cy _ _ Z) Z Z hK)) ak)) ?_);refine al (λ _=>.p (eI CS)) Z Z Z (bK Z Y) (lt1 Z) (aj Z (af [(3,_)] ⟨.inl Z,trivial⟩ (λ sl Cy K hK=>ae Z (aA Z Z Z (Cy _ _ Z) hK)) ak)) (al (λ _=>.ptr 1 3) Z Z Z (bK Z Y) (lt1 Z) (aj Z (af [(1,_)] ⟨.inl Z,trivial⟩ (λ sl Cy K hK=>ae Z (aD Z Z Z Z Z Z Z Z (Cy _ _ Z) hK)) ak)) ?_);refine al (λ _=>.arr 101000 5 0 l18.length) Z Z Z (bK Z Y) (lt1 Z) (aj Z (af [(21,_)] ⟨.inr ⟨3,_,Z,Z,Z⟩,trivial⟩ (λ sl Cy K hK=>ae Z (bm Z Z Z Z Z (Cy _ _ Z) Z Z hK)) ak)) (al (λ _=>.p (eI CS)) Z Z Z (bK Z Y) (lt1 Z) (aj Z (af [(3,_)] ⟨.inl Z,trivial⟩ (λ sl Cy K hK=>ae Z (aA Z Z Z (Cy _ _ Z) hK)) ak)) ?_);refine al (λ _=>.ptr 101000 (0+CS.toNat*5)) Z Z Z (bK Z Y) (lt1 Z) (aj Z (af [(22,_),(23,_)] ⟨.inr ⟨4,_,Z,Z,Z⟩,.inr ⟨5,_,Z,Z,Z⟩,trivial⟩ (λ sl Cy K hK=>ae Z (cz Z Z Z Z Z Z (Cy _ _ Z) (Cy _ _ Z) Z C4 hK)) ak)) (al (λ _=>.p (.agg (aa.cs (lat l18 CS)))) Z Z Z (bK Z Y) (lt1 Z) (aj Z (af [(24,_)] ⟨.inr ⟨6,_,Z,Z,Z⟩,trivial⟩ (λ sl Cy K hK=>ae Z (sR l18 i (.sem (tks 104000 32) (Node (tks 104000 32) q y)) Z Z Z Z Z (Cy _ _ Z) Z Z C4 CQ hK)) ak)) ?_);refine al (λ _=>.p (.agg (aa.cs CX))) Z Z Z (bK Z Y) (lt1 Z) (aj Z (af [(25,_)] ⟨.inr ⟨7,_,Z,Z,Z⟩,trivial⟩ (λ sl Cy K hK=>ae Z (aY (fo n (lat l18 CS) _ Et) Z Z Z (am (Cy _ _ Z) aM) ⟨sr,trivial⟩ Tryz.call43 Z hK)) ak)) (al (λ _=>.ptr 101000 (0+CS.toNat*5)) Z Z Z (bK Z Y) (lt1 Z) (aj Z (af [(19,_),(20,_)] ⟨.inr ⟨1,_,Z,Z,Z⟩,.inr ⟨2,_,Z,Z,Z⟩,trivial⟩ (λ sl Cy K hK=>ae Z (cz Z Z Z Z Z Z (Cy _ _ Z) (Cy _ _ Z) Z DI hK)) ak)) ?_);refine ct [(26,_),(27,_)] Z ⟨.inr ⟨8,_,Z,Z,Z⟩,.inr ⟨9,_,Z,Z,Z⟩,trivial⟩ Z (λ sl Cy K hK=>ae Z (sn l18 i (.sem (tks 104000 32) (Node (tks 104000 32) q y)) CX (n:=CS) Z Z Z (Cy _ _ Z) (Cy _ _ Z) Z Z DI CQ hK)) (eY ?_);refine nx 2 Z (oA h1 Z Z λ D6 h1=>?_);exact nx 2 Z (eX (true,CS+1,l18.set CS.toNat CX) (rx ⟨by show 0<=CS+1; omega,by show (l18.set _ _).length=_; rw [List.length_set]; exact hi1,λ _=>(by show (i:Int)<CS+1; omega),λ h=>Bool.noConfusion h⟩ h1) (bS (fS ⟨er Z,er Z,er Z,er Z,trivial⟩ ⟨⟨_,Z,⟨sr,sr,sr,AV.sub_of_eq (congrArg (AV.arr 101000 5 0) G),sr,trivial⟩⟩,⟨_,Z,⟨sr,sr,sr,sr,sr,trivial⟩⟩,⟨_,Z,cq _⟩,trivial⟩)))
  exact nx 2 Z (eXi _ (oi h1).symm (bS (fS ⟨er Z,er Z,trivial⟩ ⟨⟨_,Z,⟨sr,sr,sr,AV.sub_of_eq (congrArg (AV.arr 101000 5 0) G),sr,trivial⟩⟩,⟨_,Z,⟨sr,sr,sr,sr,sr,trivial⟩⟩,⟨_,Z,cq _⟩,trivial⟩)))
def lu (n:Nat)(Cz:aa)(p_1:List ac)(x_2:aa):Option (aa×Int) :=if (p_1.length:Int)=0 then(bu n x_2).bind λ r2=>some (r2,0)else ck ((0:Int)<=0/\0<(p_1.length:Int))<|(dZ n Cz (lat p_1 0)).bind λ r5=>(if r5.2=16 then if (p_1.length:Int)=1 then ck ((0:Int)<=0/\0<(p_1.length:Int))<|some (!((lat p_1 0).Cu))else some false else some false : Option Bool).bind λ DX=>if DX=true then ck ((0:Int)<=0/\0<(p_1.length:Int))<|(iO n Cz ((lat p_1 0).BY) x_2).bind λ DK=>some (DK,0)else if r5.2=0 then none else some ((aa.mk 0 0 ([]:Bk) [] []),r5.2)
theorem rW (n:Nat)(Cz:aa)(p_1:List ac)(x_2:aa)(r:aa×Int)(h0:lu n Cz p_1 x_2=some r):au Tryz.prog 45 [.agg (aa.cs Cz),eL ag p_1,.agg (aa.cs x_2)] (·=.tuple [.p (.agg (aa.cs r.1)),.p (eI r.2)]):=by
 unfold lu at h0;refine aZ good Tryz.func45 Z Z Z λ w0=>mP (λ v:aa×Int=>.tuple [.p (.agg (aa.cs v.1)),.p (eI v.2)]) ?_;refine nx 11 Z (oLl (f:=ag) Z Z ?_);refine nx 2 Z (fD [13] h0 Z (λ c1 h0=>?_) λ c1 h0=>?_)
 ·refine nx 4 Z (bd h0 λ r2 e3 h0=>?_);refine oK (fo _ x_2 _ e3) Z ⟨sr,trivial⟩ Tryz.call43 Z (nx 4 Z ?_);exact mQ (oi h0) Z (ar ⟨sr,sr,trivial⟩)
 refine nx 3 Z (cc' h0 λ Fz h0=>?_);refine bd h0 λ r5 e6 h0=>mD [(1,.p (eL ag p_1)),(3,.ptr 3 0),(5,.ptr 5 0),(6,.ptr 6 0)] Z ⟨Z,Z,Z,Z,trivial⟩ Z (dR 2 Z ?_);refine dq (.rptr (ac.cs (lat p_1 0))) [18] Z (λ _ e _ q=>ae Z (cO (f:=ag) (l:=p_1) ac.cs Z Z Z Z Z Z (e _ _ Z) Z Z Fz ac.B' Y q)) Z (dR 1 Z ?_);refine dq (.tuple [.p (eI r5.1),.p (eI r5.2)]) [17,20] Z (λ _ e _ q=>ae Z (aY (ml _ Cz (lat p_1 0) _ e6) Z Z Z (am (e _ _ Z) (am (e _ _ Z) aM)) ⟨sr,sr,trivial⟩ Tryz.call42 Z q)) Z (dR 5 Z ?_);refine dE Z (nx 3 Z ?_);refine bd h0 λ He h1 h0=>kN He (λ ER=>⟨[(1,.p (eL ag p_1)),(3,.ptr 3 0),(5,.ptr 5 0),(6,.ptr 6 0),(8,.p (eI r5.1)),(9,.p (eI r5.2)),(37,.p (eB ER))],[(3,(aa.cs Cz).map .p),(5,(aa.cs x_2).map .p),(6,[.p (eI 0),.p (eI 0),.p (eS ([]:Bk)),.p (.val (.slice none 0 0)),.p (.val (.slice none 0 0))])]⟩) ?_ ?_
 ·refine nx 1 Z (fB [37] h0 Z (λ Eg h0=>?_) λ Eg h0=>?_)
  ·refine nx 2 Z (cc' h0 λ EJ h0=>?_);refine bd h0 λ DK FY h0=>mG (gE (t:=⟨[(1,.p (eL ag p_1)),(3,.ptr 3 0),(5,.ptr 5 0),(6,.ptr 6 0)],[(3,(aa.cs Cz).map .p),(5,(aa.cs x_2).map .p),(6,[.p (eI 0),.p (eI 0),.p (eS ([]:Bk)),.p (.val (.slice none 0 0)),.p (.val (.slice none 0 0))])]⟩) Z Z) (mS ⟨1,[7],(λ _=>.none),(λ _=>[(1,.p (eL ag p_1)),(3,.ptr 3 0),(5,.ptr 5 0),(6,.ptr 6 0)]),(by2 ([(3,[.p (eI Cz.AT),.p (eI Cz.A'),.p (eS Cz.By),.p (eL ah Cz.Ar),.p (eL eS Cz.AI)]),(5,[.p (eI x_2.AT),.p (eI x_2.A'),.p (eS x_2.By),.p (eL ah x_2.Ar),.p (eL eS x_2.AI)]),(6,[.p (eI 0),.p (eI 0),.p (eS ([]:Bk)),.p (.val (.slice none 0 0)),.p (.val (.slice none 0 0))])]) ([(6,[.p (eI DK.AT),.p (eI DK.A'),.p (eS DK.By),.p (eL ah DK.Ar),.p (eL eS DK.AI)]),(3,[.p (eI Cz.AT),.p (eI Cz.A'),.p (eS Cz.By),.p (eL ah Cz.Ar),.p (eL eS Cz.AI)]),(5,[.p (eI x_2.AT),.p (eI x_2.A'),.p (eS x_2.By),.p (eL ah x_2.Ar),.p (eL eS x_2.AI)]),(6,[.p (eI 0),.p (eI 0),.p (eS ([]:Bk)),.p (.val (.slice none 0 0)),.p (.val (.slice none 0 0))])]))⟩ Z Z Z ⟨Z,Z,Z,Z,trivial⟩ (lt1 ⟨Z,Z,Z,Z,trivial⟩) Z Z Z Z ?_);refine al (λ _=>.p (.agg (aa.cs Cz))) Z Z Z (bK Z Y) (lt1 Z) (aj Z (af [(3,_)] ⟨.inl Z,trivial⟩ (λ sl Cy K hK=>ae Z (aN Z Z Z Z Z (Cy _ _ Z) Z Z Z hK)) ak)) (al (λ _=>.p (eL ag p_1)) Z Z Z (bK Z Y) (lt1 Z) (aj Z (af [(1,_)] ⟨.inl Z,trivial⟩ (λ sl Cy K hK=>ae Z (aA Z Z Z (Cy _ _ Z) hK)) ak)) ?_);refine al (λ _=>.rptr (ac.cs (lat p_1 0))) Z Z Z (bK Z Y) (lt1 Z) (aj Z (af [(39,_)] ⟨.inr ⟨1,_,Z,Z,Z⟩,trivial⟩ (λ sl Cy K hK=>ae Z (cO (f:=ag) (l:=p_1) ac.cs Z Z Z Z Z Z (Cy _ _ Z) Z Z EJ ac.B' Y hK)) ak)) (al (λ _=>.rptr (List.drop 2 (ac.cs (lat p_1 0)))) Z Z Z (bK Z Y) (lt1 Z) (aj Z (af [(40,_)] ⟨.inr ⟨2,_,Z,Z,Z⟩,trivial⟩ (λ sl Cy K hK=>ae Z (jB Z Z Z Z Z Z Z Z (Cy _ _ Z) hK)) ak)) ?_);refine al (λ _=>.p (eS ((lat p_1 0).BY))) Z Z Z (bK Z Y) (lt1 Z) (aj Z (af [(41,_)] ⟨.inr ⟨3,_,Z,Z,Z⟩,trivial⟩ (λ sl Cy K hK=>ae Z (fF Z Z Z Z Z (Cy _ _ Z) Z hK)) ak)) (al (λ _=>.p (.agg (aa.cs x_2))) Z Z Z (bK Z Y) (lt1 Z) (aj Z (af [(5,_)] ⟨.inl Z,trivial⟩ (λ sl Cy K hK=>ae Z (aN Z Z Z Z Z (Cy _ _ Z) Z Z Z hK)) ak)) ?_);refine al (λ _=>.p (.agg (aa.cs DK))) Z Z Z (bK Z Y) (lt1 Z) (aj Z (af [(38,_),(42,_),(43,_)] ⟨.inr ⟨0,_,Z,Z,Z⟩,.inr ⟨4,_,Z,Z,Z⟩,.inr ⟨5,_,Z,Z,Z⟩,trivial⟩ (λ sl Cy K hK=>ae Z (aY (rC _ Cz ((lat p_1 0).BY) x_2 _ FY) Z Z Z (am (Cy _ _ Z) (am (Cy _ _ Z) (am (Cy _ _ Z) aM))) ⟨sr,sr,sr,trivial⟩ Tryz.call74 Z hK)) ak)) (ct [(6,_),(44,_)] Z ⟨.inl Z,.inr ⟨6,_,Z,Z,Z⟩,trivial⟩ Z (λ sl Cy K hK=>ae Z (cv Z Z Z (Cy _ _ Z) (Cy _ _ Z) Z Z Z (ph Z) hK)) ?_);refine al (λ _=>.p (eI 0)) Z Z Z (bK Z Y) (lt1 Z) (af [] trivial (λ sl Cy K hK=>ae Z (bq Z Z Z Z hK)) (aj Z ak)) (eY ?_);exact nx 2 Z (mQ (oi h0) Z (ar ⟨sr,sr,trivial⟩))
  refine nx 8 Z (fN [46] h0 Z (λ FP h0=>?_) λ FP h0=>?_)
  ·cases h0
  exact nx 9 Z (mQ (oi h0) Z (ar ⟨dY ⟨.inl Z,.inl Z,.inl Z,.inr ⟨Z,Z⟩,.inr ⟨Z,Z⟩,trivial⟩,sr,trivial⟩))
 refine nx 4 Z (fD [25,26] h1 Z (λ c7 h1=>?_) λ c7 h1=>?_)
 ·refine nx 1 Z (oLl (f:=ag) Z Z ?_);refine nx 3 Z (fD [29,30,31] h1 Z (λ c8 h1=>?_) λ c8 h1=>?_)
  ·refine nx 1 Z (oE h1 ac.B' Z Z Y λ hk9 h1=>?_);exact nx 5 Z (eX _ (oi h1).symm (gE Z Z))
  exact nx 7 Z (eX _ (oi h1).symm (gE Z Z))
 exact nx 12 Z (eX _ (oi h1).symm (gE Z Z))
def gU:Nat->aa->(List ac)->aa->Option (aa×Int)|0,_,_,_=>none|n+1,Cz,p_1,x_2=>if (p_1.length:Int)=0 then(bu n x_2).bind λ r2=>some (r2,0)else ck ((0:Int)<=0/\0<(p_1.length:Int))<|(dZ n Cz (lat p_1 0)).bind λ r5=>(if r5.2=16 then if (p_1.length:Int)=1 then ck ((0:Int)<=0/\0<(p_1.length:Int))<|some (!((lat p_1 0).Cu))else some false else some false : Option Bool).bind λ DX=>if DX=true then ck ((0:Int)<=0/\0<(p_1.length:Int))<|(iO n Cz ((lat p_1 0).BY) x_2).bind λ DK=>some (DK,0)else if r5.2=0 then ck ((0:Int)<=r5.1/\r5.1<(Cz.Ar.length:Int))<|((gU n) (lat Cz.Ar r5.1) (sub p_1 1 (p_1.length:Int)) x_2).bind λ C5=>if C5.2=0 then some (aa.mk Cz.AT Cz.A' Cz.By (Cz.Ar.set r5.1.toNat C5.1) Cz.AI,0)else some ((aa.mk 0 0 ([]:Bk) [] []),C5.2)else some ((aa.mk 0 0 ([]:Bk) [] []),r5.2)
theorem w6 {n:Nat}{v:aa}{p:List ac}{x:aa}{r:aa×Int}(h:gU (n+1) v p x=some r):lu n v p x=some r \/
    ∃ (i:Nat) (C5:aa×Int),0<p.length/\dZ n v (lat p 0)=some ((i:Int),0)/\i<v.Ar.length/\gU n (lat v.Ar (i:Int)) (sub p 1 (p.length:Int)) x=some C5 /\
      (if C5.2=0 then some (aa.mk v.AT v.A' v.By (v.Ar.set i C5.1) v.AI,0) else some ((aa.mk 0 0 ([]:Bk) [] []),C5.2))=some r:=by
  rw [gU] at h;unfold lu;split
  · rename_i c1; rw [if_pos c1] at h; exact .inl h
  · rename_i c1;rw [if_neg c1] at h;obtain ⟨k1,h⟩:=cU h;rw [dX k1];obtain ⟨⟨r1,r2⟩,k2,h⟩:=Option.bind_eq_some_iff.1 h;dsimp only at h;by_cases c2:r2=0
    · subst c2;rw [if_neg (by decide:¬ ((0:Int)=16))] at h;simp only [Option.bind_some,Bool.false_eq_true,if_false,if_true] at h;obtain ⟨k3,h⟩:=cU h;obtain ⟨C5,k4,h⟩:=Option.bind_eq_some_iff.1 h;obtain ⟨i,rfl⟩:∃ i:Nat,r1=(i:Int):=⟨r1.toNat,by omega⟩
      exact .inr ⟨i,C5,by omega,k2,by omega,k4,by rw [Int.toNat_natCast] at h; exact h⟩
    · left
      rw [k2];simp only [Option.bind_some];obtain ⟨DX,k3,h⟩:=Option.bind_eq_some_iff.1 h;rw [k3];simp only [Option.bind_some];split
      · rename_i c3; rw [if_pos c3] at h; exact h
      · rename_i c3; rw [if_neg c3,if_neg c2] at h
        first|exact h|(rw [if_neg c2]; exact h)
set_option maxHeartbeats 8000000 in
theorem vf (n:Nat):∀ (Cz:aa) (p_1:List ac) (x_2:aa) (r:aa×Int),gU n Cz p_1 x_2=some r->∃ q,Val q Cz/\q.length<=p_1.length/\SetC Tryz.prog 45 q Cz p_1 x_2 r:=by
 induction n with
 | zero=>intro Cz p_1 x_2 r h0; cases h0
 | succ n ih=>
 intro Cz p_1 x_2 r h0;rcases w6 h0 with h0|⟨i,C5,hp,hf,hi,h18,h0⟩
 ·exact ⟨[],trivial,Nat.zero_le _,rW n Cz p_1 x_2 r h0⟩
 obtain ⟨q,hv,hq,hc⟩:=ih _ _ x_2 C5 h18;have Fz:(0:Int)<=0/\0<(p_1.length:Int):=⟨Int.le_refl _,by omega⟩
 have Ed:(0:Int)<=1/\1<=(p_1.length:Int)/\(p_1.length:Int)<=(p_1.length:Int):=⟨by omega,by omega,Int.le_refl _⟩
 have Dl:(0:Int)<=(i:Int)/\(i:Int)<((iB Cz.Ar i (lat Cz.Ar (i:Int))).length:Int):=⟨by omega,by rw [sW]; omega⟩
 have hy:Cz.Ar[i]? = some (lat Cz.Ar (i:Int)):=by rw [cY _ _ hi]; exact List.getElem?_eq_getElem hi
 refine ⟨i::q,⟨_,hy,hv⟩,?_,?_⟩
 ·rw [oM] at hq;simp only [List.length_drop] at hq;have:(1:Int).toNat=1:=rfl;simp only [d4]; omega
 show bs _ _ _ _ _;refine gN good [] [] Tryz.func45 Z Z Z Z Z λ w0 F=>mPo (λ v:aa×Int=>.tuple [.p (.agg (aa.cs v.1)),.p (eI v.2)]) (λ v=>[]) ?_;refine nx 11 Z (oLl (f:=ag) Z Z ?_);refine nx 2 Z (lT [13] (decide_eq_false O) Z ?_);refine nx 3 Z ?_;refine mD [(1,.p (eL ag p_1)),(3,.ptr 3 0),(5,.ptr 5 0),(6,.ptr 6 0)] Z ⟨Z,Z,Z,Z,trivial⟩ Z (dR 2 Z ?_);refine dq (.rptr (ac.cs (lat p_1 0))) [18] Z (λ _ e _ q=>ae Z (cO (f:=ag) (l:=p_1) ac.cs Z Z Z Z Z Z (e _ _ Z) Z Z Fz ac.B' Y q)) Z (dR 1 Z ?_);refine dq (.tuple [.p (eI (i:Int)),.p (eI 0)]) [17,20] Z (λ _ e _ q=>ae Z (aY (qu _ Cz (lat p_1 0) _ hf) Z Z Z (am (e _ _ Z) (am (e _ _ Z) aM)) ⟨kH ⟨sr,sr,sr,vA,sr,trivial⟩,sr,trivial⟩ Tryz.call42 Z q)) Z (dR 5 Z ?_);refine dE Z (nx 7 Z (lT [25,26] (decide_eq_false (by decide)) Z ?_));refine nx 20 Z (lT [46] (show (!decide ((0:Int)=0))=false from rfl) Z ?_);refine nx 3 Z ?_;have hD:∀ i,MZ<=i->bz (tks 900001 31) 105000 105000 i=false:=wA (by decide) (by decide);refine mG (gE (t:=⟨[(1,.p (eL ag p_1)),(3,.ptr 3 0),(5,.ptr 5 0),(6,.ptr 6 0),(8,.p (eI (i:Int)))],[(3,[.p (eI Cz.AT),.p (eI Cz.A'),.p (eS Cz.By),(.sem (tks 900000 32) (Node (tks 900000 32) (i::q) Cz)),.p (eL eS Cz.AI)]),(5,[.p (eI x_2.AT),.p (eI x_2.A'),.p (eS x_2.By),.p (eL ah x_2.Ar),.p (eL eS x_2.AI)]),(6,[.p (eI 0),.p (eI 0),.p (eS ([]:Bk)),.p (.val (.slice none 0 0)),.p (.val (.slice none 0 0))])]⟩) Z Z) ?_;refine mSS ⟨3,[8,12,13],(by4 ((.some (bz (tks 900001 31) 105000 105000))) ((.some λ i=>Nat.beq i 10)) (.none) (.none)),(λ _=>[(1,.p (eL ag p_1)),(3,.ptr 3 0),(5,.ptr 5 0),(6,.ptr 6 0),(8,.p (eI (i:Int)))]),(by4 ([(3,[.p (eI Cz.AT),.p (eI Cz.A'),.p (eS Cz.By),(.sem (tks 900000 32) (Node (tks 900000 32) (i::q) Cz)),.p (eL eS Cz.AI)]),(5,[.p (eI x_2.AT),.p (eI x_2.A'),.p (eS x_2.By),.p (eL ah x_2.Ar),.p (eL eS x_2.AI)]),(6,[.p (eI 0),.p (eI 0),.p (eS ([]:Bk)),.p (.val (.slice none 0 0)),.p (.val (.slice none 0 0))])]) ([(3,[.p (eI Cz.AT),.p (eI Cz.A'),.p (eS Cz.By),(.stk 900000 5 ((iB Cz.Ar i (lat Cz.Ar (i:Int))).map eTH)),.p (eL eS Cz.AI)]),(5,[.p (eI x_2.AT),.p (eI x_2.A'),.p (eS x_2.By),.p (eL ah x_2.Ar),.p (eL eS x_2.AI)]),(6,[.p (eI 0),.p (eI 0),.p (eS ([]:Bk)),.p (.val (.slice none 0 0)),.p (.val (.slice none 0 0))])]) ([(10,[.p (eI 0),.p (eI 0),.p (eS ([]:Bk)),.p (.val (.slice none 0 0)),.p (.val (.slice none 0 0))]),(3,[.p (eI Cz.AT),.p (eI Cz.A'),.p (eS Cz.By),(.stk 900000 5 ((iB Cz.Ar i (lat Cz.Ar (i:Int))).map eTH)),.p (eL eS Cz.AI)]),(5,[.p (eI x_2.AT),.p (eI x_2.A'),.p (eS x_2.By),.p (eL ah x_2.Ar),.p (eL eS x_2.AI)]),(6,[.p (eI 0),.p (eI 0),.p (eS ([]:Bk)),.p (.val (.slice none 0 0)),.p (.val (.slice none 0 0))])]) ([(10,[.p (eI C5.1.AT),.p (eI C5.1.A'),.p (eS C5.1.By),.p (eL ah C5.1.Ar),.p (eL eS C5.1.AI)]),(10,[.p (eI 0),.p (eI 0),.p (eS ([]:Bk)),.p (.val (.slice none 0 0)),.p (.val (.slice none 0 0))]),(3,[.p (eI Cz.AT),.p (eI Cz.A'),.p (eS Cz.By),(.stk 900000 5 ((iB Cz.Ar i (lat Cz.Ar (i:Int))).map eTH)),.p (eL eS Cz.AI)]),(5,[.p (eI x_2.AT),.p (eI x_2.A'),.p (eS x_2.By),.p (eL ah x_2.Ar),.p (eL eS x_2.AI)]),(6,[.p (eI 0),.p (eI 0),.p (eS ([]:Bk)),.p (.val (.slice none 0 0)),.p (.val (.slice none 0 0))])]))⟩ ⟨3,[12,8,13],(by4 ((.some λ i=>Nat.beq i 10)) ((.some (bz (tks 900001 31) 105000 105000))) (.none) (.none)),(λ _=>[(1,.p (eL ag p_1)),(3,.ptr 3 0),(5,.ptr 5 0),(6,.ptr 6 0),(8,.p (eI (i:Int)))]),(by4 ([(3,[.p (eI Cz.AT),.p (eI Cz.A'),.p (eS Cz.By),(.sem (tks 900000 32) (Node (tks 900000 32) (i::q) Cz)),.p (eL eS Cz.AI)]),(5,[.p (eI x_2.AT),.p (eI x_2.A'),.p (eS x_2.By),.p (eL ah x_2.Ar),.p (eL eS x_2.AI)]),(6,[.p (eI 0),.p (eI 0),.p (eS ([]:Bk)),.p (.val (.slice none 0 0)),.p (.val (.slice none 0 0))])]) ([(10,[.p (eI 0),.p (eI 0),.p (eS ([]:Bk)),.p (.val (.slice none 0 0)),.p (.val (.slice none 0 0))]),(3,[.p (eI Cz.AT),.p (eI Cz.A'),.p (eS Cz.By),(.sem (tks 900000 32) (Node (tks 900000 32) (i::q) Cz)),.p (eL eS Cz.AI)]),(5,[.p (eI x_2.AT),.p (eI x_2.A'),.p (eS x_2.By),.p (eL ah x_2.Ar),.p (eL eS x_2.AI)]),(6,[.p (eI 0),.p (eI 0),.p (eS ([]:Bk)),.p (.val (.slice none 0 0)),.p (.val (.slice none 0 0))])]) ([(10,[.p (eI 0),.p (eI 0),.p (eS ([]:Bk)),.p (.val (.slice none 0 0)),.p (.val (.slice none 0 0))]),(3,[.p (eI Cz.AT),.p (eI Cz.A'),.p (eS Cz.By),(.stk 900000 5 ((iB Cz.Ar i (lat Cz.Ar (i:Int))).map eTH)),.p (eL eS Cz.AI)]),(5,[.p (eI x_2.AT),.p (eI x_2.A'),.p (eS x_2.By),.p (eL ah x_2.Ar),.p (eL eS x_2.AI)]),(6,[.p (eI 0),.p (eI 0),.p (eS ([]:Bk)),.p (.val (.slice none 0 0)),.p (.val (.slice none 0 0))])]) ([(10,[.p (eI C5.1.AT),.p (eI C5.1.A'),.p (eS C5.1.By),.p (eL ah C5.1.Ar),.p (eL eS C5.1.AI)]),(10,[.p (eI 0),.p (eI 0),.p (eS ([]:Bk)),.p (.val (.slice none 0 0)),.p (.val (.slice none 0 0))]),(3,[.p (eI Cz.AT),.p (eI Cz.A'),.p (eS Cz.By),(.stk 900000 5 ((iB Cz.Ar i (lat Cz.Ar (i:Int))).map eTH)),.p (eL eS Cz.AI)]),(5,[.p (eI x_2.AT),.p (eI x_2.A'),.p (eS x_2.By),.p (eL ah x_2.Ar),.p (eL eS x_2.AI)]),(6,[.p (eI 0),.p (eI 0),.p (eS ([]:Bk)),.p (.val (.slice none 0 0)),.p (.val (.slice none 0 0))])]))⟩ Z Z Z Z Z Z Z ⟨Z,Z,Z,Z,Z,trivial⟩ Z (lt3 ⟨Z,Z,Z,Z,Z,trivial⟩ ⟨Z,Z,Z,Z,Z,trivial⟩ ⟨Z,Z,Z,Z,Z,trivial⟩) (lt3 ⟨Z,Z,Z,Z,Z,trivial⟩ ⟨Z,Z,Z,Z,Z,trivial⟩ ⟨Z,Z,Z,Z,Z,trivial⟩) Z Z Z Z Z ?_;refine aU (λ _=>.ptr 3 3) Z Z Z (hQ Z Z Z Y) (lt3 Y Y Y) (aj Z (af [(3,_)] ⟨.inl Z,trivial⟩ (λ sl Cy K hK=>ae Z (aD Z Z Z Z Z Z Z Z (Cy _ _ Z) hK)) (af [(3,_)] ⟨.inl Z,trivial⟩ (λ sl Cy K hK=>ae Z (aD Z Z Z Z Z Z Z Z (Cy _ _ Z) hK)) (af [(3,_)] ⟨.inl Z,trivial⟩ (λ sl Cy K hK=>ae Z (aD Z Z Z Z Z Z Z Z (Cy _ _ Z) hK)) ak)))) ?_;refine aU (λ _=>(.stk 900000 5 ((iB Cz.Ar i (lat Cz.Ar (i:Int))).map eTH))) Z Z Z (hQ Z Z Z Y) (lt3 Y Y Y) (aj Z (af [(50,_)] ⟨.inr ⟨0,_,Z,Z,Z⟩,trivial⟩ (λ sl Cy K hK=>ae Z (bm Z Z Z Z Z (Cy _ _ Z) Z Z hK)) (af [(50,_)] ⟨.inr ⟨0,_,Z,Z,Z⟩,trivial⟩ (λ sl Cy K hK=>ae Z (bm Z Z Z Z Z (Cy _ _ Z) Z Z hK)) (af [(50,_)] ⟨.inr ⟨0,_,Z,Z,Z⟩,trivial⟩ (λ sl Cy K hK=>ae Z (jV (λ _ hq=>bm Z Z Z Z Z (Cy _ _ Z) Z Z hq) (kz hy) hK)) ak)))) ?_;refine aU (λ _=>.p (eI (i:Int))) Z Z Z (hQ Z Z Z Y) (lt3 Y Y Y) (aj Z (af [(8,_)] ⟨.inl Z,trivial⟩ (λ sl Cy K hK=>ae Z (aA Z Z Z (Cy _ _ Z) hK)) (af [(8,_)] ⟨.inl Z,trivial⟩ (λ sl Cy K hK=>ae Z (aA Z Z Z (Cy _ _ Z) hK)) (af [(8,_)] ⟨.inl Z,trivial⟩ (λ sl Cy K hK=>ae Z (aA Z Z Z (Cy _ _ Z) hK)) ak)))) ?_;refine aU (λ _=>.ptr 900000 ((i:Int).toNat*5)) Z Z Z (hQ Z Z Z Y) (lt3 Y Y Y) (aj Z (af [(51,_),(52,_)] ⟨.inr ⟨1,_,Z,Z,Z⟩,.inr ⟨2,_,Z,Z,Z⟩,trivial⟩ (λ sl Cy K hK=>ae Z (cG eTH (iB Cz.Ar i (lat Cz.Ar (i:Int))) Z Z Z Z Z Z (Cy _ _ Z) (Cy _ _ Z) Z Dl hK)) (af [(51,_),(52,_)] ⟨.inr ⟨1,_,Z,Z,Z⟩,.inr ⟨2,_,Z,Z,Z⟩,trivial⟩ (λ sl Cy K hK=>ae Z (cG eTH (iB Cz.Ar i (lat Cz.Ar (i:Int))) Z Z Z Z Z Z (Cy _ _ Z) (Cy _ _ Z) Z Dl hK)) (af [(51,_),(52,_)] ⟨.inr ⟨1,_,Z,Z,Z⟩,.inr ⟨2,_,Z,Z,Z⟩,trivial⟩ (λ sl Cy K hK=>ae Z (cG eTH (iB Cz.Ar i (lat Cz.Ar (i:Int))) Z Z Z Z Z Z (Cy _ _ Z) (Cy _ _ Z) Z Dl hK)) ak)))) ?_;refine aU (by4 ((.agg [.p (eI (lat Cz.Ar (i:Int)).AT),.p (eI (lat Cz.Ar (i:Int)).A'),.p (eS (lat Cz.Ar (i:Int)).By),(.sem (tks 900001 31) (Node (tks 900001 31) q (lat Cz.Ar (i:Int)))),.p (eL eS (lat Cz.Ar (i:Int)).AI)])) ((.agg [.p (eI (lat Cz.Ar (i:Int)).AT),.p (eI (lat Cz.Ar (i:Int)).A'),.p (eS (lat Cz.Ar (i:Int)).By),.undef,.p (eL eS (lat Cz.Ar (i:Int)).AI)])) ((.agg [.p (eI (lat Cz.Ar (i:Int)).AT),.p (eI (lat Cz.Ar (i:Int)).A'),.p (eS (lat Cz.Ar (i:Int)).By),.undef,.p (eL eS (lat Cz.Ar (i:Int)).AI)])) ((.agg [.p (eI (lat Cz.Ar (i:Int)).AT),.p (eI (lat Cz.Ar (i:Int)).A'),.p (eS (lat Cz.Ar (i:Int)).By),.undef,.p (eL eS (lat Cz.Ar (i:Int)).AI)]))) Z Z Z (hQ Z Z Z Y) (lt3 Y Y Y) (aj Z (aj Z (aj Z (af [(53,_)] ⟨.inr ⟨3,_,Z,Z,Z⟩,trivial⟩ (λ sl Cy K hK=>ae Z (oN 3 3 (n:=i) (ts:=tks 900001 31) Z Z Z Z Z (Cy _ _ Z) (by rw [Int.toNat_natCast]) Z Z Z hy hK)) ak)))) ?_;refine aU (λ _=>.p (eL ag p_1)) Z Z Z (hQ Z Z Z Y) (lt3 Y Y Y) (aj Z (af [(1,_)] ⟨.inl Z,trivial⟩ (λ sl Cy K hK=>ae Z (aA Z Z Z (Cy _ _ Z) hK)) (af [(1,_)] ⟨.inl Z,trivial⟩ (λ sl Cy K hK=>ae Z (aA Z Z Z (Cy _ _ Z) hK)) (af [(1,_)] ⟨.inl Z,trivial⟩ (λ sl Cy K hK=>ae Z (aA Z Z Z (Cy _ _ Z) hK)) ak)))) ?_;refine aU (λ _=>.p (eL ag (sub p_1 1 (p_1.length:Int)))) Z Z Z (hQ Z Z Z Y) (lt3 Y Y Y) (aj Z (aj Z (aj Z (af [(55,_)] ⟨.inr ⟨5,_,Z,Z,Z⟩,trivial⟩ (λ sl Cy K hK=>ae Z (iM (f:=ag) (l:=p_1) Z Z Z Z Z Z (Cy _ _ Z) Z Z Z Ed (λ x=>congrArg List.length (ac.B' x)) hK)) ak)))) ?_;refine aU (λ _=>.p (.agg (aa.cs x_2))) Z Z Z (hQ Z Z Z Y) (lt3 Y Y Y) (aj Z (aj Z (aj Z (af [(5,_)] ⟨.inl Z,trivial⟩ (λ sl Cy K hK=>ae Z (aN Z Z Z Z Z (Cy _ _ Z) Z Z Z hK)) ak)))) ?_;refine cQ (λ _=>.tuple [.p (.agg (aa.cs C5.1)),.p (eI C5.2)]) [(54,_),(56,_),(57,_)] Z ⟨.inr ⟨4,_,Z,Z,Z⟩,.inr ⟨6,_,Z,Z,Z⟩,.inr ⟨7,_,Z,Z,Z⟩,trivial⟩ Z Z (bj Z Z Y) (lt3 (λ h=>absurd h (by decide)) Y Y) (λ sl Cy K hK=>ae Z (vS (t:=⟨sl,[(3,[.p (eI Cz.AT),.p (eI Cz.A'),.p (eS Cz.By),(.stk 900000 5 ((iB Cz.Ar i (lat Cz.Ar (i:Int))).map eTH)),.p (eL eS Cz.AI)]),(5,[.p (eI x_2.AT),.p (eI x_2.A'),.p (eS x_2.By),.p (eL ah x_2.Ar),.p (eL eS x_2.AI)]),(6,[.p (eI 0),.p (eI 0),.p (eS ([]:Bk)),.p (.val (.slice none 0 0)),.p (.val (.slice none 0 0))])]⟩) (A7 ⟨⟨_,Z,⟨sr,sr,sr,kz hy,sr,trivial⟩⟩,⟨_,Z,⟨sr,sr,sr,sr,sr,trivial⟩⟩,⟨_,Z,⟨sr,sr,sr,sr,sr,trivial⟩⟩,trivial⟩) (mB (a:=900001) (n:=31) hc Z Z Z (am (Cy _ _ Z) (am (Cy _ _ Z) (am (Cy _ _ Z) aM))) Tryz.call45 Z (by decide) hD Z Z Z hK))) ?_;refine aU (λ _=>.tuple [.p (.agg (aa.cs C5.1)),.p (eI C5.2)]) Z Z Z (hQ Z Z Z Y) (lt3 (nl Z) Y Y) (aj Z (af [(58,_)] ⟨.inr ⟨8,_,Z,Z,Z⟩,trivial⟩ (λ sl Cy K hK=>ae Z (aA Z Z Z (Cy _ _ Z) hK)) (af [(58,_)] ⟨.inr ⟨8,_,Z,Z,Z⟩,trivial⟩ (λ sl Cy K hK=>ae Z (aA Z Z Z (Cy _ _ Z) hK)) (aj Z ak)))) ?_;refine aU (λ _=>.p (.agg (aa.cs C5.1))) Z Z Z (hQ Z Z Z Y) (lt3 (nl Z) Y Y) (aj Z (af [(49,_)] ⟨.inr ⟨9,_,Z,Z,Z⟩,trivial⟩ (λ sl Cy K hK=>ae Z (aF Z Z Z (Cy _ _ Z) Z hK)) (af [(49,_)] ⟨.inr ⟨9,_,Z,Z,Z⟩,trivial⟩ (λ sl Cy K hK=>ae Z (aF Z Z Z (Cy _ _ Z) Z hK)) (aj Z ak)))) ?_;refine aU (λ _=>.p (eI C5.2)) Z Z Z (hQ Z Z Z Y) (lt3 (nl Z) Y Y) (af [(49,_)] ⟨.inr ⟨9,_,Z,Z,Z⟩,trivial⟩ (λ sl Cy K hK=>ae Z (aF Z Z Z (Cy _ _ Z) Z hK)) (af [(49,_)] ⟨.inr ⟨9,_,Z,Z,Z⟩,trivial⟩ (λ sl Cy K hK=>ae Z (aF Z Z Z (Cy _ _ Z) Z hK)) (af [(49,_)] ⟨.inr ⟨9,_,Z,Z,Z⟩,trivial⟩ (λ sl Cy K hK=>ae Z (aF Z Z Z (Cy _ _ Z) Z hK)) (aj Z ak)))) ?_;refine cQ (λ _=>.ptr 10 0) [] Z trivial Z Z (bK Z Y) (lt3 (λ h=>absurd h (by decide)) (λ h=>absurd h (by decide)) Y) (λ sl Cy K hK=>ae Z (eG Z Z Z Z Z hK)) ?_;refine ct [(10,_),(59,_)] Z ⟨.inr ⟨12,_,Z,Z,Z⟩,.inr ⟨10,_,Z,Z,Z⟩,trivial⟩ Z (λ sl Cy K hK=>ae Z (cv Z Z Z (Cy _ _ Z) (Cy _ _ Z) Z Z Z (ph Z) hK)) ?_;refine aU (λ _=>.p (eI C5.2)) Z Z Z (hQ Z Z Z Y) (lt3 (nl Z) (nl Z) (nl Z)) (af [(60,_)] ⟨.inr ⟨11,_,Z,Z,Z⟩,trivial⟩ (λ sl Cy K hK=>ae Z (bq Z Z Z (Cy _ _ Z) hK)) (aj Z (aj Z (aj Z ak)))) ?_;refine yF (aU (λ _=>.ptr 3 3) Z Z Z (hQ Z Z Z Y) (lt3 Y Y Y) (aj Z (af [(3,_)] ⟨.inl Z,trivial⟩ (λ sl Cy K hK=>ae Z (aD Z Z Z Z Z Z Z Z (Cy _ _ Z) hK)) (af [(3,_)] ⟨.inl Z,trivial⟩ (λ sl Cy K hK=>ae Z (aD Z Z Z Z Z Z Z Z (Cy _ _ Z) hK)) (af [(3,_)] ⟨.inl Z,trivial⟩ (λ sl Cy K hK=>ae Z (aD Z Z Z Z Z Z Z Z (Cy _ _ Z) hK)) ak)))) (aU (λ _=>(.stk 900000 5 ((iB Cz.Ar i (lat Cz.Ar (i:Int))).map eTH))) Z Z Z (hQ Z Z Z Y) (lt3 Y Y Y) (aj Z (af [(50,_)] ⟨.inr ⟨0,_,Z,Z,Z⟩,trivial⟩ (λ sl Cy K hK=>ae Z (bm Z Z Z Z Z (Cy _ _ Z) Z Z hK)) (af [(50,_)] ⟨.inr ⟨0,_,Z,Z,Z⟩,trivial⟩ (λ sl Cy K hK=>ae Z (jV (λ _ hq=>bm Z Z Z Z Z (Cy _ _ Z) Z Z hq) (kz hy) hK)) (af [(50,_)] ⟨.inr ⟨0,_,Z,Z,Z⟩,trivial⟩ (λ sl Cy K hK=>ae Z (jV (λ _ hq=>bm Z Z Z Z Z (Cy _ _ Z) Z Z hq) (kz hy) hK)) ak)))) (aU (λ _=>.p (eI (i:Int))) Z Z Z (hQ Z Z Z Y) (lt3 Y Y Y) (aj Z (af [(8,_)] ⟨.inl Z,trivial⟩ (λ sl Cy K hK=>ae Z (aA Z Z Z (Cy _ _ Z) hK)) (af [(8,_)] ⟨.inl Z,trivial⟩ (λ sl Cy K hK=>ae Z (aA Z Z Z (Cy _ _ Z) hK)) (af [(8,_)] ⟨.inl Z,trivial⟩ (λ sl Cy K hK=>ae Z (aA Z Z Z (Cy _ _ Z) hK)) ak)))) (aU (λ _=>.ptr 900000 ((i:Int).toNat*5)) Z Z Z (hQ Z Z Z Y) (lt3 Y Y Y) (aj Z (af [(51,_),(52,_)] ⟨.inr ⟨1,_,Z,Z,Z⟩,.inr ⟨2,_,Z,Z,Z⟩,trivial⟩ (λ sl Cy K hK=>ae Z (cG eTH (iB Cz.Ar i (lat Cz.Ar (i:Int))) Z Z Z Z Z Z (Cy _ _ Z) (Cy _ _ Z) Z Dl hK)) (af [(51,_),(52,_)] ⟨.inr ⟨1,_,Z,Z,Z⟩,.inr ⟨2,_,Z,Z,Z⟩,trivial⟩ (λ sl Cy K hK=>ae Z (cG eTH (iB Cz.Ar i (lat Cz.Ar (i:Int))) Z Z Z Z Z Z (Cy _ _ Z) (Cy _ _ Z) Z Dl hK)) (af [(51,_),(52,_)] ⟨.inr ⟨1,_,Z,Z,Z⟩,.inr ⟨2,_,Z,Z,Z⟩,trivial⟩ (λ sl Cy K hK=>ae Z (cG eTH (iB Cz.Ar i (lat Cz.Ar (i:Int))) Z Z Z Z Z Z (Cy _ _ Z) (Cy _ _ Z) Z Dl hK)) ak)))) (aU (by4 ((.agg [.p (eI (lat Cz.Ar (i:Int)).AT),.p (eI (lat Cz.Ar (i:Int)).A'),.p (eS (lat Cz.Ar (i:Int)).By),(.sem (tks 900001 31) (Node (tks 900001 31) q (lat Cz.Ar (i:Int)))),.p (eL eS (lat Cz.Ar (i:Int)).AI)])) ((.agg [.p (eI (lat Cz.Ar (i:Int)).AT),.p (eI (lat Cz.Ar (i:Int)).A'),.p (eS (lat Cz.Ar (i:Int)).By),(.sem (tks 900001 31) (Node (tks 900001 31) q (lat Cz.Ar (i:Int)))),.p (eL eS (lat Cz.Ar (i:Int)).AI)])) ((.agg [.p (eI (lat Cz.Ar (i:Int)).AT),.p (eI (lat Cz.Ar (i:Int)).A'),.p (eS (lat Cz.Ar (i:Int)).By),.undef,.p (eL eS (lat Cz.Ar (i:Int)).AI)])) ((.agg [.p (eI (lat Cz.Ar (i:Int)).AT),.p (eI (lat Cz.Ar (i:Int)).A'),.p (eS (lat Cz.Ar (i:Int)).By),.undef,.p (eL eS (lat Cz.Ar (i:Int)).AI)]))) Z Z Z (hQ Z Z Z Y) (lt3 Y Y Y) (aj Z (aj Z (af [(53,_)] ⟨.inr ⟨3,_,Z,Z,Z⟩,trivial⟩ (λ sl Cy K hK=>ae Z (oN 3 3 (n:=i) (ts:=tks 900001 31) Z Z Z Z Z (Cy _ _ Z) (by rw [Int.toNat_natCast]) Z Z Z hy hK)) (af [(53,_)] ⟨.inr ⟨3,_,Z,Z,Z⟩,trivial⟩ (λ sl Cy K hK=>ae Z (oN 3 3 (n:=i) (ts:=tks 900001 31) Z Z Z Z Z (Cy _ _ Z) (by rw [Int.toNat_natCast]) Z Z Z hy hK)) ak)))) (aU (λ _=>.p (eL ag p_1)) Z Z Z (hQ Z Z Z Y) (lt3 Y Y Y) (aj Z (af [(1,_)] ⟨.inl Z,trivial⟩ (λ sl Cy K hK=>ae Z (aA Z Z Z (Cy _ _ Z) hK)) (af [(1,_)] ⟨.inl Z,trivial⟩ (λ sl Cy K hK=>ae Z (aA Z Z Z (Cy _ _ Z) hK)) (af [(1,_)] ⟨.inl Z,trivial⟩ (λ sl Cy K hK=>ae Z (aA Z Z Z (Cy _ _ Z) hK)) ak)))) (aU (λ _=>.p (eL ag (sub p_1 1 (p_1.length:Int)))) Z Z Z (hQ Z Z Z Y) (lt3 Y Y Y) (aj Z (aj Z (af [(55,_)] ⟨.inr ⟨5,_,Z,Z,Z⟩,trivial⟩ (λ sl Cy K hK=>ae Z (iM (f:=ag) (l:=p_1) Z Z Z Z Z Z (Cy _ _ Z) Z Z Z Ed (λ x=>congrArg List.length (ac.B' x)) hK)) (af [(55,_)] ⟨.inr ⟨5,_,Z,Z,Z⟩,trivial⟩ (λ sl Cy K hK=>ae Z (iM (f:=ag) (l:=p_1) Z Z Z Z Z Z (Cy _ _ Z) Z Z Z Ed (λ x=>congrArg List.length (ac.B' x)) hK)) ak)))) (aU (λ _=>.p (.agg (aa.cs x_2))) Z Z Z (hQ Z Z Z Y) (lt3 Y Y Y) (aj Z (aj Z (af [(5,_)] ⟨.inl Z,trivial⟩ (λ sl Cy K hK=>ae Z (aN Z Z Z Z Z (Cy _ _ Z) Z Z Z hK)) (af [(5,_)] ⟨.inl Z,trivial⟩ (λ sl Cy K hK=>ae Z (aN Z Z Z Z Z (Cy _ _ Z) Z Z Z hK)) ak)))) (cQ (λ _=>.tuple [.p (.agg (aa.cs C5.1)),.p (eI C5.2)]) [(54,_),(56,_),(57,_)] Z ⟨.inr ⟨4,_,Z,Z,Z⟩,.inr ⟨6,_,Z,Z,Z⟩,.inr ⟨7,_,Z,Z,Z⟩,trivial⟩ Z Z (bK Z Y) (lt3 (λ h=>absurd h (by decide)) (λ h=>absurd h (by decide)) Y) (λ sl Cy K hK=>ae Z (vS (t:=⟨sl,[(10,[.p (eI 0),.p (eI 0),.p (eS ([]:Bk)),.p (.val (.slice none 0 0)),.p (.val (.slice none 0 0))]),(3,[.p (eI Cz.AT),.p (eI Cz.A'),.p (eS Cz.By),(.stk 900000 5 ((iB Cz.Ar i (lat Cz.Ar (i:Int))).map eTH)),.p (eL eS Cz.AI)]),(5,[.p (eI x_2.AT),.p (eI x_2.A'),.p (eS x_2.By),.p (eL ah x_2.Ar),.p (eL eS x_2.AI)]),(6,[.p (eI 0),.p (eI 0),.p (eS ([]:Bk)),.p (.val (.slice none 0 0)),.p (.val (.slice none 0 0))])]⟩) (A7 ⟨⟨_,Z,⟨sr,sr,sr,sr,sr,trivial⟩⟩,⟨_,Z,⟨sr,sr,sr,kz hy,sr,trivial⟩⟩,⟨_,Z,⟨sr,sr,sr,sr,sr,trivial⟩⟩,⟨_,Z,⟨sr,sr,sr,sr,sr,trivial⟩⟩,trivial⟩) (mB (a:=900001) (n:=31) hc Z Z Z (am (Cy _ _ Z) (am (Cy _ _ Z) (am (Cy _ _ Z) aM))) Tryz.call45 Z (by decide) hD Z Z Z hK))) (aU (λ _=>.tuple [.p (.agg (aa.cs C5.1)),.p (eI C5.2)]) Z Z Z (hQ Z Z Z Y) (lt3 (nl Z) (nl Z) Y) (aj Z (af [(58,_)] ⟨.inr ⟨8,_,Z,Z,Z⟩,trivial⟩ (λ sl Cy K hK=>ae Z (aA Z Z Z (Cy _ _ Z) hK)) (aj Z (aj Z ak)))) (aU (λ _=>.p (.agg (aa.cs C5.1))) Z Z Z (hQ Z Z Z Y) (lt3 (nl Z) (nl Z) Y) (aj Z (af [(49,_)] ⟨.inr ⟨9,_,Z,Z,Z⟩,trivial⟩ (λ sl Cy K hK=>ae Z (aF Z Z Z (Cy _ _ Z) Z hK)) (aj Z (aj Z ak)))) (aU (λ _=>.p (eI C5.2)) Z Z Z (hQ Z Z Z Y) (lt3 (nl Z) (nl Z) Y) (af [(49,_)] ⟨.inr ⟨9,_,Z,Z,Z⟩,trivial⟩ (λ sl Cy K hK=>ae Z (aF Z Z Z (Cy _ _ Z) Z hK)) (af [(49,_)] ⟨.inr ⟨9,_,Z,Z,Z⟩,trivial⟩ (λ sl Cy K hK=>ae Z (aF Z Z Z (Cy _ _ Z) Z hK)) (aj Z (aj Z ak)))) (cQ (λ _=>.ptr 10 0) [] Z trivial Z Z (bj Z Z Y) (lt3 (λ h=>absurd h (by decide)) Y Y) (λ sl Cy K hK=>ae Z (eG Z Z Z Z Z hK)) (ct [(10,_),(59,_)] Z ⟨.inr ⟨12,_,Z,Z,Z⟩,.inr ⟨10,_,Z,Z,Z⟩,trivial⟩ Z (λ sl Cy K hK=>ae Z (cv Z Z Z (Cy _ _ Z) (Cy _ _ Z) Z Z Z (ph Z) hK)) (aU (λ _=>.p (eI C5.2)) Z Z Z (hQ Z Z Z Y) (lt3 (nl Z) (nl Z) (nl Z)) (af [(60,_)] ⟨.inr ⟨11,_,Z,Z,Z⟩,trivial⟩ (λ sl Cy K hK=>ae Z (bq Z Z Z (Cy _ _ Z) hK)) (aj Z (aj Z (aj Z ak)))) (Bo Z ⟨Z,Z,Z,Z,Z,trivial⟩ ⟨⟨Z,Z,.inr Z⟩,⟨⟨Z,Z,.inl Z⟩,⟨⟨Z,Z,.inr Z⟩,⟨⟨Z,Z,.inr Z⟩,⟨⟨Z,Z,.inr Z⟩,⟨⟨Z,Z,.inl Z⟩,⟨⟨Z,Z,.inr Z⟩,⟨⟨Z,Z,.inr Z⟩,⟨⟨Z,Z,.inr Z⟩,⟨⟨Z,Z,.inr Z⟩,⟨⟨Z,Z,.inr Z⟩,⟨⟨Z,Z,.inr Z⟩,⟨⟨Z,Z,.inr Z⟩,⟨⟨Z,Z,.inr Z⟩,trivial⟩⟩⟩⟩⟩⟩⟩⟩⟩⟩⟩⟩⟩⟩)))))))))))))))) ?_;refine nx 7 Z (fN [62] h0 Z (λ c20 h0=>?_) λ c20 h0=>?_)
 ·refine nx 8 rfl (mO rfl (cG eTH (iB Cz.Ar i (lat Cz.Ar (i:Int))) Z Z Z Z Z Z Z Z Z Dl ?_));refine mO rfl (nA eTH (iB Cz.Ar i (lat Cz.Ar (i:Int))) (C5.1,false) 3 3 Z Z Z Z Z Z Z Dl rfl (AV.sub_of_eq (congrArg AV.p (aa.Cv C5.1).symm)) ((λ x=>by cases x; rfl:∀ x,(AV.p (ah x)).cellsA=some ((ah x).cells.map .p)) C5.1) (by rw [wi]; rfl) Z Z Z ?_);refine mG (bS (t:=⟨[(3,.ptr 3 0),(6,.ptr 6 0)],[(3,[.p (eI Cz.AT),.p (eI Cz.A'),.p (eS Cz.By),(.stk 900000 5 ((Cz.Ar.set i C5.1).map ah)),.p (eL eS Cz.AI)]),(6,[.p (eI 0),.p (eI 0),.p (eS ([]:Bk)),.p (.val (.slice none 0 0)),.p (.val (.slice none 0 0))])]⟩) (fS ⟨er rfl,er rfl,trivial⟩ ⟨⟨_,rfl,⟨sr,sr,sr,AV.sub_of_eq (congrArg (AV.stk 900000 5) (by rw [<- yq _ _ (lat Cz.Ar (i:Int)),qa,List.map_set])),sr,trivial⟩⟩,⟨_,rfl,⟨sr,sr,sr,sr,sr,trivial⟩⟩,trivial⟩)) ?_;refine mG (fH 900000 Z Z Z) ?_;exact nx 8 rfl (mQo (oi h0) (bB _) Z Z Z Z (ar ⟨sr,sr,trivial⟩) trivial)
 exact nx 9 Z (mQo (oi h0) (bB _) Z Z Z Z (ar ⟨dY ⟨.inl Z,.inl Z,.inl Z,.inr ⟨Z,Z⟩,.inr ⟨Z,Z⟩,trivial⟩,sr,trivial⟩) trivial)
def ii (n:Nat)(Cz:aa)(p_1:List ac)(x_2:aa):Option (aa×Int) :=ck (p_1.length<=32)<|(bu n Cz).bind λ r1=>(gU n r1 p_1 x_2).bind λ r3=>(if r3.2=0 then(ir n r3.1).bind λ r6=>some r6 else some r3.2 : Option Int).bind λ e8=>if e8=0 then some (r3.1,0)else some ((aa.mk 0 0 ([]:Bk) [] []),e8)
set_option maxHeartbeats 8000000 in
theorem gq (n:Nat)(Cz:aa)(p_1:List ac)(x_2:aa)(r:aa×Int)(h0:ii n Cz p_1 x_2=some r):au Tryz.prog 20 [.agg (aa.cs Cz),eL ag p_1,.agg (aa.cs x_2)] (·=.tuple [.p (.agg (aa.cs r.1)),.p (eI r.2)]):=by
 unfold ii at h0;obtain ⟨hk0,h0⟩:=cU h0;refine aZ good Tryz.func20 Z Z Z λ w0=>mP (λ v:aa×Int=>.tuple [.p (.agg (aa.cs v.1)),.p (eI v.2)]) ?_;refine nx 8 rfl (bd h0 λ r1 e2 h0=>?_);refine bd h0 λ r3 e4 h0=>?_;obtain ⟨q,hv,hq,hc⟩:=vf n r1 p_1 x_2 r3 e4;have hcop:=qm n q Cz r1 e2 hv (Nat.le_trans hq hk0);have hD:∀ i,MZ<=i->bz (tks 104000 32) 105000 105000 i=false:=wA (by decide) (by decide);refine mG (gE (t:=⟨[(1,.p (eL ag p_1)),(3,.ptr 3 0),(5,.ptr 5 0),(6,.ptr 6 0)],[(3,[.p (eI Cz.AT),.p (eI Cz.A'),.p (eS Cz.By),.p (eL ah Cz.Ar),.p (eL eS Cz.AI)]),(5,[.p (eI x_2.AT),.p (eI x_2.A'),.p (eS x_2.By),.p (eL ah x_2.Ar),.p (eL eS x_2.AI)]),(6,[.p (eI 0),.p (eI 0),.p (eS ([]:Bk)),.p (.val (.slice none 0 0)),.p (.val (.slice none 0 0))])]⟩) Z Z) ?_;refine mSSS ⟨4,[1,4,8,9],(by5 ((.some (bz [] 104000 104032))) ((.some (bz (tks 104000 32) 105000 105000))) ((.some λ i=>Nat.beq i 8)) (.none) (.none)),(λ _=>[(1,.p (eL ag p_1)),(3,.ptr 3 0),(5,.ptr 5 0),(6,.ptr 6 0)]),(by5 ([(3,[.p (eI Cz.AT),.p (eI Cz.A'),.p (eS Cz.By),.p (eL ah Cz.Ar),.p (eL eS Cz.AI)]),(5,[.p (eI x_2.AT),.p (eI x_2.A'),.p (eS x_2.By),.p (eL ah x_2.Ar),.p (eL eS x_2.AI)]),(6,[.p (eI 0),.p (eI 0),.p (eS ([]:Bk)),.p (.val (.slice none 0 0)),.p (.val (.slice none 0 0))])]) ([(3,[.p (eI Cz.AT),.p (eI Cz.A'),.p (eS Cz.By),.p (eL ah Cz.Ar),.p (eL eS Cz.AI)]),(5,[.p (eI x_2.AT),.p (eI x_2.A'),.p (eS x_2.By),.p (eL ah x_2.Ar),.p (eL eS x_2.AI)]),(6,[.p (eI 0),.p (eI 0),.p (eS ([]:Bk)),.p (.val (.slice none 0 0)),.p (.val (.slice none 0 0))])]) ([(3,[.p (eI Cz.AT),.p (eI Cz.A'),.p (eS Cz.By),.p (eL ah Cz.Ar),.p (eL eS Cz.AI)]),(5,[.p (eI x_2.AT),.p (eI x_2.A'),.p (eS x_2.By),.p (eL ah x_2.Ar),.p (eL eS x_2.AI)]),(6,[.p (eI 0),.p (eI 0),.p (eS ([]:Bk)),.p (.val (.slice none 0 0)),.p (.val (.slice none 0 0))])]) ([(8,[.p (eI 0),.p (eI 0),.p (eS ([]:Bk)),.p (.val (.slice none 0 0)),.p (.val (.slice none 0 0))]),(3,[.p (eI Cz.AT),.p (eI Cz.A'),.p (eS Cz.By),.p (eL ah Cz.Ar),.p (eL eS Cz.AI)]),(5,[.p (eI x_2.AT),.p (eI x_2.A'),.p (eS x_2.By),.p (eL ah x_2.Ar),.p (eL eS x_2.AI)]),(6,[.p (eI 0),.p (eI 0),.p (eS ([]:Bk)),.p (.val (.slice none 0 0)),.p (.val (.slice none 0 0))])]) ([(8,[.p (eI r3.1.AT),.p (eI r3.1.A'),.p (eS r3.1.By),.p (eL ah r3.1.Ar),.p (eL eS r3.1.AI)]),(8,[.p (eI 0),.p (eI 0),.p (eS ([]:Bk)),.p (.val (.slice none 0 0)),.p (.val (.slice none 0 0))]),(3,[.p (eI Cz.AT),.p (eI Cz.A'),.p (eS Cz.By),.p (eL ah Cz.Ar),.p (eL eS Cz.AI)]),(5,[.p (eI x_2.AT),.p (eI x_2.A'),.p (eS x_2.By),.p (eL ah x_2.Ar),.p (eL eS x_2.AI)]),(6,[.p (eI 0),.p (eI 0),.p (eS ([]:Bk)),.p (.val (.slice none 0 0)),.p (.val (.slice none 0 0))])]))⟩ ⟨4,[1,8,4,9],(by5 ((.some (bz [] 104000 104032))) ((.some λ i=>Nat.beq i 8)) ((.some (bz (tks 104000 32) 105000 105000))) (.none) (.none)),(λ _=>[(1,.p (eL ag p_1)),(3,.ptr 3 0),(5,.ptr 5 0),(6,.ptr 6 0)]),(by5 ([(3,[.p (eI Cz.AT),.p (eI Cz.A'),.p (eS Cz.By),.p (eL ah Cz.Ar),.p (eL eS Cz.AI)]),(5,[.p (eI x_2.AT),.p (eI x_2.A'),.p (eS x_2.By),.p (eL ah x_2.Ar),.p (eL eS x_2.AI)]),(6,[.p (eI 0),.p (eI 0),.p (eS ([]:Bk)),.p (.val (.slice none 0 0)),.p (.val (.slice none 0 0))])]) ([(3,[.p (eI Cz.AT),.p (eI Cz.A'),.p (eS Cz.By),.p (eL ah Cz.Ar),.p (eL eS Cz.AI)]),(5,[.p (eI x_2.AT),.p (eI x_2.A'),.p (eS x_2.By),.p (eL ah x_2.Ar),.p (eL eS x_2.AI)]),(6,[.p (eI 0),.p (eI 0),.p (eS ([]:Bk)),.p (.val (.slice none 0 0)),.p (.val (.slice none 0 0))])]) ([(8,[.p (eI 0),.p (eI 0),.p (eS ([]:Bk)),.p (.val (.slice none 0 0)),.p (.val (.slice none 0 0))]),(3,[.p (eI Cz.AT),.p (eI Cz.A'),.p (eS Cz.By),.p (eL ah Cz.Ar),.p (eL eS Cz.AI)]),(5,[.p (eI x_2.AT),.p (eI x_2.A'),.p (eS x_2.By),.p (eL ah x_2.Ar),.p (eL eS x_2.AI)]),(6,[.p (eI 0),.p (eI 0),.p (eS ([]:Bk)),.p (.val (.slice none 0 0)),.p (.val (.slice none 0 0))])]) ([(8,[.p (eI 0),.p (eI 0),.p (eS ([]:Bk)),.p (.val (.slice none 0 0)),.p (.val (.slice none 0 0))]),(3,[.p (eI Cz.AT),.p (eI Cz.A'),.p (eS Cz.By),.p (eL ah Cz.Ar),.p (eL eS Cz.AI)]),(5,[.p (eI x_2.AT),.p (eI x_2.A'),.p (eS x_2.By),.p (eL ah x_2.Ar),.p (eL eS x_2.AI)]),(6,[.p (eI 0),.p (eI 0),.p (eS ([]:Bk)),.p (.val (.slice none 0 0)),.p (.val (.slice none 0 0))])]) ([(8,[.p (eI r3.1.AT),.p (eI r3.1.A'),.p (eS r3.1.By),.p (eL ah r3.1.Ar),.p (eL eS r3.1.AI)]),(8,[.p (eI 0),.p (eI 0),.p (eS ([]:Bk)),.p (.val (.slice none 0 0)),.p (.val (.slice none 0 0))]),(3,[.p (eI Cz.AT),.p (eI Cz.A'),.p (eS Cz.By),.p (eL ah Cz.Ar),.p (eL eS Cz.AI)]),(5,[.p (eI x_2.AT),.p (eI x_2.A'),.p (eS x_2.By),.p (eL ah x_2.Ar),.p (eL eS x_2.AI)]),(6,[.p (eI 0),.p (eI 0),.p (eS ([]:Bk)),.p (.val (.slice none 0 0)),.p (.val (.slice none 0 0))])]))⟩ ⟨4,[8,1,4,9],(by5 ((.some λ i=>Nat.beq i 8)) ((.some (bz [] 104000 104032))) ((.some (bz (tks 104000 32) 105000 105000))) (.none) (.none)),(λ _=>[(1,.p (eL ag p_1)),(3,.ptr 3 0),(5,.ptr 5 0),(6,.ptr 6 0)]),(by5 ([(3,[.p (eI Cz.AT),.p (eI Cz.A'),.p (eS Cz.By),.p (eL ah Cz.Ar),.p (eL eS Cz.AI)]),(5,[.p (eI x_2.AT),.p (eI x_2.A'),.p (eS x_2.By),.p (eL ah x_2.Ar),.p (eL eS x_2.AI)]),(6,[.p (eI 0),.p (eI 0),.p (eS ([]:Bk)),.p (.val (.slice none 0 0)),.p (.val (.slice none 0 0))])]) ([(8,[.p (eI 0),.p (eI 0),.p (eS ([]:Bk)),.p (.val (.slice none 0 0)),.p (.val (.slice none 0 0))]),(3,[.p (eI Cz.AT),.p (eI Cz.A'),.p (eS Cz.By),.p (eL ah Cz.Ar),.p (eL eS Cz.AI)]),(5,[.p (eI x_2.AT),.p (eI x_2.A'),.p (eS x_2.By),.p (eL ah x_2.Ar),.p (eL eS x_2.AI)]),(6,[.p (eI 0),.p (eI 0),.p (eS ([]:Bk)),.p (.val (.slice none 0 0)),.p (.val (.slice none 0 0))])]) ([(8,[.p (eI 0),.p (eI 0),.p (eS ([]:Bk)),.p (.val (.slice none 0 0)),.p (.val (.slice none 0 0))]),(3,[.p (eI Cz.AT),.p (eI Cz.A'),.p (eS Cz.By),.p (eL ah Cz.Ar),.p (eL eS Cz.AI)]),(5,[.p (eI x_2.AT),.p (eI x_2.A'),.p (eS x_2.By),.p (eL ah x_2.Ar),.p (eL eS x_2.AI)]),(6,[.p (eI 0),.p (eI 0),.p (eS ([]:Bk)),.p (.val (.slice none 0 0)),.p (.val (.slice none 0 0))])]) ([(8,[.p (eI 0),.p (eI 0),.p (eS ([]:Bk)),.p (.val (.slice none 0 0)),.p (.val (.slice none 0 0))]),(3,[.p (eI Cz.AT),.p (eI Cz.A'),.p (eS Cz.By),.p (eL ah Cz.Ar),.p (eL eS Cz.AI)]),(5,[.p (eI x_2.AT),.p (eI x_2.A'),.p (eS x_2.By),.p (eL ah x_2.Ar),.p (eL eS x_2.AI)]),(6,[.p (eI 0),.p (eI 0),.p (eS ([]:Bk)),.p (.val (.slice none 0 0)),.p (.val (.slice none 0 0))])]) ([(8,[.p (eI r3.1.AT),.p (eI r3.1.A'),.p (eS r3.1.By),.p (eL ah r3.1.Ar),.p (eL eS r3.1.AI)]),(8,[.p (eI 0),.p (eI 0),.p (eS ([]:Bk)),.p (.val (.slice none 0 0)),.p (.val (.slice none 0 0))]),(3,[.p (eI Cz.AT),.p (eI Cz.A'),.p (eS Cz.By),.p (eL ah Cz.Ar),.p (eL eS Cz.AI)]),(5,[.p (eI x_2.AT),.p (eI x_2.A'),.p (eS x_2.By),.p (eL ah x_2.Ar),.p (eL eS x_2.AI)]),(6,[.p (eI 0),.p (eI 0),.p (eS ([]:Bk)),.p (.val (.slice none 0 0)),.p (.val (.slice none 0 0))])]))⟩ Z Z Z Z Z Z Z Z Z Z ⟨rfl,rfl,rfl,rfl,trivial⟩ Z Z (lt4 ⟨rfl,rfl,rfl,rfl,trivial⟩ ⟨rfl,rfl,rfl,rfl,trivial⟩ ⟨rfl,rfl,rfl,rfl,trivial⟩ ⟨rfl,rfl,rfl,rfl,trivial⟩) (lt4 ⟨rfl,rfl,rfl,rfl,trivial⟩ ⟨rfl,rfl,rfl,rfl,trivial⟩ ⟨rfl,rfl,rfl,rfl,trivial⟩ ⟨rfl,rfl,rfl,rfl,trivial⟩) (lt4 ⟨rfl,rfl,rfl,rfl,trivial⟩ ⟨rfl,rfl,rfl,rfl,trivial⟩ ⟨rfl,rfl,rfl,rfl,trivial⟩ ⟨rfl,rfl,rfl,rfl,trivial⟩) Z Z Z Z Z Z Z ?_;refine aU (λ _=>.p (.agg (aa.cs Cz))) Z Z Z (jC Z Z Z Z Y) (lt4 Y Y Y Y) (aj rfl (aj rfl (aj rfl (aj rfl (af [(3,_)] ⟨.inl rfl,trivial⟩ (λ sl Cy K hK=>ae rfl (aN Z Z Z Z Z (Cy _ _ rfl) Z Z Z hK)) ak))))) ?_;refine cQ (by5 (.agg [.p (eI r1.AT),.p (eI r1.A'),.p (eS r1.By),(.sem (tks 104000 32) (Node (tks 104000 32) q r1)),.p (eL eS r1.AI)]) (.agg [.p (eI r1.AT),.p (eI r1.A'),.p (eS r1.By),(.sem (tks 104000 32) (Node (tks 104000 32) q r1)),.p (eL eS r1.AI)]) (.agg [.p (eI r1.AT),.p (eI r1.A'),.p (eS r1.By),.undef,.p (eL eS r1.AI)]) (.agg [.p (eI r1.AT),.p (eI r1.A'),.p (eS r1.By),.undef,.p (eL eS r1.AI)]) (.agg [.p (eI r1.AT),.p (eI r1.A'),.p (eS r1.By),.undef,.p (eL eS r1.AI)])) [(11,_)] rfl ⟨.inr ⟨0,_,rfl,rfl,rfl⟩,trivial⟩ Z Z (hQ Z Z Z Y) (lt4 (λ h=>absurd h (by decide)) Y Y Y) (λ sl Cy K hK=>ae rfl (sk hcop Z Z Z (am (Cy _ _ rfl) aM) Tryz.call43 rfl hK)) ?_;refine aU (λ _=>.p (eL ag p_1)) Z Z Z (jC Z Z Z Z Y) (lt4 Y Y Y Y) (aj rfl (aj rfl (aj rfl (af [(1,_)] ⟨.inl rfl,trivial⟩ (λ sl Cy K hK=>ae rfl (aA Z Z Z (Cy _ _ rfl) hK)) (af [(1,_)] ⟨.inl rfl,trivial⟩ (λ sl Cy K hK=>ae rfl (aA Z Z Z (Cy _ _ rfl) hK)) ak))))) ?_;refine aU (λ _=>.p (.agg (aa.cs x_2))) Z Z Z (jC Z Z Z Z Y) (lt4 Y Y Y Y) (aj rfl (aj rfl (aj rfl (af [(5,_)] ⟨.inl rfl,trivial⟩ (λ sl Cy K hK=>ae rfl (aN Z Z Z Z Z (Cy _ _ rfl) Z Z Z hK)) (af [(5,_)] ⟨.inl rfl,trivial⟩ (λ sl Cy K hK=>ae rfl (aN Z Z Z Z Z (Cy _ _ rfl) Z Z Z hK)) ak))))) ?_;refine cQ (λ _=>.tuple [.p (.agg (aa.cs r3.1)),.p (eI r3.2)]) [(12,_),(13,_),(14,_)] rfl ⟨.inr ⟨1,_,rfl,rfl,rfl⟩,.inr ⟨2,_,rfl,rfl,rfl⟩,.inr ⟨3,_,rfl,rfl,rfl⟩,trivial⟩ Z Z (bj Z Z Y) (lt4 (λ h=>absurd h (by decide)) (λ h=>absurd h (by decide)) Y Y) (λ sl Cy K hK=>ae rfl (mB (a:=104000) (n:=32) hc Z Z Z (am (Cy _ _ rfl) (am (Cy _ _ rfl) (am (Cy _ _ rfl) aM))) Tryz.call45 rfl (by decide) hD Z Z Z hK)) ?_;refine aU (λ _=>.tuple [.p (.agg (aa.cs r3.1)),.p (eI r3.2)]) Z Z Z (jC Z Z Z Z Y) (lt4 (nl rfl) (nl rfl) Y Y) (aj rfl (af [(15,_)] ⟨.inr ⟨4,_,rfl,rfl,rfl⟩,trivial⟩ (λ sl Cy K hK=>ae rfl (aA Z Z Z (Cy _ _ rfl) hK)) (af [(15,_)] ⟨.inr ⟨4,_,rfl,rfl,rfl⟩,trivial⟩ (λ sl Cy K hK=>ae rfl (aA Z Z Z (Cy _ _ rfl) hK)) (aj rfl (aj rfl ak))))) ?_;refine aU (λ _=>.p (.agg (aa.cs r3.1))) Z Z Z (jC Z Z Z Z Y) (lt4 (nl rfl) (nl rfl) Y Y) (aj rfl (af [(10,_)] ⟨.inr ⟨5,_,rfl,rfl,rfl⟩,trivial⟩ (λ sl Cy K hK=>ae rfl (aF Z Z Z (Cy _ _ rfl) rfl hK)) (af [(10,_)] ⟨.inr ⟨5,_,rfl,rfl,rfl⟩,trivial⟩ (λ sl Cy K hK=>ae rfl (aF Z Z Z (Cy _ _ rfl) rfl hK)) (aj rfl (aj rfl ak))))) ?_;refine aU (λ _=>.p (eI r3.2)) Z Z Z (jC Z Z Z Z Y) (lt4 (nl rfl) (nl rfl) Y Y) (af [(10,_)] ⟨.inr ⟨5,_,rfl,rfl,rfl⟩,trivial⟩ (λ sl Cy K hK=>ae rfl (aF Z Z Z (Cy _ _ rfl) rfl hK)) (af [(10,_)] ⟨.inr ⟨5,_,rfl,rfl,rfl⟩,trivial⟩ (λ sl Cy K hK=>ae rfl (aF Z Z Z (Cy _ _ rfl) rfl hK)) (af [(10,_)] ⟨.inr ⟨5,_,rfl,rfl,rfl⟩,trivial⟩ (λ sl Cy K hK=>ae rfl (aF Z Z Z (Cy _ _ rfl) rfl hK)) (aj rfl (aj rfl ak))))) ?_;refine cQ (λ _=>.ptr 8 0) [] rfl trivial Z Z (bK rfl Y) (lt4 (λ h=>absurd h (by decide)) (λ h=>absurd h (by decide)) (λ h=>absurd h (by decide)) Y) (λ sl Cy K hK=>ae rfl (eG Z Z Z Z Z hK)) ?_;refine ct [(8,_),(16,_)] rfl ⟨.inr ⟨8,_,rfl,rfl,rfl⟩,.inr ⟨6,_,rfl,rfl,rfl⟩,trivial⟩ rfl (λ sl Cy K hK=>ae rfl (cv Z Z Z (Cy _ _ rfl) (Cy _ _ rfl) Z Z Z (ph rfl) hK)) ?_;refine aU (λ _=>.p (eI r3.2)) Z Z Z (jC Z Z Z Z Y) (lt4 (nl rfl) (nl rfl) (nl rfl) (nl rfl)) (af [(17,_)] ⟨.inr ⟨7,_,rfl,rfl,rfl⟩,trivial⟩ (λ sl Cy K hK=>ae rfl (bq Z Z Z (Cy _ _ rfl) hK)) (aj rfl (aj rfl (aj rfl (aj rfl ak))))) ?_;refine yF (aU (λ _=>.p (.agg (aa.cs Cz))) Z Z Z (jC Z Z Z Z Y) (lt4 Y Y Y Y) (aj rfl (aj rfl (aj rfl (aj rfl (af [(3,_)] ⟨.inl rfl,trivial⟩ (λ sl Cy K hK=>ae rfl (aN Z Z Z Z Z (Cy _ _ rfl) Z Z Z hK)) ak))))) (cQ (by5 (.agg [.p (eI r1.AT),.p (eI r1.A'),.p (eS r1.By),(.sem (tks 104000 32) (Node (tks 104000 32) q r1)),.p (eL eS r1.AI)]) (.agg [.p (eI r1.AT),.p (eI r1.A'),.p (eS r1.By),(.sem (tks 104000 32) (Node (tks 104000 32) q r1)),.p (eL eS r1.AI)]) (.agg [.p (eI r1.AT),.p (eI r1.A'),.p (eS r1.By),(.sem (tks 104000 32) (Node (tks 104000 32) q r1)),.p (eL eS r1.AI)]) (.agg [.p (eI r1.AT),.p (eI r1.A'),.p (eS r1.By),.undef,.p (eL eS r1.AI)]) (.agg [.p (eI r1.AT),.p (eI r1.A'),.p (eS r1.By),.undef,.p (eL eS r1.AI)])) [(11,_)] rfl ⟨.inr ⟨0,_,rfl,rfl,rfl⟩,trivial⟩ Z Z (hQ Z Z Z Y) (lt4 (λ h=>absurd h (by decide)) Y Y Y) (λ sl Cy K hK=>ae rfl (sk hcop Z Z Z (am (Cy _ _ rfl) aM) Tryz.call43 rfl hK)) (aU (λ _=>.p (eL ag p_1)) Z Z Z (jC Z Z Z Z Y) (lt4 Y Y Y Y) (aj rfl (aj rfl (af [(1,_)] ⟨.inl rfl,trivial⟩ (λ sl Cy K hK=>ae rfl (aA Z Z Z (Cy _ _ rfl) hK)) (af [(1,_)] ⟨.inl rfl,trivial⟩ (λ sl Cy K hK=>ae rfl (aA Z Z Z (Cy _ _ rfl) hK)) (af [(1,_)] ⟨.inl rfl,trivial⟩ (λ sl Cy K hK=>ae rfl (aA Z Z Z (Cy _ _ rfl) hK)) ak))))) (aU (λ _=>.p (.agg (aa.cs x_2))) Z Z Z (jC Z Z Z Z Y) (lt4 Y Y Y Y) (aj rfl (aj rfl (af [(5,_)] ⟨.inl rfl,trivial⟩ (λ sl Cy K hK=>ae rfl (aN Z Z Z Z Z (Cy _ _ rfl) Z Z Z hK)) (af [(5,_)] ⟨.inl rfl,trivial⟩ (λ sl Cy K hK=>ae rfl (aN Z Z Z Z Z (Cy _ _ rfl) Z Z Z hK)) (af [(5,_)] ⟨.inl rfl,trivial⟩ (λ sl Cy K hK=>ae rfl (aN Z Z Z Z Z (Cy _ _ rfl) Z Z Z hK)) ak))))) (cQ (λ _=>.tuple [.p (.agg (aa.cs r3.1)),.p (eI r3.2)]) [(12,_),(13,_),(14,_)] rfl ⟨.inr ⟨1,_,rfl,rfl,rfl⟩,.inr ⟨2,_,rfl,rfl,rfl⟩,.inr ⟨3,_,rfl,rfl,rfl⟩,trivial⟩ Z Z (bK rfl Y) (lt4 (λ h=>absurd h (by decide)) (λ h=>absurd h (by decide)) (λ h=>absurd h (by decide)) Y) (λ sl Cy K hK=>ae rfl (mB (a:=104000) (n:=32) hc Z Z Z (am (Cy _ _ rfl) (am (Cy _ _ rfl) (am (Cy _ _ rfl) aM))) Tryz.call45 rfl (by decide) hD Z Z Z hK)) (aU (λ _=>.tuple [.p (.agg (aa.cs r3.1)),.p (eI r3.2)]) Z Z Z (jC Z Z Z Z Y) (lt4 (nl rfl) (nl rfl) (nl rfl) Y) (aj rfl (af [(15,_)] ⟨.inr ⟨4,_,rfl,rfl,rfl⟩,trivial⟩ (λ sl Cy K hK=>ae rfl (aA Z Z Z (Cy _ _ rfl) hK)) (aj rfl (aj rfl (aj rfl ak))))) (aU (λ _=>.p (.agg (aa.cs r3.1))) Z Z Z (jC Z Z Z Z Y) (lt4 (nl rfl) (nl rfl) (nl rfl) Y) (aj rfl (af [(10,_)] ⟨.inr ⟨5,_,rfl,rfl,rfl⟩,trivial⟩ (λ sl Cy K hK=>ae rfl (aF Z Z Z (Cy _ _ rfl) rfl hK)) (aj rfl (aj rfl (aj rfl ak))))) (aU (λ _=>.p (eI r3.2)) Z Z Z (jC Z Z Z Z Y) (lt4 (nl rfl) (nl rfl) (nl rfl) Y) (af [(10,_)] ⟨.inr ⟨5,_,rfl,rfl,rfl⟩,trivial⟩ (λ sl Cy K hK=>ae rfl (aF Z Z Z (Cy _ _ rfl) rfl hK)) (af [(10,_)] ⟨.inr ⟨5,_,rfl,rfl,rfl⟩,trivial⟩ (λ sl Cy K hK=>ae rfl (aF Z Z Z (Cy _ _ rfl) rfl hK)) (aj rfl (aj rfl (aj rfl ak))))) (cQ (λ _=>.ptr 8 0) [] rfl trivial Z Z (bj Z Z Y) (lt4 (λ h=>absurd h (by decide)) (λ h=>absurd h (by decide)) Y Y) (λ sl Cy K hK=>ae rfl (eG Z Z Z Z Z hK)) (ct [(8,_),(16,_)] rfl ⟨.inr ⟨8,_,rfl,rfl,rfl⟩,.inr ⟨6,_,rfl,rfl,rfl⟩,trivial⟩ rfl (λ sl Cy K hK=>ae rfl (cv Z Z Z (Cy _ _ rfl) (Cy _ _ rfl) Z Z Z (ph rfl) hK)) (aU (λ _=>.p (eI r3.2)) Z Z Z (jC Z Z Z Z Y) (lt4 (nl rfl) (nl rfl) (nl rfl) (nl rfl)) (af [(17,_)] ⟨.inr ⟨7,_,rfl,rfl,rfl⟩,trivial⟩ (λ sl Cy K hK=>ae rfl (bq Z Z Z (Cy _ _ rfl) hK)) (aj rfl (aj rfl (aj rfl (aj rfl ak))))) (AO rfl ⟨rfl,rfl,rfl,rfl,rfl,trivial⟩ ⟨⟨rfl,rfl,.inr rfl⟩,⟨⟨rfl,rfl,.inl rfl⟩,⟨⟨rfl,rfl,.inr rfl⟩,⟨⟨rfl,rfl,.inr rfl⟩,⟨⟨rfl,rfl,.inr rfl⟩,⟨⟨rfl,rfl,.inl rfl⟩,⟨⟨rfl,rfl,.inr rfl⟩,⟨⟨rfl,rfl,.inr rfl⟩,⟨⟨rfl,rfl,.inr rfl⟩,⟨⟨rfl,rfl,.inr rfl⟩,trivial⟩⟩⟩⟩⟩⟩⟩⟩⟩⟩ (aU (λ _=>.p (.agg (aa.cs Cz))) Z Z Z (jC Z Z Z Z Y) (lt4 Y Y Y Y) (aj rfl (aj rfl (aj rfl (af [(3,_)] ⟨.inl rfl,trivial⟩ (λ sl Cy K hK=>ae rfl (aN Z Z Z Z Z (Cy _ _ rfl) Z Z Z hK)) (af [(3,_)] ⟨.inl rfl,trivial⟩ (λ sl Cy K hK=>ae rfl (aN Z Z Z Z Z (Cy _ _ rfl) Z Z Z hK)) ak))))) (cQ (by5 (.agg [.p (eI r1.AT),.p (eI r1.A'),.p (eS r1.By),(.sem (tks 104000 32) (Node (tks 104000 32) q r1)),.p (eL eS r1.AI)]) (.agg [.p (eI r1.AT),.p (eI r1.A'),.p (eS r1.By),(.sem (tks 104000 32) (Node (tks 104000 32) q r1)),.p (eL eS r1.AI)]) (.agg [.p (eI r1.AT),.p (eI r1.A'),.p (eS r1.By),(.sem (tks 104000 32) (Node (tks 104000 32) q r1)),.p (eL eS r1.AI)]) (.agg [.p (eI r1.AT),.p (eI r1.A'),.p (eS r1.By),.undef,.p (eL eS r1.AI)]) (.agg [.p (eI r1.AT),.p (eI r1.A'),.p (eS r1.By),.undef,.p (eL eS r1.AI)])) [(11,_)] rfl ⟨.inr ⟨0,_,rfl,rfl,rfl⟩,trivial⟩ Z Z (bj Z Z Y) (lt4 (λ h=>absurd h (by decide)) (λ h=>absurd h (by decide)) Y Y) (λ sl Cy K hK=>ae rfl (sk hcop Z Z Z (am (Cy _ _ rfl) aM) Tryz.call43 rfl hK)) (aU (λ _=>.p (eL ag p_1)) Z Z Z (jC Z Z Z Z Y) (lt4 Y Y Y Y) (aj rfl (aj rfl (af [(1,_)] ⟨.inl rfl,trivial⟩ (λ sl Cy K hK=>ae rfl (aA Z Z Z (Cy _ _ rfl) hK)) (af [(1,_)] ⟨.inl rfl,trivial⟩ (λ sl Cy K hK=>ae rfl (aA Z Z Z (Cy _ _ rfl) hK)) (af [(1,_)] ⟨.inl rfl,trivial⟩ (λ sl Cy K hK=>ae rfl (aA Z Z Z (Cy _ _ rfl) hK)) ak))))) (aU (λ _=>.p (.agg (aa.cs x_2))) Z Z Z (jC Z Z Z Z Y) (lt4 Y Y Y Y) (aj rfl (aj rfl (af [(5,_)] ⟨.inl rfl,trivial⟩ (λ sl Cy K hK=>ae rfl (aN Z Z Z Z Z (Cy _ _ rfl) Z Z Z hK)) (af [(5,_)] ⟨.inl rfl,trivial⟩ (λ sl Cy K hK=>ae rfl (aN Z Z Z Z Z (Cy _ _ rfl) Z Z Z hK)) (af [(5,_)] ⟨.inl rfl,trivial⟩ (λ sl Cy K hK=>ae rfl (aN Z Z Z Z Z (Cy _ _ rfl) Z Z Z hK)) ak))))) (cQ (λ _=>.tuple [.p (.agg (aa.cs r3.1)),.p (eI r3.2)]) [(12,_),(13,_),(14,_)] rfl ⟨.inr ⟨1,_,rfl,rfl,rfl⟩,.inr ⟨2,_,rfl,rfl,rfl⟩,.inr ⟨3,_,rfl,rfl,rfl⟩,trivial⟩ Z Z (bK rfl Y) (lt4 (λ h=>absurd h (by decide)) (λ h=>absurd h (by decide)) (λ h=>absurd h (by decide)) Y) (λ sl Cy K hK=>ae rfl (mB (a:=104000) (n:=32) hc Z Z Z (am (Cy _ _ rfl) (am (Cy _ _ rfl) (am (Cy _ _ rfl) aM))) Tryz.call45 rfl (by decide) hD Z Z Z hK)) (aU (λ _=>.tuple [.p (.agg (aa.cs r3.1)),.p (eI r3.2)]) Z Z Z (jC Z Z Z Z Y) (lt4 (nl rfl) (nl rfl) (nl rfl) Y) (aj rfl (af [(15,_)] ⟨.inr ⟨4,_,rfl,rfl,rfl⟩,trivial⟩ (λ sl Cy K hK=>ae rfl (aA Z Z Z (Cy _ _ rfl) hK)) (aj rfl (aj rfl (aj rfl ak))))) (aU (λ _=>.p (.agg (aa.cs r3.1))) Z Z Z (jC Z Z Z Z Y) (lt4 (nl rfl) (nl rfl) (nl rfl) Y) (aj rfl (af [(10,_)] ⟨.inr ⟨5,_,rfl,rfl,rfl⟩,trivial⟩ (λ sl Cy K hK=>ae rfl (aF Z Z Z (Cy _ _ rfl) rfl hK)) (aj rfl (aj rfl (aj rfl ak))))) (aU (λ _=>.p (eI r3.2)) Z Z Z (jC Z Z Z Z Y) (lt4 (nl rfl) (nl rfl) (nl rfl) Y) (af [(10,_)] ⟨.inr ⟨5,_,rfl,rfl,rfl⟩,trivial⟩ (λ sl Cy K hK=>ae rfl (aF Z Z Z (Cy _ _ rfl) rfl hK)) (af [(10,_)] ⟨.inr ⟨5,_,rfl,rfl,rfl⟩,trivial⟩ (λ sl Cy K hK=>ae rfl (aF Z Z Z (Cy _ _ rfl) rfl hK)) (aj rfl (aj rfl (aj rfl ak))))) (cQ (λ _=>.ptr 8 0) [] rfl trivial Z Z (hQ Z Z Z Y) (lt4 (λ h=>absurd h (by decide)) Y Y Y) (λ sl Cy K hK=>ae rfl (eG Z Z Z Z Z hK)) (ct [(8,_),(16,_)] rfl ⟨.inr ⟨8,_,rfl,rfl,rfl⟩,.inr ⟨6,_,rfl,rfl,rfl⟩,trivial⟩ rfl (λ sl Cy K hK=>ae rfl (cv Z Z Z (Cy _ _ rfl) (Cy _ _ rfl) Z Z Z (ph rfl) hK)) (aU (λ _=>.p (eI r3.2)) Z Z Z (jC Z Z Z Z Y) (lt4 (nl rfl) (nl rfl) (nl rfl) (nl rfl)) (af [(17,_)] ⟨.inr ⟨7,_,rfl,rfl,rfl⟩,trivial⟩ (λ sl Cy K hK=>ae rfl (bq Z Z Z (Cy _ _ rfl) hK)) (aj rfl (aj rfl (aj rfl (aj rfl ak))))) (xJ rfl ⟨rfl,rfl,rfl,rfl,rfl,trivial⟩ ⟨⟨rfl,rfl,.inr rfl⟩,⟨⟨rfl,rfl,.inl rfl⟩,⟨⟨rfl,rfl,.inr rfl⟩,⟨⟨rfl,rfl,.inr rfl⟩,⟨⟨rfl,rfl,.inr rfl⟩,⟨⟨rfl,rfl,.inl rfl⟩,⟨⟨rfl,rfl,.inr rfl⟩,⟨⟨rfl,rfl,.inr rfl⟩,⟨⟨rfl,rfl,.inl rfl⟩,⟨⟨rfl,rfl,.inr rfl⟩,trivial⟩⟩⟩⟩⟩⟩⟩⟩⟩⟩)))))))))))))))))))))))) ?_;refine nx 2 rfl (bd h0 λ o11 h1 h0=>?_);refine kN o11 (λ v12=>⟨[(6,.ptr 6 0),(8,.ptr 8 0),(9,.p (eI v12))],[(6,[.p (eI 0),.p (eI 0),.p (eS ([]:Bk)),.p (.val (.slice none 0 0)),.p (.val (.slice none 0 0))]),(8,(aa.cs r3.1).map .p)]⟩) ?_ ?_
 ·refine nx 7 Z (fN [23] h0 Z (λ c9 h0=>?_) λ c9 h0=>?_)
  ·exact nx 9 Z (mQ (oi h0) Z (ar ⟨sr,sr,trivial⟩))
  exact nx 9 Z (mQ (oi h0) Z (ar ⟨dY ⟨.inl Z,.inl Z,.inl Z,.inr ⟨Z,Z⟩,.inr ⟨Z,Z⟩,trivial⟩,sr,trivial⟩))
 refine nx 5 Z (fD [19] h1 Z (λ c5 h1=>?_) λ c5 h1=>?_)
 ·refine nx 3 Z (bd h1 λ r6 e7 h1=>?_);refine oK (o0 _ r3.1 _ e7) Z ⟨sr,trivial⟩ Tryz.call46 Z (nx 2 Z ?_);exact eX _ (oi h1).symm (gE Z Z)
 exact nx 2 Z (eX _ (oi h1).symm (gE Z Z))
def gQ (DL:Int):Option aa :=some (aa.mk 2 DL ([]:Bk) [] [])
theorem fW (DL:Int)(r:aa)(h0:gQ DL=some r):au Tryz.prog 35 [eI DL] (·=.p (.agg (aa.cs r))):=by
 unfold gQ at h0;refine aZ good Tryz.func35 Z Z Z λ w0=>mP (λ v:aa=>.p (.agg (aa.cs v))) ?_;exact nx 11 Z (mQ (oi h0) Z (dY ⟨.inl Z,.inl Z,.inl Z,.inr ⟨Z,Z⟩,.inr ⟨Z,Z⟩,trivial⟩))
def gr (CB:Bk):Option ac :=some (ac.mk false 0 CB)
theorem cV (CB:Bk)(r:ac)(h0:gr CB=some r):au Tryz.prog 36 [eS CB] (·=.p (.agg (ac.cs r))):=by
 unfold gr at h0;refine aZ good Tryz.func36 Z Z Z λ w0=>mP (λ v:ac=>.p (.agg (ac.cs v))) ?_;exact nx 11 Z (mQ (oi h0) Z (sr))
def jl (DL:Int):Option ac :=some (ac.mk true DL ([]:Bk))
theorem iZ (DL:Int)(r:ac)(h0:jl DL=some r):au Tryz.prog 37 [eI DL] (·=.p (.agg (ac.cs r))):=by
 unfold jl at h0;refine aZ good Tryz.func37 Z Z Z λ w0=>mP (λ v:ac=>.p (.agg (ac.cs v))) ?_;exact nx 11 Z (mQ (oi h0) Z (sr))
def cN (n:Nat):Option Bool :=(gQ 1).bind λ r1=>(gQ 2).bind λ r3=>(gr ([97]:Bk)).bind λ r5=>(jl 1).bind λ r7=>(fp n (aa.mk 5 0 ([]:Bk) ([(aa.mk 4 0 ([]:Bk) [r1,r3] [])]) ([([97]:Bk)])) [r5,r7]).bind λ r9=>(gr ([97]:Bk)).bind λ D2=>(gr ([98]:Bk)).bind λ DK=>(fp n (aa.mk 5 0 ([]:Bk) ([(aa.mk 4 0 ([]:Bk) [r1,r3] [])]) ([([97]:Bk)])) [D2,DK]).bind λ Db=>(gr ([98]:Bk)).bind λ DV=>(gQ 2).bind λ GY=>(ii n (aa.mk 5 0 ([]:Bk) ([(aa.mk 4 0 ([]:Bk) [r1,r3] [])]) ([([97]:Bk)])) [DV] GY).bind λ CX=>(lN n ([91,34,97,34,93]:Bk)).bind λ GX=>(if r9.2=0 then if r9.1.A'=2 then if Db.2=6 then if CX.2=0 then if (CX.1.AI.length:Int)=2 then if GX.2=2 then(gr ([97]:Bk)).bind λ FE=>(jl 0).bind λ r33=>(gr ([98,32,99]:Bk)).bind λ ED=>(jp n [FE,r33,ED]).bind λ FQ=>some (decide (FQ=([97,91,48,93,91,34,98,32,99,34,93]:Bk)))else some false else some false else some false else some false else some false else some false : Option Bool).bind λ F6=>some F6
theorem dk (n:Nat)(r:Bool)(h0:cN n=some r):au Tryz.prog 11 [] (·=.p (eB r)):=by
 unfold cN at h0;refine aZ good Tryz.func11 Z Z Z λ w0=>mP (λ v:Bool=>.p (eB v)) ?_;refine nx 6 Z (bd h0 λ r1 e2 h0=>?_);refine oK (fW 1 _ e2) Z ⟨sr,trivial⟩ Tryz.call35 Z (bd h0 λ r3 e4 h0=>?_);refine oK (fW 2 _ e4) Z ⟨sr,trivial⟩ Tryz.call35 Z (mO Z (bA ah [r1,r3] Z Z Z Z Z Z Z Z Z Z Z Z Z (by first|rfl|(simp only [cl,py,aa.Cv]; done)|(simp only [cl,py,aa.Cv]; rfl)) ?_));refine nx 6 Z (mO Z (bA eS [([97]:Bk)] Z Z Z Z Z Z Z Z Z Z Z Z Z Z ?_));refine nx 1 Z (mG (j9 16 (y:=.p (.agg (aa.cs (aa.mk 4 0 ([]:Bk) [r1,r3] [])))) Z (dY ⟨.inl Z,.inl Z,.inl Z,.inl Z,.inr ⟨Z,Z⟩,trivial⟩)) ?_);refine mO Z (bA ah [(aa.mk 4 0 ([]:Bk) [r1,r3] [])] Z Z Z Z Z Z Z Z Z Z Z Z Z (by first|rfl|(simp only [cl,py,aa.Cv]; done)|(simp only [cl,py,aa.Cv]; rfl)) ?_);refine nx 5 Z (bd h0 λ r5 e6 h0=>?_);refine bd h0 λ r7 e8 h0=>bd h0 λ r9 GM h0=>mG (gE (t:=⟨[(2,.ptr 2 0)],[(2,[.p (eI 5),.p (eI 0),.p (eS ([]:Bk)),.p (eL ah ([(aa.mk 4 0 ([]:Bk) [r1,r3] [])])),.p (eL eS ([([97]:Bk)]))])]⟩) Z Z) (mS ⟨2,[8,9],(by3 (.some λ i=>Nat.beq i 3) .none .none),(λ _=>[(2,.ptr 2 0)]),(by3 ([(2,[.p (eI 5),.p (eI 0),.p (eS ([]:Bk)),.p (eL ah ([(aa.mk 4 0 ([]:Bk) [r1,r3] [])])),.p (eL eS ([([97]:Bk)]))])]) ([(3,[.p (eI 0),.p (eI 0),.p (eS ([]:Bk)),.p (.val (.slice none 0 0)),.p (.val (.slice none 0 0))]),(2,[.p (eI 5),.p (eI 0),.p (eS ([]:Bk)),.p (eL ah ([(aa.mk 4 0 ([]:Bk) [r1,r3] [])])),.p (eL eS ([([97]:Bk)]))])]) ([(3,[.p (eI r9.1.AT),.p (eI r9.1.A'),.p (eS r9.1.By),.p (eL ah r9.1.Ar),.p (eL eS r9.1.AI)]),(3,[.p (eI 0),.p (eI 0),.p (eS ([]:Bk)),.p (.val (.slice none 0 0)),.p (.val (.slice none 0 0))]),(2,[.p (eI 5),.p (eI 0),.p (eS ([]:Bk)),.p (eL ah ([(aa.mk 4 0 ([]:Bk) [r1,r3] [])])),.p (eL eS ([([97]:Bk)]))])]))⟩ Z Z Z ⟨Z,trivial⟩ (lt2 ⟨Z,trivial⟩ ⟨Z,trivial⟩) Z Z Z Z ?_);refine al (λ _=>.p (.agg [eI 5,eI 0,eS ([]:Bk),eL ah ([(aa.mk 4 0 ([]:Bk) [r1,r3] [])]),eL eS ([([97]:Bk)])])) Z Z Z (bj Z Z Y) (lt2 Z Z) (aj Z (af [(2,_)] ⟨.inl Z,trivial⟩ (λ sl Cy K hK=>ae Z (aN Z Z Z Z Z (Cy _ _ Z) Z Z Z hK)) (af [(2,_)] ⟨.inl Z,trivial⟩ (λ sl Cy K hK=>ae Z (aN Z Z Z Z Z (Cy _ _ Z) Z Z Z hK)) ak))) (al (λ _=>.p (.agg (ac.cs r5))) Z Z Z (bj Z Z Y) (lt2 Z Z) (aj Z (af [] trivial (λ sl Cy K hK=>ae Z (aY (cV ([97]:Bk) _ e6) Z Z Z (am Z aM) ⟨sr,trivial⟩ Tryz.call36 Z hK)) (af [] trivial (λ sl Cy K hK=>ae Z (aY (cV ([97]:Bk) _ e6) Z Z Z (am Z aM) ⟨sr,trivial⟩ Tryz.call36 Z hK)) ak))) ?_);refine al (λ _=>.p (.agg (ac.cs r7))) Z Z Z (bj Z Z Y) (lt2 Z Z) (aj Z (af [] trivial (λ sl Cy K hK=>ae Z (aY (iZ 1 _ e8) Z Z Z (am Z aM) ⟨sr,trivial⟩ Tryz.call37 Z hK)) (af [] trivial (λ sl Cy K hK=>ae Z (aY (iZ 1 _ e8) Z Z Z (am Z aM) ⟨sr,trivial⟩ Tryz.call37 Z hK)) ak))) (al (λ _=>.p (eL ag [r5,r7])) Z Z Z (bj Z Z Y) (lt2 Z Z) (aj Z (af [(21,_),(22,_)] ⟨.inr ⟨1,_,Z,Z,Z⟩,.inr ⟨2,_,Z,Z,Z⟩,trivial⟩ (λ sl Cy K hK=>ae Z (bA ag [r5,r7] Z Z Z Z Z Z (cH (Cy _ _ Z) Z (cH (Cy _ _ Z) Z eT)) Z Z Z Z Z Z (by first|rfl|(simp only [cl,py,ac.Cv]; done)|(simp only [cl,py,ac.Cv]; rfl)) hK)) (af [(21,_),(22,_)] ⟨.inr ⟨1,_,Z,Z,Z⟩,.inr ⟨2,_,Z,Z,Z⟩,trivial⟩ (λ sl Cy K hK=>ae Z (bA ag [r5,r7] Z Z Z Z Z Z (cH (Cy _ _ Z) Z (cH (Cy _ _ Z) Z eT)) Z Z Z Z Z Z (by first|rfl|(simp only [cl,py,ac.Cv]; done)|(simp only [cl,py,ac.Cv]; rfl)) hK)) ak))) ?_);refine al (λ _=>.tuple [.p (.agg (aa.cs r9.1)),.p (eI r9.2)]) Z Z Z (bj Z Z Y) (lt2 Z Z) (aj Z (af [(20,_),(23,_)] ⟨.inr ⟨0,_,Z,Z,Z⟩,.inr ⟨3,_,Z,Z,Z⟩,trivial⟩ (λ sl Cy K hK=>ae Z (aY (dD _ (aa.mk 5 0 ([]:Bk) ([(aa.mk 4 0 ([]:Bk) [r1,r3] [])]) ([([97]:Bk)])) [r5,r7] _ GM) Z Z Z (am (Cy _ _ Z) (am (Cy _ _ Z) aM)) ⟨sr,sr,trivial⟩ Tryz.call18 Z hK)) (af [(20,_),(23,_)] ⟨.inr ⟨0,_,Z,Z,Z⟩,.inr ⟨3,_,Z,Z,Z⟩,trivial⟩ (λ sl Cy K hK=>ae Z (aY (dD _ (aa.mk 5 0 ([]:Bk) ([(aa.mk 4 0 ([]:Bk) [r1,r3] [])]) ([([97]:Bk)])) [r5,r7] _ GM) Z Z Z (am (Cy _ _ Z) (am (Cy _ _ Z) aM)) ⟨sr,sr,trivial⟩ Tryz.call18 Z hK)) ak))) (al (λ _=>.tuple [.p (.agg (aa.cs r9.1)),.p (eI r9.2)]) Z Z Z (bj Z Z Y) (lt2 Z Z) (aj Z (af [(24,_)] ⟨.inr ⟨4,_,Z,Z,Z⟩,trivial⟩ (λ sl Cy K hK=>ae Z (aA Z Z Z (Cy _ _ Z) hK)) (af [(24,_)] ⟨.inr ⟨4,_,Z,Z,Z⟩,trivial⟩ (λ sl Cy K hK=>ae Z (aA Z Z Z (Cy _ _ Z) hK)) ak))) ?_);refine al (λ _=>.p (.agg (aa.cs r9.1))) Z Z Z (bj Z Z Y) (lt2 Z Z) (aj Z (af [(19,_)] ⟨.inr ⟨5,_,Z,Z,Z⟩,trivial⟩ (λ sl Cy K hK=>ae Z (aF Z Z Z (Cy _ _ Z) Z hK)) (af [(19,_)] ⟨.inr ⟨5,_,Z,Z,Z⟩,trivial⟩ (λ sl Cy K hK=>ae Z (aF Z Z Z (Cy _ _ Z) Z hK)) ak))) (al (λ _=>.p (eI r9.2)) Z Z Z (bj Z Z Y) (lt2 Z Z) (af [(19,_)] ⟨.inr ⟨5,_,Z,Z,Z⟩,trivial⟩ (λ sl Cy K hK=>ae Z (aF Z Z Z (Cy _ _ Z) Z hK)) (af [(19,_)] ⟨.inr ⟨5,_,Z,Z,Z⟩,trivial⟩ (λ sl Cy K hK=>ae Z (aF Z Z Z (Cy _ _ Z) Z hK)) (af [(19,_)] ⟨.inr ⟨5,_,Z,Z,Z⟩,trivial⟩ (λ sl Cy K hK=>ae Z (aF Z Z Z (Cy _ _ Z) Z hK)) ak))) ?_);refine cQ (λ _=>.ptr 3 0) [] Z trivial Z Z (bK Z Y) (lt2 (λ h=>absurd h (by decide)) Y) (λ sl Cy K hK=>ae Z (eG Z Z Z Z Z hK)) (ct [(3,_),(25,_)] Z ⟨.inr ⟨8,_,Z,Z,Z⟩,.inr ⟨6,_,Z,Z,Z⟩,trivial⟩ Z (λ sl Cy K hK=>ae Z (cv Z Z Z (Cy _ _ Z) (Cy _ _ Z) Z Z Z (ph Z) hK)) ?_);refine al (λ _=>.p (eI r9.2)) Z Z Z (bj Z Z Y) (lt2 Z Z) (af [(26,_)] ⟨.inr ⟨7,_,Z,Z,Z⟩,trivial⟩ (λ sl Cy K hK=>ae Z (bq Z Z Z (Cy _ _ Z) hK)) (aj Z (aj Z ak))) (eY ?_);refine nx 2 Z (bd h0 λ D2 FZ h0=>?_);refine bd h0 λ DK FY h0=>bd h0 λ Db FA h0=>mG (gE (t:=⟨[(2,.ptr 2 0),(3,.ptr 3 0),(4,.p (eI r9.2))],[(2,[.p (eI 5),.p (eI 0),.p (eS ([]:Bk)),.p (eL ah ([(aa.mk 4 0 ([]:Bk) [r1,r3] [])])),.p (eL eS ([([97]:Bk)]))]),(3,(aa.cs r9.1).map .p)]⟩) Z Z) (mS ⟨2,[8,9],(by3 (.some λ i=>Nat.beq i 5) .none .none),(λ _=>[(2,.ptr 2 0),(3,.ptr 3 0),(4,.p (eI r9.2))]),(by3 ([(2,[.p (eI 5),.p (eI 0),.p (eS ([]:Bk)),.p (eL ah ([(aa.mk 4 0 ([]:Bk) [r1,r3] [])])),.p (eL eS ([([97]:Bk)]))]),(3,[.p (eI r9.1.AT),.p (eI r9.1.A'),.p (eS r9.1.By),.p (eL ah r9.1.Ar),.p (eL eS r9.1.AI)])]) ([(5,[.p (eI 0),.p (eI 0),.p (eS ([]:Bk)),.p (.val (.slice none 0 0)),.p (.val (.slice none 0 0))]),(2,[.p (eI 5),.p (eI 0),.p (eS ([]:Bk)),.p (eL ah ([(aa.mk 4 0 ([]:Bk) [r1,r3] [])])),.p (eL eS ([([97]:Bk)]))]),(3,[.p (eI r9.1.AT),.p (eI r9.1.A'),.p (eS r9.1.By),.p (eL ah r9.1.Ar),.p (eL eS r9.1.AI)])]) ([(5,[.p (eI Db.1.AT),.p (eI Db.1.A'),.p (eS Db.1.By),.p (eL ah Db.1.Ar),.p (eL eS Db.1.AI)]),(5,[.p (eI 0),.p (eI 0),.p (eS ([]:Bk)),.p (.val (.slice none 0 0)),.p (.val (.slice none 0 0))]),(2,[.p (eI 5),.p (eI 0),.p (eS ([]:Bk)),.p (eL ah ([(aa.mk 4 0 ([]:Bk) [r1,r3] [])])),.p (eL eS ([([97]:Bk)]))]),(3,[.p (eI r9.1.AT),.p (eI r9.1.A'),.p (eS r9.1.By),.p (eL ah r9.1.Ar),.p (eL eS r9.1.AI)])]))⟩ Z Z Z ⟨Z,Z,Z,trivial⟩ (lt2 ⟨Z,Z,Z,trivial⟩ ⟨Z,Z,Z,trivial⟩) Z Z Z Z ?_);refine al (λ _=>.p (.agg [eI 5,eI 0,eS ([]:Bk),eL ah ([(aa.mk 4 0 ([]:Bk) [r1,r3] [])]),eL eS ([([97]:Bk)])])) Z Z Z (bj Z Z Y) (lt2 Z Z) (aj Z (af [(2,_)] ⟨.inl Z,trivial⟩ (λ sl Cy K hK=>ae Z (aN Z Z Z Z Z (Cy _ _ Z) Z Z Z hK)) (af [(2,_)] ⟨.inl Z,trivial⟩ (λ sl Cy K hK=>ae Z (aN Z Z Z Z Z (Cy _ _ Z) Z Z Z hK)) ak))) (al (λ _=>.p (.agg (ac.cs D2))) Z Z Z (bj Z Z Y) (lt2 Z Z) (aj Z (af [] trivial (λ sl Cy K hK=>ae Z (aY (cV ([97]:Bk) _ FZ) Z Z Z (am Z aM) ⟨sr,trivial⟩ Tryz.call36 Z hK)) (af [] trivial (λ sl Cy K hK=>ae Z (aY (cV ([97]:Bk) _ FZ) Z Z Z (am Z aM) ⟨sr,trivial⟩ Tryz.call36 Z hK)) ak))) ?_);refine al (λ _=>.p (.agg (ac.cs DK))) Z Z Z (bj Z Z Y) (lt2 Z Z) (aj Z (af [] trivial (λ sl Cy K hK=>ae Z (aY (cV ([98]:Bk) _ FY) Z Z Z (am Z aM) ⟨sr,trivial⟩ Tryz.call36 Z hK)) (af [] trivial (λ sl Cy K hK=>ae Z (aY (cV ([98]:Bk) _ FY) Z Z Z (am Z aM) ⟨sr,trivial⟩ Tryz.call36 Z hK)) ak))) (al (λ _=>.p (eL ag [D2,DK])) Z Z Z (bj Z Z Y) (lt2 Z Z) (aj Z (af [(29,_),(30,_)] ⟨.inr ⟨1,_,Z,Z,Z⟩,.inr ⟨2,_,Z,Z,Z⟩,trivial⟩ (λ sl Cy K hK=>ae Z (bA ag [D2,DK] Z Z Z Z Z Z (cH (Cy _ _ Z) Z (cH (Cy _ _ Z) Z eT)) Z Z Z Z Z Z (by first|rfl|(simp only [cl,py,ac.Cv]; done)|(simp only [cl,py,ac.Cv]; rfl)) hK)) (af [(29,_),(30,_)] ⟨.inr ⟨1,_,Z,Z,Z⟩,.inr ⟨2,_,Z,Z,Z⟩,trivial⟩ (λ sl Cy K hK=>ae Z (bA ag [D2,DK] Z Z Z Z Z Z (cH (Cy _ _ Z) Z (cH (Cy _ _ Z) Z eT)) Z Z Z Z Z Z (by first|rfl|(simp only [cl,py,ac.Cv]; done)|(simp only [cl,py,ac.Cv]; rfl)) hK)) ak))) ?_);refine al (λ _=>.tuple [.p (.agg (aa.cs Db.1)),.p (eI Db.2)]) Z Z Z (bj Z Z Y) (lt2 Z Z) (aj Z (af [(28,_),(31,_)] ⟨.inr ⟨0,_,Z,Z,Z⟩,.inr ⟨3,_,Z,Z,Z⟩,trivial⟩ (λ sl Cy K hK=>ae Z (aY (dD _ (aa.mk 5 0 ([]:Bk) ([(aa.mk 4 0 ([]:Bk) [r1,r3] [])]) ([([97]:Bk)])) [D2,DK] _ FA) Z Z Z (am (Cy _ _ Z) (am (Cy _ _ Z) aM)) ⟨sr,sr,trivial⟩ Tryz.call18 Z hK)) (af [(28,_),(31,_)] ⟨.inr ⟨0,_,Z,Z,Z⟩,.inr ⟨3,_,Z,Z,Z⟩,trivial⟩ (λ sl Cy K hK=>ae Z (aY (dD _ (aa.mk 5 0 ([]:Bk) ([(aa.mk 4 0 ([]:Bk) [r1,r3] [])]) ([([97]:Bk)])) [D2,DK] _ FA) Z Z Z (am (Cy _ _ Z) (am (Cy _ _ Z) aM)) ⟨sr,sr,trivial⟩ Tryz.call18 Z hK)) ak))) (al (λ _=>.tuple [.p (.agg (aa.cs Db.1)),.p (eI Db.2)]) Z Z Z (bj Z Z Y) (lt2 Z Z) (aj Z (af [(32,_)] ⟨.inr ⟨4,_,Z,Z,Z⟩,trivial⟩ (λ sl Cy K hK=>ae Z (aA Z Z Z (Cy _ _ Z) hK)) (af [(32,_)] ⟨.inr ⟨4,_,Z,Z,Z⟩,trivial⟩ (λ sl Cy K hK=>ae Z (aA Z Z Z (Cy _ _ Z) hK)) ak))) ?_);refine al (λ _=>.p (.agg (aa.cs Db.1))) Z Z Z (bj Z Z Y) (lt2 Z Z) (aj Z (af [(27,_)] ⟨.inr ⟨5,_,Z,Z,Z⟩,trivial⟩ (λ sl Cy K hK=>ae Z (aF Z Z Z (Cy _ _ Z) Z hK)) (af [(27,_)] ⟨.inr ⟨5,_,Z,Z,Z⟩,trivial⟩ (λ sl Cy K hK=>ae Z (aF Z Z Z (Cy _ _ Z) Z hK)) ak))) (al (λ _=>.p (eI Db.2)) Z Z Z (bj Z Z Y) (lt2 Z Z) (af [(27,_)] ⟨.inr ⟨5,_,Z,Z,Z⟩,trivial⟩ (λ sl Cy K hK=>ae Z (aF Z Z Z (Cy _ _ Z) Z hK)) (af [(27,_)] ⟨.inr ⟨5,_,Z,Z,Z⟩,trivial⟩ (λ sl Cy K hK=>ae Z (aF Z Z Z (Cy _ _ Z) Z hK)) (af [(27,_)] ⟨.inr ⟨5,_,Z,Z,Z⟩,trivial⟩ (λ sl Cy K hK=>ae Z (aF Z Z Z (Cy _ _ Z) Z hK)) ak))) ?_);refine cQ (λ _=>.ptr 5 0) [] Z trivial Z Z (bK Z Y) (lt2 (λ h=>absurd h (by decide)) Y) (λ sl Cy K hK=>ae Z (eG Z Z Z Z Z hK)) (ct [(5,_),(33,_)] Z ⟨.inr ⟨8,_,Z,Z,Z⟩,.inr ⟨6,_,Z,Z,Z⟩,trivial⟩ Z (λ sl Cy K hK=>ae Z (cv Z Z Z (Cy _ _ Z) (Cy _ _ Z) Z Z Z (ph Z) hK)) ?_);refine al (λ _=>.p (eI Db.2)) Z Z Z (bj Z Z Y) (lt2 Z Z) (af [(34,_)] ⟨.inr ⟨7,_,Z,Z,Z⟩,trivial⟩ (λ sl Cy K hK=>ae Z (bq Z Z Z (Cy _ _ Z) hK)) (aj Z (aj Z ak))) (eY ?_);refine nx 2 Z (bd h0 λ DV FW h0=>?_);refine bd h0 λ GY e20 h0=>bd h0 λ CX Et h0=>mG (gE (t:=⟨[(2,.ptr 2 0),(3,.ptr 3 0),(4,.p (eI r9.2)),(6,.p (eI Db.2))],[(2,[.p (eI 5),.p (eI 0),.p (eS ([]:Bk)),.p (eL ah ([(aa.mk 4 0 ([]:Bk) [r1,r3] [])])),.p (eL eS ([([97]:Bk)]))]),(3,(aa.cs r9.1).map .p)]⟩) Z Z) (mS ⟨2,[8,9],(by3 (.some λ i=>Nat.beq i 7) .none .none),(λ _=>[(2,.ptr 2 0),(3,.ptr 3 0),(4,.p (eI r9.2)),(6,.p (eI Db.2))]),(by3 ([(2,[.p (eI 5),.p (eI 0),.p (eS ([]:Bk)),.p (eL ah ([(aa.mk 4 0 ([]:Bk) [r1,r3] [])])),.p (eL eS ([([97]:Bk)]))]),(3,[.p (eI r9.1.AT),.p (eI r9.1.A'),.p (eS r9.1.By),.p (eL ah r9.1.Ar),.p (eL eS r9.1.AI)])]) ([(7,[.p (eI 0),.p (eI 0),.p (eS ([]:Bk)),.p (.val (.slice none 0 0)),.p (.val (.slice none 0 0))]),(2,[.p (eI 5),.p (eI 0),.p (eS ([]:Bk)),.p (eL ah ([(aa.mk 4 0 ([]:Bk) [r1,r3] [])])),.p (eL eS ([([97]:Bk)]))]),(3,[.p (eI r9.1.AT),.p (eI r9.1.A'),.p (eS r9.1.By),.p (eL ah r9.1.Ar),.p (eL eS r9.1.AI)])]) ([(7,[.p (eI CX.1.AT),.p (eI CX.1.A'),.p (eS CX.1.By),.p (eL ah CX.1.Ar),.p (eL eS CX.1.AI)]),(7,[.p (eI 0),.p (eI 0),.p (eS ([]:Bk)),.p (.val (.slice none 0 0)),.p (.val (.slice none 0 0))]),(2,[.p (eI 5),.p (eI 0),.p (eS ([]:Bk)),.p (eL ah ([(aa.mk 4 0 ([]:Bk) [r1,r3] [])])),.p (eL eS ([([97]:Bk)]))]),(3,[.p (eI r9.1.AT),.p (eI r9.1.A'),.p (eS r9.1.By),.p (eL ah r9.1.Ar),.p (eL eS r9.1.AI)])]))⟩ Z Z Z ⟨Z,Z,Z,Z,trivial⟩ (lt2 ⟨Z,Z,Z,Z,trivial⟩ ⟨Z,Z,Z,Z,trivial⟩) Z Z Z Z ?_);refine al (λ _=>.p (.agg [eI 5,eI 0,eS ([]:Bk),eL ah ([(aa.mk 4 0 ([]:Bk) [r1,r3] [])]),eL eS ([([97]:Bk)])])) Z Z Z (bj Z Z Y) (lt2 Z Z) (aj Z (af [(2,_)] ⟨.inl Z,trivial⟩ (λ sl Cy K hK=>ae Z (aN Z Z Z Z Z (Cy _ _ Z) Z Z Z hK)) (af [(2,_)] ⟨.inl Z,trivial⟩ (λ sl Cy K hK=>ae Z (aN Z Z Z Z Z (Cy _ _ Z) Z Z Z hK)) ak))) (al (λ _=>.p (.agg (ac.cs DV))) Z Z Z (bj Z Z Y) (lt2 Z Z) (aj Z (af [] trivial (λ sl Cy K hK=>ae Z (aY (cV ([98]:Bk) _ FW) Z Z Z (am Z aM) ⟨sr,trivial⟩ Tryz.call36 Z hK)) (af [] trivial (λ sl Cy K hK=>ae Z (aY (cV ([98]:Bk) _ FW) Z Z Z (am Z aM) ⟨sr,trivial⟩ Tryz.call36 Z hK)) ak))) ?_);refine al (λ _=>.p (eL ag [DV])) Z Z Z (bj Z Z Y) (lt2 Z Z) (aj Z (af [(37,_)] ⟨.inr ⟨1,_,Z,Z,Z⟩,trivial⟩ (λ sl Cy K hK=>ae Z (bA ag [DV] Z Z Z Z Z Z (cH (Cy _ _ Z) Z eT) Z Z Z Z Z Z (by first|rfl|(simp only [cl,py,ac.Cv]; done)|(simp only [cl,py,ac.Cv]; rfl)) hK)) (af [(37,_)] ⟨.inr ⟨1,_,Z,Z,Z⟩,trivial⟩ (λ sl Cy K hK=>ae Z (bA ag [DV] Z Z Z Z Z Z (cH (Cy _ _ Z) Z eT) Z Z Z Z Z Z (by first|rfl|(simp only [cl,py,ac.Cv]; done)|(simp only [cl,py,ac.Cv]; rfl)) hK)) ak))) (al (λ _=>.p (.agg (aa.cs GY))) Z Z Z (bj Z Z Y) (lt2 Z Z) (aj Z (af [] trivial (λ sl Cy K hK=>ae Z (aY (fW 2 _ e20) Z Z Z (am Z aM) ⟨sr,trivial⟩ Tryz.call35 Z hK)) (af [] trivial (λ sl Cy K hK=>ae Z (aY (fW 2 _ e20) Z Z Z (am Z aM) ⟨sr,trivial⟩ Tryz.call35 Z hK)) ak))) ?_);refine al (λ _=>.tuple [.p (.agg (aa.cs CX.1)),.p (eI CX.2)]) Z Z Z (bj Z Z Y) (lt2 Z Z) (aj Z (af [(36,_),(38,_),(39,_)] ⟨.inr ⟨0,_,Z,Z,Z⟩,.inr ⟨2,_,Z,Z,Z⟩,.inr ⟨3,_,Z,Z,Z⟩,trivial⟩ (λ sl Cy K hK=>ae Z (aY (gq _ (aa.mk 5 0 ([]:Bk) ([(aa.mk 4 0 ([]:Bk) [r1,r3] [])]) ([([97]:Bk)])) [DV] GY _ Et) Z Z Z (am (Cy _ _ Z) (am (Cy _ _ Z) (am (Cy _ _ Z) aM))) ⟨sr,sr,sr,trivial⟩ Tryz.call20 Z hK)) (af [(36,_),(38,_),(39,_)] ⟨.inr ⟨0,_,Z,Z,Z⟩,.inr ⟨2,_,Z,Z,Z⟩,.inr ⟨3,_,Z,Z,Z⟩,trivial⟩ (λ sl Cy K hK=>ae Z (aY (gq _ (aa.mk 5 0 ([]:Bk) ([(aa.mk 4 0 ([]:Bk) [r1,r3] [])]) ([([97]:Bk)])) [DV] GY _ Et) Z Z Z (am (Cy _ _ Z) (am (Cy _ _ Z) (am (Cy _ _ Z) aM))) ⟨sr,sr,sr,trivial⟩ Tryz.call20 Z hK)) ak))) (al (λ _=>.tuple [.p (.agg (aa.cs CX.1)),.p (eI CX.2)]) Z Z Z (bj Z Z Y) (lt2 Z Z) (aj Z (af [(40,_)] ⟨.inr ⟨4,_,Z,Z,Z⟩,trivial⟩ (λ sl Cy K hK=>ae Z (aA Z Z Z (Cy _ _ Z) hK)) (af [(40,_)] ⟨.inr ⟨4,_,Z,Z,Z⟩,trivial⟩ (λ sl Cy K hK=>ae Z (aA Z Z Z (Cy _ _ Z) hK)) ak))) ?_);refine al (λ _=>.p (.agg (aa.cs CX.1))) Z Z Z (bj Z Z Y) (lt2 Z Z) (aj Z (af [(35,_)] ⟨.inr ⟨5,_,Z,Z,Z⟩,trivial⟩ (λ sl Cy K hK=>ae Z (aF Z Z Z (Cy _ _ Z) Z hK)) (af [(35,_)] ⟨.inr ⟨5,_,Z,Z,Z⟩,trivial⟩ (λ sl Cy K hK=>ae Z (aF Z Z Z (Cy _ _ Z) Z hK)) ak))) (al (λ _=>.p (eI CX.2)) Z Z Z (bj Z Z Y) (lt2 Z Z) (af [(35,_)] ⟨.inr ⟨5,_,Z,Z,Z⟩,trivial⟩ (λ sl Cy K hK=>ae Z (aF Z Z Z (Cy _ _ Z) Z hK)) (af [(35,_)] ⟨.inr ⟨5,_,Z,Z,Z⟩,trivial⟩ (λ sl Cy K hK=>ae Z (aF Z Z Z (Cy _ _ Z) Z hK)) (af [(35,_)] ⟨.inr ⟨5,_,Z,Z,Z⟩,trivial⟩ (λ sl Cy K hK=>ae Z (aF Z Z Z (Cy _ _ Z) Z hK)) ak))) ?_);refine cQ (λ _=>.ptr 7 0) [] Z trivial Z Z (bK Z Y) (lt2 (λ h=>absurd h (by decide)) Y) (λ sl Cy K hK=>ae Z (eG Z Z Z Z Z hK)) (ct [(7,_),(41,_)] Z ⟨.inr ⟨8,_,Z,Z,Z⟩,.inr ⟨6,_,Z,Z,Z⟩,trivial⟩ Z (λ sl Cy K hK=>ae Z (cv Z Z Z (Cy _ _ Z) (Cy _ _ Z) Z Z Z (ph Z) hK)) ?_);refine al (λ _=>.p (eI CX.2)) Z Z Z (bj Z Z Y) (lt2 Z Z) (af [(42,_)] ⟨.inr ⟨7,_,Z,Z,Z⟩,trivial⟩ (λ sl Cy K hK=>ae Z (bq Z Z Z (Cy _ _ Z) hK)) (aj Z (aj Z ak))) (eY ?_);refine nx 3 Z (bd h0 λ GX e24 h0=>?_);refine oK (qf _ ([91,34,97,34,93]:Bk) _ e24) Z ⟨sr,trivial⟩ Tryz.call12 Z (nx 7 Z ?_);refine bd h0 λ GL h1 h0=>kN GL (λ Eb=>⟨[(0,.p (eB Eb))],[]⟩) ?_ ?_
 ·exact nx 2 Z (mQ (oi h0) Z (sr))
 refine nx 4 Z (fD [48,49] h1 Z (λ EM h1=>?_) λ EM h1=>?_)
 ·refine nx 5 Z (fD [52,53,54] h1 Z (λ HG h1=>?_) λ HG h1=>?_)
  ·refine nx 4 Z (fD [56,57,58] h1 Z (λ Ft h1=>?_) λ Ft h1=>?_)
   ·refine nx 4 Z (fD [60,61,62] h1 Z (λ GD h1=>?_) λ GD h1=>?_)
    ·refine nx 2 Z (oLl (f:=eS) Z Z ?_);refine nx 3 Z (fD [66,67,68] h1 Z (λ Fs h1=>?_) λ Fs h1=>?_)
     ·refine nx 4 Z (fD [70,71,72] h1 Z (λ EL h1=>?_) λ EL h1=>?_)
      ·refine bd h1 λ FE Gy h1=>oK (cV ([97]:Bk) _ Gy) Z ⟨sr,trivial⟩ Tryz.call36 Z (bd h1 λ r33 e34 h1=>?_);refine oK (iZ 0 _ e34) Z ⟨sr,trivial⟩ Tryz.call37 Z (bd h1 λ ED e36 h1=>?_);refine oK (cV ([98,32,99]:Bk) _ e36) Z ⟨sr,trivial⟩ Tryz.call36 Z (mO Z (bA ag [FE,r33,ED] Z Z Z Z Z Z Z Z Z Z Z Z Z (by first|rfl|(simp only [cl,py,ac.Cv]; done)|(simp only [cl,py,ac.Cv]; rfl)) ?_));refine bd h1 λ FQ Hy h1=>oK (kC _ [FE,r33,ED] _ Hy) Z ⟨sr,trivial⟩ Tryz.call24 Z (oS Z Z ?_);exact nx 3 Z (eX _ (oi h1).symm (gE Z Z))
      exact nx 9 Z (eX _ (oi h1).symm (gE Z Z))
     exact nx 13 Z (eX _ (oi h1).symm (gE Z Z))
    exact nx 19 Z (eX _ (oi h1).symm (gE Z Z))
   exact nx 23 Z (eX _ (oi h1).symm (gE Z Z))
  exact nx 27 Z (eX _ (oi h1).symm (gE Z Z))
 exact nx 32 Z (eX _ (oi h1).symm (gE Z Z))
def cJ (CI:List ac):Nat->Int->Int->Option Int|0,_,_=>none|m+1,n10,i11=>(if i11<(CI.length:Int) then some (decide (n10<20000))else some false : Option Bool).bind λ ES=>if ES=true then ck (inR (n10+1))<|ck ((0:Int)<=i11/\i11<(CI.length:Int))<|ck (inR ((n10+1)+(((lat CI i11).BY).length:Int)))<|ck (inR (i11+1))<|cJ CI m ((n10+1)+(((lat CI i11).BY).length:Int)) (i11+1)else some n10
def fj (n:Nat)(CI:List ac):Option Bool :=(cJ CI n 0 0).bind λ n21=>some (decide (n21<20000))
theorem jg (n:Nat)(CI:List ac)(r:Bool)(h0:fj n CI=some r):au Tryz.prog 16 [eL ag CI] (·=.p (eB r)):=by
 unfold fj at h0;refine aZ good Tryz.func16 Z Z Z λ w0=>mP (λ v:Bool=>.p (eB v)) ?_;refine nx 14 Z (bd h0 λ o24 h1 h0=>?_);refine kE 0 o24 (λ v25=>⟨[(3,.p (eI v25))],[]⟩) ?_ ?_
 ·exact nx 8 Z (mQ (oi h0) Z (sr))
 refine lG (λ (G4:Int×Int)=>⟨[(0,.p (eL ag CI)),(3,.p (eI G4.1)),(4,.p (eI G4.2))],[]⟩) (λ m (G4:Int×Int)=>cJ CI m G4.1 G4.2) Y (0,0) h1 (gE rfl rfl) ?_;rintro m ⟨n10,i11⟩ h1;replace h1:cJ CI (m+1) n10 i11=some o24:=h1;rw [cJ] at h1;refine nx 2 rfl (bd h1 λ Fy h2 h1=>?_);refine kN Fy (λ E1=>⟨[(0,.p (eL ag CI)),(3,.p (eI n10)),(4,.p (eI i11)),(12,.p (eB E1))],[]⟩) ?_ ?_
 ·refine nx 1 Z (fB [12] h1 Z (λ EO h1=>?_) λ EO h1=>?_)
  ·refine nx 6 Z (oA h1 Z Z λ DW h1=>?_);refine nx 2 Z (oE h1 ac.B' Z Z Y λ Dl h1=>?_);refine nx 2 Z (oLs Z ?_);refine oA h1 Z Z λ Ed h1=>nx 4 Z (oA h1 Z Z λ D3 h1=>?_);exact nx 2 Z (eX ((n10+1)+(((lat CI i11).BY).length:Int),i11+1) h1 (gE Z Z))
  exact nx 2 Z (eXi _ (oi h1).symm (gE Z Z))
 refine nx 3 Z (oLl (f:=ag) Z Z ?_);refine nx 2 Z (fD [8,9] h2 Z (λ D9 h2=>?_) λ D9 h2=>?_)
 ·exact nx 4 Z (eX _ (oi h2).symm (gE Z Z))
 exact nx 4 Z (eX _ (oi h2).symm (gE Z Z))
def bP (a_0:List ac)(CF:List ac):Nat->Int->Option (Unit⊕Bool)|0,_=>none|m+1,i8=>if i8<(a_0.length:Int) then ck ((0:Int)<=i8/\i8<(a_0.length:Int))<|ck ((0:Int)<=i8/\i8<(CF.length:Int))<|if (lat a_0 i8).Cu=(lat CF i8).Cu/\(lat a_0 i8).A'=(lat CF i8).A'/\(lat a_0 i8).BY=(lat CF i8).BY then ck (inR (i8+1))<|bP a_0 CF m (i8+1)else some (.inr false)else some (.inl ())
def fg (n:Nat)(a_0:List ac)(CF:List ac):Option Bool :=if (a_0.length:Int)=(CF.length:Int) then jn (bP a_0 CF n 0) λ q15=>some true else some false
theorem qg (n:Nat)(a_0:List ac)(CF:List ac)(r:Bool)(h0:fg n a_0 CF=some r):au Tryz.prog 14 [eL ag a_0,eL ag CF] (·=.p (eB r)):=by
 unfold fg at h0;refine aZ good Tryz.func14 Z Z Z λ w0=>mP (λ v:Bool=>.p (eB v)) ?_;refine nx 8 Z (oLl (f:=ag) Z Z ?_);refine nx 1 Z (oLl (f:=ag) Z Z ?_);refine nx 2 Z (fN [10] h0 Z (λ c1 h0=>?_) λ c1 h0=>?_)
 ·refine nx 8 rfl ?_;obtain ⟨FU,h1,C9,hR0⟩:=dl h0;refine kEx 0 (λ E2:Unit=>FU=.inl E2) (λ E2=>⟨[],[]⟩) (λ E2 hv=>?_) ?_
  ·have h0:=C9 _ hv;exact nx 6 Z (mQ (oi h0) Z (sr))
  refine lG (λ (E8:Int)=>⟨[(0,.p (eL ag a_0)),(1,.p (eL ag CF)),(5,.p (eI E8))],[]⟩) (λ m (E8:Int)=>bP a_0 CF m E8) Y 0 h1 (gE rfl rfl) ?_;rintro m i8 h1;replace h1:bP a_0 CF (m+1) i8=some FU:=h1;rw [bP] at h1;refine nx 5 rfl (oLl (f:=ag) rfl rfl ?_);refine nx 2 rfl (fD [14] h1 rfl (λ c9 h1=>?_) λ c9 h1=>?_)
  ·refine nx 5 Z (cc' h1 λ Es h1=>?_);refine cc' h1 λ Fj h1=>mD [(0,.p (eL ag a_0)),(1,.p (eL ag CF)),(5,.p (eI i8))] Z ⟨Z,Z,Z,trivial⟩ Z (dR 2 Z ?_);refine dq (.rptr (ac.cs (lat a_0 i8))) [17,18] Z (λ _ e _ q=>ae Z (cO (f:=ag) (l:=a_0) ac.cs Z Z Z Z Z Z (e _ _ Z) Z (e _ _ Z) Es ac.B' Y q)) Z (dR 3 Z ?_);refine dq (.rptr (ac.cs (lat CF i8))) [21,22] Z (λ _ e _ q=>ae Z (cO (f:=ag) (l:=CF) ac.cs Z Z Z Z Z Z (e _ _ Z) Z (e _ _ Z) Fj ac.B' Y q)) Z (dR 1 Z ?_);refine dq (.p (eB (!decide ((lat a_0 i8).Cu=(lat CF i8).Cu/\(lat a_0 i8).A'=(lat CF i8).A'/\(lat a_0 i8).BY=(lat CF i8).BY)))) [20,24] Z (λ _ e _ q=>ae Z (Bv ((lat a_0 i8).Cu=(lat CF i8).Cu/\(lat a_0 i8).A'=(lat CF i8).A'/\(lat a_0 i8).BY=(lat CF i8).BY) Z Z Z Z Z (e _ _ Z) (e _ _ Z) (by kernel_rfl) Z Z (.inr ⟨Z,Z⟩) q)) Z (dE Z ?_);refine nx 1 Z (fN [25] h1 Z (λ D9 h1=>?_) λ D9 h1=>?_)
   ·refine nx 4 Z (oA h1 Z Z λ EI h1=>?_);exact nx 2 Z (eX (i8+1) h1 (gE Z Z))
   exact nx 6 Z (mQ (hR0 _ (oi h1).symm) Z (sr))
  exact nx 2 Z (eXi _ (oi h1).symm (gE Z Z))
 exact nx 6 Z (mQ (oi h0) Z (sr))
def d6 (n:Nat)(CI:List ac)(q_1:List ac):Option Bool :=(if (q_1.length:Int)<=(CI.length:Int) then ck ((0:Int)<=0/\0<=(q_1.length:Int)/\(q_1.length:Int)<=(CI.length:Int))<|(fg n (sub CI 0 (q_1.length:Int)) q_1).bind λ r3=>some r3 else some false : Option Bool).bind λ t5=>some t5
theorem eM (n:Nat)(CI:List ac)(q_1:List ac)(r:Bool)(h0:d6 n CI q_1=some r):au Tryz.prog 30 [eL ag CI,eL ag q_1] (·=.p (eB r)):=by
 unfold d6 at h0;refine aZ good Tryz.func30 Z Z Z λ w0=>mP (λ v:Bool=>.p (eB v)) ?_;refine nx 5 Z (bd h0 λ o7 h1 h0=>?_);refine kN o7 (λ v8=>⟨[(4,.p (eB v8))],[]⟩) ?_ ?_
 ·exact nx 2 Z (mQ (oi h0) Z (sr))
 refine nx 2 Z (oLl (f:=ag) Z Z ?_);refine nx 1 Z (oLl (f:=ag) Z Z ?_);refine nx 2 Z (fD [9,10] h1 Z (λ c1 h1=>?_) λ c1 h1=>?_)
 ·refine nx 2 Z (oLl (f:=ag) Z Z ?_);refine cc' h1 λ D1 h1=>mO Z (iM (f:=ag) (l:=CI) Z Z Z Z Z Z Z Z Z Z D1 (λ x=>congrArg List.length (ac.B' x)) ?_);refine nx 1 Z (bd h1 λ r3 e4 h1=>?_);refine oK (qg _ (sub CI 0 (q_1.length:Int)) q_1 _ e4) Z ⟨sr,sr,trivial⟩ Tryz.call14 Z (nx 3 Z ?_);exact eX _ (oi h1).symm (gE Z Z)
 exact nx 9 Z (eX _ (oi h1).symm (gE Z Z))
end Go.Ab.R06
end
section
namespace Go.Ab.R06
open Go.Ab
theorem s9 (m:Nat):cN (m+60)=some true:=by kernel_rfl
theorem ik:Ev2 (λ n _=>cN n) (·=true):=⟨true,Z,60,λ n _ hn _=>by
  obtain ⟨m,rfl⟩:∃ m,n=m+60:=⟨n-60,by omega⟩
  exact s9 m⟩
end Go.Ab.R06
end
section
namespace Go.Ab.R06
open Go.Ab Go.Ab.RB
end Go.Ab.R06
end
section
namespace Go.Ab.R06
open Go.Ab Go.Ab.RB Go.Lib
theorem t31:(List.range 256).all (λ n=>bU .u8 (n:Int) 31==((n%32:Nat):Int))=true:=by kernel_rfl
theorem t15:(List.range 256).all (λ n=>bU .u8 (n:Int) 15==((n%16:Nat):Int))=true:=by kernel_rfl
theorem t7:(List.range 256).all (λ n=>bU .u8 (n:Int) 7==((n%8:Nat):Int))=true:=by kernel_rfl
theorem or64 (a b:Nat)(ha:a<4611686018427387904)(hb:b<4611686018427387904):iOr .i64 (a:Int) (b:Int)=((a ||| b:Nat):Int):=by
 have hlt:a ||| b<4611686018427387904:=Nat.or_lt_two_pow (n:=62) ha hb
 have e1:(BitVec.ofInt 64 (a:Int)).toNat=a:=by
  rw [BitVec.toNat_ofInt]; omega
 have e2:(BitVec.ofInt 64 (b:Int)).toNat=b:=by
  rw [BitVec.toNat_ofInt]; omega
 show IntKind.wrap .i64 (((BitVec.ofInt 64 (a:Int)) ||| (BitVec.ofInt 64 (b:Int))).toNat:Nat)=_;rw [BitVec.toNat_or,e1,e2];simp [IntKind.wrap,IntKind.bits,IntKind.signed];omega
theorem rv (a b k:Nat)(ha:a*2^k<4611686018427387904)(hb:b<2^k)(hk:k<=20):iOr .i64 ((a*2^k:Nat):Int) (b:Int)=((a*2^k+b:Nat):Int):=by
 have hp:2^k<=2^20:=Nat.pow_le_pow_right (by decide) hk;have h20:(2:Nat)^20=1048576:=rfl;rw [or64 _ _ ha O];have:=Nat.shiftLeft_add_eq_or_of_lt hb a;rw [Nat.shiftLeft_eq] at this;rw [<- this]
theorem rm (a k:Nat)(hk:k<=20)(ha:a*2^k<4611686018427387904):gA .i64 (a:Int) (k:Int)=((a*2^k:Nat):Int):=by
 have:min (k:Int).toNat IntKind.i64.bits=k:=by
  have:IntKind.i64.bits=64:=rfl;rw [this]; omega
 unfold gA;rw [this];have e:(a:Int)*2^k=((a*2^k:Nat):Int):=by push_cast; rfl
 rw [e];generalize a*2^k=v at ha;simp [IntKind.wrap,IntKind.bits,IntKind.signed];omega
def Bf (l:Bk):Int×Int:=if (decodeL l).1=65533/\(decodeL l).2=1 then (0,0) else (((decodeL l).1:Int),((decodeL l).2:Int))
theorem Aw (s:Bk)(j:Nat)(lo hi:Int):cK s (j:Int) lo hi=some (decide (j<s.length/\lo<=((s.getD j 0).toNat:Int)/\((s.getD j 0).toNat:Int)<=hi)):=by
 unfold cK;have hb:byt s (j:Int)=((s.getD j 0).toNat:Int):=sy s j;rw [hb];by_cases h:j<s.length
 ·rw [if_pos O,dX O];by_cases h2:lo<=((s.getD j 0).toNat:Int)
  ·rw [if_pos h2,dX O];refine congrArg some (eqB ?_);rw [decide_eq_true_eq,decide_eq_true_eq];exact ⟨λ q=>⟨h,h2,q⟩,λ q=>q.2.2⟩
  ·rw [if_neg h2,Option.bind_some]
   symm; rw [aq,decide_eq_false_iff_not]
   exact λ q=>h2 q.2.1
 ·rw [if_neg O]; simp [h]
set_option maxHeartbeats 8000000 in
theorem uu (s:Bk)(i:Nat)(hi:i<s.length)(hs:s.length<=1000000000):gK s (i:Int)=some (Bf (s.drop i)):=by
 have hg:∀ k,(s.drop i).getD k 0=s.getD (i+k) 0:=λ k=>by
  rw [List.getD_eq_getElem?_getD,List.getElem?_drop,List.getD_eq_getElem?_getD]
 unfold gK Bf;rw [decodeL_N,hg,hg,hg,hg,Nat.add_zero,List.length_drop]
 have b:∀ k:Nat,byt s ((i:Int)+k)=((s.getD (i+k) 0).toNat:Int):=λ k=>by
  rw [show (i:Int)+(k:Int)=((i+k:Nat):Int) by omega]; exact sy s (i+k)
 have c:∀ (k:Nat) lo hi,cK s ((i:Int)+k) lo hi=some (decide (k<s.length-i/\lo<=((s.getD (i+k) 0).toNat:Int)/\((s.getD (i+k) 0).toNat:Int)<=hi)):=λ k lo hi=>by
  rw [show (i:Int)+(k:Int)=((i+k:Nat):Int) by omega,Aw];refine congrArg some (eqB ?_);rw [decide_eq_true_eq,decide_eq_true_eq];constructor
  ·rintro ⟨h1,h2⟩; exact ⟨by omega,h2⟩
  ·rintro ⟨h1,h2⟩; exact ⟨by omega,h2⟩
 have b0:byt s (i:Int)=((s.getD i 0).toNat:Int):=sy s i;have b1:byt s ((i:Int)+1)=((s.getD (i+1) 0).toNat:Int):=b 1;have b2:byt s ((i:Int)+2)=((s.getD (i+2) 0).toNat:Int):=b 2;have b3:byt s ((i:Int)+3)=((s.getD (i+3) 0).toNat:Int):=b 3;have c1:∀ lo hi,cK s ((i:Int)+1) lo hi=_:=c 1;have c2:∀ lo hi,cK s ((i:Int)+2) lo hi=_:=c 2;have c3:∀ lo hi,cK s ((i:Int)+3) lo hi=_:=c 3;simp only [b0,b1,b2,b3,c1,c2,c3];obtain ⟨n,hn⟩:∃ n,s.length=i+n:=⟨s.length-i,by omega⟩
 have hn1:s.length-i=n:=by omega
 have CE:(s.length:Int)=(i:Int)+n:=by omega
 rw [hn1,CE];have l0:=(s.getD i 0).toNat_lt;have l1:=(s.getD (i+1) 0).toNat_lt;have l2:=(s.getD (i+2) 0).toNat_lt;have l3:=(s.getD (i+3) 0).toNat_lt;generalize (s.getD i 0).toNat=B0 at l0 ⊢;generalize (s.getD (i+1) 0).toNat=B1 at l1 ⊢;generalize (s.getD (i+2) 0).toNat=B2 at l2 ⊢;generalize (s.getD (i+3) 0).toNat=B3 at l3 ⊢;have hnp:0<n:=by omega
 have Fb:n<=1000000000:=by omega
 have hib:i<=1000000000:=by omega
 clear hg b c b0 b1 b2 b3 c1 c2 c3 hn1 CE hn hi hs
 have a31:bU .u8 (B0:Int) 31=((B0%32:Nat):Int):=tab t31 B0 O;have a15:bU .u8 (B0:Int) 15=((B0%16:Nat):Int):=tab t15 B0 O;have a7:bU .u8 (B0:Int) 7=((B0%8:Nat):Int):=tab t7 B0 O;have a1:bU .u8 (B1:Int) 63=((B1%64:Nat):Int):=tab t63 B1 O;have a2:bU .u8 (B2:Int) 63=((B2%64:Nat):Int):=tab t63 B2 O;have a3:bU .u8 (B3:Int) 63=((B3%64:Nat):Int):=tab t63 B3 O
 have two:iOr .i64 (gA .i64 ((B0%32:Nat):Int) 6) ((B1%64:Nat):Int)=((B0%32*64+B1%64:Nat):Int):=by
  have h1:gA .i64 ((B0%32:Nat):Int) 6=((B0%32*2^6:Nat):Int):=rm _ 6 (by decide) O;rw [h1];exact rv _ _ 6 O O  (by decide)
 have three:iOr .i64 (iOr .i64 (gA .i64 ((B0%16:Nat):Int) 12) (gA .i64 ((B1%64:Nat):Int) 6)) ((B2%64:Nat):Int)=((B0%16*4096+B1%64*64+B2%64:Nat):Int):=by
  have h1:gA .i64 ((B0%16:Nat):Int) 12=((B0%16*2^12:Nat):Int):=rm _ 12 (by decide) O;have h2:gA .i64 ((B1%64:Nat):Int) 6=((B1%64*2^6:Nat):Int):=rm _ 6 (by decide) O;have h3:=rv (B0%16) (B1%64*2^6) 12 O O  (by decide);have h4:=rv (B0%16*64+B1%64) (B2%64) 6 O O  (by decide);rw [h1,h2,h3,show B0%16*2^12+B1%64*2^6=(B0%16*64+B1%64)*2^6 by omega,h4]
 have four:iOr .i64 (iOr .i64 (iOr .i64 (gA .i64 ((B0%8:Nat):Int) 18) (gA .i64 ((B1%64:Nat):Int) 12)) (gA .i64 ((B2%64:Nat):Int) 6)) ((B3%64:Nat):Int)=((B0%8*262144+B1%64*4096+B2%64*64+B3%64:Nat):Int):=by
  have h1:gA .i64 ((B0%8:Nat):Int) 18=((B0%8*2^18:Nat):Int):=rm _ 18 (by decide) O;have h2:gA .i64 ((B1%64:Nat):Int) 12=((B1%64*2^12:Nat):Int):=rm _ 12 (by decide) O;have h2':gA .i64 ((B2%64:Nat):Int) 6=((B2%64*2^6:Nat):Int):=rm _ 6 (by decide) O;have h3:=rv (B0%8) (B1%64*2^12) 18 O O  (by decide);have h4:=rv (B0%8*64+B1%64) (B2%64*2^6) 12 O O  (by decide);have h5:=rv (B0%8*4096+B1%64*64+B2%64) (B3%64) 6 O O  (by decide);rw [h1,h2,h2',h3,show B0%8*2^18+B1%64*2^12=(B0%8*64+B1%64)*2^12 by omega,h4,show (B0%8*64+B1%64)*2^12+B2%64*2^6=(B0%8*4096+B1%64*64+B2%64)*2^6 by omega,h5]
 rw [a31,a15,a7,a1,a2,a3,two,three,four];have i1:inR ((i:Int)+1):=a8 O O;have i2:inR ((i:Int)+2):=a8 O O;have i3:inR ((i:Int)+3):=a8 O O
 have e0:((if (i:Int)<0 then some true else some (decide ((i:Int)+n<=i))):Option Bool)=some false:=by
  rw [if_neg O]; simp; omega
 rw [e0,Option.bind_some,if_neg G,dX O];unfold decodeN;by_cases h0:B0<128
 ·rw [if_pos (show (B0:Int)<128 by omega),dX (a8 O O),if_pos h0];simp only;rw [if_neg O]; rfl
 rw [if_neg (show ¬ (B0:Int)<128 by omega),if_neg h0]
 have FZ:((if 194<=(B0:Int) then if (B0:Int)<=223 then ck (inR ((i:Int)+1))<|(some (decide (1<n/\(128:Int)<=(B1:Int)/\(B1:Int)<=191))).bind λ CG=>some CG else some false else some false):Option Bool)=some (decide (194<=B0/\B0<=223/\1<n/\128<=B1/\B1<=191)):=by
  by_cases q1:194<=B0
  ·rw [if_pos O];by_cases q2:B0<=223
   ·rw [if_pos O,dX i1,Option.bind_some];refine congrArg some (eqB ?_);rw [decide_eq_true_eq,decide_eq_true_eq]; omega
   ·rw [if_neg O]; simp; omega
  ·rw [if_neg O]; simp; omega
 rw [FZ,Option.bind_some];by_cases h12:194<=B0/\B0<=223/\1<n/\128<=B1/\B1<=191
 ·rw [if_pos (by simp only [decide_eq_true_eq]; exact h12),dX (a8 O O),dX O,dX i1,dX O,dX (a8 O O)];rw [if_pos (show B0 / 32=6/\1<n/\B1 / 64=2 by omega),if_pos (show B0%32*64+B1%64 >= 128 by omega)];show some _=some (if B0%32*64+B1%64=65533/\_ then _ else _);rw [if_neg O]; rfl
 rw [if_neg (by simp only [decide_eq_true_eq]; exact h12)]
 have hlo:((if (B0:Int)=224 then some 160 else some 128):Option Int)=some (if B0=224 then 160 else 128):=by
  by_cases q:B0=224
  ·rw [if_pos O,if_pos q]
  ·rw [if_neg O,if_neg q]
 have hhi:((if (B0:Int)=237 then some 159 else some 191):Option Int)=some (if B0=237 then 159 else 191):=by
  by_cases q:B0=237
  ·rw [if_pos O,if_pos q]
  ·rw [if_neg O,if_neg q]
 have hlo4:((if (B0:Int)=240 then some 144 else some 128):Option Int)=some (if B0=240 then 144 else 128):=by
  by_cases q:B0=240
  ·rw [if_pos O,if_pos q]
  ·rw [if_neg O,if_neg q]
 have hhi4:((if (B0:Int)=244 then some 143 else some 191):Option Int)=some (if B0=244 then 143 else 191):=by
  by_cases q:B0=244
  ·rw [if_pos O,if_pos q]
  ·rw [if_neg O,if_neg q]
 rw [hlo,Option.bind_some,hhi,Option.bind_some]
 have Gy:∀ lo hi:Int,((if 224<=(B0:Int) then if (B0:Int)<=239 then ck (inR ((i:Int)+1))<|(some (decide (1<n/\lo<=(B1:Int)/\(B1:Int)<=hi))).bind λ r26=>if r26=true then ck (inR ((i:Int)+2))<|(some (decide (2<n/\(128:Int)<=(B2:Int)/\(B2:Int)<=191))).bind λ Gb=>some Gb else some false else some false else some false):Option Bool)
   = some (decide (224<=B0/\B0<=239/\(1<n/\lo<=(B1:Int)/\(B1:Int)<=hi)/\2<n/\128<=B2/\B2<=191)):=by
  intro lo hi;by_cases q1:224<=B0
  ·rw [if_pos O];by_cases q2:B0<=239
   ·rw [if_pos O,dX i1,Option.bind_some];by_cases q3:1<n/\lo<=(B1:Int)/\(B1:Int)<=hi
    ·rw [if_pos (by simp only [decide_eq_true_eq]; exact q3),dX i2,Option.bind_some];refine congrArg some (eqB ?_);rw [decide_eq_true_eq,decide_eq_true_eq];constructor
     ·intro q; exact ⟨q1,q2,q3,by omega⟩
     ·intro q; have:=q.2.2.2; omega
    ·rw [if_neg (by simp only [decide_eq_true_eq]; exact q3)]
     symm; rw [aq,decide_eq_false_iff_not]
     intro q; exact q3 q.2.2.1
   ·rw [if_neg O]
    symm; rw [aq,decide_eq_false_iff_not]
    intro q; exact q2 q.2.1
  ·rw [if_neg O]
   symm; rw [aq,decide_eq_false_iff_not]
   intro q; exact q1 q.1
 rw [Gy,Option.bind_some];by_cases h32:224<=B0/\B0<=239/\(1<n/\(if B0=224 then 160 else 128)<=(B1:Int)/\(B1:Int)<=(if B0=237 then 159 else 191))/\2<n/\128<=B2/\B2<=191
 ·rw [if_pos (by simp only [decide_eq_true_eq]; exact h32)];obtain ⟨k1,k2,⟨k3,k4,k5⟩,k6,k7,k8⟩:=h32;have k4':128<=B1/\(B0=224->160<=B1):=by split at k4 <;> omega
  have k5':B1<=191/\(B0=237->B1<=159):=by split at k5 <;> omega
  clear k4 k5
  repeat rw [dX (by first|exact i1|exact i2|omega|exact a8 O O)]
  rw [if_neg (show ¬ (B0 / 32=6/\1<n/\B1 / 64=2) by omega),if_pos (show B0 / 16=14/\(1<n/\B1 / 64=2)/\2<n/\B2 / 64=2 by omega),if_pos (show B0%16*4096+B1%64*64+B2%64 >= 2048/\(B0%16*4096+B1%64*64+B2%64<55296\/57344<=B0%16*4096+B1%64*64+B2%64/\B0%16*4096+B1%64*64+B2%64<=1114111) by omega)];show some _=some (if B0%16*4096+B1%64*64+B2%64=65533/\(3:Nat)=1 then _ else _);rw [if_neg O]; rfl
 rw [if_neg (by simp only [decide_eq_true_eq]; exact h32)];rw [hlo4,Option.bind_some,hhi4,Option.bind_some]
 have h32':¬ (224<=B0/\B0<=239/\1<n/\(B0=224->160<=B1)/\128<=B1/\B1<=191/\(B0=237->B1<=159)/\2<n/\128<=B2/\B2<=191):=by
  rintro ⟨k1,k2,k3,k4,k5,k6,k7,k8⟩;exact h32 ⟨k1,k2,⟨k3,by split <;> omega,by split <;> omega⟩,k8⟩
 clear h32 Gy
 have e60:∀ lo hi:Int,((if 240<=(B0:Int) then if (B0:Int)<=244 then ck (inR ((i:Int)+1))<|(some (decide (1<n/\lo<=(B1:Int)/\(B1:Int)<=hi))).bind λ r50=>if r50=true then ck (inR ((i:Int)+2))<|(some (decide (2<n/\(128:Int)<=(B2:Int)/\(B2:Int)<=191))).bind λ r54=>if r54=true then ck (inR ((i:Int)+3))<|(some (decide (3<n/\(128:Int)<=(B3:Int)/\(B3:Int)<=191))).bind λ r58=>some r58 else some false else some false else some false else some false):Option Bool)
   = some (decide (240<=B0/\B0<=244/\(1<n/\lo<=(B1:Int)/\(B1:Int)<=hi)/\(2<n/\128<=B2/\B2<=191)/\3<n/\128<=B3/\B3<=191)):=by
  intro lo hi;by_cases q1:240<=B0
  ·rw [if_pos O];by_cases q2:B0<=244
   ·rw [if_pos O,dX i1,Option.bind_some];by_cases q3:1<n/\lo<=(B1:Int)/\(B1:Int)<=hi
    ·rw [if_pos (by simp only [decide_eq_true_eq]; exact q3),dX i2,Option.bind_some];by_cases q4:2<n/\128<=B2/\B2<=191
     ·rw [if_pos (by simp only [decide_eq_true_eq]; omega),dX i3,Option.bind_some];refine congrArg some (eqB ?_);rw [decide_eq_true_eq,decide_eq_true_eq];constructor
      ·intro q; exact ⟨q1,q2,q3,q4,by omega⟩
      ·intro q; have:=q.2.2.2.2; omega
     ·rw [if_neg (by simp only [decide_eq_true_eq]; omega)]
      symm; rw [aq,decide_eq_false_iff_not]
      intro q; exact q4 q.2.2.2.1
    ·rw [if_neg (by simp only [decide_eq_true_eq]; exact q3)]
     symm; rw [aq,decide_eq_false_iff_not]
     intro q; exact q3 q.2.2.1
   ·rw [if_neg O]
    symm; rw [aq,decide_eq_false_iff_not]
    intro q; exact q2 q.2.1
  ·rw [if_neg O]
   symm; rw [aq,decide_eq_false_iff_not]
   intro q; exact q1 q.1
 rw [e60,Option.bind_some];by_cases h60:240<=B0/\B0<=244/\(1<n/\(if B0=240 then 144 else 128)<=(B1:Int)/\(B1:Int)<=(if B0=244 then 143 else 191))/\(2<n/\128<=B2/\B2<=191)/\3<n/\128<=B3/\B3<=191
 ·rw [if_pos (by simp only [decide_eq_true_eq]; exact h60)];obtain ⟨k1,k2,⟨k3,k4,k5⟩,⟨k6,k7,k8⟩,k9,k10,k11⟩:=h60;have k4':128<=B1/\(B0=240->144<=B1):=by split at k4 <;> omega
  have k5':B1<=191/\(B0=244->B1<=143):=by split at k5 <;> omega
  clear k4 k5
  repeat rw [dX (by first|exact i1|exact i2|exact i3|omega|exact a8 O O)]
  rw [if_neg (show ¬ (B0 / 32=6/\1<n/\B1 / 64=2) by omega),if_neg (show ¬ (B0 / 16=14/\(1<n/\B1 / 64=2)/\2<n/\B2 / 64=2) by omega),if_pos (show B0 / 8=30/\(1<n/\B1 / 64=2)/\(2<n/\B2 / 64=2)/\3<n/\B3 / 64=2 by omega)];generalize hv:B0%8*262144+B1%64*4096+B2%64*64+B3%64=v;rw [if_pos (show v >= 65536/\(v<55296\/57344<=v/\v<=1114111) by omega)];show some _=some (if v=65533/\(4:Nat)=1 then _ else _);rw [if_neg O]; rfl
 rw [if_neg (by simp only [decide_eq_true_eq]; exact h60)]
 have h60':¬ (240<=B0/\B0<=244/\1<n/\(B0=240->144<=B1)/\128<=B1/\B1<=191/\(B0=244->B1<=143)/\2<n/\128<=B2/\B2<=191/\3<n/\128<=B3/\B3<=191):=by
  rintro ⟨k1,k2,k3,k4,k5,k6,k7,k8,k9,k10,k11⟩;exact h60 ⟨k1,k2,⟨k3,by split <;> omega,by split <;> omega⟩,⟨k8,k9,k10⟩,k11⟩
 clear h60 e60
 symm
 refine congrArg some (if_pos ?_)
 repeat' split
 all_goals first|exact ⟨Z,Z⟩|(exfalso; omega)
theorem xy (s:Bk)(hs:s.length<=1000000000):∀ (k i:Nat),s.length-i<k->i<=s.length->Ev2 (λ _ m=>dI s m (i:Int)) (·=if validD (s.drop i)=true then .inl () else .inr false):=by
 intro k
 induction k with
 | zero=>intro i h; omega
 | succ k ih=>
  intro i hk hi;refine aT ?_;simp only [dI];by_cases h:i<s.length
  ·have CQ:s.drop i≠[]:=by intro q; have:=congrArg List.length q; rw [List.length_drop] at this; simp at this; omega
   refine aI O (ay _ (da (uu s i h hs) Z) ?_);have hv:=vg _ CQ;have hdf:=rh _ CQ;rw [List.length_drop] at hdf;unfold Bf;by_cases q:(decodeL (s.drop i)).1=65533/\(decodeL (s.drop i)).2=1
   ·rw [if_pos q];refine aI rfl (ai ?_);rw [if_neg (λ z=>((hv.1 z).1 q))]
   ·rw [if_neg q];refine aE (by simp only; omega) (ax (a8 (by simp only; omega) (by simp only; omega)) ?_);have:=ih (i+(decodeL (s.drop i)).2) O O;rw [Int.natCast_add] at this;refine fI this λ r hr=>?_;rw [hr,<- List.drop_drop];by_cases z:validD ((s.drop i).drop (decodeL (s.drop i)).2)=true
    ·rw [if_pos z,if_pos (hv.2 ⟨q,z⟩)]
    ·rw [if_neg z,if_neg (λ y=>z (hv.1 y).2)]
  ·refine aE O (ai ?_);rw [List.drop_of_length_le O,if_pos validD_nil]
theorem mY (s:Bk)(hs:s.length<=1000000000):Ev2 (λ n _=>et n s) (·=(decide (s.length<=4096)&&validD s)):=by
 simp only [et];refine aw (λ h=>ai ?_) (λ h=>?_)
 ·have:¬ s.length<=4096:=by omega
  simp [this]
 ·have h':s.length<=4096:=by omega
  have l:=xy s hs (s.length+1) 0 O O;rw [List.drop_zero] at l
  cases hv:validD s with
  | true=>rw [hv] at l; exact eA () (bX l) (ai (by simp [h']))
  | false=>rw [hv] at l; exact fP false (bX l) G
theorem drop_at (s:Bk){i:Nat}(h:i<s.length):s.drop i=s.getD i 0::s.drop (i+1):=by
 rw [List.getD_eq_getElem?_getD,List.getElem?_eq_getElem h,rg];exact List.drop_eq_getElem_cons h
def oW (l:Bk):Int×Int:=if ub l=true then (if l.length<=16/\iy 0 l<=9007199254740992 then ((iy 0 l:Int),0) else (0,5)) else (0,2)
theorem w9 {v:Int}(h0:0<=v)(h1:v<=j8):oW (itoa v)=(v,0):=by
 have hl:=yU h0 h1;obtain ⟨u,rfl⟩:∃ u:Nat,v=u:=⟨v.toNat,by omega⟩
 have e:itoa (u:Int)=decDigits u:=by unfold itoa; rw [if_neg O]; simp
 rw [e] at hl ⊢;have hd:=vM (u+1) u O;unfold oW;rw [if_pos ((jc _).2 ⟨hd.2.2.1,hd.2.1,hd.2.2.2.1⟩),hd.1,if_pos ⟨hl,by unfold j8 at h1; omega⟩]
theorem qO {l:Bk}{v:Int}(h:oW l=(v,0)):itoa v=l/\0<=v/\v<=j8:=by
 unfold oW at h;split at h
 ·rename_i hc;split at h
  ·rename_i hv
   cases h
   have hb:=(nH l.length l (bt _) hc).1;refine ⟨?_,by omega,by unfold j8; omega⟩;have e:itoa ((iy 0 l:Nat):Int)=decDigits (iy 0 l):=by unfold itoa; rw [if_neg O]; simp
   rw [e,hb]
  ·cases h
 ·cases h
end Go.Ab.R06
end
section
namespace Go.Ab.R06
open Go.Proofs Go.Ab Go.Ab.RB
attribute [local irreducible] awp ea aO au bs AV.sub M bY
end Go.Ab.R06
end
section
namespace Go.Ab
set_option autoImplicit false
theorem mK {α:Type}{tt:List (Nat×TI)}{n t s b:Nat}{cs:List PV}{z:List Value}(f:α->PV)(Q:α->Prop){e:Nat}(hl:look tt t=some ⟨.slice e,s,b,z⟩)(h:WTf tt n t cs)
  (he:∀ m x,m<n->WTf tt m e x.cells->x=mkE (((look tt e).map (·.k.isAgg)).getD false) x.cells->∃ y,x=f y/\Q y):∃ l:List α,cs=[eL f l]/\l.length*(((look tt e).map (·.bytes)).getD 0)<=ec/\∀ y∈l,Q y:=by
 cases n with
 | zero=>exact h.elim
 | succ n=>
  obtain ⟨l,h1,h2,h3⟩:=xS f Q hl h (λ x k1 k2=>he n x O k1 k2);exact ⟨l,h1,h2.2,h3⟩
inductive aa.Bd:aa->Prop where
 | mk {x:aa} (bKind:inR x.AT) (bNum:inR x.A') (bStr:x.By.length<=ec) (bItems:x.Ar.length*80<=ec) (eItems:∀ y∈x.Ar,aa.Bd y) (bKeys:x.AI.length*16<=ec) (eKeys:∀ y∈x.AI,y.length<=ec):aa.Bd x
theorem aa.Bd.bKind {x:aa}(h:aa.Bd x):inR x.AT:=by cases h; assumption
theorem aa.Bd.bNum {x:aa}(h:aa.Bd x):inR x.A':=by cases h; assumption
theorem aa.Bd.bStr {x:aa}(h:aa.Bd x):x.By.length<=ec:=by cases h; assumption
theorem aa.Bd.bItems {x:aa}(h:aa.Bd x):x.Ar.length*80<=ec:=by cases h; assumption
theorem aa.Bd.eItems {x:aa}(h:aa.Bd x):∀ y∈x.Ar,aa.Bd y:=by cases h; assumption
theorem aa.Bd.bKeys {x:aa}(h:aa.Bd x):x.AI.length*16<=ec:=by cases h; assumption
theorem aa.Bd.eKeys {x:aa}(h:aa.Bd x):∀ y∈x.AI,y.length<=ec:=by cases h; assumption
theorem aa.dec (n:Nat):(∀ cs,WTf tt n 33 cs->∃ x:aa,cs=aa.cs x/\aa.Bd x):=by
 induction n using Nat.strongRecOn with
 | _ n ih=>
 have EG:∀ m,m<n->(∀ cs,WTf tt m 33 cs->∃ x:aa,cs=aa.cs x/\aa.Bd x):=λ m hm=>(ih m hm)
 intro cs h
 cases n with
 | zero=>exact h.elim
 | succ n=>
 have h0:=px rfl h;obtain ⟨c0,q0,rfl,k0,h0⟩:=im h0;obtain ⟨c1,q1,rfl,k1,h0⟩:=im h0;obtain ⟨c2,q2,rfl,k2,h0⟩:=im h0;obtain ⟨c3,q3,rfl,k3,h0⟩:=im h0;obtain ⟨c4,q4,rfl,k4,h0⟩:=im h0;have e:q4=[]:=h0;subst e;obtain ⟨x1,rfl,b2⟩:=ry rfl k0;obtain ⟨x3,rfl,b4⟩:=ry rfl k1;obtain ⟨x5,rfl,b6⟩:=ou rfl k2
 obtain ⟨x7,rfl,b8⟩:=mK ah (λ y=>aa.Bd y) rfl k3 (λ m9 y10 hm11 k12 k13=>by
  obtain ⟨x14,FA,b15⟩:=EG _ O _ k12;exact ⟨x14,(yT FA k13).trans (aa.Cv _).symm,b15⟩
  )
 obtain ⟨x17,rfl,b18⟩:=mK eS (λ y=>y.length<=ec) rfl k4 (λ m19 y20 hm21 k22 k23=>by
  obtain ⟨x24,Hz,b25⟩:=ou rfl k22;exact ⟨x24,B7 Hz k23,b25⟩
  )
 exact ⟨aa.mk x1 x3 x5 x7 x17,Z,.mk b2 b4 b6 b8.1 b8.2 b18.1 b18.2⟩
inductive ac.Bd:ac->Prop where
 | mk {x:ac} (bNum:inR x.A') (bName:x.BY.length<=ec):ac.Bd x
theorem ac.Bd.bNum {x:ac}(h:ac.Bd x):inR x.A':=by cases h; assumption
theorem ac.Bd.bName {x:ac}(h:ac.Bd x):x.BY.length<=ec:=by cases h; assumption
theorem ac.dec (n:Nat):(∀ cs,WTf tt n 53 cs->∃ x:ac,cs=ac.cs x/\ac.Bd x):=by
 induction n using Nat.strongRecOn with
 | _ n ih=>
 have FG:∀ m,m<n->(∀ cs,WTf tt m 53 cs->∃ x:ac,cs=ac.cs x/\ac.Bd x):=λ m hm=>(ih m hm)
 intro cs h
 cases n with
 | zero=>exact h.elim
 | succ n=>
 have h0:=px rfl h;obtain ⟨c0,q0,rfl,k0,h0⟩:=im h0;obtain ⟨c1,q1,rfl,k1,h0⟩:=im h0;obtain ⟨c2,q2,rfl,k2,h0⟩:=im h0;have e:q2=[]:=h0;subst e;obtain ⟨x27,rfl⟩:=yn rfl k0;obtain ⟨x29,rfl,b30⟩:=ry rfl k1;obtain ⟨x31,rfl,b32⟩:=ou rfl k2;exact ⟨ac.mk x27 x29 x31,rfl,.mk b30 b32⟩
end Go.Ab
end
section
namespace Go.Ab.R06
open Go.Ab Go.Ab.RB Go.Lib
theorem kj {P:Int->Prop}{i:Nat}(h:P ((i+1:Nat):Int)):P ((i:Int)+1):=by rwa [Int.natCast_add,Int.natCast_one] at h
theorem vo (p:List ac){i:Nat}(h:i<p.length):p.drop i=lat p (i:Int)::p.drop (i+1):=by
 rw [sv,List.getD_eq_getElem?_getD,List.getElem?_eq_getElem h,rg];exact List.drop_eq_getElem_cons h
def rF (x:ac):Bool:=if x.Cu=true then !decide (x.BY=[]) else !decide (x.A'=0)||!(decide (x.BY.length<=4096)&&validD x.BY)
def q8 (x:ac):Int:=if rF x=true then 1 else if x.A'<0\/9007199254740992<x.A' then 5 else 0
def f0:List ac->Int|[]=>0|x::r=>if q8 x=0 then f0 r else q8 x
def lj (p:List ac):Int:=if 32<p.length then 4 else f0 p
theorem y4 {V0z:Bk->Nat->Option Bool}(hV:∀ s:Bk,s.length<=1000000->Ev2 (λ n _=>V0z s n) (·=(decide (s.length<=4096)&&validD s)))(x:ac)(hx:x.BY.length<=1000000):Ev2 (λ n _=>
  if x.Cu=true then
   if x.BY=([]:Bk) then
   if (!x.Cu)=true then
    if x.A'=0 then
    (V0z x.BY n).bind λ Fw=>
    some (!Fw)
    else
    some true
   else
    some false
   else
   some true
  else
   if (!x.Cu)=true then
   if x.A'=0 then
    (V0z x.BY n).bind λ Eh=>
    some (!Eh)
   else
    some true
   else
   some false) (·=rF x):=by
 refine aw (λ h1=>aw (λ h2=>aE (by simp [h1]) (ai ?_)) (λ h2=>ai ?_)) (λ h1=>aI (by simpa using h1) (aw (λ h2=>?_) (λ h2=>ai ?_)))
 ·simp [rF,h1,h2]
 ·simp [rF,h1,h2]
 ·exact ay _ (hV _ hx) (ai (by simp [rF,h1,h2]))
 ·simp [rF,h1,h2]
theorem yf (x:ac):Ev2 (λ _ _=>if x.A'<0 then some true else some (decide (9007199254740992<x.A'))) (·=decide (x.A'<0\/9007199254740992<x.A')) :=
 aw (λ h=>ai (by simp [h])) (λ h=>ai (by simp [h]))
theorem Cb (p:List ac)(hp:∀ x∈p,x.BY.length<=1000000):Ev2 (λ n _=>pC n p) (·=lj p):=by
 simp only [pC,lj];refine aw (λ h=>ai (by rw [if_pos O])) (λ h=>?_);rw [if_neg O]
 have loop:∀ (k i:Nat),i+k=p.length->Ev2 (λ _ m=>eR p m (i:Int)) (·=if f0 (p.drop i)=0 then .inl () else .inr (f0 (p.drop i))):=by
  intro k
  induction k with
  | zero=>
   intro i hi;refine aT ?_;simp only [eR];refine aE O (ai ?_);rw [List.drop_eq_nil_of_le O,f0,if_pos rfl]
  | succ k ih=>
   intro i hi;have hd:=vo p (i:=i) O;have hm:lat p (i:Int)∈p:=List.mem_of_mem_drop (hd ▸ List.mem_cons_self);refine aT ?_;simp only [eR];refine aI O (ax O (ay _ (y4 (V0z:=λ s _=>d7 s) (λ s _=>da (zl s) rfl) _ (hp _ hm)) ?_));rw [hd,f0,q8];refine aw (λ h1=>ai ?_) (λ h1=>ay _ (yf _) (aw (λ h2=>ai ?_) (λ h2=>ax (a8 O O) ?_)))
   ·rw [if_pos h1]; rfl
   ·rw [if_neg h1,if_pos (of_decide_eq_true h2)]; rfl
   ·rw [if_neg h1,if_neg (λ q=>h2 (decide_eq_true q)),if_pos rfl];exact kj (P:=λ j=>Ev2 (λ _ m=>eR p m j) _) (ih (i+1) O)
 have l:=loop p.length 0 O;rw [List.drop_zero] at l;by_cases h0:f0 p=0
 ·rw [if_pos h0] at l; exact eA () (bX l) (ai h0.symm)
 ·rw [if_neg h0] at l; exact fP _ (bX l) rfl
theorem mU (p:List ac)(hp:∀ x∈p,x.BY.length<=1000000):Ev2 (λ n _=>fm n p) (·=lj p):=by
 simp only [fm,lj];refine aw (λ h=>ai (by rw [if_pos O])) (λ h=>?_);rw [if_neg O]
 have loop:∀ (k i:Nat),i+k=p.length->Ev2 (λ n m=>cF n p m (i:Int)) (·=if f0 (p.drop i)=0 then .inl () else .inr (f0 (p.drop i))):=by
  intro k
  induction k with
  | zero=>
   intro i hi;refine aT ?_;simp only [cF];refine aE O (ai ?_);rw [List.drop_eq_nil_of_le O,f0,if_pos rfl]
  | succ k ih=>
   intro i hi;have hd:=vo p (i:=i) O;have hm:lat p (i:Int)∈p:=List.mem_of_mem_drop (hd ▸ List.mem_cons_self);refine aT ?_;simp only [cF];refine aI O (ax O (ay _ (y4 (V0z:=λ s n=>et n s) (λ s hs=>mY s O) _ (hp _ hm)) ?_));rw [hd,f0,q8];refine aw (λ h1=>ai ?_) (λ h1=>ay _ (yf _) (aw (λ h2=>ai ?_) (λ h2=>ax (a8 O O) ?_)))
   ·rw [if_pos h1]; rfl
   ·rw [if_neg h1,if_pos (of_decide_eq_true h2)]; rfl
   ·rw [if_neg h1,if_neg (λ q=>h2 (decide_eq_true q)),if_pos rfl];exact kj (P:=λ j=>Ev2 (λ n m=>cF n p m j) _) (ih (i+1) O)
 have l:=loop p.length 0 O;rw [List.drop_zero] at l;by_cases h0:f0 p=0
 ·rw [if_pos h0] at l; exact eA () (bX l) (ai h0.symm)
 ·rw [if_neg h0] at l; exact fP _ (bX l) rfl
structure gd (x:ac):Prop where
 num:0<=x.A'/\x.A'<=j8
 ix:x.Cu=true->x.BY=[]
 nm:x.Cu=false->x.A'=0/\x.BY.length<=4096/\validD x.BY=true
theorem gd.len {x:ac}(h:gd x):x.BY.length<=4096:=by
 cases hx:x.Cu with
 | true=>rw [h.ix hx]; simp
 | false=>exact (h.nm hx).2.1
theorem step_ok {x:ac}:q8 x=0↔gd x:=by
 unfold q8;constructor
 ·intro h;split at h
  ·cases h
  ·rename_i hb;split at h
   ·cases h
   ·rename_i hr;unfold rF at hb;refine ⟨⟨by omega,by unfold j8; omega⟩,λ hx=>?_,λ hx=>?_⟩
    ·rw [if_pos hx] at hb; simpa using hb
    ·rw [if_neg (by rw [hx]; decide)] at hb;simpa using hb
 ·intro h
  have hb:rF x=false:=by
   unfold rF
   cases hx:x.Cu with
   | true=>rw [if_pos rfl,h.ix hx]; rfl
   | false=>
    obtain ⟨h1,h2,h3⟩:=h.nm hx;rw [if_neg (by decide),h1,h3]; simp [h2]
  have hn:=h.num;unfold j8 at hn;rw [if_neg (by rw [hb]; decide),if_neg O]
theorem wM {p:List ac}:f0 p=0↔∀ x∈p,gd x:=by
 induction p with
 | nil=>simp [f0]
 | cons x r ih=>
  rw [f0];constructor
  ·intro h;split at h
   ·rename_i h0;intro y hy;rcases ro.1 hy with rfl|hy
    ·exact step_ok.1 h0
    ·exact ih.1 h y hy
   ·rename_i h0; exact absurd h h0
  ·intro h;rw [if_pos (step_ok.2 (h x List.mem_cons_self))];exact ih.2 (λ y hy=>h y (List.mem_cons_of_mem _ hy))
theorem oY {p:List ac}:lj p=0↔p.length<=32/\∀ x∈p,gd x:=by
 unfold lj;split
 ·rename_i h; exact ⟨λ q=>(by cases q),λ q=>absurd q.1 O⟩
 ·rename_i h; rw [wM]; exact ⟨λ q=>⟨by omega,q⟩,λ q=>q.2⟩
theorem pr (p:List ac)(hl:p.length<=1000000000000000)(hp:∀ x∈p,x.BY.length<=1000000000000000):Ev2 (λ n _=>fj n p) (λ r=>r=true->∀ x∈p,x.BY.length<20000):=by
 simp only [fj]
 have loop:∀ (k i c:Nat),i+k=p.length->Ev2 (λ n m=>cJ p m (c:Int) (i:Int)) (λ r=>r<20000->(c:Int)<=r/\∀ x∈p.drop i,(x.BY.length:Int)+c<r+1):=by
  intro k
  induction k with
  | zero=>
   intro i c hi;refine aT ?_;simp only [cJ];refine ay false (aE O (ai rfl)) (aE G (ai (λ _=>⟨Int.le_refl _,?_⟩)));rw [List.drop_eq_nil_of_le O]; simp
  | succ k ih=>
   intro i c hi;have hd:=vo p (i:=i) O;have hm:lat p (i:Int)∈p:=List.mem_of_mem_drop (hd ▸ List.mem_cons_self);have hx:=hp _ hm;rw [hd];refine aT ?_;simp only [cJ];refine ay (decide (c<20000)) (aI O (ai (by rw [decide_eq_decide]; omega))) (aw (λ h=>?_) (λ h=>ai (λ h2=>?_)))
   ·have hc:c<20000:=of_decide_eq_true h;refine ax (a8 O O) (ax O (ax (a8 O O) (ax (a8 O O) ?_)));have:=ih (i+1) (c+1+(lat p (i:Int)).BY.length) O;rw [show ((c+1+(lat p (i:Int)).BY.length:Nat):Int)=((c:Int)+1)+((lat p (i:Int)).BY.length:Int) by omega,show ((i+1:Nat):Int)=(i:Int)+1 by omega] at this;refine fI this (λ r hr h2=>?_);obtain ⟨a,b⟩:=hr h2;refine ⟨by omega,λ x hx=>?_⟩;rcases ro.1 hx with rfl|hx
    ·omega
    ·have:=b x hx; omega
   ·have hc:¬ c<20000:=λ q=>h (decide_eq_true q);omega
 refine bI _ (bX (f:=λ n m=>cJ p m 0 0) (loop p.length 0 0 O)) (λ r hr=>ai ?_);intro h x hx;have h:=of_decide_eq_true h;have:=(hr h).2 x (by simpa using hx);omega
end Go.Ab.R06
end
section
namespace Go.Ab.R06
open Go.Proofs Go.Ab Go.Ab.RB
attribute [local irreducible] awp ea aO au bs AV.sub M bY
def g5 (CI:List ac)(v_1:aa)(n_2:Int):Option (List ac) :=(if v_1.AT=5 then ck ((0:Int)<=n_2/\n_2<(v_1.AI.length:Int))<|some (false,0,lat v_1.AI n_2)else some (true,n_2,([]:Bk)) : Option (Bool×Int×Bk)).bind λ q9=>(bh CI).bind λ r6=>ck ((r6.length+[(ac.mk q9.1 q9.2.1 q9.2.2)].length)*32<=140737488355328)<|some (r6++[(ac.mk q9.1 q9.2.1 q9.2.2)])
theorem lJ (CI:List ac)(v_1:aa)(n_2:Int)(r:(List ac))(h0:g5 CI v_1 n_2=some r):au Tryz.prog 86 [eL ag CI,.agg (aa.cs v_1),eI n_2] (·=.p (eL ag r)):=by
 unfold g5 at h0;refine aZ good Tryz.func86 Z Z Z λ w0=>mP (λ v:(List ac)=>.p (eL ag v)) ?_;refine nx 13 Z (bd h0 λ DJ h1 h0=>?_);refine kN DJ (λ v11=>⟨[(0,.p (eL ag CI)),(7,.ptr 7 0)],[(7,[.p (eB v11.1),.p (eI v11.2.1),.p (eS v11.2.2)])]⟩) ?_ ?_
 ·refine nx 2 Z (bd h0 λ r6 e7 h0=>?_);refine cc' h0 λ hk8 h0=>mG (gE (t:=⟨[(0,.p (eL ag CI)),(7,.ptr 7 0)],[(7,[.p (eB DJ.1),.p (eI DJ.2.1),.p (eS DJ.2.2)])]⟩) Z Z) (mS ⟨2,[1,4],(by3 (.some (bz [] 101000 101001)) (.some λ i=>Nat.beq i 101000||Nat.beq i 23) .none),(λ _=>[(0,.p (eL ag CI)),(7,.ptr 7 0)]),(λ _=>[(7,[.p (eB DJ.1),.p (eI DJ.2.1),.p (eS DJ.2.2)])])⟩ Z Z Z ⟨Z,Z,trivial⟩ (lt2 ⟨Z,Z,trivial⟩ ⟨Z,Z,trivial⟩) Z Z Z Z ?_);refine al (λ _=>.p (eL ag CI)) Z Z Z (bj Z Z Y) (lt2 Z Z) (aj Z (aj Z (af [(0,_)] ⟨.inl Z,trivial⟩ (λ sl Cy K hK=>ae Z (aA Z Z Z (Cy _ _ Z) hK)) ak))) (cQ (by3 (.vec 101000 3 0 (r6.map ag)) (.vec 101000 3 0 (r6.map ag)) (.p (eL ag r6))) [(19,_)] Z ⟨.inr ⟨0,_,Z,Z,Z⟩,trivial⟩ Z Z (bK Z Y) (lt2 (λ h=>absurd h (by decide)) Y) (λ sl Cy K hK=>ae Z (br [] [] 101000 101001 (cM CI _ e7) Z Z Z (am (Cy _ _ Z) aM) Z ⟨sr,trivial⟩ Z Z trivial Z Z Z Z Z Z Z Z Tryz.call85 Z Z hK)) ?_);refine al (λ _=>.p (.agg [eB DJ.1,eI DJ.2.1,eS DJ.2.2])) Z Z Z (bj Z Z Y) (lt2 Z Z) (af [(7,_)] ⟨.inl Z,trivial⟩ (λ sl Cy K hK=>ae Z (aN Z Z Z Z Z (Cy _ _ Z) Z Z Z hK)) (af [(7,_)] ⟨.inl Z,trivial⟩ (λ sl Cy K hK=>ae Z (aN Z Z Z Z Z (Cy _ _ Z) Z Z Z hK)) (af [(7,_)] ⟨.inl Z,trivial⟩ (λ sl Cy K hK=>ae Z (aN Z Z Z Z Z (Cy _ _ Z) Z Z Z hK)) ak))) (al (λ _=>.p (eL ag [(ac.mk DJ.1 DJ.2.1 DJ.2.2)])) Z Z Z (bj Z Z Y) (lt2 Z Z) (aj Z (af [(21,_)] ⟨.inr ⟨2,_,Z,Z,Z⟩,trivial⟩ (λ sl Cy K hK=>ae Z (bA ag [(ac.mk DJ.1 DJ.2.1 DJ.2.2)] Z Z Z Z Z Z (cH (Cy _ _ Z) Z eT) Z Z Z Z Z Z (by first|rfl|(simp only [cl,py,ac.Cv]; done)|(simp only [cl,py,ac.Cv]; rfl)) hK)) (af [(21,_)] ⟨.inr ⟨2,_,Z,Z,Z⟩,trivial⟩ (λ sl Cy K hK=>ae Z (bA ag [(ac.mk DJ.1 DJ.2.1 DJ.2.2)] Z Z Z Z Z Z (cH (Cy _ _ Z) Z eT) Z Z Z Z Z Z (by first|rfl|(simp only [cl,py,ac.Cv]; done)|(simp only [cl,py,ac.Cv]; rfl)) hK)) ak))) ?_);refine cQ (λ _=>.vec 23 3 0 ((r6++[(ac.mk DJ.1 DJ.2.1 DJ.2.2)]).map ag)) [(20,_),(22,_)] Z ⟨.inr ⟨1,_,Z,Z,Z⟩,.inr ⟨3,_,Z,Z,Z⟩,trivial⟩ Z Z Y (lt2 (λ h=>absurd h (by decide)) (λ h=>absurd h (by decide))) (λ sl Cy K hK=>ae Z (dS ag r6 [(ac.mk DJ.1 DJ.2.1 DJ.2.2)] Z Z Z Z Z Z Z Z (Cy _ _ Z) Z Z (Cy _ _ Z) Z (λ x=>congrArg List.length (ac.B' x)) Z Z Z Z hk8 hK)) (aU (λ _=>.vec 23 3 0 ((r6++[(ac.mk DJ.1 DJ.2.1 DJ.2.2)]).map ag)) Z Z Z (bj Z Z Y) (lt2 Y (nl Z)) (af [(23,_)] ⟨.inr ⟨4,_,Z,Z,Z⟩,trivial⟩ (λ sl Cy K hK=>ae Z (bq Z Z Z (Cy _ _ Z) hK)) (aj Z (aj Z ak))) ?_);refine eY (nx 2 Z ?_);exact mQ (oi h0) Z (AV.sub_vec _ _ _ _)
 refine nx 6 Z (fD [12] h1 Z (λ c1 h1=>?_) λ c1 h1=>?_)
 ·refine nx 5 Z (oE h1 Y Z Z Y λ D1 h1=>?_);exact nx 4 Z (eX _ (oi h1).symm (gE Z Z))
 exact nx 2 Z (eX _ (oi h1).symm (gE Z Z))
def bL (C6:(List ac)->aa->aa->Option (List (List ac)))(CI:List ac)(C':aa)(b_2:aa):Nat->(List (List ac))->Int->Option (List (List ac))|0,_,_=>none|m+1,C7,CZ=>if CZ<(C'.Ar.length:Int) then(g5 CI C' CZ).bind λ FE=>ck ((0:Int)<=CZ/\CZ<(C'.Ar.length:Int))<|ck ((0:Int)<=CZ/\CZ<(b_2.Ar.length:Int))<|(C6 FE (lat C'.Ar CZ) (lat b_2.Ar CZ)).bind λ ED=>ck ((C7.length+ED.length)*24<=140737488355328)<|ck (inR (CZ+1))<|bL C6 CI C' b_2 m (C7++ED) (CZ+1)else some C7
def bT:Nat->(List ac)->aa->aa->Option (List (List ac))|0,_,_,_=>none|n+1,CI,C',b_2=>(dh n C' b_2).bind λ r1=>if r1=true then some [] else(if C'.AT=b_2.AT then if C'.AT=4 then if (C'.Ar.length:Int)=(b_2.Ar.length:Int) then(bo n C'.AI b_2.AI).bind λ r7=>some r7 else some false else if C'.AT=5 then if (C'.Ar.length:Int)=(b_2.Ar.length:Int) then(bo n C'.AI b_2.AI).bind λ D2=>some D2 else some false else some false else some false : Option Bool).bind λ inner13=>if (!inner13)=true then(bh CI).bind λ Db=>some [Db] else(bL (bT n) CI C' b_2 n [] 0).bind λ G6=>some G6
theorem lx (n:Nat):∀ (CI:List ac) (C':aa) (b_2:aa) (r:(List (List ac))),bT n CI C' b_2=some r->au Tryz.prog 62 [eL ag CI,.agg (aa.cs C'),.agg (aa.cs b_2)] (·=.p (eL (eL ag) r)):=by
 induction n with
 | zero=>intro CI C' b_2 r h0; cases h0
 | succ n ih=>
 have Dd:=ih;intro CI C' b_2 r h0;rw [bT] at h0;refine aZ good Tryz.func62 Z Z Z λ w0=>mP (λ v:(List (List ac))=>.p (eL (eL ag) v)) ?_;refine nx 11 Z (bd h0 λ r1 e2 h0=>?_);refine oK (gH _ C' b_2 _ e2) Z ⟨sr,sr,trivial⟩ Tryz.call29 Z (nx 1 Z ?_);refine fB [12] h0 Z (λ c3 h0=>?_) λ c3 h0=>?_
 ·exact nx 6 Z (mQ (oi h0) Z (iq _))
 refine nx 3 Z (bd h0 λ EX h1 h0=>?_);refine kN EX (λ Ej=>⟨[(0,.p (eL ag CI)),(4,.ptr 4 0),(5,.ptr 5 0),(7,.p (eB Ej))],[(4,(aa.cs C').map .p),(5,(aa.cs b_2).map .p)]⟩) ?_ ?_
 ·refine nx 7 Z (fB [45] h0 Z (λ EO h0=>?_) λ EO h0=>?_)
  ·refine nx 4 Z (bd h0 λ Db FA h0=>?_);refine mO Z (br [] [] 101000 101001 (cM CI _ FA) Z Z Z Z Z ⟨sr,trivial⟩ Z Z trivial Z Z Z Z Z Z Z Z Tryz.call85 Z Z ?_);refine mG (j9 47 (y:=.p (eL ag Db)) Z (AV.sub_vec _ _ _ _)) (mO Z (bA (eL ag) [Db] Z Z Z Z Z Z Z Z Z Z Z Z Z Z ?_));exact nx 3 Z (mQ (oi h0) Z (sr))
  refine nx 11 Z (oLl (f:=ah) Z Z ?_);refine nx 3 Z (bd h0 λ o46 h1 h0=>?_);refine kE 0 o46 (λ v47=>⟨[(8,.vec 71 1 0 (v47.map (eL ag)))],[]⟩) ?_ ?_
  ·exact nx 7 Z (mQ (oi h0) Z (AV.sub_vec _ _ _ _))
  refine lG (λ (G1:(List (List ac))×Int)=>⟨[(0,.p (eL ag CI)),(4,.ptr 4 0),(5,.ptr 5 0),(8,.vec 71 1 0 (G1.1.map (eL ag))),(51,.p (eI (C'.Ar.length:Int))),(52,.p (eI G1.2))],[(4,(aa.cs C').map .p),(5,(aa.cs b_2).map .p)]⟩) (λ m (G1:(List (List ac))×Int)=>bL (bT n) CI C' b_2 m G1.1 G1.2) Y ([],0) h1 (bS (fS ⟨er rfl,er rfl,er rfl,⟨_,rfl,AV.sub_nilvec _ _ _⟩,er rfl,er rfl,trivial⟩ ⟨⟨_,rfl,⟨sr,sr,sr,sr,sr,trivial⟩⟩,⟨_,rfl,⟨sr,sr,sr,sr,sr,trivial⟩⟩,trivial⟩)) ?_;rintro m ⟨C7,CZ⟩ h1;replace h1:bL (bT n) CI C' b_2 (m+1) C7 CZ=some o46:=h1;rw [bL] at h1;refine nx 5 rfl (fD [53] h1 rfl (λ EL h1=>?_) λ EL h1=>?_)
  ·refine nx 9 Z (bd h1 λ FE Gy h1=>?_);refine cc' h1 λ EH h1=>cc' h1 λ Eo h1=>bd h1 λ ED e36 h1=>cc' h1 λ En h1=>mG (gE (t:=⟨[(0,.p (eL ag CI)),(4,.ptr 4 0),(5,.ptr 5 0),(8,.vec 71 1 0 (C7.map (eL ag))),(9,.p (eI CZ)),(51,.p (eI (C'.Ar.length:Int))),(52,.p (eI CZ))],[(4,(aa.cs C').map .p),(5,(aa.cs b_2).map .p)]⟩) Z Z) (mS ⟨2,[16,17],(by3 (.some λ i=>Nat.beq i 71||Nat.beq i 71) .none .none),(by3 [(0,.p (eL ag CI)),(4,.ptr 4 0),(5,.ptr 5 0),(8,.vec 71 1 0 (C7.map (eL ag))),(9,.p (eI CZ)),(51,.p (eI (C'.Ar.length:Int))),(52,.p (eI CZ))] [(0,.p (eL ag CI)),(4,.ptr 4 0),(5,.ptr 5 0),(8,.p (eL (eL ag) C7)),(9,.p (eI CZ)),(51,.p (eI (C'.Ar.length:Int))),(52,.p (eI CZ))] [(0,.p (eL ag CI)),(4,.ptr 4 0),(5,.ptr 5 0),(9,.p (eI CZ)),(51,.p (eI (C'.Ar.length:Int))),(52,.p (eI CZ))]),(λ _=>[(4,[.p (eI C'.AT),.p (eI C'.A'),.p (eS C'.By),.p (eL ah C'.Ar),.p (eL eS C'.AI)]),(5,[.p (eI b_2.AT),.p (eI b_2.A'),.p (eS b_2.By),.p (eL ah b_2.Ar),.p (eL eS b_2.AI)])])⟩ Z Z Z ⟨Z,Z,Z,Z,Z,Z,Z,trivial⟩ (lt2 ⟨Z,Z,Z,Z,Z,Z,Z,trivial⟩ ⟨Z,Z,Z,Z,Z,Z,trivial⟩) Z Z Z Z ?_);refine al (by3 (.vec 71 1 0 (C7.map (eL ag))) (.p (eL (eL ag) C7)) (.p (eL (eL ag) C7))) Z Z Z (bj Z Z Y) (lt2 Z Z) (aj Z (aj Z (af [(8,_)] ⟨.inl Z,trivial⟩ (λ sl Cy K hK=>ae Z (aA Z Z Z (Cy _ _ Z) hK)) ak))) (al (λ _=>.p (eL ag CI)) Z Z Z (bj Z Z Y) (lt2 Z Z) (aj Z (af [(0,_)] ⟨.inl Z,trivial⟩ (λ sl Cy K hK=>ae Z (aA Z Z Z (Cy _ _ Z) hK)) (af [(0,_)] ⟨.inl Z,trivial⟩ (λ sl Cy K hK=>ae Z (aA Z Z Z (Cy _ _ Z) hK)) ak))) ?_);refine al (λ _=>.p (.agg (aa.cs C'))) Z Z Z (bj Z Z Y) (lt2 Z Z) (aj Z (af [(4,_)] ⟨.inl Z,trivial⟩ (λ sl Cy K hK=>ae Z (aN Z Z Z Z Z (Cy _ _ Z) Z Z Z hK)) (af [(4,_)] ⟨.inl Z,trivial⟩ (λ sl Cy K hK=>ae Z (aN Z Z Z Z Z (Cy _ _ Z) Z Z Z hK)) ak))) (al (λ _=>.p (eI CZ)) Z Z Z (bj Z Z Y) (lt2 Z Z) (aj Z (af [(9,_)] ⟨.inl Z,trivial⟩ (λ sl Cy K hK=>ae Z (aA Z Z Z (Cy _ _ Z) hK)) (af [(9,_)] ⟨.inl Z,trivial⟩ (λ sl Cy K hK=>ae Z (aA Z Z Z (Cy _ _ Z) hK)) ak))) ?_);refine al (λ _=>.p (eL ag FE)) Z Z Z (bj Z Z Y) (lt2 Z Z) (aj Z (af [(56,_),(57,_),(58,_)] ⟨.inr ⟨1,_,Z,Z,Z⟩,.inr ⟨2,_,Z,Z,Z⟩,.inr ⟨3,_,Z,Z,Z⟩,trivial⟩ (λ sl Cy K hK=>ae Z (aY (lJ CI C' CZ _ Gy) Z Z Z (am (Cy _ _ Z) (am (Cy _ _ Z) (am (Cy _ _ Z) aM))) ⟨sr,sr,sr,trivial⟩ Tryz.call86 Z hK)) (af [(56,_),(57,_),(58,_)] ⟨.inr ⟨1,_,Z,Z,Z⟩,.inr ⟨2,_,Z,Z,Z⟩,.inr ⟨3,_,Z,Z,Z⟩,trivial⟩ (λ sl Cy K hK=>ae Z (aY (lJ CI C' CZ _ Gy) Z Z Z (am (Cy _ _ Z) (am (Cy _ _ Z) (am (Cy _ _ Z) aM))) ⟨sr,sr,sr,trivial⟩ Tryz.call86 Z hK)) ak))) (al (λ _=>.ptr 4 3) Z Z Z (bj Z Z Y) (lt2 Z Z) (aj Z (af [(4,_)] ⟨.inl Z,trivial⟩ (λ sl Cy K hK=>ae Z (aD Z Z Z Z Z Z Z Z (Cy _ _ Z) hK)) (af [(4,_)] ⟨.inl Z,trivial⟩ (λ sl Cy K hK=>ae Z (aD Z Z Z Z Z Z Z Z (Cy _ _ Z) hK)) ak))) ?_);refine al (λ _=>.p (eL ah C'.Ar)) Z Z Z (bj Z Z Y) (lt2 Z Z) (aj Z (af [(60,_)] ⟨.inr ⟨5,_,Z,Z,Z⟩,trivial⟩ (λ sl Cy K hK=>ae Z (bm Z Z Z Z Z (Cy _ _ Z) Z Z hK)) (af [(60,_)] ⟨.inr ⟨5,_,Z,Z,Z⟩,trivial⟩ (λ sl Cy K hK=>ae Z (bm Z Z Z Z Z (Cy _ _ Z) Z Z hK)) ak))) (al (λ _=>.p (eI CZ)) Z Z Z (bj Z Z Y) (lt2 Z Z) (aj Z (af [(9,_)] ⟨.inl Z,trivial⟩ (λ sl Cy K hK=>ae Z (aA Z Z Z (Cy _ _ Z) hK)) (af [(9,_)] ⟨.inl Z,trivial⟩ (λ sl Cy K hK=>ae Z (aA Z Z Z (Cy _ _ Z) hK)) ak))) ?_);refine al (λ _=>.rptr (aa.cs (lat C'.Ar CZ))) Z Z Z (bj Z Z Y) (lt2 Z Z) (aj Z (af [(61,_),(62,_)] ⟨.inr ⟨6,_,Z,Z,Z⟩,.inr ⟨7,_,Z,Z,Z⟩,trivial⟩ (λ sl Cy K hK=>ae Z (cO (f:=ah) (l:=C'.Ar) aa.cs Z Z Z Z Z Z (Cy _ _ Z) Z (Cy _ _ Z) EH aa.B' Y hK)) (af [(61,_),(62,_)] ⟨.inr ⟨6,_,Z,Z,Z⟩,.inr ⟨7,_,Z,Z,Z⟩,trivial⟩ (λ sl Cy K hK=>ae Z (cO (f:=ah) (l:=C'.Ar) aa.cs Z Z Z Z Z Z (Cy _ _ Z) Z (Cy _ _ Z) EH aa.B' Y hK)) ak))) (al (λ _=>.p (.agg (aa.cs (lat C'.Ar CZ)))) Z Z Z (bj Z Z Y) (lt2 Z Z) (aj Z (af [(63,_)] ⟨.inr ⟨8,_,Z,Z,Z⟩,trivial⟩ (λ sl Cy K hK=>ae Z (fE Z Z Z Z Z (Cy _ _ Z) Z hK)) (af [(63,_)] ⟨.inr ⟨8,_,Z,Z,Z⟩,trivial⟩ (λ sl Cy K hK=>ae Z (fE Z Z Z Z Z (Cy _ _ Z) Z hK)) ak))) ?_);refine al (λ _=>.ptr 5 3) Z Z Z (bj Z Z Y) (lt2 Z Z) (aj Z (af [(5,_)] ⟨.inl Z,trivial⟩ (λ sl Cy K hK=>ae Z (aD Z Z Z Z Z Z Z Z (Cy _ _ Z) hK)) (af [(5,_)] ⟨.inl Z,trivial⟩ (λ sl Cy K hK=>ae Z (aD Z Z Z Z Z Z Z Z (Cy _ _ Z) hK)) ak))) (al (λ _=>.p (eL ah b_2.Ar)) Z Z Z (bj Z Z Y) (lt2 Z Z) (aj Z (af [(65,_)] ⟨.inr ⟨10,_,Z,Z,Z⟩,trivial⟩ (λ sl Cy K hK=>ae Z (bm Z Z Z Z Z (Cy _ _ Z) Z Z hK)) (af [(65,_)] ⟨.inr ⟨10,_,Z,Z,Z⟩,trivial⟩ (λ sl Cy K hK=>ae Z (bm Z Z Z Z Z (Cy _ _ Z) Z Z hK)) ak))) ?_);refine al (λ _=>.p (eI CZ)) Z Z Z (bj Z Z Y) (lt2 Z Z) (aj Z (af [(9,_)] ⟨.inl Z,trivial⟩ (λ sl Cy K hK=>ae Z (aA Z Z Z (Cy _ _ Z) hK)) (af [(9,_)] ⟨.inl Z,trivial⟩ (λ sl Cy K hK=>ae Z (aA Z Z Z (Cy _ _ Z) hK)) ak))) (al (λ _=>.rptr (aa.cs (lat b_2.Ar CZ))) Z Z Z (bj Z Z Y) (lt2 Z Z) (aj Z (af [(66,_),(67,_)] ⟨.inr ⟨11,_,Z,Z,Z⟩,.inr ⟨12,_,Z,Z,Z⟩,trivial⟩ (λ sl Cy K hK=>ae Z (cO (f:=ah) (l:=b_2.Ar) aa.cs Z Z Z Z Z Z (Cy _ _ Z) Z (Cy _ _ Z) Eo aa.B' Y hK)) (af [(66,_),(67,_)] ⟨.inr ⟨11,_,Z,Z,Z⟩,.inr ⟨12,_,Z,Z,Z⟩,trivial⟩ (λ sl Cy K hK=>ae Z (cO (f:=ah) (l:=b_2.Ar) aa.cs Z Z Z Z Z Z (Cy _ _ Z) Z (Cy _ _ Z) Eo aa.B' Y hK)) ak))) ?_);refine al (λ _=>.p (.agg (aa.cs (lat b_2.Ar CZ)))) Z Z Z (bj Z Z Y) (lt2 Z Z) (aj Z (af [(68,_)] ⟨.inr ⟨13,_,Z,Z,Z⟩,trivial⟩ (λ sl Cy K hK=>ae Z (fE Z Z Z Z Z (Cy _ _ Z) Z hK)) (af [(68,_)] ⟨.inr ⟨13,_,Z,Z,Z⟩,trivial⟩ (λ sl Cy K hK=>ae Z (fE Z Z Z Z Z (Cy _ _ Z) Z hK)) ak))) (al (λ _=>.p (eL (eL ag) ED)) Z Z Z (bj Z Z Y) (lt2 Z Z) (aj Z (aj Z (af [(59,_),(64,_),(69,_)] ⟨.inr ⟨4,_,Z,Z,Z⟩,.inr ⟨9,_,Z,Z,Z⟩,.inr ⟨14,_,Z,Z,Z⟩,trivial⟩ (λ sl Cy K hK=>ae Z (aY (Dd FE (lat C'.Ar CZ) (lat b_2.Ar CZ) _ e36) Z Z Z (am (Cy _ _ Z) (am (Cy _ _ Z) (am (Cy _ _ Z) aM))) ⟨sr,sr,sr,trivial⟩ Tryz.call62 Z hK)) ak))) ?_);refine cQ (λ _=>.vec 71 1 0 ((C7++ED).map (eL ag))) [(55,_),(70,_)] Z ⟨.inr ⟨0,_,Z,Z,Z⟩,.inr ⟨15,_,Z,Z,Z⟩,trivial⟩ Z Z (bK Z Y) (lt2 (λ h=>absurd h (by decide)) Y) (λ sl Cy K hK=>ae Z (dS (eL ag) C7 ED Z Z Z Z Z Z Z Z (Cy _ _ Z) Z Z (Cy _ _ Z) Z Y Z Z Z Z En hK)) (cQ (λ _=>.vec 71 1 0 ((C7++ED).map (eL ag))) [(71,_)] Z ⟨.inr ⟨16,_,Z,Z,Z⟩,trivial⟩ Z Z Y (lt2 (λ h=>absurd h (by decide)) (λ h=>absurd h (by decide))) (λ sl Cy K hK=>ae Z (bq Z Z Z (Cy _ _ Z) hK)) ?_);refine eY (nx 2 Z ?_);exact oA h1 Z Z λ Fh h1=>nx 2 Z (eX (C7++ED,CZ+1) h1 (gE Z Z))
  exact nx 2 Z (eXi _ (oi h1).symm (gE Z Z))
 refine nx 7 Z (fD [17,18] h1 Z (λ c4 h1=>?_) λ c4 h1=>?_)
 ·refine nx 4 Z (fD [21,22] h1 Z (λ c5 h1=>?_) λ c5 h1=>?_)
  ·refine nx 8 Z (oLl (f:=ah) Z Z ?_);refine nx 2 Z (oLl (f:=ah) Z Z ?_);refine nx 3 Z (fD [35,36,37] h1 Z (λ c6 h1=>?_) λ c6 h1=>?_)
   ·refine nx 4 Z (bd h1 λ r7 e8 h1=>?_);refine oK (db _ C'.AI b_2.AI _ e8) Z ⟨sr,sr,trivial⟩ Tryz.call60 Z (nx 3 Z ?_);exact eX _ (oi h1).symm (gE Z Z)
   exact nx 8 Z (eX _ (oi h1).symm (gE Z Z))
  refine nx 6 Z (fD [25,26,27,28] h1 Z (λ c9 h1=>?_) λ c9 h1=>?_)
  ·refine nx 2 Z (oLl (f:=ah) Z Z ?_);refine nx 2 Z (oLl (f:=ah) Z Z ?_);refine nx 3 Z (fD [35,36,37] h1 Z (λ GH h1=>?_) λ GH h1=>?_)
   ·refine nx 4 Z (bd h1 λ D2 FZ h1=>?_);refine oK (db _ C'.AI b_2.AI _ FZ) Z ⟨sr,sr,trivial⟩ Tryz.call60 Z (nx 3 Z ?_);exact eX _ (oi h1).symm (gE Z Z)
   exact nx 8 Z (eX _ (oi h1).symm (gE Z Z))
  exact nx 17 Z (eX _ (oi h1).symm (gE Z Z))
 exact nx 27 Z (eX _ (oi h1).symm (gE Z Z))
def jL (n:Nat)(a_0:aa)(CF:aa):Option (List (List ac)) :=(bT n [] a_0 CF).bind λ r1=>some r1
theorem sb (n:Nat)(a_0:aa)(CF:aa)(r:(List (List ac)))(h0:jL n a_0 CF=some r):au Tryz.prog 31 [.agg (aa.cs a_0),.agg (aa.cs CF)] (·=.p (eL (eL ag) r)):=by
 unfold jL at h0;refine aZ good Tryz.func31 Z Z Z λ w0=>mP (λ v:(List (List ac))=>.p (eL (eL ag) v)) ?_;refine nx 10 Z (bd h0 λ r1 e2 h0=>?_);refine oK (lx _ [] a_0 CF _ e2) Z ⟨iq _,sr,sr,trivial⟩ Tryz.call62 Z (nx 3 Z ?_);exact mQ (oi h0) Z (sr)
def dO (Dt:(List ac)->aa->Option (List (List ac)))(CI:List ac)(v_1:aa):Nat->(List (List ac))->Int->Option (List (List ac))|0,_,_=>none|m+1,E9,t15=>if t15<(v_1.Ar.length:Int) then ck ((0:Int)<=t15/\t15<(v_1.Ar.length:Int))<|(g5 CI v_1 t15).bind λ C5=>(Dt C5 (lat v_1.Ar t15)).bind λ ET=>ck ((E9.length+ET.length)*24<=140737488355328)<|ck (inR (t15+1))<|dO Dt CI v_1 m (E9++ET) (t15+1)else some E9
def gp:Nat->(List ac)->aa->Option (List (List ac))|0,_,_=>none|n+1,CI,v_1=>if (v_1.Ar.length:Int)=0 then(bh CI).bind λ r2=>some [r2] else(dO (gp n) CI v_1 n [] 0).bind λ G7=>some G7
end Go.Ab.R06
end
section
namespace Go.Ab.R06
open Go.Ab Go.Ab.RB Go.Lib
def bK {α:Type}(p:α->α->Bool):List α->List α->Bool|[],[]=>true|x::r,y::q=>p x y&&bK p r q|_,_=>false
theorem oQ (p:Nat->Bool):∀ (k i:Nat),lK p (i+1) k=lK (λ j=>p (j+1)) i k
 | 0,_=>rfl
 | k+1,i=>by simp only [lK]; rw [oQ p k (i+1)]
theorem mt {α:Type} [Inhabited α] (p:α->α->Bool):∀ a b:List α,bK p a b=(decide (a.length=b.length)&&lK (λ i=>p (a.getD i default) (b.getD i default)) 0 a.length)
 | [],[]=>rfl
 | [],y::q=>by simp [bK]
 | x::r,[]=>by simp [bK]
 | x::r,y::q=>by
  simp only [bK,d4,lK,List.getD_cons_zero,rd];rw [mt p r q,oQ];simp only [List.getD_cons_succ,Nat.add_right_cancel_iff]
  cases p x y <;> cases decide (r.length=q.length) <;> simp
theorem md {f:Nat->Nat->Int->Option (Unit⊕Bool)}(len:Nat)(p:Nat->Bool)(h0:Ev2 (λ n m=>f n m (len:Int)) (·=.inl ()))
  (hs:∀ i:Nat,i<len->∀ P:Unit⊕Bool->Prop,(p i=true->Ev2 (λ n m=>f n m ((i:Int)+1)) P)->(p i=false->P (.inr false))->Ev2 (λ n m=>f n m (i:Int)) P) :
  ∀ k i,i+k=len->Ev2 (λ n m=>f n m (i:Int)) (·=if lK p i k=true then .inl () else .inr false):=by
 intro k
 induction k with
 | zero=>
  intro i hi;obtain rfl:i=len:=by omega
  exact h0
 | succ k ih=>
  intro i hi;refine hs i O _ (λ h=>?_) (λ h=>?_)
  ·have:=ih (i+1) O;rw [Int.natCast_add,Int.natCast_one] at this;simpa only [lK,h,Bool.true_and] using this
  ·simp [lK,h]
theorem sx {f:Nat->Nat->Int->Option (Unit⊕Bool)}{len:Nat}{p:Nat->Bool}{k:Nat->Nat->Option Bool}{q:Bool}(h:Ev2 (λ n m=>f n m 0) (·=if lK p 0 len=true then .inl () else .inr false))
  (hk:Ev2 k (·=q)):Ev2 (λ n m=>jn (f n n 0) (λ _=>k n m)) (·=(lK p 0 len&&q)):=by
 refine zt (fI (bX (f:=λ n m=>f n m 0) h) (λ s hs=>?_));subst hs
 cases lK p 0 len with
 | true=>exact hk
 | false=>rfl
theorem nt {x:Bool}(h:(!x)=true):x=false:=by simpa using h
theorem nf {x:Bool}(h:¬ (!x)=true):x=true:=by simpa using h
def eqS (a b:Bk):Bool:=decide (a=b)
theorem uO (a b:List Bk)(ha:a.length*16<=ec):Ev2 (λ n _=>bo n a b) (·=bK eqS a b):=by
 unfold ec at ha;simp only [bo];rw [mt];refine aw (λ h=>?_) (λ h=>ai (by simp; omega));have h:a.length=b.length:=by omega
 rw [decide_eq_true h,Bool.true_and];rw [<- Bool.and_true (lK _ 0 a.length)];refine sx (f:=λ n m i=>bn a b m i) (md a.length _ ?_ (λ i hi P h1 h2=>?_) a.length 0 O) (ai rfl)
 ·refine aT ?_;simp only [bn];exact aE O (ai Z)
 ·refine aT ?_;simp only [bn];refine aI O (ax O (ax O (aw (λ h=>ax (a8 O O) (h1 (decide_eq_true h))) (λ h=>ai (h2 (decide_eq_false h))))))
mutual
def eqV:aa->aa->Bool|.mk k n s l ks,.mk k' n' s' l' ks'=>decide (k=k')&&decide (n=n')&&eqS s s'&&bK eqS ks ks'&&uy l l'
def uy:List aa->List aa->Bool|[],[]=>true|x::r,y::q=>eqV x y&&uy r q|_,_=>false
end
theorem wu:∀ a b,uy a b=bK eqV a b
 | [],[]=>by simp only [uy,bK]
 | [],_::_=>by simp only [uy,bK]
 | _::_,[]=>by simp only [uy,bK]
 | x::r,y::q=>by simp only [uy,bK]; rw [wu r q]
theorem rA (a b:aa):eqV a b=(decide (a.AT=b.AT)&&decide (a.A'=b.A')&&eqS a.By b.By&&bK eqS a.AI b.AI&&bK eqV a.Ar b.Ar):=by
 cases a; cases b
 simp only [eqV,wu,aa.AT,aa.A',aa.By,aa.AI,aa.Ar]
 rfl
theorem AG (a b:List aa)(ha:a.length*80<=ec)(e:Nat->aa->aa->Option Bool)(he:∀ x∈a,∀ y,Ev2 (λ n _=>e n x y) (·=eqV x y)) :
  Ev2 (λ n _=>aL n a b (e n)) (·=bK eqV a b):=by
 unfold ec at ha;simp only [aL];rw [mt];refine aw (λ h=>?_) (λ h=>ai (by simp; omega));have h:a.length=b.length:=by omega
 rw [decide_eq_true h,Bool.true_and];rw [<- Bool.and_true (lK _ 0 a.length)];refine sx (f:=λ n m i=>av a b (e n) m i) (md a.length _ ?_ (λ i hi P h1 h2=>?_) a.length 0 O) (ai rfl)
 ·refine aT ?_;simp only [av];exact aE O (ai Z)
 ·refine aT ?_;simp only [av];refine aI O (ax O (ax O (ay _ (he _ (dU O) _) ?_)));exact aw (λ h=>ai (h2 (nt h))) (λ h=>ax (a8 O O) (h1 (nf h)))
theorem kd {a:aa}(hb:aa.Bd a):∀ b,Ev2 (λ n _=>dh n a b) (·=eqV a b):=by
 induction hb with
 | @mk x bKind bNum bStr bItems eItems bKeys eKeys ih=>
  intro b;refine ee ?_;simp only [dh];rw [rA];refine bI (·=(decide (x.AT=b.AT)&&decide (x.A'=b.A')&&eqS x.By b.By&&bK eqS x.AI b.AI&&bK eqV x.Ar b.Ar)) ?_ (λ t ht=>ai ht);refine aw (λ h1=>?_) (λ h1=>ai (by simp [h1]));refine aw (λ h2=>?_) (λ h2=>ai (by simp [h2]));refine aw (λ h3=>?_) (λ h3=>ai (by simp [h3,eqS]));refine ay _ (uO _ _ bKeys) ?_;simp only [h1,h2,h3,eqS,decide_true,Bool.true_and];refine aw (λ h4=>?_) (λ h4=>ai (by simp [Bool.eq_false_iff.2 h4]));exact ay _ (AG _ _ bItems (λ n x0 x1=>dh n x0 x1) (λ x hx y=>ih x hx y)) (ai (by simp [h4]))
theorem nK {a:aa}(hb:aa.Bd a):∀ b,Ev2 (λ n _=>dC n a b) (·=eqV a b):=by
 induction hb with
 | @mk x bKind bNum bStr bItems eItems bKeys eKeys ih=>
  intro b;have l1:=bItems;have l2:=bKeys;unfold ec at l1 l2;refine ee ?_;simp only [dC];rw [rA];refine ay (!(decide (x.AT=b.AT)&&decide (x.A'=b.A')&&eqS x.By b.By&&decide (x.Ar.length=b.Ar.length)&&decide (x.AI.length=b.AI.length))) ?_ ?_
  ·refine aw (λ h1=>?_) (λ h1=>ai (by simp [h1]));refine aw (λ h2=>?_) (λ h2=>ai (by simp [h2]));refine aw (λ h3=>?_) (λ h3=>ai (by simp [h3,eqS]));refine aw (λ h4=>ai ?_) (λ h4=>ai ?_)
   ·have h4:x.Ar.length=b.Ar.length:=by omega
    simp [h1,h2,h3,h4,eqS]; omega
   ·have h4:¬ x.Ar.length=b.Ar.length:=by omega
    simp [h4]
  ·rw [mt eqS,mt eqV];refine aw (λ h=>ai ?_) (λ h=>?_)
   ·simp only [Bool.not_eq_true',Bool.and_eq_false_iff] at h;rcases h with (((h|h)|h)|h)|h <;> simp [h]
   ·simp only [Bool.not_eq_true',Bool.not_eq_false,n7] at h;obtain ⟨⟨⟨⟨h1,h2⟩,h3⟩,h4⟩,h5⟩:=h;have h4':=of_decide_eq_true h4;have h5':=of_decide_eq_true h5;rw [h1,h2,h3,h4,h5];simp only [Bool.true_and];refine sx (f:=λ n m i=>dd x b m i) (md x.AI.length _ ?_ (λ i hi P h1 h2=>?_) x.AI.length 0 O) ?_
    ·refine aT ?_;simp only [dd];exact aE O (ai Z)
    ·refine aT ?_;simp only [dd];refine aI O (ax O (ax O (aw (λ h=>ax (a8 O O) (h1 (decide_eq_true h))) (λ h=>ai (h2 (decide_eq_false h))))))
    ·rw [<- Bool.and_true (lK _ 0 x.Ar.length)];refine sx (f:=λ n m i=>di (dC n) x b m i) (md x.Ar.length _ ?_ (λ i hi P h1 h2=>?_) x.Ar.length 0 O) (ai rfl)
     ·refine aT ?_;simp only [di];exact aE O (ai Z)
     ·refine aT ?_;simp only [di];refine aI O (ax O (ax O (ay _ (ih _ (dU O) _) ?_)));exact aw (λ h=>ai (h2 (nt h))) (λ h=>ax (a8 O O) (h1 (nf h)))
end Go.Ab.R06
end
section
namespace Go.Ab.R06
open Go.Proofs Go.Ab Go.Ab.RB
attribute [local irreducible] awp ea aO au bs AV.sub M bY
end Go.Ab.R06
end
section
namespace Go.Ab.R06
open Go.Ab Go.Ab.RB Go.Lib
def Cq (b:UInt8):Bool:=decide (b.toNat=46)||decide (b.toNat=91)
def qT:Bk->Nat|[]=>0|b::r=>if Cq b=true then 0 else qT r+1
theorem sN:∀ l:Bk,qT l<=l.length
 | []=>bt _
 | b::r=>by
  unfold qT;have:=sN r;split
  ·omega
  ·simp only [d4]; omega
def dN:Bk->Nat|[]=>0|b::r=>if l5 b=true then dN r+1 else 0
theorem A5:∀ l:Bk,dN l<=l.length
 | []=>bt _
 | b::r=>by
  unfold dN;have:=A5 r;split
  ·simp only [d4]; omega
  ·omega
theorem ym:∀ l:Bk,(l.take (dN l)).all l5=true
 | []=>rfl
 | b::r=>by
  unfold dN;have:=ym r;split
  ·rename_i h; rw [List.take_succ_cons,List.all_cons,h,this]; rfl
  ·rfl
theorem BE {l:Bk}(h:l.all l5=true):oW l=km l:=by
 have hneg:tN l=false:=by
  cases l with
  | nil=>rfl
  | cons b r=>
   rw [List.all_cons,n7] at h;have h1:=h.1;simp only [l5,n7,decide_eq_true_eq] at h1;have:¬ b=45:=λ e=>by rw [e] at h1; exact absurd h1.1 (by decide)
   simp [tN,this]
 have hc:ta l=ub l:=by unfold ta digits; rw [hneg]; simp
 cases hn:ub l with
 | false=>unfold oW km; rw [hc,hn,if_neg (by decide),if_neg (by decide)]
 | true=>
  have hp:∀ v:Int,km l=(v,0)->0<=v:=by
   intro v hv;unfold km pA digits at hv;rw [hc,hn,hneg,if_pos rfl] at hv;simp only [Bool.false_eq_true,if_false] at hv;split at hv
   ·cases hv; omega
   ·cases hv
  by_cases h0:(oW l).2=0
  ·have e:oW l=((oW l).1,0):=by rw [<- h0]
   obtain ⟨e1,e2,e3⟩:=qO e;have:=xp _ e2 e3;rw [e1] at this;rw [this]; exact e
  ·by_cases h1:(km l).2=0
   ·have e:km l=((km l).1,0):=by rw [<- h1]
    obtain ⟨e1,e3⟩:=xh _ _ e (hp _ e);have:=w9 (hp _ e) e3;rw [e1] at this;rw [this]; exact e.symm
   ·have a1:oW l=(0,5):=by
     unfold oW at h0 ⊢;rw [hn,if_pos Z] at h0 ⊢;split at h0
     ·exact absurd Z h0
     ·rename_i q; rw [if_neg q]
    have a2:km l=(0,5):=by
     unfold km at h1 ⊢;rw [hc,hn,if_pos Z] at h1 ⊢;split at h1
     ·exact absurd Z h1
     ·rename_i q; rw [if_neg q]
    rw [a1,a2]
theorem BX {l:Bk}(h:l.all l5=true){v:Int}(hv:km l=(v,0)):0<=v/\v<=j8:=by
 rw [<- BE h] at hv;exact (qO hv).2
theorem rn:∀ l:Bk,(∀ z∈l,z.toNat<128)->validD l=true
 | [],_=>rfl
 | b::r,h=>by rw [validD_cons b r (h b List.mem_cons_self)]; exact rn r (λ z hz=>h z (List.mem_cons_of_mem _ hz))
theorem tm {s:Bk}(h:uX s=true):s≠[]/\s.length<=64/\validD s=true/\(∀ z∈s,idB z=true)/\AA (s.getD 0 0)=true:=by
 cases s with
 | nil=>cases h
 | cons b r=>
  simp only [uX,n7,decide_eq_true_eq,qr] at h;obtain ⟨⟨h1,h2⟩,h3⟩:=h
  have hall:∀ z∈b::r,idB z=true:=λ z hz=>by
   rcases ro.1 hz with rfl|hz
   ·unfold idB; rw [h2]; rfl
   ·exact h3 z hz
  refine ⟨by simp,h1,rn _ (λ z hz=>?_),hall,h2⟩;have:=hall z hz;simp only [idB,AA,l5,Bool.or_eq_true,n7,decide_eq_true_eq] at this;omega
def wC (l:Bk)(x:ac)(n:Nat):Int⊕(ac×Nat):=if n=l.length\/(l.getD n 0).toNat≠93 then .inl 2 else .inr (x,n+1)
def brkS (l:Bk):Int⊕(ac×Nat):=if ((l.drop 1).getD 0 0).toNat=34 then (if (sY (l.drop 1)).2.2=0 then wC l (ac.mk false 0 (sY (l.drop 1)).1) (1+(sY (l.drop 1)).2.1.toNat) else .inl (sY (l.drop 1)).2.2)else if (km ((l.drop 1).take (dN (l.drop 1)))).2=0 then wC l (ac.mk true (km ((l.drop 1).take (dN (l.drop 1)))).1 []) (1+dN (l.drop 1)) else .inl (km ((l.drop 1).take (dN (l.drop 1)))).2
def AU (k:Nat)(l:Bk):Int⊕(ac×Nat):=if uX ((l.drop k).take (qT (l.drop k)))=true then .inr (ac.mk false 0 ((l.drop k).take (qT (l.drop k))),k+qT (l.drop k)) else .inl 2
def stpS (first:Bool)(l:Bk):Int⊕(ac×Nat):=if (l.getD 0 0).toNat=91 then brkS l else if first=true then AU 0 l else if (l.getD 0 0).toNat=46 then AU 1 l else .inl 2
theorem y3 {l:Bk}{x y:ac}{n m:Nat}(h:wC l x n=.inr (y,m))(hn:n<=l.length):y=x/\m=n+1/\m<=l.length:=by
 unfold wC at h;split at h
 ·cases h
 ·rename_i q; cases h; exact ⟨rfl,rfl,by omega⟩
theorem yK {first:Bool}{l:Bk}{x:ac}{n:Nat}(hl:l≠[])(h:stpS first l=.inr (x,n)):1<=n/\n<=l.length/\gd x:=by
 have hp:=List.length_pos_iff.2 hl;have hd:(l.drop 1).length=l.length-1:=by simp
 have nam:∀ k,k<=1->AU k l=.inr (x,n)->1<=n/\n<=l.length/\gd x:=by
  intro k hk h;unfold AU at h;split at h
  ·rename_i hi
   cases h
   obtain ⟨f1,f2,f3,_⟩:=tm hi;have hw:=sN (l.drop k);have D1:(l.drop k).length=l.length-k:=by simp
   refine ⟨?_,by omega,⟨⟨Int.le_refl 0,(show (0:Int)<=j8 by decide)⟩,λ q=>(by cases q),λ _=>⟨rfl,Nat.le_trans f2 (by decide),f3⟩⟩⟩;have:=List.length_pos_iff.2 f1;rw [sm] at this; omega
  ·cases h
 unfold stpS at h;split at h
 ·unfold brkS at h;split at h
  ·split at h
   ·rename_i h0;have hu:=AB (s:=l.drop 1) (x:=(sY (l.drop 1)).1) (n:=(sY (l.drop 1)).2.1) (by rw [<- h0]);obtain ⟨rfl,rfl,h3⟩:=y3 h O;exact ⟨by omega,h3,⟨⟨Int.le_refl 0,(show (0:Int)<=j8 by decide)⟩,λ q=>(by cases q),λ _=>⟨rfl,hu.1,hu.2.1⟩⟩⟩
   ·cases h
  ·split at h
   ·rename_i h0;have hdn:=A5 (l.drop 1);have hv:=BX (ym (l.drop 1)) (v:=(km ((l.drop 1).take (dN (l.drop 1)))).1) (by rw [<- h0]);obtain ⟨rfl,rfl,h3⟩:=y3 h O;exact ⟨by omega,h3,⟨hv,λ _=>rfl,λ q=>(by cases q)⟩⟩
   ·cases h
 ·split at h
  ·exact nam 0 O h
  ·split at h
   ·exact nam 1 O h
   ·cases h
theorem xe (a:List ac)(ha:a.length<=1000000000000000):Ev2 (λ n _=>fg n a a) (·=true):=by
 simp only [fg]
 have loop:∀ (k i:Nat),i+k=a.length->Ev2 (λ _ m=>bP a a m (i:Int)) (·=.inl ()):=by
  intro k
  induction k with
  | zero=>
   intro i hi;refine aT ?_;simp only [bP];exact aE O (ai rfl)
  | succ k ih=>
   intro i hi;refine aT ?_;simp only [bP];refine aI O (ax O (ax O (aI G (ax (a8 O O) ?_))));exact kj (P:=λ j=>Ev2 (λ _ m=>bP a a m j) _) (ih (i+1) O)
 exact aI trivial (eA () (bX (f:=λ _ m=>bP a a m 0) (loop a.length 0 O)) (ai Z))
theorem bz {α:Type} [Inhabited α] (l:List α){i:Nat}(h:i<l.length):l.drop i=lat l (i:Int)::l.drop (i+1):=by
 rw [sv,List.getD_eq_getElem?_getD,List.getElem?_eq_getElem h,rg];exact List.drop_eq_getElem_cons h
mutual
def bZ:aa->Nat|.mk _ _ _ l _=>1+bw l
def bw:List aa->Nat|[]=>0|x::r=>bZ x+bw r
end
theorem bR (v:aa):bZ v=1+bw v.Ar:=by cases v; simp only [bZ,aa.Ar]
theorem jv:∀ l:List aa,l.length<=bw l
 | []=>bt _
 | x::r=>by
  have:=jv r;have h1:=bR x;simp only [bw,d4]; omega
theorem g8:∀ {l:List aa} {x:aa},x∈l->bZ x<=bw l
 | y::r,x,h=>by
  rcases ro.1 h with rfl|h
  ·simp only [bw]; omega
  ·have:=g8 h; simp only [bw]; omega
theorem AM {v:aa}(hb:aa.Bd v):∀ (nodes levels:Int),0<=nodes->nodes<=1000000->-1000000<=levels->levels<=1000000 ->
  Ev2 (λ n _=>dK n v nodes levels) (λ r=>-1<=r/\r<=nodes/\(0<=r->r=nodes-(bZ v:Int))):=by
 induction hb with
 | @mk x bKind bNum bStr bItems eItems bKeys eKeys ih=>
  intro nodes levels h1 h2 h3 h4;have hl:=bItems;unfold ec at hl;refine ee ?_;simp only [dK];refine ay (decide (nodes<1\/levels<1)) (aw (λ h=>ai (by simp [h])) (λ h=>ai (by simp [h]))) (aw (λ _=>ai ⟨by omega,by omega,by omega⟩) (λ h=>?_));have h:¬ (nodes<1\/levels<1):=λ q=>h (decide_eq_true q);refine ax (a8 O O) ?_
  have loop:∀ (k i:Nat) (c:Int),i+k=x.Ar.length->-1<=c->c<=1000000->Ev2 (λ n m=>cy (dK n) x levels m c (i:Int)) (λ s=>-1<=s/\s<=c/\(0<=s->s=c-(bw (x.Ar.drop i):Int))):=by
   intro k
   induction k with
   | zero=>
    intro i c hi h6 h7;refine aT ?_;simp only [cy];refine ay false (aE O (ai rfl)) (aE G (ai ⟨h6,by omega,λ _=>?_⟩));rw [List.drop_eq_nil_of_le O]; simp [bw]
   | succ k ihk=>
    intro i c hi h6 h7;refine aT ?_;simp only [cy];refine ay (decide (0<=c)) (aI O (ai rfl)) (aw (λ h8=>?_) (λ h8=>ai ⟨h6,by omega,λ h=>absurd (by simpa using h) h8⟩));have h8:0<=c:=by simpa using h8
    refine ax O (ax (a8 O O) ?_);refine bI _ (ih _ (Go.Ab.dU O) c (levels-1) h8 h7 O O) (λ q hq=>?_);refine ax (a8 O O) ?_;refine fI (kj (P:=λ j=>Ev2 (λ n m=>cy (dK n) x levels m q j) _) (ihk (i+1) q O hq.1 O)) (λ s hs=>⟨hs.1,by omega,λ h=>?_⟩);rw [bz _ O];have a1:=hs.2.2 h;have a2:=hq.2.2 O;simp only [bw];omega
  refine bI _ (bX (f:=λ n m=>cy (dK n) x levels m (nodes-1) 0) (loop x.Ar.length 0 (nodes-1) O O O)) (λ s hs=>ai ⟨hs.1,by omega,λ h=>?_⟩);have:=hs.2.2 h;rw [bR];simp only [List.drop_zero] at this;omega
theorem Ag {v:aa}(hb:aa.Bd v):bZ v<=100000->Ev2 (λ n _=>dG n v) (λ r=>0<=r/\r<=(bZ v:Int)*9000000000000):=by
 induction hb with
 | @mk x bKind bNum bStr bItems eItems bKeys eKeys ih=>
  intro hn;have hl:=bItems;have hk:=bKeys;unfold ec at hl hk;rw [bR] at hn ⊢;refine ee ?_;simp only [dG]
  have loop:∀ (k i:Nat) (c:Int),i+k=x.Ar.length->0<=c->c+(bw (x.Ar.drop i):Int)*9000000000000<=((1+bw x.Ar:Nat):Int)*9000000000000->Ev2 (λ n m=>cE (dG n) x m c (i:Int)) (λ s=>0<=s/\s<=((1+bw x.Ar:Nat):Int)*9000000000000):=by
   intro k
   induction k with
   | zero=>
    intro i c hi h6 h7;refine aT ?_;simp only [cE];exact aE O (ai ⟨h6,by omega⟩)
   | succ k ihk=>
    intro i c hi h6 h7;have hd:=bz x.Ar (i:=i) O;have hm:lat x.Ar (i:Int)∈x.Ar:=List.mem_of_mem_drop (hd ▸ List.mem_cons_self);have hle:=g8 hm;rw [hd] at h7;simp only [bw] at h7;refine aT ?_;simp only [cE];refine aI O (ax O (bI _ (ih _ hm O) (λ q hq=>?_)));refine ax (a8 O O) (ax (a8 O O) ?_);exact kj (P:=λ j=>Ev2 (λ n m=>cE (dG n) x m (c+q) j) _) (ihk (i+1) (c+q) O O O)
  refine bI _ (bX (f:=λ n m=>cE (dG n) x m (x.AI.length:Int) 0) (loop x.Ar.length 0 (x.AI.length:Int) O O  (by simp only [List.drop_zero]; omega))) (λ s hs=>ai hs)
theorem s8 {v:aa}(hb:aa.Bd v)(nodes:Int)(h1:0<=nodes)(h2:nodes<=100000):Ev2 (λ n _=>iu n v nodes) (λ r=>r=true->(bZ v:Int)<=nodes):=by
 simp only [iu];refine bI (λ r=>r=true->(bZ v:Int)<=nodes) ?_ (λ r hr=>ai hr);refine bI _ (AM hb nodes 40 h1 O (by decide) (by decide)) (λ r hr=>aw (λ h=>?_) (λ h=>ai (λ q=>by cases q)));have:=hr.2.2 h;exact bI _ (Ag hb O) (λ q hq=>ax (a8 O O) (ai (λ _=>by omega)))
def Inc:List Bk->Prop|[]=>True|[_]=>True|x::y::r=>Op.bytesLess x y=true/\Inc (y::r)
structure jz (v:aa):Prop where
 its:v.AT≠4->v.AT≠5->v.Ar=[]
 kys:v.AT≠5->v.AI=[]
 len:v.AT=5->v.AI.length=v.Ar.length
 inc:Inc v.AI
 txt:∀ k∈v.AI,k.length<=4096/\validD k=true
inductive GV:aa->Prop where
 | mk {v:aa} (h:jz v) (l:∀ x∈v.Ar,GV x):GV v
theorem GV.node {v:aa}(h:GV v):jz v:=by cases h; assumption
theorem GV.its {v:aa}(h:GV v):∀ x∈v.Ar,GV x:=by cases h; assumption
theorem tL (s:Bk):Ev2 (λ n _=>fh n s) (λ r=>r=0->s.length<=4096/\validD s=true):=by
 simp only [fh];refine aw (λ h=>ai (λ q=>absurd q (by decide))) (λ h=>?_);refine ay _ (mY s O) (aw (λ h2=>ai (λ q=>absurd q (by decide))) (λ h2=>ai (λ _=>?_)));exact ⟨by omega,by simpa [show s.length<=4096 by omega] using h2⟩
theorem uF (v:aa):Ev2 (λ _ _=>eD v) (λ r=>r=true->(v.AT≠4->v.AT≠5->v.Ar=[])/\(v.AT≠5->v.AI=[])/\(v.AT=5->v.AI.length=v.Ar.length)):=by
 unfold eD;refine bI (λ _=>True) (by repeat' (first|exact ai trivial|refine aw (λ _=>?_) (λ _=>?_))) (λ b1 _=>?_);refine bI (λ _=>True) (by repeat' (first|exact ai trivial|refine aw (λ _=>?_) (λ _=>?_))) (λ b2 _=>?_);refine bI (λ r=>r=true->v.AT≠4->v.AT≠5->v.Ar=[]) (aw (λ h=>ai (λ _ q=>absurd h q)) (λ _=>aw (λ h=>ai (λ _ _ q=>absurd h q)) (λ _=>ai (λ q _ _=>by simpa using q)))) (λ b3 h3=>?_);refine bI (λ r=>r=true->(v.AT≠5->v.AI=[])/\(v.AT=5->v.AI.length=v.Ar.length)) (aw (λ h=>aw (λ q=>ai (λ _=>⟨λ p=>absurd h p,λ _=>by omega⟩)) (λ _=>ai (λ q=>by cases q))) (λ h=>ai (λ q=>⟨λ _=>by simpa using q,λ p=>absurd p h⟩))) (λ b4 h4=>?_);refine bI (λ r=>r=true->b3=true/\b4=true) ?_ (λ b hb=>ai (λ q=>⟨h3 (hb q).1,(h4 (hb q).2).1,(h4 (hb q).2).2⟩));refine aw (λ _=>aw (λ _=>aw (λ _=>aw (λ _=>aw (λ q=>ai (λ p=>⟨q,p⟩)) (λ _=>ai (λ q=>by cases q))) (λ _=>ai (λ q=>by cases q))) (λ _=>ai (λ q=>by cases q))) (λ _=>ai (λ q=>by cases q))) (λ _=>ai (λ q=>by cases q))
theorem zw {x:Bk}{l:List Bk}(h:Inc l)(hx:∀ y∈l.head?,Op.bytesLess x y=true):Inc (x::l):=by
 cases l with
 | nil=>trivial
 | cons y r=>exact ⟨hx y Z,h⟩
theorem sX {v:aa}(hb:aa.Bd v):Ev2 (λ n _=>gi n v) (λ r=>r=0->jz v):=by
 have hk:=hb.bKeys;unfold ec at hk;simp only [gi];refine bI _ (uF v) (λ b hs=>aw (λ _=>ai (λ q=>absurd q (by decide))) (λ h=>?_));obtain ⟨s1,s2,s3⟩:=hs (by simpa using h);refine bI (λ _=>True) (aw (λ _=>bI (λ _=>True) (by unfold gt; repeat' (first|exact ai trivial|refine aw (λ _=>?_) (λ _=>?_)|refine bI (λ _=>True) ?_ (λ _ _=>?_))) (λ _ _=>ai trivial)) (λ _=>ai trivial)) (λ b5 _=>aw (λ _=>ai (λ q=>absurd q (by decide))) (λ _=>?_));refine bI _ (tL v.By) (λ r hr=>aw (λ _=>?_) (λ h=>ai (λ q=>absurd q h)))
 have loop:∀ (k i:Nat),i+k=v.AI.length->Ev2 (λ n m=>bO n v m (i:Int)) (λ r=>(∀ e,r=.inr e->e≠0)/\(r=.inl ()->Inc (v.AI.drop i)/\(0<i->∀ y∈(v.AI.drop i).head?,Op.bytesLess (lat v.AI ((i:Int)-1)) y=true)/\∀ k∈v.AI.drop i,k.length<=4096/\validD k=true)):=by
  intro k
  induction k with
  | zero=>
   intro i hi;refine aT ?_;simp only [bO];refine aE O (ai ⟨λ e q=>(by cases q),λ _=>?_⟩);rw [List.drop_eq_nil_of_le O];exact ⟨trivial,λ _ y hy=>(by cases hy),λ k hk=>(by cases hk)⟩
  | succ k ih=>
   intro i hi;refine aT ?_;simp only [bO];refine aI O (ax O (bI _ (tL _) (λ r hr=>aw (λ h0=>?_) (λ h0=>ai ⟨λ e q=>(by cases q; exact h0),λ q=>(by cases q)⟩))));refine bI (λ t=>t=false->0<i->Op.bytesLess (lat v.AI ((i:Int)-1)) (lat v.AI (i:Int))=true) (aw (λ h1=>ax (a8 O O) (ax O (ax O (ai (λ q _=>by simpa using q))))) (λ h1=>ai (λ _ q=>absurd q O))) (λ t ht=>aw (λ _=>ai ⟨λ e q=>(by cases q; decide),λ q=>(by cases q)⟩) (λ h1=>?_));refine ax (a8 O O) ?_;refine fI (kj (P:=λ j=>Ev2 (λ n m=>bO n v m j) _) (ih (i+1) O)) (λ r hr2=>⟨hr2.1,λ q=>?_⟩);obtain ⟨a1,a2,a3⟩:=hr2.2 q;rw [bz _ O];refine ⟨zw a1 (λ y hy=>?_),λ h y hy=>?_,λ y hy=>?_⟩
   ·have:=a2 O y hy
    rwa [show ((i+1:Nat):Int)-1=(i:Int) by omega] at this
   ·cases hy; exact ht (by simpa using h1) h
   ·rcases ro.1 hy with rfl|hy
    ·exact hr h0
    ·exact a3 y hy
 obtain ⟨r,hr1,N,hN⟩:=bX (f:=λ n m=>bO n v m 0) (loop v.AI.length 0 O)
 cases r with
 | inl u=>
  obtain ⟨a1,_,a3⟩:=hr1.2 rfl;exact eA () ⟨.inl (),rfl,N,hN⟩ (ai (λ _=>⟨s1,s2,s3,by simpa using a1,by simpa using a3⟩))
 | inr e=>exact fP e ⟨.inr e,Z,N,hN⟩ (λ q=>absurd q (hr1.1 e Z))
theorem w8 {v:aa}(hb:aa.Bd v):∀ (level before:Int),0<=level->level<=33->0<=before->before<=4096->Ev2 (λ n _=>bW n v level before) (λ r=>0<=r.2/\r.2<=4096/\(r.1=0->GV v)):=by
 have hb0:=hb
 induction hb with
 | @mk x bKind bNum bStr bItems eItems bKeys eKeys ih=>
  intro level before h1 h2 h3 h4;have hl:=bItems;unfold ec at hl;refine ee ?_;simp only [bW];refine aw (λ _=>ai ⟨h3,h4,λ q=>absurd (Int.ofNat.inj q) (by decide)⟩) (λ h5=>aw (λ _=>ai ⟨h3,h4,λ q=>absurd (Int.ofNat.inj q) (by decide)⟩) (λ h6=>?_));refine bI _ (sX hb0) (λ r hr=>aw (λ h0=>?_) (λ h0=>ai ⟨h3,h4,λ q=>absurd q h0⟩));have hnode:=hr h0;refine ax (a8 O O) ?_
  have loop:∀ (k i:Nat) (c:Int),i+k=x.Ar.length->0<=c->c<=4096->Ev2 (λ n m=>bH (bW n) x level m c (i:Int)) (λ r=>(∀ e,r=.inr e->0<=e.2/\e.2<=4096/\e.1≠0)/\(∀ c',r=.inl c'->0<=c'/\c'<=4096/\∀ y∈x.Ar.drop i,GV y)):=by
   intro k
   induction k with
   | zero=>
    intro i c hi h7 h8;refine aT ?_;simp only [bH];refine aE O (ai ⟨λ e q=>(by cases q),λ c' q=>?_⟩)
    cases q
    rw [List.drop_eq_nil_of_le O];exact ⟨h7,h8,λ y hy=>by cases hy⟩
   | succ k ihk=>
    intro i c hi h7 h8;have hd:=bz x.Ar (i:=i) O;have hm:lat x.Ar (i:Int)∈x.Ar:=List.mem_of_mem_drop (hd ▸ List.mem_cons_self);refine aT ?_;simp only [bH];refine aI O (ax O (ax (a8 O O) (bI _ (ih _ hm (eItems _ hm) (level+1) c O O  h7 h8) (λ q hq=>aw (λ hq0=>?_) (λ hq0=>ai ⟨λ e p=>(by cases p; exact ⟨hq.1,hq.2.1,hq0⟩),λ c' p=>(by cases p)⟩)))));refine ax (a8 O O) ?_;refine fI (kj (P:=λ j=>Ev2 (λ n m=>bH (bW n) x level m q.2 j) _) (ihk (i+1) q.2 O hq.1 hq.2.1)) (λ r hr2=>⟨hr2.1,λ c' p=>?_⟩);obtain ⟨a1,a2,a3⟩:=hr2.2 c' p;rw [hd];refine ⟨a1,a2,λ y hy=>?_⟩;rcases ro.1 hy with rfl|hy
    ·exact hq.2.2 hq0
    ·exact a3 y hy
  obtain ⟨r,hr1,N,hN⟩:=bX (f:=λ n m=>bH (bW n) x level m (before+1) 0) (loop x.Ar.length 0 (before+1) O O O)
  cases r with
  | inl c=>
   obtain ⟨a1,a2,a3⟩:=hr1.2 c rfl;exact eA c ⟨.inl c,rfl,N,hN⟩ (ai ⟨a1,a2,λ _=>.mk hnode (by simpa using a3)⟩)
  | inr e=>
   obtain ⟨a1,a2,a3⟩:=hr1.1 e rfl;exact fP e ⟨.inr e,rfl,N,hN⟩ ⟨a1,a2,λ q=>absurd q a3⟩
theorem wP {v:aa}(hb:aa.Bd v):Ev2 (λ n _=>ey n v) (λ r=>r=0->GV v):=by
 simp only [ey];exact bI _ (w8 hb 1 0 (by decide) (by decide) (by decide) (by decide)) (λ r hr=>ai hr.2.2)
theorem ul {v:aa}(hb:aa.Bd v):Ev2 (λ n _=>cL n v) (λ r=>r=true->GV v/\bZ v<=200):=by
 simp only [cL];refine bI (λ r=>r=true->GV v/\bZ v<=200) ?_ (λ r hr=>ai hr);refine bI _ (s8 hb 200 (by decide) (by decide)) (λ r hr=>aw (λ h=>?_) (λ _=>ai (λ q=>by cases q)));refine bI _ (wP hb) (λ q hq=>ai (λ p=>⟨hq (of_decide_eq_true p),by have:=hr h; omega⟩))
def gL (k:Int)(ks:List Bk)(i:Nat):ac:=if k=5 then ac.mk false 0 (lat ks (i:Int)) else ac.mk true (i:Int) []
mutual
def lvs:aa->List ac->List (List ac)|.mk k _ _ l ks,p=>if l.isEmpty then [p] else sC k ks 0 l p
def sC (k:Int)(ks:List Bk):Nat->List aa->List ac->List (List ac)|_,[],_=>[]|i,x::r,p=>lvs x (p++[gL k ks i])++sC k ks (i+1) r p
end
theorem zF (v:aa)(p:List ac):lvs v p=if v.Ar.isEmpty then [p] else sC v.AT v.AI 0 v.Ar p:=by cases v; simp only [lvs,aa.Ar,aa.AT,aa.AI]; rfl
def pM (a b:aa):Bool:=decide (a.AT=b.AT)&&(decide (a.AT=4)||decide (a.AT=5))&&decide (a.Ar.length=b.Ar.length)&&bK eqS a.AI b.AI
mutual
def dfs:aa->aa->List ac->List (List ac)|.mk k n s l ks,b,p=>if eqV (.mk k n s l ks) b then [] else if pM (.mk k n s l ks) b then gP k ks 0 l b.Ar p else [p]
def gP (k:Int)(ks:List Bk):Nat->List aa->List aa->List ac->List (List ac)|i,x::r,y::q,p=>dfs x y (p++[gL k ks i])++gP k ks (i+1) r q p|_,_,_,_=>[]
end
theorem lO (a b:aa)(p:List ac):dfs a b p=if eqV a b then [] else if pM a b then gP a.AT a.AI 0 a.Ar b.Ar p else [p]:=by cases a; simp only [dfs,aa.Ar,aa.AT,aa.AI]
theorem vQ:∀ (N:Nat) (v:aa) (p:List ac),bZ v<=N->(lvs v p).length<=bZ v
 | 0,v,p,h=>absurd h (by rw [bR]; omega)
 | N+1,v,p,h=>by
  rw [bR] at h ⊢;rw [zF];split
  ·simp
  ·have:∀ (l:List aa) (i:Nat),bw l<=N->(sC v.AT v.AI i l p).length<=bw l:=by
    intro l
    induction l with
    | nil=>intro i _; simp [sC]
    | cons x r ih=>
     intro i hl;simp only [bw] at hl;have:=vQ N x (p++[gL v.AT v.AI i]) O;have:=ih (i+1) O;simp only [sC,bw,n8]; omega
   have:=this v.Ar 0 O;omega
theorem rE:∀ (N:Nat) (v w:aa) (p:List ac),bZ v<=N->(dfs v w p).length<=bZ v
 | 0,v,w,p,h=>absurd h (by rw [bR]; omega)
 | N+1,v,w,p,h=>by
  rw [bR] at h ⊢;rw [lO];split
  ·simp
  ·split
   ·have:∀ (l q:List aa) (i:Nat),bw l<=N->(gP v.AT v.AI i l q p).length<=bw l:=by
     intro l
     induction l with
     | nil=>intro q i _; simp [gP]
     | cons x r ih=>
      intro q i hl;simp only [bw] at hl
      cases q with
      | nil=>simp [gP]
      | cons y q=>
       have:=rE N x y (p++[gL v.AT v.AI i]) O;have:=ih q (i+1) O;simp only [gP,bw,n8]; omega
    have:=this v.Ar w.Ar 0 O;omega
   ·simp
theorem mf (p:List ac)(h:p.length<=1000000):bh p=some p:=by
 unfold bh;exact dX O
theorem uh {v:aa}(hv:jz v)(p:List ac)(hp:p.length<=100000){i:Nat}(hi:i<v.Ar.length):Ev2 (λ _ _=>g5 p v (i:Int)) (·=p++[gL v.AT v.AI i]):=by
 simp only [g5];by_cases h5:v.AT=5
 ·have:=hv.len h5;rw [show gL v.AT v.AI i=ac.mk false 0 (lat v.AI (i:Int)) by unfold gL; rw [if_pos h5]];refine ay (false,0,lat v.AI (i:Int)) (aI h5 (ax O (ai Z))) ?_;exact ay _ (da (mf p O) Z) (ax (by simp only [d4,List.length_nil]; omega) (ai Z))
 ·rw [show gL v.AT v.AI i=ac.mk true (i:Int) [] by unfold gL; rw [if_neg h5]];refine ay (true,(i:Int),[]) (aE h5 (ai rfl)) ?_;exact ay _ (da (mf p O) rfl) (ax (by simp only [d4,List.length_nil]; omega) (ai rfl))
theorem kB {v x:aa}(h:x∈v.Ar):bZ x<bZ v:=by
 have:=g8 h;rw [bR v]; omega
theorem isE {α:Type}(l:List α):l.isEmpty=true↔l.length=0:=by cases l <;> simp
theorem Ca {v:aa}(hv:GV v):∀ (p:List ac),p.length+bZ v<=1000->Ev2 (λ n _=>gp n p v) (·=lvs v p):=by
 induction hv with
 | @mk v hn hl ih=>
  intro p hp;have CE:=jv v.Ar;have CQ:=bR v;refine ee ?_;simp only [gp];rw [zF];refine aw (λ h=>?_) (λ h=>?_)
  ·rw [if_pos ((isE _).2 O)];exact ay _ (da (mf p O) rfl) (ai rfl)
  ·rw [if_neg (λ q=>h (by have:=(isE _).1 q; omega))]
   have loop:∀ (k i:Nat) (o:List (List ac)),i+k=v.Ar.length->o.length+bw (v.Ar.drop i)<=1000->Ev2 (λ n m=>dO (gp n) p v m o (i:Int)) (·=o++sC v.AT v.AI i (v.Ar.drop i) p):=by
    intro k
    induction k with
    | zero=>
     intro i o hi ho;refine aT ?_;simp only [dO];refine aE O (ai ?_);rw [List.drop_eq_nil_of_le O]; simp [sC]
    | succ k ihk=>
     intro i o hi ho;have hd:=bz v.Ar (i:=i) O;have hm:lat v.Ar (i:Int)∈v.Ar:=List.mem_of_mem_drop (hd ▸ List.mem_cons_self);have hc:=kB hm;have hll:=vQ _ (lat v.Ar (i:Int)) (p++[gL v.AT v.AI i]) (bt _);rw [hd] at ho ⊢;simp only [bw] at ho;refine aT ?_;simp only [dO,sC];refine aI O (ax O (ay _ (uh hn p O O) (ay _ (ih _ hm _ (by simp only [n8,d4,List.length_nil]; omega)) (ax O (ax (a8 O O) ?_)))));have:=kj (P:=λ j=>Ev2 (λ n m=>dO (gp n) p v m (o++lvs (lat v.Ar (i:Int)) (p++[gL v.AT v.AI i])) j) _) (ihk (i+1) (o++lvs (lat v.Ar (i:Int)) (p++[gL v.AT v.AI i])) O (by rw [n8]; omega));rw [<- List.append_assoc]; exact this
   refine ay _ (bX (f:=λ n m=>dO (gp n) p v m [] 0) (loop v.Ar.length 0 [] O (by simp only [List.length_nil,List.drop_zero]; omega))) (ai G)
theorem Bh {a:aa}(ha:aa.Bd a)(b:aa):Ev2 (λ n _=>
  if a.AT=b.AT then
   if a.AT=4 then
   if (a.Ar.length:Int)=(b.Ar.length:Int) then
    (bo n a.AI b.AI).bind λ r7=>
    some r7
   else
    some false
   else
   if a.AT=5 then
    if (a.Ar.length:Int)=(b.Ar.length:Int) then
    (bo n a.AI b.AI).bind λ D2=>
    some D2
    else
    some false
   else
    some false
  else
   some false) (·=pM a b):=by
 unfold pM;refine aw (λ h1=>aw (λ h4=>aw (λ hl=>?_) (λ hl=>ai ?_)) (λ h4=>aw (λ h5=>aw (λ hl=>?_) (λ hl=>ai ?_)) (λ h5=>ai ?_))) (λ h1=>ai ?_)
 ·have hl:a.Ar.length=b.Ar.length:=by omega
  exact ay _ (uO _ _ ha.bKeys) (ai (by simp [h1 ▸ h4,h1,hl]))
 ·have hl:¬ a.Ar.length=b.Ar.length:=by omega
  simp [hl]
 ·have hl:a.Ar.length=b.Ar.length:=by omega
  exact ay _ (uO _ _ ha.bKeys) (ai (by simp [h1 ▸ h5,h1,hl]))
 ·have hl:¬ a.Ar.length=b.Ar.length:=by omega
  simp [hl]
 ·simp [h4,h5]
 ·simp [h1]
theorem AD {a b:aa}(h:pM a b=true):a.Ar.length=b.Ar.length:=by
 unfold pM at h;simp only [n7,decide_eq_true_eq] at h;exact h.1.2
theorem zr {a:aa}(ha:GV a):aa.Bd a->∀ (b:aa) (p:List ac),p.length+bZ a<=1000->Ev2 (λ n _=>bT n p a b) (·=dfs a b p):=by
 induction ha with
 | @mk v hn hl ih=>
  intro hb w p hp;have CE:=jv v.Ar;have CQ:=bR v;refine ee ?_;simp only [bT];rw [lO];refine ay _ (kd hb w) (aw (λ h=>ai (by rw [if_pos h])) (λ h=>?_));rw [if_neg h];refine ay _ (Bh hb w) (aw (λ h2=>?_) (λ h2=>?_))
  ·rw [if_neg (by rw [nt h2]; decide)];exact ay _ (da (mf p O) rfl) (ai rfl)
  ·have h2:=nf h2;have hw:=AD h2;rw [if_pos h2]
   have loop:∀ (k i:Nat) (o:List (List ac)),i+k=v.Ar.length->o.length+bw (v.Ar.drop i)<=1000->Ev2 (λ n m=>bL (bT n) p v w m o (i:Int)) (·=o++gP v.AT v.AI i (v.Ar.drop i) (w.Ar.drop i) p):=by
    intro k
    induction k with
    | zero=>
     intro i o hi ho;refine aT ?_;simp only [bL];refine aE O (ai ?_);rw [List.drop_eq_nil_of_le O]; simp [gP]
    | succ k ihk=>
     intro i o hi ho;have hd:=bz v.Ar (i:=i) O;have hd2:=bz w.Ar (i:=i) O;have hm:lat v.Ar (i:Int)∈v.Ar:=List.mem_of_mem_drop (hd ▸ List.mem_cons_self);have hc:=kB hm;have hll:=rE _ (lat v.Ar (i:Int)) (lat w.Ar (i:Int)) (p++[gL v.AT v.AI i]) (bt _);rw [hd] at ho;rw [hd,hd2];simp only [bw] at ho;refine aT ?_;simp only [bL,gP];refine aI O (ay _ (uh hn p O O) (ax O (ax O (ay _ (ih _ hm (hb.eItems _ hm) _ _ (by simp only [n8,d4,List.length_nil]; omega)) (ax O (ax (a8 O O) ?_))))));have:=kj (P:=λ j=>Ev2 (λ n m=>bL (bT n) p v w m (o++dfs (lat v.Ar (i:Int)) (lat w.Ar (i:Int)) (p++[gL v.AT v.AI i])) j) _) (ihk (i+1) (o++dfs (lat v.Ar (i:Int)) (lat w.Ar (i:Int)) (p++[gL v.AT v.AI i])) O (by rw [n8]; omega));rw [<- List.append_assoc]; exact this
   refine ay _ (bX (f:=λ n m=>bL (bT n) p v w m [] 0) (loop v.Ar.length 0 [] O (by simp only [List.length_nil,List.drop_zero]; omega))) (ai G)
end Go.Ab.R06
end
section
namespace Go.Ab.R06
open Go.Proofs Go.Ab Go.Ab.RB
attribute [local irreducible] awp ea aO au bs AV.sub M bY
end Go.Ab.R06
end
section
namespace Go.Ab.R06
open Go.Ab Go.Ab.RB Go.Lib
theorem jk:∀ a:Bk,Op.bytesLess a a=false
 | []=>rfl
 | a::x=>by simp [Op.bytesLess,jk x]
theorem q7:∀ {a b c:Bk},Op.bytesLess a b=true->Op.bytesLess b c=true->Op.bytesLess a c=true
 | _,[],_,h,_=>by simp [Op.bytesLess] at h
 | _,_::_,[],_,h=>by simp [Op.bytesLess] at h
 | [],_::_,_::_,_,_=>rfl
 | a::x,b::y,c::z,h1,h2=>by
  simp only [Op.bytesLess,Bool.or_eq_true,n7,decide_eq_true_eq,beq_iff_eq] at h1 h2 ⊢;rcases h1 with h1|⟨rfl,h1⟩
  ·rcases h2 with h2|⟨rfl,h2⟩
   ·exact .inl (UInt8.lt_trans h1 h2)
   ·exact .inl h1
  ·rcases h2 with h2|⟨rfl,h2⟩
   ·exact .inl h2
   ·exact .inr ⟨Z,q7 h1 h2⟩
theorem yW:∀ a b:Bk,Op.bytesLess a b=true\/a=b\/Op.bytesLess b a=true
 | [],[]=>.inr (.inl Z)
 | [],_::_=>.inl Z
 | _::_,[]=>.inr (.inr Z)
 | a::x,b::y=>by
  simp only [Op.bytesLess,Bool.or_eq_true,n7,decide_eq_true_eq,beq_iff_eq,List.cons.injEq];rcases Nat.lt_trichotomy a.toNat b.toNat with h|h|h
  ·exact .inl (.inl (UInt8.lt_iff_toNat_lt.2 h))
  ·have e:a=b:=UInt8.toNat_inj.1 h;subst e;rcases yW x y with h|h|h
   ·exact .inl (.inr ⟨Z,h⟩)
   ·exact .inr (.inl ⟨Z,h⟩)
   ·exact .inr (.inr (.inr ⟨Z,h⟩))
  ·exact .inr (.inr (.inl (UInt8.lt_iff_toNat_lt.2 h)))
theorem nc:∀ {l:List Bk},Inc l->l.Pairwise λ a b=>Op.bytesLess a b=true
 | [],_=>.nil
 | [x],_=>List.pairwise_singleton _ _
 | x::y::r,h=>by
  have ih:=nc h.2;refine List.pairwise_cons.2 ⟨λ z hz=>?_,ih⟩;rcases ro.1 hz with rfl|hz
  ·exact h.1
  ·exact q7 h.1 ((List.pairwise_cons.1 ih).1 z hz)
theorem rY {l:List Bk}(h:Inc l){i j:Nat}(hij:i<j)(hj:j<l.length):Op.bytesLess (lat l (i:Int)) (lat l (j:Int))=true:=by
 have:=List.pairwise_iff_getElem.1 (nc h) i j O hj hij;rw [cY _ _ (show i<l.length by omega),cY _ _ hj]; exact this
theorem yH (i j:Nat)(h:i+j<9223372036854775807):dF .u64 (IntKind.wrap .u64 ((i:Int)+(j:Int))) 1=(((i+j) / 2:Nat):Int):=by
 have e:IntKind.wrap .u64 ((i:Int)+(j:Int))=(i:Int)+(j:Int):=by
  simp [IntKind.wrap,IntKind.bits,IntKind.signed];omega
 rw [e];unfold dF;have:(2:Int)^(min (1:Int).toNat IntKind.u64.bits)=2:=by decide
 rw [this,Int.fdiv_eq_ediv_of_nonneg _ (by decide)];omega
theorem ov (x y:Bk):cmp_Less_string x y=some (Op.bytesLess x y):=by
 unfold cmp_Less_string cmp_isNaN_string;simp
theorem Ba {l:List Bk}(hl:l.length<=1000000000000000)(h:Inc l){t:Nat}(ht:t<l.length):Ev2 (λ n _=>aW n l (lat l (t:Int))) (·=((t:Int),true)):=by
 simp only [aW]
 have loop:∀ (k i j:Nat),j-i<=k->i<=t->t<=j->j<=l.length->Ev2 (λ _ m=>az l (lat l (t:Int)) m (i:Int) (j:Int)) (·=(t:Int)):=by
  intro k
  induction k with
  | zero=>
   intro i j hk h1 h2 h3;refine aT ?_;simp only [az];exact aE O (ai O)
  | succ k ih=>
   intro i j hk h1 h2 h3;refine aT ?_;simp only [az];rw [yH i j O];refine aw (λ hij=>?_) (λ hij=>ai O);by_cases hm:(i+j) / 2<t
   ·refine ay ((((i+j) / 2+1:Nat):Int),(j:Int)) ?_ (ih _ j O O  h2 h3);refine ax (a8 O O) (ax (by decide) (ax (a8 O O) (ax O (ay _ (da (ov _ _) Z) (aI (rY h hm ht) (ax (a8 O O) (ai ?_)))))));rw [Int.natCast_add]; rfl
   ·have hf:Op.bytesLess (lat l (((i+j) / 2:Nat):Int)) (lat l (t:Int))=false:=by
     rw [<- Bool.not_eq_true];intro q;rcases Nat.lt_or_ge t ((i+j) / 2) with h4|h4
     ·have:=q7 (rY h h4 O) q;rw [jk] at this; cases this
     ·have:(i+j) / 2=t:=by omega
      rw [this,jk] at q; cases q
    refine ay ((i:Int),(((i+j) / 2:Nat):Int)) ?_ (ih i _ O h1 O O);exact ax (a8 O O) (ax (by decide) (ax (a8 O O) (ax O (ay _ (da (ov _ _) Z) (aE (by rw [hf]; decide) (ai Z))))))
 refine ay _ (bX (f:=λ _ m=>az l (lat l (t:Int)) m 0 (l.length:Int)) (loop l.length 0 l.length O O O O)) ?_;exact ay true (aI O (ax O (aI Z (ai Z)))) (ai Z)
theorem vK {v y:aa}(h:y∈v.Ar):SizeOf.sizeOf y<SizeOf.sizeOf v:=by
 cases v
 simp only [aa.Ar] at h;have:=List.sizeOf_lt_of_mem h;simp only [aa.mk.sizeOf_spec];omega
theorem tP {α:Type} [Inhabited α] (l:List α)(i:Nat)(h:i<l.length):l.set i l[i]=l:=by
 apply List.ext_getElem G;intro j h1 h2;rw [List.getElem_set];split
 ·rename_i e; subst e; rfl
 ·rfl
theorem nj:∀ (N:Nat) (v:aa),SizeOf.sizeOf v<N->aa.Bd v->Ev2 (λ n _=>bu n v) (·=v):=by
 have hW:ec<=140737488355328:=by decide
 intro N
 induction N with
 | zero=>intro v h; omega
 | succ N ih=>
  intro v hv hb;have h1:=hb.bKeys; have h2:=hb.bItems;refine ee ?_;simp only [bu];refine ax O (aw (λ h=>?_) (λ h=>ax O ?_))
  ·have he:v.Ar=[]:=by simpa using h
   refine ay () ?_ (ai (by cases v; simp only [aa.Ar] at he; subst he; rfl));refine bX (f:=λ n m=>ef (bu n) m) (aT ?_);simp only [ef];exact aE G (ai (by trivial))
  ·have loop:∀ (k i:Nat),i+k=v.Ar.length->Ev2 (λ n m=>bC (bu n) v m (i:Int) v.Ar) (·=v.Ar):=by
    intro k
    induction k with
    | zero=>
     intro i hi;refine aT ?_;simp only [bC];exact aE O (ai rfl)
    | succ k ihk=>
     intro i hi;have hil:i<v.Ar.length:=by omega
     refine aT ?_;simp only [bC];refine aI O (ax O ?_);rw [cY _ _ hil];have hmem:=List.getElem_mem hil;refine ay _ (ih _ (by have:=vK hmem; omega) (hb.eItems _ hmem)) (ax O (ax (a8 O O) ?_));rw [Int.toNat_natCast,tP _ _ hil];have:=ihk (i+1) O;rw [Int.natCast_add,Int.natCast_one] at this;exact this
   exact ay _ (bX (f:=λ n m=>bC (bu n) v m 0 v.Ar) (loop _ 0 (rd _))) (ai (aa.eta v))
theorem Ap {v:aa}(hv:jz v)(hk:v.AI.length<=1000000000000000){i:Nat}(hi:i<v.Ar.length):Ev2 (λ n _=>dZ n v (gL v.AT v.AI i)) (·=((i:Int),0)):=by
 have h45:v.AT=4\/v.AT=5:=by
  by_cases h4:v.AT=4
  ·exact .inl h4
  ·by_cases h5:v.AT=5
   ·exact .inr h5
   ·have:=hv.its h4 h5; rw [this] at hi; simp at hi
 simp only [dZ];rcases h45 with h4|h5
 ·have e:gL v.AT v.AI i=ac.mk true (i:Int) []:=by unfold gL; rw [if_neg O]
  rw [e];refine aE O (ay false (aI rfl (aI h4 (aE G (ai rfl)))) (aE G (aI rfl (aE (by simp only; omega) (ai rfl)))))
 ·have e:gL v.AT v.AI i=ac.mk false 0 (lat v.AI (i:Int)):=by unfold gL; rw [if_pos h5]
  have CE:=hv.len h5;rw [e];refine aE O (ay false (aE G (aI Z (ai (by simp [h5])))) (aE G (aE G ?_)));exact ay _ (Ba hk hv.inc (t:=i) O) (aE G (ai Z))
theorem zp {v:aa}(hv:jz v){i j:Nat}(hi:i<v.Ar.length)(hj:j<v.Ar.length)(h:gL v.AT v.AI i=gL v.AT v.AI j):i=j:=by
 unfold gL at h;split at h
 ·rename_i h5;have hl:=hv.len h5
  injection h with _ _ h3
  rcases Nat.lt_trichotomy i j with q|q|q
  ·have:=rY hv.inc q O; rw [h3,jk] at this; cases this
  ·exact q
  ·have:=rY hv.inc q O; rw [h3,jk] at this; cases this
 ·injection h with _ h2 _
  omega
theorem vp (a b:ac):(a.Cu=b.Cu/\a.A'=b.A'/\a.BY=b.BY)↔a=b:=by
 constructor
 ·intro h;obtain ⟨x,y,z⟩:=a;obtain ⟨x',y',z'⟩:=b;simp only at h;rw [h.1,h.2.1,h.2.2]
 ·rintro rfl; exact ⟨rfl,rfl,rfl⟩
theorem xY (a b:List ac)(ha:a.length<=1000000000000000):Ev2 (λ n _=>fg n a b) (·=true->a=b):=by
 simp only [fg];refine aw (λ hl=>?_) (λ _=>ai (λ q=>by cases q))
 have loop:∀ (k i:Nat),i+k=a.length->Ev2 (λ _ m=>bP a b m (i:Int)) (λ r=>(∀ e,r=.inr e->e=false)/\(r=.inl ()->a.drop i=b.drop i)):=by
  intro k
  induction k with
  | zero=>
   intro i hi;refine aT ?_;simp only [bP];refine aE O (ai ⟨λ e q=>(by cases q),λ _=>?_⟩);rw [List.drop_eq_nil_of_le O,List.drop_eq_nil_of_le O]
  | succ k ih=>
   intro i hi;refine aT ?_;simp only [bP];refine aI O (ax O (ax O (aw (λ h=>ax (a8 O O) ?_) (λ h=>ai ⟨λ e q=>(by cases q; rfl),λ q=>(by cases q)⟩))));refine fI (kj (P:=λ j=>Ev2 (λ _ m=>bP a b m j) _) (ih (i+1) O)) (λ r hr=>⟨hr.1,λ q=>?_⟩);rw [vo a O,vo b O,hr.2 q,(vp _ _).1 h]
 obtain ⟨r,hr,N,hN⟩:=bX (f:=λ _ m=>bP a b m 0) (loop a.length 0 O)
 cases r with
 | inl u=>exact eA () ⟨.inl (),Z,N,hN⟩ (ai (λ _=>by simpa using hr.2 Z))
 | inr e=>exact fP e ⟨.inr e,rfl,N,hN⟩ (λ q=>by have:=hr.1 e rfl; rw [this] at q; cases q)
theorem yb {α:Type}{f:Nat->Nat->Option α}{P:α->Prop}{r:α}(h:Ev2 f P)(e:Ev2 f (·=r)):P r:=by
 obtain ⟨r',h1,h2,_⟩:=Ax h e;exact h2 ▸ h1
theorem ju {σ ρ:Type}(F:Nat->Nat->Int->σ->Option ρ)(len:Nat)(I:Nat->σ->Prop){P:ρ->Prop}
  (step:∀ (i:Nat) (s:σ),i<len->I i s->(∀ s',I (i+1) s'->Ev2 (λ n m=>F n m ((i:Int)+1) s') P)->Ev2 (λ n m=>F n (m+1) (i:Int) s) P)
  (fin:∀ s,I len s->Ev2 (λ n m=>F n (m+1) (len:Int) s) P):∀ (s:σ),I 0 s->Ev2 (λ n m=>F n m 0 s) P:=by
 have loop:∀ (k i:Nat) (s:σ),i+k=len->I i s->Ev2 (λ n m=>F n m (i:Int) s) P:=by
  intro k
  induction k with
  | zero=>
   intro i s hi h;obtain rfl:i=len:=by omega
   exact aT (fin s h)
  | succ k ih=>
   intro i s hi h;exact aT (step i s O h (λ s' h'=>kj (P:=λ j=>Ev2 (λ n m=>F n m j s') P) (ih (i+1) s' O h')))
 exact λ s h=>loop len 0 s O h
def txE (s:Bk):Int:=if 4096<s.length then 3 else if validD s then 0 else 1
theorem yV (s:Bk):Ev2 (λ _ _=>ib s) (·=txE s):=by
 unfold ib txE;refine aw (λ h=>ai (by rw [if_pos O])) (λ h=>ay _ (da (zl s) Z) ?_);have h1:s.length<=4096:=by omega
 have e:(if 4096<s.length then (3:Int) else if validD s=true then 0 else 1)=if validD s=true then 0 else 1:=if_neg O;rw [e]
 cases hv:validD s
 ·exact aI G (ai Z)
 ·exact aE (by simp [h1]) (ai Z)
theorem wg (s:Bk):Ev2 (λ n _=>fh n s) (·=txE s):=by
 unfold fh txE;refine aw (λ h=>ai (by rw [if_pos O])) (λ h=>ay _ (mY s O) ?_);have h1:s.length<=4096:=by omega
 have e:(if 4096<s.length then (3:Int) else if validD s=true then 0 else 1)=if validD s=true then 0 else 1:=if_neg O;rw [e]
 cases hv:validD s
 ·exact aI G (ai Z)
 ·exact aE (by simp [h1]) (ai Z)
theorem wF:txE []=0:=by decide
def shB (v:aa):Bool:=decide (0<=v.AT/\v.AT<=6/\(v.AT=1->v.A'=0\/v.A'=1)/\(v.AT≠1->v.AT≠2->v.A'=0)/\(v.AT≠3->v.By=[])/\(v.AT≠4->v.AT≠5->v.Ar.length=0)/\(v.AT=5->v.AI.length=v.Ar.length)/\(v.AT≠5->v.AI.length=0))
theorem kinds (k:Int):k<0\/6<k\/k=0\/k=1\/k=2\/k=3\/k=4\/k=5\/k=6:=by omega
theorem wV (v:aa):gI v=some (shB v):=by
 unfold gI shB jn;generalize hk:v.AT=k;generalize v.A'=x;generalize v.By=s;generalize v.Ar.length=a;generalize v.AI.length=b;rcases kinds k with h|h|rfl|rfl|rfl|rfl|rfl|rfl|rfl
 ·have h2:¬ 0<=k:=by omega
  simp [h,h2]
 ·have h2:¬ k<0:=by omega
  have h3:¬ k<=6:=by omega
  simp [h,h2,h3]
 all_goals by_cases h1:x=0 <;> by_cases h2:s=[] <;> by_cases h3:a=0 <;> by_cases h4:b=0 <;> simp [h1,h2,h3,h4]
 all_goals first|omega|(by_cases h5:x=1 <;> simp [h5] <;> omega)|(by_cases h5:x=1 <;> simp [h5])
theorem ve (v:aa):eD v=some (shB v):=by
 unfold eD shB;generalize hk:v.AT=k;generalize v.A'=x;generalize v.By=s;generalize v.Ar.length=a;generalize v.AI.length=b;have e:((b:Int)=(a:Int))=(b=a):=propext O;rcases kinds k with h|h|rfl|rfl|rfl|rfl|rfl|rfl|rfl
 ·have h2:¬ 0<=k:=by omega
  have e1:k≠1:=by omega
  have e2:k≠2:=by omega
  have e3:k≠3:=by omega
  have e4:k≠4:=by omega
  have e5:k≠5:=by omega
  simp [h2,e1,e2,e3,e4,e5]
 ·have h3:¬ k<=6:=by omega
  have e1:k≠1:=by omega
  have e2:k≠2:=by omega
  have e3:k≠3:=by omega
  have e4:k≠4:=by omega
  have e5:k≠5:=by omega
  simp [h3,e1,e2,e3,e4,e5]
 all_goals by_cases h1:x=0 <;> by_cases h2:s=[] <;> by_cases h3:a=0 <;> by_cases h4:b=0 <;> by_cases h6:b=a <;> simp [e,h1,h2,h3,h4,h6]
 all_goals first|omega|(by_cases h5:x=1 <;> simp [h5] <;> omega)|(by_cases h5:x=1 <;> simp [h5]; done)|(have h8:¬ (0:Int)=(a:Int):=O; have h9:¬ 0=a:=O; simp [h8,h9])
def ksE:Option Bk->List Bk->Int
 | _,[]=>0
 | p,k::r=>if txE k≠0 then txE k else if (match p with|some q=>!Op.bytesLess q k|none=>false)=true then 1 else ksE (some k) r
def kf (ks:List Bk)(i:Nat):Option Bk:=if i=0 then none else some (lat ks ((i:Int)-1))
theorem ya (a b:Bk):(Op.bytesLess a b||decide (a=b))=!Op.bytesLess b a:=by
 rcases yW a b with h|h|h
 ·have:Op.bytesLess b a=false:=by
   rw [<- Bool.not_eq_true]; intro q;have:=q7 h q; rw [jk] at this; cases this
  rw [h,this]; rfl
 ·subst h; rw [jk]; simp
 ·have h2:Op.bytesLess a b=false:=by
   rw [<- Bool.not_eq_true]; intro q;have:=q7 h q; rw [jk] at this; cases this
  have h3:a≠b:=λ e=>by subst e; rw [jk] at h; cases h
  rw [h,h2,decide_eq_false h3]; rfl
theorem x9 (v:aa)(hk:v.AI.length<=1000000000000000):Ev2 (λ _ m=>cD v m 0) (·=if ksE none v.AI=0 then .inl () else .inr (.inr (ksE none v.AI))):=by
 refine ju (λ _ m i (_:Unit)=>cD v m i) v.AI.length (λ i _=>ksE none v.AI=ksE (kf v.AI i) (v.AI.drop i)) (λ i _ hi hI k=>?_) (λ _ hI=>?_) () (by simp [kf])
 ·simp only [cD];rw [bz _ hi] at hI;simp only [ksE] at hI;refine aI O (ax O (ay _ (yV _) (aw (λ h=>?_) (λ h=>ai ?_))))
  ·rw [if_neg (by simpa using h)] at hI;refine ay (match kf v.AI i with|some q=>!Op.bytesLess q (lat v.AI (i:Int))|none=>false) (aw (λ h0=>ax (a8 O O) (ax O (ai ?_))) (λ h0=>ai ?_)) (aw (λ h2=>ai ?_) (λ h2=>ax (a8 O O) (k () ?_)))
   ·unfold kf; rw [if_neg O]; exact ya _ _
   ·unfold kf; rw [if_pos O]
   ·rw [if_pos h2] at hI;rw [hI]; rfl
   ·rw [if_neg h2] at hI;rw [hI];unfold kf;rw [if_neg O,show ((i+1:Nat):Int)-1=(i:Int) by omega]
  ·rw [if_pos (by simpa using h)] at hI;rw [hI,if_neg h]
 ·simp only [cD];rw [List.drop_length] at hI;simp only [ksE] at hI;exact aE O (ai (by rw [hI]; rfl))
theorem xd (v:aa)(hk:v.AI.length<=1000000000000000):Ev2 (λ n m=>bO n v m 0) (·=if ksE none v.AI=0 then .inl () else .inr (ksE none v.AI)):=by
 refine ju (λ n m i (_:Unit)=>bO n v m i) v.AI.length (λ i _=>ksE none v.AI=ksE (kf v.AI i) (v.AI.drop i)) (λ i _ hi hI k=>?_) (λ _ hI=>?_) () (by simp [kf])
 ·simp only [bO];rw [bz _ hi] at hI;simp only [ksE] at hI;refine aI O (ax O (ay _ (wg _) (aw (λ h=>?_) (λ h=>ai ?_))))
  ·rw [if_neg (by simpa using h)] at hI;refine ay (match kf v.AI i with|some q=>!Op.bytesLess q (lat v.AI (i:Int))|none=>false) (aw (λ h0=>ax (a8 O O) (ax O (ax O (ai ?_)))) (λ h0=>ai ?_)) (aw (λ h2=>ai ?_) (λ h2=>ax (a8 O O) (k () ?_)))
   ·unfold kf; rw [if_neg O]
   ·unfold kf; rw [if_pos O]
   ·rw [if_pos h2] at hI;rw [hI]; rfl
   ·rw [if_neg h2] at hI;rw [hI];unfold kf;rw [if_neg O,show ((i+1:Nat):Int)-1=(i:Int) by omega]
  ·rw [if_pos (by simpa using h)] at hI;rw [hI,if_neg h]
 ·simp only [bO];rw [List.drop_length] at hI;simp only [ksE] at hI;exact aE O (ai (by rw [hI]; rfl))
def qb (n:Int):Bool:=decide (-9007199254740992<=n/\n<=9007199254740992)
theorem v6 (n:Int):fy n=some (qb n):=by
 unfold fy qb;by_cases h:-9007199254740992<=n <;> simp [h]
theorem y9 (n:Int):gt n=some (qb n):=by
 unfold gt qb;by_cases h:-9007199254740992<=n <;> simp [h]
def iA (v:aa):Int:=if shB v=false then 1 else if v.AT=2/\qb v.A'=false then 5 else if txE v.By≠0 then txE v.By else ksE none v.AI
theorem BD {v:aa}(h:shB v=true):(v.AT≠3->v.By=[])/\(v.AT≠5->v.AI=[]):=by
 simp only [shB,decide_eq_true_eq] at h;exact ⟨h.2.2.2.2.1,λ q=>List.length_eq_zero_iff.1 (h.2.2.2.2.2.2.2 q)⟩
theorem yy {v:aa}(hb:aa.Bd v):Ev2 (λ n _=>iT n v) (·=iA v):=by
 have hk:=hb.bKeys;unfold ec at hk;unfold iT;refine ay _ (da (wV v) Z) (aw (λ h=>ai ?_) (λ h=>?_))
 ·unfold iA; rw [if_pos (by simpa using h)]
 have hs:shB v=true:=by simpa using h
 obtain ⟨s1,s2⟩:=BD hs;by_cases h2:v.AT=2
 ·have e:iA v=if qb v.A'=false then 5 else 0:=by
   unfold iA;rw [if_neg (by simp [hs])];by_cases hn:qb v.A'=false
   ·rw [if_pos ⟨h2,hn⟩,if_pos hn]
   ·rw [if_neg (λ q=>hn q.2),if_neg hn,s1 O,s2 O,wF]; rfl
  rw [e];by_cases hn:qb v.A'=false
  ·refine fP 5 (aI h2 (ay _ (da (v6 _) Z) (aI (by simp [hn]) (ai Z)))) (by rw [if_pos hn])
  ·refine eA () (aI h2 (ay _ (da (v6 _) Z) (aE (by simpa using hn) (ai Z)))) (ai (by rw [if_neg hn]))
 ·have e0:iA v=if txE v.By≠0 then txE v.By else ksE none v.AI:=by
   unfold iA;rw [if_neg (by simp [hs]),if_neg (λ q=>h2 q.1)]
  by_cases h3:v.AT=3
  ·have e:iA v=txE v.By:=by
    rw [e0,s2 O];by_cases q:txE v.By=0
    ·rw [if_neg (by simpa using q),q]; rfl
    ·rw [if_pos q]
   rw [e];exact fP (txE v.By) (aE h2 (aI h3 (ay _ (yV _) (ai rfl)))) rfl
  ·have e:iA v=ksE none v.AI:=by rw [e0,s1 h3,wF,if_neg (by decide)]
   rw [e];by_cases h5:v.AT=5
   ·have hl:=bX (f:=λ _ m=>cD v m 0) (x9 v O);by_cases q:ksE none v.AI=0
    ·rw [q] at hl ⊢;refine eA () (aE h2 (aE h3 (aI h5 (eA () (fI hl (λ r hr=>by rw [hr]; rfl)) (ai rfl))))) (ai rfl)
    ·rw [if_neg q] at hl;exact fP (ksE none v.AI) (aE h2 (aE h3 (aI h5 (fP (.inr (ksE none v.AI)) hl rfl)))) rfl
   ·rw [s2 h5];exact eA () (aE h2 (aE h3 (aE h5 (ai rfl)))) (ai rfl)
theorem qI {v:aa}(hb:aa.Bd v):Ev2 (λ n _=>gi n v) (·=iA v):=by
 have hk:=hb.bKeys;unfold ec at hk;unfold gi;refine ay _ (da (ve v) Z) (aw (λ h=>ai ?_) (λ h=>?_))
 ·unfold iA; rw [if_pos (by simpa using h)]
 have hs:shB v=true:=by simpa using h
 have e:iA v=if v.AT=2/\qb v.A'=false then 5 else if txE v.By≠0 then txE v.By else ksE none v.AI:=by
  unfold iA; rw [if_neg (by simp [hs])]
 rw [e];refine ay (decide (v.AT=2/\qb v.A'=false)) (aw (λ h2=>ay _ (da (y9 _) rfl) (ai (by simp [h2]))) (λ h2=>ai (by simp [h2]))) (aw (λ h2=>ai (by rw [if_pos (by simpa using h2)])) (λ h2=>?_));rw [if_neg (by simpa using h2)];refine ay _ (wg _) (aw (λ h3=>?_) (λ h3=>ai (by rw [if_pos h3])));rw [if_neg (by simpa using h3)];have hl:=bX (f:=λ n m=>bO n v m 0) (xd v O);by_cases q:ksE none v.AI=0
 ·rw [q] at hl ⊢;exact eA () (fI hl (λ r hr=>by rw [hr]; rfl)) (ai rfl)
 ·rw [if_neg q] at hl;exact fP (ksE none v.AI) hl rfl
mutual
def gn:aa->Nat->Nat->Int×Nat|.mk k x s l ks,lv,c=>if 32<lv then (4,c) else if 4096<=c then (14,c) else if iA (.mk k x s l ks)≠0 then (iA (.mk k x s l ks),c) else gV l (lv+1) (c+1)
def gV:List aa->Nat->Nat->Int×Nat|[],_,c=>(0,c)|x::r,lv,c=>if (gn x lv c).1≠0 then gn x lv c else gV r lv (gn x lv c).2
end
theorem oG (v:aa)(lv c:Nat):gn v lv c=if 32<lv then (4,c) else if 4096<=c then (14,c) else if iA v≠0 then (iA v,c) else gV v.Ar (lv+1) (c+1):=by
 cases v; simp only [gn,aa.Ar]
mutual
theorem mz:∀ (v:aa) (lv c:Nat),c<=4096->(gn v lv c).2<=4096
 | .mk k x s l ks,lv,c,h=>by
  simp only [gn];split
  ·exact h
  ·split
   ·exact h
   ·split
    ·exact h
    ·exact wa l _ _ O
theorem wa:∀ (l:List aa) (lv c:Nat),c<=4096->(gV l lv c).2<=4096
 | [],lv,c,h=>by simp only [gV]; exact h
 | x::r,lv,c,h=>by
  simp only [gV];split
  ·exact mz x lv c h
  ·exact wa r lv _ (mz x lv c h)
end
def AsC (q:Int×Nat)(r:Int×Int):Prop:=r.1=q.1/\(r.1=0->r.2=(q.2:Int))
theorem xO {v:aa}(hb:aa.Bd v):∀ (lv c:Nat),lv<=33->c<=4096->Ev2 (λ n _=>ci n v (lv:Int) (c:Int)) (AsC (gn v lv c)):=by
 have hb0:=hb
 induction hb with
 | @mk x bKind bNum bStr bItems eItems bKeys eKeys ih=>
  intro lv c h1 h2;have hl:=bItems;unfold ec at hl;rw [oG];refine ee ?_;simp only [ci];refine aw (λ h=>ai ?_) (λ h3=>aw (λ h=>ai ?_) (λ h4=>?_))
  ·rw [if_pos O]; exact ⟨rfl,λ q=>absurd q G⟩
  ·rw [if_neg O,if_pos O]; exact ⟨rfl,λ q=>absurd q G⟩
  rw [if_neg O,if_neg O];refine ax (a8 O O) (ay _ (yy hb0) (aw (λ h0=>?_) (λ h0=>ai (by rw [if_pos h0]; exact ⟨rfl,λ q=>absurd q h0⟩))));rw [if_neg (by simpa using h0)]
  have loop:=ju (λ n m i (s:Nat)=>ce (ci n) x (lv:Int) m i (s:Int)) x.Ar.length (λ i s=>s<=4096/\gV x.Ar (lv+1) (c+1)=gV (x.Ar.drop i) (lv+1) s)
   (P:=λ r=>(∃ k:Nat,r=.inl (k:Int)/\k<=4096/\gV x.Ar (lv+1) (c+1)=(0,k))\/∃ e,r=.inr e/\e.1≠0/\e.1=(gV x.Ar (lv+1) (c+1)).1) (λ i s hi hI k=>?_) (λ s hI=>?_) (c+1) ⟨by omega,by simp⟩
  ·have hlp:=bX (f:=λ n m=>ce (ci n) x (lv:Int) m 0 ((c:Int)+1)) (kj (P:=λ z=>Ev2 (λ n m=>ce (ci n) x (lv:Int) m 0 z) _) loop);obtain ⟨r,hr,N,hN⟩:=hlp;rcases hr with ⟨k,rfl,h5,h6⟩|⟨e,rfl,h5,h6⟩
   ·exact eA (k:Int) ⟨.inl (k:Int),Z,N,hN⟩ (ai (by rw [h6]; exact ⟨Z,λ _=>rfl⟩))
   ·exact fP e ⟨.inr e,Z,N,hN⟩ ⟨h6,λ q=>absurd q h5⟩
  ·simp only [ce];have hm:lat x.Ar (i:Int)∈x.Ar:=Go.Ab.dU O;rw [bz _ hi] at hI;simp only [gV] at hI;have hw:=kj (P:=λ z=>Ev2 (λ n _=>ci n (lat x.Ar (i:Int)) z (s:Int)) _) (ih _ hm (eItems _ hm) (lv+1) s O hI.1);refine aI O (ax O (ax (a8 O O) (bI _ hw (λ r hr=>aw (λ h5=>ax (a8 O O) ?_) (λ h5=>ai ?_)))))
   ·have e1:(gn (lat x.Ar (i:Int)) (lv+1) s).1=0:=hr.1 ▸ h5;rw [if_neg (by simpa using e1)] at hI;rw [hr.2 h5];exact k _ ⟨mz _ _ _ hI.1,hI.2⟩
   ·have e1:(gn (lat x.Ar (i:Int)) (lv+1) s).1≠0:=hr.1 ▸ h5;rw [if_pos e1] at hI;exact .inr ⟨(r.1,r.2),Z,h5,by rw [hI.2]; exact hr.1⟩
  ·simp only [ce];rw [List.drop_length] at hI;simp only [gV] at hI;exact aE O (ai (.inl ⟨s,rfl,hI.1,hI.2⟩))
theorem vi {v:aa}(hb:aa.Bd v):∀ (lv c:Nat),lv<=33->c<=4096->Ev2 (λ n _=>bW n v (lv:Int) (c:Int)) (AsC (gn v lv c)):=by
 have hb0:=hb
 induction hb with
 | @mk x bKind bNum bStr bItems eItems bKeys eKeys ih=>
  intro lv c h1 h2;have hl:=bItems;unfold ec at hl;rw [oG];refine ee ?_;simp only [bW];refine aw (λ h=>ai ?_) (λ h3=>aw (λ h=>ai ?_) (λ h4=>?_))
  ·rw [if_pos O]; exact ⟨rfl,λ q=>absurd q G⟩
  ·rw [if_neg O,if_pos O]; exact ⟨rfl,λ q=>absurd q G⟩
  rw [if_neg O,if_neg O];refine (ay _ (qI hb0) (aw (λ h0=>ax (a8 O O) ?_) (λ h0=>ai (by rw [if_pos h0]; exact ⟨rfl,λ q=>absurd q h0⟩))));rw [if_neg (by simpa using h0)]
  have loop:=ju (λ n m i (s:Nat)=>bH (bW n) x (lv:Int) m (s:Int) i) x.Ar.length (λ i s=>s<=4096/\gV x.Ar (lv+1) (c+1)=gV (x.Ar.drop i) (lv+1) s)
   (P:=λ r=>(∃ k:Nat,r=.inl (k:Int)/\k<=4096/\gV x.Ar (lv+1) (c+1)=(0,k))\/∃ e,r=.inr e/\e.1≠0/\e.1=(gV x.Ar (lv+1) (c+1)).1) (λ i s hi hI k=>?_) (λ s hI=>?_) (c+1) ⟨by omega,by simp⟩
  ·have hlp:=bX (f:=λ n m=>bH (bW n) x (lv:Int) m ((c:Int)+1) 0) (kj (P:=λ z=>Ev2 (λ n m=>bH (bW n) x (lv:Int) m z 0) _) loop);obtain ⟨r,hr,N,hN⟩:=hlp;rcases hr with ⟨k,rfl,h5,h6⟩|⟨e,rfl,h5,h6⟩
   ·exact eA (k:Int) ⟨.inl (k:Int),Z,N,hN⟩ (ai (by rw [h6]; exact ⟨Z,λ _=>rfl⟩))
   ·exact fP e ⟨.inr e,Z,N,hN⟩ ⟨h6,λ q=>absurd q h5⟩
  ·simp only [bH];have hm:lat x.Ar (i:Int)∈x.Ar:=Go.Ab.dU O;rw [bz _ hi] at hI;simp only [gV] at hI;have hw:=kj (P:=λ z=>Ev2 (λ n _=>bW n (lat x.Ar (i:Int)) z (s:Int)) _) (ih _ hm (eItems _ hm) (lv+1) s O hI.1);refine aI O (ax O (ax (a8 O O) (bI _ hw (λ r hr=>aw (λ h5=>ax (a8 O O) ?_) (λ h5=>ai ?_)))))
   ·have e1:(gn (lat x.Ar (i:Int)) (lv+1) s).1=0:=hr.1 ▸ h5;rw [if_neg (by simpa using e1)] at hI;rw [hr.2 h5];exact k _ ⟨mz _ _ _ hI.1,hI.2⟩
   ·have e1:(gn (lat x.Ar (i:Int)) (lv+1) s).1≠0:=hr.1 ▸ h5;rw [if_pos e1] at hI;exact .inr ⟨(r.1,r.2),Z,h5,by rw [hI.2]; exact hr.1⟩
  ·simp only [bH];rw [List.drop_length] at hI;simp only [gV] at hI;exact aE O (ai (.inl ⟨s,rfl,hI.1,hI.2⟩))
theorem xP {v:aa}(hb:aa.Bd v):Ev2 (λ n _=>ir n v) (·=(gn v 1 0).1):=by
 simp only [ir];exact bI _ (xO hb 1 0 (by decide) (by decide)) (λ r hr=>ai hr.1)
theorem pg {v:aa}(hb:aa.Bd v):Ev2 (λ n _=>ey n v) (·=(gn v 1 0).1):=by
 simp only [ey];exact bI _ (vi hb 1 0 (by decide) (by decide)) (λ r hr=>ai hr.1)
theorem wL {v:aa}(hb:aa.Bd v)(h:iA v=0):jz v:=yb (sX hb) (qI hb) h
def iV:aa:=aa.mk 0 0 [] [] []
theorem pP {α:Type} [Inhabited α] (l:List α){i:Nat}(h:i<l.length):l.take (i+1)=l.take i++[lat l (i:Int)]:=by
 rw [cY _ _ h,List.take_succ_eq_append_getElem h]
def pK (l:List Bk)(q:Bk):Nat:=(l.takeWhile λ k=>Op.bytesLess k q).length
theorem pB:∀ (l:List Bk) (q:Bk),pK l q<=l.length
 | [],q=>bt _
 | k::r,q=>by
  have:=pB r q;unfold pK at this ⊢;rw [List.takeWhile_cons];split
  ·simp only [d4]; omega
  ·simp
theorem wB:∀ {l:List Bk} {q:Bk} {j:Nat} (hj:j<l.length),j<pK l q->Op.bytesLess l[j] q=true
 | [],q,j,hj,_=>by simp at hj
 | k::r,q,j,hj,h=>by
  unfold pK at h;rw [List.takeWhile_cons] at h;split at h
  ·rename_i hk
   cases j with
   | zero=>exact hk
   | succ j=>exact wB (l:=r) (by simpa using hj) (by unfold pK; simp only [d4] at h; omega)
  ·simp at h
theorem wI:∀ {l:List Bk} {q:Bk} {j:Nat} (hj:j<l.length),l.Pairwise (λ a b=>Op.bytesLess a b=true)->pK l q<=j->Op.bytesLess l[j] q=false
 | [],q,j,hj,_,_=>by simp at hj
 | k::r,q,j,hj,hp,h=>by
  have hp2:=List.pairwise_cons.1 hp;unfold pK at h;rw [List.takeWhile_cons] at h;split at h
  ·cases j with
   | zero=>simp at h
   | succ j=>exact wI (l:=r) (by simpa using hj) hp2.2 (by unfold pK; simp only [d4] at h; omega)
  ·rename_i hk;rw [<- Bool.not_eq_true];intro hq
   cases j with
   | zero=>exact hk hq
   | succ j=>exact hk (q7 (hp2.1 _ (List.getElem_mem (by simpa using hj))) hq)
def lY (l:List Bk)(q:Bk):Prop:=pK l q<l.length/\lat l (pK l q:Int)=q
instance (l:List Bk) (q:Bk):Decidable (lY l q):=inferInstanceAs (Decidable (_/\_))
theorem A1 {l:List Bk}(h:Inc l){t:Nat}(ht:t<l.length):pK l l[t]=t:=by
 have hp:=nc h;rcases Nat.lt_trichotomy (pK l l[t]) t with h1|h1|h1
 ·have h2:=wI (q:=l[t]) (j:=pK l l[t]) O hp (bt _);have h3:=List.pairwise_iff_getElem.1 hp (pK l l[t]) t O ht h1;rw [h2] at h3; cases h3
 ·exact h1
 ·have h2:=wB (q:=l[t]) ht h1;rw [jk] at h2; cases h2
theorem vI {l:List Bk}(hl:l.length<=1000000000000000)(h:Inc l)(q:Bk):Ev2 (λ n _=>aW n l q) (·=((pK l q:Int),decide (lY l q))):=by
 have hp:=nc h;have hle:=pB l q;simp only [aW]
 have loop:∀ (k i j:Nat),j-i<=k->i<=pK l q->pK l q<=j->j<=l.length->Ev2 (λ _ m=>az l q m (i:Int) (j:Int)) (·=(pK l q:Int)):=by
  intro k
  induction k with
  | zero=>
   intro i j hk h1 h2 h3;refine aT ?_;simp only [az];exact aE O (ai O)
  | succ k ih=>
   intro i j hk h1 h2 h3;refine aT ?_;simp only [az];rw [yH i j O];refine aw (λ hij=>?_) (λ hij=>ai O);have hml:(i+j) / 2<l.length:=by omega
   by_cases hm:(i+j) / 2<pK l q
   ·refine ay ((((i+j) / 2+1:Nat):Int),(j:Int)) ?_ (ih _ j O O  h2 h3);refine ax (a8 O O) (ax (by decide) (ax (a8 O O) (ax O (ay _ (da (ov _ _) Z) (aI (by rw [cY _ _ hml]; exact wB hml hm) (ax (a8 O O) (ai ?_)))))));rw [Int.natCast_add]; rfl
   ·refine ay ((i:Int),(((i+j) / 2:Nat):Int)) ?_ (ih i _ O h1 O O);exact ax (a8 O O) (ax (by decide) (ax (a8 O O) (ax O (ay _ (da (ov _ _) Z) (aE (by rw [cY _ _ hml,wI hml hp O]; decide) (ai Z))))))
 refine ay _ (bX (f:=λ _ m=>az l q m 0 (l.length:Int)) (loop l.length 0 l.length O O O O)) ?_;refine ay (decide (lY l q)) ?_ (ai Z);refine aw (λ h1=>ax O (aw (λ h2=>ai ?_) (λ h2=>ax O ?_))) (λ h1=>ai ?_)
 ·exact (decide_eq_true ⟨by omega,h2⟩).symm
 ·have nn:∀ y:Bk,slices_isNaN_string y=some false:=λ y=>by unfold slices_isNaN_string; simp
  exact ay _ (da (nn _) Z) (aE (by decide) (ai (decide_eq_false (λ q2=>h2 q2.2)).symm))
 ·exact (decide_eq_false (λ q2=>h1 (by have:=q2.1; omega))).symm
def dM (v:aa)(s:ac):Int×Int :=if v.AT=6 then (0,11) else if s.Cu=true then (if v.AT=4 then (if (v.Ar.length:Int)<=s.A' then (0,16) else (s.A',0)) else (0,6))else if v.AT=5 then (if lY v.AI s.BY then (((pK v.AI s.BY:Nat):Int),0) else (0,16)) else (0,6)
theorem sD {v:aa}{s:ac}(h:v.AT=6):dM v s=(0,11):=by unfold dM; rw [if_pos h]
theorem su {v:aa}{s:ac}(h6:¬ v.AT=6)(hi:s.Cu=true)(h4:v.AT=4):dM v s=if (v.Ar.length:Int)<=s.A' then (0,16) else (s.A',0):=by
 unfold dM; rw [if_neg h6,if_pos hi,if_pos h4]
theorem kb {v:aa}{s:ac}(h6:¬ v.AT=6)(hi:s.Cu=true)(h4:¬ v.AT=4):dM v s=(0,6):=by
 unfold dM; rw [if_neg h6,if_pos hi,if_neg h4]
theorem mJ {v:aa}{s:ac}(h6:¬ v.AT=6)(hi:s.Cu=false)(h5:v.AT=5):dM v s=if lY v.AI s.BY then (((pK v.AI s.BY:Nat):Int),0) else (0,16):=by
 unfold dM; rw [if_neg h6,if_neg (by simp [hi]),if_pos h5]
theorem lm {v:aa}{s:ac}(h6:¬ v.AT=6)(hi:s.Cu=false)(h5:¬ v.AT=5):dM v s=(0,6):=by
 unfold dM; rw [if_neg h6,if_neg (by simp [hi]),if_neg h5]
theorem pW {v:aa}(hv:jz v)(hk:v.AI.length<=1000000000000000)(s:ac):Ev2 (λ n _=>dZ n v s) (·=dM v s):=by
 simp only [dZ];by_cases h6:v.AT=6
 ·rw [sD h6]; exact aI h6 (ai rfl)
 refine aE h6 ?_
 cases hi:s.Cu
 ·by_cases h5:v.AT=5
  ·rw [mJ h6 hi h5];refine ay false (aE G (aI rfl (ai (by simp [h5])))) (aE G (aE G ?_));refine ay _ (vI hk hv.inc s.BY) (aw (λ h=>ai ?_) (λ h=>ai ?_))
   ·rw [if_neg (by simpa using h)]
   ·rw [if_pos (by simpa using h)]
  ·rw [lm h6 hi h5];exact ay true (aE G (aI rfl (ai (by simp [h5])))) (aI rfl (ai rfl))
 ·by_cases h4:v.AT=4
  ·rw [su h6 hi h4];refine ay false (aI rfl (aI h4 (aE G (ai rfl)))) (aE G (aI rfl (aw (λ h=>ai ?_) (λ h=>ai ?_))))
   ·rw [if_pos h]
   ·rw [if_neg h]
  ·rw [kb h6 hi h4];exact ay true (aI rfl (aE h4 (ai rfl))) (aI rfl (ai rfl))
theorem iJ {v:aa}(hv:jz v){s:ac}(hs:0<=s.A')(h:(dM v s).2=0):∃ i:Nat,dM v s=((i:Int),0)/\i<v.Ar.length:=by
 unfold dM at h ⊢;by_cases h6:v.AT=6
 ·rw [if_pos h6] at h; cases h
 rw [if_neg h6] at h ⊢;split at h
 ·split at h
  ·split at h
   ·cases h
   ·rename_i h1 h2 h3;rw [if_pos h1,if_pos h2,if_neg h3];exact ⟨s.A'.toNat,by rw [Int.toNat_of_nonneg hs],by omega⟩
  ·cases h
 ·split at h
  ·split at h
   ·rename_i h1 h2 h3;rw [if_neg h1,if_pos h2,if_pos h3];have:=hv.len h2;exact ⟨_,rfl,by have:=h3.1; omega⟩
   ·cases h
  ·cases h
def qB (v:aa)(q:Bk)(x:aa):aa:=if lY v.AI q then aa.mk v.AT v.A' v.By (v.Ar.set (pK v.AI q) x) v.AI else aa.mk v.AT v.A' v.By (eF v.Ar (pK v.AI q) x) (eF v.AI (pK v.AI q) q)
theorem lL:∀ (N:Nat) (v:aa),SizeOf.sizeOf v<N->aa.Bd v->Ev2 (λ n _=>cm n v) (·=v):=by
 have hW:ec<=140737488355328:=by decide
 intro N
 induction N with
 | zero=>intro v h; omega
 | succ N ih=>
  intro v hv hb;have h1:=hb.bKeys; have h2:=hb.bItems;refine ee ?_;simp only [cm];refine ax O (ay v.Ar (ee ?_) (ai (by cases v; rfl)));simp only [iL];refine aw (λ h=>ai (by symm; exact List.length_eq_zero_iff.1 O)) (λ h=>ax O (ay v.Ar (bX (f:=λ n m=>cu (cm n) v.Ar m [] 0) ?_) (ai rfl)));refine ju (λ n m i (l:List aa)=>cu (cm n) v.Ar m l i) v.Ar.length (λ i l=>l=v.Ar.take i) (λ i l hi hl k=>?_) (λ l hl=>?_) [] rfl
  ·subst hl;have hm:lat v.Ar (i:Int)∈v.Ar:=Go.Ab.dU O;have hz:=vK hm;simp only [cu];refine aI O (ax O (ay _ (ih _ O (hb.eItems _ hm)) (ax (by simp only [sm,List.length_singleton]; omega) (ax (a8 O O) (k _ ?_)))));rw [pP _ hi]
  ·subst hl;simp only [cu];exact aE O (ai (List.take_length))
theorem zW {v x:aa}(hn:jz v)(hb:aa.Bd v)(hx:aa.Bd x)(h5:v.AT=5)(hl:v.Ar.length<=1000000)(q:Bk):Ev2 (λ n _=>iO n v q x) (·=qB v q x):=by
 have CE:=hn.len h5;have hle:=pB v.AI q;simp only [iO];refine ay _ (lL _ v (Nat.lt_succ_self _) hb) (ay _ (vI O hn.inc q) ?_);by_cases hh:lY v.AI q
 ·have h1:=hh.1;refine ay false (aE (by simp only; omega) (aI (by simp [hh]) (ai (decide_eq_false (by simp only; omega))))) (aE (by decide) (aE (by simp [hh]) (ay _ (lL _ x (Nat.lt_succ_self _) hx) (ax (by simp only; omega) (ai ?_)))));unfold qB qa;rw [if_pos hh,Int.toNat_natCast]
 ·refine ay false (aE (by simp only; omega) (aE (by simp [hh]) (ai Z))) (aE (by decide) (aI (by simp [hh]) ?_));refine ay (eF v.AI (pK v.AI q) q) ?_ (ay (eF v.Ar (pK v.AI q) (aa.mk 0 0 [] [] [])) ?_ (ay _ (lL _ x (Nat.lt_succ_self _) hx) ?_))
  ·unfold cx;exact ax (by first|omega|(simp only; omega)) (ax Z (ax O (ai Z)))
  ·unfold b9;exact ax (by first|omega|(simp only; omega)) (ax Z (ax O (ai Z)))
  ·have hil:(eF v.Ar (pK v.AI q) (aa.mk 0 0 [] [] [])).length=v.Ar.length+1:=ip O;refine ax (by simp only; omega) (ai ?_);unfold qB qa;rw [if_neg hh,Int.toNat_natCast];congr 1;unfold eF;have hkl:(List.take (pK v.AI q) v.Ar).length=pK v.AI q:=by rw [sm]; omega
   rw [List.set_append_right _ _ O,hkl,Nat.sub_self,List.set_cons_zero]
def dm:List ac->aa->aa×Int|[],v=>(v,0)|s::p,v=>if (dM v s).2=0 then dm p (lat v.Ar (dM v s).1) else (iV,(dM v s).2)
def gg (x:aa):List ac->aa->aa×Int|[],_=>(x,0)|s::p,v=>if (dM v s).2=16/\p.length=0/\s.Cu=false then (qB v s.BY x,0) else if (dM v s).2≠0 then (iV,(dM v s).2) else if (gg x p (lat v.Ar (dM v s).1)).2≠0 then (iV,(gg x p (lat v.Ar (dM v s).1)).2) else(aa.mk v.AT v.A' v.By (v.Ar.set (dM v s).1.toNat (gg x p (lat v.Ar (dM v s).1)).1) v.AI,0)
structure VV (v:aa):Prop where
 g:GV v
 b:aa.Bd v
 n:bZ v<=100000
theorem VV.item {v x:aa}(h:VV v)(hx:x∈v.Ar):VV x:=⟨h.g.its _ hx,h.b.eItems _ hx,by have:=kB hx; have:=h.n; omega⟩
theorem VV.il {v:aa}(h:VV v):v.Ar.length<=100000:=by
 have h1:=h.n;rw [bR] at h1;have:=jv v.Ar;omega
theorem VV.kl {v:aa}(h:VV v):v.AI.length<=100000:=by
 by_cases h5:v.AT=5
 ·rw [h.g.node.len h5]; exact h.il
 ·rw [h.g.node.kys h5]; simp
theorem VV.at {v:aa}(h:VV v){i:Nat}(hi:i<v.Ar.length):VV (lat v.Ar (i:Int)):=h.item (Go.Ab.dU O)
theorem rB {v:aa}{s:ac}(h:(dM v s).2=16)(hi:s.Cu=false):v.AT=5/\¬ lY v.AI s.BY:=by
 by_cases h6:v.AT=6
 ·rw [sD h6] at h; cases h
 by_cases h5:v.AT=5
 ·rw [mJ h6 hi h5] at h;split at h
  ·cases h
  ·rename_i q; exact ⟨h5,q⟩
 ·rw [lm h6 hi h5] at h; cases h
theorem vF {x:aa}(hx:aa.Bd x):∀ (p:List ac) (v:aa),VV v->(∀ s∈p,gd s)->p.length<=1000->Ev2 (λ n _=>gU n v p x) (·=gg x p v)
 | [],v,hv,hs,hl=>by
  refine ee ?_;simp only [gU];exact aI Z (ay _ (nj _ x (Nat.lt_succ_self _) hx) (ai Z))
 | s::p,v,hv,hs,hl=>by
  simp only [d4] at hl;have hs0:=hs s G;have hkl:=hv.kl; have hil:=hv.il;have hl0:lat (s::p) 0=s:=rfl;have hsub:sub (s::p) 1 ((s::p).length:Int)=p:=by rw [oM]; rfl
  refine ee ?_;simp only [gU];refine aE (by simp only [d4]; omega) (ax (by simp only [d4]; omega) ?_);rw [hl0,hsub];refine ay _ (pW hv.g.node O s) ?_
  have hcond:Ev2 (λ _ _=>if (dM v s).2=16 then if ((s::p).length:Int)=1 then ck ((0:Int)<=0/\0<((s::p).length:Int)) (some (!s.Cu)) else some false else some false) (·=decide ((dM v s).2=16/\p.length=0/\s.Cu=false)):=by
   refine aw (λ h1=>aw (λ h2=>ax (by simp only [d4]; omega) (ai ?_)) (λ h2=>ai ?_)) (λ h1=>ai ?_)
   ·have:p.length=0:=by simp only [d4] at h2; omega
    cases hi:s.Cu <;> simp [h1,this]
   ·exact (decide_eq_false (λ q=>h2 (by simp only [d4]; omega))).symm
   ·exact (decide_eq_false (λ q=>h1 q.1)).symm
  refine ay _ hcond ?_;simp only [gg];by_cases hc:(dM v s).2=16/\p.length=0/\s.Cu=false
  ·rw [if_pos hc];refine aI (decide_eq_true hc) (ax (by simp only [d4]; omega) ?_);exact ay _ (zW hv.g.node hv.b hx (rB hc.1 hc.2.2).1 O _) (ai rfl)
  ·rw [if_neg hc];refine aE (by simpa using hc) ?_;by_cases h0:(dM v s).2=0
   ·rw [if_neg (by simpa using h0)];obtain ⟨i,e,hi⟩:=iJ hv.g.node hs0.num.1 h0;rw [e];have ih:=vF hx p (lat v.Ar (i:Int)) (hv.at hi) (λ t ht=>hs t (List.mem_cons_of_mem _ ht)) O;refine aI rfl (ax (by simp only; omega) (ay _ ih (aw (λ h1=>ai ?_) (λ h1=>ai ?_))))
    ·rw [if_neg (by simpa using h1)]
    ·rw [if_pos h1]; rfl
   ·rw [if_pos h0];exact aE h0 (ai rfl)
theorem Am (P:List ac)(hP:P.length<=1000)(hs:∀ s∈P,gd s):∀ (k i:Nat) (v:aa),i+k=P.length->VV v ->
  Ev2 (λ n m=>dA n P m (i:Int) v.AT v.A' v.By v.Ar v.AI) (λ r=>(∃ w,dm (P.drop i) v=(w,0)/\VV w/\r=.inl (w.AT,w.A',w.By,w.Ar,w.AI))\/(∃ e,e≠0/\dm (P.drop i) v=(iV,e)/\r=.inr (iV,e))):=by
 intro k
 induction k with
 | zero=>
  intro i v hi hv;rw [List.drop_eq_nil_of_le O];refine aT ?_;simp only [dA];exact aE O (ai (.inl ⟨v,rfl,hv,rfl⟩))
 | succ k ih=>
  intro i v hi hv;have hdr:=vo P (i:=i) O;have hm:lat P (i:Int)∈P:=Go.Ab.dU O;rw [hdr];simp only [dm];have hkl:=hv.kl;refine aT ?_;simp only [dA];refine aI O (ax O ?_);rw [aa.eta];refine ay _ (pW hv.g.node O _) ?_;by_cases h0:(dM v (lat P (i:Int))).2=0
  ·rw [if_pos h0];obtain ⟨j,e,hj⟩:=iJ hv.g.node (hs _ hm).num.1 h0;rw [e];refine aI rfl (ax (by simp only; omega) (ax (a8 O O) ?_));exact kj (P:=λ z=>Ev2 (λ n m=>dA n P m z (lat v.Ar (j:Int)).AT (lat v.Ar (j:Int)).A' (lat v.Ar (j:Int)).By (lat v.Ar (j:Int)).Ar (lat v.Ar (j:Int)).AI) _) (ih (i+1) _ O (hv.at hj))
  ·rw [if_neg h0];exact aE h0 (ai (.inr ⟨_,h0,rfl,rfl⟩))
theorem l6 {v:aa}{p:List ac}(hv:VV v)(hs:∀ s∈p,gd s)(hp:p.length<=1000):Ev2 (λ n _=>fp n v p) (·=dm p v):=by
 simp only [fp];obtain ⟨r,hr,N,hN⟩:=bX (f:=λ n m=>dA n p m 0 v.AT v.A' v.By v.Ar v.AI) (Am p hp hs p.length 0 v O hv);rw [List.drop_zero] at hr;rcases hr with ⟨w,e,hw,rfl⟩|⟨e,_,e2,rfl⟩
 ·refine eA _ ⟨_,Z,N,hN⟩ ?_;rw [e,aa.eta];exact ay _ (nj _ w (Nat.lt_succ_self _) hw.b) (ai Z)
 ·rw [e2];exact fP _ ⟨_,rfl,N,hN⟩ rfl
theorem uf {p:List ac}(hs:∀ s∈p,gd s):∀ {v:aa},VV v->(dm p v).2=0->VV (dm p v).1:=by
 induction p with
 | nil=>intro v hv _; exact hv
 | cons s p ih=>
  intro v hv h;simp only [dm] at h ⊢;split at h
  ·rename_i h0;rw [if_pos h0];obtain ⟨j,e,hj⟩:=iJ hv.g.node (hs s G).num.1 h0;rw [e] at h ⊢;exact ih (λ t ht=>hs t (List.mem_cons_of_mem _ ht)) (hv.at hj) h
  ·rename_i h0; exact absurd h h0
theorem lh:aa.Bd iV:=.mk (a8 (by decide) (by decide)) (a8 (by decide) (by decide)) (by simp [iV,aa.By]) (by simp [iV,aa.Ar]) (λ x hx=>by cases hx) (by simp [iV,aa.AI]) (λ x hx=>by cases hx)
theorem ot {v:aa}(h:aa.Bd v){l:List aa}{ks:List Bk}(hl:l.length<=1000000)(hk:ks.length<=1000000)(h1:∀ x∈l,aa.Bd x)(h2:∀ k∈ks,k.length<=ec):aa.Bd (aa.mk v.AT v.A' v.By l ks) :=
 .mk h.bKind h.bNum h.bStr (by simp only [aa.Ar]; unfold ec; omega) h1 (by simp only [aa.AI]; unfold ec; omega) h2
theorem zY {v x:aa}(hv:VV v)(hx:aa.Bd x){q:Bk}(hq:q.length<=4096):aa.Bd (qB v q x):=by
 have hkl:=hv.kl; have hil:=hv.il;have hle:=pB v.AI q;unfold qB;split
 ·refine ot hv.b (by rw [List.length_set]; omega) O (λ y hy=>?_) hv.b.eKeys;rcases List.mem_or_eq_of_mem_set hy with h|rfl
  ·exact hv.b.eItems _ h
  ·exact hx
 ·by_cases h5:v.AT=5
  ·have:=hv.g.node.len h5;refine ot hv.b (by rw [ip O]; omega) (by rw [ip hle]; omega) (λ y hy=>?_) (λ y hy=>?_)
   ·rcases jN hy with rfl|h
    ·exact hx
    ·exact hv.b.eItems _ h
   ·rcases jN hy with rfl|h
    ·unfold ec; omega
    ·exact hv.b.eKeys _ h
  ·have hz:pK v.AI q=0:=by rw [hv.g.node.kys h5]; rfl
   rw [hz];refine ot hv.b (by rw [ip O]; omega) (by rw [ip O]; omega) (λ y hy=>?_) (λ y hy=>?_)
   ·rcases jN hy with rfl|h
    ·exact hx
    ·exact hv.b.eItems _ h
   ·rcases jN hy with rfl|h
    ·unfold ec; omega
    ·exact hv.b.eKeys _ h
theorem mu {x:aa}(hx:aa.Bd x):∀ (p:List ac) (v:aa),VV v->(∀ s∈p,gd s)->aa.Bd (gg x p v).1
 | [],v,hv,hs=>hx
 | s::p,v,hv,hs=>by
  have hs0:=hs s G;simp only [gg];split
  ·exact zY hv hx hs0.len
  ·split
   ·exact lh
   ·rename_i h0;obtain ⟨i,e,hi⟩:=iJ hv.g.node hs0.num.1 (by simpa using h0);rw [e];split
    ·exact lh
    ·refine ot hv.b (by have:=hv.il; rw [List.length_set]; omega) (by have:=hv.kl; omega) (λ y hy=>?_) hv.b.eKeys;rcases List.mem_or_eq_of_mem_set hy with h|rfl
     ·exact hv.b.eItems _ h
     ·exact mu hx p _ (hv.at hi) (λ t ht=>hs t (List.mem_cons_of_mem _ ht))
def qA (v:aa)(p:List ac)(x:aa):aa×Int:=if (gg x p v).2≠0 then (iV,(gg x p v).2) else if (gn (gg x p v).1 1 0).1≠0 then (iV,(gn (gg x p v).1 1 0).1) else ((gg x p v).1,0)
theorem sB {v x:aa}{p:List ac}(hv:VV v)(hx:aa.Bd x)(hs:∀ s∈p,gd s)(hp:p.length<=32):Ev2 (λ n _=>ii n v p x) (·=qA v p x):=by
 simp only [ii];refine ax hp (ay _ (nj _ v (Nat.lt_succ_self _) hv.b) (ay _ (vF hx p v hv hs O) ?_));unfold qA;by_cases h0:(gg x p v).2=0
 ·rw [if_neg (by simpa using h0)];refine ay (gn (gg x p v).1 1 0).1 (aI h0 (ay _ (xP (mu hx p v hv hs)) (ai rfl))) (aw (λ h1=>ai ?_) (λ h1=>ai ?_))
  ·rw [if_neg (by simpa using h1)]
  ·rw [if_pos h1]; rfl
 ·rw [if_pos h0];exact ay (gg x p v).2 (aE h0 (ai rfl)) (aE h0 (ai rfl))
end Go.Ab.R06
end
section
namespace Go.Ab.R06
open Go.Proofs Go.Ab Go.Ab.RB
attribute [local irreducible] awp ea aO au bs AV.sub M bY
def fG (n:Nat)(Cz:aa)(p_1:List ac)(x_2:aa)(q_3:List ac):Option Bool :=((cL n Cz).bind λ r1=>if (!r1)=true then some true else(cL n x_2).bind λ r4=>if (!r4)=true then some true else(fj n p_1).bind λ r7=>if (!r7)=true then some true else(fj n q_3).bind λ CG=>if (!CG)=true then some true else(fm n p_1).bind λ DK=>if DK=0 then(fm n q_3).bind λ Dn=>some (!decide (Dn=0))else some true : Option Bool).bind λ t18=>if t18=true then(cN n).bind λ ET=>some ET else(ii n Cz p_1 x_2).bind λ C2=>if C2.2=0 then(fp n C2.1 p_1).bind λ FR=>(if FR.2=0 then(dh n x_2 FR.1).bind λ Gb=>some (!Gb)else some true : Option Bool).bind λ GQ=>if GQ=true then some false else((d6 n p_1 q_3).bind λ Ey=>if Ey=true then some true else(d6 n q_3 p_1).bind λ FQ=>some FQ : Option Bool).bind λ F6=>if F6=true then(cN n).bind λ r41=>some r41 else(fp n Cz q_3).bind λ D'=>(fp n C2.1 q_3).bind λ Ga=>(if D'.2=Ga.2 then(dh n D'.1 Ga.1).bind λ GU=>if GU=true then(cN n).bind λ GT=>some GT else some false else some false : Option Bool).bind λ t53=>some t53 else(cN n).bind λ GW=>some GW
theorem lA (n:Nat)(Cz:aa)(p_1:List ac)(x_2:aa)(q_3:List ac)(r:Bool)(h0:fG n Cz p_1 x_2 q_3=some r):au Tryz.prog 8 [.agg (aa.cs Cz),eL ag p_1,.agg (aa.cs x_2),eL ag q_3] (·=.p (eB r)):=by
 unfold fG at h0;refine aZ good Tryz.func8 Z Z Z λ w0=>mP (λ v:Bool=>.p (eB v)) ?_;refine nx 8 Z (bd h0 λ o58 h1 h0=>?_);refine kN o58 (λ v59=>⟨[(1,.p (eL ag p_1)),(3,.p (eL ag q_3)),(4,.ptr 4 0),(6,.ptr 6 0),(44,.p (eB v59))],[(4,(aa.cs Cz).map .p),(6,(aa.cs x_2).map .p)]⟩) ?_ ?_
 ·refine nx 1 Z (fB [44] h0 Z (λ D8 h0=>?_) λ D8 h0=>?_)
  ·refine nx 3 Z (bd h0 λ ET e21 h0=>?_);refine oK (dk _  _ e21) Z trivial Tryz.call11 Z (nx 3 Z ?_);exact mQ (oi h0) Z (sr)
  refine nx 7 Z (bd h0 λ C2 FL h0=>?_);refine oK (gq _ Cz p_1 x_2 _ FL) Z ⟨sr,sr,sr,trivial⟩ Tryz.call20 Z (nx 13 Z ?_);refine fN [54] h0 Z (λ Ew h0=>?_) λ Ew h0=>?_
  ·refine nx 6 Z (bd h0 λ FR e28 h0=>?_);refine oK (dD _ C2.1 p_1 _ e28) Z ⟨sr,sr,trivial⟩ Tryz.call18 Z (nx 9 Z ?_);refine bd h0 λ o60 h1 h0=>kN o60 (λ v61=>⟨[(1,.p (eL ag p_1)),(3,.p (eL ag q_3)),(4,.ptr 4 0),(9,.ptr 9 0),(69,.p (eB v61))],[(4,(aa.cs Cz).map .p),(9,(aa.cs C2.1).map .p)]⟩) ?_ ?_
   ·refine nx 1 Z (fB [69] h0 Z (λ FM h0=>?_) λ FM h0=>?_)
    ·exact nx 6 Z (mQ (oi h0) Z (sr))
    refine nx 4 Z (bd h0 λ o62 h1 h0=>?_);refine kN o62 (λ v63=>⟨[(3,.p (eL ag q_3)),(4,.ptr 4 0),(9,.ptr 9 0),(77,.p (eB v63))],[(4,(aa.cs Cz).map .p),(9,(aa.cs C2.1).map .p)]⟩) ?_ ?_
    ·refine nx 1 Z (fB [77] h0 Z (λ c40 h0=>?_) λ c40 h0=>?_)
     ·refine nx 3 Z (bd h0 λ r41 e42 h0=>?_);refine oK (dk _  _ e42) Z trivial Tryz.call11 Z (nx 3 Z ?_);exact mQ (oi h0) Z (sr)
     refine nx 6 Z (bd h0 λ D' Hv h0=>?_);refine oK (dD _ Cz q_3 _ Hv) Z ⟨sr,sr,trivial⟩ Tryz.call18 Z (nx 11 Z ?_);refine bd h0 λ Ga e46 h0=>oK (dD _ C2.1 q_3 _ e46) Z ⟨sr,sr,trivial⟩ Tryz.call18 Z (nx 8 Z ?_);refine bd h0 λ Ha h1 h0=>kN Ha (λ v65=>⟨[(8,.p (eB v65))],[]⟩) ?_ ?_
     ·exact nx 2 Z (mQ (oi h0) Z (sr))
     refine nx 5 Z (fD [93,94] h1 Z (λ GB h1=>?_) λ GB h1=>?_)
     ·refine nx 2 Z (bd h1 λ GU e49 h1=>?_);refine oK (gH _ D'.1 Ga.1 _ e49) Z ⟨sr,sr,trivial⟩ Tryz.call29 Z (nx 2 Z ?_);refine fB [97,98,99] h1 Z (λ HE h1=>?_) λ HE h1=>?_
      ·refine bd h1 λ GT e52 h1=>oK (dk _  _ e52) Z trivial Tryz.call11 Z (nx 3 Z ?_);exact eX _ (oi h1).symm (gE Z Z)
      exact nx 4 Z (eX _ (oi h1).symm (gE Z Z))
     exact nx 9 Z (eX _ (oi h1).symm (gE Z Z))
    refine nx 3 Z (bd h1 λ Ey Gw h1=>?_);refine oK (eM _ p_1 q_3 _ Gw) Z ⟨sr,sr,trivial⟩ Tryz.call30 Z (nx 1 Z ?_);refine fB [72,73] h1 Z (λ Fq h1=>?_) λ Fq h1=>?_
    ·exact nx 5 Z (eX _ (oi h1).symm (gE Z Z))
    refine nx 2 Z (bd h1 λ FQ Hy h1=>?_);refine oK (eM _ q_3 p_1 _ Hy) Z ⟨sr,sr,trivial⟩ Tryz.call30 Z (nx 2 Z ?_);exact eX _ (oi h1).symm (gE Z Z)
   refine nx 4 Z (fN [63,64] h1 Z (λ Fs h1=>?_) λ Fs h1=>?_)
   ·refine nx 2 Z (bd h1 λ Gb e31 h1=>?_);refine oK (gH _ x_2 FR.1 _ e31) Z ⟨sr,sr,trivial⟩ Tryz.call29 Z (nx 3 Z ?_);exact eX _ (oi h1).symm (gE Z Z)
   exact nx 6 Z (eX _ (oi h1).symm (gE Z Z))
  refine nx 3 Z (bd h0 λ GW Hz h0=>?_);refine oK (dk _  _ Hz) Z trivial Tryz.call11 Z (nx 3 Z ?_);exact mQ (oi h0) Z (sr)
 refine nx 2 Z (bd h1 λ r1 e2 h1=>?_);refine oK (eh _ Cz _ e2) Z ⟨sr,trivial⟩ Tryz.call15 Z (nx 2 Z ?_);refine fB [19,20] h1 Z (λ c3 h1=>?_) λ c3 h1=>?_
 ·exact nx 25 Z (eX _ (oi h1).symm (gE Z Z))
 refine nx 1 Z (bd h1 λ r4 e5 h1=>?_);refine oK (eh _ x_2 _ e5) Z ⟨sr,trivial⟩ Tryz.call15 Z (nx 3 Z ?_);refine fB [23,24,25] h1 Z (λ c6 h1=>?_) λ c6 h1=>?_
 ·exact nx 20 Z (eX _ (oi h1).symm (gE Z Z))
 refine nx 1 Z (bd h1 λ r7 e8 h1=>?_);refine oK (jg _ p_1 _ e8) Z ⟨sr,trivial⟩ Tryz.call16 Z (nx 3 Z ?_);refine fB [28,29,30] h1 Z (λ c9 h1=>?_) λ c9 h1=>?_
 ·exact nx 15 Z (eX _ (oi h1).symm (gE Z Z))
 refine nx 1 Z (bd h1 λ CG D7 h1=>?_);refine oK (jg _ q_3 _ D7) Z ⟨sr,trivial⟩ Tryz.call16 Z (nx 3 Z ?_);refine fB [33,34,35] h1 Z (λ D9 h1=>?_) λ D9 h1=>?_
 ·exact nx 10 Z (eX _ (oi h1).symm (gE Z Z))
 refine nx 1 Z (bd h1 λ DK FY h1=>?_);refine oK (iY _ p_1 _ FY) Z ⟨sr,trivial⟩ Tryz.call17 Z (nx 3 Z ?_);refine fN [38,39,40] h1 Z (λ FP h1=>?_) λ FP h1=>?_
 ·refine nx 1 Z (bd h1 λ Dn FX h1=>?_);refine oK (iY _ q_3 _ FX) Z ⟨sr,trivial⟩ Tryz.call17 Z (nx 3 Z ?_);exact eX _ (oi h1).symm (gE Z Z)
 exact nx 5 Z (eX _ (oi h1).symm (gE Z Z))
end Go.Ab.R06
end
