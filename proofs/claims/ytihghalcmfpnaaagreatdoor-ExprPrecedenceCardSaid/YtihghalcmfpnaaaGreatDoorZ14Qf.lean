/- Texts of the proof, one behind the other. No statement is proved here. -/
import Derived.Test.YtihghalcmfpnaaaGreatDoorCards
import Derived.Test.YtihghalcmfpnaaaGreatDoorTie
import Derived.WalkKit
import Derived.SizedLaws
import Derived.ProofKit
import Derived.OpenShut
import Derived.ShutString
import Derived.LaidMore
import Derived.Stop.Joined
import Derived.Deep.DeepHandedRow
import Derived.Deep.DeepWitnessRowRef
import Derived.Test.YtihghalcmfpnaaaGreatDoorZ14Qa
import Derived.Test.YtihghalcmfpnaaaGreatDoorZ14Qb
import Derived.Test.YtihghalcmfpnaaaGreatDoorZ14Qc
import Derived.Test.YtihghalcmfpnaaaGreatDoorZ14Qd
import Derived.Test.YtihghalcmfpnaaaGreatDoorZ14Qe
set_option maxHeartbeats 4000000
section
namespace Go.Ab.R06
open Go.Ab Go.Ab.RB Go.Lib
section
variable {p:Prop}
theorem Iq (h:p:=by
 refine gz (λ f=>rfl) (ez (q true (u::l) (lf u1 (by rw [u2]; decide) _ _)) ?_);simp only [d4,cB hu,cA hu,u1,u2]
 exact iS):p:=h
theorem Jk (h:p:=by
 simp only [jC,la,gD ht,cA ht,cB ht,uU hu,cA hu,h1,h2,u1,u2]
 exact gz (λ f=>rfl) (q l)):p:=h
theorem I3 (h:p:=by
 have ht:t.Ar≠5:=by omega
 have hf:wdB true (M++l) [102,111,114]=false:=by
  obtain ⟨z,r,e,z5,zf⟩:=h.1;rw [e] at h3;obtain ⟨u,N,rfl,u1,u2,-⟩:=bb h3;rw [la,uU (by rw [u1]; exact z5),u1,u2]
  cases hd:decide (z.1=1) with
  | false=>rfl
  | true=>simp only [Bool.true_and,decide_eq_false_iff_not]; intro q; exact zf (Prod.ext (by simpa using hd) q)
 simp only [jC,gD ht,cA ht,cB ht,h1,h2,hf]
 exact gz (λ f=>rfl) (ez (q l) iS)):p:=h
theorem AL (h:p:=by exact lf u1 (by rw [u2]; decide) _ _):p:=h
end
theorem f2r {x y:aa}(h:EQV x y):F2 (RE λ _ _=>True) [x] [y]:=.cons h .nil
theorem lQ {k o:Int}{n m:Bytes}{v:ag}{ks ks':List aa}{a a':Int}(h:F2 (RE λ _ _=>True) ks ks')(hc:ks.length<=4000000000):EQV (aa.mk k o n m v ks a) (aa.mk k o n m v ks' a'):=re_n h trivial hc
theorem oX {α β:Type}(a:α)(l:List ad)(k:α->List ad->PR β):pb (pok a l) k=k a l:=rfl
def bgT (z:Tok):Bool:=decide (z.1≠5)&&!(decide (z.1=4)&&decide (z.2∈([[41],[93],[125]]:List Bytes)))&&!(decide (z.1=1)&&decide (z.2=[102,111,114]))
def Bgn (ts:List Tok):Prop:=∃ z r,ts=z::r/\bgT z=true
theorem Bgn.app {ts us:List Tok}(h:Bgn ts):Bgn (ts++us):=by
 obtain ⟨z,r,rfl,h⟩:=h;exact ⟨z,r++us,rfl,h⟩
theorem Ll {ts:List Tok}(h:Bgn ts){L:List ad}(hL:kQ L=ts)(l:List ad){s:Bytes}(hs:s∈([[41],[93],[125]]:List Bytes)):sgB true (L++l) s=false:=by
 obtain ⟨z,r,rfl,h⟩:=h;obtain ⟨t,M,rfl,h1,h2,-⟩:=bb hL;unfold bgT at h;simp only [n7,decide_eq_true_eq] at h;rw [la,cB (by rw [h1]; exact h.1.1),h1,h2];have:=h.1.2
 cases h4:decide (z.1=4) with
 | false=>rfl
 | true =>
  rw [h4] at this;simp only [Bool.true_and,Bool.not_eq_true',decide_eq_false_iff_not] at this ⊢;intro e; rw [e] at this; exact this hs
theorem qu {ts:List Tok}{e:aa}(z:Tok)(us:List Tok)(hts:ts=z::us)(h5:z.1≠5)(h33:z≠(4,[33]))(h45:z≠(4,[45]))
  (h:∀ t M,t.Ar=z.1->t.C'=z.2->kQ M=us->∃ e',EQV e e'/\∀ b l,sgB b l [40]=false->Ans (λ f=>jC f b (t::(M++l))) (.inr (e',l))):C8 ts e:=by
 subst hts;intro L hL;obtain ⟨t,M,rfl,h1,h2,h3⟩:=bb hL;obtain ⟨e',p,q⟩:=h t M h1 h2 h3;refine ⟨e',p,λ b l r hc hr=>dZ ?_⟩;have ht:t.Ar≠5:=by rw [h1]; exact h5
 have n33:sgB b (t::(M++l)) [33]=false:=by
  rw [cB ht,h1,h2]
  cases hz:decide (z.1=4) with
  | false=>rfl
  | true=>simp only [Bool.true_and,decide_eq_false_iff_not]; intro e; exact h33 (Prod.ext (by simpa using hz) e)
 have n45:sgB b (t::(M++l)) [45]=false:=by
  rw [cB ht,h1,h2]
  cases hz:decide (z.1=4) with
  | false=>rfl
  | true=>simp only [Bool.true_and,decide_eq_false_iff_not]; intro e; exact h45 (Prod.ext (by simpa using hz) e)
 simp only [la,unS,n33,n45];exact ez (q b l hc) hr
theorem IV {ts:List Tok}{e:aa}(h:C0 ts e):C8 ((4,[40])::(ts++[(4,[41])])) e:=by
 refine qu (4,[40]) _ rfl (by decide) (by decide) (by decide) λ t M h1 h2 h3=>?_;obtain ⟨A,K,rfl,hA,hK⟩:=ep h3;obtain ⟨u,N,rfl,u1,u2,hN⟩:=bb hK
 cases eu hN
 simp only at h1 h2 u1 u2;obtain ⟨e',p,q⟩:=h A hA;refine ⟨e',p,λ b l hc=>dZ ?_⟩;have ht:t.Ar≠5:=by omega
 have hu:u.Ar≠5:=by omega
 simp only [jC,ph,la,ur,gD ht,cA ht,cB ht,h1,h2];exact Iq
theorem Ml {s:Bytes}(hr:fT s=false)(a:Int):C8 [(1,s)] (aa.mk 3 0 s [] v0 [] a):=by
 refine qu (1,s) _ Z G G G λ t M h1 h2 h3=>?_
 cases eu h3
 simp only at h1 h2;refine ⟨aa.mk 3 0 s [] v0 [] t.fAt,lQ .nil (rg _),λ b l hc=>dZ (dZ ?_)⟩;have ht:t.Ar≠5:=by omega
 have r1:s≠[110,117,108,108]:=by rintro rfl; exact absurd hr (by decide)
 have r2:s≠[116,114,117,101]:=by rintro rfl; exact absurd hr (by decide)
 have r3:s≠[102,97,108,115,101]:=by rintro rfl; exact absurd hr (by decide)
 simp only [jC,nQ,ur,gD ht,cA ht,h1,h2,r1,r2,r3,hr,hc];exact iS
theorem Mm {s:Bytes}{v:ag}(a:Int)(h:(s=[110,117,108,108]/\v=v0)\/(s=[116,114,117,101]/\v=ag.mk 1 1 [] [] [])\/(s=[102,97,108,115,101]/\v=ag.mk 1 0 [] [] [])):C8 [(1,s)] (pi v a):=by
 refine qu (1,s) _ Z G G G λ t M h1 h2 h3=>?_
 cases eu h3
 simp only at h1 h2;refine ⟨pi v t.fAt,lQ .nil (rg _),λ b l hc=>dZ (dZ ?_)⟩;have ht:t.Ar≠5:=by omega
 simp only [jC,nQ,ur,gD ht,cA ht,h1,h2];rcases h with ⟨rfl,rfl⟩ | ⟨rfl,rfl⟩ | ⟨rfl,rfl⟩ <;> exact iS
theorem Nq {s:Bytes}{n:Int}(a:Int)(h:sx s=(n,0)):C8 [(2,s)] (pi (ag.mk 2 n [] [] []) a):=by
 refine qu (2,s) _ Z G G G λ t M h1 h2 h3=>?_
 cases eu h3
 simp only at h1 h2;refine ⟨pi (ag.mk 2 n [] [] []) t.fAt,lQ .nil (rg _),λ b l hc=>dZ ?_⟩;have ht:t.Ar≠5:=by omega
 simp only [jC,ur,gD ht,cA ht,h1,h2,h];exact iS
def TM (s:Bytes)(e:aa):Prop:=∀ at',∃ e',EQV e e'/\Ans (λ f=>mr f s at') (.inr e')
theorem Co {s:Bytes}{e:aa}(h:TM s e){t:ad}(h1:t.Ar=3)(h2:t.C'=s):∃ e',EQV e e'/\∀ b l,Ans (λ f=>tS f b (t::l)) (.inr (e',l)):=by
 obtain ⟨e',p,q⟩:=h (t.fAt+1);have ht:t.Ar≠5:=by omega
 refine ⟨aa.mk e'.Ar e'.fOp e'.A' e'.B' e'.By e'.AI t.fAt,?_,λ b l=>dZ ?_⟩
 ·cases p with
  | mk k o n m v b c l s=>exact .mk k o n m v trivial c l s
 ·obtain ⟨N,q⟩:=q;refine ⟨N,λ f hf=>?_⟩;simp only [tS,gD ht,cA ht,h2,q f hf]
  rfl
theorem Ov {s:Bytes}{e:aa}(h:TM s e):C8 [(3,s)] e:=by
 refine qu (3,s) _ Z G G G λ t M h1 h2 h3=>?_
 cases eu h3
 obtain ⟨e',p,q⟩:=Co h h1 h2;simp only at h1 h2;refine ⟨e',p,λ b l hc=>dZ ?_⟩;have ht:t.Ar≠5:=by omega
 simp only [jC,ur,gD ht,h1];exact q b l
theorem LU {ts:List Tok}{e:aa}(h:C8 ts e)(nm:Bytes)(a:Int):C8 (ts++[(4,[46]),(1,nm)]) (aa.mk 4 0 nm [] v0 [e] a):=by
 intro L hL;obtain ⟨A,K,rfl,hA,hK⟩:=ep hL;obtain ⟨t,K,rfl,t1,t2,hK⟩:=bb hK;obtain ⟨u,N,rfl,u1,u2,hN⟩:=bb hK
 cases eu hN
 simp only at t1 t2 u1 u2;obtain ⟨e',p,q⟩:=h A hA;have ht:t.Ar≠5:=by omega
 have hu:u.Ar≠5:=by omega
 refine ⟨aa.mk 4 0 nm [] v0 [e'] e'.fAt,lQ (f2r p) G,λ b l r hc hr=>?_⟩;rw [ph];refine q b _ r (by rw [la,cB ht,t1,t2]; rfl) (dZ ?_);simp only [lH,la,ur,cB ht,gD hu,cA ht,cA hu,t1,t2,u1,u2];exact hr
theorem Pk {ts us:List Tok}{e x:aa}(h:C8 ts e)(g:C0 us x)(a:Int):C8 (ts++(4,[91])::(us++[(4,[93])])) (aa.mk 5 0 [] [] v0 [e,x] a):=by
 intro L hL;obtain ⟨A,K,rfl,hA,hK⟩:=ep hL;obtain ⟨t,K,rfl,t1,t2,hK⟩:=bb hK;obtain ⟨B,K,rfl,hB,hK⟩:=ep hK;obtain ⟨u,N,rfl,u1,u2,hN⟩:=bb hK
 cases eu hN
 simp only at t1 t2 u1 u2;obtain ⟨e',p,q⟩:=h A hA;obtain ⟨x',p2,q2⟩:=g B hB;have ht:t.Ar≠5:=by omega
 have hu:u.Ar≠5:=by omega
 refine ⟨aa.mk 5 0 [] [] v0 [e',x'] e'.fAt,lQ (.cons p (f2r p2)) G,λ b l r hc hr=>?_⟩;rw [ph];refine q b _ r (by rw [la,cB ht,t1,t2]; rfl) (dZ ?_);simp only [lH,la,ph,ur,cB ht,cA ht,t1,t2];refine gz (λ f=>rfl) (ez (q2 true (u::l) AL) ?_);simp only [d4,cB hu,cA hu,u1,u2];exact hr
theorem QO {ts:List Tok}{e:aa}(h:C7 ts e){s:Bytes}{o:Int}(ho:s=[33]/\o=1\/s=[45]/\o=2)(a:Int):C7 ((4,s)::ts) (aa.mk 6 o [] [] v0 [e] a):=by
 intro L hL;obtain ⟨t,M,rfl,t1,t2,hM⟩:=bb hL;simp only at t1 t2;obtain ⟨e',p,q⟩:=h M hM;have ht:t.Ar≠5:=by omega
 refine ⟨aa.mk 6 o [] [] v0 [e'] t.fAt,lQ (f2r p) G,λ b l hs=>dZ ?_⟩;simp only [unS,la,cB ht,gD ht,cA ht,t1,t2];rcases ho with ⟨rfl,rfl⟩ | ⟨rfl,rfl⟩
 ·exact gz (λ f=>rfl) (ez (q b l hs) iS)
 ·exact gz (λ f=>rfl) (ez (q b l hs) iS)
theorem gmP:∀ j:Fin 6,∀ p∈oQ j.val,opB p.1 j.val=some p/\(∀ i:Fin 6,j.val+1<=i.val->opB p.1 i.val=none)/\p.1≠[46]/\p.1≠[91]/\p.1≠[40]/\p.1≠[63]:=by decide
theorem Oh {j:Nat}(hj:j<=5){s:Bytes}{o:Int}(ho:(s,o)∈oQ j){ts us:List Tok}{e x:aa}(h:CB j ts e)(g:CF (j+1) us x)(a:Int):CB j (ts++(4,s)::us) (aa.mk 7 o [] [] v0 [e,x] a):=by
 obtain ⟨o1,o2,o3,o4,o5,-⟩:=gmP ⟨j,by omega⟩ (s,o) ho;simp only at o1 o2 o3 o4 o5;intro L hL;obtain ⟨A,K,rfl,hA,hK⟩:=ep hL;obtain ⟨t,B,rfl,t1,t2,hB⟩:=bb hK;simp only at t1 t2;obtain ⟨e',p,q⟩:=h A hA;obtain ⟨x',p2,q2⟩:=g B hB;have ht:t.Ar≠5:=by omega
 have sg:∀ (b:Bool) (l:List ad) (z:Bytes),s≠z->sgB b (t::l) z=false:=λ b l z hz=>by rw [cB ht,t1,t2]; simp [hz]
 refine ⟨aa.mk 7 o [] [] v0 [e',x'] e'.fAt,lQ (.cons p (f2r p2)) G,λ b l r hs hr=>?_⟩;rw [ph];refine q b _ r ⟨λ i h1 h2=>?_,sg _ _ _ o3,sg _ _ _ o4,sg _ _ _ o5⟩ (dZ ?_)
 ·rw [la,p9 t1,t2]; exact o2 ⟨i,by omega⟩ h1
 simp only [qR,la,p9 t1,t2,o1,cA ht];exact ez (q2 b l hs) hr
theorem MK {ts us vs:List Tok}{c x y:aa}(h:CF 0 ts c)(g:C0 us x)(k:C0 vs y)(a:Int):C0 (ts++(4,[63])::(us++(4,[58])::vs)) (aa.mk 8 0 [] [] v0 [c,x,y] a):=by
 intro L hL;obtain ⟨A,K,rfl,hA,hK⟩:=ep hL;obtain ⟨t,K,rfl,t1,t2,hK⟩:=bb hK;obtain ⟨B,K,rfl,hB,hK⟩:=ep hK;obtain ⟨u,M,rfl,u1,u2,hM⟩:=bb hK;simp only at t1 t2 u1 u2;obtain ⟨c',p,q⟩:=h A hA;obtain ⟨x',p2,q2⟩:=g B hB;obtain ⟨y',p3,q3⟩:=k M hM;have ht:t.Ar≠5:=by omega
 have hu:u.Ar≠5:=by omega
 refine ⟨aa.mk 8 0 [] [] v0 [c',x',y'] c'.fAt,lQ (.cons p (.cons p2 (f2r p3))) G,λ b l hs=>dZ ?_⟩
 have st:Stp 0 b (t::(B++u::(M++l))):=by
  have sg:∀ z:Bytes,[63]≠z->sgB b (t::(B++u::(M++l))) z=false:=λ z hz=>by rw [cB ht,t1,t2]; simp [hz]
  refine ⟨λ i _ h5=>?_,sg _ (by decide),sg _ (by decide),sg _ (by decide)⟩;rw [p9 t1,t2];rcases i with _ | _ | _ | _ | _ | i <;> rfl
 simp only [eT,ph,la];refine ez (q b _ st) ?_;simp only [cB ht,cA ht,t1,t2];refine gz (λ f=>rfl) (ez (q2 b (u::(M++l)) AL) ?_);simp only [d4,cB hu,cA hu,u1,u2,decide_true,Bool.and_self,if_true,oX];exact ez (q3 b l hs) iS
def CI (z:Bytes)(ts:List Tok)(ks:List aa):Prop:=(∃ t r,ts=t::r/\t.1≠5/\t≠(1,[102,111,114]))/\∀ L,kQ L=ts->∃ ks',F2 (RE λ _ _=>True) ks ks'/\∀ l,Ans (λ f=>ji f z (L++l)) (.inr (ks',l))
theorem Pe {ts:List Tok}(h:Bgn ts):∃ t r,ts=t::r/\t.1≠5/\t≠(1,[102,111,114]):=by
 obtain ⟨z,r,rfl,h⟩:=h;unfold bgT at h;simp only [n7,decide_eq_true_eq] at h;refine ⟨z,r,rfl,h.1.1,?_⟩;rintro rfl;exact absurd h.2 (by decide)
theorem NS (z:Bytes):CI z [(4,z)] []:=by
 refine ⟨⟨_,_,rfl,by simp,by simp⟩,λ L hL=>⟨[],.nil,λ l=>dZ ?_⟩⟩;obtain ⟨t,N,rfl,t1,t2,hN⟩:=bb hL
 cases eu hN
 simp only at t1 t2;have ht:t.Ar≠5:=by omega
 simp only [ji,la,ur,cB ht,cA ht,t1,t2];exact gz (λ f=>by simp [pok]) iS
theorem LM {z:Bytes}(hz:z∈([[41],[93],[125]]:List Bytes)){ts us:List Tok}{x:aa}{ks:List aa}(hb:Bgn us)(h:C0 us x)(g:CI z ts ks):CI z (us++(4,[44])::ts) (x::ks):=by
 refine ⟨Pe hb.app,λ L hL=>?_⟩;obtain ⟨A,K,rfl,hA,hK⟩:=ep hL;obtain ⟨t,B,rfl,t1,t2,hB⟩:=bb hK;simp only at t1 t2;obtain ⟨x',p,q⟩:=h A hA;obtain ⟨ks',p2,q2⟩:=g.2 B hB;have ht:t.Ar≠5:=by omega
 refine ⟨x'::ks',.cons p p2,λ l=>dZ ?_⟩;simp only [ji,ph,Ll hb hA _ hz];refine gz (λ f=>rfl) (ez (q true _ (by rw [la]; exact lf t1 (by rw [t2]; decide) _ _)) ?_);simp only [la,cB ht,cA ht,t1,t2];exact gz (λ f=>rfl) (ez (q2 l) iS)
theorem Mn {s:Bytes}(hr:fT s=false){ts:List Tok}{ks:List aa}(h:CI [41] ts ks)(hk:ks.length<=4000000000)(a:Int):C8 ((1,s)::(4,[40])::ts) (aa.mk 9 0 s [] v0 ks a):=by
 refine qu (1,s) _ rfl G G G λ t M h1 h2 h3=>?_;obtain ⟨u,N,rfl,u1,u2,hN⟩:=bb h3;simp only at h1 h2 u1 u2;obtain ⟨ks',p,q⟩:=h.2 N hN;refine ⟨aa.mk 9 0 s [] v0 ks' t.fAt,lQ p hk,λ b l hc=>dZ (dZ ?_)⟩;have ht:t.Ar≠5:=by omega
 have hu:u.Ar≠5:=by omega
 have r1:s≠[110,117,108,108]:=by rintro rfl; exact absurd hr (by decide)
 have r2:s≠[116,114,117,101]:=by rintro rfl; exact absurd hr (by decide)
 have r3:s≠[102,97,108,115,101]:=by rintro rfl; exact absurd hr (by decide)
 simp only [jC,nQ,la,gD ht,cA ht,cB hu,cA hu,h1,h2,u1,u2,r1,r2,r3,hr];exact gz (λ f=>rfl) (ez (q l) iS)
theorem LQ {ts:List Tok}{ks:List aa}(h:CI [93] ts ks)(hk:ks.length<=4000000000)(a:Int):C8 ((4,[91])::ts) (aa.mk 10 0 [] [] v0 ks a):=by
 refine qu (4,[91]) _ rfl (by decide) (by decide) (by decide) λ t M h1 h2 h3=>?_;simp only at h1 h2;obtain ⟨ks',p,q⟩:=h.2 M h3;refine ⟨aa.mk 10 0 [] [] v0 ks' t.fAt,lQ p hk,λ b l hc=>dZ ?_⟩;exact I3
def CK (ts:List Tok)(k:aa):Prop:=(∃ t r,ts=t::r/\t.1≠5/\t≠(1,[102,111,114])/\t≠(4,[125]))/\∀ L,kQ L=ts->∃ k',EQV k k'/\∀ l,Ans (λ f=>nG f (L++l)) (.inr (k',l))
theorem NT {s:Bytes}{e:aa}(h:TM s e):CK [(3,s)] e:=by
 refine ⟨⟨_,_,rfl,by simp,by simp,by simp⟩,λ L hL=>?_⟩;obtain ⟨t,N,rfl,t1,t2,hN⟩:=bb hL
 cases eu hN
 simp only at t1 t2;have ht:t.Ar≠5:=by omega
 obtain ⟨e',p,q⟩:=Co h t1 t2;refine ⟨e',p,λ l=>dZ ?_⟩;simp only [nG,la,ur,gD ht,t1];exact q true l
theorem HV {ts:List Tok}{e:aa}(h:C0 ts e):CK ((4,[40])::(ts++[(4,[41])])) e:=by
 refine ⟨⟨_,_,rfl,by simp,by simp,by simp⟩,λ L hL=>?_⟩;obtain ⟨t,K,rfl,t1,t2,hK⟩:=bb hL;obtain ⟨A,K,rfl,hA,hK⟩:=ep hK;obtain ⟨u,N,rfl,u1,u2,hN⟩:=bb hK
 cases eu hN
 simp only at t1 t2 u1 u2;have ht:t.Ar≠5:=by omega
 have hu:u.Ar≠5:=by omega
 obtain ⟨e',p,q⟩:=h A hA;refine ⟨e',p,λ l=>dZ ?_⟩;simp only [nG,la,ph,ur,gD ht,cA ht,cB ht,t1,t2];exact Iq
def CN (ts:List Tok)(ks:List aa):Prop:=(∃ t r,ts=t::r/\t.1≠5/\t≠(1,[102,111,114]))/\∀ L,kQ L=ts->∃ ks',F2 (RE λ _ _=>True) ks ks'/\∀ l,Ans (λ f=>rJ f (L++l)) (.inr (ks',l))
theorem ON:CN [(4,[125])] []:=by
 refine ⟨⟨_,_,rfl,by simp,by simp⟩,λ L hL=>⟨[],.nil,λ l=>dZ ?_⟩⟩;obtain ⟨t,N,rfl,t1,t2,hN⟩:=bb hL
 cases eu hN
 simp only at t1 t2;have ht:t.Ar≠5:=by omega
 simp only [rJ,la,ur,cB ht,cA ht,t1,t2];exact gz (λ f=>by simp [pok]) iS
theorem QZ {ts us:List Tok}{k:aa}(h:CK ts k):∃ t r,ts++us=t::r/\t.1≠5/\t≠(1,[102,111,114]):=by
 obtain ⟨z,r,e,h1,h2,-⟩:=h.1;exact ⟨z,r++us,by rw [e,la],h1,h2⟩
theorem Pu {ts:List Tok}{k:aa}(h:CK ts k){L:List ad}(hL:kQ L=ts)(l:List ad):sgB true (L++l) [125]=false:=by
 obtain ⟨z,r,e,h1,-,h3⟩:=h.1;rw [e] at hL;obtain ⟨u,N,rfl,u1,u2,-⟩:=bb hL;rw [la,cB (by rw [u1]; exact h1),u1,u2]
 cases hd:decide (z.1=4) with
 | false=>rfl
 | true=>simp only [Bool.true_and,decide_eq_false_iff_not]; intro q; exact h3 (Prod.ext (by simpa using hd) q)
theorem Lw {us vs ts:List Tok}{k x:aa}{ks:List aa}(h:CK us k)(g:C0 vs x)(n:CN ts ks):CN (us++(4,[61])::(vs++(4,[44])::ts)) (k::x::ks):=by
 refine ⟨QZ h,λ L hL=>?_⟩;obtain ⟨A,K,rfl,hA,hK⟩:=ep hL;obtain ⟨t,K,rfl,t1,t2,hK⟩:=bb hK;obtain ⟨B,K,rfl,hB,hK⟩:=ep hK;obtain ⟨u,M,rfl,u1,u2,hM⟩:=bb hK;simp only at t1 t2 u1 u2;have ht:t.Ar≠5:=by omega
 have hu:u.Ar≠5:=by omega
 obtain ⟨k',p,q⟩:=h.2 A hA;obtain ⟨x',p2,q2⟩:=g B hB;obtain ⟨ks',p3,q3⟩:=n.2 M hM;refine ⟨k'::x'::ks',.cons p (.cons p2 p3),λ l=>dZ ?_⟩;simp only [rJ,ph,Pu h hA];refine gz (λ f=>rfl) (ez (q _) ?_);simp only [la,ph,d4,cB ht,cA ht,t1,t2,decide_true,Bool.and_self,if_true,oX];refine ez (q2 true _ AL) ?_;simp only [cB hu,cA hu,u1,u2,decide_true,Bool.and_self,if_true];exact ez (q3 l) iS
theorem Nn {ts:List Tok}{ks:List aa}(h:CN ts ks)(hk:ks.length<=4000000000)(a:Int):C8 ((4,[123])::ts) (aa.mk 11 0 [] [] v0 ks a):=by
 refine qu (4,[123]) _ rfl (by decide) (by decide) (by decide) λ t M h1 h2 h3=>?_;simp only at h1 h2;obtain ⟨ks',p,q⟩:=h.2 M h3;refine ⟨aa.mk 11 0 [] [] v0 ks' t.fAt,lQ p hk,λ b l hc=>dZ ?_⟩;exact I3
def StT (ts:List Tok):Prop:=∃ z r,ts=z::r/\((z.1=4/\Dw z.2=true)\/(z.1≠4/\z.1≠5))
theorem Dm {ts:List Tok}(h:StT ts){L:List ad}(hL:kQ L=ts)(b:Bool)(l:List ad):Lq b (L++l):=by
 obtain ⟨z,r,rfl,h⟩:=h;obtain ⟨u,N,rfl,u1,u2,-⟩:=bb hL;rw [la];rcases h with ⟨h1,h2⟩ | ⟨h1,h2⟩
 ·exact lf (by rw [u1,h1]) (by rw [u2,h2]) _ _
 ·exact u7 (by rw [u1]; exact h1) (by rw [u1]; exact h2) _ _
def LpF (F:List Tok)(fl:List aa):Prop:=(F=[]/\fl=[])\/∃ tf x,F=(1,[105,102])::tf/\fl=[x]/\C0 tf x
def LpD (m:Bool)(D:List Tok)(dl:List aa):Prop:=(m=false/\D=[]/\dl=[])\/∃ td x,m=true/\D=(4,[61,62])::td/\dl=[x]/\C0 td x
def LpK (ky:Bytes)(K:List Tok):Prop:=(ky=[]/\K=[])\/(fT ky=false/\K=[(1,ky),(4,[44])])
def lpE (m:Bool):Bytes:=if m then [125] else [93]
theorem Dj (m:Bool):Dw (lpE m)=true:=by cases m <;> rfl
theorem Ip {m:Bool}{F:List Tok}{fl:List aa}(h:LpF F fl):StT (F++[(4,lpE m)]):=by
 rcases h with ⟨rfl,-⟩ | ⟨tf,x,rfl,-,-⟩
 ·exact ⟨_,_,Z,.inl ⟨Z,Dj m⟩⟩
 ·exact ⟨_,_,Z,.inr ⟨by simp,by simp⟩⟩
theorem NZ {m:Bool}{D F:List Tok}{dl fl:List aa}(h:LpD m D dl)(g:LpF F fl):StT (D++(F++[(4,lpE m)])):=by
 rcases h with ⟨-,rfl,-⟩ | ⟨td,x,-,rfl,-,-⟩
 ·exact Ip g
 ·exact ⟨_,_,Z,.inl ⟨Z,by decide⟩⟩
theorem lp_f {m:Bool}{F:List Tok}{fl:List aa}(h:LpF F fl){L:List ad}(hL:kQ L=F++[(4,lpE m)]):∃ fl',F2 (RE λ _ _=>True) fl fl'/\∀ (G0z:List aa->aa) ks l,Ans (λ f=>pb (if wdB true (L++l) [105,102] then pb (eT f true (tl true (L++l))) λ e l=>pok (ks++[e]) l else pok ks (L++l)) λ ks l=>pb (d4 true (lpE m) l) λ _ l=>pok (G0z ks) l) (.inr (G0z (ks++fl'),l)):=by
 rcases h with ⟨rfl,rfl⟩ | ⟨tf,x,rfl,rfl,hx⟩
 ·obtain ⟨u,N,rfl,u1,u2,hN⟩:=bb hL
  cases eu hN
  simp only at u1 u2;have hu:u.Ar≠5:=by omega
  refine ⟨[],.nil,λ G0z ks l=>?_⟩;simp only [la,ur,uU hu,u1,d4,cA hu,u2,List.append_nil];exact gz (λ f=>by simp [oX,cB hu,cA hu,u1,u2]; rfl) iS
 ·obtain ⟨t,K,rfl,t1,t2,hK⟩:=bb hL;obtain ⟨A,K,rfl,hA,hK⟩:=ep hK;obtain ⟨u,N,rfl,u1,u2,hN⟩:=bb hK
  cases eu hN
  simp only at t1 t2 u1 u2;have ht:t.Ar≠5:=by omega
  have hu:u.Ar≠5:=by omega
  obtain ⟨x',p,q⟩:=hx A hA;refine ⟨[x'],f2r p,λ G0z ks l=>?_⟩;simp only [la,ur,ph,uU ht,cA ht,t1,t2,decide_true,Bool.and_self,if_true];refine ez (l:=u::l) (ez (q true (u::l) (lf u1 (by rw [u2]; exact Dj m) _ _)) iS) ?_;simp only [d4,cB hu,cA hu,u1,u2,decide_true,Bool.and_self,if_true,oX];exact iS
theorem lp_s {m:Bool}{ky nm:Bytes}(hn:fT nm=false){ta tc K D F:List Tok}{a c:aa}{dl fl:List aa}(hK:LpK ky K)(ha:C0 ta a)(hc:C0 tc c)(hD:LpD m D dl)(hF:LpF F fl){L:List ad}(hL:kQ L=K++(1,nm)::(1,[105,110])::(ta++(4,[58])::(tc++(D++(F++[(4,lpE m)])))))(at':Int) :
  ∃ ks',F2 (RE λ _ _=>True) ([a,c]++dl++fl) ks'/\∀ l,Ans (λ f=>nz f at' (if m then 13 else 12) (L++l)) (.inr (aa.mk (if m then 13 else 12) 0 nm ky v0 ks' at',l)):=by
 obtain ⟨KL,R,rfl,kl,hR⟩:=ep hL;obtain ⟨n,R,rfl,n1,n2,hR⟩:=bb hR;obtain ⟨i,R,rfl,i1,i2,hR⟩:=bb hR;obtain ⟨A,R,rfl,hA,hR⟩:=ep hR;obtain ⟨t,R,rfl,t1,t2,hR⟩:=bb hR;obtain ⟨C,R,rfl,hC,hR⟩:=ep hR;simp only at n1 n2 i1 i2 t1 t2;have hn5:n.Ar≠5:=by omega
 have hi5:i.Ar≠5:=by omega
 have ht5:t.Ar≠5:=by omega
 obtain ⟨a',pa,qa⟩:=ha A hA;obtain ⟨c',pc,qc⟩:=hc C hC;have stR:=NZ hD hF (m:=m)
 -- behind the second colon
 have tail:∃ xs,F2 (RE λ _ _=>True) (dl++fl) xs/\∀ (l:List ad) (nk:Bytes×Bytes),Ans (λ f=>pb (if (if m then (13:Int) else 12)=13 then pb (d4 true [61,62] (R++l)) λ _ l=>pb (eT f true l) λ d l=>pok [a',c',d] l else pok [a',c'] (R++l)) λ ks l =>
   pb (if wdB true l [105,102] then pb (eT f true (tl true l)) λ e l=>pok (ks++[e]) l else pok ks l) λ ks l =>
   pb (d4 true (if (if m then (13:Int) else 12)=13 then [125] else [93]) l) λ _ l=>pok (aa.mk (if m then 13 else 12) 0 nk.1 nk.2 v0 ks at') l) (.inr (aa.mk (if m then 13 else 12) 0 nk.1 nk.2 v0 ([a',c']++xs) at',l)):=by
  rcases hD with ⟨rfl,rfl,rfl⟩ | ⟨td,d,rfl,rfl,rfl,hd⟩
  ·obtain ⟨fl',p,q⟩:=lp_f (m:=false) hF hR;refine ⟨fl',p,λ l nk=>?_⟩;exact gz (λ f=>rfl) (q (λ ks=>aa.mk 12 0 nk.1 nk.2 v0 ks at') [a',c'] l)
  ·obtain ⟨u,R,rfl,u1,u2,hR⟩:=bb hR;obtain ⟨Dd,R,rfl,hDd,hR⟩:=ep hR;simp only at u1 u2;have hu:u.Ar≠5:=by omega
   obtain ⟨d',pd,qd⟩:=hd Dd hDd;obtain ⟨fl',p,q⟩:=lp_f (m:=true) hF hR;refine ⟨d'::fl',.cons pd p,λ l nk=>?_⟩;simp only [la,ph,d4,cB hu,cA hu,u1,u2,decide_true,Bool.and_self,if_true,oX];refine ez (l:=R++l) (ez (qd true _ (Dm (Ip (m:=true) hF) hR _ _)) iS) ?_;exact gz (λ f=>rfl) (q (λ ks=>aa.mk 13 0 nk.1 nk.2 v0 ks at') [a',c',d'] l)
 obtain ⟨xs,px,qx⟩:=tail;refine ⟨[a',c']++xs,?_,λ l=>?_⟩
 ·rw [ph]; exact .cons pa (.cons pc px)
 -- from the name on
 have mid:∀ (l:List ad) (nk:Bytes×Bytes),Ans (λ f=>pb (DK true [105,110] (i::(A++t::(C++(R++l))))) λ _ l=>pb (eT f true l) λ a l=>pb (d4 true [58] l) λ _ l=>pb (eT f true l) λ c l =>
   pb (if (if m then (13:Int) else 12)=13 then pb (d4 true [61,62] l) λ _ l=>pb (eT f true l) λ d l=>pok [a,c,d] l else pok [a,c] l) λ ks l =>
   pb (if wdB true l [105,102] then pb (eT f true (tl true l)) λ e l=>pok (ks++[e]) l else pok ks l) λ ks l =>
   pb (d4 true (if (if m then (13:Int) else 12)=13 then [125] else [93]) l) λ _ l=>pok (aa.mk (if m then 13 else 12) 0 nk.1 nk.2 v0 ks at') l) (.inr (aa.mk (if m then 13 else 12) 0 nk.1 nk.2 v0 ([a',c']++xs) at',l)):=by
  intro l nk;simp only [DK,uU hi5,cA hi5,i1,i2,decide_true,Bool.and_self,if_true,oX];refine ez (qa true _ (lf t1 (by rw [t2]; decide) _ _)) ?_;simp only [d4,cB ht5,cA ht5,t1,t2,decide_true,Bool.and_self,if_true,oX];refine ez (qc true _ (Dm stR hR _ _)) ?_;exact qx l nk
 refine dZ ?_;rcases hK with ⟨rfl,rfl⟩ | ⟨hk,rfl⟩
 ·cases eu kl
  simp only [nz,ur,la,ph,BF,gD hn5,cA hn5,n1,n2,hn,and_self,if_true,oX,cB hi5,i1];exact gz (λ f=>rfl) (mid l (nm,[]))
 ·obtain ⟨k,Q,rfl,k1,k2,kl⟩:=bb kl;obtain ⟨z,Q,rfl,z1,z2,kl⟩:=bb kl
  cases eu kl
  simp only at k1 k2 z1 z2;have Up:k.Ar≠5:=by omega
  have hz5:z.Ar≠5:=by omega
  simp only [nz,ur,la,ph,BF,gD Up,cA Up,k1,k2,hk,and_self,if_true,oX,cB hz5,cA hz5,z1,z2,gD hn5,cA hn5,n1,n2,hn,decide_true,Bool.and_self];exact mid l (nm,ky)
theorem LG {m:Bool}{ky nm:Bytes}(hn:fT nm=false){ta tc K D F:List Tok}{a c:aa}{dl fl:List aa}(hK:LpK ky K)(ha:C0 ta a)(hc:C0 tc c)(hD:LpD m D dl)(hF:LpF F fl)(at':Int) :
  C8 ((4,if m then [123] else [91])::(1,[102,111,114])::(K++(1,nm)::(1,[105,110])::(ta++(4,[58])::(tc++(D++(F++[(4,lpE m)])))))) (aa.mk (if m then 13 else 12) 0 nm ky v0 ([a,c]++dl++fl) at'):=by
 refine qu (4,if m then [123] else [91]) _ rfl G (by cases m <;> decide) (by cases m <;> decide) λ t M h1 h2 h3=>?_;obtain ⟨u,N,rfl,u1,u2,hN⟩:=bb h3;simp only at h1 h2 u1 u2;have ht:t.Ar≠5:=by omega
 have hu:u.Ar≠5:=by omega
 obtain ⟨ks',p,q⟩:=lp_s (m:=m) hn hK ha hc hD hF hN t.fAt
 have Mp:([a,c]++dl++fl).length<=4000000000:=by
  rcases hD with ⟨-,-,rfl⟩ | ⟨_,_,-,-,rfl,-⟩ <;> rcases hF with ⟨-,rfl⟩ | ⟨_,_,-,rfl,-⟩ <;> simp
 refine ⟨aa.mk (if m then 13 else 12) 0 nm ky v0 ks' t.fAt,lQ p Mp,λ b l hc=>dZ ?_⟩
 cases m
 ·exact Jk
 ·exact Jk
end Go.Ab.R06
end
section
namespace Go.Ab.R06
open Go.Ab Go.Ab.RB Go.Lib
def PX (n D N:Nat)(e:aa)(t:Bytes):Prop:=(∃ b r,t=b::r/\b≠61)/\∃ ts,ts.length<=N/\Bgn ts/\CL n ts e/\∀ y,qM y->Go D ts (t++y) y
theorem PX.mono {n D N E M:Nat}{e:aa}{t:Bytes}(h:PX n D N e t)(hD:D<=E)(hN:N<=M):PX n E M e t:=by
 obtain ⟨h0,ts,h1,h2,h3,h4⟩:=h;exact ⟨h0,ts,by omega,h2,h3,λ y hy=>(h4 y hy).mono hD⟩
theorem PX.weak {n m D N:Nat}{e:aa}{t:Bytes}(hn:n<=m)(hm:m<=8)(h:PX m D N e t):PX n D N e t:=by
 obtain ⟨h0,ts,h1,h2,h3,h4⟩:=h;obtain ⟨k,rfl⟩:∃ k,m=n+k:=⟨m - n,by omega⟩
 exact ⟨h0,ts,h1,h2,BO hm h3,h4⟩
theorem J3:qM []:=λ z h=>by cases h
theorem oz {b:UInt8}{y:Bytes}(h:idB b=false):qM (b::y):=λ z hz=>by
 simp only [List.head?_cons,Option.mem_def,bx] at hz;rw [<- hz]; exact h
theorem xW {D N:Nat}{e:aa}{t:Bytes}(h:PX 0 D N e t)(hD:D<=32)(hN:N < 16384)(ht:t.length<=65536)(base:Int):∃ e',EQV e e'/\Ans (λ f=>gi f t base) (.inr e'):=by
 obtain ⟨h0,ts,h1,h2,h3,h4⟩:=h;have g:=h4 [] J3;rw [List.append_nil] at g;obtain ⟨L,E,hs,hk,hL,hE⟩:=zU hD O ht g;obtain ⟨u,M,rfl,u1,u2,hM⟩:=bb (L:=E) hE
 cases eu hM
 have hL2:kQ (L.map (mvT base))=ts:=by
  rw [<- hL]; unfold kQ; rw [List.map_map]; rfl
 obtain ⟨e',p,q⟩:=(h3:C0 ts e) _ hL2;refine ⟨e',p,dZ ?_⟩;simp only at u1;have u5:(mvT base u).Ar≠5:=by show u.Ar≠5; omega
 obtain ⟨F,q⟩:=q true [mvT base u] (u7 (by show u.Ar≠4; omega) u5 _ _);refine ⟨F,λ f hf=>?_⟩;simp only [gi,hk,hs,List.map_append,cl,List.map_nil,q f hf,gD u5];rw [if_neg (by decide),if_pos (show (mvT base u).Ar=6 from u1)]
def tmT (l:List Bytes):Bytes:=l.flatMap λ t=>36::123::(t++[125])
theorem oe (t:Bytes)(l:List Bytes):tmT (t::l)=36::123::(t++125::tmT l):=by simp [tmT]
theorem uP (y:Bytes):qM (125::y):=oz (by decide)
theorem Eh (D:Nat)(y:Bytes):Wrd D (4,[125]) (125::y) y:=qp (w:=[]) (by decide) (qw (by decide) y)
theorem w6 (r:Bytes)(h:r.head? = some 123):hasPrefix (36::r) [36,36,123]=false/\hasPrefix (36::r) [36,123]=true:=by
 cases r with
 | nil=>cases h
 | cons c r =>
  simp only [List.head?_cons,bx] at h;subst h;exact ⟨rfl,rfl⟩
theorem CH {D N:Nat}{e:aa}{t:Bytes}(h:PX 0 D N e t)(y:Bytes):kq 1 (t++125::y)=some (some y):=by
 obtain ⟨h0,ts,h1,h2,h3,h4⟩:=h;have g:=(h4 (125::y) (uP y)).c 0;rw [g,jD,if_neg (by decide),if_pos (by decide),if_pos rfl]
theorem NR {D N:Nat}{e:aa}{t:Bytes}(h:PX 0 D N e t)(y:Bytes){k:Nat}(hk:k+D<=32):oT k 1 (t++125::y)=.inr y:=by
 obtain ⟨h0,ts,h1,h2,h3,h4⟩:=h;have g:=(h4 (125::y) (uP y)).i k 0 hk;rw [g,(Eh D y).int hk,if_pos (by decide),if_pos rfl]
theorem Fs {D N:Nat}:∀ l:List (aa×Bytes),(∀ p∈l,PX 0 D N p.1 p.2)->yy (D+1) (tmT (l.map (·.2)))
 | [],_=>⟨λ k y _=>by rw [show tmT (List.map _ [])=[] from rfl,ur,jK,if_pos (by decide)],λ y=>by rw [show tmT (List.map _ [])=[] from rfl,ur,iN,if_pos (by decide)]⟩
 | p::l,h=>by
  have hp:=h p List.mem_cons_self;obtain ⟨i1,i2⟩:=Fs l λ q hq=>h q (List.mem_cons_of_mem _ hq);rw [cl,oe];refine ⟨λ k y hk=>?_,λ y=>?_⟩
  ·obtain ⟨d1,d2⟩:=w6 (123::(p.2++125::tmT (l.map (·.2))++34::y)) rfl;simp only [la,ph] at d1 d2 ⊢;rw [jK,if_neg (by decide),if_neg (by rw [d1]; decide),if_pos d2,if_neg O];show (match oT (k+1) 1 (p.2++125::(tmT (l.map (·.2))++34::y)) with | .inl e=>(.inl e:SE⊕Bytes) | .inr l=>mH k l)=_;rw [NR hp _ O];exact i1 k y hk
  ·obtain ⟨d1,d2⟩:=w6 (123::(p.2++125::tmT (l.map (·.2))++34::y)) rfl;simp only [la,ph] at d1 d2 ⊢;rw [iN,if_neg (by decide),if_neg (by decide),if_neg (by rw [d1]; decide),if_pos d2];show (match kq 1 (p.2++125::(tmT (l.map (·.2))++34::y)) with | none=>none | some none=>some none | some (some r')=>kh r')=_;rw [CH hp];exact i2 y
theorem Dq {D N:Nat}(hD:D<=32)(hN:N < 16384):∀ (l:List (aa×Bytes)),(∀ p∈l,PX 0 D N p.1 p.2/\p.2.length<=65536)->∀ pos:Int,∃ es' pos',F2 (RE λ _ _=>True) (l.map (·.1)) es'/\∀ parts R3,Ans (λ f=>eZ f pos pos [] parts R3 (tmT (l.map (·.2)))) (.inr (pos',pos',[],parts++es',R3||!l.isEmpty))
 | [],_,pos=>⟨[],pos,.nil,λ parts R3=>dZ ⟨0,λ f _=>by show eZ (f+1) pos pos [] parts R3 []=_; rw [eZ]; simp⟩⟩
 | p::l,h,pos=>by
  obtain ⟨hp,hl⟩:=h p List.mem_cons_self;obtain ⟨e',q1,Fw,q2⟩:=xW hp hD hN hl (pos+2);rw [show (p::l).map (·.2)=p.2::l.map (·.2) from rfl,oe];generalize hy:tmT (l.map (·.2))=y;obtain ⟨es',pos',p1,p2⟩:=Dq hD hN l (λ q hq=>h q (List.mem_cons_of_mem _ hq)) (pos+(((36:UInt8)::123::(p.2++125::y)).length - y.length:Nat));rw [hy] at p2;refine ⟨e'::es',pos',.cons q1 p1,λ parts R3=>dZ ?_⟩;obtain ⟨F,p2⟩:=p2 (parts++[e']) true;refine ⟨F+Fw+(p.2++125::y).length+1,λ f hf=>?_⟩;obtain ⟨d1,d2⟩:=w6 (123::(p.2++125::y)) rfl;show eZ (f+1) pos pos [] parts R3 (36::123::(p.2++125::y))=_;rw [qB,if_neg (by rw [d1]; decide),if_pos d2]
  show (match ee f 1 (p.2++125::y) with
    | none=>none
    | some none=>some (.inl (40,pos))
    | some (some r')=>match gi f ((p.2++125::y).take ((p.2++125::y).length - r'.length - 1)) (pos+2) with
     | none=>none
     | some (.inl e)=>some (.inl e)
     | some (.inr e)=>eZ f (pos+(((36:UInt8)::123::(p.2++125::y)).length - r'.length:Nat)) (pos+(((36:UInt8)::123::(p.2++125::y)).length - r'.length:Nat)) [] (flS pos pos [] parts++[e]) true r':Option (PE⊕(Int×Int×Bytes×List aa×Bool)))=_
  rw [mh O,CH hp];simp only
  rw [show (p.2++125::y).take ((p.2++125::y).length - y.length - 1)=p.2 by
   rw [show (p.2++125::y).length - y.length - 1=p.2.length by simp only [bt,aq]; omega,List.take_left],show gi f p.2 (pos+2)=_ from q2 f O]
  simp only;rw [show flS pos pos [] parts=parts from if_neg O];refine (p2 f O).trans ?_;simp
theorem Lr {D N:Nat}(hD:D<=32)(hN:N < 16384){l:List (aa×Bytes)}(hl:l≠[])(h:∀ p∈l,PX 0 D N p.1 p.2/\p.2.length<=65536){a:Int}(Mp:l.length<=4000000000)(hc:chk (aa.mk 2 0 [] [] v0 (l.map (·.1)) a)=0):TM (tmT (l.map (·.2))) (aa.mk 2 0 [] [] v0 (l.map (·.1)) a):=by
 intro at';obtain ⟨es',pos',p1,p2⟩:=Dq hD hN l h at';have hq:EQV (aa.mk 2 0 [] [] v0 (l.map (·.1)) a) (aa.mk 2 0 [] [] v0 es' at'):=lQ p1 pK;refine ⟨_,hq,dZ ?_⟩;obtain ⟨F,p2⟩:=p2 [] false;refine ⟨F,λ f hf=>?_⟩
 have RP:l.isEmpty=false:=by cases l with
  | nil=>exact absurd Z hl
  | cons=>rfl
 simp only [mr,p2 f hf,RP,ur,Bool.false_or,Bool.not_false];have:rS at' (pos',pos',[],es',true)=aa.mk 2 0 [] [] v0 es' at':=by simp [rS,flS]
 rw [this];unfold ml;simp only;rw [if_pos (by rw [Pd hq]; exact hc)]
theorem xt {v:Bytes}(hv:validD v=true)(hl:v.length<=4096)(a:Int):TM (quo v) (rv v a)/\∀ D,yy D (quo v):=by
 have hu:=uK _ v (mv _) hv;refine ⟨λ at'=>⟨rv v at',lQ .nil (rg _),dZ ?_⟩,λ D=>⟨λ k y _=>?_,λ y=>?_⟩⟩
 ·have g:=qO _ v [] (mv _) hu G Y;obtain ⟨j,g⟩:=g.r;refine ⟨j+1,λ f hf=>?_⟩;obtain ⟨f,rfl⟩:∃ k,f=(k+1)+j:=⟨f - 1 - j,by omega⟩
  have g:=g (f+1) at' at' [] [] false nK;rw [List.append_nil] at g;simp only [mr,g];rw [eZ]
  have hc:chk (rv v at')=0:=by
   unfold chk;rw [lV,if_neg (by decide),if_neg (by decide)]
   have:iR (rv v at')=0:=by
    unfold iR;rw [if_neg (by rw [show qt (rv v at')=true from rfl]; decide),if_pos (show (rv v at').Ar=1 from rfl)];show qe (ag.mk 3 0 v [] [])=0;simp [qe,hv,ag.Ar,ag.F',ag.If,ag.Gw,ag.Df]; omega
   rw [if_pos this];show (jg 1 2 []).1=0;rw [jg]
  show some (ml (.inr (rv v at')))=_;unfold ml;simp only;rw [if_pos hc]
 ·have g:=qO _ v (34::y) (mv _) hu G Y;rw [g.s k,jK,if_pos (by decide)]
 ·have g:=qO _ v (34::y) (mv _) hu G Y;rw [g.q,iN,if_pos (by decide)]
section
variable {p:Prop}
theorem Il (h:p:=by
 rw [la,ph]
 exact (ia (D:=D) (b:=40) (by decide) (by decide) _).trans ((h4 (41::y) (oz (by decide))).trans (ia (by decide) (by decide) y))):p:=h
theorem Hi (h:p:=by
 rcases ho with ⟨rfl,-⟩ | ⟨rfl,-⟩ <;> exact ⟨_,_,rfl,by decide⟩):p:=h
theorem mU (h:p:=by exact ⟨_,_,Z,by decide⟩):p:=h
theorem gM (h:p:=by exact oz (by decide)):p:=h
end
def sgL:List Bytes:=[[124,124],[38,38],[61,61],[33,61],[60],[60,61],[62],[62,61],[43],[45],[42],[47],[37],[61],[61,62]]
theorem LL {s:Bytes}(h:s∈sgL)(y:Bytes):fK (s++32::y)=s:=by
 simp only [sgL,ro,List.not_mem_nil,or_false] at h;rcases h with rfl | rfl | rfl | rfl | rfl | rfl | rfl | rfl | rfl | rfl | rfl | rfl | rfl | rfl | rfl <;> rfl
theorem H8 {D:Nat}{s:Bytes}(h:s∈sgL)(y:Bytes):Go D [(4,s)] (32::(s++32::y)) y:=by
 have hs:=LL h y
 have h2:∃ b w,s=b::w/\(gW b=false/\b.toNat≠35/\iJ b=false/\fe b=false/\b.toNat≠10/\b.toNat≠34)/\∀ z∈b::w,nbr z=true:=by
  simp only [sgL,ro,List.not_mem_nil,or_false] at h;rcases h with rfl | rfl | rfl | rfl | rfl | rfl | rfl | rfl | rfl | rfl | rfl | rfl | rfl | rfl | rfl <;> exact ⟨_,_,rfl,by decide,by decide⟩
 obtain ⟨b,w,rfl,hb,hn⟩:=h2;exact (Go.sp (D:=D)).trans ((xu hb hs hn).trans Go.sp)
theorem PG {D:Nat}{y:Bytes}(h:∃ b r,y=b::r/\b≠61):Go D [(4,[33])] (33::y) y:=by
 obtain ⟨b,r,rfl,hb⟩:=h;refine xu (w:=[]) (by decide) ?_ (by decide)
 have e:∀ t∈qL,hasPrefix ((33:UInt8)::([]++b::r)) t=false:=by
  intro t ht;simp only [qL,ro,List.not_mem_nil,or_false] at ht;rcases ht with rfl | rfl | rfl | rfl | rfl | rfl | rfl
  ·rfl
  ·rfl
  ·have h61:((61:UInt8) == b)=false:=by simpa using λ e=>hb e.symm
   show ((33:UInt8) == 33&&((61:UInt8) == b&&true))=false;rw [h61]; rfl
  ·rfl
  ·rfl
  ·rfl
  ·rfl
 have f:qL.find? (λ t=>hasPrefix ((33:UInt8)::([]++b::r)) t)=none:=List.find?_eq_none.2 λ t ht=>by rw [e t ht]; decide
 show fK ((33:UInt8)::([]++b::r))=[33];unfold fK;rw [f]
 rfl
theorem Bl {s:Bytes}(h:bG s=true):∃ b r,s=b::r/\b≠61:=by
 cases s with
 | nil=>cases h
 | cons b r =>
  refine ⟨b,r,rfl,?_⟩;rintro rfl;simp only [bG,n7] at h;exact absurd h.1.2 (by decide)
theorem sW {D:Nat}{e:aa}{t:Bytes}{z:Tok}(h0:∃ b r,t=b::r/\b≠61)(hz:bgT z=true)(h:C8 [z] e)(hg:∀ y,qM y->Go D [z] (t++y) y):PX 8 D 1 e t:=⟨h0,[z],mv _,⟨z,[],rfl,hz⟩,h,hg⟩
theorem LC {s:Bytes}(hi:bG s=true)(hr:fT s=false)(a:Int)(D:Nat):PX 8 D 1 (aa.mk 3 0 s [] v0 [] a) s :=
 sW (Bl hi) (by
  have:s≠[102,111,114]:=by rintro rfl; exact absurd hr (by decide)
  simp [bgT,this]) (Ml hr a) λ y hy=>kV hi hy
theorem xE {s:Bytes}{v:ag}(a:Int)(D:Nat)(h:(s=[110,117,108,108]/\v=v0)\/(s=[116,114,117,101]/\v=ag.mk 1 1 [] [] [])\/(s=[102,97,108,115,101]/\v=ag.mk 1 0 [] [] [])):PX 8 D 1 (pi v a) s:=by
 have hi:bG s=true:=by rcases h with ⟨rfl,-⟩ | ⟨rfl,-⟩ | ⟨rfl,-⟩ <;> decide
 refine sW (Bl hi) ?_ (Mm a h) λ y hy=>kV hi hy;rcases h with ⟨rfl,-⟩ | ⟨rfl,-⟩ | ⟨rfl,-⟩ <;> decide
theorem Ne {s:Bytes}{n:Int}(h0:s≠[])(hs:∀ z∈s,fe z=true)(h:sx s=(n,0))(a:Int)(D:Nat):PX 8 D 1 (pi (ag.mk 2 n [] [] []) a) s:=by
 refine sW ?_ (by simp [bgT]) (Nq a h) λ y hy=>PY h0 hs hy
 cases s with
 | nil=>exact absurd Z h0
 | cons b r=>exact ⟨b,r,rfl,by rintro rfl; exact absurd (hs _ List.mem_cons_self) (by decide)⟩
theorem Gq {s:Bytes}{e:aa}{D:Nat}(h:TM s e)(hs:yy D s):PX 8 D 1 e (34::(s++[34])):=by
 refine sW mU (by simp [bgT]) (Ov h) λ y hy=>?_;rw [la,ph];exact Gn hs
theorem F0 {D N:Nat}{e:aa}{t:Bytes}(h:PX 0 D N e t):PX 8 D (N+2) e (40::(t++[41])):=by
 obtain ⟨-,ts,h1,h2,h3,h4⟩:=h;refine ⟨mU,(4,[40])::(ts++[(4,[41])]),by simp; omega,mU,IV h3,λ y hy=>?_⟩;exact Il
theorem MD {D N:Nat}{e:aa}{t nm:Bytes}(h:PX 8 D N e t)(hi:bG nm=true)(a:Int):PX 8 D (N+2) (aa.mk 4 0 nm [] v0 [e] a) (t++46::nm):=by
 obtain ⟨⟨b,r,rfl,hb⟩,ts,h1,h2,h3,h4⟩:=h;refine ⟨⟨b,_,rfl,hb⟩,ts++[(4,[46]),(1,nm)],by simp; omega,h2.app,LU h3 nm a,λ y hy=>?_⟩;rw [ph,la];exact (h4 _ gM).trans ((ia (D:=D) (b:=46) (by decide) (by decide) _).trans (kV hi hy))
theorem Od {D N M:Nat}{e x:aa}{t u:Bytes}(h:PX 8 D N e t)(g:PX 0 D M x u)(a:Int):PX 8 D (N+M+2) (aa.mk 5 0 [] [] v0 [e,x] a) (t++91::(u++[93])):=by
 obtain ⟨⟨b,r,rfl,hb⟩,ts,h1,h2,h3,h4⟩:=h;obtain ⟨-,us,g1,g2,g3,g4⟩:=g;refine ⟨⟨b,_,rfl,hb⟩,ts++(4,[91])::(us++[(4,[93])]),by simp; omega,h2.app,Pk h3 g3 a,λ y hy=>?_⟩;simp only [ph,la,ur];exact (h4 _ gM).trans ((ia (D:=D) (b:=91) (by decide) (by decide) _).trans ((g4 (93::y) gM).trans (ia (by decide) (by decide) y)))
theorem Rt {D N:Nat}{e:aa}{t s:Bytes}{o:Int}(h:PX 7 D N e t)(ho:s=[33]/\o=1\/s=[45]/\o=2)(a:Int):PX 7 D (N+1) (aa.mk 6 o [] [] v0 [e] a) (s++t):=by
 obtain ⟨h0,ts,h1,h2,h3,h4⟩:=h;refine ⟨?_,(4,s)::ts,by simp; omega,?_,QO h3 ho a,λ y hy=>?_⟩
 ·exact Hi
 ·exact Hi
 ·rcases ho with ⟨rfl,-⟩ | ⟨rfl,-⟩
  ·have hb:∃ b r,t++y=b::r/\b≠61:=by
    obtain ⟨b,r,rfl,hb⟩:=h0;exact ⟨b,_,rfl,hb⟩
   exact (PG (D:=D) hb).trans (h4 y hy)
  ·exact (ia (D:=D) (b:=45) (by decide) (by decide) _).trans (h4 y hy)
theorem Nc:∀ j:Fin 6,∀ p∈oQ j.val,p.1∈sgL:=by decide
theorem Ob {j D N M:Nat}(hj:j<=5){s:Bytes}{o:Int}(ho:(s,o)∈oQ j){e x:aa}{t u:Bytes}(h:PX (j+1) D N e t)(g:PX (j+2) D M x u)(a:Int):PX (j+1) D (N+M+1) (aa.mk 7 o [] [] v0 [e,x] a) (t++32::(s++32::u)):=by
 obtain ⟨⟨b,r,rfl,hb⟩,ts,h1,h2,h3,h4⟩:=h;obtain ⟨-,us,g1,g2,g3,g4⟩:=g;have hs:s∈sgL:=Nc ⟨j,by omega⟩ (s,o) ho;refine ⟨⟨b,_,rfl,hb⟩,ts++(4,s)::us,by simp; omega,h2.app,?_,λ y hy=>?_⟩
 ·have:=Oh hj ho (Rm hj h3) (Rq O g3) a
  match j,hj,this with
  | 0,_,h=>exact h
  | 1,_,h=>exact h
  | 2,_,h=>exact h
  | 3,_,h=>exact h
  | 4,_,h=>exact h
  | 5,_,h=>exact h
 ·simp only [ph,la];exact (h4 (32::(s++32::(u++y))) gM).trans ((H8 (D:=D) hs _).trans (g4 y hy))
theorem Mk {D N M K:Nat}{c x w:aa}{t u v:Bytes}(h:PX 1 D N c t)(g:PX 0 D M x u)(k:PX 0 D K w v)(a:Int):PX 0 D (N+M+K+2) (aa.mk 8 0 [] [] v0 [c,x,w] a) (t++32::63::32::(u++32::58::32::v)):=by
 obtain ⟨⟨b,r,rfl,hb⟩,ts,h1,h2,h3,h4⟩:=h;obtain ⟨-,us,g1,g2,g3,g4⟩:=g;obtain ⟨-,vs,k1,k2,k3,k4⟩:=k;refine ⟨⟨b,_,rfl,hb⟩,ts++(4,[63])::(us++(4,[58])::vs),by simp; omega,h2.app,MK (mn O h3) g3 k3 a,λ y hy=>?_⟩;simp only [ph,la];refine (h4 _ gM).trans ((Go.sp (D:=D)).trans ((ia (D:=D) (b:=63) (by decide) (by decide) _).trans ((Go.sp (D:=D)).trans ?_)));exact (g4 _ gM).trans ((Go.sp (D:=D)).trans ((ia (D:=D) (b:=58) (by decide) (by decide) _).trans ((Go.sp (D:=D)).trans (k4 y hy))))
def PI (z:UInt8)(D N:Nat)(ks:List aa)(t:Bytes):Prop:=∃ ts,ts.length<=N/\CI [z] ts ks/\∀ y,Go D ts (t++z::y) y
def clZ (z:UInt8):Bool:=decide (z=41)||decide (z=93)
theorem Cl {z:UInt8}(h:clZ z=true):[z]∈([[41],[93],[125]]:List Bytes)/\Jh z=true/\(z≠123/\z≠125)/\idB z=false:=by
 simp only [clZ,Bool.or_eq_true,decide_eq_true_eq] at h;rcases h with rfl | rfl <;> decide
theorem PI.mono {z:UInt8}{D N M:Nat}{ks:List aa}{t:Bytes}(h:PI z D N ks t)(hN:N<=M):PI z D M ks t:=by
 obtain ⟨ts,h1,h2,h3⟩:=h;exact ⟨ts,by omega,h2,h3⟩
theorem O8 {z:UInt8}(hz:clZ z=true)(D:Nat):PI z D 1 [] []:=by
 obtain ⟨h1,h2,h3,h4⟩:=Cl hz;exact ⟨[(4,[z])],mv _,NS [z],λ y=>ia h2 h3 y⟩
theorem Mh {z:UInt8}(hz:clZ z=true){D N M:Nat}{x:aa}{ks:List aa}{t u:Bytes}(h:PX 0 D N x t)(g:PI z D M ks u):PI z D (N+M+1) (x::ks) (t++44::32::u):=by
 obtain ⟨-,ts,h1,h2,h3,h4⟩:=h;obtain ⟨us,g1,g2,g3⟩:=g;refine ⟨ts++(4,[44])::us,by simp; omega,LM (Cl hz).1 h2 h3 g2,λ y=>?_⟩;simp only [ph,la];exact (h4 _ gM).trans ((ia (D:=D) (b:=44) (by decide) (by decide) _).trans ((Go.sp (D:=D)).trans (g3 y)))
theorem K3 {D N:Nat}{s t:Bytes}(hi:bG s=true)(hr:fT s=false){ks:List aa}(h:PI 41 D N ks t)(hk:ks.length<=4000000000)(a:Int):PX 8 D (N+2) (aa.mk 9 0 s [] v0 ks a) (s++40::(t++[41])):=by
 obtain ⟨ts,h1,h2,h3⟩:=h;obtain ⟨b,r,rfl,hb⟩:=Bl hi;refine ⟨⟨b,_,rfl,hb⟩,(1,b::r)::(4,[40])::ts,by simp; omega,⟨_,_,rfl,?_⟩,Mn hr h2 hk a,λ y hy=>?_⟩
 ·have:b::r≠[102,111,114]:=by intro e; rw [e] at hr; exact absurd hr (by decide)
  simp [bgT,this]
 ·simp only [ph,la,ur];exact (kV (D:=D) (t:=b::r) (y:=40::(t++41::y)) hi gM).trans ((ia (D:=D) (b:=40) (by decide) (by decide) _).trans (h3 y))
theorem L2 {D N:Nat}{t:Bytes}{ks:List aa}(h:PI 93 D N ks t)(hk:ks.length<=4000000000)(a:Int):PX 8 D (N+1) (aa.mk 10 0 [] [] v0 ks a) (91::(t++[93])):=by
 obtain ⟨ts,h1,h2,h3⟩:=h;refine ⟨mU,(4,[91])::ts,by simp; omega,mU,LQ h2 hk a,λ y hy=>?_⟩;simp only [ph,la,ur];exact (ia (D:=D) (b:=91) (by decide) (by decide) _).trans (h3 y)
def PK (D N:Nat)(k:aa)(t:Bytes):Prop:=∃ ts,ts.length<=N/\CK ts k/\∀ y,qM y->Go D ts (t++y) y
theorem Ng {s:Bytes}{e:aa}{D:Nat}(h:TM s e)(hs:yy D s):PK D 1 e (34::(s++[34])):=by
 refine ⟨[(3,s)],mv _,NT h,λ y hy=>?_⟩;rw [la,ph];exact Gn hs
theorem Fe {D N:Nat}{e:aa}{t:Bytes}(h:PX 0 D N e t):PK D (N+2) e (40::(t++[41])):=by
 obtain ⟨-,ts,h1,h2,h3,h4⟩:=h;refine ⟨(4,[40])::(ts++[(4,[41])]),by simp; omega,HV h3,λ y hy=>?_⟩;exact Il
def PN (D N:Nat)(ks:List aa)(t:Bytes):Prop:=∃ ts,ts.length<=N/\CN (ts++[(4,[125])]) ks/\∀ y,Go D ts (t++125::y) (125::y)
theorem PN.mono {D N M:Nat}{ks:List aa}{t:Bytes}(h:PN D N ks t)(hN:N<=M):PN D M ks t:=by
 obtain ⟨ts,h1,h2,h3⟩:=h;exact ⟨ts,by omega,h2,h3⟩
theorem O9 (D:Nat):PN D 0 [] []:=⟨[],mv _,ON,λ _=>Go.refl⟩
theorem QT {D:Nat}(y:Bytes):Go D [(4,[61])] (32::61::32::y) y:=H8 (s:=[61]) (by decide) y
theorem Lh {D N M K:Nat}{k x:aa}{ks:List aa}{t u v:Bytes}(h:PK D N k t)(g:PX 0 D M x u)(n:PN D K ks v):PN D (N+M+K+2) (k::x::ks) (t++32::61::32::(u++44::32::v)):=by
 obtain ⟨ts,h1,h2,h3⟩:=h;obtain ⟨-,us,g1,g2,g3,g4⟩:=g;obtain ⟨vs,n1,n2,n3⟩:=n;refine ⟨ts++(4,[61])::(us++(4,[44])::vs),by simp; omega,?_,λ y=>?_⟩
 ·simpa only [ph,la] using Lw h2 g3 n2
 ·simp only [ph,la];exact (h3 _ gM).trans ((QT (D:=D) _).trans ((g4 _ gM).trans ((ia (D:=D) (b:=44) (by decide) (by decide) _).trans ((Go.sp (D:=D)).trans (n3 y)))))
theorem ND {D N:Nat}{t:Bytes}{ks:List aa}(h:PN D N ks t)(hk:ks.length<=4000000000)(a:Int):PX 8 D (N+2) (aa.mk 11 0 [] [] v0 ks a) (123::(t++[125])):=by
 obtain ⟨ts,h1,h2,h3⟩:=h;refine ⟨mU,(4,[123])::(ts++[(4,[125])]),by simp; omega,mU,Nn h2 hk a,λ y hy=>?_⟩;simp only [ph,la,ur];exact zo (h3 y)
def TkK (K:Bytes)(ky:Bytes):Prop:=(ky=[]/\K=[])\/(bG ky=true/\fT ky=false/\K=ky++[44,32])
def TkD (m:Bool)(D N:Nat)(dl:List aa)(t:Bytes):Prop:=(m=false/\t=[]/\dl=[])\/∃ u x,m=true/\t=32::61::62::32::u/\dl=[x]/\PX 0 D N x u
def TkF (D N:Nat)(fl:List aa)(t:Bytes):Prop:=(t=[]/\fl=[])\/∃ u x,t=32::105::102::32::u/\fl=[x]/\PX 0 D N x u
theorem yz {t y:Bytes}(h:t=[]\/∃ b r,t=b::r/\idB b=false)(hy:qM y):qM (t++y):=by
 rcases h with rfl | ⟨b,r,rfl,hb⟩
 ·exact hy
 ·exact oz hb
theorem Gi {m:Bool}{D N:Nat}{dl:List aa}{t:Bytes}(h:TkD m D N dl t):t=[]\/∃ b r,t=b::r/\idB b=false:=by
 rcases h with ⟨-,rfl,-⟩ | ⟨u,x,-,rfl,-,-⟩
 ·exact .inl Z
 ·exact .inr mU
theorem Gg {D N:Nat}{fl:List aa}{t:Bytes}(h:TkF D N fl t):t=[]\/∃ b r,t=b::r/\idB b=false:=by
 rcases h with ⟨rfl,-⟩ | ⟨u,x,rfl,-,-⟩
 ·exact .inl Z
 ·exact .inr mU
theorem Ri {m:Bool}{D N1 N2 N3 N4:Nat}{ky nm K ta tc td tf:Bytes}{a c:aa}{dl fl:List aa}(hnm:bG nm=true)(hK:TkK K ky)(ha:PX 0 D N1 a ta)(hc:PX 0 D N2 c tc)(hd:TkD m D N3 dl td)(hf:TkF D N4 fl tf) :
  ∃ KT A C DT FT,LpK ky KT/\C0 A a/\C0 C c/\LpD m DT dl/\LpF FT fl/\KT.length<=2/\A.length<=N1/\C.length<=N2/\DT.length<=N3+1/\FT.length<=N4+1 /\
   ∀ y,qM y->Go D ((1,[102,111,114])::(KT++(1,nm)::(1,[105,110])::(A++(4,[58])::(C++(DT++FT))))) (102::111::114::32::(K++(nm++32::105::110::32::(ta++32::58::32::(tc++(td++(tf++y))))))) y:=by
 obtain ⟨-,A,a1,a2,a3,a4⟩:=ha;obtain ⟨-,C,c1,c2,c3,c4⟩:=hc
 have k:∃ KT:List Tok,LpK ky KT/\KT.length<=2/\∀ y,Go D KT (K++y) y:=by
  rcases hK with ⟨rfl,rfl⟩ | ⟨h1,h2,rfl⟩
  ·exact ⟨[],.inl ⟨Z,Z⟩,by simp,λ y=>Go.refl⟩
  ·refine ⟨[(1,ky),(4,[44])],.inr ⟨h2,Z⟩,by simp,λ y=>?_⟩;rw [ph];exact (kV (D:=D) h1 gM).trans ((ia (D:=D) (b:=44) (by decide) (by decide) _).trans Go.sp)
 have d:∃ DT:List Tok,LpD m DT dl/\DT.length<=N3+1/\∀ y,qM y->Go D DT (td++y) y:=by
  rcases hd with ⟨rfl,rfl,rfl⟩ | ⟨u,x,rfl,rfl,rfl,-,U,u1,u2,u3,u4⟩
  ·exact ⟨[],.inl ⟨Z,Z,Z⟩,by simp,λ y _=>Go.refl⟩
  ·exact ⟨(4,[61,62])::U,.inr ⟨U,x,Z,Z,Z,u3⟩,by simp; omega,λ y hy=>(H8 (D:=D) (s:=[61,62]) (by decide) (u++y)).trans (u4 y hy)⟩
 have f:∃ FT:List Tok,LpF FT fl/\FT.length<=N4+1/\∀ y,qM y->Go D FT (tf++y) y:=by
  rcases hf with ⟨rfl,rfl⟩ | ⟨u,x,rfl,rfl,-,U,u1,u2,u3,u4⟩
  ·exact ⟨[],.inl ⟨Z,Z⟩,by simp,λ y _=>Go.refl⟩
  ·exact ⟨(1,[105,102])::U,.inr ⟨U,x,Z,Z,u3⟩,by simp; omega,λ y hy=>(Go.sp (D:=D)).trans ((kV (D:=D) (t:=[105,102]) (y:=32::(u++y)) (by decide) gM).trans ((Go.sp (D:=D)).trans (u4 y hy)))⟩
 obtain ⟨KT,k1,k2,k3⟩:=k;obtain ⟨DT,d1,d2,d3⟩:=d;obtain ⟨FT,f1,f2,f3⟩:=f;refine ⟨KT,A,C,DT,FT,k1,a3,c3,d1,f1,k2,a1,c1,d2,f2,λ y hy=>?_⟩;have nf:=yz (Gg hf) hy;have nd:=yz (Gi hd) nf;refine (kV (D:=D) (t:=[102,111,114]) (y:=32::(K++(nm++32::105::110::32::(ta++32::58::32::(tc++(td++(tf++y))))))) (by decide) gM).trans ((Go.sp (D:=D)).trans ((k3 _).trans ?_));refine (kV (D:=D) (t:=nm) hnm gM).trans ((Go.sp (D:=D)).trans ((kV (D:=D) (t:=[105,110]) (y:=32::(ta++32::58::32::(tc++(td++(tf++y))))) (by decide) gM).trans ((Go.sp (D:=D)).trans ?_)));refine (a4 _ gM).trans ((Go.sp (D:=D)).trans ((ia (D:=D) (b:=58) (by decide) (by decide) _).trans ((Go.sp (D:=D)).trans ?_)));exact (c4 _ nd).trans ((d3 _ nf).trans (f3 y hy))
theorem sR {m:Bool}{D N1 N2 N3 N4:Nat}{ky nm K ta tc td tf:Bytes}{a c:aa}{dl fl:List aa}(hnm:bG nm=true)(hr:fT nm=false)(hK:TkK K ky)(ha:PX 0 D N1 a ta)(hc:PX 0 D N2 c tc)(hd:TkD m D N3 dl td)(hf:TkF D N4 fl tf)(at':Int) :
  PX 8 D (N1+N2+N3+N4+10) (aa.mk (if m then 13 else 12) 0 nm ky v0 ([a,c]++dl++fl) at') ((if m then 123 else 91)::102::111::114::32::(K++(nm++32::105::110::32::(ta++32::58::32::(tc++(td++(tf++[if m then 125 else 93]))))))):=by
 obtain ⟨KT,A,C,DT,FT,h1,h2,h3,h4,h5,l1,l2,l3,l4,l5,g⟩:=Ri hnm hK ha hc hd hf;refine ⟨⟨_,_,rfl,by cases m <;> decide⟩,_,?_,⟨_,_,rfl,by cases m <;> simp [bgT]⟩,LG (m:=m) hr h1 h2 h3 h4 h5 at',λ y hy=>?_⟩
 ·simp; omega
 ·simp only [ph,la,ur]
  cases m with
  | false =>
   have:=(ia (D:=D) (b:=91) (by decide) (by decide) (102::111::114::32::(K++(nm++32::105::110::32::(ta++32::58::32::(tc++(td++(tf++93::y)))))))).trans ((g (93::y) gM).trans (ia (D:=D) (b:=93) (by decide) (by decide) y));simpa [lpE] using this
  | true =>
   have:=zo (g (125::y) gM);simpa [lpE] using this
end Go.Ab.R06
end
section
namespace Go.Ab.R06
open Go.Ab Go.Ab.RB Go.Lib
section
variable {p:Prop}
theorem IA (h:p:=by
 simp [hi] at h;by_cases q:¬y=[]/\(bG y=false\/fT y=true)
 ·simp [q] at h
 ·by_cases y0:y=[]
  ·exact .inl y0
  ·simp [y0] at q; exact .inr q):p:=h
theorem GL (h:p:=by
 by_cases q:bG n=false\/fT n=true
 ·simp [q] at h
 ·simpa using q):p:=h
theorem kI (h:p:=by cases zb <;> simp at h1 ⊢):p:=h
end
theorem AF {k n:Int}(h:em k n=some true):(k=1/\n=0)\/(k=2/\1<=n)\/(k=3/\n=0)\/(k=4/\n=1)\/(k=5/\n=2)\/(k=6/\n=1)\/(k=7/\n=2)\/(k=8/\n=3)\/k=9\/k=10\/(k=11/\n.tmod 2=0)\/(k=12/\(n=2\/n=3))\/(k=13/\(n=3\/n=4)):=by
 unfold em ck at h;by_cases h1:k=1
 ·subst h1; simp at h; exact .inl ⟨rfl,h⟩
 by_cases h2:k=2
 ·subst h2; simp at h; exact .inr (.inl ⟨rfl,h⟩)
 by_cases h3:k=3
 ·subst h3; simp at h; omega
 by_cases h4:k=4
 ·subst h4; simp at h; omega
 by_cases h5:k=5
 ·subst h5; simp at h; omega
 by_cases h6:k=6
 ·subst h6; simp at h; omega
 by_cases h7:k=7
 ·subst h7; simp at h; omega
 by_cases h8:k=8
 ·subst h8; simp at h; omega
 by_cases h9:k=9
 ·subst h9; simp
 by_cases h10:k=10
 ·subst h10; simp
 by_cases h11:k=11
 ·subst h11; simp at h; simp [h]
 by_cases h12:k=12
 ·subst h12;by_cases q:n=2
  ·subst q; simp
  ·simp [q] at h; omega
 by_cases h13:k=13
 ·subst h13;by_cases q:n=3
  ·subst q; simp
  ·simp [q] at h; omega
 simp [h1,h2,h3,h4,h5,h6,h7,h8,h9,h10,h11,h12,h13] at h
theorem DZ {v:ag}(h:fc v=some true):v=v0:=by
 obtain ⟨k,n,s,l,y⟩:=v;unfold fc at h;simp only [ag.Ar,ag.F',ag.If,ag.Gw,ag.Df] at h;by_cases h1:k=0 <;> by_cases h2:n=0 <;> by_cases h3:s=[] <;> by_cases h4:l=[] <;> by_cases h5:y=[] <;> simp [h1,h2,h3,h4,h5] at h;subst h1 h2 h3 h4 h5
 rfl
theorem Hn (v:ag):∃ b,fc v=some b:=by
 unfold fc
 repeat' split
 all_goals exact ⟨_,Z⟩
inductive xf:ag->Prop where
 | null:xf v0
 | bool (n:Int) (h:n=0\/n=1):xf (ag.mk 1 n [] [] [])
 | num (n:Int) (h0:0<=n) (h:n<=gO):xf (ag.mk 2 n [] [] [])
 | str (s:Bytes) (h:validD s=true) (hl:s.length<=4096):xf (ag.mk 3 0 s [] [])
inductive Shp:aa->Prop where
 | lit (v:ag) (a:Int) (h:xf v):Shp (pi v a)
 | tmpl (l:List aa) (a:Int) (h:l≠[]):Shp (aa.mk 2 0 [] [] v0 l a)
 | name (s:Bytes) (a:Int) (hi:bG s=true) (hr:fT s=false):Shp (aa.mk 3 0 s [] v0 [] a)
 | attr (s:Bytes) (x:aa) (a:Int) (hi:bG s=true):Shp (aa.mk 4 0 s [] v0 [x] a)
 | idx (x y:aa) (a:Int):Shp (aa.mk 5 0 [] [] v0 [x,y] a)
 | un (o:Int) (x:aa) (a:Int) (h:o=1\/o=2):Shp (aa.mk 6 o [] [] v0 [x] a)
 | bin (o:Int) (x y:aa) (a:Int) (h:3<=o/\o<=15):Shp (aa.mk 7 o [] [] v0 [x,y] a)
 | cond (x y z:aa) (a:Int):Shp (aa.mk 8 0 [] [] v0 [x,y,z] a)
 | call (s:Bytes) (l:List aa) (a:Int) (hi:bG s=true) (hr:fT s=false):Shp (aa.mk 9 0 s [] v0 l a)
 | list (l:List aa) (a:Int):Shp (aa.mk 10 0 [] [] v0 l a)
 | map (l:List aa) (a:Int) (h:l.length % 2=0):Shp (aa.mk 11 0 [] [] v0 l a)
 | loop (m:Bool) (s y:Bytes) (x c:aa) (dl fl:List aa) (a:Int) (hi:bG s=true) (hr:fT s=false) (hy:y=[]\/bG y=true/\fT y=false) (hd:m=false/\dl=[]\/m=true/\∃ d,dl=[d]) (hf:fl=[]\/∃ f,fl=[f]):Shp (aa.mk (if m then 13 else 12) 0 s y v0 ([x,c]++dl++fl) a)
theorem len1 {α:Type}{l:List α}(h:(l.length:Int)=1):∃ x,l=[x]:=by
 match l,h with
 | [x],_=>exact ⟨x,Z⟩
 | [],h=>simp at h
 | _::_::_,h=>simp only [aq] at h; omega
theorem P3 {α:Type}{l:List α}(h:(l.length:Int)=2):∃ x y,l=[x,y]:=by
 match l,h with
 | [x,y],_=>exact ⟨x,y,Z⟩
 | [],h=>simp at h
 | [_],h=>simp at h
 | _::_::_::_,h=>simp only [aq] at h; omega
theorem Or {α:Type}{l:List α}(h:(l.length:Int)=3):∃ x y z,l=[x,y,z]:=by
 match l,h with
 | [x,y,z],_=>exact ⟨x,y,z,Z⟩
 | [],h=>simp at h
 | [_],h=>simp at h
 | [_,_],h=>simp at h
 | _::_::_::_::_,h=>simp only [aq] at h; omega
theorem len4 {α:Type}{l:List α}(h:(l.length:Int)=4):∃ x y z w,l=[x,y,z,w]:=by
 match l,h with
 | [x,y,z,w],_=>exact ⟨x,y,z,w,Z⟩
 | [],h=>simp at h
 | [_],h=>simp at h
 | [_,_],h=>simp at h
 | [_,_,_],h=>simp at h
 | _::_::_::_::_::_,h=>simp only [aq] at h; omega
theorem Nu {v:ag}(hk:v.Ar=0\/v.Ar=1\/v.Ar=2\/v.Ar=3)(hn:v.Ar=2->0<=v.F')(h:qe v=0):xf v:=by
 obtain ⟨k,n,s,l,y⟩:=v;simp only [ag.Ar,ag.F'] at hk hn
 have h:(if k=1/\n≠0/\n≠1\/k≠1/\k≠2/\n≠0\/k≠3/\s≠[]\/l≠[]\/y≠[] then (1:Int)
  else if k=2/\¬(-gO<=n/\n<=gO) then 5 else if k=3/\4096 < s.length then 3 else if k=3/\validD s=false then 1 else 0)=0:=h
 by_cases q:k=1/\n≠0/\n≠1\/k≠1/\k≠2/\n≠0\/k≠3/\s≠[]\/l≠[]\/y≠[]
 ·rw [if_pos q] at h; cases h
 rw [if_neg q] at h;by_cases q2:k=2/\¬(-gO<=n/\n<=gO)
 ·rw [if_pos q2] at h; cases h
 rw [if_neg q2] at h;by_cases q3:k=3/\4096 < s.length
 ·rw [if_pos q3] at h; cases h
 rw [if_neg q3] at h;by_cases q4:k=3/\validD s=false
 ·rw [if_pos q4] at h; cases h
 simp only [not_or,not_and,Decidable.not_not] at q;obtain ⟨p1,p2,p3,p4,p5⟩:=q;subst p4 p5;rcases hk with rfl | rfl | rfl | rfl
 ·cases p2 O O; cases p3 O; exact .null
 ·cases p3 O
  exact .bool n (by
   by_cases n0:n=0
   ·exact .inl n0
   ·exact .inr (p1 Z n0))
 ·cases p3 O
  simp only [true_and,Decidable.not_not] at q2;exact .num n (hn rfl) q2.2
 ·cases p2 O O
  simp only [true_and,Bool.not_eq_false] at q3 q4;exact .str s q4 O
theorem He {e:aa}(hb:Sz e)(h:iR e=0):Shp e:=by
 have hs:qt e=true:=by
  unfold iR at h;split at h
  ·cases h
  ·rename_i q; simpa using q
 have h1:=pU hb;rw [hs] at h1;unfold iR at h;rw [if_neg (by rw [hs]; decide)] at h;unfold d7 at h1;obtain ⟨zb,hz⟩:=Hn e.By
 cases hk:em e.Ar (e.AI.length:Int) with
 | none=>rw [hk] at h1; cases h1
 | some kb =>
  cases kb with
  | false=>rw [hk] at h1; simp at h1
  | true =>
   have kf:=AF hk;rw [hk,hz] at h1;obtain ⟨k,o,n,y,v,l,a⟩:=e;simp only [aa.Ar,aa.fOp,aa.A',aa.B',aa.By,aa.AI] at h h1 kf hz;have hzv:zb=true->v=v0:=λ e=>DZ (by rw [hz,e]);rcases kf with ⟨rfl,hl⟩ | ⟨rfl,hl⟩ | ⟨rfl,hl⟩ | ⟨rfl,hl⟩ | ⟨rfl,hl⟩ | ⟨rfl,hl⟩ | ⟨rfl,hl⟩ | ⟨rfl,hl⟩ | rfl | rfl | ⟨rfl,hl⟩ | ⟨rfl,hl⟩ | ⟨rfl,hl⟩
   · -- literals
    have hl:l=[]:=by simpa using hl
    subst hl;have h:qe v=0:=by simpa using h
    by_cases ky:y=[]
    ·by_cases nm:n=[]
     ·subst ky nm;by_cases ho:o=0
      ·subst ho;refine .lit v a (Nu ?_ ?_ h)
       ·by_cases q0:v.Ar=0
        ·exact .inl q0
        by_cases q1:v.Ar=1
        ·exact .inr (.inl q1)
        by_cases q3:v.Ar=3
        ·exact .inr (.inr (.inr q3))
        by_cases q2:v.Ar=2
        ·exact .inr (.inr (.inl q2))
        simp [aH,aB,q0,q1,q2,q3] at h1
       ·intro q2;simp [aH,aB,q2] at h1;exact of_decide_eq_true h1
      ·simp [aH,aB,ho] at h1
     ·simp [aH,aB,ky,nm] at h1
    ·simp [aH,aB,ky] at h1
   ·have hy:y=[]:=by by_cases q:y=[] <;> first | exact q | (exfalso; simp [aH,aB,q] at h1)
    have hn:n=[]:=by by_cases q:n=[] <;> first | exact q | (exfalso; simp [aH,aB,q,hy] at h1)
    subst hy hn;simp [aH,aB] at h1
    cases hzv kI
    have ho:o=0:=by cases zb <;> simp at h1 <;> exact of_decide_eq_true h1
    subst ho;exact .tmpl l a (by rintro rfl; simp at hl)
   ·have hl:l=[]:=by simpa using hl
    have hy:y=[]:=by by_cases q:y=[] <;> first | exact q | (exfalso; simp [aH,aB,q] at h1)
    subst hy hl;simp [aH,aB] at h1 h
    cases hzv kI
    have ho:o=0:=by cases zb <;> simp at h1 <;> exact of_decide_eq_true h1
    subst ho;exact .name n a h.1 h.2
   ·obtain ⟨x,rfl⟩:=len1 hl;have hy:y=[]:=by by_cases q:y=[] <;> first | exact q | (exfalso; simp [aH,aB,q] at h1)
    subst hy;simp [aH,aB] at h1 h
    cases hzv kI
    have ho:o=0:=by cases zb <;> simp at h1 <;> exact of_decide_eq_true h1
    subst ho;exact .attr n x a h
   ·obtain ⟨x,z,rfl⟩:=P3 hl;have hy:y=[]:=by by_cases q:y=[] <;> first | exact q | (exfalso; simp [aH,aB,q] at h1)
    have hn:n=[]:=by by_cases q:n=[] <;> first | exact q | (exfalso; simp [aH,aB,q,hy] at h1)
    subst hy hn;simp [aH,aB] at h1
    cases hzv kI
    have ho:o=0:=by cases zb <;> simp at h1 <;> exact of_decide_eq_true h1
    subst ho;exact .idx x z a
   ·obtain ⟨x,rfl⟩:=len1 hl;have hy:y=[]:=by by_cases q:y=[] <;> first | exact q | (exfalso; simp [aH,aB,q] at h1)
    have hn:n=[]:=by by_cases q:n=[] <;> first | exact q | (exfalso; simp [aH,aB,q,hy] at h1)
    subst hy hn;simp [aH,aB] at h1
    cases hzv kI
    refine .un o x a ?_;by_cases o1:o=1
    ·exact .inl o1
    ·cases zb <;> simp [o1] at h1
     exact .inr (of_decide_eq_true h1)
   ·obtain ⟨x,z,rfl⟩:=P3 hl;have hy:y=[]:=by by_cases q:y=[] <;> first | exact q | (exfalso; simp [aH,aB,q] at h1)
    have hn:n=[]:=by by_cases q:n=[] <;> first | exact q | (exfalso; simp [aH,aB,q,hy] at h1)
    subst hy hn;simp [aH,aB] at h1
    cases hzv kI
    refine .bin o x z a ?_;by_cases o1:3<=o
    ·cases zb <;> simp [o1] at h1
     exact ⟨o1,of_decide_eq_true h1⟩
    ·cases zb <;> simp [o1] at h1
   ·obtain ⟨x,z,w,rfl⟩:=Or hl;have hy:y=[]:=by by_cases q:y=[] <;> first | exact q | (exfalso; simp [aH,aB,q] at h1)
    have hn:n=[]:=by by_cases q:n=[] <;> first | exact q | (exfalso; simp [aH,aB,q,hy] at h1)
    subst hy hn;simp [aH,aB] at h1
    cases hzv kI
    have ho:o=0:=by cases zb <;> simp at h1 <;> exact of_decide_eq_true h1
    subst ho;exact .cond x z w a
   ·have hy:y=[]:=by by_cases q:y=[] <;> first | exact q | (exfalso; simp [aH,aB,q] at h1)
    subst hy;simp [aH,aB] at h1 h
    cases hzv kI
    have ho:o=0:=by cases zb <;> simp at h1 <;> exact of_decide_eq_true h1
    subst ho;exact .call n l a h.1 h.2
   ·have hy:y=[]:=by by_cases q:y=[] <;> first | exact q | (exfalso; simp [aH,aB,q] at h1)
    have hn:n=[]:=by by_cases q:n=[] <;> first | exact q | (exfalso; simp [aH,aB,q,hy] at h1)
    subst hy hn;simp [aH,aB] at h1
    cases hzv kI
    have ho:o=0:=by cases zb <;> simp at h1 <;> exact of_decide_eq_true h1
    subst ho;exact .list l a
   ·have hy:y=[]:=by by_cases q:y=[] <;> first | exact q | (exfalso; simp [aH,aB,q] at h1)
    have hn:n=[]:=by by_cases q:n=[] <;> first | exact q | (exfalso; simp [aH,aB,q,hy] at h1)
    subst hy hn;simp [aH,aB] at h1
    cases hzv kI
    have ho:o=0:=by cases zb <;> simp at h1 <;> exact of_decide_eq_true h1
    subst ho;refine .map l a ?_;rw [Int.tmod_eq_emod_of_nonneg O] at hl;omega
   ·simp [aH,aB] at h1 h
    cases hzv kI
    have ho:o=0:=by cases zb <;> simp at h1 <;> exact of_decide_eq_true h1
    subst ho
    have hi:bG n=true/\fT n=false:=by
     exact GL
    have hy:y=[]\/bG y=true/\fT y=false:=by
     exact IA
    rcases hl with hl | hl
    ·obtain ⟨x,z,rfl⟩:=P3 hl;exact .loop false n y x z [] [] a hi.1 hi.2 hy (.inl ⟨rfl,rfl⟩) (.inl rfl)
    ·obtain ⟨x,z,w,rfl⟩:=Or hl;exact .loop false n y x z [] [w] a hi.1 hi.2 hy (.inl ⟨rfl,rfl⟩) (.inr ⟨w,rfl⟩)
   ·simp [aH,aB] at h1 h
    cases hzv kI
    have ho:o=0:=by cases zb <;> simp at h1 <;> exact of_decide_eq_true h1
    subst ho
    have hi:bG n=true/\fT n=false:=by
     exact GL
    have hy:y=[]\/bG y=true/\fT y=false:=by
     exact IA
    rcases hl with hl | hl
    ·obtain ⟨x,z,w,rfl⟩:=Or hl;exact .loop true n y x z [w] [] a hi.1 hi.2 hy (.inr ⟨rfl,w,rfl⟩) (.inl rfl)
    ·obtain ⟨x,z,w,u,rfl⟩:=len4 hl;exact .loop true n y x z [w] [u] a hi.1 hi.2 hy (.inr ⟨rfl,w,rfl⟩) (.inr ⟨u,rfl⟩)
end Go.Ab.R06
end
section
namespace Go.Ab.R06
open Go.Ab Go.Ab.RB Go.Lib
section
variable {p:Prop}
theorem IG (h:p:=by exact ⟨_,d,Z,Z,Z,IP 0 O d G O⟩):p:=h
theorem mW (h:p:=by simp only [bN]; omega):p:=h
end
def D8:List Bytes:=[[],[33],[45],[124,124],[38,38],[61,61],[33,61],[60],[60,61],[62],[62,61],[43],[45],[42],[47],[37]]
def opX (o:Int):Bytes:=lat D8 o
def lvX (e:aa):Nat:=if e.Ar=8 then 0 else if e.Ar=6 then 7 else if e.Ar≠7 then 8
 else if e.fOp=3 then 1 else if e.fOp=4 then 2 else if e.fOp=5\/e.fOp=6 then 3 else if e.fOp=7\/e.fOp=8\/e.fOp=9\/e.fOp=10 then 4 else if e.fOp=11\/e.fOp=12 then 5 else 6
def prt (all:Bool)(n:Nat)(x:aa)(t:Bytes):Bytes:=if all=true\/lvX x < n then 40::(t++[41]) else t
def D5 (v:ag):Bytes :=
 if v.Ar=1 then (if v.F'=1 then [116,114,117,101] else [102,97,108,115,101])
 else if v.Ar=2 then itoa v.F'
 else if v.Ar=3 then 34::(quo v.If++[34])
 else [110,117,108,108]
def lr (all:Bool):List aa->List Bytes->Bytes
 | x::l,t::ts=>prt all 0 x t++44::32::lr all l ts
 | _,_=>[]
def vl (k:aa)(t:Bytes):Bytes:=if k.Ar=1/\k.By.Ar=3 then 34::(quo k.By.If++[34]) else 40::(t++[41])
def mF (all:Bool):List aa->List Bytes->Bytes
 | k::x::l,t::u::ts=>vl k t++32::61::32::(prt all 0 x u++44::32::mF all l ts)
 | _,_=>[]
def pX (all:Bool)(n:Nat)(ks:List aa)(ts:List Bytes)(i:Nat):Bytes:=prt all n (ks.getD i e0) (ts.getD i [])
def lpX (all:Bool)(m:Bool)(nm ky:Bytes)(ks:List aa)(ts:List Bytes):Bytes :=
 102::111::114::32::((if ky=[] then [] else ky++[44,32])++(nm++32::105::110::32::(pX all 0 ks ts 0++32::58::32::(pX all 0 ks ts 1 ++
  ((if m then 32::61::62::32::pX all 0 ks ts 2 else [])++((if (if m then 3 else 2) < ks.length then 32::105::102::32::pX all 0 ks ts (if m then 3 else 2) else [])++[if m then 125 else 93]))))))
def cmb (all:Bool)(e:aa)(ts:List Bytes):Bytes :=
 if e.Ar=1 then D5 e.By
 else if e.Ar=2 then 34::(tmT ((e.AI.zip ts).map λ p=>prt all 0 p.1 p.2)++[34])
 else if e.Ar=3 then e.A'
 else if e.Ar=4 then pX all 8 e.AI ts 0++46::e.A'
 else if e.Ar=5 then pX all 8 e.AI ts 0++91::(pX all 0 e.AI ts 1++[93])
 else if e.Ar=6 then opX e.fOp++pX all 7 e.AI ts 0
 else if e.Ar=7 then pX all (lvX e) e.AI ts 0++32::(opX e.fOp++32::pX all (lvX e+1) e.AI ts 1)
 else if e.Ar=8 then pX all 1 e.AI ts 0++32::63::32::(pX all 0 e.AI ts 1++32::58::32::pX all 0 e.AI ts 2)
 else if e.Ar=9 then e.A'++40::(lr all e.AI ts++[41])
 else if e.Ar=10 then 91::(lr all e.AI ts++[93])
 else if e.Ar=11 then 123::(mF all e.AI ts++[125])
 else if e.Ar=12 then 91::lpX all false e.A' e.B' e.AI ts
 else 123::lpX all true e.A' e.B' e.AI ts
mutual
def az (all:Bool):aa->Bytes
 | .mk k o n y v l a=>cmb all (.mk k o n y v l a) (Hw all l)
def Hw (all:Bool):List aa->List Bytes
 | []=>[]
 | x::r=>az all x::Hw all r
end
theorem C1 (all:Bool):∀ l,Hw all l=l.map (az all)
 | []=>by rw [Hw]; rfl
 | x::r=>by rw [Hw,C1 all r]; rfl
theorem fQ (all:Bool)(e:aa):az all e=cmb all e (e.AI.map (az all)):=by
 cases e
 rw [az,C1]; rfl
inductive VE:Nat->aa->Prop where
 | mk {lv:Nat} {e:aa} (h:lv<=32) (s:Shp e) (c:chk e=0) (b:e.AI.length<=4000000000) (k:∀ x∈e.AI,VE (lv+1) x):VE lv e
theorem xh {all:Bool}{n D N:Nat}{x:aa}{t:Bytes}(hn:n<=8)(h:PX (lvX x) D N x t)(hl:lvX x<=8):PX n D (N+2) x (prt all n x t):=by
 unfold prt;split
 ·exact (F0 (h.weak (rg _) hl)).weak hn O
 ·rename_i q;exact (h.weak O hl).mono (mv _) O
theorem pk (e:aa):lvX e<=8:=by
 unfold lvX
 repeat' split
 all_goals omega
theorem vD {v:Int}(h0:0<=v):itoa v≠[]/\∀ z∈itoa v,fe z=true:=by
 obtain ⟨u,rfl⟩:∃ u:Nat,v=u:=⟨v.toNat,by omega⟩
 have e:itoa (u:Int)=decDigits u:=by unfold itoa; rw [if_neg O]; simp
 obtain ⟨a1,a2,a3,a4,a5⟩:=Cr (u+1) u O;rw [e];exact ⟨a3,λ z hz=>by rw [th] at a2; exact a2 z hz⟩
theorem N0 {v:ag}(h:xf v)(a:Int)(D:Nat):PX 8 D 1 (pi v a) (D5 v):=by
 cases h with
 | null=>exact xE a D (.inl ⟨Z,Z⟩)
 | bool n hn =>
  rcases hn with rfl | rfl
  ·exact xE a D (.inr (.inr ⟨Z,Z⟩))
  ·exact xE a D (.inr (.inl ⟨Z,Z⟩))
 | num n h0 h1=>exact Ne (vD h0).1 (vD h0).2 (D7 n h0 h1) a D
 | str s hs hl=>exact Gq (xt hs hl a).1 ((xt hs hl a).2 D)
theorem sS (all:Bool)(n:Nat)(x:aa)(t:Bytes):t.length<=(prt all n x t).length:=by
 unfold prt;split
 ·simp; omega
 ·exact mv _
theorem Dn {t:Bytes}:∀ {l:List Bytes},t∈l->t.length<=(tmT l).length
 | x::l,h=>by
  rw [oe];rcases ro.1 h with rfl | h
  ·simp only [aq,bt]; omega
  ·have:=Dn h; simp only [aq,bt]; omega
theorem u9 {all:Bool}{x:aa}{f:aa->Bytes}:∀ {l:List aa},x∈l->(f x).length<=(lr all l (l.map f)).length
 | y::l,h=>by
  simp only [cl,lr,aq,bt];rcases ro.1 h with rfl | h
  ·have:=sS all 0 x (f x); omega
  ·have:=u9 (all:=all) (f:=f) h; omega
theorem zY {z:UInt8}(hz:clZ z=true){all:Bool}{D:Nat}{f:aa->Bytes}{w:aa->Nat}:∀ {l:List aa},(∀ x∈l,PX (lvX x) D (w x) x (f x))->PI z D ((l.map λ x=>w x+3).sum+1) l (lr all l (l.map f))
 | [],_=>O8 hz D
 | x::l,h=>by
  have h1:=xh (all:=all) (n:=0) O (h x List.mem_cons_self) (pk x);have h2:=zY hz (all:=all) (λ y hy=>h y (List.mem_cons_of_mem _ hy));simp only [cl,List.sum_cons,lr];exact (Mh hz h1 h2).mono O
theorem O7 {D N:Nat}{k:aa}{t:Bytes}(hs:Shp k)(h:PX (lvX k) D N k t):PK D (N+2) k (vl k t):=by
 unfold vl;split
 ·rename_i q
  cases hs with
  | lit v a hv =>
   cases hv with
   | str s hs hl =>
    obtain ⟨ts,h1,h2,h3⟩:=Ng (D:=D) (xt hs hl a).1 ((xt hs hl a).2 D);exact ⟨ts,by omega,h2,h3⟩
   | null=>exact absurd (show (0:Int)=3 from q.2) (by decide)
   | bool n hn=>exact absurd (show (1:Int)=3 from q.2) (by decide)
   | num n h0 h1=>exact absurd (show (2:Int)=3 from q.2) (by decide)
  | loop m=>cases m <;> exact absurd q.1 (by simp [aa.Ar])
  | _=>exact absurd q.1 (by simp [aa.Ar])
 ·exact Fe (h.weak (rg _) (pk k))
theorem F4 {all:Bool}{D:Nat}{f:aa->Bytes}{w:aa->Nat}:∀ {l:List aa},l.length % 2=0->(∀ x∈l,Shp x/\PX (lvX x) D (w x) x (f x))->PN D ((l.map λ x=>w x+3).sum) l (mF all l (l.map f))
 | [],_,_=>O9 D
 | [_],h,_=>by simp at h
 | k::x::l,hl,h=>by
  have h0:=h k List.mem_cons_self;have h1:=xh (all:=all) (n:=0) O (h x (List.mem_cons_of_mem _ List.mem_cons_self)).2 (pk x);have h2:=F4 (all:=all) (l:=l) (by simp only [aq] at hl; omega) (λ y hy=>h y (List.mem_cons_of_mem _ (List.mem_cons_of_mem _ hy)));simp only [cl,List.sum_cons,mF];exact (Lh (O7 h0.1 h0.2) h1 h2).mono O
theorem zd {all:Bool}{x:aa}{f:aa->Bytes}:∀ {l:List aa},l.length % 2=0->x∈l->(x.Ar=1/\x.By.Ar=3->f x=34::(quo x.By.If++[34]))->(f x).length<=(mF all l (l.map f)).length
 | [_],h,_,_=>by simp at h
 | k::y::l,hl,h,hf=>by
  simp only [cl,mF,aq,bt];rcases ro.1 h with rfl | h
  ·have:(f x).length<=(vl x (f x)).length:=by
    unfold vl;split
    ·rename_i q; rw [hf q]; exact mv _
    ·simp; omega
   omega
  rcases ro.1 h with rfl | h
  ·have:=sS all 0 x (f x); omega
  ·have:=zd (all:=all) (f:=f) (by simp only [aq] at hl; omega) h hf; omega
theorem cx (e:aa):1<=dG e:=by rw [iU]; omega
theorem jP {x:aa}:∀ {l:List aa},x∈l->dG x<=bN l
 | y::l,h=>by
  simp only [bN];rcases ro.1 h with rfl | h
  ·omega
  ·have:=jP h; omega
theorem JU (l:List aa):(l.map λ x=>20*dG x - 5+3).sum<=20*bN l:=by
 induction l with
 | nil=>simp
 | cons x l ih =>
  have:=cx x;simp only [cl,List.sum_cons,bN]; omega
theorem iu {n D N M:Nat}{e:aa}{t:Bytes}(h:PX n D N e t)(hN:N<=M):PX n D M e t:=h.mono (mv _) hN
theorem Ph:∀ o:Fin 16,3<=o.val->∃ j,j<=5/\lvX (aa.mk 7 (o.val:Int) [] [] v0 [] 0)=j+1/\(opX (o.val:Int),(o.val:Int))∈oQ j:=by decide +kernel
theorem BN {all:Bool}{x:aa}(_hs:Shp x)(q:x.Ar=1/\x.By.Ar=3):az all x=34::(quo x.By.If++[34]):=by
 rw [fQ];unfold cmb D5;rw [if_pos q.1,if_neg O,if_neg O,if_pos q.2]
theorem OQ (all:Bool):∀ (lv:Nat) (e:aa),VE lv e->dG e<=800->(az all e).length<=65536->PX (lvX e) (32 - lv) (20*dG e - 5) e (az all e):=by
 intro lv e h
 induction h with
 | @mk lv e h hs hc hb hk ih =>
  intro hn Mp;rw [fQ] at Mp ⊢;rw [iU] at hn ⊢;have IH:∀ x∈e.AI,(az all x).length<=65536->PX (lvX x) (32 - lv) (20*dG x - 5) x (az all x):=λ x hx hl=>(ih x hx (by have:=jP hx; omega) hl).mono (show 32 - (lv+1)<=32 - lv by omega) (mv _);have IP:∀ n,n<=8->∀ x∈e.AI,(prt all n x (az all x)).length<=65536->PX n (32 - lv) (20*dG x - 5+2) x (prt all n x (az all x)):=λ n hn x hx hl=>xh hn (IH x hx (Nat.le_trans (sS all n x _) hl)) (pk x)
  cases hs with
  | lit v a hv=>exact iu (N0 hv a _) O
  | tmpl l a RP =>
   have hl:(aa.mk 2 0 [] [] v0 l a).AI=l:=rfl;rw [hl] at Mp hn hk IP hb ih ⊢
   have hlv:lv+1<=32:=by
    obtain ⟨x,r,rfl⟩:∃ x r,l=x::r:=by cases l with
     | nil=>exact absurd Z RP
     | cons x r=>exact ⟨x,r,Z⟩
    have:=hk x List.mem_cons_self
    cases this with
    | mk h _ _ _ _=>exact h
   have hz:∀ l:List aa,(l.zip (l.map (az all))).map (λ p=>prt all 0 p.1 p.2)=(l.map λ x=>(x,prt all 0 x (az all x))).map (·.2):=λ l=>by
    induction l with
    | nil=>rfl
    | cons x r ih=>simp only [cl,List.zip_cons_cons,ih]
   have h1:(l.map λ x=>(x,prt all 0 x (az all x))).map (·.1)=l:=by rw [List.map_map]; exact List.map_id _
   have hcm:cmb all (aa.mk 2 0 [] [] v0 l a) (l.map (az all))=34::(tmT ((l.map λ x=>(x,prt all 0 x (az all x))).map (·.2))++[34]):=by
    rw [<- hz l]; rfl
   rw [hcm] at Mp ⊢
   have hp:∀ p∈l.map (λ x=>(x,prt all 0 x (az all x))),PX 0 (32 - (lv+1)) (20*bN l) p.1 p.2/\p.2.length<=65536:=by
    intro p hp;have h2:p.2.length<=(tmT ((l.map λ x=>(x,prt all 0 x (az all x))).map (·.2))).length:=Dn (List.mem_map.2 ⟨p,hp,rfl⟩);obtain ⟨x,hx,rfl⟩:=List.mem_map.1 hp
    have h3:(prt all 0 x (az all x)).length<=65536:=by
     simp only [aq,bt] at Mp; simp only at h2; omega
    have h4:=jP hx;have h5:=cx x;exact ⟨iu (xh O (ih x hx O (Nat.le_trans (sS all 0 x _) h3)) (pk x)) O,h3⟩
   have st:=Fs _ λ p hpp=>(hp p hpp).1;have tm:=Lr (D:=32 - (lv+1)) (N:=20*bN l) (a:=a) O O  (l:=l.map λ x=>(x,prt all 0 x (az all x))) (by simpa using RP) hp (by simpa using hb) (by rw [h1]; exact hc);rw [h1] at tm;exact iu (Gq tm (by rw [show 32 - lv=32 - (lv+1)+1 by omega]; exact st)) O
  | name s a hi hr=>exact iu (LC hi hr a _) O
  | attr s x a hi =>
   have e:cmb all (aa.mk 4 0 s [] v0 [x] a) ([x].map (az all))=prt all 8 x (az all x)++46::s:=rfl;have hl:(aa.mk 4 0 s [] v0 [x] a).AI=[x]:=rfl;rw [hl] at Mp hn IP ⊢;rw [e] at Mp ⊢;have:=cx x;exact iu (MD (IP 8 O x G (by simp only [bt] at Mp; omega)) hi a) mW
  | idx x y a =>
   have e:cmb all (aa.mk 5 0 [] [] v0 [x,y] a) ([x,y].map (az all))=prt all 8 x (az all x)++91::(prt all 0 y (az all y)++[93]):=rfl;have hl:(aa.mk 5 0 [] [] v0 [x,y] a).AI=[x,y]:=rfl;rw [hl] at Mp hn IP ⊢;rw [e] at Mp ⊢;simp only [bt,aq] at Mp;have:=cx x; have:=cx y;exact iu (Od (IP 8 O x G O) (IP 0 O y G O) a) mW
  | un o x a ho =>
   have e:cmb all (aa.mk 6 o [] [] v0 [x] a) ([x].map (az all))=opX o++prt all 7 x (az all x):=rfl;have hl:(aa.mk 6 o [] [] v0 [x] a).AI=[x]:=rfl;rw [hl] at Mp hn IP ⊢;rw [e] at Mp ⊢;simp only [bt] at Mp;have:=cx x;have hx:=IP 7 O x G O
   have hs:opX o=[33]/\o=1\/opX o=[45]/\o=2:=by
    rcases ho with rfl | rfl
    ·exact .inl ⟨Z,Z⟩
    ·exact .inr ⟨Z,Z⟩
   exact iu (Rt hx hs a) mW
  | bin o x y a ho =>
   obtain ⟨j,hj,h1,h2⟩:=Ph ⟨o.toNat,by omega⟩ (by show 3<=o.toNat; omega);rw [show (((⟨o.toNat,by omega⟩:Fin 16).val:Nat):Int)=o by show ((o.toNat:Nat):Int)=o; omega] at h1 h2;have hlv:lvX (aa.mk 7 o [] [] v0 [x,y] a)=j+1:=h1;have e:cmb all (aa.mk 7 o [] [] v0 [x,y] a) ([x,y].map (az all))=prt all (lvX (aa.mk 7 o [] [] v0 [x,y] a)) x (az all x)++32::(opX o++32::prt all (lvX (aa.mk 7 o [] [] v0 [x,y] a)+1) y (az all y)):=rfl;have hl:(aa.mk 7 o [] [] v0 [x,y] a).AI=[x,y]:=rfl;rw [hl] at Mp hn IP ⊢;rw [e] at Mp ⊢;rw [hlv] at Mp ⊢;simp only [bt,aq] at Mp;have:=cx x; have:=cx y;exact iu (Ob hj h2 (IP (j+1) O x G O) (IP (j+1+1) O y G O) a) mW
  | cond x y z a =>
   have e:cmb all (aa.mk 8 0 [] [] v0 [x,y,z] a) ([x,y,z].map (az all))=prt all 1 x (az all x)++32::63::32::(prt all 0 y (az all y)++32::58::32::prt all 0 z (az all z)):=rfl;have hl:(aa.mk 8 0 [] [] v0 [x,y,z] a).AI=[x,y,z]:=rfl;rw [hl] at Mp hn IP ⊢;rw [e] at Mp ⊢;simp only [bt,aq] at Mp;have:=cx x; have:=cx y; have:=cx z;exact iu (Mk (IP 1 O x G O) (IP 0 O y G O) (IP 0 O z G O) a) mW
  | call s l a hi hr =>
   have e:cmb all (aa.mk 9 0 s [] v0 l a) (l.map (az all))=s++40::(lr all l (l.map (az all))++[41]):=rfl;have hl:(aa.mk 9 0 s [] v0 l a).AI=l:=rfl;rw [hl] at Mp hn IH hb ⊢;rw [e] at Mp ⊢;simp only [bt,aq] at Mp;have:=JU l;exact iu (K3 hi hr (zY (z:=41) Z (all:=all) (w:=λ x=>20*dG x - 5) λ x hx=>IH x hx (by have:=u9 (all:=all) (f:=az all) hx; omega)) hb a) O
  | list l a =>
   have e:cmb all (aa.mk 10 0 [] [] v0 l a) (l.map (az all))=91::(lr all l (l.map (az all))++[93]):=rfl;have hl:(aa.mk 10 0 [] [] v0 l a).AI=l:=rfl;rw [hl] at Mp hn IH hb ⊢;rw [e] at Mp ⊢;simp only [bt,aq] at Mp;have:=JU l;exact iu (L2 (zY (z:=93) Z (all:=all) (w:=λ x=>20*dG x - 5) λ x hx=>IH x hx (by have:=u9 (all:=all) (f:=az all) hx; omega)) hb a) O
  | map l a hm =>
   have e:cmb all (aa.mk 11 0 [] [] v0 l a) (l.map (az all))=123::(mF all l (l.map (az all))++[125]):=rfl;have hl:(aa.mk 11 0 [] [] v0 l a).AI=l:=rfl;rw [hl] at Mp hn IH hb hk ⊢;rw [e] at Mp ⊢;simp only [bt,aq] at Mp;have:=JU l
   have hsh:∀ x∈l,Shp x:=λ x hx=>by
    cases hk x hx with
    | mk _ s _ _ _=>exact s
   exact iu (ND (F4 (all:=all) (w:=λ x=>20*dG x - 5) hm λ x hx=>⟨hsh x hx,IH x hx (by have:=zd (all:=all) (f:=az all) hm hx (λ q=>BN (hsh x hx) q); omega)⟩) hb a) O
  | loop m s y x c dl fl a hi hr hy hd hf =>
   have hK:TkK (if y=[] then [] else y++[44,32]) y:=by
    rcases hy with rfl | hy
    ·exact .inl ⟨Z,Z⟩
    ·by_cases y0:y=[]
     ·exact .inl ⟨y0,if_pos y0⟩
     ·exact .inr ⟨hy.1,hy.2,if_neg y0⟩
   have n1:=cx x; have n2:=cx c;rcases hd with ⟨rfl,rfl⟩ | ⟨rfl,d,rfl⟩ <;> rcases hf with rfl | ⟨f,rfl⟩
   ·have e:cmb all (aa.mk 12 0 s y v0 [x,c] a) ([x,c].map (az all))=91::102::111::114::32::((if y=[] then [] else y++[44,32])++(s++32::105::110::32::(prt all 0 x (az all x)++32::58::32::(prt all 0 c (az all c)++([]++([]++[93])))))):=rfl;have hl:(aa.mk (if false=true then 13 else 12) 0 s y v0 ([x,c]++[]++[]) a).AI=[x,c]:=rfl;rw [hl] at Mp hn IP ⊢
    change (cmb all (aa.mk 12 0 s y v0 [x,c] a) ([x,c].map (az all))).length<=65536 at Mp
    change PX 8 (32 - lv) _ (aa.mk 12 0 s y v0 [x,c] a) (cmb all (aa.mk 12 0 s y v0 [x,c] a) ([x,c].map (az all)))
    rw [e] at Mp ⊢;simp only [bt,aq] at Mp;exact iu (sR (m:=false) (N3:=0) (N4:=0) hi hr hK (IP 0 O x G O) (IP 0 O c G O) (.inl ⟨rfl,rfl,rfl⟩) (.inl ⟨rfl,rfl⟩) a) mW
   ·have n3:=cx f;have e:cmb all (aa.mk 12 0 s y v0 [x,c,f] a) ([x,c,f].map (az all))=91::102::111::114::32::((if y=[] then [] else y++[44,32])++(s++32::105::110::32::(prt all 0 x (az all x)++32::58::32::(prt all 0 c (az all c)++([]++(32::105::102::32::prt all 0 f (az all f)++[93])))))):=rfl;have hl:(aa.mk (if false=true then 13 else 12) 0 s y v0 ([x,c]++[]++[f]) a).AI=[x,c,f]:=rfl;rw [hl] at Mp hn IP ⊢
    change (cmb all (aa.mk 12 0 s y v0 [x,c,f] a) ([x,c,f].map (az all))).length<=65536 at Mp
    change PX 8 (32 - lv) _ (aa.mk 12 0 s y v0 [x,c,f] a) (cmb all (aa.mk 12 0 s y v0 [x,c,f] a) ([x,c,f].map (az all)))
    rw [e] at Mp ⊢;simp only [bt,aq] at Mp;exact iu (sR (m:=false) (N3:=0) hi hr hK (IP 0 O x G O) (IP 0 O c G O) (.inl ⟨rfl,rfl,rfl⟩) (.inr ⟨_,f,rfl,rfl,IP 0 O f G O⟩) a) mW
   ·have n3:=cx d;have e:cmb all (aa.mk 13 0 s y v0 [x,c,d] a) ([x,c,d].map (az all))=123::102::111::114::32::((if y=[] then [] else y++[44,32])++(s++32::105::110::32::(prt all 0 x (az all x)++32::58::32::(prt all 0 c (az all c)++(32::61::62::32::prt all 0 d (az all d)++([]++[125])))))):=rfl;have hl:(aa.mk (if true=true then 13 else 12) 0 s y v0 ([x,c]++[d]++[]) a).AI=[x,c,d]:=rfl;rw [hl] at Mp hn IP ⊢
    change (cmb all (aa.mk 13 0 s y v0 [x,c,d] a) ([x,c,d].map (az all))).length<=65536 at Mp
    change PX 8 (32 - lv) _ (aa.mk 13 0 s y v0 [x,c,d] a) (cmb all (aa.mk 13 0 s y v0 [x,c,d] a) ([x,c,d].map (az all)))
    rw [e] at Mp ⊢;simp only [bt,aq] at Mp;exact iu (sR (m:=true) (N4:=0) hi hr hK (IP 0 O x G O) (IP 0 O c G O) (.inr IG) (.inl ⟨rfl,rfl⟩) a) mW
   ·have n3:=cx d; have n4:=cx f;have e:cmb all (aa.mk 13 0 s y v0 [x,c,d,f] a) ([x,c,d,f].map (az all))=123::102::111::114::32::((if y=[] then [] else y++[44,32])++(s++32::105::110::32::(prt all 0 x (az all x)++32::58::32::(prt all 0 c (az all c)++(32::61::62::32::prt all 0 d (az all d)++(32::105::102::32::prt all 0 f (az all f)++[125])))))):=rfl;have hl:(aa.mk (if true=true then 13 else 12) 0 s y v0 ([x,c]++[d]++[f]) a).AI=[x,c,d,f]:=rfl;rw [hl] at Mp hn IP ⊢
    change (cmb all (aa.mk 13 0 s y v0 [x,c,d,f] a) ([x,c,d,f].map (az all))).length<=65536 at Mp
    change PX 8 (32 - lv) _ (aa.mk 13 0 s y v0 [x,c,d,f] a) (cmb all (aa.mk 13 0 s y v0 [x,c,d,f] a) ([x,c,d,f].map (az all)))
    rw [e] at Mp ⊢;simp only [bt,aq] at Mp;exact iu (sR (m:=true) hi hr hK (IP 0 O x G O) (IP 0 O c G O) (.inr IG) (.inr ⟨_,f,rfl,rfl,IP 0 O f G O⟩) a) mW
end Go.Ab.R06
end
section
namespace Go.Ab.R06
open Go.Ab Go.Ab.RB Go.Lib
section
variable {L:List ad}
def tM (L:List ad)(i:Nat)(L':Int)(b:Bool)(l:List ad):Prop :=
 i < L.length/\0<=L'/\L'+((L.length - i:Nat):Int)<=1000000000/\b=decide (0 < L')/\nf b (L.drop i)=nf b l
def RAt (L:List ad)(i:Nat)(L':Int)(b:Bool)(l:List ad):Prop:=tM L i L' b l/\L.drop i=nf b l
theorem y7:∀ {L:List ad} {i:Nat},Gd L->i < L.length->Gd (L.drop i)
 | [],_,h,_=>h.elim
 | t::r,0,h,_=>h
 | t::r,i+1,h,hi=>by
  rcases h.2 with h2 | h2
  ·have:=h2.2;subst this; simp at hi
  ·exact y7 (L:=r) (i:=i) h2.2 (by simpa using hi)
theorem tM.gd {i:Nat}{L':Int}{b:Bool}{l:List ad}(hL:Gd L)(h:tM L i L' b l):Gd (nf b l):=by
 rw [<- h.2.2.2.2]; exact sf (y7 hL h.1)
theorem tM.ext {i j:Nat}{L':Int}{b:Bool}{l:List ad}(h:tM L i L' b l)(h1:i<=j)(h2:j < L.length)(h3:L.drop j=nf b (L.drop i)):RAt L j L' b l:=by
 obtain ⟨q1,q2,q3,q4,q5⟩:=h;refine ⟨⟨h2,q2,by omega,q4,?_⟩,?_⟩
 ·rw [h3,IC,q5]
 ·rw [h3,q5]
theorem RAt.next {j:Nat}{L':Int}{b:Bool}{l:List ad}(hL:Gd L)(h:RAt L j L' b l)(h6:(hd b l).Ar≠6) :
  tM L (j+1) L' b (tl b l)/\L.drop (j+1)=tl b l:=by
 have hg:Gd (nf b l):=h.1.gd hL
 have e:L.drop (j+1)=tl b l:=by
  have:=h.2;rw [qA h.1.1,sw hg] at this;exact (sm this).2
 have RP:=yo (B7 hg h6)
 have:j+1 < L.length:=by
  exact E5
 obtain ⟨⟨q1,q2,q3,q4,q5⟩,_⟩:=h;exact ⟨⟨this,q2,by omega,q4,by rw [e]⟩,e⟩
theorem RAt.inn {j:Nat}{L':Int}{b:Bool}{l:List ad}(hL:Gd L)(h:RAt L j L' b l)(h6:(hd b l).Ar≠6):tM L (j+1) (L'+1) true (tl b l):=by
 obtain ⟨⟨q1,q2,q3,q4,q5⟩,e⟩:=h.next hL h6;have:=h.1.2.2.1;have:=h.1.1;refine ⟨q1,by omega,by omega,?_,by rw [e]⟩
 symm; rw [decide_eq_true_eq]; omega
theorem tM.out {j:Nat}{L':Int}{b:Bool}{l l':List ad}(h:tM L j (L'+1) true l)(h0:0<=L')(hb:b=decide (0 < L'))(he:L.drop j=l'):tM L j L' b l':=by
 obtain ⟨q1,q2,q3,q4,q5⟩:=h;exact ⟨q1,h0,by omega,hb,by rw [he]⟩
def RFl (L:List ad)(L':Int)(N:Nat)(e:PE)(z:bA):Prop:=e.1≠0/\∃ I:Int,z=.mk L I L' (eD e)/\0<=I/\I<=1000000000+(N:Int)
end
end Go.Ab.R06
end
section
namespace Go.Ab.R06
open Go.Ab Go.Ab.RB Go.Lib
def OD {α:Type}(L:List ad)(L':Int)(b:Bool)(N:Nat)(q:PE⊕(α×List ad))(z:α×bA):Prop:=match q with
 | .inl e=>RFl L L' N e z.2
 | .inr (x,l)=>z.1=x/\∃ j:Nat,z.2=.mk L (j:Int) L' dOk/\tM L j L' b l
theorem OD.up {α:Type}{L:List ad}{L':Int}{b:Bool}{N M:Nat}{q:PE⊕(α×List ad)}{z:α×bA}(h:OD L L' b N q z)(hNM:N<=M):OD L L' b M q z:=by
 rcases q with e | ⟨x,l⟩
 ·obtain ⟨he,I,h1,h2,h3⟩:=h;exact ⟨he,I,h1,h2,by omega⟩
 ·exact h
def zM (a:Int)(i:Nat)(parts:List aa)(R3:Bool):Prop:=R3=false->(i=0/\parts=[])\/∃ t,parts=[rv t a]
end Go.Ab.R06
end
section
namespace Go.Ab.R06
open Go.Proofs Go.Ab Go.Ab.RB
set_option maxRecDepth 4000
attribute [local irreducible] awp gk aX bv bV AV.sub M cC
abbrev HR (F:aa->aa->Option (Bool))(k:Nat):Prop:=∀ (a0:aa) (a1:aa) (r:Bool),HP (F a0 a1=some r) Tryz.prog k [.agg (aa.cs a0),.agg (aa.cs a1)] (.p (eB r))
def dy (SJ:aa->aa->Option Bool)(a_0:aa)(Sk:aa):Nat->Int->Option (Unit⊕Bool)
 | 0,_=>none
 | m+1,i18 =>
 if i18 < (a_0.AI.length:Int) then
  ck ((0:Int)<=i18/\i18 < (a_0.AI.length:Int)) <|
  ck ((0:Int)<=i18/\i18 < (Sk.AI.length:Int)) <|
  (SJ (lat a_0.AI i18) (lat Sk.AI i18)).bind λ TA =>
  if (!TA)=true then
   some (.inr false)
  else
   ck (inR (i18+1)) <|
   dy SJ a_0 Sk m (i18+1)
 else
  some (.inl ())
def ed:Nat->aa->aa->Option Bool
 | 0,_,_=>none
 | n+1,a_0,Sk =>
 (
   if a_0.Ar=Sk.Ar then
    if a_0.fOp=Sk.fOp then
     if a_0.A'=Sk.A' then
      if a_0.B'=Sk.B' then
       (eN n a_0.By Sk.By).bind λ r5 =>
       if (!r5)=true then
        some true
       else
        some (!decide ((a_0.AI.length:Int)=(Sk.AI.length:Int)))
      else
       some true
     else
      some true
    else
     some true
   else
    some true
  ).bind λ t8 =>
 if t8=true then
  some false
 else
  jn (dy (ed n) a_0 Sk n 0) λ _Wg =>
  some true
instance IX (n:Nat):HR (ed n) 23:=by
 induction n with
 | zero=>exact Zr
 | succ n ih =>
 refine λ a_0 Sk=>hP good Tryz.func23 Z Z λ r h0 _ w0=>?_;rw [ed] at h0;refine nx 8 Z (bd h0 λ TH h1 h0=>?_);refine kN TH (λ SP=>⟨[(2,.ptr 2 0),(3,.ptr 3 0),(48,.p (eB SP))],[(2,(aa.cs a_0).map .p),(3,(aa.cs Sk).map .p)]⟩) ?_ ?_
 ·refine nx 1 Z (fB [48] h0 Z (λ c9 h0=>?_) λ c9 h0=>?_)
  ·exact kG
  refine nx 8 rfl ?_;obtain ⟨V4,h1,Sl,hR0⟩:=cm h0;refine kEx 0 (λ Vs:Unit=>V4=.inl Vs) (λ Vs=>⟨[],[]⟩) (λ Vs hv=>?_) ?_
  ·have h0:=Sl _ hv;exact kG
  refine lG (λ (Uc:Int)=>⟨[(2,.ptr 2 0),(3,.ptr 3 0),(5,.p (eI Uc))],[(2,(aa.cs a_0).map .p),(3,(aa.cs Sk).map .p)]⟩) (λ m (Uc:Int)=>dy (ed n) a_0 Sk m Uc) Y 0 h1 (gE rfl rfl) ?_;rintro m i18 h1;replace h1:dy (ed n) a_0 Sk (m+1) i18=some V4:=h1;rw [dy] at h1;refine nx 6 rfl (oLl (f:=al) rfl rfl ?_);refine nx 2 rfl (fD [53] h1 rfl (λ WN h1=>?_) λ WN h1=>?_)
  ·refine nx 5 Z (cc' h1 λ TY h1=>?_);refine cc' h1 λ Tm h1=>bd h1 λ TA e23 h1=>mD [(2,.ptr 2 0),(3,.ptr 3 0),(5,.p (eI i18))] Z ⟨Z,Z,Z,trivial⟩ Z (dR 3 Z ?_);refine dq (.rptr (aa.cs (lat a_0.AI i18))) [57,58] Z (λ _ e _ q=>ak Z (gm (f:=al) (l:=a_0.AI) aa.cs Z Z Z Z Z Z (e _ _ Z) Z (e _ _ Z) TY aa.It Y q)) Z (dR 4 Z ?_);refine dq (.rptr (aa.cs (lat Sk.AI i18))) [62,63] Z (λ _ e _ q=>ak Z (gm (f:=al) (l:=Sk.AI) aa.cs Z Z Z Z Z Z (e _ _ Z) Z (e _ _ Z) Tm aa.It Y q)) Z (dR 1 Z ?_);refine dq (.p (eB TA)) [60,65] Z (λ _ e _ q=>ak Z (bS (HP.c e23) Z Z Z (av (e _ _ Z) (av (e _ _ Z) bm)) ⟨sr,sr,trivial⟩ Tryz.call23 Z q)) Z (dR 1 Z ?_);refine dE Z (nx 1 Z ?_);refine fB [67] h1 Z (λ WM h1=>?_) λ WM h1=>?_
   ·exact nx 6 Z (mQ (hR0 _ (oi h1).symm) Z (sr))
   refine nx 4 Z (oA h1 Z Z λ Tu h1=>?_);exact nx 2 Z (eX (i18+1) h1 (gE Z Z))
  exact rk
 refine nx 7 Z (fN [10,11] h1 Z (λ c1 h1=>?_) λ c1 h1=>?_)
 ·refine nx 7 Z (fN [16,17,18] h1 Z (λ c2 h1=>?_) λ c2 h1=>?_)
  ·refine nx 4 Z (oS Z Z ?_);refine nx 2 Z (fN [23,24,25] h1 Z (λ c3 h1=>?_) λ c3 h1=>?_)
   ·refine nx 4 Z (oS Z Z ?_);refine nx 2 Z (fN [30,31,32] h1 Z (λ c4 h1=>?_) λ c4 h1=>?_)
    ·refine nx 4 Z (K1 λ r5 h1=>nx 3 Z ?_);refine fB [38,39,40] h1 Z (λ c7 h1=>?_) λ c7 h1=>?_
     ·exact nx 9 Z fy
     refine nx 2 Z (oLl (f:=al) Z Z ?_);refine nx 2 Z (oLl (f:=al) Z Z ?_);exact xF
    exact A7
   exact nx 24 Z fy
  exact nx 31 Z fy
 exact nx 38 Z fy
end Go.Ab.R06
end
section
namespace Go.Ab.R06
open Go.Proofs Go.Ab Go.Ab.RB
section
variable {p:Prop}
theorem ti (h:p:=by exact ab G):p:=h
theorem E7 (h:p:=by exact ae (by decide) (ah (cH O O) (ihk (i+1) O))):p:=h
theorem OE (h:p:=by exact ah (cH O O) (ihk (i+1) O)):p:=h
end
theorem yK {v:ag}(hb:VSz v):Ev2 (λ n _=>eN n v v) (·=true):=by
 induction hb with
 | @mk x hv hs ih =>
  have l1:∀ k i:Nat,i+k=x.Df.length->Ev2 (λ _ m=>dJ x x m i) (·=.inl ()):=by
   intro k
   induction k with
   | zero=>intro i hi; exact aA (by simp only [dJ]; exact ae O (ab rfl))
   | succ k ihk =>
    intro i hi;refine aA ?_;simp only [dJ];exact aj O (ah O (ah O (aj (by trivial) OE)))
  have l2:∀ k i:Nat,i+k=x.Gw.length->Ev2 (λ n m=>dH (eN n) x x m i) (·=.inl ()):=by
   intro k
   induction k with
   | zero=>intro i hi; exact aA (by simp only [dH]; exact ae O (ab rfl))
   | succ k ihk =>
    intro i hi;refine aA ?_;simp only [dH];exact aj O (ah O (ah O (ai _ (ih _ uJ) E7)))
  refine aM ?_;simp only [eN];refine ai false (aj (by trivial) (aj (by trivial) (aj (by trivial) (aj (by trivial) ti)))) (ae (by decide) ?_);exact fx () (bh (f:=λ n m=>dJ x x m 0) (l1 x.Df.length 0 O)) (fx () (bh (f:=λ n m=>dH (eN n) x x m 0) (l2 x.Gw.length 0 O)) (ab Z))
theorem Q5:Sz e0:=.mk (by decide) (by decide) zH (by decide) (λ _ h=>by cases h)
theorem Pq {q:PE⊕aa}(h:∀ x,q=.inr x->Sz x):Sz (wz q).1:=by
 cases q with
 | inl e=>exact Q5
 | inr x=>exact h x Z
theorem Md {q:PE⊕aa}(h:∀ x,q=.inr x->Sz x):∀ x,ml q=.inr x->Sz x:=by
 cases q with
 | inl e=>intro x hx; cases hx
 | inr y =>
  intro x hx;unfold ml at hx;dsimp only at hx;split at hx
  ·cases hx; exact h _ rfl
  ·cases hx
theorem CV {s:Bytes}{f:Nat}{q:PE⊕aa}(hs:(s.length:Int)<=1000000)(hq:gi f s 0=some q):Ev2 (λ n _=>ei n s) (·=wz (ml q)):=by
 have hz:=(fct f).w s 0 O O  q hq;have h1:=(fol f).w s 0 q O O  hq;simp only [ei];refine ao _ h1 λ r hr=>?_
 cases q with
 | inl e =>
  obtain ⟨he,hr⟩:=hr;refine ai (wz (ml (.inl e))) ?_ (ab rfl);simp only [gY];rw [hr];exact ae he (ab rfl)
 | inr x =>
  replace hr:r=(x,dOk):=hr;subst hr;exact Bg
end Go.Ab.R06
end
section
namespace Go.Ab.R06
open Go.Proofs Go.Ab Go.Ab.RB Go.Lib
def VM (e:aa):Prop:=∀ c lv,(j7 c lv e).1=0->(j7 c lv e).2=c+dG e/\∀ c' lv',c'<=c->lv'<=lv->(j7 c' lv' e).1=0
theorem vml:∀ (l:List aa),(∀ x∈l,VM x)->∀ c lv,(jg c lv l).1=0->(jg c lv l).2=c+bN l/\(∀ c' lv',c'<=c->lv'<=lv->(jg c' lv' l).1=0)/\∀ x∈l,∃ d,(j7 d lv x).1=0
 | [],_,c,lv,_=>by
  refine ⟨by simp [jg,bN],λ c' lv' _ _=>by simp [jg],λ x hx=>by cases hx⟩
 | x::r,h,c,lv,h0=>by
  rw [kW] at h0 ⊢;have hx:=h x List.mem_cons_self c lv;by_cases q:(j7 c lv x).1=0
  ·rw [if_pos q] at h0 ⊢;obtain ⟨x1,x2⟩:=hx q;obtain ⟨r1,r2,r3⟩:=vml r (λ y hy=>h y (List.mem_cons_of_mem _ hy)) _ lv h0;refine ⟨by rw [r1,x1]; simp only [bN]; omega,λ c' lv' h1 h2=>?_,λ y hy=>?_⟩
   ·rw [kW,if_pos (x2 c' lv' h1 h2)];have:=(h x List.mem_cons_self c' lv' (x2 c' lv' h1 h2)).1;exact r2 _ lv' (by rw [this,x1]; omega) h2
   ·rcases ro.1 hy with rfl | hy
    ·exact ⟨c,q⟩
    ·exact r3 y hy
  ·rw [if_neg q] at h0; exact absurd h0 q
theorem yA {e:aa}(hb:aa.Bd e):VM e:=by
 induction hb with
 | @mk x bKind bOp bName bKey bValue bKids eKids bAt ih =>
  intro c lv h;rw [lV] at h ⊢;by_cases q1:32 < lv
  ·rw [if_pos q1] at h; cases h
  by_cases q2:4096<=c
  ·rw [if_neg q1,if_pos q2] at h; cases h
  by_cases q3:iR x=0
  ·rw [if_neg q1,if_neg q2,if_pos q3] at h ⊢;obtain ⟨l1,l2,-⟩:=vml x.AI ih _ _ h;refine ⟨by rw [l1,iU]; omega,λ c' lv' h1 h2=>?_⟩;rw [lV,if_neg O,if_neg O,if_pos q3];exact l2 _ _ O O
  ·rw [if_neg q1,if_neg q2,if_neg q3] at h; exact absurd h q3
theorem pt:∀ l:List aa,l.length<=bN l
 | []=>rg _
 | x::l=>by
  have:=pt l; have:=cx x;simp only [bN,aq]; omega
theorem M8 {e:aa}(hb:aa.Bd e):∀ c lv,1<=lv->dG e<=1000->(j7 c lv e).1=0->VE lv e:=by
 induction hb with
 | @mk x bKind bOp bName bKey bValue bKids eKids bAt ih =>
  intro c lv h1 hn h;have hB:aa.Bd x:=.mk bKind bOp bName bKey bValue bKids eKids bAt;have hc:chk x=0:=(yA hB c lv h).2 0 1 (rg _) h1;rw [lV] at h;by_cases q1:32 < lv
  ·rw [if_pos q1] at h; cases h
  by_cases q2:4096<=c
  ·rw [if_neg q1,if_pos q2] at h; cases h
  by_cases q3:iR x=0
  ·rw [if_neg q1,if_neg q2,if_pos q3] at h;obtain ⟨-,-,l3⟩:=vml x.AI (λ y hy=>yA (eKids y hy)) _ _ h;rw [iU] at hn;refine .mk O (He (Dp hB) q3) hc (by have:=pt x.AI; omega) λ y hy=>?_;obtain ⟨d,hd⟩:=l3 y hy;exact ih y hy d (lv+1) O (by have:=jP hy; omega) hd
  ·rw [if_neg q1,if_neg q2,if_neg q3] at h; exact absurd h q3
theorem vE {e:aa}(hb:Sz e):∀ e',EQV e e'->Ev2 (λ n _=>ed n e' e) (·=true):=by
 induction hb with
 | @mk x hn hk hw hc hs ih =>
  intro y hy
  cases hy with
  | mk k o n m v a c l s =>
   have l1:∀ k i:Nat,i+k=x.AI.length->Ev2 (λ n m=>dy (ed n) y x m i) (·=.inl ()):=by
    intro k
    induction k with
    | zero=>intro i hi; exact aA (by simp only [dy]; exact ae O (ab rfl))
    | succ k ihk =>
     intro i hi;refine aA ?_;simp only [dy]
     have hz:(x.AI[i]' O,y.AI[i]' O)∈x.AI.zip y.AI:=by
      rw [List.mem_iff_getElem];exact ⟨i,by rw [List.length_zip]; omega,by simp⟩
     have hp:=s _ hz;refine aj O (ah O (ah O (ai true ?_ E7)));rw [kT _ _ (show i < x.AI.length by omega),kT _ _ (show i < y.AI.length by omega)];exact ih _ (List.getElem_mem _) _ hp
   refine aM ?_;simp only [ed,k,o,n,m,v,l];refine ai false (aj (by trivial) (aj (by trivial) (aj (by trivial) (aj (by trivial) (ai _ (yK hw) (ae (by decide) ti)))))) (ae (by decide) ?_);exact fx () (bh (f:=λ n m=>dy (ed n) y x m 0) (l1 x.AI.length 0 O)) (ab Z)
theorem yG (all:Bool){e:aa}(hb:aa.Bd e)(hc:chk e=0)(hn:dG e<=200)(hl:(az all e).length<=20000):∃ e',EQV e e'/\Ev2 (λ n _=>ei n (az all e)) (·=(e',ap.mk 0 0 [])):=by
 have hv:=M8 hb 0 1 O O  hc;have hp:=(OQ all 1 e hv O O).weak (rg _) (pk e);obtain ⟨e',h1,N,h2⟩:=xW hp O O O 0;refine ⟨e',h1,?_⟩;have:=CV (f:=N) (q:=.inr e') O (h2 N (mv _))
 rwa [show wz (ml (.inr e'))=(e',ap.mk 0 0 []) by
  unfold ml;simp only
  rw [if_pos (by rw [Pd h1]; exact hc)]; rfl] at this
end Go.Ab.R06
end
section
namespace Go.Ab.R06
open Go.Proofs Go.Ab Go.Ab.RB
section
variable {p:Prop}
theorem xD (h:p:=by
  exact nx 7 Z (mQ (oi h0) Z (sr))):p:=h
theorem uy (h:p:=by
  exact nx 3 Z (mQ (oi h0) Z (sr))):p:=h
theorem lA (h:p:=by
  exact mQ (oi h0) Z (sr)):p:=h
theorem II (h:p:=by exact nS ⟨⟨_,Z,Fi c1.symm⟩,er Z,er Z,trivial⟩ ⟨⟨_,Z,⟨sr,sr,sr,sr,sr,sr,sr,sr,sr,sr,sr,trivial⟩⟩,trivial⟩):p:=h
theorem ud (h:p:=by exact mQ (oi h0) Z (sr)):p:=h
end
set_option maxRecDepth 4000
attribute [local irreducible] awp gk aX bv bV AV.sub M cC
def kz (n:Nat)(M':aa):Option Bool :=
 (
   (ki n M' 200).bind λ r1 =>
   if r1=true then
    (kr n M').bind λ r4 =>
    some (decide (r4=0))
   else
    some false
  : Option Bool).bind λ t6 =>
 some t6
instance Fo (n:Nat) (M':aa):∀ (r:Bool),HP (kz n M'=some r) Tryz.prog 21 [.agg (aa.cs M')] (.p (eB r)):=by
 refine hP good Tryz.func21 Z Z λ r h0 _ w0=>?_;unfold kz at h0;refine nx 6 Z (bd h0 λ o8 h1 h0=>?_);refine kN o8 (λ v9=>⟨[(2,.p (eB v9))],[]⟩) ?_ ?_
 ·exact uf
 refine nx 2 Z (bd h1 λ r1 e2 h1=>?_);refine oK (HP.c e2) Z ⟨sr,sr,trivial⟩ Tryz.call10 Z (nx 1 Z ?_);refine fB [4,5] h1 Z (λ c3 h1=>?_) λ c3 h1=>?_
 ·refine nx 1 Z (bd h1 λ r4 e5 h1=>?_);refine oK (HP.c e5) Z ⟨sr,trivial⟩ Tryz.call13 Z (nx 4 Z ?_);exact eX _ (oi h1).symm (gE Z Z)
 exact Bc
def ic (n:Nat)(Mr:Bytes):Option Bytes :=
 (jt n Mr).bind λ r1 =>
 (kt n r1).bind λ r3 =>
 some r3
instance EY (n:Nat) (Mr:Bytes):∀ (r:Bytes),HP (ic n Mr=some r) Tryz.prog 83 [eS Mr] (.p (eS r)):=by
 refine hP good Tryz.func83 Z Z λ r h0 _ w0=>?_;unfold ic at h0;refine nx 7 Z (bd h0 λ r1 e2 h0=>?_);refine oK (HP.c e2) Z ⟨sr,trivial⟩ Tryz.call130 Z (bd h0 λ r3 e4 h0=>?_);refine oK (HP.c e4) Z ⟨sr,trivial⟩ Tryz.call129 Z (nx 3 Z ?_);exact lA
def iz (n:Nat)(Rz:ag):Option Bytes :=
 if Rz.Ar=2 then
  (db n Rz.F').bind λ r2 =>
  some r2
 else
  if Rz.Ar=3 then
   (ic n Rz.If).bind λ r5 =>
   some r5
  else
   if Rz.Ar=1 then
    if Rz.F'=1 then
     some ([116,114,117,101]:Bytes)
    else
     some ([102,97,108,115,101]:Bytes)
   else
    some ([110,117,108,108]:Bytes)
instance DW (n:Nat) (Rz:ag):∀ (r:Bytes),HP (iz n Rz=some r) Tryz.prog 43 [.agg (ag.cs Rz)] (.p (eS r)):=by
 refine hP good Tryz.func43 Z Z λ r h0 _ w0=>?_;unfold iz at h0;refine nx 17 Z (fD [5,6] h0 Z (λ c1 h0=>?_) λ c1 h0=>?_)
 ·refine nx 5 Z (bd h0 λ r2 e3 h0=>?_);refine oK (HP.c e3) Z ⟨sr,trivial⟩ Tryz.call82 Z (nx 3 Z ?_);exact lA
 refine nx 6 Z (fD [10,11] h0 Z (λ c4 h0=>?_) λ c4 h0=>?_)
 ·refine nx 5 Z (bd h0 λ r5 e6 h0=>?_);refine oK (HP.c e6) Z ⟨sr,trivial⟩ Tryz.call83 Z (nx 3 Z ?_);exact lA
 refine nx 6 Z (fD [15,16] h0 Z (λ c7 h0=>?_) λ c7 h0=>?_)
 ·refine nx 8 Z (fD [19] h0 Z (λ c8 h0=>?_) λ c8 h0=>?_)
  ·exact kG
  exact xD
 exact xD
def iQ (M':aa):Option Int :=
 if M'.Ar=8 then
  some 0
 else
  if M'.Ar=6 then
   some 7
  else
   if M'.Ar=7 then
    if M'.fOp=3 then
     some 1
    else
     if M'.fOp=4 then
      some 2
     else
      (
        if M'.fOp=5 then
         some true
        else
         some (decide (M'.fOp=6))
       : Option Bool).bind λ t7 =>
      if t7=true then
       some 3
      else
       (
         if M'.fOp=7 then
          some true
         else
          if M'.fOp=8 then
           some true
          else
           if M'.fOp=9 then
            some true
           else
            some (decide (M'.fOp=10))
        : Option Bool).bind λ t12 =>
       if t12=true then
        some 4
       else
        (
          if M'.fOp=11 then
           some true
          else
           some (decide (M'.fOp=12))
         : Option Bool).bind λ t15 =>
        if t15=true then
         some 5
        else
         some 6
   else
    some 8
instance HY (M':aa):∀ (r:Int),HP (iQ M'=some r) Tryz.prog 46 [.agg (aa.cs M')] (.p (eI r)):=by
 refine hP good Tryz.func46 Z Z λ r h0 _ w0=>?_;unfold iQ at h0;refine nx 12 Z (fD [5] h0 Z (λ c1 h0=>?_) λ c1 h0=>?_)
 ·exact kG
 refine nx 9 Z (fD [8] h0 Z (λ c2 h0=>?_) λ c2 h0=>?_)
 ·exact kG
 refine nx 9 Z (fN [11] h0 Z (λ c3 h0=>?_) λ c3 h0=>?_)
 ·refine nx 14 Z (fD [14,15] h0 Z (λ c4 h0=>?_) λ c4 h0=>?_)
  ·exact kG
  refine nx 6 Z (fD [16,17] h0 Z (λ c5 h0=>?_) λ c5 h0=>?_)
  ·exact kG
  refine nx 2 Z (bd h0 λ o20 h1 h0=>?_);refine kN o20 (λ v21=>⟨[(13,.p (eI M'.fOp)),(18,.p (eB v21))],[]⟩) ?_ ?_
  ·refine nx 1 Z (fB [18] h0 Z (λ c8 h0=>?_) λ c8 h0=>?_)
   ·exact kG
   refine nx 2 Z (bd h0 λ WU h1 h0=>?_);refine kN WU (λ W3=>⟨[(13,.p (eI M'.fOp)),(21,.p (eB W3))],[]⟩) ?_ ?_
   ·refine nx 1 Z (fB [21] h0 Z (λ VP h0=>?_) λ VP h0=>?_)
    ·exact kG
    refine nx 2 Z (bd h0 λ o24 h1 h0=>?_);refine kN o24 (λ v25=>⟨[(26,.p (eB v25))],[]⟩) ?_ ?_
    ·refine nx 1 Z (fB [26] h0 Z (λ WO h0=>?_) λ WO h0=>?_)
     ·exact kG
     exact xD
    refine nx 5 Z (fD [26,27] h1 Z (λ Vh h1=>?_) λ Vh h1=>?_)
    ·exact lE
    exact nC
   refine nx 5 Z (fD [21,22] h1 Z (λ c9 h1=>?_) λ c9 h1=>?_)
   ·exact lE
   refine nx 6 Z (fD [21,23] h1 Z (λ VR h1=>?_) λ VR h1=>?_)
   ·exact lE
   refine nx 6 Z (fD [21,24] h1 Z (λ Uy h1=>?_) λ Uy h1=>?_)
   ·exact lE
   exact nC
  refine nx 5 Z (fD [18,19] h1 Z (λ c6 h1=>?_) λ c6 h1=>?_)
  ·exact lE
  exact nC
 exact kG
def lR:Option (List Bytes) :=
 some ([([]:Bytes),([33]:Bytes),([45]:Bytes),([124,124]:Bytes),([38,38]:Bytes),([61,61]:Bytes),([33,61]:Bytes),([60]:Bytes),([60,61]:Bytes),([62]:Bytes),([62,61]:Bytes),([43]:Bytes),([45]:Bytes),([42]:Bytes),([47]:Bytes),([37]:Bytes)])
instance H4:∀ (r:(List Bytes)),HP (lR=some r) Tryz.prog 45 [] (.p (eL eS r)):=by
 refine hP good Tryz.func45 Z Z λ r h0 _ w0=>?_;unfold lR at h0;refine nx 6 Z (mO Z (bp eS [([]:Bytes),([33]:Bytes),([45]:Bytes),([124,124]:Bytes),([38,38]:Bytes),([61,61]:Bytes),([33,61]:Bytes),([60]:Bytes),([60,61]:Bytes),([62]:Bytes),([62,61]:Bytes),([43]:Bytes),([45]:Bytes),([42]:Bytes),([47]:Bytes),([37]:Bytes)] Z Z Z Z Z Z Z Z Z Z Z Z Z Z ?_));exact uy
def dv (RS:aa->Int->Bool->Option Bytes)(M':aa)(all_1:Bool):Nat->Bytes->Int->Option Bytes
 | 0,_,_=>none
 | m+1,S7,i16 =>
 if i16 < (M'.AI.length:Int) then
  ck (S7.length+([36,123]:Bytes).length<=9223372036854775807) <|
  ck ((0:Int)<=i16/\i16 < (M'.AI.length:Int)) <|
  (RS (lat M'.AI i16) 0 all_1).bind λ SD =>
  ck ((S7++([36,123]:Bytes)).length+SD.length<=9223372036854775807) <|
  ck (((S7++([36,123]:Bytes))++SD).length+([125]:Bytes).length<=9223372036854775807) <|
  ck (inR (i16+1)) <|
  dv RS M' all_1 m (((S7++([36,123]:Bytes))++SD)++([125]:Bytes)) (i16+1)
 else
  some S7
def du (RS:aa->Int->Bool->Option Bytes)(l_0:List aa)(all_1:Bool):Nat->Bytes->Int->Option Bytes
 | 0,_,_=>none
 | m+1,Tl,i11 =>
 if i11 < (l_0.length:Int) then
  ck ((0:Int)<=i11/\i11 < (l_0.length:Int)) <|
  (RS (lat l_0 i11) 0 all_1).bind λ T9 =>
  ck (Tl.length+T9.length<=9223372036854775807) <|
  ck ((Tl++T9).length+([44,32]:Bytes).length<=9223372036854775807) <|
  ck (inR (i11+1)) <|
  du RS l_0 all_1 m ((Tl++T9)++([44,32]:Bytes)) (i11+1)
 else
  some Tl
def dc (n:Nat)(RS:aa->Int->Bool->Option Bytes)(SR:aa->Bool->Option Bytes)(l_0:List aa)(all_1:Bool):Nat->Bytes->Int->Option Bytes
 | 0,_,_=>none
 | m+1,SB,i29 =>
 ck (inR (i29+1)) <|
 if i29+1 < (l_0.length:Int) then
  ck ((0:Int)<=i29/\i29 < (l_0.length:Int)) <|
  (SR (lat l_0 i29) all_1).bind λ Tz =>
  ck (([40]:Bytes).length+Tz.length<=9223372036854775807) <|
  ck ((([40]:Bytes)++Tz).length+([41]:Bytes).length<=9223372036854775807) <|
  (
    (
      ck ((0:Int)<=i29/\i29 < (l_0.length:Int)) <|
      if (lat l_0 i29).Ar=1 then
       ck ((0:Int)<=i29/\i29 < (l_0.length:Int)) <|
       some (decide (((lat l_0 i29).By).Ar=3))
      else
       some false
     : Option Bool).bind λ t40 =>
    if t40=true then
     ck ((0:Int)<=i29/\i29 < (l_0.length:Int)) <|
     (ic n (((lat l_0 i29).By).If)).bind λ Ty =>
     some Ty
    else
     some ((([40]:Bytes)++Tz)++([41]:Bytes))
   : Option Bytes).bind λ key45 =>
  ck (SB.length+key45.length<=9223372036854775807) <|
  ck ((SB++key45).length+([32,61,32]:Bytes).length<=9223372036854775807) <|
  ck (inR (i29+1)) <|
  ck ((0:Int)<=i29+1/\i29+1 < (l_0.length:Int)) <|
  (RS (lat l_0 (i29+1)) 0 all_1).bind λ Vw =>
  ck (((SB++key45)++([32,61,32]:Bytes)).length+Vw.length<=9223372036854775807) <|
  ck ((((SB++key45)++([32,61,32]:Bytes))++Vw).length+([44,32]:Bytes).length<=9223372036854775807) <|
  ck (inR (i29+2)) <|
  dc n RS SR l_0 all_1 m ((((SB++key45)++([32,61,32]:Bytes))++Vw)++([44,32]:Bytes)) (i29+2)
 else
  some SB
mutual
def aO:Nat->aa->Bool->Option Bytes
 | 0,_,_=>none
 | n+1,M',all_1 =>
 if M'.Ar=1 then
  (iz n M'.By).bind λ r2 =>
  some r2
 else
  if M'.Ar=2 then
   (dv (aU n) M' all_1 n ([]:Bytes) 0).bind λ UX =>
   ck (([34]:Bytes).length+UX.length<=9223372036854775807) <|
   ck ((([34]:Bytes)++UX).length+([34]:Bytes).length<=9223372036854775807) <|
   some ((([34]:Bytes)++UX)++([34]:Bytes))
  else
   if M'.Ar=3 then
    some M'.A'
   else
    if M'.Ar=4 then
     ck ((0:Int)<=0/\0 < (M'.AI.length:Int)) <|
     ((aU n) (lat M'.AI 0) 8 all_1).bind λ Tz =>
     ck (Tz.length+([46]:Bytes).length<=9223372036854775807) <|
     ck ((Tz++([46]:Bytes)).length+M'.A'.length<=9223372036854775807) <|
     some ((Tz++([46]:Bytes))++M'.A')
    else
     if M'.Ar=5 then
      ck ((0:Int)<=0/\0 < (M'.AI.length:Int)) <|
      ((aU n) (lat M'.AI 0) 8 all_1).bind λ TF =>
      ck (TF.length+([91]:Bytes).length<=9223372036854775807) <|
      ck ((0:Int)<=1/\1 < (M'.AI.length:Int)) <|
      ((aU n) (lat M'.AI 1) 0 all_1).bind λ Ty =>
      ck ((TF++([91]:Bytes)).length+Ty.length<=9223372036854775807) <|
      ck (((TF++([91]:Bytes))++Ty).length+([93]:Bytes).length<=9223372036854775807) <|
      some (((TF++([91]:Bytes))++Ty)++([93]:Bytes))
     else
      if M'.Ar=6 then
       (lR).bind λ TQ =>
       ck ((0:Int)<=M'.fOp/\M'.fOp < (TQ.length:Int)) <|
       ck ((0:Int)<=0/\0 < (M'.AI.length:Int)) <|
       ((aU n) (lat M'.AI 0) 7 all_1).bind λ Xa =>
       ck ((lat TQ M'.fOp).length+Xa.length<=9223372036854775807) <|
       some ((lat TQ M'.fOp)++Xa)
      else
       if M'.Ar=7 then
        (iQ M').bind λ SX =>
        ck ((0:Int)<=0/\0 < (M'.AI.length:Int)) <|
        ((aU n) (lat M'.AI 0) SX all_1).bind λ Tx =>
        ck (Tx.length+([32]:Bytes).length<=9223372036854775807) <|
        (lR).bind λ T6 =>
        ck ((0:Int)<=M'.fOp/\M'.fOp < (T6.length:Int)) <|
        ck ((Tx++([32]:Bytes)).length+(lat T6 M'.fOp).length<=9223372036854775807) <|
        ck (((Tx++([32]:Bytes))++(lat T6 M'.fOp)).length+([32]:Bytes).length<=9223372036854775807) <|
        ck ((0:Int)<=1/\1 < (M'.AI.length:Int)) <|
        ck (inR (SX+1)) <|
        ((aU n) (lat M'.AI 1) (SX+1) all_1).bind λ Uf =>
        ck ((((Tx++([32]:Bytes))++(lat T6 M'.fOp))++([32]:Bytes)).length+Uf.length<=9223372036854775807) <|
        some ((((Tx++([32]:Bytes))++(lat T6 M'.fOp))++([32]:Bytes))++Uf)
       else
        if M'.Ar=8 then
         ck ((0:Int)<=0/\0 < (M'.AI.length:Int)) <|
         ((aU n) (lat M'.AI 0) 1 all_1).bind λ UL =>
         ck (UL.length+([32,63,32]:Bytes).length<=9223372036854775807) <|
         ck ((0:Int)<=1/\1 < (M'.AI.length:Int)) <|
         ((aU n) (lat M'.AI 1) 0 all_1).bind λ TP =>
         ck ((UL++([32,63,32]:Bytes)).length+TP.length<=9223372036854775807) <|
         ck (((UL++([32,63,32]:Bytes))++TP).length+([32,58,32]:Bytes).length<=9223372036854775807) <|
         ck ((0:Int)<=2/\2 < (M'.AI.length:Int)) <|
         ((aU n) (lat M'.AI 2) 0 all_1).bind λ VU =>
         ck ((((UL++([32,63,32]:Bytes))++TP)++([32,58,32]:Bytes)).length+VU.length<=9223372036854775807) <|
         some ((((UL++([32,63,32]:Bytes))++TP)++([32,58,32]:Bytes))++VU)
        else
         if M'.Ar=9 then
          ck (M'.A'.length+([40]:Bytes).length<=9223372036854775807) <|
          ((jT n) M'.AI all_1).bind λ Wa =>
          ck ((M'.A'++([40]:Bytes)).length+Wa.length<=9223372036854775807) <|
          ck (((M'.A'++([40]:Bytes))++Wa).length+([41]:Bytes).length<=9223372036854775807) <|
          some (((M'.A'++([40]:Bytes))++Wa)++([41]:Bytes))
         else
          if M'.Ar=10 then
           ((jT n) M'.AI all_1).bind λ W9 =>
           ck (([91]:Bytes).length+W9.length<=9223372036854775807) <|
           ck ((([91]:Bytes)++W9).length+([93]:Bytes).length<=9223372036854775807) <|
           some ((([91]:Bytes)++W9)++([93]:Bytes))
          else
           if M'.Ar=11 then
            ((jb n) M'.AI all_1).bind λ r98 =>
            some r98
           else
            if M'.Ar=12 then
             ((hZ n) M' ([93]:Bytes) all_1).bind λ Wc =>
             ck (([91]:Bytes).length+Wc.length<=9223372036854775807) <|
             some (([91]:Bytes)++Wc)
            else
             ((hZ n) M' ([125]:Bytes) all_1).bind λ Wb =>
             ck (([123]:Bytes).length+Wb.length<=9223372036854775807) <|
             some (([123]:Bytes)++Wb)
def aU:Nat->aa->Int->Bool->Option Bytes
 | 0,_,_,_=>none
 | n+1,M',least_1,all_2 =>
 (
   if all_2=true then
    some true
   else
    (iQ M').bind λ r2 =>
    some (decide (r2 < least_1))
  : Option Bool).bind λ t4 =>
 if t4=true then
  ((aO n) M' all_2).bind λ r6 =>
  ck (([40]:Bytes).length+r6.length<=9223372036854775807) <|
  ck ((([40]:Bytes)++r6).length+([41]:Bytes).length<=9223372036854775807) <|
  some ((([40]:Bytes)++r6)++([41]:Bytes))
 else
  ((aO n) M' all_2).bind λ R5 =>
  some R5
def jT:Nat->(List aa)->Bool->Option Bytes
 | 0,_,_=>none
 | n+1,l_0,all_1 =>
 (du (aU n) l_0 all_1 n ([]:Bytes) 0).bind λ Xj =>
 some Xj
def jb:Nat->(List aa)->Bool->Option Bytes
 | 0,_,_=>none
 | n+1,l_0,all_1 =>
 (dc n (aU n) (aO n) l_0 all_1 n ([123]:Bytes) 0).bind λ V0 =>
 ck (V0.length+([125]:Bytes).length<=9223372036854775807) <|
 some (V0++([125]:Bytes))
def hZ:Nat->aa->Bytes->Bool->Option Bytes
 | 0,_,_,_=>none
 | n+1,M',end_1,all_2 =>
 (
   if M'.B'=([]:Bytes) then
    some ([102,111,114,32]:Bytes)
   else
    ck (([102,111,114,32]:Bytes).length+M'.B'.length<=9223372036854775807) <|
    ck ((([102,111,114,32]:Bytes)++M'.B').length+([44,32]:Bytes).length<=9223372036854775807) <|
    some ((([102,111,114,32]:Bytes)++M'.B')++([44,32]:Bytes))
  : Option Bytes).bind λ TG =>
 ck (TG.length+M'.A'.length<=9223372036854775807) <|
 ck ((TG++M'.A').length+([32,105,110,32]:Bytes).length<=9223372036854775807) <|
 ck ((0:Int)<=0/\0 < (M'.AI.length:Int)) <|
 ((aU n) (lat M'.AI 0) 0 all_2).bind λ r8 =>
 ck (((TG++M'.A')++([32,105,110,32]:Bytes)).length+r8.length<=9223372036854775807) <|
 ck ((((TG++M'.A')++([32,105,110,32]:Bytes))++r8).length+([32,58,32]:Bytes).length<=9223372036854775807) <|
 ck ((0:Int)<=1/\1 < (M'.AI.length:Int)) <|
 ((aU n) (lat M'.AI 1) 0 all_2).bind λ S5 =>
 ck (((((TG++M'.A')++([32,105,110,32]:Bytes))++r8)++([32,58,32]:Bytes)).length+S5.length<=9223372036854775807) <|
 (
   if end_1=([125]:Bytes) then
    ck ((((((TG++M'.A')++([32,105,110,32]:Bytes))++r8)++([32,58,32]:Bytes))++S5).length+([32,61,62,32]:Bytes).length<=9223372036854775807) <|
    ck ((0:Int)<=2/\2 < (M'.AI.length:Int)) <|
    ((aU n) (lat M'.AI 2) 0 all_2).bind λ Uj =>
    ck (((((((TG++M'.A')++([32,105,110,32]:Bytes))++r8)++([32,58,32]:Bytes))++S5)++([32,61,62,32]:Bytes)).length+Uj.length<=9223372036854775807) <|
    some (((((((TG++M'.A')++([32,105,110,32]:Bytes))++r8)++([32,58,32]:Bytes))++S5)++([32,61,62,32]:Bytes))++Uj,3)
   else
    some (((((TG++M'.A')++([32,105,110,32]:Bytes))++r8)++([32,58,32]:Bytes))++S5,2)
  : Option (Bytes×Int)).bind λ Uc =>
 (
   if Uc.2 < (M'.AI.length:Int) then
    ck (Uc.1.length+([32,105,102,32]:Bytes).length<=9223372036854775807) <|
    ck ((0:Int)<=Uc.2/\Uc.2 < (M'.AI.length:Int)) <|
    ((aU n) (lat M'.AI Uc.2) 0 all_2).bind λ T8 =>
    ck ((Uc.1++([32,105,102,32]:Bytes)).length+T8.length<=9223372036854775807) <|
    some ((Uc.1++([32,105,102,32]:Bytes))++T8)
   else
    some Uc.1
  : Option Bytes).bind λ TX =>
 ck (TX.length+end_1.length<=9223372036854775807) <|
 some (TX++end_1)
end
theorem tN (n:Nat):(∀ (M':aa) (all_1:Bool) (r:Bytes),HP (aO n M' all_1=some r) Tryz.prog 22 [.agg (aa.cs M'),eB all_1] (.p (eS r)))/\(∀ (M':aa) (least_1:Int) (all_2:Bool) (r:Bytes),HP (aU n M' least_1 all_2=some r) Tryz.prog 44 [.agg (aa.cs M'),eI least_1,eB all_2] (.p (eS r)))/\(∀ (l_0:List aa) (all_1:Bool) (r:Bytes),HP (jT n l_0 all_1=some r) Tryz.prog 47 [eL al l_0,eB all_1] (.p (eS r)))/\(∀ (l_0:List aa) (all_1:Bool) (r:Bytes),HP (jb n l_0 all_1=some r) Tryz.prog 48 [eL al l_0,eB all_1] (.p (eS r)))/\(∀ (M':aa) (end_1:Bytes) (all_2:Bool) (r:Bytes),HP (hZ n M' end_1 all_2=some r) Tryz.prog 49 [.agg (aa.cs M'),eS end_1,eB all_2] (.p (eS r))):=by
 induction n with
 | zero=>exact ⟨by intros; exact ⟨λ h=>by cases h⟩,by intros; exact ⟨λ h=>by cases h⟩,by intros; exact ⟨λ h=>by cases h⟩,by intros; exact ⟨λ h=>by cases h⟩,by intros; exact ⟨λ h=>by cases h⟩⟩
 | succ n ih =>
 obtain ⟨Uk,Ul,Un,Ud,Um⟩:=ih;refine ⟨?_,?_,?_,?_,?_⟩
 ·skip
  refine λ M' all_1=>hP good Tryz.func22 Z Z λ r h0 _ w0=>?_;rw [aO] at h0;refine nx 17 Z (fD [10,11] h0 Z (λ c1 h0=>?_) λ c1 h0=>?_)
  ·refine nx 5 Z (bd h0 λ r2 e3 h0=>?_);refine oK (HP.c e3) Z ⟨sr,trivial⟩ Tryz.call43 Z (nx 3 Z ?_);exact lA
  refine nx 6 Z (fD [15,16] h0 Z (λ c4 h0=>?_) λ c4 h0=>?_)
  ·refine nx 11 Z (bd h0 λ Xq h1 h0=>?_);refine kE 1 Xq (λ v109=>⟨[(5,.p (eS v109))],[]⟩) ?_ ?_
   ·refine nx 4 Z (oC h0 Z λ hk28 h0=>?_);exact oC h0 Z λ Wy h0=>nx 3 Z ud
   refine lG (λ (UT:Bytes×Int)=>⟨[(1,.p (eB all_1)),(2,.ptr 2 0),(5,.p (eS UT.1)),(6,.p (eI UT.2))],[(2,(aa.cs M').map .p)]⟩) (λ m (UT:Bytes×Int)=>dv (aU n) M' all_1 m UT.1 UT.2) Y (([]:Bytes),0) h1 (gE rfl rfl) ?_;rintro m ⟨S7,i16⟩ h1;replace h1:dv (aU n) M' all_1 (m+1) S7 i16=some Xq:=h1;rw [dv] at h1;refine nx 6 rfl (oLl (f:=al) rfl rfl ?_);refine nx 2 rfl (fD [21] h1 rfl (λ R9 h1=>?_) λ R9 h1=>?_)
   ·refine nx 6 Z (oC h1 Z λ S9 h1=>?_);refine nx 3 Z (oE h1 aa.It Z Z Y λ Tv h1=>?_);refine nx 2 Z (bd h1 λ SD e21 h1=>?_);refine oK (HP.c e21) Z ⟨sr,sr,sr,trivial⟩ Tryz.call44 Z (oC h1 Z λ TJ h1=>?_);refine oC h1 Z λ Xx h1=>nx 4 Z (oA h1 Z Z λ Uv h1=>?_);exact nx 2 Z (eX (((S7++([36,123]:Bytes))++SD)++([125]:Bytes),i16+1) h1 (gE Z Z))
   exact rk
  refine nx 6 Z (fD [38,39] h0 Z (λ WL h0=>?_) λ WL h0=>?_)
  ·exact nx 8 Z ud
  refine nx 6 Z (fD [42,43] h0 Z (λ Vg h0=>?_) λ Vg h0=>?_)
  ·refine nx 2 Z (cc' h0 λ U7 h0=>?_);refine bd h0 λ Tz XE h0=>cc' h0 λ Ut h0=>cc' h0 λ Us h0=>mD [(1,.p (eB all_1)),(2,.ptr 2 0)] Z ⟨Z,Z,trivial⟩ Z (dR 2 Z ?_);refine dq (.rptr (aa.cs (lat M'.AI 0))) [45] Z (λ _ e _ q=>ak Z (gm (f:=al) (l:=M'.AI) aa.cs Z Z Z Z Z Z (e _ _ Z) Z Z U7 aa.It Y q)) Z (dR 2 Z ?_);refine dq (.p (eS Tz)) [47,48] Z (λ _ e _ q=>ak Z (bS (HP.c XE) Z Z Z (av (e _ _ Z) (av Z (av (e _ _ Z) bm))) ⟨sr,sr,sr,trivial⟩ Tryz.call44 Z q)) Z (dq (.p (eS (Tz++([46]:Bytes)))) [49] Z (λ _ e _ q=>ak Z (bP Z Z Z (e _ _ Z) Z Ut q)) Z ?_);refine dR 2 Z (dq (.p (eS ((Tz++([46]:Bytes))++M'.A'))) [50,52] Z (λ _ e _ q=>ak Z (bP Z Z Z (e _ _ Z) (e _ _ Z) Us q)) Z ?_);refine dR 1 Z (dE Z ?_);exact uf
  refine nx 6 Z (fD [54,55] h0 Z (λ c37 h0=>?_) λ c37 h0=>?_)
  ·refine nx 2 Z (cc' h0 λ VK h0=>?_);refine bd h0 λ TF e40 h0=>cc' h0 λ Tt h0=>cc' h0 λ Uq h0=>bd h0 λ Ty XC h0=>cc' h0 λ Ww h0=>cc' h0 λ U6 h0=>mD [(1,.p (eB all_1)),(2,.ptr 2 0)] Z ⟨Z,Z,trivial⟩ Z (dR 2 Z ?_);refine dq (.rptr (aa.cs (lat M'.AI 0))) [57] Z (λ _ e _ q=>ak Z (gm (f:=al) (l:=M'.AI) aa.cs Z Z Z Z Z Z (e _ _ Z) Z Z VK aa.It Y q)) Z (dR 2 Z ?_);refine dq (.p (eS TF)) [59,60] Z (λ _ e _ q=>ak Z (bS (HP.c e40) Z Z Z (av (e _ _ Z) (av Z (av (e _ _ Z) bm))) ⟨sr,sr,sr,trivial⟩ Tryz.call44 Z q)) Z (dq (.p (eS (TF++([91]:Bytes)))) [61] Z (λ _ e _ q=>ak Z (bP Z Z Z (e _ _ Z) Z Tt q)) Z ?_);refine dR 2 Z (dq (.rptr (aa.cs (lat M'.AI 1))) [64] Z (λ _ e _ q=>ak Z (gm (f:=al) (l:=M'.AI) aa.cs Z Z Z Z Z Z (e _ _ Z) Z Z Uq aa.It Y q)) Z ?_);refine dR 2 Z (dq (.p (eS Ty)) [66,67] Z (λ _ e _ q=>ak Z (bS (HP.c XC) Z Z Z (av (e _ _ Z) (av Z (av (e _ _ Z) bm))) ⟨sr,sr,sr,trivial⟩ Tryz.call44 Z q)) Z ?_);refine dq (.p (eS ((TF++([91]:Bytes))++Ty))) [62,68] Z (λ _ e _ q=>ak Z (bP Z Z Z (e _ _ Z) (e _ _ Z) Ww q)) Z (dq (.p (eS (((TF++([91]:Bytes))++Ty)++([93]:Bytes)))) [69] Z (λ _ e _ q=>ak Z (bP Z Z Z (e _ _ Z) Z U6 q)) Z ?_);refine dR 1 Z (dE Z ?_);exact uf
  refine nx 6 Z (fD [71,72] h0 Z (λ WJ h0=>?_) λ WJ h0=>?_)
  ·refine nx 2 Z (bd h0 λ TQ Xz h0=>?_);refine cc' h0 λ U5 h0=>cc' h0 λ VG h0=>bd h0 λ Xa e53 h0=>cc' h0 λ U3 h0=>mD [(1,.p (eB all_1)),(2,.ptr 2 0)] Z ⟨Z,Z,trivial⟩ Z (dq (.p (eL eS TQ)) [] Z (λ _ e _ q=>ak Z (bS (HP.c Xz) Z Z Z bm trivial Tryz.call45 Z q)) Z ?_);refine dR 2 Z (dq (.rptr [eS (lat TQ M'.fOp)]) [73,75] Z (λ _ e _ q=>ak Z (gm (f:=eS) (l:=TQ) (λ x=>[eS x]) Z Z Z Z Z Z (e _ _ Z) Z (e _ _ Z) U5 Y Y q)) Z ?_);refine dR 3 Z (dq (.rptr (aa.cs (lat M'.AI 0))) [79] Z (λ _ e _ q=>ak Z (gm (f:=al) (l:=M'.AI) aa.cs Z Z Z Z Z Z (e _ _ Z) Z Z VG aa.It Y q)) Z ?_);refine dR 2 Z (dq (.p (eS Xa)) [81,82] Z (λ _ e _ q=>ak Z (bS (HP.c e53) Z Z Z (av (e _ _ Z) (av Z (av (e _ _ Z) bm))) ⟨sr,sr,sr,trivial⟩ Tryz.call44 Z q)) Z ?_);refine dq (.p (eS ((lat TQ M'.fOp)++Xa))) [77,83] Z (λ _ e _ q=>ak Z (bP Z Z Z (e _ _ Z) (e _ _ Z) U3 q)) Z (dR 1 Z ?_);refine dE Z (nx 2 Z ?_);exact lA
  refine nx 6 Z (fD [85,86] h0 Z (λ c55 h0=>?_) λ c55 h0=>?_)
  ·refine nx 4 Z (bd h0 λ SX e57 h0=>?_);refine oK (HP.c e57) Z ⟨sr,trivial⟩ Tryz.call46 Z (nx 3 Z ?_);refine cc' h0 λ U2 h0=>bd h0 λ Tx e60 h0=>cc' h0 λ VF h0=>bd h0 λ T6 e63 h0=>cc' h0 λ Wr h0=>cc' h0 λ U0 h0=>cc' h0 λ Wq h0=>cc' h0 λ Wp h0=>cc' h0 λ Wo h0=>bd h0 λ Uf e70 h0=>cc' h0 λ Wn h0=>mD [(1,.p (eB all_1)),(2,.ptr 2 0),(7,.p (eI SX))] Z ⟨Z,Z,Z,trivial⟩ Z ?_;refine dR 2 Z (dq (.rptr (aa.cs (lat M'.AI 0))) [90] Z (λ _ e _ q=>ak Z (gm (f:=al) (l:=M'.AI) aa.cs Z Z Z Z Z Z (e _ _ Z) Z Z U2 aa.It Y q)) Z ?_);refine dR 3 Z (dq (.p (eS Tx)) [92,93,94] Z (λ _ e _ q=>ak Z (bS (HP.c e60) Z Z Z (av (e _ _ Z) (av (e _ _ Z) (av (e _ _ Z) bm))) ⟨sr,sr,sr,trivial⟩ Tryz.call44 Z q)) Z ?_);refine dq (.p (eS (Tx++([32]:Bytes)))) [95] Z (λ _ e _ q=>ak Z (bP Z Z Z (e _ _ Z) Z VF q)) Z (dq (.p (eL eS T6)) [] Z (λ _ e _ q=>ak Z (bS (HP.c e63) Z Z Z bm trivial Tryz.call45 Z q)) Z ?_);refine dR 2 Z (dq (.rptr [eS (lat T6 M'.fOp)]) [97,99] Z (λ _ e _ q=>ak Z (gm (f:=eS) (l:=T6) (λ x=>[eS x]) Z Z Z Z Z Z (e _ _ Z) Z (e _ _ Z) Wr Y Y q)) Z ?_);refine dR 1 Z (dq (.p (eS ((Tx++([32]:Bytes))++(lat T6 M'.fOp)))) [96,101] Z (λ _ e _ q=>ak Z (bP Z Z Z (e _ _ Z) (e _ _ Z) U0 q)) Z ?_);refine dq (.p (eS (((Tx++([32]:Bytes))++(lat T6 M'.fOp))++([32]:Bytes)))) [102] Z (λ _ e _ q=>ak Z (bP Z Z Z (e _ _ Z) Z Wq q)) Z (dR 2 Z ?_);refine dq (.rptr (aa.cs (lat M'.AI 1))) [105] Z (λ _ e _ q=>ak Z (gm (f:=al) (l:=M'.AI) aa.cs Z Z Z Z Z Z (e _ _ Z) Z Z Wp aa.It Y q)) Z (dR 2 Z ?_);refine dq (.p (eI (SX+1))) [108] Z (λ _ e _ q=>ak Z (fS Z Z Z (e _ _ Z) Z Z Wo q)) Z (dR 1 Z ?_);refine dq (.p (eS Uf)) [107,109,110] Z (λ _ e _ q=>ak Z (bS (HP.c e70) Z Z Z (av (e _ _ Z) (av (e _ _ Z) (av (e _ _ Z) bm))) ⟨sr,sr,sr,trivial⟩ Tryz.call44 Z q)) Z (dq (.p (eS ((((Tx++([32]:Bytes))++(lat T6 M'.fOp))++([32]:Bytes))++Uf))) [103,111] Z (λ _ e _ q=>ak Z (bP Z Z Z (e _ _ Z) (e _ _ Z) Wn q)) Z ?_);refine dR 1 Z (dE Z ?_);refine nx 1 Z (mG (gE (t:=⟨[(4,.p (eS ((((Tx++([32]:Bytes))++(lat T6 M'.fOp))++([32]:Bytes))++Uf)))],[]⟩) Z Z) ?_);exact nx 1 Z ud
  refine nx 6 Z (fD [113,114] h0 Z (λ c72 h0=>?_) λ c72 h0=>?_)
  ·refine nx 2 Z (cc' h0 λ Wm h0=>?_);refine bd h0 λ UL e75 h0=>cc' h0 λ hk76 h0=>cc' h0 λ hk77 h0=>bd h0 λ TP e79 h0=>cc' h0 λ hk80 h0=>cc' h0 λ hk81 h0=>cc' h0 λ hk82 h0=>bd h0 λ VU e84 h0=>cc' h0 λ hk85 h0=>mD [(1,.p (eB all_1)),(2,.ptr 2 0)] Z ⟨Z,Z,trivial⟩ Z (dR 2 Z ?_);refine dq (.rptr (aa.cs (lat M'.AI 0))) [116] Z (λ _ e _ q=>ak Z (gm (f:=al) (l:=M'.AI) aa.cs Z Z Z Z Z Z (e _ _ Z) Z Z Wm aa.It Y q)) Z (dR 2 Z ?_);refine dq (.p (eS UL)) [118,119] Z (λ _ e _ q=>ak Z (bS (HP.c e75) Z Z Z (av (e _ _ Z) (av Z (av (e _ _ Z) bm))) ⟨sr,sr,sr,trivial⟩ Tryz.call44 Z q)) Z (dq (.p (eS (UL++([32,63,32]:Bytes)))) [120] Z (λ _ e _ q=>ak Z (bP Z Z Z (e _ _ Z) Z hk76 q)) Z ?_);refine dR 2 Z (dq (.rptr (aa.cs (lat M'.AI 1))) [123] Z (λ _ e _ q=>ak Z (gm (f:=al) (l:=M'.AI) aa.cs Z Z Z Z Z Z (e _ _ Z) Z Z hk77 aa.It Y q)) Z ?_);refine dR 2 Z (dq (.p (eS TP)) [125,126] Z (λ _ e _ q=>ak Z (bS (HP.c e79) Z Z Z (av (e _ _ Z) (av Z (av (e _ _ Z) bm))) ⟨sr,sr,sr,trivial⟩ Tryz.call44 Z q)) Z ?_);refine dq (.p (eS ((UL++([32,63,32]:Bytes))++TP))) [121,127] Z (λ _ e _ q=>ak Z (bP Z Z Z (e _ _ Z) (e _ _ Z) hk80 q)) Z (dq (.p (eS (((UL++([32,63,32]:Bytes))++TP)++([32,58,32]:Bytes)))) [128] Z (λ _ e _ q=>ak Z (bP Z Z Z (e _ _ Z) Z hk81 q)) Z ?_);refine dR 2 Z (dq (.rptr (aa.cs (lat M'.AI 2))) [131] Z (λ _ e _ q=>ak Z (gm (f:=al) (l:=M'.AI) aa.cs Z Z Z Z Z Z (e _ _ Z) Z Z hk82 aa.It Y q)) Z ?_);refine dR 2 Z (dq (.p (eS VU)) [133,134] Z (λ _ e _ q=>ak Z (bS (HP.c e84) Z Z Z (av (e _ _ Z) (av Z (av (e _ _ Z) bm))) ⟨sr,sr,sr,trivial⟩ Tryz.call44 Z q)) Z ?_);refine dq (.p (eS ((((UL++([32,63,32]:Bytes))++TP)++([32,58,32]:Bytes))++VU))) [129,135] Z (λ _ e _ q=>ak Z (bP Z Z Z (e _ _ Z) (e _ _ Z) hk85 q)) Z (dR 1 Z ?_);refine dE Z (nx 2 Z ?_);exact lA
  refine nx 6 Z (fD [137,138] h0 Z (λ c86 h0=>?_) λ c86 h0=>?_)
  ·refine nx 2 Z (cc' h0 λ hk87 h0=>?_);refine bd h0 λ Wa e89 h0=>cc' h0 λ hk90 h0=>cc' h0 λ hk91 h0=>mD [(1,.p (eB all_1)),(2,.ptr 2 0)] Z ⟨Z,Z,trivial⟩ Z (dR 2 Z ?_);refine dq (.p (eS (M'.A'++([40]:Bytes)))) [140] Z (λ _ e _ q=>ak Z (bP Z Z Z (e _ _ Z) Z hk87 q)) Z (dR 3 Z ?_);refine dq (.p (eS Wa)) [143,144] Z (λ _ e _ q=>ak Z (bS (HP.c e89) Z Z Z (av (e _ _ Z) (av (e _ _ Z) bm)) ⟨sr,sr,trivial⟩ Tryz.call47 Z q)) Z (dq (.p (eS ((M'.A'++([40]:Bytes))++Wa))) [141,145] Z (λ _ e _ q=>ak Z (bP Z Z Z (e _ _ Z) (e _ _ Z) hk90 q)) Z ?_);refine dq (.p (eS (((M'.A'++([40]:Bytes))++Wa)++([41]:Bytes)))) [146] Z (λ _ e _ q=>ak Z (bP Z Z Z (e _ _ Z) Z hk91 q)) Z (dR 1 Z ?_);refine dE Z (nx 2 Z ?_);exact lA
  refine nx 6 Z (fD [148,149] h0 Z (λ c92 h0=>?_) λ c92 h0=>?_)
  ·refine nx 6 Z (bd h0 λ W9 e94 h0=>?_);refine oK (HP.c e94) Z ⟨sr,sr,trivial⟩ Tryz.call47 Z (oC h0 Z λ hk95 h0=>?_);refine oC h0 Z λ hk96 h0=>nx 2 Z (mG (gE (t:=⟨[(4,.p (eS ((([91]:Bytes)++W9)++([93]:Bytes))))],[]⟩) Z Z) ?_);exact nx 1 Z ud
  refine nx 6 Z (fD [156,157] h0 Z (λ c97 h0=>?_) λ c97 h0=>?_)
  ·refine nx 6 Z (bd h0 λ r98 e99 h0=>?_);refine oK (HP.c e99) Z ⟨sr,sr,trivial⟩ Tryz.call48 Z (nx 2 Z ?_);refine mG (gE (t:=⟨[(4,.p (eS r98))],[]⟩) Z Z) (nx 1 Z ?_);exact lA
  refine nx 6 Z (mG (gE (t:=⟨[(1,.p (eB all_1)),(2,.ptr 2 0),(162,.p (eB (decide (M'.Ar=12))))],[(2,(aa.cs M').map .p)]⟩) Z Z) ?_);refine fD [162] h0 Z (λ c100 h0=>?_) λ c100 h0=>?_
  ·refine nx 5 Z (bd h0 λ Wc e102 h0=>?_);refine oK (HP.c e102) Z ⟨sr,sr,sr,trivial⟩ Tryz.call49 Z (oC h0 Z λ hk103 h0=>?_);exact uy
  refine nx 6 Z (bd h0 λ Wb e105 h0=>?_);refine oK (HP.c e105) Z ⟨sr,sr,sr,trivial⟩ Tryz.call49 Z (oC h0 Z λ hk106 h0=>?_);exact uy
 ·skip
  refine λ M' least_1 all_2=>hP good Tryz.func44 Z Z λ r h0 _ w0=>?_;rw [aU] at h0;refine nx 7 Z (bd h0 λ o13 h1 h0=>?_);refine kN o13 (λ v14=>⟨[(2,.p (eB all_2)),(3,.ptr 3 0),(13,.p (eB v14))],[(3,(aa.cs M').map .p)]⟩) ?_ ?_
  ·refine nx 1 Z (fB [13] h0 Z (λ c5 h0=>?_) λ c5 h0=>?_)
   ·refine nx 5 Z (bd h0 λ r6 e7 h0=>?_);refine oK (HP.c e7) Z ⟨sr,sr,trivial⟩ Tryz.call22 Z (oC h0 Z λ Xt h0=>?_);exact oC h0 Z λ UZ h0=>nx 3 Z ud
   refine nx 6 Z (bd h0 λ R5 Ux h0=>?_);refine oK (HP.c Ux) Z ⟨sr,sr,trivial⟩ Tryz.call22 Z (nx 3 Z ?_);exact lA
  refine nx 3 Z (fB [2,7,8] h1 Z (λ c1 h1=>?_) λ c1 h1=>?_)
  ·exact nx 6 Z (eX _ (oi h1).symm (fb II))
  refine nx 1 Z (bd h1 λ r2 e3 h1=>?_);refine oK (HP.c e3) Z ⟨sr,trivial⟩ Tryz.call46 Z (nx 4 Z ?_);exact eX _ (oi h1).symm (fb II)
 ·skip
  refine λ l_0 all_1=>hP good Tryz.func47 Z Z λ r h0 _ w0=>?_;rw [jT] at h0;refine nx 14 Z (bd h0 λ TV h1 h0=>?_);refine kE 0 TV (λ T5=>⟨[(5,.p (eS T5))],[]⟩) ?_ ?_
  ·exact xD
  refine lG (λ (VB:Bytes×Int)=>⟨[(0,.p (eL al l_0)),(1,.p (eB all_1)),(5,.p (eS VB.1)),(6,.p (eI VB.2))],[]⟩) (λ m (VB:Bytes×Int)=>du (aU n) l_0 all_1 m VB.1 VB.2) Y (([]:Bytes),0) h1 (gE rfl rfl) ?_;rintro m ⟨Tl,i11⟩ h1;replace h1:du (aU n) l_0 all_1 (m+1) Tl i11=some TV:=h1;rw [du] at h1;refine nx 5 rfl (oLl (f:=al) rfl rfl ?_);refine nx 2 rfl (fD [10] h1 rfl (λ VQ h1=>?_) λ VQ h1=>?_)
  ·refine nx 8 Z (oE h1 aa.It Z Z Y λ Va h1=>?_);refine nx 2 Z (bd h1 λ T9 e15 h1=>?_);refine oK (HP.c e15) Z ⟨sr,sr,sr,trivial⟩ Tryz.call44 Z (oC h1 Z λ TZ h1=>?_);refine oC h1 Z λ VN h1=>nx 4 Z (oA h1 Z Z λ S9 h1=>?_);exact nx 2 Z (eX ((Tl++T9)++([44,32]:Bytes),i11+1) h1 (gE Z Z))
  exact rk
 ·skip
  refine λ l_0 all_1=>hP good Tryz.func48 Z Z λ r h0 _ w0=>?_;rw [jb] at h0;refine nx 14 Z (bd h0 λ o62 h1 h0=>?_);refine kE 0 o62 (λ v63=>⟨[(5,.p (eS v63))],[]⟩) ?_ ?_
  ·refine nx 4 Z (oC h0 Z λ U2 h0=>?_);exact uy
  refine lG (λ (Ub:Bytes×Int)=>⟨[(0,.p (eL al l_0)),(1,.p (eB all_1)),(5,.p (eS Ub.1)),(6,.p (eI Ub.2))],[]⟩) (λ m (Ub:Bytes×Int)=>dc n (aU n) (aO n) l_0 all_1 m Ub.1 Ub.2) Y (([123]:Bytes),0) h1 (gE rfl rfl) ?_;rintro m ⟨SB,i29⟩ h1;replace h1:dc n (aU n) (aO n) l_0 all_1 (m+1) SB i29=some o62:=h1;rw [dc] at h1;refine nx 4 rfl (oA h1 rfl rfl λ VL h1=>?_);refine nx 1 rfl (oLl (f:=al) rfl rfl ?_);refine nx 2 rfl (fD [12] h1 rfl (λ Vg h1=>?_) λ Vg h1=>?_)
  ·refine nx 8 Z (oE h1 aa.It Z Z Y λ U7 h1=>?_);refine nx 2 Z (bd h1 λ Tz XE h1=>?_);refine oK (HP.c XE) Z ⟨sr,sr,trivial⟩ Tryz.call22 Z (oC h1 Z λ Ut h1=>?_);refine oC h1 Z λ Us h1=>nx 3 Z (bd h1 λ WT h2 h1=>?_);refine kN WT (λ v66=>⟨[(0,.p (eL al l_0)),(1,.p (eB all_1)),(5,.p (eS SB)),(6,.p (eI i29)),(7,.p (eS v66))],[]⟩) ?_ ?_
   ·refine nx 4 Z (oC h1 Z λ U6 h1=>?_);refine oC h1 Z λ Wv h1=>nx 2 Z (oA h1 Z Z λ VH h1=>?_);refine oE h1 aa.It Z Z Y λ Xw h1=>nx 2 Z (bd h1 λ Vw e51 h1=>?_);refine oK (HP.c e51) Z ⟨sr,sr,sr,trivial⟩ Tryz.call44 Z (oC h1 Z λ Wu h1=>?_);refine oC h1 Z λ U4 h1=>nx 4 Z (oA h1 Z Z λ U3 h1=>?_);exact nx 2 Z (eX ((((SB++WT)++([32,61,32]:Bytes))++Vw)++([44,32]:Bytes),i29+2) h1 (gE Z Z))
   refine nx 1 Z (bd h2 λ Sc h3 h2=>?_);refine kN Sc (λ V9=>⟨[(0,.p (eL al l_0)),(1,.p (eB all_1)),(5,.p (eS SB)),(6,.p (eI i29)),(7,.p (eS ((([40]:Bytes)++Tz)++([41]:Bytes)))),(37,.p (eB V9))],[]⟩) ?_ ?_
   ·refine nx 1 Z (fB [37] h2 Z (λ c41 h2=>?_) λ c41 h2=>?_)
    ·refine nx 4 Z (oE h2 aa.It Z Z Y λ Uq h2=>?_);refine nx 3 Z (bd h2 λ Ty XC h2=>?_);refine oK (HP.c XC) Z ⟨sr,trivial⟩ Tryz.call83 Z (nx 2 Z ?_);exact wt
    exact uw
   refine nx 3 Z (oE h3 aa.It Z Z Y λ Ur h3=>?_);refine nx 4 Z (fD [28,29] h3 Z (λ c38 h3=>?_) λ c38 h3=>?_)
   ·refine nx 2 Z (oE h3 aa.It Z Z Y λ VJ h3=>?_);exact nx 6 Z kD
   exact nx 9 Z kD
  exact rk
 ·skip
  refine λ M' end_1 all_2=>hP good Tryz.func49 Z Z λ r h0 _ w0=>?_;rw [hZ] at h0;refine nx 10 Z (bd h0 λ TU h1 h0=>?_);refine kN TU (λ Vq=>⟨[(1,.p (eS end_1)),(2,.p (eB all_2)),(3,.ptr 3 0),(7,.p (eS Vq))],[(3,(aa.cs M').map .p)]⟩) ?_ ?_
  ·refine nx 2 Z (cc' h0 λ Up h0=>?_);refine cc' h0 λ WW h0=>cc' h0 λ V7 h0=>bd h0 λ r8 e9 h0=>cc' h0 λ TN h0=>cc' h0 λ TL h0=>cc' h0 λ Vb h0=>bd h0 λ S5 XI h0=>cc' h0 λ S' h0=>mG (gE (t:=⟨[(1,.p (eS end_1)),(2,.p (eB all_2)),(3,.ptr 3 0),(7,.p (eS TU))],[(3,(aa.cs M').map .p)]⟩) Z Z) (mS ⟨1,[20],(λ _=>.none),(by2 [(1,.p (eS end_1)),(2,.p (eB all_2)),(3,.ptr 3 0),(7,.p (eS TU))] [(1,.p (eS end_1)),(2,.p (eB all_2)),(3,.ptr 3 0)]),(λ _=>[(3,[.p (eI M'.Ar),.p (eI M'.fOp),.p (eS M'.A'),.p (eS M'.B'),.p (eI M'.By.Ar),.p (eI M'.By.F'),.p (eS M'.By.If),.p (eL dQ M'.By.Gw),.p (eL eS M'.By.Df),.p (eL al M'.AI),.p (eI M'.fAt)])])⟩ Z Z Z ⟨Z,Z,Z,Z,trivial⟩ (lt1 ⟨Z,Z,Z,trivial⟩) Z Z Z Z ?_);refine co (λ _=>.p (eS TU)) Z Z Z (kS Z Y) (lt1 Z) (cP Z (cp [(7,_)] ⟨.inl Z,trivial⟩ (λ sl OF K hK=>ak Z (p7 Z Z Z (OF _ _ Z) hK)) cF)) (co (λ _=>.ptr 3 2) Z Z Z (kS Z Y) (lt1 Z) (cP Z (cp [(3,_)] ⟨.inl Z,trivial⟩ (λ sl OF K hK=>ak Z (iC Z Z Z Z Z Z Z Z (OF _ _ Z) hK)) cF)) ?_);refine co (λ _=>.p (eS M'.A')) Z Z Z (kS Z Y) (lt1 Z) (cP Z (cp [(18,_)] ⟨.inr ⟨1,_,Z,Z,Z⟩,trivial⟩ (λ sl OF K hK=>ak Z (lb Z Z Z Z Z (OF _ _ Z) Z Z hK)) cF)) (co (λ _=>.p (eS (TU++M'.A'))) Z Z Z (kS Z Y) (lt1 Z) (cP Z (cp [(17,_),(19,_)] ⟨.inr ⟨0,_,Z,Z,Z⟩,.inr ⟨2,_,Z,Z,Z⟩,trivial⟩ (λ sl OF K hK=>ak Z (bP Z Z Z (OF _ _ Z) (OF _ _ Z) Up hK)) cF)) ?_);refine co (λ _=>.p (eS ((TU++M'.A')++([32,105,110,32]:Bytes)))) Z Z Z (kS Z Y) (lt1 Z) (cP Z (cp [(20,_)] ⟨.inr ⟨3,_,Z,Z,Z⟩,trivial⟩ (λ sl OF K hK=>ak Z (bP Z Z Z (OF _ _ Z) Z WW hK)) cF)) (co (λ _=>.ptr 3 9) Z Z Z (kS Z Y) (lt1 Z) (cP Z (cp [(3,_)] ⟨.inl Z,trivial⟩ (λ sl OF K hK=>ak Z (iC Z Z Z Z Z Z Z Z (OF _ _ Z) hK)) cF)) ?_);refine co (λ _=>.p (eL al M'.AI)) Z Z Z (kS Z Y) (lt1 Z) (cP Z (cp [(22,_)] ⟨.inr ⟨5,_,Z,Z,Z⟩,trivial⟩ (λ sl OF K hK=>ak Z (lb Z Z Z Z Z (OF _ _ Z) Z Z hK)) cF)) (co (λ _=>.rptr (aa.cs (lat M'.AI 0))) Z Z Z (kS Z Y) (lt1 Z) (cP Z (cp [(23,_)] ⟨.inr ⟨6,_,Z,Z,Z⟩,trivial⟩ (λ sl OF K hK=>ak Z (gm (f:=al) (l:=M'.AI) aa.cs Z Z Z Z Z Z (OF _ _ Z) Z Z V7 aa.It Y hK)) cF)) ?_);refine co (λ _=>.p (.agg (aa.cs (lat M'.AI 0)))) Z Z Z (kS Z Y) (lt1 Z) (cP Z (cp [(24,_)] ⟨.inr ⟨7,_,Z,Z,Z⟩,trivial⟩ (λ sl OF K hK=>ak Z (rn Z Z Z Z Z (OF _ _ Z) Z hK)) cF)) (co (λ _=>.p (eB all_2)) Z Z Z (kS Z Y) (lt1 Z) (cP Z (cp [(2,_)] ⟨.inl Z,trivial⟩ (λ sl OF K hK=>ak Z (p7 Z Z Z (OF _ _ Z) hK)) cF)) ?_);refine co (λ _=>.p (eS r8)) Z Z Z (kS Z Y) (lt1 Z) (cP Z (cp [(25,_),(26,_)] ⟨.inr ⟨8,_,Z,Z,Z⟩,.inr ⟨9,_,Z,Z,Z⟩,trivial⟩ (λ sl OF K hK=>ak Z (bS (HP.c e9) Z Z Z (av (OF _ _ Z) (av Z (av (OF _ _ Z) bm))) ⟨sr,sr,sr,trivial⟩ Tryz.call44 Z hK)) cF)) (co (λ _=>.p (eS (((TU++M'.A')++([32,105,110,32]:Bytes))++r8))) Z Z Z (kS Z Y) (lt1 Z) (cP Z (cp [(21,_),(27,_)] ⟨.inr ⟨4,_,Z,Z,Z⟩,.inr ⟨10,_,Z,Z,Z⟩,trivial⟩ (λ sl OF K hK=>ak Z (bP Z Z Z (OF _ _ Z) (OF _ _ Z) TN hK)) cF)) ?_);refine co (λ _=>.p (eS ((((TU++M'.A')++([32,105,110,32]:Bytes))++r8)++([32,58,32]:Bytes)))) Z Z Z (kS Z Y) (lt1 Z) (cP Z (cp [(28,_)] ⟨.inr ⟨11,_,Z,Z,Z⟩,trivial⟩ (λ sl OF K hK=>ak Z (bP Z Z Z (OF _ _ Z) Z TL hK)) cF)) (co (λ _=>.ptr 3 9) Z Z Z (kS Z Y) (lt1 Z) (cP Z (cp [(3,_)] ⟨.inl Z,trivial⟩ (λ sl OF K hK=>ak Z (iC Z Z Z Z Z Z Z Z (OF _ _ Z) hK)) cF)) ?_);refine co (λ _=>.p (eL al M'.AI)) Z Z Z (kS Z Y) (lt1 Z) (cP Z (cp [(30,_)] ⟨.inr ⟨13,_,Z,Z,Z⟩,trivial⟩ (λ sl OF K hK=>ak Z (lb Z Z Z Z Z (OF _ _ Z) Z Z hK)) cF)) (co (λ _=>.rptr (aa.cs (lat M'.AI 1))) Z Z Z (kS Z Y) (lt1 Z) (cP Z (cp [(31,_)] ⟨.inr ⟨14,_,Z,Z,Z⟩,trivial⟩ (λ sl OF K hK=>ak Z (gm (f:=al) (l:=M'.AI) aa.cs Z Z Z Z Z Z (OF _ _ Z) Z Z Vb aa.It Y hK)) cF)) ?_);refine co (λ _=>.p (.agg (aa.cs (lat M'.AI 1)))) Z Z Z (kS Z Y) (lt1 Z) (cP Z (cp [(32,_)] ⟨.inr ⟨15,_,Z,Z,Z⟩,trivial⟩ (λ sl OF K hK=>ak Z (rn Z Z Z Z Z (OF _ _ Z) Z hK)) cF)) (co (λ _=>.p (eB all_2)) Z Z Z (kS Z Y) (lt1 Z) (cP Z (cp [(2,_)] ⟨.inl Z,trivial⟩ (λ sl OF K hK=>ak Z (p7 Z Z Z (OF _ _ Z) hK)) cF)) ?_);refine co (λ _=>.p (eS S5)) Z Z Z (kS Z Y) (lt1 Z) (cP Z (cp [(33,_),(34,_)] ⟨.inr ⟨16,_,Z,Z,Z⟩,.inr ⟨17,_,Z,Z,Z⟩,trivial⟩ (λ sl OF K hK=>ak Z (bS (HP.c XI) Z Z Z (av (OF _ _ Z) (av Z (av (OF _ _ Z) bm))) ⟨sr,sr,sr,trivial⟩ Tryz.call44 Z hK)) cF)) (co (λ _=>.p (eS (((((TU++M'.A')++([32,105,110,32]:Bytes))++r8)++([32,58,32]:Bytes))++S5))) Z Z Z (kS Z Y) (lt1 Z) (cP Z (cp [(29,_),(35,_)] ⟨.inr ⟨12,_,Z,Z,Z⟩,.inr ⟨18,_,Z,Z,Z⟩,trivial⟩ (λ sl OF K hK=>ak Z (bP Z Z Z (OF _ _ Z) (OF _ _ Z) S' hK)) cF)) ?_);refine Gp (λ _=>.p (eS (((((TU++M'.A')++([32,105,110,32]:Bytes))++r8)++([32,58,32]:Bytes))++S5))) [(36,_)] Z ⟨.inr ⟨19,_,Z,Z,Z⟩,trivial⟩ Z Z Y (lt1 (λ h=>absurd h (by decide))) (λ sl OF K hK=>ak Z (rj Z Z Z (OF _ _ Z) hK)) (fp ?_);refine nx 6 Z (bd h0 λ o37 h1 h0=>?_);refine kN o37 (λ v38=>⟨[(1,.p (eS end_1)),(2,.p (eB all_2)),(3,.ptr 3 0),(7,.p (eS v38.1)),(8,.p (eI v38.2))],[(3,(aa.cs M').map .p)]⟩) ?_ ?_
   ·refine nx 2 Z (bd h0 λ o39 h1 h0=>?_);refine kN o39 (λ W0=>⟨[(1,.p (eS end_1)),(7,.p (eS W0))],[]⟩) ?_ ?_
    ·refine nx 5 Z (oC h0 Z λ U8 h0=>?_);exact uy
    refine nx 4 Z (oLl (f:=al) Z Z ?_);refine nx 3 Z (fD [52] h1 Z (λ WM h1=>?_) λ WM h1=>?_)
    ·refine nx 3 Z (oC h1 Z λ Tu h1=>?_);refine nx 3 Z (oE h1 aa.It Z Z Y λ Uu h1=>?_);refine nx 2 Z (bd h1 λ T8 XG h1=>?_);refine oK (HP.c XG) Z ⟨sr,sr,sr,trivial⟩ Tryz.call44 Z (oC h1 Z λ Wy h1=>?_);exact lE
    exact lE
   refine nx 3 Z (oS Z Z ?_);refine nx 1 Z (fD [38] h1 Z (λ WO h1=>?_) λ WO h1=>?_)
   ·refine nx 4 Z (oC h1 Z λ VN h1=>?_);refine nx 2 Z (oE h1 aa.It Z Z Y λ S9 h1=>?_);refine nx 2 Z (bd h1 λ Uj e20 h1=>?_);refine oK (HP.c e20) Z ⟨sr,sr,sr,trivial⟩ Tryz.call44 Z (oC h1 Z λ Tm h1=>?_);refine nx 2 Z (mG (gE (t:=⟨[(1,.p (eS end_1)),(2,.p (eB all_2)),(3,.ptr 3 0),(7,.p (eS (((((((TU++M'.A')++([32,105,110,32]:Bytes))++r8)++([32,58,32]:Bytes))++S5)++([32,61,62,32]:Bytes))++Uj)))],[(3,(aa.cs M').map .p)]⟩) Z Z) ?_);exact xF
   exact lE
  refine nx 4 Z (oS Z Z ?_);refine nx 1 Z (fN [11] h1 Z (λ c1 h1=>?_) λ c1 h1=>?_)
  ·exact lE
  refine nx 5 Z (oC h1 Z λ To h1=>?_);exact oC h1 Z λ U9 h1=>nx 2 Z fy
instance Kt (n:Nat):∀ (M':aa) (all_1:Bool) (r:Bytes),HP (aO n M' all_1=some r) Tryz.prog 22 [.agg (aa.cs M'),eB all_1] (.p (eS r)):=(tN n).1
def fM (n:Nat)(M':aa):Option Bool :=
 (kz n M').bind λ r1 =>
 if (!r1)=true then
  (gT n).bind λ r4 =>
  some r4
 else
  (aO n M' true).bind λ r6 =>
  (aO n M' false).bind λ r8 =>
  (
    if 20000 < (r6.length:Int) then
     some true
    else
     some (decide (20000 < (r8.length:Int)))
   : Option Bool).bind λ t11 =>
  if t11=true then
   (gT n).bind λ S5 =>
   some S5
  else
   (ei n r6).bind λ RJ =>
   (ei n r8).bind λ UM =>
   (
     if RJ.2.Ar=0 then
      if UM.2.Ar=0 then
       (ed n RJ.1 M').bind λ RQ =>
       if RQ=true then
        (ed n UM.1 M').bind λ WR =>
        if WR=true then
         (gT n).bind λ T8 =>
         some T8
        else
         some false
       else
        some false
      else
       some false
     else
      some false
    : Option Bool).bind λ W6 =>
   some W6
instance vT (n:Nat) (M':aa):∀ (r:Bool),HP (fM n M'=some r) Tryz.prog 6 [.agg (aa.cs M')] (.p (eB r)):=by
 refine hP good Tryz.func6 Z Z λ r h0 _ w0=>?_;unfold fM at h0;refine nx 9 Z (bd h0 λ r1 e2 h0=>?_);refine oK (HP.c e2) Z ⟨sr,trivial⟩ Tryz.call21 Z (nx 2 Z ?_);refine fB [11] h0 Z (λ c3 h0=>?_) λ c3 h0=>?_
 ·refine nx 3 Z (bd h0 λ r4 e5 h0=>?_);refine oK (HP.c e5) Z trivial Tryz.call11 Z (nx 3 Z ?_);exact lA
 refine nx 3 Z (bd h0 λ r6 e7 h0=>?_);refine bd h0 λ r8 e9 h0=>mD [(1,.ptr 1 0)] Z ⟨Z,trivial⟩ Z (dR 1 Z ?_);refine dq (.p (eS r6)) [13] Z (λ _ e _ q=>ak Z (bS (HP.c e7) Z Z Z (av (e _ _ Z) (av Z bm)) ⟨sr,sr,trivial⟩ Tryz.call22 Z q)) Z (dR 1 Z ?_);refine dq (.p (eS r8)) [15] Z (λ _ e _ q=>ak Z (bS (HP.c e9) Z Z Z (av (e _ _ Z) (av Z bm)) ⟨sr,sr,trivial⟩ Tryz.call22 Z q)) Z (dR 2 Z ?_);refine dE Z (nx 3 Z ?_);refine bd h0 λ T1 h1 h0=>kN T1 (λ Vr=>⟨[(1,.ptr 1 0),(3,.p (eS r6)),(4,.p (eS r8)),(24,.p (eB Vr))],[(1,(aa.cs M').map .p)]⟩) ?_ ?_
 ·refine nx 1 Z (fB [24] h0 Z (λ VQ h0=>?_) λ VQ h0=>?_)
  ·refine nx 3 Z (bd h0 λ S5 XI h0=>?_);refine oK (HP.c XI) Z trivial Tryz.call11 Z (nx 3 Z ?_);exact lA
  refine nx 5 Z (bd h0 λ RJ Uw h0=>?_);refine oK (HP.c Uw) Z ⟨sr,trivial⟩ Tryz.call16 Z (nx 11 Z ?_);refine bd h0 λ UM e18 h0=>oK (HP.c e18) Z ⟨sr,trivial⟩ Tryz.call16 Z (nx 9 Z ?_);refine bd h0 λ o34 h1 h0=>kN o34 (λ UK=>⟨[(2,.p (eB UK))],[]⟩) ?_ ?_
  ·exact uf
  refine nx 5 Z (fD [38,39] h1 Z (λ WN h1=>?_) λ WN h1=>?_)
  ·refine nx 5 Z (fD [42,43,44] h1 Z (λ c20 h1=>?_) λ c20 h1=>?_)
   ·refine nx 2 Z (bd h1 λ RQ XH h1=>?_);refine oK (HP.c XH) Z ⟨sr,sr,trivial⟩ Tryz.call23 Z (nx 2 Z ?_);refine fB [47,48,49] h1 Z (λ T4 h1=>?_) λ T4 h1=>?_
    ·refine nx 2 Z (bd h1 λ WR e25 h1=>?_);refine oK (HP.c e25) Z ⟨sr,sr,trivial⟩ Tryz.call23 Z (nx 2 Z ?_);refine fB [52,53,54] h1 Z (λ XM h1=>?_) λ XM h1=>?_
     ·refine bd h1 λ T8 XG h1=>oK (HP.c XG) Z trivial Tryz.call11 Z (nx 3 Z ?_);exact eX _ (oi h1).symm (gE Z Z)
     exact nx 4 Z fy
    exact nx 9 Z fy
   exact nx 14 Z fy
  exact nx 19 Z fy
 refine nx 2 Z (oLs Z ?_);refine nx 2 Z (fD [19,20] h1 Z (λ VR h1=>?_) λ VR h1=>?_)
 ·exact nC
 refine nx 1 Z (oLs Z ?_);exact xF
end Go.Ab.R06
end
section
namespace Go.Ab.R06
open Go.Proofs Go.Ab Go.Ab.RB Go.Lib
section
variable {p:Prop}
theorem A2 (h:p:=by
 exact ah (by simp only [bt,aq,dg]; omega) (ah (by simp only [bt,aq,dg]; omega) (ab G))):p:=h
theorem qY (h:p:=by
 exact ah (by simp only [bt,aq,dg]; omega) (ab G)):p:=h
theorem xc (h:p:=by
 refine ay (λ h=>ab ?_) (λ h=>ah (show 4+y.length<=9223372036854775807 by omega) (ah (show ([102,111,114,32]++y).length+2<=9223372036854775807 by simp only [bt,aq,dg]; omega) (ab ?_)))
 ·rw [if_pos (show y=[] from h)]; rfl
 ·rw [if_neg (show ¬ y=[] from h)]; show ([102,111,114,32]++y)++[44,32]=_; simp):p:=h
theorem IB (h:p:=by exact gG (x:=y) (H y G).1 (H y G).2 (kn:=0) Z):p:=h
theorem Bu (h:p:=by rw [hT]; simp only [bt,aq,dg]; omega):p:=h
theorem Iz (h:p:=by exact ai _ (gG (x:=f) (H f G).1 (H f G).2 (kn:=0) Z) (ah (by simp only [bt,aq,dg]; omega) (ab Z))):p:=h
theorem HM (h:p:=by simp only [List.drop_zero,bt,aq,dg]; omega):p:=h
theorem xm (h:p:=by exact gG (x:=x) (H x G).1 (H x G).2 (kn:=0) Z):p:=h
theorem xq (h:p:=by exact gG (x:=c) (H c G).1 (H c G).2 (kn:=0) Z):p:=h
theorem Hz (h:p:=by exact ai _ (gG (x:=d) (H d G).1 (H d G).2 (kn:=0) Z) (ah (by simp only [bt,aq,dg]; omega) (ab Z))):p:=h
end
theorem uZ:∀ s:Bytes,s.length<=(pn s).length/\(pn s).length<=2*s.length
 | []=>by simp [pn]
 | b::r=>by
  have:=uZ r;simp only [pn,bt,aq];split <;> simp <;> omega
theorem MA (s:Bytes):s.length<=(quo s).length/\(quo s).length<=12*s.length:=by
 have h1:=y3 (pn s);have h2:=uZ s;unfold quo; omega
theorem zR (s:Bytes)(hs:s.length<=1000000):Ev2 (λ n _=>jt n s) (·=pn s):=by
 simp only [jt]
 have loop:∀ (k i:Nat) (o:Bytes),i+k=s.length->o.length<=2*i->Ev2 (λ _ m=>cJ s m o (i:Int)) (·=o++pn (s.drop i)):=by
  intro k
  induction k with
  | zero =>
   intro i o hi ho;refine aA ?_;simp only [cJ];refine ae O (ab ?_);rw [List.drop_eq_nil_of_le O]; simp [pn]
  | succ k ih =>
   intro i o hi ho;have hd:=drop_at s (i:=i) O;refine aA ?_;simp only [cJ];refine aj O ?_
   have hc:(s.drop (i+1)).head? = some 123↔i+1 < s.length/\s.getD (i+1) 0=123:=by
    by_cases h:i+1 < s.length
    ·rw [drop_at s h]; simp [h]
    ·rw [List.drop_eq_nil_of_le O]; simp [h]
   have hb:byt s (i:Int)=36↔s.getD i 0=36:=by
    rw [eA];have:=p6 (b:=s.getD i 0) (n:=36) (by decide);constructor
    ·intro h; exact this.1 O
    ·intro h; have:=this.2 h; omega
   have hb2:byt s ((i:Int)+1)=123↔s.getD (i+1) 0=123:=by
    have e:byt s ((i:Int)+1)=((s.getD (i+1) 0).toNat:Int):=by rw [<- Int.natCast_one,<- Int.natCast_add,eA]
    rw [e];have:=p6 (b:=s.getD (i+1) 0) (n:=123) (by decide);constructor
    ·intro h; exact this.1 O
    ·intro h; have:=this.2 h; omega
   refine ai (if s.getD i 0=36/\(s.drop (i+1)).head? = some 123 then o++[36] else o) ?_ ?_
   ·refine ai (decide (s.getD i 0=36/\(s.drop (i+1)).head? = some 123)) ?_ ?_
    ·refine ah O (ay (λ h1=>?_) (λ h1=>ab ?_))
     ·refine ah aV (ay (λ h2=>?_) (λ h2=>ab ?_))
      ·refine ah aV (ah O (ab ?_));have h3:i+1 < s.length:=by omega
       rw [decide_eq_decide,hb2,hc];exact ⟨λ h=>⟨hb.1 h1,h3,h⟩,λ h=>h.2.2⟩
      ·symm; rw [decide_eq_false_iff_not,hc]
       intro h; omega
     ·symm; rw [decide_eq_false_iff_not]
      intro h; exact h1 (hb.2 h.1)
    ·refine ay (λ h=>ah pA (ab ?_)) (λ h=>ab ?_)
     ·rw [if_pos (of_decide_eq_true h)]
     ·rw [if_neg (λ k=>h (decide_eq_true k))]
   ·have Mp:(if s.getD i 0=36/\(s.drop (i+1)).head? = some 123 then o++[36] else o).length<=2*i+1:=by
     split
     ·exact I7
     ·omega
    have hsub:sub s (i:Int) ((i:Int)+1)=[s.getD i 0]:=by
     have:=DU s i 1;rw [Int.natCast_one] at this;rw [this,hd]; rfl
    rw [hsub];refine ah aV (ah O (ah pA (ah aV ?_)));refine bB (kg (P:=λ j=>Ev2 (λ _ m=>cJ s m (_++[s.getD i 0]) j) _) (ih (i+1) _ O (by rw [bt]; simp only [aq,dg]; omega))) (λ r hr=>?_);rw [hr,hd];simp only [pn];split <;> simp
 refine ai _ (bh (f:=λ _ m=>cJ s m [] 0) (loop s.length 0 [] O G)) (ab ?_);simp
theorem Me {α:Type} [Inhabited α] (l:List α){i:Nat}(h:i < l.length):l.drop i=lat l (i:Int)::l.drop (i+1):=by
 rw [List.drop_eq_getElem_cons h,kT _ _ h]
theorem tb (s:Bytes)(hs:s.length<=300000):Ev2 (λ n _=>ic n s) (·=34::(quo s++[34])):=by
 simp only [ic];have h2:=uZ s;exact ai _ (zR s O) (ai _ (EA _ O) (ab rfl))
theorem On {v:ag}(h:xf v):Ev2 (λ n _=>iz n v) (·=D5 v)/\(D5 v).length<=50000:=by
 simp only [iz]
 cases h with
 | null=>exact ⟨ae (show ¬ ((0:Int)=2) by decide) (ae (show ¬ ((0:Int)=3) by decide) (ae (show ¬ ((0:Int)=1) by decide) (ab Z))),by decide⟩
 | bool n hn =>
  rcases hn with rfl | rfl
  ·exact ⟨ae (show ¬ ((1:Int)=2) by decide) (ae (show ¬ ((1:Int)=3) by decide) (aj Z (ae (show ¬ ((0:Int)=1) by decide) (ab Z)))),by decide⟩
  ·exact ⟨ae (show ¬ ((1:Int)=2) by decide) (ae (show ¬ ((1:Int)=3) by decide) (aj Z (aj Z (ab Z)))),by decide⟩
 | num n h0 h1 =>
  refine ⟨aj Z (ai _ (FJ h0 h1) (ab Z)),?_⟩;have:=Hl h0 h1;show (itoa n).length<=50000;omega
 | str s hs hl =>
  refine ⟨ae (show ¬ ((3:Int)=2) by decide) (aj Z (ai _ (tb s O) (ab Z))),?_⟩;have:=(MA s).2;show (34::(quo s++[34])).length<=50000;simp only [aq,bt,dg]; omega
theorem yW (e:aa):iQ e=some (lvX e:Int):=by
 unfold iQ lvX;by_cases h8:e.Ar=8
 ·simp [h8]
 by_cases h6:e.Ar=6
 ·simp [h6]
 by_cases h7:e.Ar=7
 ·simp only [h7];by_cases o3:e.fOp=3
  ·simp [o3]
  by_cases o4:e.fOp=4
  ·simp [o4]
  by_cases o5:e.fOp=5
  ·simp [o5]
  by_cases o6:e.fOp=6
  ·simp [o6]
  by_cases o7:e.fOp=7
  ·simp [o7]
  by_cases o8:e.fOp=8
  ·simp [o8]
  by_cases o9:e.fOp=9
  ·simp [o9]
  by_cases o10:e.fOp=10
  ·simp [o10]
  by_cases o11:e.fOp=11
  ·simp [o11]
  by_cases V5:e.fOp=12
  ·simp [V5]
  simp [o3,o4,o5,o6,o7,o8,o9,o10,o11,V5]
 ·simp [h8,h6,h7]
theorem gG {all:Bool}{x:aa}{t:Bytes}(hx:Ev2 (λ n _=>aO n x all) (·=t))(hl:t.length<=1000000000){k:Int}{kn:Nat}(hk:k=kn):Ev2 (λ n _=>aU n x k all) (·=prt all kn x t):=by
 subst hk;refine aM ?_;simp only [aU];refine ai (decide (all=true\/lvX x < kn)) ?_ ?_
 ·refine ay (λ h=>ab (by simp [h])) (λ h=>ai _ (aw (yW x) Z) (ab ?_));simp [h]
 ·unfold prt;refine ay (λ h=>?_) (λ h=>?_)
  ·rw [if_pos (of_decide_eq_true h)];exact ai _ hx (ah bY (ah bY ti))
  ·rw [if_neg (λ q=>h (decide_eq_true q))];exact ai _ hx (ab rfl)
theorem cz (all:Bool)(n:Nat)(x:aa)(t:Bytes):(prt all n x t).length<=t.length+2:=by
 unfold prt;split <;> simp
theorem Eb {all:Bool}{e:aa}(hl:e.AI.length<=100000)(hx:∀ x∈e.AI,Ev2 (λ n _=>aO n x all) (·=az all x)/\(az all x).length<=1000000000):∀ (k i:Nat) (o:Bytes),i+k=e.AI.length->(o++tmT ((e.AI.drop i).map λ x=>prt all 0 x (az all x))).length<=1000000000->Ev2 (λ n m=>dv (aU n) e all m o (i:Int)) (·=o++tmT ((e.AI.drop i).map λ x=>prt all 0 x (az all x))):=by
 intro k
 induction k with
 | zero =>
  intro i o hi ho;refine aA ?_;simp only [dv];refine ae O (ab ?_);rw [List.drop_eq_nil_of_le O]; simp [tmT]
 | succ k ih =>
  intro i o hi ho;have hd:=Me e.AI (i:=i) O;have hm:=hx (lat e.AI (i:Int)) (Go.Ab.pL O);refine aA ?_;simp only [dv];rw [hd,cl,oe] at ho ⊢;generalize hT:tmT ((e.AI.drop (i+1)).map λ x=>prt all 0 x (az all x))=T at ho ⊢;simp only [bt,aq] at ho;refine aj O (ah bY (ah O (ai _ (gG hm.1 hm.2 (kn:=0) rfl) ?_)));refine ah bY (ah bY (ah aV ?_));refine bB (kg (P:=λ j=>Ev2 (λ n m=>dv (aU n) e all m _ j) _) (ih (i+1) _ O Bu)) (λ r hr=>?_);rw [hr,hT]; simp
theorem Ey {all:Bool}{l:List aa}(hl:l.length<=100000)(hx:∀ x∈l,Ev2 (λ n _=>aO n x all) (·=az all x)/\(az all x).length<=1000000000):∀ (k i:Nat) (o:Bytes),i+k=l.length->(o++lr all (l.drop i) ((l.drop i).map (az all))).length<=1000000000->Ev2 (λ n m=>du (aU n) l all m o (i:Int)) (·=o++lr all (l.drop i) ((l.drop i).map (az all))):=by
 intro k
 induction k with
 | zero =>
  intro i o hi ho;refine aA ?_;simp only [du];refine ae O (ab ?_);rw [List.drop_eq_nil_of_le O]; simp [lr]
 | succ k ih =>
  intro i o hi ho;have hd:=Me l (i:=i) O;have hm:=hx (lat l (i:Int)) (Go.Ab.pL O);refine aA ?_;simp only [du];rw [hd] at ho ⊢;simp only [cl,lr] at ho ⊢;generalize hT:lr all (l.drop (i+1)) ((l.drop (i+1)).map (az all))=T at ho ⊢;simp only [bt,aq] at ho;refine aj O (ah O (ai _ (gG hm.1 hm.2 (kn:=0) rfl) ?_));refine ah O (ah bY (ah aV ?_));refine bB (kg (P:=λ j=>Ev2 (λ n m=>du (aU n) l all m _ j) _) (ih (i+1) _ O Bu)) (λ r hr=>?_);rw [hr,hT]; simp
theorem C2 {all:Bool}{l:List aa}(hl:l.length<=100000)(hx:∀ x∈l,Ev2 (λ n _=>aO n x all) (·=az all x)/\(az all x).length<=1000000000)(ho:(lr all l (l.map (az all))).length<=1000000000):Ev2 (λ n _=>jT n l all) (·=lr all l (l.map (az all))):=by
 refine aM ?_;simp only [jT];refine ai _ (bh (f:=λ n m=>du (aU n) l all m [] 0) (Ey hl hx l.length 0 [] O (by simpa using ho))) ti
theorem yd {all:Bool}{l:List aa}(hl:l.length<=100000)(he:l.length % 2=0)(hs:∀ x∈l,Shp x)(hx:∀ x∈l,Ev2 (λ n _=>aO n x all) (·=az all x)/\(az all x).length<=1000000000):∀ (k i:Nat) (o:Bytes),i+2*k=l.length->(o++mF all (l.drop i) ((l.drop i).map (az all))).length<=1000000000->Ev2 (λ n m=>dc n (aU n) (aO n) l all m o (i:Int)) (·=o++mF all (l.drop i) ((l.drop i).map (az all))):=by
 intro k
 induction k with
 | zero =>
  intro i o hi ho;refine aA ?_;simp only [dc];refine ah aV (ae O (ab ?_));rw [List.drop_eq_nil_of_le O]; simp [mF]
 | succ k ih =>
  intro i o hi ho;have hd:=Me l (i:=i) O;have hd2:=Me l (i:=i+1) O;have m1:lat l (i:Int)∈l:=Go.Ab.pL O;have m2:lat l ((i+1:Nat):Int)∈l:=Go.Ab.pL O;have h1:=hx _ m1;have h2:=hx _ m2;refine aA ?_;simp only [dc];rw [hd,hd2] at ho ⊢;simp only [cl,mF] at ho ⊢;rw [show i+1+1=i+2 from rfl] at ho ⊢;rw [show ((i:Int)+1)=((i+1:Nat):Int) from rfl];generalize hT:mF all (l.drop (i+2)) ((l.drop (i+2)).map (az all))=T at ho ⊢;simp only [bt,aq] at ho;refine ah aV (aj O (ah O (ai _ h1.1 ?_)));refine ah bY (ah bY ?_);refine ai (vl (lat l (i:Int)) (az all (lat l (i:Int)))) ?_ ?_
  ·refine ai (decide ((lat l (i:Int)).Ar=1/\(lat l (i:Int)).By.Ar=3)) ?_ ?_
   ·refine ah O (ay (λ h=>ah O (ab (by simp [h]))) (λ h=>ab (by simp [h])))
   ·unfold vl;refine ay (λ h=>?_) (λ h=>?_)
    ·have h:=of_decide_eq_true h;rw [if_pos h];refine ah O (ai _ (tb _ ?_) (ab Z));have hsx:=hs _ m1;generalize lat l (i:Int)=z at h hsx
     have hz:xf z.By:=by
      cases hsx with
      | lit v a hv=>exact hv
      | loop m=>cases m <;> exact absurd h.1 (by simp [aa.Ar])
      | _=>exact absurd h.1 (by simp [aa.Ar])
     generalize z.By=v at hz
     cases hz with
     | str s hs hl=>show s.length<=300000; omega
     | _=>exact rg _
    ·rw [if_neg (λ q=>h (decide_eq_true q))];exact ab G
  ·generalize vl (lat l (i:Int)) (az all (lat l (i:Int)))=K at ho ⊢;refine ah O (ah bY (ah aV (ah O (ai _ (gG h2.1 h2.2 (kn:=0) Z) ?_))));refine ah bY (ah bY (ah aV ?_));rw [show ((i:Int)+2)=((i+2:Nat):Int) from rfl];refine bB (ih (i+2) _ O Bu) (λ r hr=>?_);rw [hr,hT]; simp
theorem D3 {all:Bool}{l:List aa}(hl:l.length<=100000)(he:l.length % 2=0)(hs:∀ x∈l,Shp x)(hx:∀ x∈l,Ev2 (λ n _=>aO n x all) (·=az all x)/\(az all x).length<=1000000000)(ho:(mF all l (l.map (az all))).length<=900000000):Ev2 (λ n _=>jb n l all) (·=123::(mF all l (l.map (az all))++[125])):=by
 refine aM ?_;simp only [jb];refine ai _ (bh (f:=λ n m=>dc n (aU n) (aO n) l all m [123] 0) (yd hl he hs hx (l.length / 2) 0 [123] O HM)) (ah HM ti)
theorem tZ (all:Bool):∀ l:List aa,(∀ x∈l,(az all x).length+1000<=60000*dG x)->(lr all l (l.map (az all))).length<=60000*bN l
 | [],_=>by simp [lr]
 | x::l,h=>by
  have h1:=h x List.mem_cons_self;have h2:=tZ all l λ y hy=>h y (List.mem_cons_of_mem _ hy);have h3:=cz all 0 x (az all x);simp only [cl,lr,bt,aq,bN]; omega
theorem FI (all:Bool){k:aa}(hs:Shp k):(vl k (az all k)).length<=(az all k).length+2:=by
 unfold vl;split
 ·rename_i q;rw [BN hs q]; omega
 ·simp only [aq,bt,dg]; omega
theorem yY (all:Bool):∀ l:List aa,(∀ x∈l,Shp x/\(az all x).length+1000<=60000*dG x)->(mF all l (l.map (az all))).length<=60000*bN l
 | [],_=>by simp [mF]
 | [_],_=>by simp [mF]
 | k::x::l,h=>by
  have h0:=h k List.mem_cons_self;have h1:=(h x (List.mem_cons_of_mem _ List.mem_cons_self)).2;have h2:=yY all l λ y hy=>h y (List.mem_cons_of_mem _ (List.mem_cons_of_mem _ hy));have h3:=cz all 0 x (az all x);have h4:=FI all h0.1;have h5:=h0.2;simp only [cl,mF,bt,aq,bN]; omega
theorem B9 (all:Bool):∀ l:List aa,(∀ x∈l,(az all x).length+1000<=60000*dG x)->(tmT (l.map λ x=>prt all 0 x (az all x))).length<=60000*bN l
 | [],_=>by simp [tmT]
 | x::l,h=>by
  have h1:=h x List.mem_cons_self;have h2:=B9 all l λ y hy=>h y (List.mem_cons_of_mem _ hy);have h3:=cz all 0 x (az all x);simp only [cl,oe,bt,aq,bN]; omega
theorem B4 (all:Bool):∀ (lv:Nat) (e:aa),VE lv e->dG e<=1000->Ev2 (λ n _=>aO n e all) (·=az all e)/\(az all e).length+1000<=60000*dG e:=by
 intro lv e h
 induction h with
 | @mk lv e h hs hc hb hk ih =>
  intro hn;rw [iU] at hn ⊢;have hp:∀ x∈e.AI,(az all x).length+1000<=60000*dG x:=λ x hx=>(ih x hx (by have:=jP hx; omega) ).2;have H:∀ x∈e.AI,Ev2 (λ n _=>aO n x all) (·=az all x)/\(az all x).length<=1000000000:=λ x hx=>⟨(ih x hx (by have:=jP hx; omega) ).1,by have:=hp x hx; have:=jP hx; omega⟩
  have hkl:e.AI.length<=100000:=by have:=pt e.AI; omega
  have hsh:∀ x∈e.AI,Shp x:=λ x hx=>by
   cases hk x hx with
   | mk _ s _ _ _=>exact s
  cases hs with
  | lit v a hv =>
   have e1:az all (pi v a)=D5 v:=by rw [fQ]; rfl
   obtain ⟨l1,l2⟩:=On hv;rw [e1];refine ⟨aM ?_,by omega⟩;simp only [aO];exact aj (show (1:Int)=1 from rfl) (ai _ l1 (ab rfl))
  | name s a hi hr =>
   have e1:az all (aa.mk 3 0 s [] v0 [] a)=s:=by rw [fQ]; rfl
   have hl:=((hH s).1 hi).2.1;rw [e1];refine ⟨aM ?_,by omega⟩;simp only [aO];exact ae (show ¬ ((3:Int)=1) by decide) (ae (show ¬ ((3:Int)=2) by decide) (aj (show (3:Int)=3 from rfl) (ab Z)))
  | attr s x a hi =>
   have e1:az all (aa.mk 4 0 s [] v0 [x] a)=prt all 8 x (az all x)++46::s:=by rw [fQ]; rfl
   have hl:=((hH s).1 hi).2.1;have hkid:(aa.mk 4 0 s [] v0 [x] a).AI=[x]:=rfl;rw [hkid] at H hp hn ⊢;have p1:=hp x G; have p2:=cz all 8 x (az all x);simp only [bN] at hn ⊢;rw [e1];refine ⟨aM ?_,by simp only [bt,aq]; omega⟩;simp only [aO];refine ae (show ¬ ((4:Int)=1) by decide) (ae (show ¬ ((4:Int)=2) by decide) (ae (show ¬ ((4:Int)=3) by decide) (aj (show (4:Int)=4 from rfl) (ah (show (0:Int)<=0/\(0:Int) < (([x]:List aa).length:Int) by simp) (ai _ (gG (H x G).1 (H x G).2 (kn:=8) Z) ?_)))));exact ah pA (ah (show ((prt all 8 x (az all x)++[46]).length+s.length<=9223372036854775807) by simp only [bt,aq,dg]; omega) (ab (by show (_++[46])++s=_; simp)))
  | idx x y a =>
   have e1:az all (aa.mk 5 0 [] [] v0 [x,y] a)=prt all 8 x (az all x)++91::(prt all 0 y (az all y)++[93]):=by rw [fQ]; rfl
   have hkid:(aa.mk 5 0 [] [] v0 [x,y] a).AI=[x,y]:=rfl;rw [hkid] at H hp hn hkl hsh ⊢;have px:=hp x G; have rx:=cz all 8 x (az all x);have py:=hp y G; have ry:=cz all 0 y (az all y);simp only [bN] at hn ⊢;rw [e1];refine ⟨aM ?_,by simp only [bt,aq,dg]; omega⟩;simp only [aO];refine ae (show ¬ ((5:Int)=1) by decide) (ae (show ¬ ((5:Int)=2) by decide) (ae (show ¬ ((5:Int)=3) by decide) (ae (show ¬ ((5:Int)=4) by decide) (aj (show (5:Int)=5 from rfl) (ah (show (0:Int)<=0/\(0:Int) < (([x,y]:List aa).length:Int) by simp) (ai _ (gG (x:=x) (H x G).1 (H x G).2 (kn:=8) Z) ?_))))));refine ah bY (ah (show (0:Int)<=1/\(1:Int) < (([x,y]:List aa).length:Int) by simp) (ai _ IB ?_));exact A2
  | un o x a ho =>
   have e1:az all (aa.mk 6 o [] [] v0 [x] a)=opX o++prt all 7 x (az all x):=by rw [fQ]; rfl
   have hkid:(aa.mk 6 o [] [] v0 [x] a).AI=[x]:=rfl;rw [hkid] at H hp hn hkl hsh ⊢;have px:=hp x G; have rx:=cz all 7 x (az all x);have ol:(opX o).length<=2:=by rcases ho with rfl | rfl <;> decide
   have ob:0<=o/\o < 16:=by omega
   simp only [bN] at hn ⊢;rw [e1];refine ⟨aM ?_,by simp only [bt]; omega⟩;simp only [aO];refine ae (show ¬ ((6:Int)=1) by decide) (ae (show ¬ ((6:Int)=2) by decide) (ae (show ¬ ((6:Int)=3) by decide) (ae (show ¬ ((6:Int)=4) by decide) (ae (show ¬ ((6:Int)=5) by decide) (aj (show (6:Int)=6 from rfl) (ai D8 pu (ah (show 0<=o/\o < (D8.length:Int) from ob) (ah (show (0:Int)<=0/\(0:Int) < (([x]:List aa).length:Int) by simp) (ai _ (gG (x:=x) (H x G).1 (H x G).2 (kn:=7) rfl) ?_)))))))));exact ah (show (opX o).length+_<=_ by omega) (ab rfl)
  | bin o x y a ho =>
   have e1:az all (aa.mk 7 o [] [] v0 [x,y] a)=prt all (lvX (aa.mk 7 o [] [] v0 [x,y] a)) x (az all x)++32::(opX o++32::prt all (lvX (aa.mk 7 o [] [] v0 [x,y] a)+1) y (az all y)):=by rw [fQ]; rfl
   have hkid:(aa.mk 7 o [] [] v0 [x,y] a).AI=[x,y]:=rfl;rw [hkid] at H hp hn hkl hsh ⊢
   have ol:(opX o).length<=2:=by
    have:∀ i:Fin 16,(opX (i.val:Int)).length<=2:=by decide
    have:=this ⟨o.toNat,by omega⟩
    rwa [show ((o.toNat:Nat):Int)=o by omega] at this
   have ob:0<=o/\o < 16:=by omega
   have hlv:=pk (aa.mk 7 o [] [] v0 [x,y] a);have hle:=yW (aa.mk 7 o [] [] v0 [x,y] a);generalize lvX (aa.mk 7 o [] [] v0 [x,y] a)=j at hlv hle e1;have px:=hp x G; have rx:=cz all j x (az all x);have py:=hp y G; have ry:=cz all (j+1) y (az all y);simp only [bN] at hn ⊢;rw [e1];refine ⟨aM ?_,by simp only [bt,aq]; omega⟩;simp only [aO];refine ae (show ¬ ((7:Int)=1) by decide) (ae (show ¬ ((7:Int)=2) by decide) (ae (show ¬ ((7:Int)=3) by decide) (ae (show ¬ ((7:Int)=4) by decide) (ae (show ¬ ((7:Int)=5) by decide) (ae (show ¬ ((7:Int)=6) by decide) (aj (show (7:Int)=7 from rfl) (ai (j:Int) (aw hle Z) (ah (show (0:Int)<=0/\(0:Int) < (([x,y]:List aa).length:Int) by simp) (ai _ (gG (x:=x) (H x G).1 (H x G).2 (kn:=j) Z) ?_)))))))));refine ah bY (ai D8 pu (ah (show 0<=o/\o < (D8.length:Int) from ob) ?_));rw [show lat D8 (aa.mk 7 o [] [] v0 [x,y] a).fOp=opX o from rfl];refine ah bY (ah bY (ah (show (0:Int)<=1/\(1:Int) < (([x,y]:List aa).length:Int) by simp) (ah aV (ai _ (gG (x:=y) (H y G).1 (H y G).2 (kn:=(j+1)) Z) ?_))));exact qY
  | cond x y z a =>
   have e1:az all (aa.mk 8 0 [] [] v0 [x,y,z] a)=prt all 1 x (az all x)++32::63::32::(prt all 0 y (az all y)++32::58::32::prt all 0 z (az all z)):=by rw [fQ]; rfl
   have hkid:(aa.mk 8 0 [] [] v0 [x,y,z] a).AI=[x,y,z]:=rfl;rw [hkid] at H hp hn hkl hsh ⊢;have px:=hp x G; have rx:=cz all 1 x (az all x);have py:=hp y G; have ry:=cz all 0 y (az all y);have pz:=hp z G; have rz:=cz all 0 z (az all z);simp only [bN] at hn ⊢;rw [e1];refine ⟨aM ?_,by simp only [bt,aq]; omega⟩;simp only [aO];refine ae (show ¬ ((8:Int)=1) by decide) (ae (show ¬ ((8:Int)=2) by decide) (ae (show ¬ ((8:Int)=3) by decide) (ae (show ¬ ((8:Int)=4) by decide) (ae (show ¬ ((8:Int)=5) by decide) (ae (show ¬ ((8:Int)=6) by decide) (ae (show ¬ ((8:Int)=7) by decide) (aj (show (8:Int)=8 from rfl) (ah (show (0:Int)<=0/\(0:Int) < (([x,y,z]:List aa).length:Int) by simp) (ai _ (gG (x:=x) (H x G).1 (H x G).2 (kn:=1) Z) ?_)))))))));refine ah bY (ah (show (0:Int)<=1/\(1:Int) < (([x,y,z]:List aa).length:Int) by simp) (ai _ IB ?_));refine ah bY (ah bY (ah (show (0:Int)<=2/\(2:Int) < (([x,y,z]:List aa).length:Int) by simp) (ai _ (gG (x:=z) (H z G).1 (H z G).2 (kn:=0) Z) ?_)));exact qY
  | call s l a hi hr =>
   have e1:az all (aa.mk 9 0 s [] v0 l a)=s++40::(lr all l (l.map (az all))++[41]):=by rw [fQ]; rfl
   have hl:=((hH s).1 hi).2.1;have hkid:(aa.mk 9 0 s [] v0 l a).AI=l:=rfl;rw [hkid] at H hp hn hkl hsh ⊢;have hs:=tZ all l hp;rw [e1];refine ⟨aM ?_,by simp only [bt,aq,dg]; omega⟩;simp only [aO];refine ae (show ¬ ((9:Int)=1) by decide) (ae (show ¬ ((9:Int)=2) by decide) (ae (show ¬ ((9:Int)=3) by decide) (ae (show ¬ ((9:Int)=4) by decide) (ae (show ¬ ((9:Int)=5) by decide) (ae (show ¬ ((9:Int)=6) by decide) (ae (show ¬ ((9:Int)=7) by decide) (ae (show ¬ ((9:Int)=8) by decide) (aj (show (9:Int)=9 from rfl) (ah (show s.length+1<=9223372036854775807 by omega) (ai (lr all l (l.map (az all))) (C2 (l:=l) hkl H O) ?_))))))))));exact ah (show (s++[40]).length+_<=9223372036854775807 by simp only [bt,aq,dg]; omega) (ah (show ((s++[40])++_).length+1<=9223372036854775807 by simp only [bt,aq,dg]; omega) (ab (show ((s++[40])++_)++[41]=_ by simp)))
  | list l a =>
   have e1:az all (aa.mk 10 0 [] [] v0 l a)=91::(lr all l (l.map (az all))++[93]):=by rw [fQ]; rfl
   have hkid:(aa.mk 10 0 [] [] v0 l a).AI=l:=rfl;rw [hkid] at H hp hn hkl hsh ⊢;have hs:=tZ all l hp;rw [e1];refine ⟨aM ?_,by simp only [bt,aq,dg]; omega⟩;simp only [aO];refine ae (show ¬ ((10:Int)=1) by decide) (ae (show ¬ ((10:Int)=2) by decide) (ae (show ¬ ((10:Int)=3) by decide) (ae (show ¬ ((10:Int)=4) by decide) (ae (show ¬ ((10:Int)=5) by decide) (ae (show ¬ ((10:Int)=6) by decide) (ae (show ¬ ((10:Int)=7) by decide) (ae (show ¬ ((10:Int)=8) by decide) (ae (show ¬ ((10:Int)=9) by decide) (aj (show (10:Int)=10 from rfl) (ai (lr all l (l.map (az all))) (C2 (l:=l) hkl H O) ?_))))))))));exact A2
  | map l a hm =>
   have e1:az all (aa.mk 11 0 [] [] v0 l a)=123::(mF all l (l.map (az all))++[125]):=by rw [fQ]; rfl
   have hkid:(aa.mk 11 0 [] [] v0 l a).AI=l:=rfl;rw [hkid] at H hp hn hkl hsh ⊢;have hs:=yY all l λ x hx=>⟨hsh x hx,hp x hx⟩
   rw [e1];refine ⟨aM ?_,by simp only [bt,aq,dg]; omega⟩;simp only [aO];exact ae (show ¬ ((11:Int)=1) by decide) (ae (show ¬ ((11:Int)=2) by decide) (ae (show ¬ ((11:Int)=3) by decide) (ae (show ¬ ((11:Int)=4) by decide) (ae (show ¬ ((11:Int)=5) by decide) (ae (show ¬ ((11:Int)=6) by decide) (ae (show ¬ ((11:Int)=7) by decide) (ae (show ¬ ((11:Int)=8) by decide) (ae (show ¬ ((11:Int)=9) by decide) (ae (show ¬ ((11:Int)=10) by decide) (aj (show (11:Int)=11 from rfl) (ai (123::(mF all l (l.map (az all))++[125])) (D3 (l:=l) hkl hm hsh H O) (ab rfl))))))))))))
  | tmpl l a RP =>
   have e1:az all (aa.mk 2 0 [] [] v0 l a)=34::(tmT (l.map λ x=>prt all 0 x (az all x))++[34]):=by
    have hz:∀ l:List aa,(l.zip (l.map (az all))).map (λ p=>prt all 0 p.1 p.2)=l.map λ x=>prt all 0 x (az all x):=λ l=>by
     induction l with
     | nil=>rfl
     | cons x r ih=>simp only [cl,List.zip_cons_cons,ih]
    rw [fQ,<- hz l]; rfl
   have hkid:(aa.mk 2 0 [] [] v0 l a).AI=l:=rfl;have ho:=Eb (e:=aa.mk 2 0 [] [] v0 l a) hkl H l.length 0 [];rw [hkid] at H hp hn hkl hsh ho ⊢;have hs:=B9 all l hp;rw [e1];refine ⟨aM ?_,by simp only [bt,aq,dg]; omega⟩;have ho:=ho O (by simp only [List.drop_zero,ur]; omega);simp only [List.drop_zero,ur] at ho;simp only [aO];refine ae (show ¬ ((2:Int)=1) by decide) (aj (show (2:Int)=2 from rfl) (ai _ (bh (f:=λ n m=>dv (aU n) (aa.mk 2 0 [] [] v0 l a) all m [] 0) ho) ?_));exact A2
  | loop m s y x c dl fl a hi hr hy hd hf =>
   have OF:=((hH s).1 hi).2.1
   have hKl:(if y=[] then [] else y++[44,32]).length<=66:=by
    rcases hy with rfl | hy
    ·simp
    ·have:=((hH y).1 hy.1).2.1;split
     ·simp
     ·simp only [bt,aq,dg]; omega
   have hyl:y.length<=64:=by
    rcases hy with rfl | hy
    ·simp
    ·exact ((hH y).1 hy.1).2.1
   rcases hd with ⟨rfl,rfl⟩ | ⟨rfl,d,rfl⟩ <;> rcases hf with rfl | ⟨f,rfl⟩
   ·show Ev2 (λ n _=>aO n (aa.mk 12 0 s y v0 [x,c] a) all) (·=az all (aa.mk 12 0 s y v0 [x,c] a))/\(az all (aa.mk 12 0 s y v0 [x,c] a)).length+1000<=60000*(1+bN [x,c]);have e1:az all (aa.mk 12 0 s y v0 [x,c] a)=91::102::111::114::32::((if y=[] then [] else y++[44,32])++(s++32::105::110::32::(prt all 0 x (az all x)++32::58::32::(prt all 0 c (az all c)++([]++([]++[93])))))):=by rw [fQ]; rfl
    change ∀ z∈[x,c],_ at H; change ∀ z∈[x,c],_ at hp; change 1+bN [x,c]<=1000 at hn
    have px:=hp x G; have rx:=cz all 0 x (az all x);have pc:=hp c G; have rc:=cz all 0 c (az all c);simp only [bN] at hn ⊢;rw [e1]
    have hK:∀ n:Nat,Ev2 (λ _ _=>(if (aa.mk 12 0 s y v0 [x,c] a).B'=[] then some [102,111,114,32] else ck (([102,111,114,32]:Bytes).length+(aa.mk 12 0 s y v0 [x,c] a).B'.length<=9223372036854775807) <| ck (([102,111,114,32]++(aa.mk 12 0 s y v0 [x,c] a).B').length+([44,32]:Bytes).length<=9223372036854775807) <| some (([102,111,114,32]++(aa.mk 12 0 s y v0 [x,c] a).B')++[44,32]):Option Bytes)) (·=[102,111,114,32]++(if y=[] then [] else y++[44,32])):=λ _=>by
     exact xc
    generalize hKK:(if y=[] then [] else y++[44,32])=K at hKl hK ⊢;refine ⟨aM ?_,by simp only [bt,aq,dg]; omega⟩;simp only [aO];refine ae (show ¬ ((12:Int)=1) by decide) (ae (show ¬ ((12:Int)=2) by decide) (ae (show ¬ ((12:Int)=3) by decide) (ae (show ¬ ((12:Int)=4) by decide) (ae (show ¬ ((12:Int)=5) by decide) (ae (show ¬ ((12:Int)=6) by decide) (ae (show ¬ ((12:Int)=7) by decide) (ae (show ¬ ((12:Int)=8) by decide) (ae (show ¬ ((12:Int)=9) by decide) (ae (show ¬ ((12:Int)=10) by decide) (ae (show ¬ ((12:Int)=11) by decide) (aj (show (12:Int)=12 from rfl) (ai (102::111::114::32::(K++(s++32::105::110::32::(prt all 0 x (az all x)++32::58::32::(prt all 0 c (az all c)++([]++([]++[93]))))))) (aM ?_) uh))))))))))));simp only [hZ];refine ai _ (hK 0) (ah (show ([102,111,114,32]++K).length+s.length<=9223372036854775807 by simp only [bt,aq,dg]; omega) (ah (show (([102,111,114,32]++K)++s).length+4<=9223372036854775807 by simp only [bt,aq,dg]; omega) (ah (show (0:Int)<=0/\(0:Int) < (([x,c]:List aa).length:Int) by simp) (ai _ xm ?_))));rw [show (aa.mk 12 0 s y v0 [x,c] a).A'=s from rfl];refine ah bY (ah bY (ah (show (0:Int)<=1/\(1:Int) < (([x,c]:List aa).length:Int) by simp) (ai _ xq ?_)));refine ah bY ?_;refine ai ((((((([102,111,114,32]++K)++s)++[32,105,110,32])++prt all 0 x (az all x))++[32,58,32])++prt all 0 c (az all c)),2) ul ?_;refine ai _ (ae (show ¬ ((2:Int) < (([x,c]:List aa).length:Int)) by simp) (ab Z)) ?_;exact qY
   ·show Ev2 (λ n _=>aO n (aa.mk 12 0 s y v0 [x,c,f] a) all) (·=az all (aa.mk 12 0 s y v0 [x,c,f] a))/\(az all (aa.mk 12 0 s y v0 [x,c,f] a)).length+1000<=60000*(1+bN [x,c,f]);have e1:az all (aa.mk 12 0 s y v0 [x,c,f] a)=91::102::111::114::32::((if y=[] then [] else y++[44,32])++(s++32::105::110::32::(prt all 0 x (az all x)++32::58::32::(prt all 0 c (az all c)++([]++((32::105::102::32::prt all 0 f (az all f))++[93])))))):=by rw [fQ]; rfl
    change ∀ z∈[x,c,f],_ at H; change ∀ z∈[x,c,f],_ at hp; change 1+bN [x,c,f]<=1000 at hn
    have px:=hp x G; have rx:=cz all 0 x (az all x);have pc:=hp c G; have rc:=cz all 0 c (az all c);have pf:=hp f G; have rf:=cz all 0 f (az all f);simp only [bN] at hn ⊢;rw [e1]
    have hK:∀ n:Nat,Ev2 (λ _ _=>(if (aa.mk 12 0 s y v0 [x,c,f] a).B'=[] then some [102,111,114,32] else ck (([102,111,114,32]:Bytes).length+(aa.mk 12 0 s y v0 [x,c,f] a).B'.length<=9223372036854775807) <| ck (([102,111,114,32]++(aa.mk 12 0 s y v0 [x,c,f] a).B').length+([44,32]:Bytes).length<=9223372036854775807) <| some (([102,111,114,32]++(aa.mk 12 0 s y v0 [x,c,f] a).B')++[44,32]):Option Bytes)) (·=[102,111,114,32]++(if y=[] then [] else y++[44,32])):=λ _=>by
     exact xc
    generalize hKK:(if y=[] then [] else y++[44,32])=K at hKl hK ⊢;refine ⟨aM ?_,by simp only [bt,aq,dg]; omega⟩;simp only [aO];refine ae (show ¬ ((12:Int)=1) by decide) (ae (show ¬ ((12:Int)=2) by decide) (ae (show ¬ ((12:Int)=3) by decide) (ae (show ¬ ((12:Int)=4) by decide) (ae (show ¬ ((12:Int)=5) by decide) (ae (show ¬ ((12:Int)=6) by decide) (ae (show ¬ ((12:Int)=7) by decide) (ae (show ¬ ((12:Int)=8) by decide) (ae (show ¬ ((12:Int)=9) by decide) (ae (show ¬ ((12:Int)=10) by decide) (ae (show ¬ ((12:Int)=11) by decide) (aj (show (12:Int)=12 from rfl) (ai (102::111::114::32::(K++(s++32::105::110::32::(prt all 0 x (az all x)++32::58::32::(prt all 0 c (az all c)++([]++((32::105::102::32::prt all 0 f (az all f))++[93]))))))) (aM ?_) uh))))))))))));simp only [hZ];refine ai _ (hK 0) (ah (show ([102,111,114,32]++K).length+s.length<=9223372036854775807 by simp only [bt,aq,dg]; omega) (ah (show (([102,111,114,32]++K)++s).length+4<=9223372036854775807 by simp only [bt,aq,dg]; omega) (ah (show (0:Int)<=0/\(0:Int) < (([x,c,f]:List aa).length:Int) by simp) (ai _ xm ?_))));rw [show (aa.mk 12 0 s y v0 [x,c,f] a).A'=s from rfl];refine ah bY (ah bY (ah (show (0:Int)<=1/\(1:Int) < (([x,c,f]:List aa).length:Int) by simp) (ai _ xq ?_)));refine ah bY ?_;refine ai ((((((([102,111,114,32]++K)++s)++[32,105,110,32])++prt all 0 x (az all x))++[32,58,32])++prt all 0 c (az all c)),2) ul ?_;refine ai _ (aj (show (2:Int) < (([x,c,f]:List aa).length:Int) by simp) (ah bY (ah (show (0:Int)<=2/\(2:Int) < (([x,c,f]:List aa).length:Int) by simp) Iz))) ?_;exact qY
   ·show Ev2 (λ n _=>aO n (aa.mk 13 0 s y v0 [x,c,d] a) all) (·=az all (aa.mk 13 0 s y v0 [x,c,d] a))/\(az all (aa.mk 13 0 s y v0 [x,c,d] a)).length+1000<=60000*(1+bN [x,c,d]);have e1:az all (aa.mk 13 0 s y v0 [x,c,d] a)=123::102::111::114::32::((if y=[] then [] else y++[44,32])++(s++32::105::110::32::(prt all 0 x (az all x)++32::58::32::(prt all 0 c (az all c)++((32::61::62::32::prt all 0 d (az all d))++([]++[125])))))):=by rw [fQ]; rfl
    change ∀ z∈[x,c,d],_ at H; change ∀ z∈[x,c,d],_ at hp; change 1+bN [x,c,d]<=1000 at hn
    have px:=hp x G; have rx:=cz all 0 x (az all x);have pc:=hp c G; have rc:=cz all 0 c (az all c);have pd:=hp d G; have rd:=cz all 0 d (az all d);simp only [bN] at hn ⊢;rw [e1]
    have hK:∀ n:Nat,Ev2 (λ _ _=>(if (aa.mk 13 0 s y v0 [x,c,d] a).B'=[] then some [102,111,114,32] else ck (([102,111,114,32]:Bytes).length+(aa.mk 13 0 s y v0 [x,c,d] a).B'.length<=9223372036854775807) <| ck (([102,111,114,32]++(aa.mk 13 0 s y v0 [x,c,d] a).B').length+([44,32]:Bytes).length<=9223372036854775807) <| some (([102,111,114,32]++(aa.mk 13 0 s y v0 [x,c,d] a).B')++[44,32]):Option Bytes)) (·=[102,111,114,32]++(if y=[] then [] else y++[44,32])):=λ _=>by
     exact xc
    generalize hKK:(if y=[] then [] else y++[44,32])=K at hKl hK ⊢;refine ⟨aM ?_,by simp only [bt,aq,dg]; omega⟩;simp only [aO];refine ae (show ¬ ((13:Int)=1) by decide) (ae (show ¬ ((13:Int)=2) by decide) (ae (show ¬ ((13:Int)=3) by decide) (ae (show ¬ ((13:Int)=4) by decide) (ae (show ¬ ((13:Int)=5) by decide) (ae (show ¬ ((13:Int)=6) by decide) (ae (show ¬ ((13:Int)=7) by decide) (ae (show ¬ ((13:Int)=8) by decide) (ae (show ¬ ((13:Int)=9) by decide) (ae (show ¬ ((13:Int)=10) by decide) (ae (show ¬ ((13:Int)=11) by decide) (ae (show ¬ ((13:Int)=12) by decide) (ai (102::111::114::32::(K++(s++32::105::110::32::(prt all 0 x (az all x)++32::58::32::(prt all 0 c (az all c)++((32::61::62::32::prt all 0 d (az all d))++([]++[125]))))))) (aM ?_) uh))))))))))));simp only [hZ];refine ai _ (hK 0) (ah (show ([102,111,114,32]++K).length+s.length<=9223372036854775807 by simp only [bt,aq,dg]; omega) (ah (show (([102,111,114,32]++K)++s).length+4<=9223372036854775807 by simp only [bt,aq,dg]; omega) (ah (show (0:Int)<=0/\(0:Int) < (([x,c,d]:List aa).length:Int) by simp) (ai _ xm ?_))));rw [show (aa.mk 13 0 s y v0 [x,c,d] a).A'=s from rfl];refine ah bY (ah bY (ah (show (0:Int)<=1/\(1:Int) < (([x,c,d]:List aa).length:Int) by simp) (ai _ xq ?_)));refine ah bY ?_;refine ai ((((((([102,111,114,32]++K)++s)++[32,105,110,32])++prt all 0 x (az all x))++[32,58,32])++prt all 0 c (az all c))++[32,61,62,32]++prt all 0 d (az all d),3) (aj (by trivial) (ah bY (ah (show (0:Int)<=2/\(2:Int) < (([x,c,d]:List aa).length:Int) by simp) Hz))) ?_;refine ai _ (ae (show ¬ ((3:Int) < (([x,c,d]:List aa).length:Int)) by simp) (ab Z)) ?_;exact qY
   ·show Ev2 (λ n _=>aO n (aa.mk 13 0 s y v0 [x,c,d,f] a) all) (·=az all (aa.mk 13 0 s y v0 [x,c,d,f] a))/\(az all (aa.mk 13 0 s y v0 [x,c,d,f] a)).length+1000<=60000*(1+bN [x,c,d,f]);have e1:az all (aa.mk 13 0 s y v0 [x,c,d,f] a)=123::102::111::114::32::((if y=[] then [] else y++[44,32])++(s++32::105::110::32::(prt all 0 x (az all x)++32::58::32::(prt all 0 c (az all c)++((32::61::62::32::prt all 0 d (az all d))++((32::105::102::32::prt all 0 f (az all f))++[125])))))):=by rw [fQ]; rfl
    change ∀ z∈[x,c,d,f],_ at H; change ∀ z∈[x,c,d,f],_ at hp; change 1+bN [x,c,d,f]<=1000 at hn
    have px:=hp x G; have rx:=cz all 0 x (az all x);have pc:=hp c G; have rc:=cz all 0 c (az all c);have pd:=hp d G; have rd:=cz all 0 d (az all d);have pf:=hp f G; have rf:=cz all 0 f (az all f);simp only [bN] at hn ⊢;rw [e1]
    have hK:∀ n:Nat,Ev2 (λ _ _=>(if (aa.mk 13 0 s y v0 [x,c,d,f] a).B'=[] then some [102,111,114,32] else ck (([102,111,114,32]:Bytes).length+(aa.mk 13 0 s y v0 [x,c,d,f] a).B'.length<=9223372036854775807) <| ck (([102,111,114,32]++(aa.mk 13 0 s y v0 [x,c,d,f] a).B').length+([44,32]:Bytes).length<=9223372036854775807) <| some (([102,111,114,32]++(aa.mk 13 0 s y v0 [x,c,d,f] a).B')++[44,32]):Option Bytes)) (·=[102,111,114,32]++(if y=[] then [] else y++[44,32])):=λ _=>by
     exact xc
    generalize hKK:(if y=[] then [] else y++[44,32])=K at hKl hK ⊢;refine ⟨aM ?_,by simp only [bt,aq,dg]; omega⟩;simp only [aO];refine ae (show ¬ ((13:Int)=1) by decide) (ae (show ¬ ((13:Int)=2) by decide) (ae (show ¬ ((13:Int)=3) by decide) (ae (show ¬ ((13:Int)=4) by decide) (ae (show ¬ ((13:Int)=5) by decide) (ae (show ¬ ((13:Int)=6) by decide) (ae (show ¬ ((13:Int)=7) by decide) (ae (show ¬ ((13:Int)=8) by decide) (ae (show ¬ ((13:Int)=9) by decide) (ae (show ¬ ((13:Int)=10) by decide) (ae (show ¬ ((13:Int)=11) by decide) (ae (show ¬ ((13:Int)=12) by decide) (ai (102::111::114::32::(K++(s++32::105::110::32::(prt all 0 x (az all x)++32::58::32::(prt all 0 c (az all c)++((32::61::62::32::prt all 0 d (az all d))++((32::105::102::32::prt all 0 f (az all f))++[125]))))))) (aM ?_) uh))))))))))));simp only [hZ];refine ai _ (hK 0) (ah (show ([102,111,114,32]++K).length+s.length<=9223372036854775807 by simp only [bt,aq,dg]; omega) (ah (show (([102,111,114,32]++K)++s).length+4<=9223372036854775807 by simp only [bt,aq,dg]; omega) (ah (show (0:Int)<=0/\(0:Int) < (([x,c,d,f]:List aa).length:Int) by simp) (ai _ xm ?_))));rw [show (aa.mk 13 0 s y v0 [x,c,d,f] a).A'=s from rfl];refine ah bY (ah bY (ah (show (0:Int)<=1/\(1:Int) < (([x,c,d,f]:List aa).length:Int) by simp) (ai _ xq ?_)));refine ah bY ?_;refine ai ((((((([102,111,114,32]++K)++s)++[32,105,110,32])++prt all 0 x (az all x))++[32,58,32])++prt all 0 c (az all c))++[32,61,62,32]++prt all 0 d (az all d),3) (aj (by trivial) (ah bY (ah (show (0:Int)<=2/\(2:Int) < (([x,c,d,f]:List aa).length:Int) by simp) Hz))) ?_;refine ai _ (aj (show (3:Int) < (([x,c,d,f]:List aa).length:Int) by simp) (ah bY (ah (show (0:Int)<=3/\(3:Int) < (([x,c,d,f]:List aa).length:Int) by simp) Iz))) ?_;exact qY
end Go.Ab.R06
end
section
namespace Go.Ab.R06
open Go.Proofs Go.Ab Go.Ab.RB
section
variable {p:Prop}
theorem Ay (h:p:=by exact MX (by decide) (by decide +kernel)):p:=h
theorem lg (h:p:=by decide +kernel):p:=h
end
theorem Eg {e:aa}(hb:Sz e):dG e<=1000000->Ev2 (λ n _=>fg n e) (·=(dG e:Int)):=by
 induction hb with
 | @mk x zn zk zw zc zs ih =>
  intro h0;have hl:=zc;rw [iU] at h0;refine aM ?_;simp only [fg]
  have loop:∀ (k i:Nat) (c:Int),i+k=x.AI.length->0<=c->c+(bN (x.AI.drop i):Int)<=2000000->bN (x.AI.drop i)<=1000000->Ev2 (λ n m=>dx (fg n) x m c (i:Int)) (·=c+(bN (x.AI.drop i):Int)):=by
   intro k
   induction k with
   | zero =>
    intro i c hi h6 h7 h8;refine aA ?_;simp only [dx];refine ae O (ab ?_);rw [List.drop_eq_nil_of_le O]; simp [bN]
   | succ k ihk =>
    intro i c hi h6 h7 h8;refine aA ?_;simp only [dx];rw [qH _ O] at h7 h8 ⊢;simp only [bN] at h7 h8 ⊢;refine aj O (ah O ?_);refine ai _ (ih _ uJ O) ?_;refine ah aV (ah aV ?_);refine bB (kg (P:=λ j=>Ev2 (λ n m=>dx (fg n) x m (c+(dG (lat x.AI (i:Int)):Int)) j) _) (ihk (i+1) _ O O O O)) (λ s hs=>?_);rw [hs]; omega
  refine ai _ (bh (f:=λ n m=>dx (fg n) x m 1 0) (loop x.AI.length 0 1 O O  (by simp only [List.drop_zero]; omega) (by simp only [List.drop_zero]; omega))) (ab ?_);rw [iU]; simp
theorem got {α:Type}{x:Option α}(d:α)(h:x.isSome=true):x=some (x.getD d):=by
 cases x with
 | none=>cases h
 | some y=>rfl
def exS (s:Bytes):PE⊕aa:=(gi 60 s 0).getD (.inl (0,0))
theorem MX {s:Bytes}(hs:(s.length:Int)<=1000000)(h:(gi 60 s 0).isSome=true):Ev2 (λ n _=>ei n s) (·=wz (ml (exS s))):=CV hs (got _ h)
theorem qP:Ev2 (λ n _=>gT n) (·=true):=by
 have e1:(gi 60 [49,32,43,32,50,32,42,32,51] 0).isSome=true:=by decide +kernel
 have z1:Sz (wz (ml (exS [49,32,43,32,50,32,42,32,51]))).1:=Pq (Md λ x hx=>by
  have:=(fct 60).w [49,32,43,32,50,32,42,32,51] 0 (by decide) (by decide) _ (got (.inl (0,0)) e1);rw [show (gi 60 [49,32,43,32,50,32,42,32,51] 0).getD (.inl (0,0))=.inr x from hx] at this
  exact this)
 simp only [gT];refine ai _ (MX (by decide) e1) (ai _ Ay (ai _ Ay (ai _ Ay ?_)));refine ai false (aw lg rfl) (ae (by decide) (ai true ?_ (ab rfl)));refine aj lg (ah lg (aj lg (aj lg (aj lg (aj lg (aj lg (aj lg (ai _ (Eg z1 lg) (ab lg)))))))))
end Go.Ab.R06
end
