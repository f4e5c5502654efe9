/- Texts of the proof, one behind the other. No statement is proved here. -/
import Derived.Test.YtjaadgogdbkdfaaGreatDoorZ16Ba
import Derived.Test.YtjaadgogdbkdfaaGreatDoorZ16Bb
import Derived.Test.YtjaadgogdbkdfaaGreatDoorZ16Bc
import Derived.Test.YtjaadgogdbkdfaaGreatDoorZ16Bd
import Derived.Test.YtjaadgogdbkdfaaGreatDoorZ16Be
set_option maxHeartbeats 4000000
section
namespace Go.Ab.R06
open Go.Ab Go.Ab.RB Go.Lib
variable {p:Prop}
theorem Lz (h:p:=by
 refine jd (λ f=>rfl) (fM (q true (u::l) (nc u1 (by rw [u2]; decide) _ _)) ?_);simp only [fW,cR hu,da hu,u1,u2]
 exact j3):p:=h
theorem MA (h:p:=by
 have ht:t.Ar≠5:=by omega
 have hf:wdB true (M++l) [102,111,114]=false:=by
  obtain ⟨z,r,e,z5,zf⟩:=h.1
  grind [a8,vr]
 simp only [lR,iN ht,da ht,cR ht,h1,h2,hf]
 exact jd (λ f=>rfl) (fM (q l) j3)):p:=h
theorem AP (h:p:=by exact nc u1 (by rw [u2]; decide) _ _):p:=h
theorem f2r {x y:ab}(h:EQV x y):F2 (RE λ _ _=>True) [x] [y]:=.cons h .nil
theorem og {k o:Int}{n m:Bk}{v:ag}{ks ks':List ab}{a a':Int}(h:F2 (RE λ _ _=>True) ks ks')(hc:ks.length<=4000000000):EQV (ab.mk k o n m v ks a) (ab.mk k o n m v ks' a'):=re_n h trivial hc
theorem ra {α β:Type}(a:α)(l:List af)(k:α->List af->PR β):pb (pok a l) k=k a l:=rfl
def bgT (z:Tok):Bool:=decide (z.1≠5)&&!(decide (z.1=4)&&decide (z.2∈([[41],[93],[125]]:List Bk)))&&!(decide (z.1=1)&&decide (z.2=[102,111,114]))
def Bgn (ts:List Tok):Prop:=∃ z r,ts=z::r/\bgT z=true
theorem Bgn.app {ts us:List Tok}(h:Bgn ts):Bgn (ts++us):=by
 obtain ⟨z,r,rfl,h⟩:=h;exact ⟨z,r++us,rfl,h⟩
theorem FN {ts:List Tok}(h:Bgn ts){L:List af}(hL:iI L=ts)(l:List af){s:Bk}(hs:s∈([[41],[93],[125]]:List Bk)):sgB true (L++l) s=false:=by
 obtain ⟨z,r,rfl,h⟩:=h
 grind [a8,bgT,cR]
theorem uD {ts:List Tok}{e:ab}(z:Tok)(us:List Tok)(hts:ts=z::us)(h5:z.1≠5)(h33:z≠(4,[33]))(h45:z≠(4,[45]))
  (h:∀ t M,t.Ar=z.1->t.C'=z.2->iI M=us->∃ e',EQV e e'/\∀ b l,sgB b l [40]=false->Ans (λ f=>lR f b (t::(M++l))) (.inr (e',l))):C8 ts e:=by
 subst hts;intro L hL;obtain ⟨t,M,rfl,h1,h2,h3⟩:=a8 hL;obtain ⟨e',p,q⟩:=h t M h1 h2 h3;refine ⟨e',p,λ b l r hc hr=>eV ?_⟩;have ht:t.Ar≠5:=by grind
 have n33:sgB b (t::(M++l)) [33]=false:=by
  grind [cR]
 have n45:sgB b (t::(M++l)) [45]=false:=by
  grind [cR]
 simp only [mv,unS,n33,n45];exact fM (q b l hc) hr
theorem Jl {ts:List Tok}{e:ab}(h:C0 ts e):C8 ((4,[40])::(ts++[(4,[41])])) e:=by
 refine uD (4,[40]) _ rfl (by decide) (by decide) (by decide) λ t M h1 h2 h3=>?_;obtain ⟨A,K,rfl,hA,hK⟩:=dF h3;obtain ⟨u,N,rfl,u1,u2,hN⟩:=a8 hK
 cases dB hN
 simp only at h1 h2 u1 u2;obtain ⟨e',p,q⟩:=h A hA;refine ⟨e',p,λ b l hc=>eV ?_⟩;have ht:t.Ar≠5:=by omega
 have hu:u.Ar≠5:=by omega
 simp only [lR,n6,mv,rd,iN ht,da ht,cR ht,h1,h2];exact Lz
theorem Pz {s:Bk}(hr:iO s=false)(a:Int):C8 [(1,s)] (ab.mk 3 0 s [] v0 [] a):=by
 refine uD (1,s) _ Z G G G λ t M h1 h2 h3=>?_
 cases dB h3
 simp only at h1 h2;refine ⟨ab.mk 3 0 s [] v0 [] t.fAt,og .nil (ph _),λ b l hc=>eV (eV ?_)⟩;have ht:t.Ar≠5:=by omega
 have r1:s≠[110,117,108,108]:=by rintro rfl; exact absurd hr (by decide)
 have r2:s≠[116,114,117,101]:=by rintro rfl; exact absurd hr (by decide)
 have r3:s≠[102,97,108,115,101]:=by rintro rfl; exact absurd hr (by decide)
 simp only [lR,rH,rd,iN ht,da ht,h1,h2,r1,r2,r3,hr,hc];exact j3
theorem Pw {s:Bk}{v:ag}(a:Int)(h:(s=[110,117,108,108]/\v=v0)\/(s=[116,114,117,101]/\v=ag.mk 1 1 [] [] [])\/(s=[102,97,108,115,101]/\v=ag.mk 1 0 [] [] [])):C8 [(1,s)] (sR v a):=by
 refine uD (1,s) _ Z G G G λ t M h1 h2 h3=>?_
 cases dB h3
 simp only at h1 h2;refine ⟨sR v t.fAt,og .nil (ph _),λ b l hc=>eV (eV ?_)⟩;have ht:t.Ar≠5:=by omega
 simp only [lR,rH,rd,iN ht,da ht,h1,h2];rcases h with ⟨rfl,rfl⟩|⟨rfl,rfl⟩|⟨rfl,rfl⟩ <;> exact j3
theorem R4 {s:Bk}{n:Int}(a:Int)(h:wn s=(n,0)):C8 [(2,s)] (sR (ag.mk 2 n [] [] []) a):=by
 refine uD (2,s) _ Z G G G λ t M h1 h2 h3=>?_
 cases dB h3
 simp only at h1 h2;refine ⟨sR (ag.mk 2 n [] [] []) t.fAt,og .nil (ph _),λ b l hc=>eV ?_⟩;have ht:t.Ar≠5:=by omega
 simp only [lR,rd,iN ht,da ht,h1,h2,h];exact j3
def TM (s:Bk)(e:ab):Prop:=∀ at',∃ e',EQV e e'/\Ans (λ f=>qt f s at') (.inr e')
theorem Hi {s:Bk}{e:ab}(h:TM s e){t:af}(h1:t.Ar=3)(h2:t.C'=s):∃ e',EQV e e'/\∀ b l,Ans (λ f=>yr f b (t::l)) (.inr (e',l)):=by
 obtain ⟨e',p,q⟩:=h (t.fAt+1);have ht:t.Ar≠5:=by omega
 refine ⟨ab.mk e'.Ar e'.fOp e'.AT e'.It e'.BY e'.A' t.fAt,?_,λ b l=>eV ?_⟩
 ·cases p with
  | mk k o n m v b c l s=>exact .mk k o n m v trivial c l s
 ·obtain ⟨N,q⟩:=q;refine ⟨N,λ f hf=>?_⟩;simp only [yr,iN ht,da ht,h2,q f hf]
  rfl
theorem Tp {s:Bk}{e:ab}(h:TM s e):C8 [(3,s)] e:=by
 refine uD (3,s) _ Z G G G λ t M h1 h2 h3=>?_
 cases dB h3
 obtain ⟨e',p,q⟩:=Hi h h1 h2;simp only at h1 h2;refine ⟨e',p,λ b l hc=>eV ?_⟩;have ht:t.Ar≠5:=by omega
 simp only [lR,rd,iN ht,h1];exact q b l
theorem P4 {ts:List Tok}{e:ab}(h:C8 ts e)(nm:Bk)(a:Int):C8 (ts++[(4,[46]),(1,nm)]) (ab.mk 4 0 nm [] v0 [e] a):=by
 intro L hL;obtain ⟨A,K,rfl,hA,hK⟩:=dF hL;obtain ⟨t,K,rfl,t1,t2,hK⟩:=a8 hK;obtain ⟨u,N,rfl,u1,u2,hN⟩:=a8 hK
 cases dB hN
 simp only at t1 t2 u1 u2;obtain ⟨e',p,q⟩:=h A hA;have ht:t.Ar≠5:=by omega
 have hu:u.Ar≠5:=by omega
 refine ⟨ab.mk 4 0 nm [] v0 [e'] e'.fAt,og (f2r p) G,λ b l r hc hr=>?_⟩;rw [n6];refine q b _ r (by grind [cR]) (eV ?_)
 grind [pp,cR,iN,da]
theorem S8 {ts us:List Tok}{e x:ab}(h:C8 ts e)(g:C0 us x)(a:Int):C8 (ts++(4,[91])::(us++[(4,[93])])) (ab.mk 5 0 [] [] v0 [e,x] a):=by
 intro L hL;obtain ⟨A,K,rfl,hA,hK⟩:=dF hL;obtain ⟨t,K,rfl,t1,t2,hK⟩:=a8 hK;obtain ⟨B,K,rfl,hB,hK⟩:=dF hK;obtain ⟨u,N,rfl,u1,u2,hN⟩:=a8 hK
 cases dB hN
 simp only at t1 t2 u1 u2;obtain ⟨e',p,q⟩:=h A hA;obtain ⟨x',p2,q2⟩:=g B hB;have ht:t.Ar≠5:=by omega
 have hu:u.Ar≠5:=by omega
 refine ⟨ab.mk 5 0 [] [] v0 [e',x'] e'.fAt,og (.cons p (f2r p2)) G,λ b l r hc hr=>?_⟩;rw [n6];refine q b _ r (by grind [cR]) (eV ?_);simp only [pp,mv,n6,rd,cR ht,da ht,t1,t2];refine jd (λ f=>rfl) (fM (q2 true (u::l) AP) ?_);simp only [fW,cR hu,da hu,u1,u2];exact hr
theorem Um {ts:List Tok}{e:ab}(h:C7 ts e){s:Bk}{o:Int}(ho:s=[33]/\o=1\/s=[45]/\o=2)(a:Int):C7 ((4,s)::ts) (ab.mk 6 o [] [] v0 [e] a):=by
 intro L hL;obtain ⟨t,M,rfl,t1,t2,hM⟩:=a8 hL;simp only at t1 t2;obtain ⟨e',p,q⟩:=h M hM;have ht:t.Ar≠5:=by omega
 refine ⟨ab.mk 6 o [] [] v0 [e'] t.fAt,og (f2r p) G,λ b l hs=>eV ?_⟩;simp only [unS,mv,cR ht,iN ht,da ht,t1,t2];rcases ho with ⟨rfl,rfl⟩|⟨rfl,rfl⟩
 ·exact jd (λ f=>rfl) (fM (q b l hs) j3)
 ·exact jd (λ f=>rfl) (fM (q b l hs) j3)
theorem TF:∀ j:Fin 6,∀ p∈sN j.val,opB p.1 j.val=some p/\(∀ i:Fin 6,j.val+1<=i.val->opB p.1 i.val=none)/\p.1≠[46]/\p.1≠[91]/\p.1≠[40]/\p.1≠[63]:=by decide
theorem SJ {j:Nat}(hj:j<=5){s:Bk}{o:Int}(ho:(s,o)∈sN j){ts us:List Tok}{e x:ab}(h:CB j ts e)(g:CF (j+1) us x)(a:Int):CB j (ts++(4,s)::us) (ab.mk 7 o [] [] v0 [e,x] a):=by
 obtain ⟨o1,o2,o3,o4,o5,-⟩:=TF ⟨j,by omega⟩ (s,o) ho;simp only at o1 o2 o3 o4 o5;intro L hL;obtain ⟨A,K,rfl,hA,hK⟩:=dF hL;obtain ⟨t,B,rfl,t1,t2,hB⟩:=a8 hK;simp only at t1 t2;obtain ⟨e',p,q⟩:=h A hA;obtain ⟨x',p2,q2⟩:=g B hB;have ht:t.Ar≠5:=by omega
 have sg:∀ (b:Bool) (l:List af) (z:Bk),s≠z->sgB b (t::l) z=false:=λ b l z hz=>by grind [cR]
 refine ⟨ab.mk 7 o [] [] v0 [e',x'] e'.fAt,og (.cons p (f2r p2)) G,λ b l r hs hr=>?_⟩;rw [n6];refine q b _ r ⟨λ i h1 h2=>?_,sg _ _ _ o3,sg _ _ _ o4,sg _ _ _ o5⟩ (eV ?_)
 ·rw [mv,tW t1,t2]; exact o2 ⟨i,by omega⟩ h1
 simp only [uU,mv,tW t1,t2,o1,da ht];exact fM (q2 b l hs) hr
theorem P3 {ts us vs:List Tok}{c x y:ab}(h:CF 0 ts c)(g:C0 us x)(k:C0 vs y)(a:Int):C0 (ts++(4,[63])::(us++(4,[58])::vs)) (ab.mk 8 0 [] [] v0 [c,x,y] a):=by
 intro L hL;obtain ⟨A,K,rfl,hA,hK⟩:=dF hL;obtain ⟨t,K,rfl,t1,t2,hK⟩:=a8 hK;obtain ⟨B,K,rfl,hB,hK⟩:=dF hK;obtain ⟨u,M,rfl,u1,u2,hM⟩:=a8 hK;simp only at t1 t2 u1 u2;obtain ⟨c',p,q⟩:=h A hA;obtain ⟨x',p2,q2⟩:=g B hB;obtain ⟨y',p3,q3⟩:=k M hM;have ht:t.Ar≠5:=by omega
 have hu:u.Ar≠5:=by omega
 refine ⟨ab.mk 8 0 [] [] v0 [c',x',y'] c'.fAt,og (.cons p (.cons p2 (f2r p3))) G,λ b l hs=>eV ?_⟩
 have st:Stp 0 b (t::(B++u::(M++l))):=by
  have sg:∀ z:Bk,[63]≠z->sgB b (t::(B++u::(M++l))) z=false:=λ z hz=>by grind [cR]
  refine ⟨λ i _ h5=>?_,sg _ (by decide),sg _ (by decide),sg _ (by decide)⟩;rw [tW t1,t2];rcases i with _|_|_|_|_|i <;> rfl
 simp only [hZ,n6,mv];refine fM (q b _ st) ?_;simp only [cR ht,da ht,t1,t2];refine jd (λ f=>rfl) (fM (q2 b (u::(M++l)) AP) ?_);simp only [fW,cR hu,da hu,u1,u2,decide_true,Bool.and_self,if_true,ra];exact fM (q3 b l hs) j3
def CI (z:Bk)(ts:List Tok)(ks:List ab):Prop:=(∃ t r,ts=t::r/\t.1≠5/\t≠(1,[102,111,114]))/\∀ L,iI L=ts->∃ ks',F2 (RE λ _ _=>True) ks ks'/\∀ l,Ans (λ f=>lk f z (L++l)) (.inr (ks',l))
theorem Mh {ts:List Tok}(h:Bgn ts):∃ t r,ts=t::r/\t.1≠5/\t≠(1,[102,111,114]):=by
 obtain ⟨z,r,rfl,h⟩:=h
 grind [bgT]
theorem RQ (z:Bk):CI z [(4,z)] []:=by
 refine ⟨⟨_,_,Z,by simp,by simp⟩,λ L hL=>⟨[],.nil,λ l=>eV ?_⟩⟩
 grind [a8,dB,lk,cR,da,pok,j3]
theorem PS {z:Bk}(hz:z∈([[41],[93],[125]]:List Bk)){ts us:List Tok}{x:ab}{ks:List ab}(hb:Bgn us)(h:C0 us x)(g:CI z ts ks):CI z (us++(4,[44])::ts) (x::ks):=by
 refine ⟨Mh hb.app,λ L hL=>?_⟩;obtain ⟨A,K,rfl,hA,hK⟩:=dF hL;obtain ⟨t,B,rfl,t1,t2,hB⟩:=a8 hK;simp only at t1 t2;obtain ⟨x',p,q⟩:=h A hA;obtain ⟨ks',p2,q2⟩:=g.2 B hB;have ht:t.Ar≠5:=by omega
 refine ⟨x'::ks',.cons p p2,λ l=>eV ?_⟩;simp only [lk,n6,FN hb hA _ hz];refine jd (λ f=>rfl) (fM (q true _ (by rw [mv]; exact nc t1 (by rw [t2]; decide) _ _)) ?_);simp only [mv,cR ht,da ht,t1,t2];exact jd (λ f=>rfl) (fM (q2 l) j3)
theorem Q4 {z:Bk}(hz:z∈([[41],[93],[125]]:List Bk)){us:List Tok}{x:ab}(hb:Bgn us)(h:C0 us x):CI z (us++[(4,z)]) [x]:=by
 refine ⟨Mh hb.app,λ L hL=>?_⟩;obtain ⟨A,K,rfl,hA,hK⟩:=dF hL;obtain ⟨t,N,rfl,t1,t2,hN⟩:=a8 hK
 cases dB hN
 simp only at t1 t2;obtain ⟨x',p,q⟩:=h A hA;have ht:t.Ar≠5:=by omega
 refine ⟨[x'],f2r p,λ l=>eV ?_⟩
 have he:E7 z=true:=by
  simp only [qr,List.not_mem_nil,or_false] at hz;rcases hz with rfl|rfl|rfl <;> decide
 have hc:z≠[44]:=by
  grind
 simp only [lk,n6,FN hb hA _ hz];refine jd (λ f=>rfl) (fM (q true _ (by grind [nc])) ?_);simp only [mv,rd,fW,cR ht,da ht,t1,t2,hc];exact jd (λ f=>by simp; rfl) j3
theorem QI {s:Bk}(hr:iO s=false){ts:List Tok}{ks:List ab}(h:CI [41] ts ks)(hk:ks.length<=4000000000)(a:Int):C8 ((1,s)::(4,[40])::ts) (ab.mk 9 0 s [] v0 ks a):=by
 refine uD (1,s) _ rfl G G G λ t M h1 h2 h3=>?_;obtain ⟨u,N,rfl,u1,u2,hN⟩:=a8 h3;simp only at h1 h2 u1 u2;obtain ⟨ks',p,q⟩:=h.2 N hN;refine ⟨ab.mk 9 0 s [] v0 ks' t.fAt,og p hk,λ b l hc=>eV (eV ?_)⟩;have ht:t.Ar≠5:=by omega
 have hu:u.Ar≠5:=by omega
 have r1:s≠[110,117,108,108]:=by rintro rfl; exact absurd hr (by decide)
 have r2:s≠[116,114,117,101]:=by rintro rfl; exact absurd hr (by decide)
 have r3:s≠[102,97,108,115,101]:=by rintro rfl; exact absurd hr (by decide)
 simp only [lR,rH,mv,iN ht,da ht,cR hu,da hu,h1,h2,u1,u2,r1,r2,r3,hr];exact jd (λ f=>rfl) (fM (q l) j3)
theorem Rf {ts:List Tok}{ks:List ab}(h:CI [93] ts ks)(hk:ks.length<=4000000000)(a:Int):C8 ((4,[91])::ts) (ab.mk 10 0 [] [] v0 ks a):=by
 refine uD (4,[91]) _ rfl (by decide) (by decide) (by decide) λ t M h1 h2 h3=>?_;simp only at h1 h2;obtain ⟨ks',p,q⟩:=h.2 M h3;refine ⟨ab.mk 10 0 [] [] v0 ks' t.fAt,og p hk,λ b l hc=>eV ?_⟩;exact MA
def CK (ts:List Tok)(k:ab):Prop:=(∃ t r,ts=t::r/\t.1≠5/\t≠(1,[102,111,114])/\t≠(4,[125]))/\∀ L,iI L=ts->∃ k',EQV k k'/\∀ l,Ans (λ f=>rb f (L++l)) (.inr (k',l))
theorem Qb {s:Bk}(hs:s≠[102,111,114])(a:Int):CK [(1,s)] (p9 s a):=by
 refine ⟨(by grind),λ L hL=>?_⟩;obtain ⟨t,N,rfl,t1,t2,hN⟩:=a8 hL
 cases dB hN
 simp only at t1 t2;have ht:t.Ar≠5:=by omega
 refine ⟨p9 s t.fAt,og .nil (ph _),λ l=>eV ?_⟩;simp only [rb,mv,rd,iN ht,da ht,t1,t2,if_true];exact j3
theorem SV {s:Bk}{e:ab}(h:TM s e):CK [(3,s)] e:=by
 refine ⟨(by grind),λ L hL=>?_⟩;obtain ⟨t,N,rfl,t1,t2,hN⟩:=a8 hL
 cases dB hN
 simp only at t1 t2;have ht:t.Ar≠5:=by omega
 obtain ⟨e',p,q⟩:=Hi h t1 t2;refine ⟨e',p,λ l=>eV ?_⟩
 simp_all [rb,iN]
theorem NX {ts:List Tok}{e:ab}(h:C0 ts e):CK ((4,[40])::(ts++[(4,[41])])) e:=by
 refine ⟨(by grind),λ L hL=>?_⟩;obtain ⟨t,K,rfl,t1,t2,hK⟩:=a8 hL;obtain ⟨A,K,rfl,hA,hK⟩:=dF hK;obtain ⟨u,N,rfl,u1,u2,hN⟩:=a8 hK
 cases dB hN
 simp only at t1 t2 u1 u2;have ht:t.Ar≠5:=by omega
 have hu:u.Ar≠5:=by omega
 obtain ⟨e',p,q⟩:=h A hA;refine ⟨e',p,λ l=>eV ?_⟩;simp only [rb,mv,n6,rd,iN ht,da ht,cR ht,t1,t2];exact Lz
def CN (ts:List Tok)(ks:List ab):Prop:=(∃ t r,ts=t::r/\t.1≠5/\t≠(1,[102,111,114]))/\∀ L,iI L=ts->∃ ks',F2 (RE λ _ _=>True) ks ks'/\∀ l,Ans (λ f=>uM f (L++l)) (.inr (ks',l))
theorem TJ:CN [(4,[125])] []:=by
 refine ⟨⟨_,_,Z,by simp,by simp⟩,λ L hL=>⟨[],.nil,λ l=>eV ?_⟩⟩
 grind [a8,dB,uM,cR,da,pok,j3]
theorem Rq {ts us:List Tok}{k:ab}(h:CK ts k):∃ t r,ts++us=t::r/\t.1≠5/\t≠(1,[102,111,114]):=by
 obtain ⟨z,r,e,h1,h2,-⟩:=h.1
 grind
theorem KB {ts:List Tok}{k:ab}(h:CK ts k){L:List af}(hL:iI L=ts)(l:List af):sgB true (L++l) [125]=false:=by
 obtain ⟨z,r,e,h1,-,h3⟩:=h.1
 grind [a8,cR]
theorem Pk {us vs ts:List Tok}{k x:ab}{ks:List ab}(h:CK us k)(g:C0 vs x)(n:CN ts ks):CN (us++(4,[61])::(vs++(4,[44])::ts)) (k::x::ks):=by
 refine ⟨Rq h,λ L hL=>?_⟩;obtain ⟨A,K,rfl,hA,hK⟩:=dF hL;obtain ⟨t,K,rfl,t1,t2,hK⟩:=a8 hK;obtain ⟨B,K,rfl,hB,hK⟩:=dF hK;obtain ⟨u,M,rfl,u1,u2,hM⟩:=a8 hK;simp only at t1 t2 u1 u2;have ht:t.Ar≠5:=by omega
 have hu:u.Ar≠5:=by omega
 obtain ⟨k',p,q⟩:=h.2 A hA;obtain ⟨x',p2,q2⟩:=g B hB;obtain ⟨ks',p3,q3⟩:=n.2 M hM;refine ⟨k'::x'::ks',.cons p (.cons p2 p3),λ l=>eV ?_⟩;simp only [uM,n6,KB h hA];refine jd (λ f=>rfl) (fM (q _) ?_);simp only [mv,n6,fW,cR ht,da ht,t1,t2,decide_true,Bool.and_self,if_true,ra];refine fM (q2 true _ AP) ?_;simp only [cR hu,da hu,u1,u2,decide_true,Bool.and_self,if_true];exact fM (q3 l) j3
theorem Pi {us vs:List Tok}{k x:ab}(h:CK us k)(g:C0 vs x):CN (us++(4,[61])::(vs++[(4,[125])])) [k,x]:=by
 refine ⟨Rq h,λ L hL=>?_⟩;obtain ⟨A,K,rfl,hA,hK⟩:=dF hL;obtain ⟨t,K,rfl,t1,t2,hK⟩:=a8 hK;obtain ⟨B,K,rfl,hB,hK⟩:=dF hK;obtain ⟨u,M,rfl,u1,u2,hM⟩:=a8 hK
 cases dB hM
 simp only at t1 t2 u1 u2;have ht:t.Ar≠5:=by omega
 have hu:u.Ar≠5:=by omega
 obtain ⟨k',p,q⟩:=h.2 A hA;obtain ⟨x',p2,q2⟩:=g B hB;refine ⟨[k',x'],.cons p (f2r p2),λ l=>eV ?_⟩;simp only [uM,n6,KB h hA];refine jd (λ f=>rfl) (fM (q _) ?_);simp only [mv,n6,rd,fW,cR ht,da ht,t1,t2,decide_true,Bool.and_self,if_true,ra];refine fM (q2 true _ AP) ?_;simp only [cR hu,da hu,u1,u2,decide_true,Bool.and_self,if_true];exact jd (λ f=>by simp [ra]; rfl) j3
theorem R7 {ts:List Tok}{ks:List ab}(h:CN ts ks)(hk:ks.length<=4000000000)(a:Int):C8 ((4,[123])::ts) (ab.mk 11 0 [] [] v0 ks a):=by
 refine uD (4,[123]) _ rfl (by decide) (by decide) (by decide) λ t M h1 h2 h3=>?_;simp only at h1 h2;obtain ⟨ks',p,q⟩:=h.2 M h3;refine ⟨ab.mk 11 0 [] [] v0 ks' t.fAt,og p hk,λ b l hc=>eV ?_⟩;exact MA
def StT (ts:List Tok):Prop:=∃ z r,ts=z::r/\((z.1=4/\E7 z.2=true)\/(z.1≠4/\z.1≠5))
theorem G8 {ts:List Tok}(h:StT ts){L:List af}(hL:iI L=ts)(b:Bool)(l:List af):PW b (L++l):=by
 obtain ⟨z,r,rfl,h⟩:=h
 grind [a8,nc,tL]
def LpF (F:List Tok)(fl:List ab):Prop:=(F=[]/\fl=[])\/∃ tf x,F=(1,[105,102])::tf/\fl=[x]/\C0 tf x
def LpD (m:Bool)(D:List Tok)(dl:List ab):Prop:=(m=false/\D=[]/\dl=[])\/∃ td x,m=true/\D=(4,[61,62])::td/\dl=[x]/\C0 td x
def LpK (ky:Bk)(K:List Tok):Prop:=(ky=[]/\K=[])\/(iO ky=false/\K=[(1,ky),(4,[44])])
def lpE (m:Bool):Bk:=if m then [125] else [93]
theorem GQ (m:Bool):E7 (lpE m)=true:=by cases m <;> rfl
theorem Ne {m:Bool}{F:List Tok}{fl:List ab}(h:LpF F fl):StT (F++[(4,lpE m)]):=by
 rcases h with ⟨rfl,-⟩|⟨tf,x,rfl,-,-⟩
 ·exact ⟨_,_,Z,.inl ⟨Z,GQ m⟩⟩
 ·exact ⟨_,_,Z,.inr ⟨by simp,by simp⟩⟩
theorem RV {m:Bool}{D F:List Tok}{dl fl:List ab}(h:LpD m D dl)(g:LpF F fl):StT (D++(F++[(4,lpE m)])):=by
 rcases h with ⟨-,rfl,-⟩|⟨td,x,-,rfl,-,-⟩
 ·exact Ne g
 ·exact ⟨_,_,Z,.inl ⟨Z,by decide⟩⟩
theorem lp_f {m:Bool}{F:List Tok}{fl:List ab}(h:LpF F fl){L:List af}(hL:iI L=F++[(4,lpE m)]):∃ fl',F2 (RE λ _ _=>True) fl fl'/\∀ (G0z:List ab->ab) ks l,Ans (λ f=>pb (if wdB true (L++l) [105,102] then pb (hZ f true (tl true (L++l))) λ e l=>pok (ks++[e]) l else pok ks (L++l)) λ ks l=>pb (fW true (lpE m) l) λ _ l=>pok (G0z ks) l) (.inr (G0z (ks++fl'),l)):=by
 rcases h with ⟨rfl,rfl⟩|⟨tf,x,rfl,rfl,hx⟩
 ·obtain ⟨u,N,rfl,u1,u2,hN⟩:=a8 hL
  cases dB hN
  simp only at u1 u2;have hu:u.Ar≠5:=by omega
  refine ⟨[],.nil,λ G0z ks l=>?_⟩;simp only [mv,rd,vr hu,u1,ra,fW,cR hu,da hu,u2,decide_true,Bool.and_self,if_true,List.append_nil];exact jd (λ f=>by simp [ra,cR hu,da hu,u1,u2]; rfl) j3
 ·obtain ⟨t,K,rfl,t1,t2,hK⟩:=a8 hL;obtain ⟨A,K,rfl,hA,hK⟩:=dF hK;obtain ⟨u,N,rfl,u1,u2,hN⟩:=a8 hK
  cases dB hN
  simp only at t1 t2 u1 u2;have ht:t.Ar≠5:=by omega
  have hu:u.Ar≠5:=by omega
  obtain ⟨x',p,q⟩:=hx A hA;refine ⟨[x'],f2r p,λ G0z ks l=>?_⟩;simp only [mv,rd,n6,vr ht,da ht,t1,t2,decide_true,Bool.and_self,if_true];refine fM (l:=u::l) (fM (q true (u::l) (nc u1 (by grind [GQ]) _ _)) j3) ?_;simp only [fW,cR hu,da hu,u1,u2,decide_true,Bool.and_self,if_true,ra];exact j3
theorem lp_s {m:Bool}{ky nm:Bk}(hn:iO nm=false){ta tc K D F:List Tok}{a c:ab}{dl fl:List ab}(hK:LpK ky K)(ha:C0 ta a)(hc:C0 tc c)(hD:LpD m D dl)(hF:LpF F fl){L:List af}(hL:iI L=K++(1,nm)::(1,[105,110])::(ta++(4,[58])::(tc++(D++(F++[(4,lpE m)])))))(at':Int) :
  ∃ ks',F2 (RE λ _ _=>True) ([a,c]++dl++fl) ks'/\∀ l,Ans (λ f=>q9 f at' (if m then 13 else 12) (L++l)) (.inr (ab.mk (if m then 13 else 12) 0 nm ky v0 ks' at',l)):=by
 obtain ⟨KL,R,rfl,kl,hR⟩:=dF hL;obtain ⟨n,R,rfl,n1,n2,hR⟩:=a8 hR;obtain ⟨i,R,rfl,i1,i2,hR⟩:=a8 hR;obtain ⟨A,R,rfl,hA,hR⟩:=dF hR;obtain ⟨t,R,rfl,t1,t2,hR⟩:=a8 hR;obtain ⟨C,R,rfl,hC,hR⟩:=dF hR;simp only at n1 n2 i1 i2 t1 t2;have hn5:n.Ar≠5:=by omega
 have hi5:i.Ar≠5:=by omega
 have ht5:t.Ar≠5:=by omega
 obtain ⟨a',pa,qa⟩:=ha A hA;obtain ⟨c',pc,qc⟩:=hc C hC;have stR:=RV hD hF (m:=m)
 -- behind the second colon
 have tail:∃ xs,F2 (RE λ _ _=>True) (dl++fl) xs/\∀ (l:List af) (nk:Bk×Bk),Ans (λ f=>pb (if (if m then (13:Int) else 12)=13 then pb (fW true [61,62] (R++l)) λ _ l=>pb (hZ f true l) λ d l=>pok [a',c',d] l else pok [a',c'] (R++l)) λ ks l=>
   pb (if wdB true l [105,102] then pb (hZ f true (tl true l)) λ e l=>pok (ks++[e]) l else pok ks l) λ ks l=>
   pb (fW true (if (if m then (13:Int) else 12)=13 then [125] else [93]) l) λ _ l=>pok (ab.mk (if m then 13 else 12) 0 nk.1 nk.2 v0 ks at') l) (.inr (ab.mk (if m then 13 else 12) 0 nk.1 nk.2 v0 ([a',c']++xs) at',l)):=by
  rcases hD with ⟨rfl,rfl,rfl⟩|⟨td,d,rfl,rfl,rfl,hd⟩
  ·obtain ⟨fl',p,q⟩:=lp_f (m:=false) hF hR;refine ⟨fl',p,λ l nk=>?_⟩;exact jd (λ f=>rfl) (q (λ ks=>ab.mk 12 0 nk.1 nk.2 v0 ks at') [a',c'] l)
  ·obtain ⟨u,R,rfl,u1,u2,hR⟩:=a8 hR;obtain ⟨Dd,R,rfl,hDd,hR⟩:=dF hR;simp only at u1 u2;have hu:u.Ar≠5:=by omega
   obtain ⟨d',pd,qd⟩:=hd Dd hDd;obtain ⟨fl',p,q⟩:=lp_f (m:=true) hF hR;refine ⟨d'::fl',.cons pd p,λ l nk=>?_⟩;simp only [mv,n6,fW,cR hu,da hu,u1,u2,decide_true,Bool.and_self,if_true,ra];refine fM (l:=R++l) (fM (qd true _ (G8 (Ne (m:=true) hF) hR _ _)) j3) ?_;exact jd (λ f=>rfl) (q (λ ks=>ab.mk 13 0 nk.1 nk.2 v0 ks at') [a',c',d'] l)
 obtain ⟨xs,px,qx⟩:=tail;refine ⟨[a',c']++xs,?_,λ l=>?_⟩
 ·rw [n6]; exact .cons pa (.cons pc px)
 -- from the name on
 have mid:∀ (l:List af) (nk:Bk×Bk),Ans (λ f=>pb (ID true [105,110] (i::(A++t::(C++(R++l))))) λ _ l=>pb (hZ f true l) λ a l=>pb (fW true [58] l) λ _ l=>pb (hZ f true l) λ c l=>
   pb (if (if m then (13:Int) else 12)=13 then pb (fW true [61,62] l) λ _ l=>pb (hZ f true l) λ d l=>pok [a,c,d] l else pok [a,c] l) λ ks l=>
   pb (if wdB true l [105,102] then pb (hZ f true (tl true l)) λ e l=>pok (ks++[e]) l else pok ks l) λ ks l=>
   pb (fW true (if (if m then (13:Int) else 12)=13 then [125] else [93]) l) λ _ l=>pok (ab.mk (if m then 13 else 12) 0 nk.1 nk.2 v0 ks at') l) (.inr (ab.mk (if m then 13 else 12) 0 nk.1 nk.2 v0 ([a',c']++xs) at',l)):=by
  intro l nk;simp only [ID,vr hi5,da hi5,i1,i2,decide_true,Bool.and_self,if_true,ra];refine fM (qa true _ (nc t1 (by rw [t2]; decide) _ _)) ?_;simp only [fW,cR ht5,da ht5,t1,t2,decide_true,Bool.and_self,if_true,ra];refine fM (qc true _ (G8 stR hR _ _)) ?_;exact qx l nk
 refine eV ?_;rcases hK with ⟨rfl,rfl⟩|⟨hk,rfl⟩
 ·cases dB kl
  simp only [q9,rd,mv,n6,DO,iN hn5,da hn5,n1,n2,hn,and_self,if_true,ra,cR hi5,i1];exact jd (λ f=>rfl) (mid l (nm,[]))
 ·obtain ⟨k,Q,rfl,k1,k2,kl⟩:=a8 kl;obtain ⟨z,Q,rfl,z1,z2,kl⟩:=a8 kl
  cases dB kl
  simp only at k1 k2 z1 z2;have X4:k.Ar≠5:=by omega
  have hz5:z.Ar≠5:=by omega
  simp only [q9,rd,mv,n6,DO,iN X4,da X4,k1,k2,hk,and_self,if_true,ra,cR hz5,da hz5,z1,z2,iN hn5,da hn5,n1,n2,hn,decide_true,Bool.and_self];exact mid l (nm,ky)
theorem Qv {m:Bool}{ky nm:Bk}(hn:iO nm=false){ta tc K D F:List Tok}{a c:ab}{dl fl:List ab}(hK:LpK ky K)(ha:C0 ta a)(hc:C0 tc c)(hD:LpD m D dl)(hF:LpF F fl)(at':Int) :
  C8 ((4,if m then [123] else [91])::(1,[102,111,114])::(K++(1,nm)::(1,[105,110])::(ta++(4,[58])::(tc++(D++(F++[(4,lpE m)])))))) (ab.mk (if m then 13 else 12) 0 nm ky v0 ([a,c]++dl++fl) at'):=by
 refine uD (4,if m then [123] else [91]) _ rfl G (by grind) (by grind) λ t M h1 h2 h3=>?_;obtain ⟨u,N,rfl,u1,u2,hN⟩:=a8 h3;simp only at h1 h2 u1 u2;have ht:t.Ar≠5:=by omega
 have hu:u.Ar≠5:=by omega
 obtain ⟨ks',p,q⟩:=lp_s (m:=m) hn hK ha hc hD hF hN t.fAt
 have Pn:([a,c]++dl++fl).length<=4000000000:=by
  rcases hD with ⟨-,-,rfl⟩|⟨_,_,-,-,rfl,-⟩ <;> rcases hF with ⟨-,rfl⟩|⟨_,_,-,rfl,-⟩ <;> simp
 refine ⟨ab.mk (if m then 13 else 12) 0 nm ky v0 ks' t.fAt,og p Pn,λ b l hc=>eV ?_⟩
 cases m
 ·grind [lR,iN,da,cR,vr]
 grind [lR,iN,da,cR,vr]
def bal:Nat->List Tok->Option Nat|d,[]=>some d|d,z::r=>if z.1=4 then (if z.2=[40]\/z.2=[91]\/z.2=[123] then bal (d+1) r else if z.2=[41]\/z.2=[93]\/z.2=[125] then (if d=0 then none else bal (d-1) r) else bal d r) else if z.1<4 then bal d r else none
theorem kV (m:List Tok):∀ (l:List Tok) (d:Nat),bal d (l++m)=(bal d l).bind λ d=>bal d m
 | [],_=>rfl
 | z::l,d=>by
  have ih:=kV m l;rw [mv,bal,bal]
  repeat' split
  all_goals first|exact ih _|rfl
def Bal (l:List Tok):Prop:=∀ d,bal d l=some d
def PX (n D N:Nat)(e:ab)(t:Bk):Prop:=(∃ b r,t=b::r/\b≠61)/\∃ ts,ts.length<=N/\(Bgn ts/\Bal ts)/\CL n ts e/\∀ y,sO y->Go D ts (t++y) y
theorem PX.mono {n D N E M:Nat}{e:ab}{t:Bk}(h:PX n D N e t)(hD:D<=E)(hN:N<=M):PX n E M e t:=by
 obtain ⟨h0,ts,h1,h2,h3,h4⟩:=h;exact ⟨h0,ts,by omega,h2,h3,λ y hy=>(h4 y hy).mono hD⟩
theorem PX.weak {n m D N:Nat}{e:ab}{t:Bk}(hn:n<=m)(hm:m<=8)(h:PX m D N e t):PX n D N e t:=by
 obtain ⟨h0,ts,h1,h2,h3,h4⟩:=h;obtain ⟨k,rfl⟩:∃ k,m=n+k:=⟨m-n,by omega⟩
 exact ⟨h0,ts,h1,h2,F8 hm h3,h4⟩
theorem mH {b:UInt8}{y:Bk}(h:idB b=false):sO (b::y):=λ z hz=>by
 simp only [List.head?_cons,Option.mem_def,bx] at hz;rw [<- hz]; exact h
theorem Cu {D N:Nat}{e:ab}{t:Bk}(h:PX 0 D N e t)(hD:D<=32)(hN:N<16384)(ht:t.length<=65536)(base:Int):∃ e',EQV e e'/\Ans (λ f=>ll f t base) (.inr e'):=by
 obtain ⟨h0,ts,h1,h2,h3,h4⟩:=h;have g:=h4 [] uc;rw [List.append_nil] at g;obtain ⟨L,E,hs,hk,hL,hE⟩:=xF hD O ht g;obtain ⟨u,M,rfl,u1,u2,hM⟩:=a8 (L:=E) hE
 cases dB hM
 have hL2:iI (L.map (mvT base))=ts:=by
  rw [<- hL]; unfold iI; rw [List.map_map]; rfl
 obtain ⟨e',p,q⟩:=(h3:C0 ts e) _ hL2;refine ⟨e',p,eV ?_⟩;simp only at u1;have u5:(mvT base u).Ar≠5:=by show u.Ar≠5; omega
 obtain ⟨F,q⟩:=q true [mvT base u] (tL (by show u.Ar≠4; omega) u5 _ _);refine ⟨F,λ f hf=>?_⟩;simp only [ll,hk,hs,List.map_append,n7,List.map_nil,q f hf,iN u5];rw [if_neg (by decide),if_pos (show (mvT base u).Ar=6 from u1)]
theorem yb (y:Bk):sO (125::y):=mH (by decide)
theorem HA (D:Nat)(y:Bk):Wrd D (4,[125]) (125::y) y:=pt (w:=[]) (by decide) (pm (by decide) y)
theorem Ba (r:Bk)(h:r.head? = some 123):hasPrefix (36::r) [36,36,123]=false/\hasPrefix (36::r) [36,123]=true:=by
 cases r with
 | nil=>cases h
 | cons c r=>
  simp only [List.head?_cons,bx] at h;subst h;exact ⟨rfl,rfl⟩
theorem FQ {D N:Nat}{e:ab}{t:Bk}(h:PX 0 D N e t)(y:Bk):nE 1 (t++125::y)=some (some y):=by
 obtain ⟨h0,ts,h1,h2,h3,h4⟩:=h;have g:=(h4 (125::y) (yb y)).c 0;rw [g,ln,if_neg (by decide),if_pos (by decide),if_pos rfl]
theorem Sc {D N:Nat}{e:ab}{t:Bk}(h:PX 0 D N e t)(y:Bk){k:Nat}(hk:k+D<=32):sP k 1 (t++125::y)=.inr y:=by
 obtain ⟨h0,ts,h1,h2,h3,h4⟩:=h;have g:=(h4 (125::y) (yb y)).i k 0 hk;rw [g,(HA D y).int hk,if_pos (by decide),if_pos rfl]
theorem yi {v:Bk}(hv:validD v=true)(hl:v.length<=4096)(a:Int):TM (quo v) (p9 v a)/\∀ D,qy D (quo v):=by
 have hu:=uC _ v (bt _) hv;refine ⟨λ at'=>⟨p9 v at',og .nil (ph _),eV ?_⟩,λ D=>⟨λ k y _=>?_,λ y=>?_⟩⟩
 ·have g:=rE _ v [] (bt _) hu G Y;obtain ⟨j,g⟩:=g.r;refine ⟨j+1,λ f hf=>?_⟩;obtain ⟨f,rfl⟩:∃ k,f=(k+1)+j:=⟨f-1-j,by omega⟩
  have g:=g (f+1) at' at' [] [] false (by simpa using hl);rw [List.append_nil] at g;simp only [qt,g];rw [ii]
  have hc:chk (p9 v at')=0:=by
   unfold chk;rw [pP,if_neg (by decide),if_neg (by decide)]
   have:lB (p9 v at')=0:=by
    unfold lB;rw [if_neg (by rw [show ui (p9 v at')=true from rfl]; decide),if_pos (show (p9 v at').Ar=1 from rfl)];show uz (ag.mk 3 0 v [] [])=0;simp [uz,hv,ag.Ar,ag.G',ag.D',ag.Gw,ag.F']; omega
   rw [if_pos this];show (nN 1 2 []).1=0;rw [nN]
  show some (uy (.inr (p9 v at')))=_;unfold uy;simp only;rw [if_pos hc]
 ·have g:=rE _ v (34::y) (bt _) hu G Y;rw [g.s k,lK,if_pos (by decide)]
 ·have g:=rE _ v (34::y) (bt _) hu G Y;rw [g.q,jY,if_pos (by decide)]
theorem Kf (h:p:=by
 rw [mv,n6]
 exact (jH (D:=D) (b:=40) (by decide) (by decide) _).trans ((h4 (41::y) (mH (by decide))).trans (jH (by decide) (by decide) y))):p:=h
theorem Ft (h:p:=by
 simp only [sgL,qr,List.not_mem_nil,or_false] at h
 rcases h with rfl|rfl|rfl|rfl|rfl|rfl|rfl|rfl|rfl|rfl|rfl|rfl|rfl|rfl|rfl <;> rfl):p:=h
theorem tG (h:p:=by exact ⟨_,_,Z,by decide⟩):p:=h
theorem ix (h:p:=by exact mH (by decide)):p:=h
theorem Np (h:p:=by exact ⟨⟨_,_,Z,by decide⟩,λ d=>by simp [bal,kV,h2.2 _]⟩):p:=h
def sgL:List Bk:=[[124,124],[38,38],[61,61],[33,61],[60],[60,61],[62],[62,61],[43],[45],[42],[47],[37],[61],[61,62]]
theorem S9 {s:Bk}(h:s∈sgL)(d:Nat)(l:List Tok):bal d ((4,s)::l)=bal d l:=by
 exact Ft
theorem Qp {s:Bk}(h:s∈sgL)(y:Bk):iU (s++32::y)=s:=by
 exact Ft
theorem Lr {D:Nat}{s:Bk}(h:s∈sgL)(y:Bk):Go D [(4,s)] (32::(s++32::y)) y:=by
 have hs:=Qp h y
 have h2:∃ b w,s=b::w/\(ku b=false/\b.toNat≠35/\kD b=false/\hQ b=false/\b.toNat≠10/\b.toNat≠34)/\∀ z∈b::w,nbr z=true:=by
  simp only [sgL,qr,List.not_mem_nil,or_false] at h;rcases h with rfl|rfl|rfl|rfl|rfl|rfl|rfl|rfl|rfl|rfl|rfl|rfl|rfl|rfl|rfl <;> exact ⟨_,_,rfl,by decide,by decide⟩
 have h0:iU (s++[])=s:=by
  exact Ft
 obtain ⟨b,w,rfl,hb,hn⟩:=h2;exact (Go.sp (D:=D)).trans ((AK hb hs h0 hn).trans Go.sp)
theorem TS {D:Nat}{y:Bk}(h:∃ b r,y=b::r/\b≠61):Go D [(4,[33])] (33::y) y:=by
 obtain ⟨b,r,rfl,hb⟩:=h;refine AK (w:=[]) (by decide) ?_ rfl (by decide)
 have e:∀ t∈vb,hasPrefix ((33:UInt8)::([]++b::r)) t=false:=by
  intro t ht;simp only [vb,qr,List.not_mem_nil,or_false] at ht;rcases ht with rfl|rfl|rfl|rfl|rfl|rfl|rfl
  ·rfl
  ·rfl
  ·have h61:((61:UInt8)==b)=false:=by grind
   show ((33:UInt8)==33&&((61:UInt8)==b&&true))=false
   grind
  ·rfl
  ·rfl
  ·rfl
  ·rfl
 have f:vb.find? (λ t=>hasPrefix ((33:UInt8)::([]++b::r)) t)=none:=List.find?_eq_none.2 λ t ht=>by grind
 show iU ((33:UInt8)::([]++b::r))=[33];unfold iU;rw [f]
 rfl
theorem E4 {s:Bk}(h:bW s=true):∃ b r,s=b::r/\b≠61:=by
 cases s with
 | nil=>cases h
 | cons b r=>
  refine ⟨b,r,rfl,?_⟩;rintro rfl;simp only [bW,py] at h;exact absurd h.1.2 (by decide)
theorem wD {D:Nat}{e:ab}{t:Bk}{z:Tok}(h0:∃ b r,t=b::r/\b≠61)(hz:bgT z=true)(hb:decide (z.1<4)=true)(h:C8 [z] e)(hg:∀ y,sO y->Go D [z] (t++y) y):PX 8 D 1 e t:=⟨h0,[z],bt _,⟨⟨z,[],rfl,hz⟩,λ d=>by grind [bal]⟩,h,hg⟩
theorem QF {s:Bk}(hi:bW s=true)(hr:iO s=false)(a:Int)(D:Nat):PX 8 D 1 (ab.mk 3 0 s [] v0 [] a) s :=
 wD (E4 hi) (by
  have:s≠[102,111,114]:=by rintro rfl; exact absurd hr (by decide)
  simp [bgT,this]) rfl (Pz hr a) λ y hy=>kU hi hy
theorem AN {s:Bk}{v:ag}(a:Int)(D:Nat)(h:(s=[110,117,108,108]/\v=v0)\/(s=[116,114,117,101]/\v=ag.mk 1 1 [] [] [])\/(s=[102,97,108,115,101]/\v=ag.mk 1 0 [] [] [])):PX 8 D 1 (sR v a) s:=by
 have hi:bW s=true:=by rcases h with ⟨rfl,-⟩|⟨rfl,-⟩|⟨rfl,-⟩ <;> decide
 refine wD (E4 hi) ?_ rfl (Pw a h) λ y hy=>kU hi hy;rcases h with ⟨rfl,-⟩|⟨rfl,-⟩|⟨rfl,-⟩ <;> decide
theorem TU {s:Bk}{n:Int}(h0:s≠[])(hs:∀ z∈s,hQ z=true)(h:wn s=(n,0))(a:Int)(D:Nat):PX 8 D 1 (sR (ag.mk 2 n [] [] []) a) s:=by
 refine wD ?_ (by simp [bgT]) Z (R4 a h) λ y hy=>SB h0 hs hy
 cases s with
 | nil=>grind
 | cons b r=>exact ⟨b,r,rfl,by rintro rfl; exact absurd (hs _ th) (by decide)⟩
theorem Ms {s:Bk}{e:ab}{D:Nat}(h:TM s e)(hs:qy D s):PX 8 D 1 e (34::(s++[34])):=by
 refine wD tG (by simp [bgT]) Z (Tp h) λ y hy=>?_
 grind [Ei]
theorem K3 {D N:Nat}{e:ab}{t:Bk}(h:PX 0 D N e t):PX 8 D (N+2) e (40::(t++[41])):=by
 obtain ⟨-,ts,h1,h2,h3,h4⟩:=h;refine ⟨tG,(4,[40])::(ts++[(4,[41])]),by simp; omega,Np,Jl h3,λ y hy=>?_⟩;exact Kf
theorem Qd {D N:Nat}{e:ab}{t nm:Bk}(h:PX 8 D N e t)(hi:bW nm=true)(a:Int):PX 8 D (N+2) (ab.mk 4 0 nm [] v0 [e] a) (t++46::nm):=by
 obtain ⟨⟨b,r,rfl,hb⟩,ts,h1,h2,h3,h4⟩:=h;refine ⟨⟨b,_,rfl,hb⟩,ts++[(4,[46]),(1,nm)],by simp; omega,⟨h2.1.app,λ d=>by simp [bal,kV,h2.2 _]⟩,P4 h3 nm a,λ y hy=>?_⟩;rw [n6,mv];exact (h4 _ ix).trans ((jH (D:=D) (b:=46) (by decide) (by decide) _).trans (kU hi hy))
theorem TY {D N M:Nat}{e x:ab}{t u:Bk}(h:PX 8 D N e t)(g:PX 0 D M x u)(a:Int):PX 8 D (N+M+2) (ab.mk 5 0 [] [] v0 [e,x] a) (t++91::(u++[93])):=by
 obtain ⟨⟨b,r,rfl,hb⟩,ts,h1,h2,h3,h4⟩:=h;obtain ⟨-,us,g1,g2,g3,g4⟩:=g;refine ⟨⟨b,_,rfl,hb⟩,ts++(4,[91])::(us++[(4,[93])]),by simp; omega,⟨h2.1.app,λ d=>by simp [bal,kV,h2.2 _,g2.2 _]⟩,S8 h3 g3 a,λ y hy=>?_⟩;simp only [n6,mv,rd];exact (h4 _ ix).trans ((jH (D:=D) (b:=91) (by decide) (by decide) _).trans ((g4 (93::y) ix).trans (jH (by decide) (by decide) y)))
theorem Us {D N:Nat}{e:ab}{t s:Bk}{o:Int}(h:PX 7 D N e t)(ho:s=[33]/\o=1\/s=[45]/\o=2)(a:Int):PX 7 D (N+1) (ab.mk 6 o [] [] v0 [e] a) (s++t):=by
 obtain ⟨h0,ts,h1,h2,h3,h4⟩:=h;refine ⟨?_,(4,s)::ts,by simp; omega,⟨?_,λ d=>?_⟩,Um h3 ho a,λ y hy=>?_⟩
 ·grind
 ·rcases ho with ⟨rfl,-⟩|⟨rfl,-⟩ <;> exact ⟨_,_,rfl,by decide⟩
 ·rcases ho with ⟨rfl,-⟩|⟨rfl,-⟩ <;> exact h2.2 d
 ·rcases ho with ⟨rfl,-⟩|⟨rfl,-⟩
  ·have hb:∃ b r,t++y=b::r/\b≠61:=by
    grind
   exact (TS (D:=D) hb).trans (h4 y hy)
  ·exact (jH (D:=D) (b:=45) (by decide) (by decide) _).trans (h4 y hy)
theorem Tw:∀ j:Fin 6,∀ p∈sN j.val,p.1∈sgL:=by decide
theorem Sw {j D N M:Nat}(hj:j<=5){s:Bk}{o:Int}(ho:(s,o)∈sN j){e x:ab}{t u:Bk}(h:PX (j+1) D N e t)(g:PX (j+2) D M x u)(a:Int):PX (j+1) D (N+M+1) (ab.mk 7 o [] [] v0 [e,x] a) (t++32::(s++32::u)):=by
 obtain ⟨⟨b,r,rfl,hb⟩,ts,h1,h2,h3,h4⟩:=h;obtain ⟨-,us,g1,g2,g3,g4⟩:=g;have hs:s∈sgL:=Tw ⟨j,by omega⟩ (s,o) ho;refine ⟨⟨b,_,rfl,hb⟩,ts++(4,s)::us,by simp; omega,⟨h2.1.app,λ d=>by rw [kV,h2.2,rg,S9 hs]; exact g2.2 d⟩,?_,λ y hy=>?_⟩
 ·have:=SJ hj ho (UP hj h3) (Uv O g3) a
  match j,hj,this with
  | 0,_,h=>exact h
  | 1,_,h=>exact h
  | 2,_,h=>exact h
  | 3,_,h=>exact h
  | 4,_,h=>exact h
  | 5,_,h=>exact h
 ·simp only [n6,mv];exact (h4 (32::(s++32::(u++y))) ix).trans ((Lr (D:=D) hs _).trans (g4 y hy))
theorem Qj {D N M K:Nat}{c x w:ab}{t u v:Bk}(h:PX 1 D N c t)(g:PX 0 D M x u)(k:PX 0 D K w v)(a:Int):PX 0 D (N+M+K+2) (ab.mk 8 0 [] [] v0 [c,x,w] a) (t++32::63::32::(u++32::58::32::v)):=by
 obtain ⟨⟨b,r,rfl,hb⟩,ts,h1,h2,h3,h4⟩:=h;obtain ⟨-,us,g1,g2,g3,g4⟩:=g;obtain ⟨-,vs,k1,k2,k3,k4⟩:=k;refine ⟨⟨b,_,rfl,hb⟩,ts++(4,[63])::(us++(4,[58])::vs),by simp; omega,⟨h2.1.app,λ d=>by simp [bal,kV,h2.2 _,g2.2 _,k2.2 _]⟩,P3 (qE O h3) g3 k3 a,λ y hy=>?_⟩;simp only [n6,mv];refine (h4 _ ix).trans ((Go.sp (D:=D)).trans ((jH (D:=D) (b:=63) (by decide) (by decide) _).trans ((Go.sp (D:=D)).trans ?_)));exact (g4 _ ix).trans ((Go.sp (D:=D)).trans ((jH (D:=D) (b:=58) (by decide) (by decide) _).trans ((Go.sp (D:=D)).trans (k4 y hy))))
def PI (z:UInt8)(D N:Nat)(ks:List ab)(t:Bk):Prop:=∃ ts,ts.length<=N/\(CI [z] ts ks/\∀ d,bal (d+1) ts=some d)/\∀ y,Go D ts (t++z::y) y
def clZ (z:UInt8):Bool:=decide (z=41)||decide (z=93)
theorem zK {z:UInt8}(h:clZ z=true):[z]∈([[41],[93],[125]]:List Bk)/\KW z=true/\(z≠123/\z≠125)/\idB z=false:=by
 simp only [clZ,Bool.or_eq_true,decide_eq_true_eq] at h;rcases h with rfl|rfl <;> decide
theorem JA {z:UInt8}(h:clZ z=true)(d:Nat):bal (d+1) [(4,[z])]=some d:=by
 simp only [clZ,Bool.or_eq_true,decide_eq_true_eq] at h;rcases h with rfl|rfl <;> rfl
theorem PI.mono {z:UInt8}{D N M:Nat}{ks:List ab}{t:Bk}(h:PI z D N ks t)(hN:N<=M):PI z D M ks t:=by
 obtain ⟨ts,h1,h2,h3⟩:=h;exact ⟨ts,by omega,h2,h3⟩
theorem Tm {z:UInt8}(hz:clZ z=true)(D:Nat):PI z D 1 [] []:=by
 obtain ⟨h1,h2,h3,h4⟩:=zK hz;exact ⟨[(4,[z])],bt _,⟨RQ [z],JA hz⟩,λ y=>jH h2 h3 y⟩
theorem Po {z:UInt8}(hz:clZ z=true){D N M:Nat}{x:ab}{ks:List ab}{t u:Bk}(h:PX 0 D N x t)(g:PI z D M ks u):PI z D (N+M+1) (x::ks) (t++44::32::u):=by
 obtain ⟨-,ts,h1,h2,h3,h4⟩:=h;obtain ⟨us,g1,g2,g3⟩:=g;refine ⟨ts++(4,[44])::us,by simp; omega,⟨PS (zK hz).1 h2.1 h3 g2.1,λ d=>by simp [bal,kV,h2.2 _,g2.2 _]⟩,λ y=>?_⟩;simp only [n6,mv];exact (h4 _ ix).trans ((jH (D:=D) (b:=44) (by decide) (by decide) _).trans ((Go.sp (D:=D)).trans (g3 y)))
theorem QE {z:UInt8}(hz:clZ z=true){D N:Nat}{x:ab}{t:Bk}(h:PX 0 D N x t):PI z D (N+1) [x] t:=by
 obtain ⟨-,ts,h1,h2,h3,h4⟩:=h;obtain ⟨z1,z2,z3,z4⟩:=zK hz;refine ⟨ts++[(4,[z])],by simp; omega,⟨Q4 z1 h2.1 h3,λ d=>by rw [kV,h2.2]; exact JA hz d⟩,λ y=>?_⟩;exact (h4 _ (mH z4)).trans (jH z2 z3 y)
theorem QY {D N:Nat}{s t:Bk}(hi:bW s=true)(hr:iO s=false){ks:List ab}(h:PI 41 D N ks t)(hk:ks.length<=4000000000)(a:Int):PX 8 D (N+2) (ab.mk 9 0 s [] v0 ks a) (s++40::(t++[41])):=by
 obtain ⟨ts,h1,h2,h3⟩:=h;obtain ⟨b,r,rfl,hb⟩:=E4 hi;refine ⟨⟨b,_,rfl,hb⟩,(1,b::r)::(4,[40])::ts,by simp; omega,⟨⟨_,_,rfl,?_⟩,λ d=>by grind [bal]⟩,QI hr h2.1 hk a,λ y hy=>?_⟩
 ·have:b::r≠[102,111,114]:=by intro e; rw [e] at hr; exact absurd hr (by decide)
  simp [bgT,this]
 ·simp only [n6,mv,rd];exact (kU (D:=D) (t:=b::r) (y:=40::(t++41::y)) hi ix).trans ((jH (D:=D) (b:=40) (by decide) (by decide) _).trans (h3 y))
theorem QM {D N:Nat}{t:Bk}{ks:List ab}(h:PI 93 D N ks t)(hk:ks.length<=4000000000)(a:Int):PX 8 D (N+1) (ab.mk 10 0 [] [] v0 ks a) (91::(t++[93])):=by
 obtain ⟨ts,h1,h2,h3⟩:=h;refine ⟨tG,(4,[91])::ts,by simp; omega,⟨tG,λ d=>by grind [bal]⟩,Rf h2.1 hk a,λ y hy=>?_⟩;simp only [n6,mv,rd];exact (jH (D:=D) (b:=91) (by decide) (by decide) _).trans (h3 y)
def PK (D N:Nat)(k:ab)(t:Bk):Prop:=∃ ts,ts.length<=N/\(CK ts k/\Bal ts)/\∀ y,sO y->Go D ts (t++y) y
theorem QB {s:Bk}(hi:bW s=true)(hs:s≠[102,111,114])(a:Int)(D:Nat):PK D 1 (p9 s a) s:=⟨[(1,s)],bt _,⟨Qb hs a,λ d=>rfl⟩,λ y hy=>kU hi hy⟩
theorem Lg {s:Bk}{e:ab}{D:Nat}(h:TM s e)(hs:qy D s):PK D 1 e (34::(s++[34])):=by
 refine ⟨[(3,s)],bt _,⟨SV h,λ d=>rfl⟩,λ y hy=>?_⟩
 grind [Ei]
theorem Lt {D N:Nat}{e:ab}{t:Bk}(h:PX 0 D N e t):PK D (N+2) e (40::(t++[41])):=by
 obtain ⟨-,ts,h1,h2,h3,h4⟩:=h;refine ⟨(4,[40])::(ts++[(4,[41])]),by simp; omega,⟨NX h3,λ d=>by simp [bal,kV,h2.2 _]⟩,λ y hy=>?_⟩;exact Kf
def PN (D N:Nat)(ks:List ab)(t:Bk):Prop:=∃ ts,ts.length<=N/\(CN (ts++[(4,[125])]) ks/\Bal ts)/\∀ y,Go D ts (t++125::y) (125::y)
theorem PN.mono {D N M:Nat}{ks:List ab}{t:Bk}(h:PN D N ks t)(hN:N<=M):PN D M ks t:=by
 obtain ⟨ts,h1,h2,h3⟩:=h;exact ⟨ts,by omega,h2,h3⟩
theorem Ti (D:Nat):PN D 0 [] []:=⟨[],bt _,⟨TJ,λ d=>rfl⟩,λ _=>Go.refl⟩
theorem Kx {D:Nat}(y:Bk):Go D [(4,[61])] (32::61::32::y) y:=Lr (s:=[61]) (by decide) y
theorem O5 {D N M K:Nat}{k x:ab}{ks:List ab}{t u v:Bk}(h:PK D N k t)(g:PX 0 D M x u)(n:PN D K ks v):PN D (N+M+K+2) (k::x::ks) (t++32::61::32::(u++44::32::v)):=by
 obtain ⟨ts,h1,h2,h3⟩:=h;obtain ⟨-,us,g1,g2,g3,g4⟩:=g;obtain ⟨vs,n1,n2,n3⟩:=n;refine ⟨ts++(4,[61])::(us++(4,[44])::vs),by simp; omega,⟨?_,λ d=>by simp [bal,kV,h2.2 _,g2.2 _,n2.2 _]⟩,λ y=>?_⟩
 ·simpa only [n6,mv] using Pk h2.1 g3 n2.1
 ·simp only [n6,mv];exact (h3 _ ix).trans ((Kx (D:=D) _).trans ((g4 _ ix).trans ((jH (D:=D) (b:=44) (by decide) (by decide) _).trans ((Go.sp (D:=D)).trans (n3 y)))))
theorem OP {D N M:Nat}{k x:ab}{t u:Bk}(h:PK D N k t)(g:PX 0 D M x u):PN D (N+M+1) [k,x] (t++32::61::32::u):=by
 obtain ⟨ts,h1,h2,h3⟩:=h;obtain ⟨-,us,g1,g2,g3,g4⟩:=g;refine ⟨ts++(4,[61])::us,by simp; omega,⟨?_,λ d=>by simp [bal,kV,h2.2 _,g2.2 _]⟩,λ y=>?_⟩
 ·simpa only [n6,mv] using Pi h2.1 g3
 ·simp only [n6,mv];exact (h3 _ ix).trans ((Kx (D:=D) _).trans (g4 _ ix))
theorem SU {D N:Nat}{t:Bk}{ks:List ab}(h:PN D N ks t)(hk:ks.length<=4000000000)(a:Int):PX 8 D (N+2) (ab.mk 11 0 [] [] v0 ks a) (123::(t++[125])):=by
 obtain ⟨ts,h1,h2,h3⟩:=h;refine ⟨tG,(4,[123])::(ts++[(4,[125])]),by simp; omega,Np,R7 h2.1 hk a,λ y hy=>?_⟩
 grind [yn]
def TkK (K:Bk)(ky:Bk):Prop:=(ky=[]/\K=[])\/(bW ky=true/\iO ky=false/\K=ky++[44,32])
def TkD (m:Bool)(D N:Nat)(dl:List ab)(t:Bk):Prop:=(m=false/\t=[]/\dl=[])\/∃ u x,m=true/\t=32::61::62::32::u/\dl=[x]/\PX 0 D N x u
def TkF (D N:Nat)(fl:List ab)(t:Bk):Prop:=(t=[]/\fl=[])\/∃ u x,t=32::105::102::32::u/\fl=[x]/\PX 0 D N x u
theorem Cp {t y:Bk}(h:t=[]\/∃ b r,t=b::r/\idB b=false)(hy:sO y):sO (t++y):=by
 grind [mH]
theorem KH {m:Bool}{D N:Nat}{dl:List ab}{t:Bk}(h:TkD m D N dl t):t=[]\/∃ b r,t=b::r/\idB b=false:=by
 rcases h with ⟨-,rfl,-⟩|⟨u,x,-,rfl,-,-⟩
 ·grind
 ·exact .inr tG
theorem Od {D N:Nat}{fl:List ab}{t:Bk}(h:TkF D N fl t):t=[]\/∃ b r,t=b::r/\idB b=false:=by
 rcases h with ⟨rfl,-⟩|⟨u,x,rfl,-,-⟩
 ·grind
 ·exact .inr tG
theorem T6 {m:Bool}{D N1 N2 N3 N4:Nat}{ky nm K ta tc td tf:Bk}{a c:ab}{dl fl:List ab}(hnm:bW nm=true)(hK:TkK K ky)(ha:PX 0 D N1 a ta)(hc:PX 0 D N2 c tc)(hd:TkD m D N3 dl td)(hf:TkF D N4 fl tf) :
  ∃ KT A C DT FT,LpK ky KT/\C0 A a/\C0 C c/\LpD m DT dl/\LpF FT fl/\KT.length<=2/\A.length<=N1/\C.length<=N2/\DT.length<=N3+1/\FT.length<=N4+1/\(Bal KT/\Bal A/\Bal C/\Bal DT/\Bal FT) /\
   ∀ y,sO y->Go D ((1,[102,111,114])::(KT++(1,nm)::(1,[105,110])::(A++(4,[58])::(C++(DT++FT))))) (102::111::114::32::(K++(nm++32::105::110::32::(ta++32::58::32::(tc++(td++(tf++y))))))) y:=by
 obtain ⟨-,A,a1,a2,a3,a4⟩:=ha;obtain ⟨-,C,c1,c2,c3,c4⟩:=hc
 have k:∃ KT:List Tok,(LpK ky KT/\Bal KT)/\KT.length<=2/\∀ y,Go D KT (K++y) y:=by
  rcases hK with ⟨rfl,rfl⟩|⟨h1,h2,rfl⟩
  ·exact ⟨[],⟨.inl ⟨Z,Z⟩,λ d=>rfl⟩,by simp,λ y=>Go.refl⟩
  ·refine ⟨[(1,ky),(4,[44])],⟨.inr ⟨h2,Z⟩,λ d=>rfl⟩,by simp,λ y=>?_⟩;rw [n6];exact (kU (D:=D) h1 ix).trans ((jH (D:=D) (b:=44) (by decide) (by decide) _).trans Go.sp)
 have d:∃ DT:List Tok,(LpD m DT dl/\Bal DT)/\DT.length<=N3+1/\∀ y,sO y->Go D DT (td++y) y:=by
  rcases hd with ⟨rfl,rfl,rfl⟩|⟨u,x,rfl,rfl,rfl,-,U,u1,u2,u3,u4⟩
  ·exact ⟨[],⟨.inl ⟨Z,Z,Z⟩,λ d=>rfl⟩,by simp,λ y _=>Go.refl⟩
  ·exact ⟨(4,[61,62])::U,⟨.inr ⟨U,x,Z,Z,Z,u3⟩,u2.2⟩,by simp; omega,λ y hy=>(Lr (D:=D) (s:=[61,62]) (by decide) (u++y)).trans (u4 y hy)⟩
 have f:∃ FT:List Tok,(LpF FT fl/\Bal FT)/\FT.length<=N4+1/\∀ y,sO y->Go D FT (tf++y) y:=by
  rcases hf with ⟨rfl,rfl⟩|⟨u,x,rfl,rfl,-,U,u1,u2,u3,u4⟩
  ·exact ⟨[],⟨.inl ⟨Z,Z⟩,λ d=>rfl⟩,by simp,λ y _=>Go.refl⟩
  ·exact ⟨(1,[105,102])::U,⟨.inr ⟨U,x,Z,Z,u3⟩,u2.2⟩,by simp; omega,λ y hy=>(Go.sp (D:=D)).trans ((kU (D:=D) (t:=[105,102]) (y:=32::(u++y)) (by decide) ix).trans ((Go.sp (D:=D)).trans (u4 y hy)))⟩
 obtain ⟨KT,k1,k2,k3⟩:=k;obtain ⟨DT,d1,d2,d3⟩:=d;obtain ⟨FT,f1,f2,f3⟩:=f;refine ⟨KT,A,C,DT,FT,k1.1,a3,c3,d1.1,f1.1,k2,a1,c1,d2,f2,⟨k1.2,a2.2,c2.2,d1.2,f1.2⟩,λ y hy=>?_⟩;have nf:=Cp (Od hf) hy;have nd:=Cp (KH hd) nf;refine (kU (D:=D) (t:=[102,111,114]) (y:=32::(K++(nm++32::105::110::32::(ta++32::58::32::(tc++(td++(tf++y))))))) (by decide) ix).trans ((Go.sp (D:=D)).trans ((k3 _).trans ?_));refine (kU (D:=D) (t:=nm) hnm ix).trans ((Go.sp (D:=D)).trans ((kU (D:=D) (t:=[105,110]) (y:=32::(ta++32::58::32::(tc++(td++(tf++y))))) (by decide) ix).trans ((Go.sp (D:=D)).trans ?_)));refine (a4 _ ix).trans ((Go.sp (D:=D)).trans ((jH (D:=D) (b:=58) (by decide) (by decide) _).trans ((Go.sp (D:=D)).trans ?_)));exact (c4 _ nd).trans ((d3 _ nf).trans (f3 y hy))
theorem wN {m:Bool}{D N1 N2 N3 N4:Nat}{ky nm K ta tc td tf:Bk}{a c:ab}{dl fl:List ab}(hnm:bW nm=true)(hr:iO nm=false)(hK:TkK K ky)(ha:PX 0 D N1 a ta)(hc:PX 0 D N2 c tc)(hd:TkD m D N3 dl td)(hf:TkF D N4 fl tf)(at':Int) :
  PX 8 D (N1+N2+N3+N4+10) (ab.mk (if m then 13 else 12) 0 nm ky v0 ([a,c]++dl++fl) at') ((if m then 123 else 91)::102::111::114::32::(K++(nm++32::105::110::32::(ta++32::58::32::(tc++(td++(tf++[if m then 125 else 93]))))))):=by
 obtain ⟨KT,A,C,DT,FT,h1,h2,h3,h4,h5,l1,l2,l3,l4,l5,⟨b1,b2,b3,b4,b5⟩,g⟩:=T6 hnm hK ha hc hd hf;refine ⟨⟨_,_,rfl,by grind⟩,_,?_,⟨⟨_,_,rfl,by grind [bgT]⟩,?_⟩,Qv (m:=m) hr h1 h2 h3 h4 h5 at',λ y hy=>?_⟩
 ·simp; omega
 ·intro d
  cases m <;> simp [bal,kV,lpE,b1 _,b2 _,b3 _,b4 _,b5 _]
 ·simp only [n6,mv,rd]
  cases m with
  | false=>
   have:=(jH (D:=D) (b:=91) (by decide) (by decide) (102::111::114::32::(K++(nm++32::105::110::32::(ta++32::58::32::(tc++(td++(tf++93::y)))))))).trans ((g (93::y) ix).trans (jH (D:=D) (b:=93) (by decide) (by decide) y))
   grind [lpE]
  | true=>
   have:=yn (g (125::y) ix)
   grind [lpE]
theorem FD {k n:Int}(h:gb k n=some true):(k=1/\n=0)\/(k=2/\1<=n)\/(k=3/\n=0)\/(k=4/\n=1)\/(k=5/\n=2)\/(k=6/\n=1)\/(k=7/\n=2)\/(k=8/\n=3)\/k=9\/k=10\/(k=11/\n.tmod 2=0)\/(k=12/\(n=2\/n=3))\/(k=13/\(n=3\/n=4)):=by
 unfold gb ck at h;by_cases h1:k=1
 ·grind
 by_cases h2:k=2
 ·grind
 by_cases h3:k=3
 ·grind
 by_cases h4:k=4
 ·grind
 by_cases h5:k=5
 ·grind
 by_cases h6:k=6
 ·grind
 grind
theorem Ia {v:ag}(h:ik v=some true):v=v0:=by
 obtain ⟨k,n,s,l,y⟩:=v;unfold ik at h;simp only [ag.Ar,ag.G',ag.D',ag.Gw,ag.F'] at h;by_cases h1:k=0 <;> by_cases h2:n=0 <;> by_cases h3:s=[] <;> by_cases h4:l=[] <;> by_cases h5:y=[] <;> simp [h1,h2,h3,h4,h5] at h;subst h1 h2 h3 h4 h5
 rfl
theorem N7 (v:ag):∃ b,ik v=some b:=by
 unfold ik
 repeat' split
 all_goals simp_all
inductive Az:ag->Prop where
 | null:Az v0
 | bool (n:Int) (h:n=0\/n=1):Az (ag.mk 1 n [] [] [])
 | num (n:Int) (h0:0<=n) (h:n<=kO):Az (ag.mk 2 n [] [] [])
 | str (s:Bk) (h:validD s=true) (hl:s.length<=4096):Az (ag.mk 3 0 s [] [])
inductive Shp:ab->Prop where
 | lit (v:ag) (a:Int) (h:Az v):Shp (sR v a)
 | tmpl (l:List ab) (a:Int) (h:l≠[]):Shp (ab.mk 2 0 [] [] v0 l a)
 | name (s:Bk) (a:Int) (hi:bW s=true) (hr:iO s=false):Shp (ab.mk 3 0 s [] v0 [] a)
 | attr (s:Bk) (x:ab) (a:Int) (hi:bW s=true):Shp (ab.mk 4 0 s [] v0 [x] a)
 | idx (x y:ab) (a:Int):Shp (ab.mk 5 0 [] [] v0 [x,y] a)
 | un (o:Int) (x:ab) (a:Int) (h:o=1\/o=2):Shp (ab.mk 6 o [] [] v0 [x] a)
 | bin (o:Int) (x y:ab) (a:Int) (h:3<=o/\o<=15):Shp (ab.mk 7 o [] [] v0 [x,y] a)
 | cond (x y z:ab) (a:Int):Shp (ab.mk 8 0 [] [] v0 [x,y,z] a)
 | call (s:Bk) (l:List ab) (a:Int) (hi:bW s=true) (hr:iO s=false):Shp (ab.mk 9 0 s [] v0 l a)
 | list (l:List ab) (a:Int):Shp (ab.mk 10 0 [] [] v0 l a)
 | map (l:List ab) (a:Int) (h:l.length%2=0):Shp (ab.mk 11 0 [] [] v0 l a)
 | loop (m:Bool) (s y:Bk) (x c:ab) (dl fl:List ab) (a:Int) (hi:bW s=true) (hr:iO s=false) (hy:y=[]\/bW y=true/\iO y=false) (hd:m=false/\dl=[]\/m=true/\∃ d,dl=[d]) (hf:fl=[]\/∃ f,fl=[f]):Shp (ab.mk (if m then 13 else 12) 0 s y v0 ([x,c]++dl++fl) a)
theorem len1 {α:Type}{l:List α}(h:(l.length:Int)=1):∃ x,l=[x]:=by
 match l,h with
 | [x],_=>grind
 | [],h=>simp at h
 | _::_::_,h=>grind
theorem Tn {α:Type}{l:List α}(h:(l.length:Int)=2):∃ x y,l=[x,y]:=by
 match l,h with
 | [x,y],_=>grind
 | [],h=>simp at h
 | [_],h=>simp at h
 | _::_::_::_,h=>grind
theorem Ta {α:Type}{l:List α}(h:(l.length:Int)=3):∃ x y z,l=[x,y,z]:=by
 match l,h with
 | [x,y,z],_=>grind
 | [],h=>simp at h
 | [_],h=>simp at h
 | [_,_],h=>simp at h
 | _::_::_::_::_,h=>grind
theorem len4 {α:Type}{l:List α}(h:(l.length:Int)=4):∃ x y z w,l=[x,y,z,w]:=by
 match l,h with
 | [x,y,z,w],_=>grind
 | [],h=>simp at h
 | [_],h=>simp at h
 | [_,_],h=>simp at h
 | [_,_,_],h=>simp at h
 | _::_::_::_::_::_,h=>grind
theorem TA {v:ag}(hk:v.Ar=0\/v.Ar=1\/v.Ar=2\/v.Ar=3)(hn:v.Ar=2->0<=v.G')(h:uz v=0):Az v:=by
 obtain ⟨k,n,s,l,y⟩:=v;simp only [ag.Ar,ag.G'] at hk hn
 have h:(if k=1/\n≠0/\n≠1\/k≠1/\k≠2/\n≠0\/k≠3/\s≠[]\/l≠[]\/y≠[] then (1:Int)
  else if k=2/\¬(-kO<=n/\n<=kO) then 5 else if k=3/\4096<s.length then 3 else if k=3/\validD s=false then 1 else 0)=0:=h
 by_cases q:k=1/\n≠0/\n≠1\/k≠1/\k≠2/\n≠0\/k≠3/\s≠[]\/l≠[]\/y≠[]
 ·grind
 rw [if_neg q] at h;by_cases q2:k=2/\¬(-kO<=n/\n<=kO)
 ·grind
 rw [if_neg q2] at h;by_cases q3:k=3/\4096<s.length
 ·grind
 rw [if_neg q3] at h;by_cases q4:k=3/\validD s=false
 ·grind
 simp only [not_or,not_and,Decidable.not_not] at q;obtain ⟨p1,p2,p3,p4,p5⟩:=q;subst p4 p5;rcases hk with rfl|rfl|rfl|rfl
 ·cases p2 O O; cases p3 O; exact .null
 ·cases p3 O
  exact .bool n (by
   grind)
 ·cases p3 O
  simp only [true_and,Decidable.not_not] at q2;exact .num n (hn rfl) q2.2
 ·cases p2 O O
  simp only [true_and,Bool.not_eq_false] at q3 q4;exact .str s q4 O
theorem Jh {e:ab}(hb:Sz e)(h:lB e=0):Shp e:=by
 have hs:ui e=true:=by
  grind [lB]
 have h1:=uf hb;rw [hs] at h1;unfold lB at h;rw [if_neg (by grind)] at h;unfold fQ at h1;obtain ⟨zb,hz⟩:=N7 e.BY
 cases hk:gb e.Ar (e.A'.length:Int) with
 | none=>grind
 | some kb=>
  cases kb with
  | false=>grind
  | true=>
   have kf:=FD hk;rw [hk,hz] at h1;obtain ⟨k,o,n,y,v,l,a⟩:=e;simp only [ab.Ar,ab.fOp,ab.AT,ab.It,ab.BY,ab.A'] at h h1 kf hz;have hzv:zb=true->v=v0:=λ e=>Ia (by rw [hz,e]);rcases kf with ⟨rfl,hl⟩|⟨rfl,hl⟩|⟨rfl,hl⟩|⟨rfl,hl⟩|⟨rfl,hl⟩|⟨rfl,hl⟩|⟨rfl,hl⟩|⟨rfl,hl⟩|rfl|rfl|⟨rfl,hl⟩|⟨rfl,hl⟩|⟨rfl,hl⟩
   · -- literals
    have hl:l=[]:=by simp_all
    subst hl;have h:uz v=0:=by grind
    by_cases ky:y=[]
    ·by_cases nm:n=[]
     ·subst ky nm;by_cases ho:o=0
      ·subst ho;refine .lit v a (TA ?_ ?_ h)
       ·by_cases q0:v.Ar=0
        ·grind
        by_cases q1:v.Ar=1
        ·grind
        by_cases q3:v.Ar=3
        ·grind
        by_cases q2:v.Ar=2
        ·grind
        simp_all [a6,bB]
       ·intro q2;simp [a6,bB,q2] at h1
        grind
      simp_all [a6,bB]
     simp_all [a6,bB]
    simp_all [a6]
   ·have hy:y=[]:=by by_cases q:y=[] <;> first|exact q|simp_all [a6]
    have hn:n=[]:=by by_cases q:n=[] <;> first|exact q|simp_all [a6,bB]
    subst hy hn;simp [a6,bB] at h1
    cases hzv (by grind)
    have ho:o=0:=by grind
    subst ho;exact .tmpl l a (by grind)
   ·have hl:l=[]:=by simp_all
    have hy:y=[]:=by by_cases q:y=[] <;> first|exact q|simp_all [a6]
    subst hy hl;simp [a6,bB] at h1 h
    cases hzv (by grind)
    have ho:o=0:=by grind
    subst ho;exact .name n a h.1 h.2
   ·obtain ⟨x,rfl⟩:=len1 hl;have hy:y=[]:=by by_cases q:y=[] <;> first|exact q|simp_all [a6]
    subst hy;simp [a6,bB] at h1 h
    cases hzv (by grind)
    have ho:o=0:=by grind
    subst ho;exact .attr n x a h
   ·obtain ⟨x,z,rfl⟩:=Tn hl;have hy:y=[]:=by by_cases q:y=[] <;> first|exact q|simp_all [a6]
    have hn:n=[]:=by by_cases q:n=[] <;> first|exact q|simp_all [a6,bB]
    subst hy hn;simp [a6,bB] at h1
    cases hzv (by grind)
    have ho:o=0:=by grind
    subst ho;exact .idx x z a
   ·obtain ⟨x,rfl⟩:=len1 hl;have hy:y=[]:=by by_cases q:y=[] <;> first|exact q|simp_all [a6]
    have hn:n=[]:=by by_cases q:n=[] <;> first|exact q|simp_all [a6,bB]
    subst hy hn;simp [a6,bB] at h1
    cases hzv (by grind)
    refine .un o x a ?_
    grind
   ·obtain ⟨x,z,rfl⟩:=Tn hl;have hy:y=[]:=by by_cases q:y=[] <;> first|exact q|simp_all [a6]
    have hn:n=[]:=by by_cases q:n=[] <;> first|exact q|simp_all [a6,bB]
    subst hy hn;simp [a6,bB] at h1
    cases hzv (by grind)
    refine .bin o x z a ?_
    grind
   ·obtain ⟨x,z,w,rfl⟩:=Ta hl;have hy:y=[]:=by by_cases q:y=[] <;> first|exact q|simp_all [a6]
    have hn:n=[]:=by by_cases q:n=[] <;> first|exact q|simp_all [a6,bB]
    subst hy hn;simp [a6,bB] at h1
    cases hzv (by grind)
    have ho:o=0:=by grind
    subst ho;exact .cond x z w a
   ·have hy:y=[]:=by by_cases q:y=[] <;> first|exact q|simp_all [a6]
    subst hy;simp [a6,bB] at h1 h
    cases hzv (by grind)
    have ho:o=0:=by grind
    subst ho;exact .call n l a h.1 h.2
   ·have hy:y=[]:=by by_cases q:y=[] <;> first|exact q|simp_all [a6]
    have hn:n=[]:=by by_cases q:n=[] <;> first|exact q|simp_all [a6,bB]
    subst hy hn;simp [a6,bB] at h1
    cases hzv (by grind)
    have ho:o=0:=by grind
    subst ho;exact .list l a
   ·have hy:y=[]:=by by_cases q:y=[] <;> first|exact q|simp_all [a6]
    have hn:n=[]:=by by_cases q:n=[] <;> first|exact q|simp_all [a6,bB]
    subst hy hn;simp [a6,bB] at h1
    cases hzv (by grind)
    have ho:o=0:=by grind
    subst ho;refine .map l a ?_
    grind
   ·simp [a6,bB] at h1 h
    cases hzv (by grind)
    have ho:o=0:=by grind
    subst ho
    have hi:bW n=true/\iO n=false:=by
     grind
    have hy:y=[]\/bW y=true/\iO y=false:=by
     grind
    rcases hl with hl|hl
    ·obtain ⟨x,z,rfl⟩:=Tn hl;exact .loop false n y x z [] [] a hi.1 hi.2 hy (.inl ⟨rfl,rfl⟩) (.inl rfl)
    ·obtain ⟨x,z,w,rfl⟩:=Ta hl;exact .loop false n y x z [] [w] a hi.1 hi.2 hy (.inl ⟨rfl,rfl⟩) (.inr ⟨w,rfl⟩)
   ·simp [a6,bB] at h1 h
    cases hzv (by grind)
    have ho:o=0:=by grind
    subst ho
    have hi:bW n=true/\iO n=false:=by
     grind
    have hy:y=[]\/bW y=true/\iO y=false:=by
     grind
    rcases hl with hl|hl
    ·obtain ⟨x,z,w,rfl⟩:=Ta hl;exact .loop true n y x z [w] [] a hi.1 hi.2 hy (.inr ⟨rfl,w,rfl⟩) (.inl rfl)
    ·obtain ⟨x,z,w,u,rfl⟩:=len4 hl;exact .loop true n y x z [w] [u] a hi.1 hi.2 hy (.inr ⟨rfl,w,rfl⟩) (.inr ⟨u,rfl⟩)
def sgnL:List Bk:=[[],[33],[45],[124,124],[38,38],[61,61],[33,61],[60],[60,61],[62],[62,61],[43],[45],[42],[47],[37]]
def opX (o:Int):Bk:=lat sgnL o
def lvX (e:ab):Nat:=if e.Ar=8 then 0 else if e.Ar=6 then 7 else if e.Ar≠7 then 8 else if e.fOp=3 then 1 else if e.fOp=4 then 2 else if e.fOp=5\/e.fOp=6 then 3 else if e.fOp=7\/e.fOp=8\/e.fOp=9\/e.fOp=10 then 4 else if e.fOp=11\/e.fOp=12 then 5 else 6
def prt (all:Bool)(n:Nat)(x:ab)(t:Bk):Bk:=if all=true\/lvX x<n then 40::(t++[41]) else t
def HI (v:ag):Bk :=if v.Ar=1 then (if v.G'=1 then [116,114,117,101] else [102,97,108,115,101])else if v.Ar=2 then itoa v.G' else if v.Ar=3 then 34::(quo v.D'++[34])else [110,117,108,108]
def pX (all:Bool)(n:Nat)(ks:List ab)(ts:List Bk)(i:Nat):Bk:=prt all n (ks.getD i e0) (ts.getD i [])
def lpX (all:Bool)(m:Bool)(nm ky:Bk)(ks:List ab)(ts:List Bk):Bk :=102::111::114::32::((if ky=[] then [] else ky++[44,32])++(nm++32::105::110::32::(pX all 0 ks ts 0++32::58::32::(pX all 0 ks ts 1 ++ ((if m then 32::61::62::32::pX all 0 ks ts 2 else [])++((if (if m then 3 else 2)<ks.length then 32::105::102::32::pX all 0 ks ts (if m then 3 else 2) else [])++[if m then 125 else 93]))))))
inductive VE:Nat->ab->Prop where
 | mk {lv:Nat} {e:ab} (h:lv<=32) (s:Shp e) (c:chk e=0) (b:e.A'.length<=4000000000) (k:∀ x∈e.A',VE (lv+1) x):VE lv e
theorem R9 {all:Bool}{n D N:Nat}{x:ab}{t:Bk}(hn:n<=8)(h:PX (lvX x) D N x t)(hl:lvX x<=8):PX n D (N+2) x (prt all n x t):=by
 unfold prt;split
 ·exact (K3 (h.weak (ph _) hl)).weak hn O
 ·rename_i q;exact (h.weak O hl).mono (bt _) O
theorem pW (e:ab):lvX e<=8:=by
 unfold lvX
 repeat' split
 all_goals omega
theorem yZ {v:Int}(h0:0<=v):itoa v≠[]/\∀ z∈itoa v,hQ z=true:=by
 obtain ⟨u,rfl⟩:∃ u:Nat,v=u:=⟨v.toNat,by omega⟩
 have e:itoa (u:Int)=decDigits u:=by unfold itoa; rw [if_neg O]; simp
 obtain ⟨a1,a2,a3,a4,a5⟩:=Hd (u+1) u O;rw [e];exact ⟨a3,λ z hz=>by rw [sm] at a2; exact a2 z hz⟩
theorem RN {v:ag}(h:Az v)(a:Int)(D:Nat):PX 8 D 1 (sR v a) (HI v):=by
 cases h with
 | null=>exact AN a D (.inl ⟨Z,Z⟩)
 | bool n hn=>
  rcases hn with rfl|rfl
  ·exact AN a D (.inr (.inr ⟨Z,Z⟩))
  ·exact AN a D (.inr (.inl ⟨Z,Z⟩))
 | num n h0 h1=>exact TU (yZ h0).1 (yZ h0).2 (IE n h0 h1) a D
 | str s hs hl=>exact Ms (yi hs hl a).1 ((yi hs hl a).2 D)
theorem O9 (all:Bool)(n:Nat)(x:ab)(t:Bk):t.length<=(prt all n x t).length:=by
 unfold prt;split
 ·simp; omega
 ·exact bt _
theorem dA (e:ab):1<=cQ e:=by rw [lr]; omega
theorem lE {x:ab}:∀ {l:List ab},x∈l->cQ x<=cC l
 | y::l,h=>by
  simp only [cC];rcases qr.1 h with rfl|h
  ·omega
  ·have:=lE h; omega
theorem MM (l:List ab):(l.map λ x=>20*cQ x-5+3).sum<=20*cC l:=by
 induction l with
 | nil=>simp
 | cons x l ih=>
  have:=dA x;simp only [n7,List.sum_cons,cC]; omega
theorem kq {n D N M:Nat}{e:ab}{t:Bk}(h:PX n D N e t)(hN:N<=M):PX n D M e t:=h.mono (bt _) hN
theorem Sl:∀ o:Fin 16,3<=o.val->∃ j,j<=5/\lvX (ab.mk 7 (o.val:Int) [] [] v0 [] 0)=j+1/\(opX (o.val:Int),(o.val:Int))∈sN j:=by decide +kernel
theorem H4 {v:Bk}(h:UV v):∀ w,v=w++[36]->UV w:=by
 induction h with
 | nil=>simp_all
 | @lo b r hb hr ih=>
  intro w e
  cases w with
  | nil=>exact .nil
  | cons c w=>
   rw [mv] at e
   injection e with e1 e2
   subst e1;exact .lo hb (ih w e2)
 | @hi u r c hu ha hd hc hn hr ih=>
  intro w e;rcases List.eq_nil_or_concat r with rfl|⟨r',z,rfl⟩
  ·rw [List.append_nil] at e;have:=ha 36 (by grind)
   grind
  ·rw [List.concat_eq_append] at e ih;rw [<- n6] at e;obtain ⟨e1,e2⟩:=List.append_inj' e rfl;have hz:z=36:=by grind
   subst hz;rw [<- e1];exact .hi hu ha hd hc hn (ih r' rfl)
theorem SF (y:Bk):Pc [36] (92::117::123::50::52::125::y) y:=by
 have hp:=vo y [123,50,52,125] (by decide);have hd:=decodeL_ascii 117 (123::50::52::125::y) (by decide);refine ⟨λ k=>?_,?_,by grind,1,λ f frm pos text parts Vo hl=>?_⟩
 ·grind [lK,sW,mC]
 ·grind [jY]
 ·have hi:lQ (92::117::123::50::52::125::y)=.inr ([36],6):=by
   have hx:jC (50::52::125::y)=(36,3,0):=Cc 36 (by decide) y
   have hr:em (117::123::50::52::125::y)=(36,5,0):=by
    grind [oD]
   rw [sA,if_pos (by decide),hr,if_pos rfl]; rfl
  have e1:(92::117::123::50::52::125::y).length-y.length=6:=by grind
  simp_all [ue,if_neg,sW]
def qA (v:Bk)(last:Bool):Bk:=if last=false/\v.getLast? = some 36 then quo v.dropLast++[92,117,123,50,52,125] else quo v
theorem GK {v:Bk}(hv:UV v)(last:Bool){y:Bk}(hy:y.head?≠some 123)(hl:last=true->hasPrefix y [36,123]=false):Pc v (qA v last++y) y:=by
 unfold qA;split
 ·rename_i q
  obtain ⟨w,rfl⟩:∃ w,v=w++[36]:=by
   rcases List.eq_nil_or_concat v with rfl|⟨w,z,rfl⟩
   ·simp at q
   grind
  have hw:=H4 hv w rfl;have e:(w++[36]).dropLast=w:=by simp
  rw [e,n6];exact (rE _ w (92::117::123::50::52::125::y) (bt _) hw G Y).trans (SF y)
 ·rename_i q;refine rE _ v y (bt _) hv hy λ h=>?_
  grind
def kC (e:ab):Bool:=decide (e.Ar=1)&&decide (e.BY.Ar=3)&&!decide (e.BY.D'=[])
def tmF (big:Bool):List (ab×Bk)->Bool->Bk|[],_=>[]|p::r,b=>if (kC p.1&&!b&&big)=true then qA p.1.BY.D' r.isEmpty++tmF big r true else 36::123::(p.2++125::tmF big r false)
theorem wU (big:Bool)(r:List (ab×Bk))(y:Bk):(r=[]/\tmF big r true++y=y)\/(r≠[]/\∃ z,tmF big r true++y=36::123::z):=by
 cases r with
 | nil=>exact .inl ⟨Z,Z⟩
 | cons p r=>
  simp_all [tmF]
def HN (D N:Nat)(p:ab×Bk):Prop:=PX 0 D N p.1 p.2/\(kC p.1=true->p.1=p9 p.1.BY.D' p.1.fAt/\UV p.1.BY.D'/\p.1.BY.D'.length<=4096)
theorem Bh {D N:Nat}(big:Bool):∀ (l:List (ab×Bk)) (b:Bool),(∀ p∈l,HN D N p)->qy (D+1) (tmF big l b)
 | [],_,_=>⟨λ k y _=>by grind [tmF,lK],λ y=>by grind [tmF,jY]⟩
 | p::l,b,h=>by
  have hp:=h p th;have hl:∀ q∈l,HN D N q:=(by grind)
  unfold tmF;by_cases q:(kC p.1&&!b&&big)=true
  ·rw [if_pos q];obtain ⟨-,hv,-⟩:=hp.2 (by grind);obtain ⟨i1,i2⟩:=Bh big l true hl
   have hpc:∀ y,Pc p.1.BY.D' (qA p.1.BY.D' l.isEmpty++(tmF big l true++34::y)) (tmF big l true++34::y):=λ y=>by
    refine GK hv _ ?_ ?_
    ·grind [wU]
    ·intro hl;rcases wU big l (34::y) with ⟨rfl,e⟩|⟨hn,-⟩
     ·rw [e]; rfl
     grind
   refine ⟨λ k y hk=>?_,λ y=>?_⟩
   ·rw [n6,(hpc y).s k]; grind
   ·rw [n6,(hpc y).q]; exact i2 y
  ·rw [if_neg q];obtain ⟨i1,i2⟩:=Bh big l false hl;refine ⟨λ k y hk=>?_,λ y=>?_⟩
   ·obtain ⟨d1,d2⟩:=Ba (123::(p.2++125::tmF big l false++34::y)) rfl;simp only [mv,n6] at d1 d2 ⊢;rw [lK,if_neg (by decide),if_neg (by grind),if_pos d2,if_neg O];show (match sP (k+1) 1 (p.2++125::(tmF big l false++34::y)) with|.inl e=>(.inl e:SE⊕Bk)|.inr l=>qK k l)=_;rw [Sc hp.1 _ O]
    grind
   ·obtain ⟨d1,d2⟩:=Ba (123::(p.2++125::tmF big l false++34::y)) rfl;simp only [mv,n6] at d1 d2 ⊢;rw [jY,if_neg (by decide),if_neg (by decide),if_neg (by grind),if_pos d2];show (match nE 1 (p.2++125::(tmF big l false++34::y)) with|none=>none|some none=>some none|some (some r')=>nS r')=_;rw [FQ hp.1];exact i2 y
theorem Hp {α:Type}{p q:Nat->Option α}{r:α}{j:Nat}(h:∀ f,q (f+j)=p f)(k:Ans p r):Ans q r:=by
 obtain ⟨N,k⟩:=k;refine ⟨N+j,λ f hf=>?_⟩;obtain ⟨g,rfl⟩:∃ g,f=g+j:=⟨f-j,by omega⟩
 grind
theorem Tz {v:Bk}(h:v≠[]):quo v≠[]:=by
 cases v with
 | nil=>grind
 | cons b r=>
  grind [rv,uw]
theorem Nj {v:Bk}(h:v≠[])(last:Bool):qA v last≠[]:=by
 unfold qA;split
 ·simp
 ·exact Tz h
def ER (big:Bool):List (ab×Bk)->Bool->Bool|[],_=>false|p::r,b=>if (kC p.1&&!b&&big)=true then ER big r true else true
theorem Hw {big:Bool}{l:List (ab×Bk)}(hl:l≠[])(hb:big=true->1<l.length):ER big l false=true:=by
 cases l with
 | nil=>grind
 | cons p r=>
  unfold ER;split
  ·rename_i q;simp only [py] at q;have:=hb q.2
   cases r with
   | nil=>grind
   | cons p2 r2=>simp [ER]
  ·rfl
theorem xa {D N:Nat}(hD:D<=32)(hN:N<16384)(big:Bool):∀ (l:List (ab×Bk)) (b:Bool),(∀ p∈l,HN D N p/\p.2.length<=65536)->∀ (frm pos:Int) (text:Bk),(b=true->frm<pos)->(b=false->text=[]/\frm=pos) ->
  ∃ es',F2 (RE λ _ _=>True) (l.map (·.1)) es'/\∀ parts Vo,∃ frm' pos' text' parts',Ans (λ f=>ii f frm pos text parts Vo (tmF big l b)) (.inr (frm',pos',text',parts',Vo||ER big l b))/\flS frm' pos' text' parts'=flS frm pos text parts++es'
 | [],b,_,frm,pos,text,_,_=>⟨[],.nil,λ parts Vo=>⟨frm,pos,text,parts,eV ⟨0,λ f _=>by show ii (f+1) frm pos text parts Vo []=_; rw [ii]; simp [ER]⟩,by simp⟩⟩
 | p::l,b,h,frm,pos,text,hb1,hb2=>by
  obtain ⟨hp,hpl⟩:=h p th;have hl:∀ q∈l,HN D N q/\q.2.length<=65536:=(by grind)
  unfold tmF ER;by_cases q:(kC p.1&&!b&&big)=true
  ·rw [if_pos q,if_pos q];simp only [py,Bool.not_eq_true'] at q;obtain ⟨⟨q1,q2⟩,q3⟩:=q;subst q2;obtain ⟨rfl,rfl⟩:=hb2 rfl;obtain ⟨he,hv,hvl⟩:=hp.2 q1
   have Vs:p.1.BY.D'≠[]:=by
    grind [kC]
   have hpc:Pc p.1.BY.D' (qA p.1.BY.D' l.isEmpty++tmF big l true) (tmF big l true):=by
    have hnx:=wU big l [];rw [List.append_nil] at hnx;refine GK hv _ ?_ ?_
    ·grind
    ·intro hl;rcases hnx with ⟨rfl,e⟩|⟨hn,-⟩
     ·rw [e]; rfl
     grind
   obtain ⟨j,hr⟩:=hpc.r
   have hlt:0<(qA p.1.BY.D' l.isEmpty++tmF big l true).length-(tmF big l true).length:=by
    grind [List.length_pos_iff,Nj]
   generalize hn:(qA p.1.BY.D' l.isEmpty++tmF big l true).length-(tmF big l true).length=n at hr hlt;obtain ⟨es',e1,e2⟩:=xa hD hN big l true hl frm (frm+(n:Int)) p.1.BY.D' (λ _=>by omega) (λ h=>by cases h);have h2:EQV (p9 p.1.BY.D' p.1.fAt) (p9 p.1.BY.D' frm):=og .nil (ph _);rw [<- he] at h2;refine ⟨p9 p.1.BY.D' frm::es',.cons h2 e1,λ parts Vo=>?_⟩;obtain ⟨f',p',t',ps',a1,a2⟩:=e2 parts Vo;refine ⟨f',p',t',ps',Hp (j:=j) (λ f=>?_) a1,?_⟩
   ·grind
   grind [flS]
  ·rw [if_neg q,if_neg q];obtain ⟨e',q1,Fw,q2⟩:=Cu hp.1 hD hN hpl (pos+2);generalize hy:tmF big l false=y;obtain ⟨es',p1,p2⟩:=xa hD hN big l false hl (pos+(((36:UInt8)::123::(p.2++125::y)).length-y.length:Nat)) (pos+(((36:UInt8)::123::(p.2++125::y)).length-y.length:Nat)) [] (λ h=>by cases h) (λ _=>⟨rfl,rfl⟩);rw [hy] at p2;refine ⟨e'::es',.cons q1 p1,λ parts Vo=>?_⟩;obtain ⟨f',p',t',ps',⟨F,a1⟩,a2⟩:=p2 (flS frm pos text parts++[e']) true;refine ⟨f',p',t',ps',eV ⟨F+Fw+(p.2++125::y).length+1,λ f hf=>?_⟩,?_⟩
   ·obtain ⟨d1,d2⟩:=Ba (123::(p.2++125::y)) rfl;show ii (f+1) frm pos text parts Vo (36::123::(p.2++125::y))=_;rw [ue,if_neg (by grind),if_pos d2]
    show (match fU f 1 (p.2++125::y) with
     | none=>none
     | some none=>some (.inl (40,pos))
     | some (some r')=>match ll f ((p.2++125::y).take ((p.2++125::y).length-r'.length-1)) (pos+2) with
      | none=>none
      | some (.inl e)=>some (.inl e)
      | some (.inr e)=>ii f (pos+(((36:UInt8)::123::(p.2++125::y)).length-r'.length:Nat)) (pos+(((36:UInt8)::123::(p.2++125::y)).length-r'.length:Nat)) [] (flS frm pos text parts++[e]) true r':Option (PE⊕(Int×Int×Bk×List ab×Bool)))=_
    rw [qk O,FQ hp.1];simp only
    rw [show (p.2++125::y).take ((p.2++125::y).length-y.length-1)=p.2 by
     rw [show (p.2++125::y).length-y.length-1=p.2.length by grind,List.take_left],show ll f p.2 (pos+2)=_ from q2 f O]
    grind
   grind [flS]
theorem M4 {D N:Nat}(hD:D<=32)(hN:N<16384){big:Bool}{l:List (ab×Bk)}(hl:l≠[])(hb:big=true->1<l.length)(h:∀ p∈l,HN D N p/\p.2.length<=65536){a:Int}(Pn:l.length<=4000000000)(hc:chk (ab.mk 2 0 [] [] v0 (l.map (·.1)) a)=0):TM (tmF big l false) (ab.mk 2 0 [] [] v0 (l.map (·.1)) a):=by
 intro at';obtain ⟨es',p1,p2⟩:=xa hD hN big l false h at' at' [] (λ h=>by cases h) (λ _=>⟨rfl,rfl⟩);have hq:EQV (ab.mk 2 0 [] [] v0 (l.map (·.1)) a) (ab.mk 2 0 [] [] v0 es' at'):=og p1 (by grind);refine ⟨_,hq,eV ?_⟩;obtain ⟨f',p',t',ps',⟨F,a1⟩,a2⟩:=p2 [] false;refine ⟨F,λ f hf=>?_⟩
 grind [Hw,qt,xR,flS,uy,QH]
theorem E5 (h:p:=by
 cases hk x hx with
 | mk _ s _ _ _=>exact s):p:=h
theorem qS (h:p:=by grind [cC]):p:=h
def itF:List Bk->Bk|[]=>[]|[t]=>t|t::u::r=>t++44::32::itF (u::r)
def vF (k:ab)(t:Bk):Bk:=if k.Ar=1/\k.BY.Ar=3 then (if bW k.BY.D'=true/\iO k.BY.D'=false then k.BY.D' else t) else if k.Ar=2 then t else 40::(t++[41])
def enF:List ab->List Bk->Bk|[k,_],[t,u]=>vF k t++32::61::32::u|k::_::r,t::u::q=>vF k t++32::61::32::(u++44::32::enF r q)|_,_=>[]
def jM (e:ab)(ts:List Bk):Bk :=if e.Ar=1 then HI e.BY else if e.Ar=2 then 34::(tmF (decide (1<e.A'.length)) (e.A'.zip ts) false++[34])else if e.Ar=3 then e.AT else if e.Ar=4 then pX false 8 e.A' ts 0++46::e.AT else if e.Ar=5 then pX false 8 e.A' ts 0++91::(pX false 0 e.A' ts 1++[93])else if e.Ar=6 then opX e.fOp++pX false 7 e.A' ts 0 else if e.Ar=7 then pX false (lvX e) e.A' ts 0++32::(opX e.fOp++32::pX false (lvX e+1) e.A' ts 1)else if e.Ar=8 then pX false 1 e.A' ts 0++32::63::32::(pX false 0 e.A' ts 1++32::58::32::pX false 0 e.A' ts 2)else if e.Ar=9 then e.AT++40::(itF ts++[41])else if e.Ar=10 then 91::(itF ts++[93])else if e.Ar=11 then 123::(enF e.A' ts++[125])else if e.Ar=12 then 91::lpX false false e.AT e.It e.A' ts else 123::lpX false true e.AT e.It e.A' ts
mutual
def bw:ab->Bk|.mk k o n y v l a=>jM (.mk k o n y v l a) (De l)
def De:List ab->List Bk|[]=>[]|x::r=>bw x::De r
end
theorem B9:∀ l,De l=l.map bw
 | []=>by rw [De]; rfl
 | x::r=>by rw [De,B9 r]; rfl
theorem uI (e:ab):bw e=jM e (e.A'.map bw):=by
 cases e
 rw [bw,B9]; rfl
theorem zipF (l:List ab):l.zip (l.map bw)=l.map λ x=>(x,bw x):=by
 induction l with
 | nil=>rfl
 | cons x r ih=>simp_all
def QK (D:Nat)(e:ab)(t:Bk):Prop:=e.Ar=2->∃ s,t=34::(s++[34])/\TM s e/\qy D s
theorem qy.mono {D E:Nat}{s:Bk}(h:qy D s)(hD:D<=E):qy E s:=⟨λ k y hk=>h.1 k y O,h.2⟩
theorem QK.mono {D E:Nat}{e:ab}{t:Bk}(h:QK D e t)(hD:D<=E):QK E e t:=λ k=>by
 obtain ⟨s,h1,h2,h3⟩:=h k;exact ⟨s,h1,h2,h3.mono hD⟩
theorem EF {x:ab}(hs:Shp x)(q:kC x=true):∃ s a,x=p9 s a/\validD s=true/\s.length<=4096:=by
 simp only [kC,py,decide_eq_true_eq] at q
 cases hs with
 | lit v a hv=>
  cases hv with
  | str s hs hl=>exact ⟨s,a,Z,hs,hl⟩
  | null=>exact absurd (show (0:Int)=3 from q.1.2) (by decide)
  | bool n hn=>exact absurd (show (1:Int)=3 from q.1.2) (by decide)
  | num n h0 h1=>exact absurd (show (2:Int)=3 from q.1.2) (by decide)
 | loop m=>grind [ab.Ar]
 | _=>grind [ab.Ar]
theorem Uz {x:ab}(hs:Shp x)(q:kC x=true):x=p9 x.BY.D' x.fAt/\UV x.BY.D'/\x.BY.D'.length<=4096:=by
 obtain ⟨s,a,rfl,h1,h2⟩:=EF hs q;exact ⟨rfl,uC _ s (bt _) h1,h2⟩
theorem pO:∀ s:Bk,(nK s).length<=2*s.length
 | []=>by simp [nK]
 | b::r=>by
  have:=pO r
  grind [nK]
theorem SR {x:ab}(hs:Shp x)(q:kC x=true):(HI x.BY).length<=50000:=by
 obtain ⟨s,a,rfl,h1,h2⟩:=EF hs q;have h3:=pO s;have h4:=jQ (nK s);show (34::(quo s++[34])).length<=50000
 grind [quo]
theorem AL {big:Bool}{x:ab}{f:ab->Bk}(hq:kC x=false):∀ {l:List ab} {b:Bool},x∈l->(f x).length<=(tmF big (l.map λ x=>(x,f x)) b).length
 | y::l,b,h=>by
  simp only [n7,tmF];rcases qr.1 h with rfl|h
  ·grind
  ·split
   ·have:=AL (big:=big) (f:=f) hq (b:=true) h
    grind
   ·have:=AL (big:=big) (f:=f) hq (b:=false) h
    grind
theorem zR {x:ab}{f:ab->Bk}:∀ {l:List ab},x∈l->(f x).length<=(itF (l.map f)).length
 | [y],h=>by
  rw [List.mem_singleton.1 h]; exact bt _
 | y::z::l,h=>by
  simp only [n7,itF,aq,n8];rcases qr.1 h with rfl|h
  ·omega
  ·have:=zR (f:=f) h
   grind
theorem DU {z:UInt8}(hz:clZ z=true){D:Nat}{f:ab->Bk}{w:ab->Nat}:∀ {l:List ab},(∀ x∈l,PX 0 D (w x) x (f x))->PI z D ((l.map λ x=>w x+3).sum+1) l (itF (l.map f))
 | [],_=>Tm hz D
 | [x],h=>(QE hz (h x th)).mono G
 | x::y::l,h=>by
  have h2:=DU hz (l:=y::l) (λ y hy=>h y (List.mem_cons_of_mem _ hy));exact (Po hz (h x th) h2).mono (by grind)
theorem FZ {D N:Nat}{k:ab}(hs:Shp k)(h:PX (lvX k) D N k (bw k))(hq:QK D k (bw k)):PK D (N+2) k (vF k (bw k)):=by
 have up:∀ {t:Bk},PK D 1 k t->PK D (N+2) k t:=λ {t} hp=>by
  obtain ⟨ts,h1,h2,h3⟩:=hp;exact ⟨ts,by omega,h2,h3⟩
 unfold vF;by_cases q:k.Ar=1/\k.BY.Ar=3
 ·rw [if_pos q]
  cases hs with
  | lit v a hv=>
   cases hv with
   | str s hs hl=>
    split
    ·rename_i r;exact up (QB (s:=s) r.1 (by rintro rfl; exact absurd (show iO [102,111,114]=false from r.2) (by decide)) a D)
    ·have e:bw (sR (ag.mk 3 0 s [] []) a)=34::(quo s++[34]):=by rw [uI]; rfl
     rw [e];exact up (Lg (yi hs hl a).1 ((yi hs hl a).2 D))
   | null=>exact absurd (show (0:Int)=3 from q.2) (by decide)
   | bool n hn=>exact absurd (show (1:Int)=3 from q.2) (by decide)
   | num n h0 h1=>exact absurd (show (2:Int)=3 from q.2) (by decide)
  | loop m=>grind [ab.Ar]
  | _=>grind [ab.Ar]
 ·rw [if_neg q];split
  ·rename_i r;obtain ⟨s,e,h1,h2⟩:=hq r
   grind [Lg]
  ·exact Lt (h.weak (ph _) (pW k))
theorem Do {k:ab}(hs:Shp k):(bw k).length<=(vF k (bw k)).length\/(bw k).length<=50000:=by
 unfold vF;by_cases q:k.Ar=1/\k.BY.Ar=3
 ·refine .inr ?_
  cases hs with
  | lit v a hv=>
   cases hv with
   | str s hs hl=>
    have e:bw (sR (ag.mk 3 0 s [] []) a)=34::(quo s++[34]):=by rw [uI]; rfl
    grind [pO,jQ,quo]
   | null=>exact absurd (show (0:Int)=3 from q.2) (by decide)
   | bool n hn=>exact absurd (show (1:Int)=3 from q.2) (by decide)
   | num n h0 h1=>exact absurd (show (2:Int)=3 from q.2) (by decide)
  | loop m=>grind [ab.Ar]
  | _=>grind [ab.Ar]
 grind
theorem JH {D:Nat}{w:ab->Nat}:∀ (l:List ab),l.length%2=0->(∀ x∈l,Shp x)->(enF l (l.map bw)).length<=65536->(∀ x∈l,(bw x).length<=65536->Shp x/\PX (lvX x) D (w x) x (bw x)/\QK D x (bw x))->PN D ((l.map λ x=>w x+3).sum) l (enF l (l.map bw))
 | [],_,_,_,_=>Ti D
 | [_],h,_,_,_=>by simp at h
 | [k,x],_,hs,hl,h=>by
  simp only [n7,List.map_nil,enF,n8,aq] at hl ⊢;have hkl:(bw k).length<=65536:=by grind [Do]
  obtain ⟨k1,k2,k3⟩:=h k G hkl;obtain ⟨x1,x2,x3⟩:=h x G O;exact (OP (FZ k1 k2 k3) (x2.weak (ph _) (pW x))).mono (by grind)
 | k::x::y::l,he,hs,hl,h=>by
  simp only [n7,enF,n8,aq] at hl ⊢;have hkl:(bw k).length<=65536:=by grind [Do]
  obtain ⟨k1,k2,k3⟩:=h k G hkl;obtain ⟨x1,x2,x3⟩:=h x G O;have h2:=JH (w:=w) (y::l) (by grind) (by grind) (by grind) (λ z hz=>h z (List.mem_cons_of_mem _ (List.mem_cons_of_mem _ hz)));simp only [n7,List.sum_cons] at h2 ⊢;exact (O5 (FZ k1 k2 k3) (x2.weak (ph _) (pW x)) h2).mono O
theorem Ge:∀ (lv:Nat) (e:ab),VE lv e->cQ e<=800->(bw e).length<=65536->PX (lvX e) (32-lv) (20*cQ e-5) e (bw e)/\QK (32-lv) e (bw e):=by
 intro lv e h
 induction h with
 | @mk lv e h hs hc hb hk ih=>
  intro hn Pn;rw [uI] at Pn ⊢;rw [lr] at hn ⊢;have IH:∀ x∈e.A',(bw x).length<=65536->PX (lvX x) (32-lv) (20*cQ x-5) x (bw x):=λ x hx hl=>(ih x hx (by have:=lE hx; omega) hl).1.mono (by grind) (bt _);have IQ:∀ x∈e.A',(bw x).length<=65536->QK (32-lv) x (bw x):=λ x hx hl=>((ih x hx (by have:=lE hx; omega) hl).2).mono (by grind);have IP:∀ n,n<=8->∀ x∈e.A',(prt false n x (bw x)).length<=65536->PX n (32-lv) (20*cQ x-5+2) x (prt false n x (bw x)):=λ n hn x hx hl=>R9 (all:=false) hn (IH x hx (Nat.le_trans (O9 false n x _) hl)) (pW x)
  cases hs with
  | lit v a hv=>exact ⟨kq (RN hv a _) O,λ h=>absurd (show (1:Int)=2 from h) (by decide)⟩
  | tmpl l a Vs=>
   have hl:(ab.mk 2 0 [] [] v0 l a).A'=l:=rfl;rw [hl] at Pn hn hk hb ih ⊢
   have hlv:lv+1<=32:=by
    obtain ⟨x,r,rfl⟩:∃ x r,l=x::r:=by cases l with
     | nil=>grind
     | cons x r=>grind
    have:=hk x th
    cases this with
    | mk h _ _ _ _=>exact h
   have hz:=zipF l;have h1:(l.map λ x=>(x,bw x)).map (·.1)=l:=by rw [List.map_map]; exact List.map_id _
   have hcm:jM (ab.mk 2 0 [] [] v0 l a) (l.map bw)=34::(tmF (decide (1<l.length)) (l.map λ x=>(x,bw x)) false++[34]):=by
    rw [<- hz]; rfl
   rw [hcm] at Pn ⊢
   have hp:∀ p∈l.map (λ x=>(x,bw x)),HN (32-(lv+1)) (20*cC l) p/\p.2.length<=65536:=by
    intro p hp;obtain ⟨x,hx,rfl⟩:=List.mem_map.1 hp
    have hsx:Shp x:=by
     exact E5
    have h3:(bw x).length<=65536:=by
     by_cases q:kC x=true
     ·grind [SR,uI,jM,kC]
     ·have:=AL (big:=decide (1<l.length)) (x:=x) (f:=bw) (b:=false) (by grind) hx
      grind
    have h4:=lE hx;have h5:=dA x;refine ⟨⟨kq (((ih x hx O h3).1).weak (ph _) (pW x)) O,λ q=>Uz hsx q⟩,h3⟩
   have st:=Bh (decide (1<l.length)) (l.map λ x=>(x,bw x)) false λ p hpp=>(hp p hpp).1;have tm:=M4 (D:=32-(lv+1)) (N:=20*cC l) (a:=a) (big:=decide (1<l.length)) O O  (l:=l.map λ x=>(x,bw x)) (by grind) G hp (by grind) (by grind);rw [h1] at tm;have st:qy (32-lv) (tmF (decide (1<l.length)) (l.map λ x=>(x,bw x)) false):=by rw [show 32-lv=32-(lv+1)+1 by omega]; exact st
   exact ⟨kq (Ms tm st) O,λ _=>⟨_,Z,tm,st⟩⟩
  | name s a hi hr=>exact ⟨kq (QF hi hr a _) O,λ h=>absurd (show (3:Int)=2 from h) (by decide)⟩
  | attr s x a hi=>
   have e:jM (ab.mk 4 0 s [] v0 [x] a) ([x].map bw)=prt false 8 x (bw x)++46::s:=rfl;have hl:(ab.mk 4 0 s [] v0 [x] a).A'=[x]:=rfl;rw [hl] at Pn hn IP ⊢;rw [e] at Pn ⊢;have:=dA x;exact ⟨kq (Qd (IP 8 O x G (by grind)) hi a) qS,λ h=>absurd (show (4:Int)=2 from h) (by decide)⟩
  | idx x y a=>
   have e:jM (ab.mk 5 0 [] [] v0 [x,y] a) ([x,y].map bw)=prt false 8 x (bw x)++91::(prt false 0 y (bw y)++[93]):=rfl;have hl:(ab.mk 5 0 [] [] v0 [x,y] a).A'=[x,y]:=rfl;rw [hl] at Pn hn IP ⊢;rw [e] at Pn ⊢;simp only [n8,aq] at Pn;have:=dA x; have:=dA y;exact ⟨kq (TY (IP 8 O x G O) (IP 0 O y G O) a) qS,λ h=>absurd (show (5:Int)=2 from h) (by decide)⟩
  | un o x a ho=>
   have e:jM (ab.mk 6 o [] [] v0 [x] a) ([x].map bw)=opX o++prt false 7 x (bw x):=rfl;have hl:(ab.mk 6 o [] [] v0 [x] a).A'=[x]:=rfl;rw [hl] at Pn hn IP ⊢;rw [e] at Pn ⊢;simp only [n8] at Pn;have:=dA x;have hx:=IP 7 O x G O
   have hs:opX o=[33]/\o=1\/opX o=[45]/\o=2:=by
    rcases ho with rfl|rfl
    ·exact .inl ⟨Z,Z⟩
    ·exact .inr ⟨Z,Z⟩
   exact ⟨kq (Us hx hs a) qS,λ h=>absurd (show (6:Int)=2 from h) (by decide)⟩
  | bin o x y a ho=>
   obtain ⟨j,hj,h1,h2⟩:=Sl ⟨o.toNat,by omega⟩ (by grind);rw [show (((⟨o.toNat,by omega⟩:Fin 16).val:Nat):Int)=o by grind] at h1 h2;have hlv:lvX (ab.mk 7 o [] [] v0 [x,y] a)=j+1:=h1;have e:jM (ab.mk 7 o [] [] v0 [x,y] a) ([x,y].map bw)=prt false (lvX (ab.mk 7 o [] [] v0 [x,y] a)) x (bw x)++32::(opX o++32::prt false (lvX (ab.mk 7 o [] [] v0 [x,y] a)+1) y (bw y)):=rfl;have hl:(ab.mk 7 o [] [] v0 [x,y] a).A'=[x,y]:=rfl;rw [hl] at Pn hn IP ⊢;rw [e] at Pn ⊢;rw [hlv] at Pn ⊢;simp only [n8,aq] at Pn;have:=dA x; have:=dA y;exact ⟨kq (Sw hj h2 (IP (j+1) O x G O) (IP (j+1+1) O y G O) a) qS,λ h=>absurd (show (7:Int)=2 from h) (by decide)⟩
  | cond x y z a=>
   have e:jM (ab.mk 8 0 [] [] v0 [x,y,z] a) ([x,y,z].map bw)=prt false 1 x (bw x)++32::63::32::(prt false 0 y (bw y)++32::58::32::prt false 0 z (bw z)):=rfl;have hl:(ab.mk 8 0 [] [] v0 [x,y,z] a).A'=[x,y,z]:=rfl;rw [hl] at Pn hn IP ⊢;rw [e] at Pn ⊢;simp only [n8,aq] at Pn;have:=dA x; have:=dA y; have:=dA z;exact ⟨kq (Qj (IP 1 O x G O) (IP 0 O y G O) (IP 0 O z G O) a) qS,λ h=>absurd (show (8:Int)=2 from h) (by decide)⟩
  | call s l a hi hr=>
   have e:jM (ab.mk 9 0 s [] v0 l a) (l.map bw)=s++40::(itF (l.map bw)++[41]):=rfl;have hl:(ab.mk 9 0 s [] v0 l a).A'=l:=rfl;rw [hl] at Pn hn IH hb ⊢;rw [e] at Pn ⊢;simp only [n8,aq] at Pn;have:=MM l;exact ⟨kq (QY hi hr (DU (z:=41) Z (w:=λ x=>20*cQ x-5) λ x hx=>(IH x hx (by grind [zR])).weak (ph _) (pW x)) hb a) O,λ h=>absurd (show (9:Int)=2 from h) (by decide)⟩
  | list l a=>
   have e:jM (ab.mk 10 0 [] [] v0 l a) (l.map bw)=91::(itF (l.map bw)++[93]):=rfl;have hl:(ab.mk 10 0 [] [] v0 l a).A'=l:=rfl;rw [hl] at Pn hn IH hb ⊢;rw [e] at Pn ⊢;simp only [n8,aq] at Pn;have:=MM l;exact ⟨kq (QM (DU (z:=93) Z (w:=λ x=>20*cQ x-5) λ x hx=>(IH x hx (by grind [zR])).weak (ph _) (pW x)) hb a) O,λ h=>absurd (show (10:Int)=2 from h) (by decide)⟩
  | map l a hm=>
   have e:jM (ab.mk 11 0 [] [] v0 l a) (l.map bw)=123::(enF l (l.map bw)++[125]):=rfl;have hl:(ab.mk 11 0 [] [] v0 l a).A'=l:=rfl;rw [hl] at Pn hn IH IQ hb hk ⊢;rw [e] at Pn ⊢;simp only [n8,aq] at Pn;have:=MM l
   have hsh:∀ x∈l,Shp x:=λ x hx=>by
    exact E5
   have hx:∀ x∈l,(bw x).length<=65536->Shp x/\PX (lvX x) (32-lv) (20*cQ x-5) x (bw x)/\QK (32-lv) x (bw x):=(by grind)
   exact ⟨kq (SU (JH (w:=λ x=>20*cQ x-5) l hm hsh O hx) hb a) O,λ h=>absurd (show (11:Int)=2 from h) (by decide)⟩
  | loop m s y x c dl fl a hi hr hy hd hf=>
   have hK:TkK (if y=[] then [] else y++[44,32]) y:=by
    rcases hy with rfl|hy
    ·exact .inl ⟨Z,Z⟩
    ·by_cases y0:y=[]
     ·exact .inl ⟨y0,if_pos y0⟩
     ·exact .inr ⟨hy.1,hy.2,if_neg y0⟩
   have n1:=dA x; have n2:=dA c;rcases hd with ⟨rfl,rfl⟩|⟨rfl,d,rfl⟩ <;> rcases hf with rfl|⟨f,rfl⟩
   ·have e:jM (ab.mk 12 0 s y v0 [x,c] a) ([x,c].map bw)=91::102::111::114::32::((if y=[] then [] else y++[44,32])++(s++32::105::110::32::(prt false 0 x (bw x)++32::58::32::(prt false 0 c (bw c)++([]++([]++[93])))))):=rfl;have hl:(ab.mk (if false=true then 13 else 12) 0 s y v0 ([x,c]++[]++[]) a).A'=[x,c]:=rfl;rw [hl] at Pn hn IP ⊢
    change (jM (ab.mk 12 0 s y v0 [x,c] a) ([x,c].map bw)).length<=65536 at Pn
    change PX 8 (32-lv) _ (ab.mk 12 0 s y v0 [x,c] a) (jM (ab.mk 12 0 s y v0 [x,c] a) ([x,c].map bw))/\QK (32-lv) (ab.mk 12 0 s y v0 [x,c] a) (jM (ab.mk 12 0 s y v0 [x,c] a) ([x,c].map bw))
    rw [e] at Pn ⊢;simp only [n8,aq] at Pn;exact ⟨kq (wN (m:=false) (N3:=0) (N4:=0) hi hr hK (IP 0 O x G O) (IP 0 O c G O) (.inl ⟨rfl,rfl,rfl⟩) (.inl ⟨rfl,rfl⟩) a) qS,λ h=>absurd (show (12:Int)=2 from h) (by decide)⟩
   ·have n3:=dA f;have e:jM (ab.mk 12 0 s y v0 [x,c,f] a) ([x,c,f].map bw)=91::102::111::114::32::((if y=[] then [] else y++[44,32])++(s++32::105::110::32::(prt false 0 x (bw x)++32::58::32::(prt false 0 c (bw c)++([]++(32::105::102::32::prt false 0 f (bw f)++[93])))))):=rfl;have hl:(ab.mk (if false=true then 13 else 12) 0 s y v0 ([x,c]++[]++[f]) a).A'=[x,c,f]:=rfl;rw [hl] at Pn hn IP ⊢
    change (jM (ab.mk 12 0 s y v0 [x,c,f] a) ([x,c,f].map bw)).length<=65536 at Pn
    change PX 8 (32-lv) _ (ab.mk 12 0 s y v0 [x,c,f] a) (jM (ab.mk 12 0 s y v0 [x,c,f] a) ([x,c,f].map bw))/\QK (32-lv) (ab.mk 12 0 s y v0 [x,c,f] a) (jM (ab.mk 12 0 s y v0 [x,c,f] a) ([x,c,f].map bw))
    rw [e] at Pn ⊢;simp only [n8,aq] at Pn;exact ⟨kq (wN (m:=false) (N3:=0) hi hr hK (IP 0 O x G O) (IP 0 O c G O) (.inl ⟨rfl,rfl,rfl⟩) (.inr ⟨_,f,rfl,rfl,IP 0 O f G O⟩) a) qS,λ h=>absurd (show (12:Int)=2 from h) (by decide)⟩
   ·have n3:=dA d;have e:jM (ab.mk 13 0 s y v0 [x,c,d] a) ([x,c,d].map bw)=123::102::111::114::32::((if y=[] then [] else y++[44,32])++(s++32::105::110::32::(prt false 0 x (bw x)++32::58::32::(prt false 0 c (bw c)++(32::61::62::32::prt false 0 d (bw d)++([]++[125])))))):=rfl;have hl:(ab.mk (if true=true then 13 else 12) 0 s y v0 ([x,c]++[d]++[]) a).A'=[x,c,d]:=rfl;rw [hl] at Pn hn IP ⊢
    change (jM (ab.mk 13 0 s y v0 [x,c,d] a) ([x,c,d].map bw)).length<=65536 at Pn
    change PX 8 (32-lv) _ (ab.mk 13 0 s y v0 [x,c,d] a) (jM (ab.mk 13 0 s y v0 [x,c,d] a) ([x,c,d].map bw))/\QK (32-lv) (ab.mk 13 0 s y v0 [x,c,d] a) (jM (ab.mk 13 0 s y v0 [x,c,d] a) ([x,c,d].map bw))
    rw [e] at Pn ⊢;simp only [n8,aq] at Pn;exact ⟨kq (wN (m:=true) (N4:=0) hi hr hK (IP 0 O x G O) (IP 0 O c G O) (.inr ⟨_,d,rfl,rfl,rfl,IP 0 O d G O⟩) (.inl ⟨rfl,rfl⟩) a) qS,λ h=>absurd (show (13:Int)=2 from h) (by decide)⟩
   ·have n3:=dA d; have n4:=dA f;have e:jM (ab.mk 13 0 s y v0 [x,c,d,f] a) ([x,c,d,f].map bw)=123::102::111::114::32::((if y=[] then [] else y++[44,32])++(s++32::105::110::32::(prt false 0 x (bw x)++32::58::32::(prt false 0 c (bw c)++(32::61::62::32::prt false 0 d (bw d)++(32::105::102::32::prt false 0 f (bw f)++[125])))))):=rfl;have hl:(ab.mk (if true=true then 13 else 12) 0 s y v0 ([x,c]++[d]++[f]) a).A'=[x,c,d,f]:=rfl;rw [hl] at Pn hn IP ⊢
    change (jM (ab.mk 13 0 s y v0 [x,c,d,f] a) ([x,c,d,f].map bw)).length<=65536 at Pn
    change PX 8 (32-lv) _ (ab.mk 13 0 s y v0 [x,c,d,f] a) (jM (ab.mk 13 0 s y v0 [x,c,d,f] a) ([x,c,d,f].map bw))/\QK (32-lv) (ab.mk 13 0 s y v0 [x,c,d,f] a) (jM (ab.mk 13 0 s y v0 [x,c,d,f] a) ([x,c,d,f].map bw))
    rw [e] at Pn ⊢;simp only [n8,aq] at Pn;exact ⟨kq (wN (m:=true) hi hr hK (IP 0 O x G O) (IP 0 O c G O) (.inr ⟨_,d,rfl,rfl,rfl,IP 0 O d G O⟩) (.inr ⟨_,f,rfl,rfl,IP 0 O f G O⟩) a) qS,λ h=>absurd (show (13:Int)=2 from h) (by decide)⟩
def VM (e:ab):Prop:=∀ c lv,(nr c lv e).1=0->(nr c lv e).2=c+cQ e/\∀ c' lv',c'<=c->lv'<=lv->(nr c' lv' e).1=0
theorem vml:∀ (l:List ab),(∀ x∈l,VM x)->∀ c lv,(nN c lv l).1=0->(nN c lv l).2=c+cC l/\(∀ c' lv',c'<=c->lv'<=lv->(nN c' lv' l).1=0)/\∀ x∈l,∃ d,(nr d lv x).1=0
 | [],_,c,lv,_=>by
  refine ⟨by simp [nN,cC],λ c' lv' _ _=>by simp [nN],λ x hx=>by cases hx⟩
 | x::r,h,c,lv,h0=>by
  rw [oB] at h0 ⊢;have hx:=h x th c lv;by_cases q:(nr c lv x).1=0
  ·rw [if_pos q] at h0 ⊢;obtain ⟨x1,x2⟩:=hx q;obtain ⟨r1,r2,r3⟩:=vml r (λ y hy=>h y (List.mem_cons_of_mem _ hy)) _ lv h0;refine ⟨by rw [r1,x1]; simp only [cC]; omega,λ c' lv' h1 h2=>?_,λ y hy=>?_⟩
   ·rw [oB,if_pos (x2 c' lv' h1 h2)];have:=(h x th c' lv' (x2 c' lv' h1 h2)).1;exact r2 _ lv' (by rw [this,x1]; omega) h2
   ·rcases qr.1 hy with rfl|hy
    ·exact ⟨c,q⟩
    ·exact r3 y hy
  ·rw [if_neg q] at h0; exact absurd h0 q
theorem Db {e:ab}(hb:ab.Bd e):VM e:=by
 induction hb with
 | @mk x bKind bOp bName bKey bValue bKids eKids bAt ih=>
  intro c lv h;rw [pP] at h ⊢;by_cases q1:32<lv
  ·rw [if_pos q1] at h; cases h
  by_cases q2:4096<=c
  ·rw [if_neg q1,if_pos q2] at h; cases h
  by_cases q3:lB x=0
  ·rw [if_neg q1,if_neg q2,if_pos q3] at h ⊢;obtain ⟨l1,l2,-⟩:=vml x.A' ih _ _ h;refine ⟨by rw [l1,lr]; omega,λ c' lv' h1 h2=>?_⟩;rw [pP,if_neg O,if_neg O,if_pos q3];exact l2 _ _ O O
  ·rw [if_neg q1,if_neg q2,if_neg q3] at h; exact absurd h q3
theorem tC:∀ l:List ab,l.length<=cC l
 | []=>ph _
 | x::l=>by
  have:=tC l; have:=dA x;simp only [cC,aq]; omega
theorem GL {e:ab}(hb:ab.Bd e):∀ c lv,1<=lv->cQ e<=1000->(nr c lv e).1=0->VE lv e:=by
 induction hb with
 | @mk x bKind bOp bName bKey bValue bKids eKids bAt ih=>
  intro c lv h1 hn h;have hB:ab.Bd x:=.mk bKind bOp bName bKey bValue bKids eKids bAt;have hc:chk x=0:=(Db hB c lv h).2 0 1 (ph _) h1;rw [pP] at h;by_cases q1:32<lv
  ·rw [if_pos q1] at h; cases h
  by_cases q2:4096<=c
  ·rw [if_neg q1,if_pos q2] at h; cases h
  by_cases q3:lB x=0
  ·rw [if_neg q1,if_neg q2,if_pos q3] at h;obtain ⟨-,-,l3⟩:=vml x.A' (λ y hy=>Db (eKids y hy)) _ _ h;rw [lr] at hn;refine .mk O (Jh (C9 hB) q3) hc (by have:=tC x.A'; omega) λ y hy=>?_;obtain ⟨d,hd⟩:=l3 y hy;exact ih y hy d (lv+1) O (by have:=lE hy; omega) hd
  ·rw [if_neg q1,if_neg q2,if_neg q3] at h; exact absurd h q3
end Go.Ab.R06
end
section
namespace Go.Ab.R06
open Go.Proofs Go.Ab Go.Ab.RB
instance hc16_0:HC aw ai.cs:=⟨ai.E'⟩
instance hc16_3 (s a b r:Bk):HP (strings_ReplaceAll s a b=some r) Tryz.prog 110 [eS s,eS a,eS b] (.p (eS r)):=⟨re s a b r⟩
instance hc16_4 (l:List Bk) (s r:Bk):HP (strings_Join l s=some r) Tryz.prog 56 [eL eS l,eS s] (.p (eS r)):=⟨wk l s r⟩
instance hc16_5 (a:Int) (r:Bk):HP (strconv_Itoa a=some r) Tryz.prog 79 [eI a] (.p (eS r)):=⟨wt a r⟩
set_option maxRecDepth 4000
attribute [local irreducible] awp iH bu bA cj AV.sub M cN
def cP (O':Bk):Nat->Int->Option (Unit⊕Bool)|0,_=>none|m+1,i11=>ck (inR (i11+1))<|if i11+1<(O'.length:Int) then(ck ((0:Int)<=i11/\i11<(O'.length:Int))<|if byt O' i11=36 then ck (inR (i11+1))<|ck ((0:Int)<=i11+1/\i11+1<(O'.length:Int))<|some (decide (byt O' (i11+1)=123))else some false).bind λ Xm=>if Xm=true then some (.inr true)else ck (inR (i11+1))<|cP O' m (i11+1)else some (.inl ())
def jT (n:Nat)(O':Bk):Option Bool :=jn (cP O' n 0) λ Vw=>some false
instance Gv (n:Nat) (O':Bk):∀ (r:Bool),HP (jT n O'=some r) Tryz.prog 77 [eS O'] (.p (eB r)):=by
 refine hP good Tryz.func77 Z Z λ r h0 _ w0=>?_;unfold jT at h0;refine nx 10 rfl ?_;obtain ⟨o24,h1,Vp,hR0⟩:=bJ h0;refine kEx 0 (λ v25:Unit=>o24=.inl v25) (λ v25=>⟨[],[]⟩) (λ v25 hv=>?_) ?_
 ·exact eW
 refine lG (λ (Xq:Int)=>⟨[(0,.p (eS O')),(3,.p (eI Xq))],[]⟩) (λ m (Xq:Int)=>cP O' m Xq) Y 0 h1 (gE rfl rfl) ?_;rintro m i11 h1;replace h1:cP O' (m+1) i11=some o24:=h1;rw [cP] at h1;have:=js [400];have:=jS 400 Bool λ v=>[(21,.p (eB v))]
 exact aB
def eQ (b_0:av)(i22:Int):Nat->Int->Option (Unit⊕(Unit⊕Int))|0,_=>none|m+1,k33=>if k33<i22 then ck ((0:Int)<=k33/\k33<(b_0.B'.length:Int))<|if (lat b_0.B' k33).AT=(lat b_0.B' i22).AT then some (.inr (.inr 8))else ck (inR (k33+1))<|eQ b_0 i22 m (k33+1)else some (.inl ())
def eO (n:Nat)(b_0:av):Nat->Int->Option (Unit⊕Int)|0,_=>none|m+1,i22=>if i22<(b_0.B'.length:Int) then ck ((0:Int)<=i22/\i22<(b_0.B'.length:Int))<|(du n ((lat b_0.B' i22).AT)).bind λ WR=>if (!WR)=true then some (.inr 7)else jn (eQ b_0 i22 n 0) λ q120=>(lC n ((lat b_0.B' i22).I')).bind λ Yd=>if Yd=0 then ck (inR (i22+1))<|eO n b_0 m (i22+1)else some (.inr Yd)else some (.inl ())
def fj (n:Nat)(b_0:av)(i81:Int):Nat->Int->Option (Unit⊕(Unit⊕Int))|0,_=>none|m+1,k99=>if k99<(((lat b_0.By i81).J').length:Int) then(ck ((0:Int)<=k99/\k99<(((lat b_0.By i81).J').length:Int))<|(jf n (lat ((lat b_0.By i81).J') k99)).bind λ XV=>if (!XV)=true then some true else ck ((0:Int)<=k99/\k99<(((lat b_0.By i81).J').length:Int))<|(jT n (lat ((lat b_0.By i81).J') k99)).bind λ abk=>some abk).bind λ t108=>if t108=true then some (.inr (.inr 1))else ck (inR (k99+1))<|fj n b_0 i81 m (k99+1)else some (.inl ())
def fc (n:Nat)(Wc:av->Int->Option Int)(b_0:av)(Sm:Int):Nat->Int->Option (Unit⊕Int)|0,_=>none|m+1,i81=>if i81<(b_0.By.length:Int) then ck ((0:Int)<=i81/\i81<(b_0.By.length:Int))<|(du n ((lat b_0.By i81).Mr)).bind λ r84=>if (!r84)=true then some (.inr 7)else jn (fj n b_0 i81 n 0) λ XX=>if 32<=Sm then some (.inr 4)else ck (inR (Sm+1))<|(Wc ((lat b_0.By i81).Mp) (Sm+1)).bind λ abj=>if abj=0 then ck (inR (i81+1))<|fc n Wc b_0 Sm m (i81+1)else some (.inr abj)else some (.inl ())
def gI:Nat->av->Int->Option Int|0,_,_=>none|n+1,b_0,Sm=>jn (eO n b_0 n 0) λ q119=>jn (fc n (gI n) b_0 Sm n 0) λ XY=>some 0
instance Mw (n:Nat):∀ (b_0:av) (Sm:Int) (r:Int),HP (gI n b_0 Sm=some r) Tryz.prog 42 [.agg (av.cs b_0),eI Sm] (.p (eI r)):=by
 induction n with
 | zero=>exact Zr
 | succ n ih=>
 refine λ b_0 Sm=>hP good Tryz.func42 Z Z λ r h0 _ w0=>?_;rw [gI] at h0;refine nx 11 rfl ?_;obtain ⟨abA,h1,Vp,hR0⟩:=bJ h0;refine kEx 0 (λ ZX:Unit=>abA=.inl ZX) (λ ZX=>⟨[(1,.p (eI Sm)),(2,.ptr 2 0)],[(2,(av.cs b_0).map .p)]⟩) (λ ZX hv=>?_) ?_
 ·have h0:=Vp _ hv;refine nx 7 rfl ?_;obtain ⟨aby,h1,Vp,hR0⟩:=bJ h0;refine kEx 4 (λ v127:Unit=>aby=.inl v127) (λ v127=>⟨[],[]⟩) (λ v127 hv=>?_) ?_
  ·exact eW
  refine lG (λ (aac:Int)=>⟨[(1,.p (eI Sm)),(2,.ptr 2 0),(9,.p (eI aac))],[(2,(av.cs b_0).map .p)]⟩) (λ m (aac:Int)=>fc n (gI n) b_0 Sm m aac) Y 0 h1 (gE rfl rfl) ?_;rintro m i81 h1;replace h1:fc n (gI n) b_0 Sm (m+1) i81=some aby:=h1;rw [fc] at h1;refine nx 6 rfl (oLl (f:=aI) rfl rfl ?_);refine nx 2 rfl (fD [53] h1 rfl (λ c82 h1=>?_) λ c82 h1=>?_)
  ·refine nx 9 Z (oE h1 au.E' Z Z Y λ hk83 h1=>?_);refine nx 9 Z (K1 λ r84 h1=>nx 2 Z ?_);refine fB [64] h1 Z (λ c86 h1=>?_) λ c86 h1=>?_
   ·exact aB
   refine nx 8 rfl ?_;obtain ⟨abx,h2,hL1,hR1⟩:=bJ h1;refine kEx 6 (λ ZV:Unit=>abx=.inl ZV) (λ ZV=>⟨[(1,.p (eI Sm)),(2,.ptr 2 0),(9,.p (eI i81)),(10,.ptr 10 0)],[(2,(av.cs b_0).map .p),(10,(au.cs (lat b_0.By i81)).map .p)]⟩) (λ ZV hv=>?_) ?_
   ·have h1:=hL1 _ hv;exact aB
   refine lG (λ (aab:Int)=>⟨[(1,.p (eI Sm)),(2,.ptr 2 0),(9,.p (eI i81)),(10,.ptr 10 0),(11,.p (eI aab))],[(2,(av.cs b_0).map .p),(10,(au.cs (lat b_0.By i81)).map .p)]⟩) (λ m (aab:Int)=>fj n b_0 i81 m aab) Y 0 h2 (gE rfl rfl) ?_;rintro m k99 h2;replace h2:fj n b_0 i81 (m+1) k99=some abx:=h2;rw [fj] at h2;refine nx 6 rfl (oLl (f:=eS) rfl rfl ?_);refine nx 2 rfl (fD [69] h2 rfl (λ c100 h2=>?_) λ c100 h2=>?_)
   ·refine nx 5 Z (bd h2 λ o132 h3 h2=>?_);refine kN o132 (λ v133=>⟨[(1,.p (eI Sm)),(2,.ptr 2 0),(9,.p (eI i81)),(10,.ptr 10 0),(11,.p (eI k99)),(86,.p (eB v133))],[(2,(av.cs b_0).map .p),(10,(au.cs (lat b_0.By i81)).map .p)]⟩) ?_ ?_
    ·exact dj
    refine nx 4 Z (oE h3 Y Z Z Y λ abI h3=>?_);refine nx 1 Z (bd h3 λ XV aaN h3=>?_);refine oK (HP.c aaN) Z ⟨sr,trivial⟩ HE.e Z (nx 2 Z ?_);refine fB [78,79] h3 Z (λ c104 h3=>?_) λ c104 h3=>?_
    ·exact EB
    refine nx 3 Z (oE h3 Y Z Z Y λ hk105 h3=>?_);refine nx 1 Z (bd h3 λ abk e107 h3=>?_);refine oK (HP.c e107) Z ⟨sr,trivial⟩ HE.e Z (nx 2 Z ?_);exact eX _ (oi h3).symm (gE Z Z)
   exact nx 2 Z (eXi _ (oi h2).symm (gE Z Z))
  exact aB
 refine lG (λ (aaa:Int)=>⟨[(1,.p (eI Sm)),(2,.ptr 2 0),(5,.p (eI aaa))],[(2,(av.cs b_0).map .p)]⟩) (λ m (aaa:Int)=>eO n b_0 m aaa) Y 0 h1 (gE rfl rfl) ?_;rintro m i22 h1;replace h1:eO n b_0 (m+1) i22=some abA:=h1;rw [eO] at h1;refine nx 6 rfl (oLl (f:=aw) rfl rfl ?_);refine nx 2 rfl (fD [17] h1 rfl (λ XR h1=>?_) λ XR h1=>?_)
 ·refine nx 9 Z (oE h1 ai.E' Z Z Y λ Xu h1=>?_);refine nx 9 Z (K1 λ WR h1=>nx 2 Z ?_);refine fB [28] h1 Z (λ c27 h1=>?_) λ c27 h1=>?_
  ·exact aB
  refine nx 8 rfl ?_;obtain ⟨abw,h2,hL1,hR1⟩:=bJ h1;refine kEx 2 (λ ZU:Unit=>abw=.inl ZU) (λ ZU=>⟨[(1,.p (eI Sm)),(2,.ptr 2 0),(5,.p (eI i22)),(6,.ptr 6 0)],[(2,(av.cs b_0).map .p),(6,(ai.cs (lat b_0.B' i22)).map .p)]⟩) (λ ZU hv=>?_) ?_
  ·have h1:=hL1 _ hv;exact aB
  refine lG (λ (Z':Int)=>⟨[(1,.p (eI Sm)),(2,.ptr 2 0),(5,.p (eI i22)),(6,.ptr 6 0),(7,.p (eI Z'))],[(2,(av.cs b_0).map .p),(6,(ai.cs (lat b_0.B' i22)).map .p)]⟩) (λ m (Z':Int)=>eQ b_0 i22 m Z') Y 0 h2 (gE rfl rfl) ?_;rintro m k33 h2;replace h2:eQ b_0 i22 (m+1) k33=some abw:=h2;rw [eQ] at h2;refine nx 7 rfl (fD [31] h2 rfl (λ c34 h2=>?_) λ c34 h2=>?_)
  ·refine nx 5 Z (cc' h2 λ X6 h2=>?_);refine mD [(1,.p (eI Sm)),(2,.ptr 2 0),(5,.p (eI i22)),(6,.ptr 6 0),(7,.p (eI k33))] Z ⟨Z,Z,Z,Z,Z,trivial⟩ Z (dR 3 Z ?_);refine dq (.rptr (ai.cs (lat b_0.B' k33))) [35,36] Z (λ _ e _ q=>al Z (dh (f:=aw) (l:=b_0.B') ai.cs Z Z Z Z Z Z (e _ _ Z) Z (e _ _ Z) X6 ai.E' Y q)) Z (dR 4 Z ?_);refine dq (.p (eB (decide ((lat b_0.B' k33).AT=(lat b_0.B' i22).AT)))) [39,41] Z (λ _ e _ q=>al Z (ko Z Z Z (e _ _ Z) (e _ _ Z) Z q)) Z (dE Z ?_);exact dj
  exact dj
 exact aB
def pM (n:Nat)(b_0:av):Option Int :=(gI n b_0 0).bind λ r1=>some r1
instance Lv (n:Nat) (b_0:av):∀ (r:Int),HP (pM n b_0=some r) Tryz.prog 17 [.agg (av.cs b_0)] (.p (eI r)):=by
 refine hP good Tryz.func17 Z Z λ r h0 _ w0=>?_;unfold pM at h0;exact J0
def eA (n:Nat)(b_0:av):Nat->Int->Int->Option (Int⊕Int)|0,_,_=>none|m+1,n22,i23=>(if i23<(b_0.B'.length:Int) then some (decide (0<=n22))else some false).bind λ t25=>if t25=true then ck ((0:Int)<=i23/\i23<(b_0.B'.length:Int))<|ck (inR (n22+1))<|(lD n ((lat b_0.B' i23).I') (n22+1)).bind λ XM=>if (!XM)=true then some (.inr (-1))else ck ((0:Int)<=i23/\i23<(b_0.B'.length:Int))<|(gG n ((lat b_0.B' i23).I')).bind λ Yt=>ck (inR (n22-Yt))<|ck (inR (i23+1))<|eA n b_0 m (n22-Yt) (i23+1)else some (.inl n22)
def eC (Wo:av->Int->Int->Option Int)(b_0:av)(levels_2:Int):Nat->Int->Int->Option Int|0,_,_=>none|m+1,n52,i53=>(if i53<(b_0.By.length:Int) then some (decide (0<=n52))else some false).bind λ t55=>if t55=true then ck ((0:Int)<=i53/\i53<(b_0.By.length:Int))<|ck ((0:Int)<=i53/\i53<(b_0.By.length:Int))<|ck (inR (n52-(((lat b_0.By i53).J').length:Int)))<|ck (inR (levels_2-1))<|(Wo ((lat b_0.By i53).Mp) (n52-(((lat b_0.By i53).J').length:Int)) (levels_2-1)).bind λ VN=>ck (inR (i53+1))<|eC Wo b_0 levels_2 m VN (i53+1)else some n52
def ia:Nat->av->Int->Int->Option Int|0,_,_,_=>none|n+1,b_0,nodes_1,levels_2=>(if levels_2<1 then some true else ck (inR ((b_0.B'.length:Int)+(b_0.By.length:Int)))<|some (decide (nodes_1<(b_0.B'.length:Int)+(b_0.By.length:Int)))).bind λ t3=>if t3=true then some (-1)else ck (inR (nodes_1-(b_0.B'.length:Int)))<|ck (inR ((nodes_1-(b_0.B'.length:Int))-(b_0.By.length:Int)))<|jn (eA n b_0 n ((nodes_1-(b_0.B'.length:Int))-(b_0.By.length:Int)) 0) λ n39=>(eC (ia n) b_0 levels_2 n n39 0).bind λ n66=>some n66
instance OD (n:Nat):∀ (b_0:av) (nodes_1:Int) (levels_2:Int) (r:Int),HP (ia n b_0 nodes_1 levels_2=some r) Tryz.prog 41 [.agg (av.cs b_0),eI nodes_1,eI levels_2] (.p (eI r)):=by
 induction n with
 | zero=>exact Zr
 | succ n ih=>
 refine λ b_0 nodes_1 levels_2=>hP good Tryz.func41 Z Z λ r h0 _ w0=>?_;rw [ia] at h0;refine nx 7 Z (bd h0 λ o72 h1 h0=>?_);refine kN o72 (λ v73=>⟨[(1,.p (eI nodes_1)),(2,.p (eI levels_2)),(3,.ptr 3 0),(22,.p (eB v73))],[(3,(av.cs b_0).map .p)]⟩) ?_ ?_
 ·refine nx 1 Z (fB [22] h0 Z (λ c4 h0=>?_) λ c4 h0=>?_)
  ·exact J0
  refine nx 7 rfl (oLl (f:=aw) Z Z ?_);refine oA h0 Z Z λ X4 h0=>nx 2 rfl (oLl (f:=aI) Z Z ?_);refine oA h0 Z Z λ ZQ h0=>nx 8 rfl ?_;obtain ⟨o74,h1,Vp,hR0⟩:=bJ h0;refine kEx 0 (λ v75:Int=>o74=.inl v75) (λ v75=>⟨[(2,.p (eI levels_2)),(3,.ptr 3 0),(7,.p (eI v75))],[(3,(av.cs b_0).map .p)]⟩) (λ v75 hv=>?_) ?_
  ·have h0:=Vp _ hv;refine nx 7 Z (bd h0 λ Y5 h1 h0=>?_);refine kE 2 Y5 (λ XS=>⟨[(7,.p (eI XS))],[]⟩) ?_ ?_
   ·exact J0
   refine lG (λ (WN:Int×Int)=>⟨[(2,.p (eI levels_2)),(3,.ptr 3 0),(7,.p (eI WN.1)),(9,.p (eI WN.2))],[(3,(av.cs b_0).map .p)]⟩) (λ m (WN:Int×Int)=>eC (ia n) b_0 levels_2 m WN.1 WN.2) Y (v75,0) h1 (gE rfl rfl) ?_;rintro m ⟨n52,i53⟩ h1;replace h1:eC (ia n) b_0 levels_2 (m+1) n52 i53=some Y5:=h1;rw [eC] at h1;refine nx 2 rfl (bd h1 λ o79 h2 h1=>?_);refine kN o79 (λ v80=>⟨[(2,.p (eI levels_2)),(3,.ptr 3 0),(7,.p (eI n52)),(9,.p (eI i53)),(70,.p (eB v80))],[(3,(av.cs b_0).map .p)]⟩) ?_ ?_
   ·refine nx 1 Z (fB [70] h1 Z (λ c56 h1=>?_) λ c56 h1=>?_)
    ·refine nx 4 Z (cc' h1 λ X3 h1=>?_);refine cc' h1 λ aaq h1=>cc' h1 λ X2 h1=>cc' h1 λ Xj h1=>bd h1 λ VN e62 h1=>mG (gE (t:=⟨[(2,.p (eI levels_2)),(3,.ptr 3 0),(7,.p (eI n52)),(9,.p (eI i53))],[(3,(av.cs b_0).map .p)]⟩) Z Z) (mSq ⟨1,[18],(λ _=>.none),(by2 [(2,.p (eI levels_2)),(3,.ptr 3 0),(7,.p (eI n52)),(9,.p (eI i53))] [(2,.p (eI levels_2)),(3,.ptr 3 0),(9,.p (eI i53))]),(λ _=>[(3,[.p (eL aw b_0.B'),.p (eL aI b_0.By)])])⟩ Z ?_);refine dPc (.ptr 3 1) Z (dPc (.p (eL aI b_0.By)) Z ?_);refine dPc (.p (eI i53)) Z (dO (.rptr (au.cs (lat b_0.By i53))) [74,75] Z (λ _ sl UT K hK=>al Z (dh (f:=aI) (l:=b_0.By) au.cs Z Z Z Z Z Z (UT _ _ Z) Z (UT _ _ Z) X3 au.E' Y hK)) ?_);refine dPc (.rptr (List.drop 2 (au.cs (lat b_0.By i53)))) Z (dPc (.p (.agg (av.cs ((lat b_0.By i53).Mp)))) Z ?_);refine dPc (.p (eI n52)) Z (dPc (.ptr 3 1) Z ?_);refine dPc (.p (eL aI b_0.By)) Z (dPc (.p (eI i53)) Z ?_);refine dO (.rptr (au.cs (lat b_0.By i53))) [81,82] Z (λ _ sl UT K hK=>al Z (dh (f:=aI) (l:=b_0.By) au.cs Z Z Z Z Z Z (UT _ _ Z) Z (UT _ _ Z) aaq au.E' Y hK)) (dPc (.rptr (List.drop 1 (au.cs (lat b_0.By i53)))) Z ?_);refine dPc (.p (eL eS ((lat b_0.By i53).J'))) Z (dO (.p (eI (((lat b_0.By i53).J').length:Int))) [85] Z (λ _ sl UT K hK=>al Z (pN (f:=eS) (l:=(lat b_0.By i53).J') Z Z Z Z Z (UT _ _ Z) Z hK)) ?_);refine dO (.p (eI (n52-(((lat b_0.By i53).J').length:Int)))) [79,86] Z (λ _ sl UT K hK=>al Z (gJ Z Z Z (UT _ _ Z) (UT _ _ Z) Z X2 hK)) (dPc (.p (eI levels_2)) Z ?_);refine dO (.p (eI (levels_2-1))) [88] Z (λ _ sl UT K hK=>al Z (gJ Z Z Z (UT _ _ Z) Z Z Xj hK)) (dO (.p (eI VN)) [78,87,89] Z (λ _ sl UT K hK=>al Z (bQ (HP.c e62) Z Z Z (aG (UT _ _ Z) (aG (UT _ _ Z) (aG (UT _ _ Z) bp))) ⟨sr,sr,sr,trivial⟩ HE.e Z hK)) ?_);refine rI (λ _=>.p (eI VN)) [(90,_)] Z ⟨.inr ⟨17,_,Z,Z,Z⟩,trivial⟩ Z Z Y (lt1 (λ h=>absurd h (by decide))) AX (d5 ?_);exact aB
    exact aB
   exact dj
  refine lG (λ (WM:Int×Int)=>⟨[(2,.p (eI levels_2)),(3,.ptr 3 0),(7,.p (eI WM.1)),(8,.p (eI WM.2))],[(3,(av.cs b_0).map .p)]⟩) (λ m (WM:Int×Int)=>eA n b_0 m WM.1 WM.2) Y ((nodes_1-(b_0.B'.length:Int))-(b_0.By.length:Int),0) h1 (gE rfl rfl) ?_;rintro m ⟨n22,i23⟩ h1;replace h1:eA n b_0 (m+1) n22 i23=some o74:=h1;rw [eA] at h1;have:=js [500];have:=jS 500 Bool λ v=>[(40,.p (eB v))]
  exact aB
 exact aB
def nR (n:Nat)(b_0:av)(nodes_1:Int):Option Bool :=(ia n b_0 nodes_1 40).bind λ r1=>some (decide (0<=r1))
instance JC (n:Nat) (b_0:av) (nodes_1:Int):∀ (r:Bool),HP (nR n b_0 nodes_1=some r) Tryz.prog 16 [.agg (av.cs b_0),eI nodes_1] (.p (eB r)):=by
 refine hP good Tryz.func16 Z Z λ r h0 _ w0=>?_;unfold nR at h0;exact J0
def cX (VQ:ab->ab->Option Bool)(a_0:ab)(T':ab):Nat->Int->Option (Unit⊕Bool)|0,_=>none|m+1,i18=>if i18<(a_0.A'.length:Int) then ck ((0:Int)<=i18/\i18<(a_0.A'.length:Int))<|ck ((0:Int)<=i18/\i18<(T'.A'.length:Int))<|(VQ (lat a_0.A' i18) (lat T'.A' i18)).bind λ WK=>if (!WK)=true then some (.inr false)else ck (inR (i18+1))<|cX VQ a_0 T' m (i18+1)else some (.inl ())
def dm:Nat->ab->ab->Option Bool|0,_,_=>none|n+1,a_0,T'=>(if a_0.Ar=T'.Ar then if a_0.fOp=T'.fOp then if a_0.AT=T'.AT then if a_0.It=T'.It then(gD n a_0.BY T'.BY).bind λ r5=>if (!r5)=true then some true else some (!decide ((a_0.A'.length:Int)=(T'.A'.length:Int)))else some true else some true else some true else some true).bind λ t8=>if t8=true then some false else jn (cX (dm n) a_0 T' n 0) λ Z9=>some true
instance En (n:Nat):∀ (a_0:ab) (T':ab) (r:Bool),HP (dm n a_0 T'=some r) Tryz.prog 11 [.agg (ab.cs a_0),.agg (ab.cs T')] (.p (eB r)):=by
 induction n with
 | zero=>exact Zr
 | succ n ih=>
 refine λ a_0 T'=>hP good Tryz.func11 Z Z λ r h0 _ w0=>?_;rw [dm] at h0;refine nx 8 Z (bd h0 λ WX h1 h0=>?_);refine kN WX (λ V8=>⟨[(2,.ptr 2 0),(3,.ptr 3 0),(48,.p (eB V8))],[(2,(ab.cs a_0).map .p),(3,(ab.cs T').map .p)]⟩) ?_ ?_
 ·refine nx 1 Z (fB [48] h0 Z (λ c9 h0=>?_) λ c9 h0=>?_)
  ·exact J0
  refine nx 8 rfl ?_;obtain ⟨ZM,h1,Vp,hR0⟩:=bJ h0;refine kEx 0 (λ Zd:Unit=>ZM=.inl Zd) (λ Zd=>⟨[],[]⟩) (λ Zd hv=>?_) ?_
  ·exact eW
  refine lG (λ (q33:Int)=>⟨[(2,.ptr 2 0),(3,.ptr 3 0),(5,.p (eI q33))],[(2,(ab.cs a_0).map .p),(3,(ab.cs T').map .p)]⟩) (λ m (q33:Int)=>cX (dm n) a_0 T' m q33) Y 0 h1 (gE rfl rfl) ?_;rintro m i18 h1;replace h1:cX (dm n) a_0 T' (m+1) i18=some ZM:=h1;rw [cX] at h1;refine nx 6 rfl (oLl (f:=ao) rfl rfl ?_);refine nx 2 rfl (fD [53] h1 rfl (λ Ya h1=>?_) λ Ya h1=>?_)
  ·refine nx 5 Z (cc' h1 λ WY h1=>?_);refine cc' h1 λ WF h1=>bd h1 λ WK e23 h1=>mD [(2,.ptr 2 0),(3,.ptr 3 0),(5,.p (eI i18))] Z ⟨Z,Z,Z,trivial⟩ Z (dR 3 Z ?_);refine dq (.rptr (ab.cs (lat a_0.A' i18))) [57,58] Z (λ _ e _ q=>al Z (dh (f:=ao) (l:=a_0.A') ab.cs Z Z Z Z Z Z (e _ _ Z) Z (e _ _ Z) WY ab.E' Y q)) Z (dR 4 Z ?_);refine dq (.rptr (ab.cs (lat T'.A' i18))) [62,63] Z (λ _ e _ q=>al Z (dh (f:=ao) (l:=T'.A') ab.cs Z Z Z Z Z Z (e _ _ Z) Z (e _ _ Z) WF ab.E' Y q)) Z (dR 1 Z ?_);refine dq (.p (eB WK)) [60,65] Z (λ _ e _ q=>al Z (bQ (HP.c e23) Z Z Z (aG (e _ _ Z) (aG (e _ _ Z) bp)) ⟨sr,sr,trivial⟩ HE.e Z q)) Z (dR 1 Z ?_);exact aB
  exact aB
 exact aB
def fR (a_0:List Bk)(T':List Bk):Nat->Int->Option (Unit⊕Bool)|0,_=>none|m+1,i8=>if i8<(a_0.length:Int) then ck ((0:Int)<=i8/\i8<(a_0.length:Int))<|ck ((0:Int)<=i8/\i8<(T'.length:Int))<|if lat a_0 i8=lat T' i8 then ck (inR (i8+1))<|fR a_0 T' m (i8+1)else some (.inr false)else some (.inl ())
def pi (n:Nat)(a_0:List Bk)(T':List Bk):Option Bool :=if (a_0.length:Int)=(T'.length:Int) then jn (fR a_0 T' n 0) λ Xe=>some true else some false
instance Ov (n:Nat) (a_0:List Bk) (T':List Bk):∀ (r:Bool),HP (pi n a_0 T'=some r) Tryz.prog 38 [eL eS a_0,eL eS T'] (.p (eB r)):=by
 refine hP good Tryz.func38 Z Z λ r h0 _ w0=>?_;unfold pi at h0;refine nx 8 Z (oLl (f:=eS) Z Z ?_);refine nx 1 Z (oLl (f:=eS) Z Z ?_);refine nx 2 Z (fN [10] h0 Z (λ c1 h0=>?_) λ c1 h0=>?_)
 ·refine nx 8 rfl ?_;obtain ⟨ZO,h1,Vp,hR0⟩:=bJ h0;refine kEx 0 (λ Yr:Unit=>ZO=.inl Yr) (λ Yr=>⟨[],[]⟩) (λ Yr hv=>?_) ?_
  ·exact eW
  refine lG (λ (YB:Int)=>⟨[(0,.p (eL eS a_0)),(1,.p (eL eS T')),(5,.p (eI YB))],[]⟩) (λ m (YB:Int)=>fR a_0 T' m YB) Y 0 h1 (gE rfl rfl) ?_;rintro m i8 h1;replace h1:fR a_0 T' (m+1) i8=some ZO:=h1;rw [fR] at h1;refine nx 5 rfl (oLl (f:=eS) rfl rfl ?_);refine nx 2 rfl (fD [14] h1 rfl (λ c9 h1=>?_) λ c9 h1=>?_)
  ·refine nx 5 Z (cc' h1 λ Wb h1=>?_);refine cc' h1 λ WP h1=>mD [(0,.p (eL eS a_0)),(1,.p (eL eS T')),(5,.p (eI i8))] Z ⟨Z,Z,Z,trivial⟩ Z (dR 2 Z ?_);refine dq (.rptr [eS (lat a_0 i8)]) [17,18] Z (λ _ e _ q=>al Z (dh (f:=eS) (l:=a_0) (λ x=>[eS x]) Z Z Z Z Z Z (e _ _ Z) Z (e _ _ Z) Wb Y Y q)) Z (dR 3 Z ?_);refine dq (.rptr [eS (lat T' i8)]) [21,22] Z (λ _ e _ q=>al Z (dh (f:=eS) (l:=T') (λ x=>[eS x]) Z Z Z Z Z Z (e _ _ Z) Z (e _ _ Z) WP Y Y q)) Z (dR 1 Z ?_);refine dq (.p (eB (!decide (lat a_0 i8=lat T' i8)))) [20,24] Z (λ _ e _ q=>al Z (ko Z Z Z (e _ _ Z) (e _ _ Z) Z q)) Z (dE Z ?_);exact aB
  exact aB
 exact J0
def de (n:Nat)(a_0:av)(T':av):Nat->Int->Option (Unit⊕Bool)|0,_=>none|m+1,i16=>if i16<(a_0.B'.length:Int) then(ck ((0:Int)<=i16/\i16<(a_0.B'.length:Int))<|ck ((0:Int)<=i16/\i16<(T'.B'.length:Int))<|if (lat a_0.B' i16).AT=(lat T'.B' i16).AT then ck ((0:Int)<=i16/\i16<(a_0.B'.length:Int))<|ck ((0:Int)<=i16/\i16<(T'.B'.length:Int))<|(dm n ((lat a_0.B' i16).I') ((lat T'.B' i16).I')).bind λ VC=>some (!VC)else some true).bind λ t25=>if t25=true then some (.inr false)else ck (inR (i16+1))<|de n a_0 T' m (i16+1)else some (.inl ())
def dc (n:Nat)(VR:av->av->Option Bool)(a_0:av)(T':av):Nat->Int->Option (Unit⊕Bool)|0,_=>none|m+1,i46=>if i46<(a_0.By.length:Int) then(ck ((0:Int)<=i46/\i46<(a_0.By.length:Int))<|ck ((0:Int)<=i46/\i46<(T'.By.length:Int))<|if (lat a_0.By i46).Mr=(lat T'.By i46).Mr then ck ((0:Int)<=i46/\i46<(a_0.By.length:Int))<|ck ((0:Int)<=i46/\i46<(T'.By.length:Int))<|(pi n ((lat a_0.By i46).J') ((lat T'.By i46).J')).bind λ V'=>if (!V')=true then some true else ck ((0:Int)<=i46/\i46<(a_0.By.length:Int))<|ck ((0:Int)<=i46/\i46<(T'.By.length:Int))<|(VR ((lat a_0.By i46).Mp) ((lat T'.By i46).Mp)).bind λ Wr=>some (!Wr)else some true).bind λ t60=>if t60=true then some (.inr false)else ck (inR (i46+1))<|dc n VR a_0 T' m (i46+1)else some (.inl ())
def dQ:Nat->av->av->Option Bool|0,_,_=>none|n+1,a_0,T'=>(if (a_0.B'.length:Int)=(T'.B'.length:Int) then some (!decide ((a_0.By.length:Int)=(T'.By.length:Int)))else some true).bind λ t2=>if t2=true then some false else jn (de n a_0 T' n 0) λ Yf=>jn (dc n (dQ n) a_0 T' n 0) λ q67=>some true
instance ED (n:Nat):∀ (a_0:av) (T':av) (r:Bool),HP (dQ n a_0 T'=some r) Tryz.prog 13 [.agg (av.cs a_0),.agg (av.cs T')] (.p (eB r)):=by
 induction n with
 | zero=>exact Zr
 | succ n ih=>
 refine λ a_0 T'=>hP good Tryz.func13 Z Z λ r h0 _ w0=>?_;rw [dQ] at h0;refine nx 8 Z (bd h0 λ Wm h1 h0=>?_);refine kN Wm (λ ZR=>⟨[(2,.ptr 2 0),(3,.ptr 3 0),(22,.p (eB ZR))],[(2,(av.cs a_0).map .p),(3,(av.cs T').map .p)]⟩) ?_ ?_
 ·refine nx 1 Z (fB [22] h0 Z (λ c3 h0=>?_) λ c3 h0=>?_)
  ·exact J0
  refine nx 8 rfl ?_;obtain ⟨o71,h1,Vp,hR0⟩:=bJ h0;refine kEx 0 (λ XK:Unit=>o71=.inl XK) (λ XK=>⟨[(2,.ptr 2 0),(3,.ptr 3 0)],[(2,(av.cs a_0).map .p),(3,(av.cs T').map .p)]⟩) (λ XK hv=>?_) ?_
  ·have h0:=Vp _ hv;refine nx 7 rfl ?_;obtain ⟨ZK,h1,Vp,hR0⟩:=bJ h0;refine kEx 2 (λ XB:Unit=>ZK=.inl XB) (λ XB=>⟨[],[]⟩) (λ XB hv=>?_) ?_
   ·exact eW
   refine lG (λ (XC:Int)=>⟨[(2,.ptr 2 0),(3,.ptr 3 0),(6,.p (eI XC))],[(2,(av.cs a_0).map .p),(3,(av.cs T').map .p)]⟩) (λ m (XC:Int)=>dc n (dQ n) a_0 T' m XC) Y 0 h1 (gE rfl rfl) ?_;rintro m i46 h1;replace h1:dc n (dQ n) a_0 T' (m+1) i46=some ZK:=h1;rw [dc] at h1;refine nx 6 rfl (oLl (f:=aI) rfl rfl ?_);refine nx 2 rfl (fD [63] h1 rfl (λ Zy h1=>?_) λ Zy h1=>?_)
   ·refine nx 5 Z (bd h1 λ Y5 h2 h1=>?_);refine kN Y5 (λ XS=>⟨[(2,.ptr 2 0),(3,.ptr 3 0),(6,.p (eI i46)),(110,.p (eB XS))],[(2,(av.cs a_0).map .p),(3,(av.cs T').map .p)]⟩) ?_ ?_
    ·exact aB
    refine cc' h2 λ XD h2=>cc' h2 λ Zs h2=>fN (p:=(lat a_0.By i46).Mr=(lat T'.By i46).Mr) [] h2 Z (λ Yn h2=>?_) λ Yn h2=>?_
    ·refine cc' h2 λ YN h2=>cc' h2 λ YM h2=>bd h2 λ V' Y8 h2=>fB (p:=!V') [] h2 Z (λ c55 h2=>?_) λ c55 h2=>?_
     ·refine mD [(2,.ptr 2 0),(3,.ptr 3 0),(6,.p (eI i46))] Z ⟨Z,Z,Z,trivial⟩ Z (dR 3 Z ?_);refine dq (.rptr (au.cs (lat a_0.By i46))) [67,68] Z (λ _ e _ q=>al Z (dh (f:=aI) (l:=a_0.By) au.cs Z Z Z Z Z Z (e _ _ Z) Z (e _ _ Z) XD au.E' Y q)) Z (dR 5 Z ?_);refine dq (.rptr (au.cs (lat T'.By i46))) [73,74] Z (λ _ e _ q=>al Z (dh (f:=aI) (l:=T'.By) au.cs Z Z Z Z Z Z (e _ _ Z) Z (e _ _ Z) Zs au.E' Y q)) Z (dR 2 Z ?_);refine dq (.p (eB (!decide ((lat a_0.By i46).Mr=(lat T'.By i46).Mr)))) [71,77] Z (λ _ e _ q=>al Z (ko Z Z Z (e _ _ Z) (e _ _ Z) Z q)) Z (dL (uK Yn) Z ?_);refine dR 3 Z (dq (.rptr (au.cs (lat a_0.By i46))) [79,81,82] Z (λ _ e _ q=>cO (dh (f:=aI) (l:=a_0.By) au.cs Z Z Z Z Z Z (e _ _ Z) Z (e _ _ Z) YN au.E' Y q) Z Z (e _ _ Z) (rfl)) Z ?_);refine dR 5 Z (dq (.rptr (au.cs (lat T'.By i46))) [79,87,88] Z (λ _ e _ q=>cO (dh (f:=aI) (l:=T'.By) au.cs Z Z Z Z Z Z (e _ _ Z) Z (e _ _ Z) YM au.E' Y q) Z Z (e _ _ Z) (rfl)) Z ?_);refine dR 2 Z (dq (.p (eB V')) [79,85,91] Z (λ _ e _ q=>cO (bQ (HP.c Y8) Z Z Z (aG (e _ _ Z) (aG (e _ _ Z) bp)) ⟨sr,sr,trivial⟩ HE.e Z q) Z Z (e _ _ Z) (rfl)) Z ?_);refine dL (c55) Z (dR 17 Z ?_);exact dj
     refine cc' h2 λ YL h2=>cc' h2 λ X3 h2=>bd h2 λ Wr e59 h2=>mD [(2,.ptr 2 0),(3,.ptr 3 0),(6,.p (eI i46))] Z ⟨Z,Z,Z,trivial⟩ Z (dR 3 Z ?_);refine dq (.rptr (au.cs (lat a_0.By i46))) [67,68] Z (λ _ e _ q=>al Z (dh (f:=aI) (l:=a_0.By) au.cs Z Z Z Z Z Z (e _ _ Z) Z (e _ _ Z) XD au.E' Y q)) Z (dR 5 Z ?_);refine dq (.rptr (au.cs (lat T'.By i46))) [73,74] Z (λ _ e _ q=>al Z (dh (f:=aI) (l:=T'.By) au.cs Z Z Z Z Z Z (e _ _ Z) Z (e _ _ Z) Zs au.E' Y q)) Z (dR 2 Z ?_);refine dq (.p (eB (!decide ((lat a_0.By i46).Mr=(lat T'.By i46).Mr)))) [71,77] Z (λ _ e _ q=>al Z (ko Z Z Z (e _ _ Z) (e _ _ Z) Z q)) Z (dL (uK Yn) Z ?_);refine dR 3 Z (dq (.rptr (au.cs (lat a_0.By i46))) [79,81,82] Z (λ _ e _ q=>cO (dh (f:=aI) (l:=a_0.By) au.cs Z Z Z Z Z Z (e _ _ Z) Z (e _ _ Z) YN au.E' Y q) Z Z (e _ _ Z) (rfl)) Z ?_);refine dR 5 Z (dq (.rptr (au.cs (lat T'.By i46))) [79,87,88] Z (λ _ e _ q=>cO (dh (f:=aI) (l:=T'.By) au.cs Z Z Z Z Z Z (e _ _ Z) Z (e _ _ Z) YM au.E' Y q) Z Z (e _ _ Z) (rfl)) Z ?_);refine dR 2 Z (dq (.p (eB V')) [79,85,91] Z (λ _ e _ q=>cO (bQ (HP.c Y8) Z Z Z (aG (e _ _ Z) (aG (e _ _ Z) bp)) ⟨sr,sr,trivial⟩ HE.e Z q) Z Z (e _ _ Z) (rfl)) Z ?_);refine dL (c55) Z (dR 5 Z ?_);refine dq (.rptr (au.cs (lat a_0.By i46))) [95,97,98] Z (λ _ e _ q=>cO (dh (f:=aI) (l:=a_0.By) au.cs Z Z Z Z Z Z (e _ _ Z) Z (e _ _ Z) YL au.E' Y q) Z Z (e _ _ Z) (rfl)) Z (dR 5 Z ?_);refine dq (.rptr (au.cs (lat T'.By i46))) [95,103,104] Z (λ _ e _ q=>cO (dh (f:=aI) (l:=T'.By) au.cs Z Z Z Z Z Z (e _ _ Z) Z (e _ _ Z) X3 au.E' Y q) Z Z (e _ _ Z) (rfl)) Z (dR 2 Z ?_);refine dq (.p (eB Wr)) [95,101,107] Z (λ _ e _ q=>cO (bQ (HP.c e59) Z Z Z (aG (e _ _ Z) (aG (e _ _ Z) bp)) ⟨sr,sr,trivial⟩ HE.e Z q) Z Z (e _ _ Z) (rfl)) Z (dR 2 Z ?_);exact dj
    refine mD [(2,.ptr 2 0),(3,.ptr 3 0),(6,.p (eI i46))] Z ⟨Z,Z,Z,trivial⟩ Z (dR 3 Z ?_);refine dq (.rptr (au.cs (lat a_0.By i46))) [67,68] Z (λ _ e _ q=>al Z (dh (f:=aI) (l:=a_0.By) au.cs Z Z Z Z Z Z (e _ _ Z) Z (e _ _ Z) XD au.E' Y q)) Z (dR 5 Z ?_);refine dq (.rptr (au.cs (lat T'.By i46))) [73,74] Z (λ _ e _ q=>al Z (dh (f:=aI) (l:=T'.By) au.cs Z Z Z Z Z Z (e _ _ Z) Z (e _ _ Z) Zs au.E' Y q)) Z (dR 2 Z ?_);refine dq (.p (eB (!decide ((lat a_0.By i46).Mr=(lat T'.By i46).Mr)))) [71,77] Z (λ _ e _ q=>al Z (ko Z Z Z (e _ _ Z) (e _ _ Z) Z q)) Z (dL (AA Yn) Z ?_);exact dj
   exact aB
  refine lG (λ (WN:Int)=>⟨[(2,.ptr 2 0),(3,.ptr 3 0),(5,.p (eI WN))],[(2,(av.cs a_0).map .p),(3,(av.cs T').map .p)]⟩) (λ m (WN:Int)=>de n a_0 T' m WN) Y 0 h1 (gE rfl rfl) ?_;rintro m i16 h1;replace h1:de n a_0 T' (m+1) i16=some o71:=h1;rw [de] at h1;refine nx 6 rfl (oLl (f:=aw) rfl rfl ?_);refine nx 2 rfl (fD [27] h1 rfl (λ Vv h1=>?_) λ Vv h1=>?_)
  ·refine nx 5 Z (bd h1 λ o79 h2 h1=>?_);refine kN o79 (λ v80=>⟨[(2,.ptr 2 0),(3,.ptr 3 0),(5,.p (eI i16)),(58,.p (eB v80))],[(2,(av.cs a_0).map .p),(3,(av.cs T').map .p)]⟩) ?_ ?_
   ·exact aB
   refine cc' h2 λ WG h2=>cc' h2 λ Wv h2=>fN (p:=(lat a_0.B' i16).AT=(lat T'.B' i16).AT) [] h2 Z (λ c20 h2=>?_) λ c20 h2=>?_
   ·refine cc' h2 λ WF h2=>cc' h2 λ WE h2=>bd h2 λ VC e24 h2=>mD [(2,.ptr 2 0),(3,.ptr 3 0),(5,.p (eI i16))] Z ⟨Z,Z,Z,trivial⟩ Z (dR 3 Z ?_);refine dq (.rptr (ai.cs (lat a_0.B' i16))) [31,32] Z (λ _ e _ q=>al Z (dh (f:=aw) (l:=a_0.B') ai.cs Z Z Z Z Z Z (e _ _ Z) Z (e _ _ Z) WG ai.E' Y q)) Z (dR 5 Z ?_);refine dq (.rptr (ai.cs (lat T'.B' i16))) [37,38] Z (λ _ e _ q=>al Z (dh (f:=aw) (l:=T'.B') ai.cs Z Z Z Z Z Z (e _ _ Z) Z (e _ _ Z) Wv ai.E' Y q)) Z (dR 2 Z ?_);refine dq (.p (eB (!decide ((lat a_0.B' i16).AT=(lat T'.B' i16).AT)))) [35,41] Z (λ _ e _ q=>al Z (ko Z Z Z (e _ _ Z) (e _ _ Z) Z q)) Z (dL (uK c20) Z ?_);refine dR 3 Z (dq (.rptr (ai.cs (lat a_0.B' i16))) [43,45,46] Z (λ _ e _ q=>cO (dh (f:=aw) (l:=a_0.B') ai.cs Z Z Z Z Z Z (e _ _ Z) Z (e _ _ Z) WF ai.E' Y q) Z Z (e _ _ Z) (rfl)) Z ?_);refine dR 5 Z (dq (.rptr (ai.cs (lat T'.B' i16))) [43,51,52] Z (λ _ e _ q=>cO (dh (f:=aw) (l:=T'.B') ai.cs Z Z Z Z Z Z (e _ _ Z) Z (e _ _ Z) WE ai.E' Y q) Z Z (e _ _ Z) (rfl)) Z ?_);refine dR 2 Z (dq (.p (eB VC)) [43,49,55] Z (λ _ e _ q=>cO (bQ (HP.c e24) Z Z Z (aG (e _ _ Z) (aG (e _ _ Z) bp)) ⟨sr,sr,trivial⟩ HE.e Z q) Z Z (e _ _ Z) (rfl)) Z ?_);exact dj
   refine mD [(2,.ptr 2 0),(3,.ptr 3 0),(5,.p (eI i16))] Z ⟨Z,Z,Z,trivial⟩ Z (dR 3 Z ?_);refine dq (.rptr (ai.cs (lat a_0.B' i16))) [31,32] Z (λ _ e _ q=>al Z (dh (f:=aw) (l:=a_0.B') ai.cs Z Z Z Z Z Z (e _ _ Z) Z (e _ _ Z) WG ai.E' Y q)) Z (dR 5 Z ?_);refine dq (.rptr (ai.cs (lat T'.B' i16))) [37,38] Z (λ _ e _ q=>al Z (dh (f:=aw) (l:=T'.B') ai.cs Z Z Z Z Z Z (e _ _ Z) Z (e _ _ Z) Wv ai.E' Y q)) Z (dR 2 Z ?_);refine dq (.p (eB (!decide ((lat a_0.B' i16).AT=(lat T'.B' i16).AT)))) [35,41] Z (λ _ e _ q=>al Z (ko Z Z Z (e _ _ Z) (e _ _ Z) Z q)) Z (dL (AA c20) Z ?_);exact dj
  exact aB
 exact aB
end Go.Ab.R06
end
section
namespace Go.Ab.R06
open Go.Proofs Go.Ab Go.Ab.RB
variable {p:Prop}
theorem tJ (h:p:=by exact ac G):p:=h
set_option maxRecDepth 4000
attribute [local irreducible] awp iH bu bA cj AV.sub M cN
def fq (O':Bk):Nat->Int->(List UInt8)->Option (List UInt8)|0,_,_=>none|m+1,t37,VL=>if t37<(O'.length:Int) then ck ((0:Int)<=t37/\t37<(O'.length:Int))<|(if byt O' t37=10 then(aR (aC.mk VL) ([92,110]:Bk)).bind λ V2=>some V2.2.2.If else if byt O' t37=13 then(aR (aC.mk VL) ([92,114]:Bk)).bind λ Ws=>some Ws.2.2.If else if byt O' t37=9 then(aR (aC.mk VL) ([92,116]:Bk)).bind λ WT=>some WT.2.2.If else(if byt O' t37=34 then some true else some (decide (byt O' t37=92))).bind λ t51=>if t51=true then(bE (aC.mk VL) 92).bind λ V'=>(bE (aC.mk V'.2.If) (byt O' t37)).bind λ Xc=>some Xc.2.If else(if byt O' t37<32 then some true else some (decide (byt O' t37=127))).bind λ t58=>if t58=true then ck (inR (byt O' t37))<|(jL (byt O' t37) 16).bind λ VN=>ck (([92,117,123]:Bk).length+VN.length<=9223372036854775807)<|ck ((([92,117,123]:Bk)++VN).length+([125]:Bk).length<=9223372036854775807)<|(aR (aC.mk VL) ((([92,117,123]:Bk)++VN)++([125]:Bk))).bind λ Z3=>some Z3.2.2.If else(bE (aC.mk VL) (byt O' t37)).bind λ r67=>some r67.2.If).bind λ f69=>ck (inR (t37+1))<|fq O' m (t37+1) f69 else some VL
def j8 (n:Nat)(O':Bk):Option Bk :=(bE (aC.mk []) 34).bind λ r1=>(fq O' n 0 r1.2.If).bind λ f73=>(bE (aC.mk f73) 34).bind λ Z0=>(db (aC.mk Z0.2.If)).bind λ r76=>some r76.1
instance I0 (n:Nat) (O':Bk):∀ (r:Bk),HP (j8 n O'=some r) Tryz.prog 58 [eS O'] (.p (eS r)):=by
 refine hP good Tryz.func58 Z Z λ r h0 _ w0=>?_;unfold j8 at h0;refine nx 6 Z (mO Z (sx Z Z Z Z Z Z Z ?_));refine nx 3 Z (bd h0 λ r1 e2 h0=>?_);refine mO Z (bq [3] [890000] 101000 101001 (cb (aC.mk []) 34 _ e2) Z Z Z Z Z ⟨sr,sr,trivial⟩ Z Z ⟨⟨_,Z,⟨sr,AV.sub_nilvec _ _ _,trivial⟩⟩,trivial⟩ Z Z Z Z Z Z Z Z HE.e Z Z ?_);refine nx 5 Z (oLs Z ?_);refine nx 3 Z (bd h0 λ o82 h1 h0=>?_);refine kE 0 o82 (λ v83=>⟨[(3,.ptr 3 0)],[(3,[.bptr 70 2 3,.vec 108000 1 (5+1) (v83.map eU)])]⟩) ?_ ?_
 ·refine nx 3 Z (bd h0 λ Z0 e75 h0=>?_);refine mO Z (cVq [3] [108000] 116000 116001 (cb (aC.mk o82) 34 _ e75) HE.e Z ?_);refine nx 3 Z (bd h0 λ r76 e77 h0=>?_);refine mO Z (cVq [3] [116000] 117000 117000 (fv (aC.mk Z0.2.If) _ e77) HE.e Z ?_);exact J0
 refine lG (λ (Wz:Int×(List UInt8))=>⟨[(0,.p (eS O')),(3,.ptr 3 0),(8,.p (eI (O'.length:Int))),(9,.p (eI Wz.1))],[(3,[.bptr 70 2 3,.vec 108000 1 (5+1) (Wz.2.map eU)])]⟩) (λ m (Wz:Int×(List UInt8))=>fq O' m Wz.1 Wz.2) Y (0,r1.2.If) h1 (aJ (aS 101000 108000 rfl rfl rfl rfl rfl) (gE rfl rfl)) ?_;rintro m ⟨t37,VL⟩ h1;replace h1:fq O' (m+1) t37 VL=some o82:=h1;rw [fq] at h1;refine nx 5 rfl (fD [10] h1 rfl (λ YU h1=>?_) λ YU h1=>?_)
 ·refine nx 13 Z (oI h1 Z λ XE h1=>?_);refine nx 2 Z (bd h1 λ o85 h2 h1=>?_);refine kN o85 (λ XJ=>⟨[(0,.p (eS O')),(3,.ptr 3 0),(8,.p (eI (O'.length:Int))),(9,.p (eI t37))],[(3,[.bptr 70 2 3,.vec 115000 1 (5+1) (XJ.map eU)])]⟩) ?_ ?_
  ·refine nx 2 Z (oA h1 Z Z λ abE h1=>?_);exact nx 2 Z (eX (t37+1,o85) h1 (aJ (aS 115000 108000 Z Z Z Z Z) (gE Z Z)))
  refine nx 7 Z (fD [17,19] h2 Z (λ c41 h2=>?_) λ c41 h2=>?_)
  ·refine nx 2 Z (bd h2 λ V2 e43 h2=>?_);refine mO Z (cVq [3] [108000] 109000 109001 (bj (aC.mk VL) ([92,110]:Bk) _ e43) HE.e Z ?_);exact nx 1 Z (eX _ (oi h2).symm (aJ (aS 109000 115000 Z Z Z Z Z) (gE Z Z)))
  refine nx 7 Z (fD [21,23] h2 Z (λ Zz h2=>?_) λ Zz h2=>?_)
  ·refine nx 2 Z (bd h2 λ Ws Zw h2=>?_);refine mO Z (cVq [3] [108000] 110000 110001 (bj (aC.mk VL) ([92,114]:Bk) _ Zw) HE.e Z ?_);exact nx 1 Z (eX _ (oi h2).symm (aJ (aS 110000 115000 Z Z Z Z Z) (gE Z Z)))
  refine nx 7 Z (fD [25,27] h2 Z (λ Zy h2=>?_) λ Zy h2=>?_)
  ·refine nx 2 Z (bd h2 λ WT e49 h2=>?_);refine mO Z (cVq [3] [108000] 111000 111001 (bj (aC.mk VL) ([92,116]:Bk) _ e49) HE.e Z ?_);exact nx 1 Z (eX _ (oi h2).symm (aJ (aS 111000 115000 Z Z Z Z Z) (gE Z Z)))
  refine nx 2 Z (bd h2 λ o87 h3 h2=>?_);refine kN o87 (λ v88=>⟨[(0,.p (eS O')),(3,.ptr 3 0),(5,.p (eK .u8 (byt O' t37))),(8,.p (eI (O'.length:Int))),(9,.p (eI t37)),(29,.p (eB v88))],[(3,[.bptr 70 2 3,.vec 108000 1 (5+1) (VL.map eU)])]⟩) ?_ ?_
  ·refine nx 1 Z (fB [29] h2 Z (λ c52 h2=>?_) λ c52 h2=>?_)
   ·refine nx 3 Z (bd h2 λ V' Y8 h2=>?_);refine mO Z (cVq [3] [108000] 112000 112001 (cb (aC.mk VL) 92 _ Y8) HE.e Z ?_);refine nx 3 Z (bd h2 λ Xc e56 h2=>?_);refine mO Z (cVq [3] [112000] 113000 113001 (cb (aC.mk V'.2.If) (byt O' t37) _ e56) HE.e Z ?_);exact nx 1 Z (eX _ (oi h2).symm (aJ (aS 113000 115000 Z Z Z Z Z) (gE Z Z)))
   refine nx 2 Z (bd h2 λ Y4 h3 h2=>?_);refine kN Y4 (λ Za=>⟨[(0,.p (eS O')),(3,.ptr 3 0),(5,.p (eK .u8 (byt O' t37))),(8,.p (eI (O'.length:Int))),(9,.p (eI t37)),(39,.p (eB Za))],[(3,[.bptr 70 2 3,.vec 108000 1 (5+1) (VL.map eU)])]⟩) ?_ ?_
   ·refine nx 1 Z (fB [39] h2 Z (λ c59 h2=>?_) λ c59 h2=>?_)
    ·refine nx 3 Z (cc' h2 λ Xj h2=>?_);refine mO Z (gY Z Z Z Z Z Z Z Z (mi Xj) ?_);refine bd h2 λ VN e62 h2=>oK (rn (byt O' t37) 16 _ e62) Z ⟨sr,sr,trivial⟩ HE.e Z (oC h2 Z λ Zo h2=>?_);refine oC h2 Z λ Zn h2=>bd h2 λ Z3 e66 h2=>mO Z (cVq [3] [108000] 114000 114001 (bj (aC.mk VL) ((([92,117,123]:Bk)++VN)++([125]:Bk)) _ e66) HE.e Z ?_);exact nx 1 Z (eX _ (oi h2).symm (aJ (aS 114000 115000 Z Z Z Z Z) (gE Z Z)))
    refine nx 3 Z (bd h2 λ r67 e68 h2=>?_);refine mO Z (cVq [3] [108000] 115000 115001 (cb (aC.mk VL) (byt O' t37) _ e68) HE.e Z ?_);exact dj
   refine nx 4 Z (fD [41,42] h3 Z (λ c57 h3=>?_) λ c57 h3=>?_)
   ·exact tu
   exact tu
  refine nx 4 Z (fD [31,32] h3 Z (λ Yn h3=>?_) λ Yn h3=>?_)
  ·exact tu
  exact tu
 exact aB
def kH (O':Bk):Option Bk :=(strings_ReplaceAll O' ([36,123]:Bk) ([36,36,123]:Bk)).bind λ r1=>some r1
instance IJ (O':Bk):∀ (r:Bk),HP (kH O'=some r) Tryz.prog 80 [eS O'] (.p (eS r)):=by
 refine hP good Tryz.func80 Z Z λ r h0 _ w0=>?_;unfold kH at h0;exact J0
def kF (Xx:Int):Option Bk :=(strconv_Itoa Xx).bind λ r1=>some r1
instance Iz (Xx:Int):∀ (r:Bk),HP (kF Xx=some r) Tryz.prog 50 [eI Xx] (.p (eS r)):=by
 refine hP good Tryz.func50 Z Z λ r h0 _ w0=>?_;unfold kF at h0;exact J0
set_option maxRecDepth 4000
abbrev uk (F:ab->Option (Bk))(k:Nat):Prop:=∀ (a0:ab) (r:Bk),HP (F a0=some r) Tryz.prog k [.agg (ab.cs a0)] (.p (eS r))
abbrev xh (F:List ab->Option (Bk))(k:Nat):Prop:=∀ (a0:List ab) (r:Bk),HP (F a0=some r) Tryz.prog k [eL ao a0] (.p (eS r))
def jG (n:Nat)(O':Bk):Option Bk :=(kH O').bind λ r1=>(j8 n r1).bind λ r3=>ck (inR ((r3.length:Int)-1))<|ck ((0:Int)<=1/\1<=(r3.length:Int)-1/\(r3.length:Int)-1<=(r3.length:Int))<|some (sub r3 1 ((r3.length:Int)-1))
instance Ib (n:Nat) (O':Bk):∀ (r:Bk),HP (jG n O'=some r) Tryz.prog 51 [eS O'] (.p (eS r)):=by
 refine hP good Tryz.func51 Z Z λ r h0 _ w0=>?_;unfold jG at h0;exact J0
def jN (n:Nat)(UZ:ag):Option Bk :=if UZ.Ar=1 then if UZ.G'=1 then some ([116,114,117,101]:Bk)else some ([102,97,108,115,101]:Bk)else if UZ.Ar=2 then(kF UZ.G').bind λ r4=>some r4 else if UZ.Ar=3 then(jG n UZ.D').bind λ r7=>ck (([34]:Bk).length+r7.length<=9223372036854775807)<|ck ((([34]:Bk)++r7).length+([34]:Bk).length<=9223372036854775807)<|some ((([34]:Bk)++r7)++([34]:Bk))else some ([110,117,108,108]:Bk)
instance Gz (n:Nat) (UZ:ag):∀ (r:Bk),HP (jN n UZ=some r) Tryz.prog 21 [.agg (ag.cs UZ)] (.p (eS r)):=by
 refine hP good Tryz.func21 Z Z λ r h0 _ w0=>?_;unfold jN at h0;exact J0
def mc (US:ab):Option Bool :=(if US.Ar=1 then if US.BY.Ar=3 then some (!decide (US.BY.D'=([]:Bk)))else some false else some false).bind λ t3=>some t3
instance IZ (US:ab):∀ (r:Bool),HP (mc US=some r) Tryz.prog 53 [.agg (ab.cs US)] (.p (eB r)):=by
 refine hP good Tryz.func53 Z Z λ r h0 _ w0=>?_;unfold mc at h0;exact mM
def eb (O':Bk):Nat->Int->Option (Unit⊕Bool)|0,_=>none|m+1,Vz=>if Vz<(O'.length:Int) then ck ((0:Int)<=Vz/\Vz<(O'.length:Int))<|(ck ((0:Int)<=Vz/\Vz<(O'.length:Int))<|if byt O' Vz=95 then some false else if iOr .u8 (byt O' Vz) 32<97 then if Vz=0 then some true else ck ((0:Int)<=Vz/\Vz<(O'.length:Int))<|if byt O' Vz<48 then some true else ck ((0:Int)<=Vz/\Vz<(O'.length:Int))<|some (decide (57<byt O' Vz))else if 122<iOr .u8 (byt O' Vz) 32 then if Vz=0 then some true else ck ((0:Int)<=Vz/\Vz<(O'.length:Int))<|if byt O' Vz<48 then some true else ck ((0:Int)<=Vz/\Vz<(O'.length:Int))<|some (decide (57<byt O' Vz))else some false).bind λ t34=>if t34=true then some (.inr false)else ck (inR (Vz+1))<|eb O' m (Vz+1)else some (.inl ())
def nW (n:Nat)(O':Bk):Option Bool :=jn (eb O' n 0) λ W3=>(if O'=([]:Bk) then some true else if O'=([110,117,108,108]:Bk) then some true else if O'=([116,114,117,101]:Bk) then some true else if O'=([102,97,108,115,101]:Bk) then some true else if O'=([102,111,114]:Bk) then some true else if O'=([105,110]:Bk) then some true else some (decide (O'=([105,102]:Bk)))).bind λ t44=>if t44=true then some false else some (decide ((O'.length:Int)<=64))
instance J1 (n:Nat) (O':Bk):∀ (r:Bool),HP (nW n O'=some r) Tryz.prog 84 [eS O'] (.p (eB r)):=by
 refine hP good Tryz.func84 Z Z λ r h0 _ w0=>?_;unfold nW at h0;refine nx 8 rfl (oLs rfl ?_);refine nx 3 rfl ?_;obtain ⟨o49,h1,Vp,hR0⟩:=bJ h0;refine kEx 0 (λ v50:Unit=>o49=.inl v50) (λ v50=>⟨[(0,.p (eS O'))],[]⟩) (λ v50 hv=>?_) ?_
 ·have h0:=Vp _ hv;have:=js [901];have:=jS 901 Bool λ v=>[(44,.p (eB v))]
  exact J0
 refine lG (λ (q53:Int)=>⟨[(0,.p (eS O')),(6,.p (eI (O'.length:Int))),(7,.p (eI q53))],[]⟩) (λ m (q53:Int)=>eb O' m q53) Y 0 h1 (gE rfl rfl) ?_;rintro m Vz h1;replace h1:eb O' (m+1) Vz=some o49:=h1;rw [eb] at h1;have:=js [500];have:=jS 500 Bool λ v=>[(41,.p (eB v))]
 exact aB
def ka (US:ab):Option Int :=if US.Ar=8 then some 0 else if US.Ar=6 then some 7 else if US.Ar=7 then if US.fOp=3 then some 1 else if US.fOp=4 then some 2 else if US.fOp<=6 then some 3 else if US.fOp<=10 then some 4 else if US.fOp<=12 then some 5 else some 6 else some 8
instance I4 (US:ab):∀ (r:Int),HP (ka US=some r) Tryz.prog 27 [.agg (ab.cs US)] (.p (eI r)):=by
 refine hP good Tryz.func27 Z Z λ r h0 _ w0=>?_;unfold ka at h0;exact J0
def lw (o_0:Int):Option Bk :=(if o_0<0 then some true else some (decide (16<=o_0))).bind λ t2=>if t2=true then some ([]:Bk)else ck ((0:Int)<=o_0/\o_0<16)<|some (lat ([([]:Bk),([33]:Bk),([45]:Bk),([124,124]:Bk),([38,38]:Bk),([61,61]:Bk),([33,61]:Bk),([60]:Bk),([60,61]:Bk),([62]:Bk),([62,61]:Bk),([43]:Bk),([45]:Bk),([42]:Bk),([47]:Bk),([37]:Bk)]:List Bk) o_0)
instance Ka (o_0:Int):∀ (r:Bk),HP (lw o_0=some r) Tryz.prog 26 [eI o_0] (.p (eS r)):=by
 refine hP good Tryz.func26 Z Z λ r h0 _ w0=>?_;unfold lw at h0;refine nx 12 Z (bd h0 λ o6 h1 h0=>?_);refine kN o6 (λ v7=>⟨[(0,.p (eI o_0)),(3,.ptr 3 0),(10,.p (eB v7))],[(3,[.p (eS ([]:Bk)),.p (eS ([33]:Bk)),.p (eS ([45]:Bk)),.p (eS ([124,124]:Bk)),.p (eS ([38,38]:Bk)),.p (eS ([61,61]:Bk)),.p (eS ([33,61]:Bk)),.p (eS ([60]:Bk)),.p (eS ([60,61]:Bk)),.p (eS ([62]:Bk)),.p (eS ([62,61]:Bk)),.p (eS ([43]:Bk)),.p (eS ([45]:Bk)),.p (eS ([42]:Bk)),.p (eS ([47]:Bk)),.p (eS ([37]:Bk))])]⟩) ?_ ?_
 ·refine nx 1 Z (fB [10] h0 Z (λ c3 h0=>?_) λ c3 h0=>?_)
  ·exact J0
  refine nx 5 Z (cc' h0 λ XP h0=>?_);refine mO Z (cI Z Z Z Z Z Z Z Z Z XP ?_);refine mO Z (Lc (default:Bk) (f:=eS) (l:=[([]:Bk),([33]:Bk),([45]:Bk),([124,124]:Bk),([38,38]:Bk),([61,61]:Bk),([33,61]:Bk),([60]:Bk),([60,61]:Bk),([62]:Bk),([62,61]:Bk),([43]:Bk),([45]:Bk),([42]:Bk),([47]:Bk),([37]:Bk)]) Z Z Z Z Z Z Z (by have:=XP; simp only [aq,List.length_nil]; omega) ?_);exact J0
 exact aB
def dd (n:Nat)(Vb:ab->Option Bk)(l_0:List ab):Nat->Bool->Int->(List UInt8)->Option (List UInt8)|0,_,_,_=>none|m+1,text38,Wn,VY=>if Wn<(l_0.length:Int) then(ck ((0:Int)<=Wn/\Wn<(l_0.length:Int))<|((mc (lat l_0 Wn)).bind λ Yc=>if Yc=true then if (!text38)=true then some (decide (1<(l_0.length:Int)))else some false else some false).bind λ text47=>if (!text47)=true then(Vb (lat l_0 Wn)).bind λ Wa=>ck (([36,123]:Bk).length+Wa.length<=9223372036854775807)<|ck ((([36,123]:Bk)++Wa).length+([125]:Bk).length<=9223372036854775807)<|(aR (aC.mk VY) ((([36,123]:Bk)++Wa)++([125]:Bk))).bind λ V'=>some (text47,V'.2.2.If)else((ck (inR ((l_0.length:Int)-1))<|if Wn<(l_0.length:Int)-1 then(strings_HasSuffix (((lat l_0 Wn).BY).D') ([36]:Bk)).bind λ Xb=>some Xb else some false).bind λ t59=>if t59=true then ck (inR (((((lat l_0 Wn).BY).D').length:Int)-1))<|ck ((0:Int)<=0/\0<=((((lat l_0 Wn).BY).D').length:Int)-1/\((((lat l_0 Wn).BY).D').length:Int)-1<=((((lat l_0 Wn).BY).D').length:Int))<|some (sub (((lat l_0 Wn).BY).D') 0 (((((lat l_0 Wn).BY).D').length:Int)-1),([92,117,123,50,52,125]:Bk))else some (((lat l_0 Wn).BY).D',([]:Bk))).bind λ Wz=>(jG n Wz.1).bind λ Z3=>ck (Z3.length+Wz.2.length<=9223372036854775807)<|(aR (aC.mk VY) (Z3++Wz.2)).bind λ Z2=>some (text47,Z2.2.2.If)).bind λ Xd=>ck (inR (Wn+1))<|dd n Vb l_0 m Xd.1 (Wn+1) Xd.2 else some VY
def dG (Vb:ab->Option Bk)(l_0:List ab):Nat->(List Bk)->Int->Option (List Bk)|0,_,_=>none|m+1,XZ,Vn=>if Vn<(l_0.length:Int) then ck ((0:Int)<=Vn/\Vn<(l_0.length:Int))<|(Vb (lat l_0 Vn)).bind λ Ye=>ck ((XZ.length+[Ye].length)*16<=140737488355328)<|ck (inR (Vn+1))<|dG Vb l_0 m (XZ++[Ye]) (Vn+1)else some XZ
def d7 (Vb:ab->Option Bk)(Wq:ab->Option Bk)(l_0:List ab):Nat->(List Bk)->Int->Option (List Bk)|0,_,_=>none|m+1,VU,i17=>ck (inR (i17+1))<|if i17+1<(l_0.length:Int) then ck ((0:Int)<=i17/\i17<(l_0.length:Int))<|(Wq (lat l_0 i17)).bind λ U8=>ck (U8.length+([32,61,32]:Bk).length<=9223372036854775807)<|ck (inR (i17+1))<|ck ((0:Int)<=i17+1/\i17+1<(l_0.length:Int))<|(Vb (lat l_0 (i17+1))).bind λ VI=>ck ((U8++([32,61,32]:Bk)).length+VI.length<=9223372036854775807)<|ck ((VU.length+([(U8++([32,61,32]:Bk))++VI]).length)*16<=140737488355328)<|ck (inR (i17+2))<|d7 Vb Wq l_0 m (VU++([(U8++([32,61,32]:Bk))++VI])) (i17+2)else some VU
mutual
def aK:Nat->ab->Option Bk|0,_=>none|n+1,US=>if US.Ar=1 then(jN n US.BY).bind λ r2=>some r2 else if US.Ar=2 then((jD n) US.A').bind λ r5=>some r5 else if US.Ar=3 then some US.AT else if US.Ar=9 then ck (US.AT.length+([40]:Bk).length<=9223372036854775807)<|((lu n) US.A').bind λ Vg=>ck ((US.AT++([40]:Bk)).length+Vg.length<=9223372036854775807)<|ck (((US.AT++([40]:Bk))++Vg).length+([41]:Bk).length<=9223372036854775807)<|some (((US.AT++([40]:Bk))++Vg)++([41]:Bk))else if US.Ar=10 then((lu n) US.A').bind λ U2=>ck (([91]:Bk).length+U2.length<=9223372036854775807)<|ck ((([91]:Bk)++U2).length+([93]:Bk).length<=9223372036854775807)<|some ((([91]:Bk)++U2)++([93]:Bk))else if US.Ar=11 then((ma n) US.A').bind λ VH=>some VH else(if US.Ar=4 then some (decide ((US.A'.length:Int)=1))else some false).bind λ t23=>if t23=true then ck ((0:Int)<=0/\0<(US.A'.length:Int))<|((jE n) (lat US.A' 0) 8).bind λ VI=>ck (VI.length+([46]:Bk).length<=9223372036854775807)<|ck ((VI++([46]:Bk)).length+US.AT.length<=9223372036854775807)<|some ((VI++([46]:Bk))++US.AT)else(if US.Ar=5 then some (decide ((US.A'.length:Int)=2))else some false).bind λ t31=>if t31=true then ck ((0:Int)<=0/\0<(US.A'.length:Int))<|((jE n) (lat US.A' 0) 8).bind λ Vd=>ck (Vd.length+([91]:Bk).length<=9223372036854775807)<|ck ((0:Int)<=1/\1<(US.A'.length:Int))<|((aK n) (lat US.A' 1)).bind λ Wl=>ck ((Vd++([91]:Bk)).length+Wl.length<=9223372036854775807)<|ck (((Vd++([91]:Bk))++Wl).length+([93]:Bk).length<=9223372036854775807)<|some (((Vd++([91]:Bk))++Wl)++([93]:Bk))else(if US.Ar=6 then some (decide ((US.A'.length:Int)=1))else some false).bind λ t43=>if t43=true then(lw US.fOp).bind λ Ws=>ck ((0:Int)<=0/\0<(US.A'.length:Int))<|((jE n) (lat US.A' 0) 7).bind λ WT=>ck (Ws.length+WT.length<=9223372036854775807)<|some (Ws++WT)else(if US.Ar=7 then some (decide ((US.A'.length:Int)=2))else some false).bind λ t52=>if t52=true then(ka US).bind λ WJ=>ck ((0:Int)<=0/\0<(US.A'.length:Int))<|((jE n) (lat US.A' 0) WJ).bind λ Xb=>ck (Xb.length+([32]:Bk).length<=9223372036854775807)<|(lw US.fOp).bind λ Zg=>ck ((Xb++([32]:Bk)).length+Zg.length<=9223372036854775807)<|ck (((Xb++([32]:Bk))++Zg).length+([32]:Bk).length<=9223372036854775807)<|ck ((0:Int)<=1/\1<(US.A'.length:Int))<|ck (inR (WJ+1))<|((jE n) (lat US.A' 1) (WJ+1)).bind λ WI=>ck ((((Xb++([32]:Bk))++Zg)++([32]:Bk)).length+WI.length<=9223372036854775807)<|some ((((Xb++([32]:Bk))++Zg)++([32]:Bk))++WI)else(if US.Ar=8 then some (decide ((US.A'.length:Int)=3))else some false).bind λ t70=>if t70=true then ck ((0:Int)<=0/\0<(US.A'.length:Int))<|((jE n) (lat US.A' 0) 1).bind λ Xn=>ck (Xn.length+([32,63,32]:Bk).length<=9223372036854775807)<|ck ((0:Int)<=1/\1<(US.A'.length:Int))<|((aK n) (lat US.A' 1)).bind λ XU=>ck ((Xn++([32,63,32]:Bk)).length+XU.length<=9223372036854775807)<|ck (((Xn++([32,63,32]:Bk))++XU).length+([32,58,32]:Bk).length<=9223372036854775807)<|ck ((0:Int)<=2/\2<(US.A'.length:Int))<|((aK n) (lat US.A' 2)).bind λ r82=>ck ((((Xn++([32,63,32]:Bk))++XU)++([32,58,32]:Bk)).length+r82.length<=9223372036854775807)<|some ((((Xn++([32,63,32]:Bk))++XU)++([32,58,32]:Bk))++r82)else(if US.Ar=12 then some (decide (2<=(US.A'.length:Int)))else some false).bind λ Ys=>if Ys=true then((lq n) US).bind λ r88=>ck (([91]:Bk).length+r88.length<=9223372036854775807)<|ck ((([91]:Bk)++r88).length+([93]:Bk).length<=9223372036854775807)<|some ((([91]:Bk)++r88)++([93]:Bk))else(if US.Ar=13 then some (decide (3<=(US.A'.length:Int)))else some false).bind λ t93=>if t93=true then((lq n) US).bind λ r95=>ck (([123]:Bk).length+r95.length<=9223372036854775807)<|ck ((([123]:Bk)++r95).length+([125]:Bk).length<=9223372036854775807)<|some ((([123]:Bk)++r95)++([125]:Bk))else some ([]:Bk)
def jD:Nat->(List ab)->Option Bk|0,_=>none|n+1,l_0=>(bE (aC.mk []) 34).bind λ r1=>(dd n (aK n) l_0 n false 0 r1.2.If).bind λ f76=>(bE (aC.mk f76) 34).bind λ XU=>(db (aC.mk XU.2.If)).bind λ r79=>some r79.1
def lu:Nat->(List ab)->Option Bk|0,_=>none|n+1,l_0=>(dG (aK n) l_0 n [] 0).bind λ abq=>(strings_Join abq ([44,32]:Bk)).bind λ VH=>some VH
def ma:Nat->(List ab)->Option Bk|0,_=>none|n+1,l_0=>(d7 (aK n) (jq n) l_0 n [] 0).bind λ abp=>(strings_Join abp ([44,32]:Bk)).bind λ Vd=>ck (([123]:Bk).length+Vd.length<=9223372036854775807)<|ck ((([123]:Bk)++Vd).length+([125]:Bk).length<=9223372036854775807)<|some ((([123]:Bk)++Vd)++([125]:Bk))
def jE:Nat->ab->Int->Option Bk|0,_,_=>none|n+1,US,n_1=>(ka US).bind λ r1=>if r1<n_1 then((aK n) US).bind λ r4=>ck (([40]:Bk).length+r4.length<=9223372036854775807)<|ck ((([40]:Bk)++r4).length+([41]:Bk).length<=9223372036854775807)<|some ((([40]:Bk)++r4)++([41]:Bk))else((aK n) US).bind λ r8=>some r8
def lq:Nat->ab->Option Bk|0,_=>none|n+1,US=>(if US.It=([]:Bk) then some ([102,111,114,32]:Bk)else ck (US.It.length+([44,32]:Bk).length<=9223372036854775807)<|ck (([102,111,114,32]:Bk).length+(US.It++([44,32]:Bk)).length<=9223372036854775807)<|some (([102,111,114,32]:Bk)++(US.It++([44,32]:Bk)))).bind λ s4=>ck (US.AT.length+([32,105,110,32]:Bk).length<=9223372036854775807)<|ck ((0:Int)<=0/\0<(US.A'.length:Int))<|((aK n) (lat US.A' 0)).bind λ r7=>ck ((US.AT++([32,105,110,32]:Bk)).length+r7.length<=9223372036854775807)<|ck (((US.AT++([32,105,110,32]:Bk))++r7).length+([32,58,32]:Bk).length<=9223372036854775807)<|ck ((0:Int)<=1/\1<(US.A'.length:Int))<|((aK n) (lat US.A' 1)).bind λ Vk=>ck ((((US.AT++([32,105,110,32]:Bk))++r7)++([32,58,32]:Bk)).length+Vk.length<=9223372036854775807)<|ck (s4.length+((((US.AT++([32,105,110,32]:Bk))++r7)++([32,58,32]:Bk))++Vk).length<=9223372036854775807)<|ck ((0:Int)<=2/\2<=(US.A'.length:Int)/\(US.A'.length:Int)<=(US.A'.length:Int))<|(if US.Ar=13 then ck ((0:Int)<=0/\0<((sub US.A' 2 (US.A'.length:Int)).length:Int))<|((aK n) (lat (sub US.A' 2 (US.A'.length:Int)) 0)).bind λ Yu=>ck (([32,61,62,32]:Bk).length+Yu.length<=9223372036854775807)<|ck ((s4++((((US.AT++([32,105,110,32]:Bk))++r7)++([32,58,32]:Bk))++Vk)).length+(([32,61,62,32]:Bk)++Yu).length<=9223372036854775807)<|ck ((0:Int)<=1/\1<=((sub US.A' 2 (US.A'.length:Int)).length:Int)/\((sub US.A' 2 (US.A'.length:Int)).length:Int)<=((sub US.A' 2 (US.A'.length:Int)).length:Int))<|some ((s4++((((US.AT++([32,105,110,32]:Bk))++r7)++([32,58,32]:Bk))++Vk))++(([32,61,62,32]:Bk)++Yu),sub (sub US.A' 2 (US.A'.length:Int)) 1 ((sub US.A' 2 (US.A'.length:Int)).length:Int))else some (s4++((((US.AT++([32,105,110,32]:Bk))++r7)++([32,58,32]:Bk))++Vk),sub US.A' 2 (US.A'.length:Int))).bind λ Yz=>(if 0<(Yz.2.length:Int) then ck ((0:Int)<=0/\0<(Yz.2.length:Int))<|((aK n) (lat Yz.2 0)).bind λ VP=>ck (([32,105,102,32]:Bk).length+VP.length<=9223372036854775807)<|ck (Yz.1.length+(([32,105,102,32]:Bk)++VP).length<=9223372036854775807)<|some (Yz.1++(([32,105,102,32]:Bk)++VP))else some Yz.1).bind λ s32=>some s32
def jq:Nat->ab->Option Bk|0,_=>none|n+1,US=>(if US.Ar=1 then some (decide (US.BY.Ar=3))else some false).bind λ t2=>if t2=true then(nW n US.BY.D').bind λ r4=>if r4=true then some US.BY.D' else((aK n) US).bind λ r7=>some r7 else if US.Ar=2 then((aK n) US).bind λ Vg=>some Vg else((aK n) US).bind λ Vk=>ck (([40]:Bk).length+Vk.length<=9223372036854775807)<|ck ((([40]:Bk)++Vk).length+([41]:Bk).length<=9223372036854775807)<|some ((([40]:Bk)++Vk)++([41]:Bk))
end
theorem wm (n:Nat):uk (aK n) 7/\xh (jD n) 22/\xh (lu n) 23/\xh (ma n) 24/\(∀ (US:ab) (n_1:Int) (r:Bk),HP (jE n US n_1=some r) Tryz.prog 25 [.agg (ab.cs US),eI n_1] (.p (eS r)))/\uk (lq n) 28/\uk (jq n) 57:=by
 induction n with
 | zero=>exact Zr
 | succ n ih=>
 obtain ⟨_,_,_,_,_,_,_⟩:=ih;refine ⟨?_,?_,?_,?_,?_,?_,?_⟩
 ·refine λ US=>hP good Tryz.func7 Z Z λ r h0 _ w0=>?_;rw [aK] at h0;refine nx 17 Z (fD [7,8] h0 Z (λ c1 h0=>?_) λ c1 h0=>?_)
  ·exact J0
  refine nx 6 Z (fD [12,13] h0 Z (λ c4 h0=>?_) λ c4 h0=>?_)
  ·exact J0
  refine nx 6 Z (fD [17,18] h0 Z (λ c7 h0=>?_) λ c7 h0=>?_)
  ·exact J0
  refine nx 6 Z (fD [21,22] h0 Z (λ c8 h0=>?_) λ c8 h0=>?_)
  ·refine nx 2 Z (cc' h0 λ Yk h0=>?_);refine bd h0 λ Vg XI h0=>cc' h0 λ W9 h0=>cc' h0 λ W8 h0=>mD [(1,.ptr 1 0)] Z ⟨Z,trivial⟩ Z (dR 2 Z ?_);refine dq (.p (eS (US.AT++([40]:Bk)))) [24] Z (λ _ e _ q=>al Z (bV Z Z Z (e _ _ Z) Z Yk q)) Z (dR 2 Z ?_);refine dq (.p (eS Vg)) [27] Z (λ _ e _ q=>al Z (bQ (HP.c XI) Z Z Z (aG (e _ _ Z) bp) ⟨sr,trivial⟩ HE.e Z q)) Z (dq (.p (eS ((US.AT++([40]:Bk))++Vg))) [25,28] Z (λ _ e _ q=>al Z (bV Z Z Z (e _ _ Z) (e _ _ Z) W9 q)) Z ?_);refine dq (.p (eS (((US.AT++([40]:Bk))++Vg)++([41]:Bk)))) [29] Z (λ _ e _ q=>al Z (bV Z Z Z (e _ _ Z) Z W8 q)) Z (dR 1 Z ?_);exact J0
  refine nx 6 Z (fD [31,32] h0 Z (λ Yb h0=>?_) λ Yb h0=>?_)
  ·exact J0
  refine nx 6 Z (fD [38,39] h0 Z (λ Ya h0=>?_) λ Ya h0=>?_)
  ·exact J0
  refine nx 11 Z (bd h0 λ o106 h1 h0=>?_);refine kN o106 (λ v107=>⟨[(1,.ptr 1 0),(3,.p (eL ao US.A')),(45,.p (eB v107))],[(1,(ab.cs US).map .p)]⟩) ?_ ?_
  ·refine nx 1 Z (fB [45] h0 Z (λ ZB h0=>?_) λ ZB h0=>?_)
   ·refine nx 2 Z (cc' h0 λ WC h0=>?_);refine bd h0 λ VI e27 h0=>cc' h0 λ YP h0=>cc' h0 λ XG h0=>mD [(1,.ptr 1 0),(3,.p (eL ao US.A'))] Z ⟨Z,Z,trivial⟩ Z (dR 1 Z ?_);refine dq (.rptr (ab.cs (lat US.A' 0))) [54] Z (λ _ e _ q=>al Z (dh (f:=ao) (l:=US.A') ab.cs Z Z Z Z Z Z (e _ _ Z) Z Z WC ab.E' Y q)) Z (dR 1 Z ?_);refine dq (.p (eS VI)) [56] Z (λ _ e _ q=>al Z (bQ (HP.c e27) Z Z Z (aG (e _ _ Z) (aG Z bp)) ⟨sr,sr,trivial⟩ HE.e Z q)) Z (dq (.p (eS (VI++([46]:Bk)))) [57] Z (λ _ e _ q=>al Z (bV Z Z Z (e _ _ Z) Z YP q)) Z ?_);refine dR 2 Z (dq (.p (eS ((VI++([46]:Bk))++US.AT))) [58,60] Z (λ _ e _ q=>al Z (bV Z Z Z (e _ _ Z) (e _ _ Z) XG q)) Z ?_);exact J0
   refine nx 2 Z (bd h0 λ o108 h1 h0=>?_);refine kN o108 (λ v109=>⟨[(1,.ptr 1 0),(3,.p (eL ao US.A')),(62,.p (eB v109))],[(1,(ab.cs US).map .p)]⟩) ?_ ?_
   ·refine nx 1 Z (fB [62] h0 Z (λ c32 h0=>?_) λ c32 h0=>?_)
    ·refine nx 2 Z (cc' h0 λ aav h0=>?_);refine bd h0 λ Vd e35 h0=>cc' h0 λ X5 h0=>cc' h0 λ XF h0=>bd h0 λ Wl e39 h0=>cc' h0 λ XE h0=>cc' h0 λ W6 h0=>mD [(3,.p (eL ao US.A'))] Z ⟨Z,trivial⟩ Z (dR 1 Z ?_);refine dq (.rptr (ab.cs (lat US.A' 0))) [71] Z (λ _ e _ q=>al Z (dh (f:=ao) (l:=US.A') ab.cs Z Z Z Z Z Z (e _ _ Z) Z Z aav ab.E' Y q)) Z (dR 1 Z ?_);refine dq (.p (eS Vd)) [73] Z (λ _ e _ q=>al Z (bQ (HP.c e35) Z Z Z (aG (e _ _ Z) (aG Z bp)) ⟨sr,sr,trivial⟩ HE.e Z q)) Z (dq (.p (eS (Vd++([91]:Bk)))) [74] Z (λ _ e _ q=>al Z (bV Z Z Z (e _ _ Z) Z X5 q)) Z ?_);refine dR 1 Z (dq (.rptr (ab.cs (lat US.A' 1))) [76] Z (λ _ e _ q=>al Z (dh (f:=ao) (l:=US.A') ab.cs Z Z Z Z Z Z (e _ _ Z) Z Z XF ab.E' Y q)) Z ?_);refine dR 1 Z (dq (.p (eS Wl)) [78] Z (λ _ e _ q=>al Z (bQ (HP.c e39) Z Z Z (aG (e _ _ Z) bp) ⟨sr,trivial⟩ HE.e Z q)) Z ?_);refine dq (.p (eS ((Vd++([91]:Bk))++Wl))) [75,79] Z (λ _ e _ q=>al Z (bV Z Z Z (e _ _ Z) (e _ _ Z) XE q)) Z (dq (.p (eS (((Vd++([91]:Bk))++Wl)++([93]:Bk)))) [80] Z (λ _ e _ q=>al Z (bV Z Z Z (e _ _ Z) Z W6 q)) Z ?_);exact J0
    refine nx 2 Z (bd h0 λ o110 h1 h0=>?_);refine kN o110 (λ v111=>⟨[(1,.ptr 1 0),(3,.p (eL ao US.A')),(82,.p (eB v111))],[(1,(ab.cs US).map .p)]⟩) ?_ ?_
    ·refine nx 1 Z (fB [82] h0 Z (λ Zz h0=>?_) λ Zz h0=>?_)
     ·refine nx 2 Z (bd h0 λ Ws Zw h0=>?_);refine cc' h0 λ YO h0=>bd h0 λ WT e49 h0=>cc' h0 λ Zq h0=>mD [(1,.ptr 1 0),(3,.p (eL ao US.A'))] Z ⟨Z,Z,trivial⟩ Z (dR 2 Z ?_);refine dq (.p (eS Ws)) [92] Z (λ _ e _ q=>al Z (bQ (HP.c Zw) Z Z Z (aG (e _ _ Z) bp) ⟨sr,trivial⟩ HE.e Z q)) Z (dR 1 Z ?_);refine dq (.rptr (ab.cs (lat US.A' 0))) [94] Z (λ _ e _ q=>al Z (dh (f:=ao) (l:=US.A') ab.cs Z Z Z Z Z Z (e _ _ Z) Z Z YO ab.E' Y q)) Z (dR 1 Z ?_);refine dq (.p (eS WT)) [96] Z (λ _ e _ q=>al Z (bQ (HP.c e49) Z Z Z (aG (e _ _ Z) (aG Z bp)) ⟨sr,sr,trivial⟩ HE.e Z q)) Z (dq (.p (eS (Ws++WT))) [93,97] Z (λ _ e _ q=>al Z (bV Z Z Z (e _ _ Z) (e _ _ Z) Zq q)) Z ?_);exact J0
     refine nx 2 Z (bd h0 λ o112 h1 h0=>?_);refine kN o112 (λ v113=>⟨[(1,.ptr 1 0),(3,.p (eL ao US.A')),(99,.p (eB v113))],[(1,(ab.cs US).map .p)]⟩) ?_ ?_
     ·refine nx 1 Z (fB [99] h0 Z (λ c53 h0=>?_) λ c53 h0=>?_)
      ·refine nx 4 Z (K0 λ WJ h0=>nx 3 Z ?_);refine cc' h0 λ YL h0=>bd h0 λ Xb e58 h0=>cc' h0 λ X2 h0=>bd h0 λ Zg e61 h0=>cc' h0 λ YK h0=>cc' h0 λ Zo h0=>cc' h0 λ Zn h0=>cc' h0 λ YJ h0=>bd h0 λ WI e67 h0=>cc' h0 λ aao h0=>mD [(1,.ptr 1 0),(3,.p (eL ao US.A')),(4,.p (eI WJ))] Z ⟨Z,Z,Z,trivial⟩ Z (dR 1 Z ?_);refine dq (.rptr (ab.cs (lat US.A' 0))) [110] Z (λ _ e _ q=>al Z (dh (f:=ao) (l:=US.A') ab.cs Z Z Z Z Z Z (e _ _ Z) Z Z YL ab.E' Y q)) Z (dR 2 Z ?_);refine dq (.p (eS Xb)) [112,113] Z (λ _ e _ q=>al Z (bQ (HP.c e58) Z Z Z (aG (e _ _ Z) (aG (e _ _ Z) bp)) ⟨sr,sr,trivial⟩ HE.e Z q)) Z (dq (.p (eS (Xb++([32]:Bk)))) [114] Z (λ _ e _ q=>al Z (bV Z Z Z (e _ _ Z) Z X2 q)) Z ?_);refine dR 2 Z (dq (.p (eS Zg)) [117] Z (λ _ e _ q=>al Z (bQ (HP.c e61) Z Z Z (aG (e _ _ Z) bp) ⟨sr,trivial⟩ HE.e Z q)) Z ?_);refine dq (.p (eS ((Xb++([32]:Bk))++Zg))) [115,118] Z (λ _ e _ q=>al Z (bV Z Z Z (e _ _ Z) (e _ _ Z) YK q)) Z (dq (.p (eS (((Xb++([32]:Bk))++Zg)++([32]:Bk)))) [119] Z (λ _ e _ q=>al Z (bV Z Z Z (e _ _ Z) Z Zo q)) Z ?_);refine dR 1 Z (dq (.rptr (ab.cs (lat US.A' 1))) [121] Z (λ _ e _ q=>al Z (dh (f:=ao) (l:=US.A') ab.cs Z Z Z Z Z Z (e _ _ Z) Z Z Zn ab.E' Y q)) Z ?_);refine dR 2 Z (dq (.p (eI (WJ+1))) [124] Z (λ _ e _ q=>al Z (gJ Z Z Z (e _ _ Z) Z Z YJ q)) Z ?_);refine dq (.p (eS WI)) [123,125] Z (λ _ e _ q=>al Z (bQ (HP.c e67) Z Z Z (aG (e _ _ Z) (aG (e _ _ Z) bp)) ⟨sr,sr,trivial⟩ HE.e Z q)) Z (dq (.p (eS ((((Xb++([32]:Bk))++Zg)++([32]:Bk))++WI))) [120,126] Z (λ _ e _ q=>al Z (bV Z Z Z (e _ _ Z) (e _ _ Z) aao q)) Z ?_);exact J0
      refine nx 2 Z (bd h0 λ YF h1 h0=>?_);refine kN YF (λ ZY=>⟨[(1,.ptr 1 0),(3,.p (eL ao US.A')),(128,.p (eB ZY))],[(1,(ab.cs US).map .p)]⟩) ?_ ?_
      ·refine nx 1 Z (fB [128] h0 Z (λ c71 h0=>?_) λ c71 h0=>?_)
       ·refine nx 2 Z (cc' h0 λ YI h0=>?_);refine bd h0 λ Xn e74 h0=>cc' h0 λ hk75 h0=>cc' h0 λ hk76 h0=>bd h0 λ XU e78 h0=>cc' h0 λ hk79 h0=>cc' h0 λ hk80 h0=>cc' h0 λ hk81 h0=>bd h0 λ r82 e83 h0=>cc' h0 λ hk84 h0=>mD [(3,.p (eL ao US.A'))] Z ⟨Z,trivial⟩ Z (dR 1 Z ?_);refine dq (.rptr (ab.cs (lat US.A' 0))) [137] Z (λ _ e _ q=>al Z (dh (f:=ao) (l:=US.A') ab.cs Z Z Z Z Z Z (e _ _ Z) Z Z YI ab.E' Y q)) Z (dR 1 Z ?_);refine dq (.p (eS Xn)) [139] Z (λ _ e _ q=>al Z (bQ (HP.c e74) Z Z Z (aG (e _ _ Z) (aG Z bp)) ⟨sr,sr,trivial⟩ HE.e Z q)) Z (dq (.p (eS (Xn++([32,63,32]:Bk)))) [140] Z (λ _ e _ q=>al Z (bV Z Z Z (e _ _ Z) Z hk75 q)) Z ?_);refine dR 1 Z (dq (.rptr (ab.cs (lat US.A' 1))) [142] Z (λ _ e _ q=>al Z (dh (f:=ao) (l:=US.A') ab.cs Z Z Z Z Z Z (e _ _ Z) Z Z hk76 ab.E' Y q)) Z ?_);refine dR 1 Z (dq (.p (eS XU)) [144] Z (λ _ e _ q=>al Z (bQ (HP.c e78) Z Z Z (aG (e _ _ Z) bp) ⟨sr,trivial⟩ HE.e Z q)) Z ?_);refine dq (.p (eS ((Xn++([32,63,32]:Bk))++XU))) [141,145] Z (λ _ e _ q=>al Z (bV Z Z Z (e _ _ Z) (e _ _ Z) hk79 q)) Z (dq (.p (eS (((Xn++([32,63,32]:Bk))++XU)++([32,58,32]:Bk)))) [146] Z (λ _ e _ q=>al Z (bV Z Z Z (e _ _ Z) Z hk80 q)) Z ?_);refine dR 1 Z (dq (.rptr (ab.cs (lat US.A' 2))) [148] Z (λ _ e _ q=>al Z (dh (f:=ao) (l:=US.A') ab.cs Z Z Z Z Z Z (e _ _ Z) Z Z hk81 ab.E' Y q)) Z ?_);refine dR 1 Z (dq (.p (eS r82)) [150] Z (λ _ e _ q=>al Z (bQ (HP.c e83) Z Z Z (aG (e _ _ Z) bp) ⟨sr,trivial⟩ HE.e Z q)) Z ?_);refine dq (.p (eS ((((Xn++([32,63,32]:Bk))++XU)++([32,58,32]:Bk))++r82))) [147,151] Z (λ _ e _ q=>al Z (bV Z Z Z (e _ _ Z) (e _ _ Z) hk84 q)) Z (dR 1 Z ?_);exact J0
       have:=js [2600,2800];have:=jS 2600 Bool λ v=>[(153,.p (eB v))]
       have:=jS 2800 Bool λ v=>[(166,.p (eB v))]
       exact J0
      exact aB
     exact aB
    exact aB
   exact aB
  exact aB
 ·refine λ l_0=>hP good Tryz.func22 Z Z λ r h0 _ w0=>?_;rw [jD] at h0;refine nx 6 Z (mO Z (sx Z Z Z Z Z Z Z ?_));refine nx 3 Z (bd h0 λ r1 e2 h0=>?_);refine mO Z (bq [3] [890000] 101000 101001 (cb (aC.mk []) 34 _ e2) Z Z Z Z Z ⟨sr,sr,trivial⟩ Z Z ⟨⟨_,Z,⟨sr,AV.sub_nilvec _ _ _,trivial⟩⟩,trivial⟩ Z Z Z Z Z Z Z Z HE.e Z Z ?_);refine nx 9 Z (oLl (f:=ao) Z Z ?_);refine nx 3 Z (bd h0 λ o86 h1 h0=>?_);refine kE 0 o86 (λ v87=>⟨[(3,.ptr 3 0)],[(3,[.bptr 70 2 3,.vec 103000 1 (5+1) (v87.map eU)])]⟩) ?_ ?_
  ·refine nx 3 Z (bd h0 λ XU e78 h0=>?_);refine mO Z (cVq [3] [103000] 106000 106001 (cb (aC.mk o86) 34 _ e78) HE.e Z ?_);refine nx 3 Z (bd h0 λ r79 e80 h0=>?_);refine mO Z (cVq [3] [106000] 107000 107000 (fv (aC.mk XU.2.If) _ e80) HE.e Z ?_);exact J0
  refine lG (λ (WW:Bool×Int×(List UInt8))=>⟨[(0,.p (eL ao l_0)),(3,.ptr 3 0),(4,.p (eB WW.1)),(10,.p (eL ao l_0)),(11,.p (eI (l_0.length:Int))),(12,.p (eI WW.2.1))],[(3,[.bptr 70 2 3,.vec 103000 1 (5+1) (WW.2.2.map eU)])]⟩) (λ m (WW:Bool×Int×(List UInt8))=>dd n (aK n) l_0 m WW.1 WW.2.1 WW.2.2) Y (false,0,r1.2.If) h1 (aJ (aS 101000 103000 rfl rfl rfl rfl rfl) (gE rfl rfl)) ?_;rintro m ⟨text38,Wn,VY⟩ h1;replace h1:dd n (aK n) l_0 (m+1) text38 Wn VY=some o86:=h1;rw [dd] at h1;refine nx 5 rfl (fD [13] h1 rfl (λ c41 h1=>?_) λ c41 h1=>?_)
  ·refine nx 3 Z (bd h1 λ Y4 h2 h1=>?_);refine kN Y4 (λ Za=>⟨[(0,.p (eL ao l_0)),(3,.ptr 3 0),(4,.p (eB Za.1)),(10,.p (eL ao l_0)),(11,.p (eI (l_0.length:Int))),(12,.p (eI Wn))],[(3,[.bptr 70 2 3,.vec 105000 1 (5+1) (Za.2.map eU)])]⟩) ?_ ?_
   ·refine nx 2 Z (oA h1 Z Z λ YI h1=>?_);exact nx 2 Z (eX (Y4.1,Wn+1,Y4.2) h1 (aJ (aS 105000 103000 Z Z Z Z Z) (gE Z Z)))
   refine nx 4 Z (oE h2 ab.E' Z Z Y λ aat h2=>?_);refine nx 6 Z (bd h2 λ o91 h3 h2=>?_);refine kN o91 (λ v92=>⟨[(0,.p (eL ao l_0)),(3,.ptr 3 0),(4,.p (eB v92)),(5,.p (eI Wn)),(6,.ptr 6 0),(10,.p (eL ao l_0)),(11,.p (eI (l_0.length:Int))),(12,.p (eI Wn))],[(3,[.bptr 70 2 3,.vec 103000 1 (5+1) (VY.map eU)]),(6,(ab.cs (lat l_0 Wn)).map .p)]⟩) ?_ ?_
   ·refine nx 7 Z (fB [29] h2 Z (λ c48 h2=>?_) λ c48 h2=>?_)
    ·refine nx 4 Z (bd h2 λ Wa e50 h2=>?_);refine oK (HP.c e50) Z ⟨sr,trivial⟩ HE.e Z (oC h2 Z λ YN h2=>?_);refine oC h2 Z λ YM h2=>bd h2 λ V' Y8 h2=>mO Z (cVq [3] [103000] 104000 104001 (bj (aC.mk VY) ((([36,123]:Bk)++Wa)++([125]:Bk)) _ Y8) HE.e Z ?_);exact nx 2 Z (eX _ (oi h2).symm (aJ (aS 104000 105000 Z Z Z Z Z) (gE Z Z)))
    refine nx 11 Z (bd h2 λ o93 h3 h2=>?_);refine kN o93 (λ v94=>⟨[(0,.p (eL ao l_0)),(3,.ptr 3 0),(4,.p (eB o91)),(7,.p (eS v94.1)),(8,.p (eS v94.2)),(10,.p (eL ao l_0)),(11,.p (eI (l_0.length:Int))),(12,.p (eI Wn))],[(3,[.bptr 70 2 3,.vec 103000 1 (5+1) (VY.map eU)])]⟩) ?_ ?_
    ·refine nx 3 Z (K2 λ Z3 h2=>nx 1 Z ?_);refine oC h2 Z λ abF h2=>bd h2 λ Z2 e69 h2=>mO Z (cVq [3] [103000] 105000 105001 (bj (aC.mk VY) (Z3++o93.2) _ e69) HE.e Z ?_);exact dj
    refine nx 1 Z (bd h3 λ o95 h4 h3=>?_);refine kN o95 (λ v96=>⟨[(0,.p (eL ao l_0)),(3,.ptr 3 0),(4,.p (eB o91)),(7,.p (eS (((lat l_0 Wn).BY).D'))),(8,.p (eS ([]:Bk))),(10,.p (eL ao l_0)),(11,.p (eI (l_0.length:Int))),(12,.p (eI Wn)),(46,.p (eB v96))],[(3,[.bptr 70 2 3,.vec 103000 1 (5+1) (VY.map eU)])]⟩) ?_ ?_
    ·refine nx 1 Z (fB [46] h3 Z (λ c60 h3=>?_) λ c60 h3=>?_)
     ·refine nx 4 Z (oLs Z ?_);exact oA h3 Z Z λ aap h3=>oP h3 Z Z Z λ YK h3=>nx 3 Z pY
     exact ry
    refine nx 3 Z (oLl (f:=ao) Z Z ?_);refine oA h4 Z Z λ aar h4=>nx 2 Z (fD [42,43] h4 Z (λ c56 h4=>?_) λ c56 h4=>?_)
    ·refine nx 1 Z (bd h4 λ Xb e58 h4=>?_);refine oK (rt (((lat l_0 Wn).BY).D') ([36]:Bk) _ e58) Z ⟨sr,sr,trivial⟩ HE.e Z (nx 2 Z ?_);exact eX _ (oi h4).symm (gE Z Z)
    exact nx 4 Z Ej
   refine nx 2 Z (bd h3 λ Yc e44 h3=>?_);refine oK (HP.c e44) Z ⟨sr,trivial⟩ HE.e Z (nx 1 Z ?_);refine fB [18,19] h3 Z (λ c45 h3=>?_) λ c45 h3=>?_
   ·refine nx 4 Z (fB [21,22,23] h3 Z (λ c46 h3=>?_) λ c46 h3=>?_)
    ·refine nx 1 Z (oLl (f:=ao) Z Z ?_);exact x4
    exact nx 6 Z pY
   exact nx 10 Z pY
  exact aB
 ·refine λ l_0=>hP good Tryz.func23 Z Z λ r h0 _ w0=>?_;rw [lu] at h0;refine nx 12 Z (oLl (f:=ao) Z Z ?_);refine nx 3 Z (bd h0 λ Xf h1 h0=>?_);refine kE 0 Xf (λ Xo=>⟨[(3,.vec 16 1 0 (Xo.map eS))],[]⟩) ?_ ?_
  ·exact J0
  refine lG (λ (XN:(List Bk)×Int)=>⟨[(3,.vec 16 1 0 (XN.1.map eS)),(6,.p (eL ao l_0)),(7,.p (eI (l_0.length:Int))),(8,.p (eI XN.2))],[]⟩) (λ m (XN:(List Bk)×Int)=>dG (aK n) l_0 m XN.1 XN.2) Y ([],0) h1 (dZ (oh ⟨⟨_,rfl,AV.sub_nilvec _ _ _⟩,er rfl,er rfl,er rfl,trivial⟩ trivial)) ?_;rintro m ⟨XZ,Vn⟩ h1;replace h1:dG (aK n) l_0 (m+1) XZ Vn=some Xf:=h1;rw [dG] at h1;refine nx 5 rfl (fD [9] h1 rfl (λ Xa h1=>?_) λ Xa h1=>?_)
  ·refine nx 6 Z (oE h1 ab.E' Z Z Y λ W9 h1=>?_);refine nx 7 Z (bd h1 λ Ye e14 h1=>?_);refine oK (HP.c e14) Z ⟨sr,trivial⟩ HE.e Z (mO Z (bn eS [Ye] Z Z Z Z Z Z Z Z Z Z Z Z Z Z ?_));refine cc' h1 λ Ww h1=>mO Z (fY eS XZ [Ye] Z Z Z Z Z Z Z Z Z Z Z Z Z Y Z Z Z Z Ww ?_);exact aB
  exact aB
 ·refine λ l_0=>hP good Tryz.func24 Z Z λ r h0 _ w0=>?_;rw [ma] at h0;refine nx 14 Z (bd h0 λ o39 h1 h0=>?_);refine kE 0 o39 (λ v40=>⟨[(3,.vec 27 1 0 (v40.map eS))],[]⟩) ?_ ?_
  ·exact J0
  refine lG (λ (Yy:(List Bk)×Int)=>⟨[(0,.p (eL ao l_0)),(3,.vec 27 1 0 (Yy.1.map eS)),(4,.p (eI Yy.2))],[]⟩) (λ m (Yy:(List Bk)×Int)=>d7 (aK n) (jq n) l_0 m Yy.1 Yy.2) Y ([],0) h1 (dZ (oh ⟨er rfl,⟨_,rfl,AV.sub_nilvec _ _ _⟩,er rfl,trivial⟩ trivial)) ?_;rintro m ⟨VU,i17⟩ h1;replace h1:d7 (aK n) (jq n) l_0 (m+1) VU i17=some o39:=h1;rw [d7] at h1;refine nx 4 rfl (oA h1 rfl rfl λ WG h1=>?_);refine nx 1 rfl (oLl (f:=ao) rfl rfl ?_);refine nx 2 rfl (fD [9] h1 rfl (λ Ya h1=>?_) λ Ya h1=>?_)
  ·refine nx 4 Z (cc' h1 λ WY h1=>?_);refine bd h1 λ U8 e22 h1=>cc' h1 λ W7 h1=>cc' h1 λ Xu h1=>cc' h1 λ WC h1=>bd h1 λ VI e27 h1=>cc' h1 λ YP h1=>cc' h1 λ XG h1=>mG (gE (t:=⟨[(0,.p (eL ao l_0)),(3,.vec 27 1 0 (VU.map eS)),(4,.p (eI i17))],[]⟩) Z Z) (mSq ⟨2,[15,16],(by3 (.some λ i=>Nat.beq i 27||Nat.beq i 27) .none .none),(by3 [(0,.p (eL ao l_0)),(3,.vec 27 1 0 (VU.map eS)),(4,.p (eI i17))] [(0,.p (eL ao l_0)),(3,.p (eL eS VU)),(4,.p (eI i17))] [(0,.p (eL ao l_0)),(4,.p (eI i17))]),(λ _=>[])⟩ Z ?_);refine dP (by3 (.vec 27 1 0 (VU.map eS)) (.p (eL eS VU)) (.p (eL eS VU))) Z (dPc (.p (eL ao l_0)) Z ?_);refine dPc (.p (eI i17)) Z (dO (.rptr (ab.cs (lat l_0 i17))) [13,14] Z (λ _ sl UT K hK=>al Z (dh (f:=ao) (l:=l_0) ab.cs Z Z Z Z Z Z (UT _ _ Z) Z (UT _ _ Z) WY ab.E' Y hK)) ?_);refine dPc (.p (.agg (ab.cs (lat l_0 i17)))) Z (dO (.p (eS U8)) [16] Z (λ _ sl UT K hK=>al Z (bQ (HP.c e22) Z Z Z (aG (UT _ _ Z) bp) ⟨sr,trivial⟩ HE.e Z hK)) ?_);refine dO (.p (eS (U8++([32,61,32]:Bk)))) [17] Z (λ _ sl UT K hK=>al Z (bV Z Z Z (UT _ _ Z) Z W7 hK)) (dPc (.p (eL ao l_0)) Z ?_);refine dPc (.p (eI i17)) Z (dO (.p (eI (i17+1))) [20] Z (λ _ sl UT K hK=>al Z (gJ Z Z Z (UT _ _ Z) Z Z Xu hK)) ?_);refine dO (.rptr (ab.cs (lat l_0 (i17+1)))) [19,21] Z (λ _ sl UT K hK=>al Z (dh (f:=ao) (l:=l_0) ab.cs Z Z Z Z Z Z (UT _ _ Z) Z (UT _ _ Z) WC ab.E' Y hK)) (dPc (.p (.agg (ab.cs (lat l_0 (i17+1))))) Z ?_);refine dO (.p (eS VI)) [23] Z (λ _ sl UT K hK=>al Z (bQ (HP.c e27) Z Z Z (aG (UT _ _ Z) bp) ⟨sr,trivial⟩ HE.e Z hK)) (dO (.p (eS ((U8++([32,61,32]:Bk))++VI))) [18,24] Z (λ _ sl UT K hK=>al Z (bV Z Z Z (UT _ _ Z) (UT _ _ Z) YP hK)) ?_);refine dO (.p (eL eS ([(U8++([32,61,32]:Bk))++VI]))) [25] Z (λ _ sl UT K hK=>al Z (bn eS [(U8++([32,61,32]:Bk))++VI] Z Z Z Z Z Z (dz (UT _ _ Z) Z fp) Z Z Z Z Z Z Z hK)) (dI (λ _=>.vec 27 1 0 ((VU++([(U8++([32,61,32]:Bk))++VI])).map eS)) [12,26] Z (λ sl UT K hK=>al Z (fY eS VU ([(U8++([32,61,32]:Bk))++VI]) Z Z Z Z Z Z Z Z (UT _ _ Z) Z Z (UT _ _ Z) Z Y Z Z Z Z XG hK)) ?_);refine rI (λ _=>.vec 27 1 0 ((VU++([(U8++([32,61,32]:Bk))++VI])).map eS)) [(27,_)] Z ⟨.inr ⟨15,_,Z,Z,Z⟩,trivial⟩ Z Z Y (lt2 (λ h=>absurd h (by decide)) (λ h=>absurd h (by decide))) AX (d5 ?_);exact aB
  exact aB
 ·refine λ US n_1=>hP good Tryz.func25 Z Z λ r h0 _ w0=>?_;rw [jE] at h0;exact J0
 ·refine λ US=>hP good Tryz.func28 Z Z λ r h0 _ w0=>?_;rw [lq] at h0;refine nx 10 Z (bd h0 λ Yi h1 h0=>?_);refine kN Yi (λ v37=>⟨[(1,.ptr 1 0),(3,.p (eS v37))],[(1,(ab.cs US).map .p)]⟩) ?_ ?_
  ·refine nx 2 Z (cc' h0 λ X4 h0=>?_);refine cc' h0 λ ZQ h0=>bd h0 λ r7 e8 h0=>cc' h0 λ Yk h0=>cc' h0 λ Wb h0=>cc' h0 λ WP h0=>bd h0 λ Vk Y9 h0=>cc' h0 λ XH h0=>cc' h0 λ Ww h0=>mG (gE (t:=⟨[(1,.ptr 1 0),(3,.p (eS Yi))],[(1,(ab.cs US).map .p)]⟩) Z Z) (mSq ⟨1,[18],(λ _=>.none),(by2 [(1,.ptr 1 0),(3,.p (eS Yi))] [(1,.ptr 1 0)]),(λ _=>[(1,[.p (eI US.Ar),.p (eI US.fOp),.p (eS US.AT),.p (eS US.It),.p (eI US.BY.Ar),.p (eI US.BY.G'),.p (eS US.BY.D'),.p (eL cn US.BY.Gw),.p (eL eS US.BY.F'),.p (eL ao US.A'),.p (eI US.fAt)])])⟩ Z ?_);refine dPc (.p (eS Yi)) Z (dPc (.ptr 1 2) Z ?_);refine dPc (.p (eS US.AT)) Z (dO (.p (eS (US.AT++([32,105,110,32]:Bk)))) [15] Z (λ _ sl UT K hK=>al Z (bV Z Z Z (UT _ _ Z) Z X4 hK)) ?_);refine dPc (.ptr 1 9) Z (dPc (.p (eL ao US.A')) Z ?_);refine dO (.rptr (ab.cs (lat US.A' 0))) [18] Z (λ _ sl UT K hK=>al Z (dh (f:=ao) (l:=US.A') ab.cs Z Z Z Z Z Z (UT _ _ Z) Z Z ZQ ab.E' Y hK)) (dPc (.p (.agg (ab.cs (lat US.A' 0)))) Z ?_);refine dO (.p (eS r7)) [20] Z (λ _ sl UT K hK=>al Z (bQ (HP.c e8) Z Z Z (aG (UT _ _ Z) bp) ⟨sr,trivial⟩ HE.e Z hK)) (dO (.p (eS ((US.AT++([32,105,110,32]:Bk))++r7))) [16,21] Z (λ _ sl UT K hK=>al Z (bV Z Z Z (UT _ _ Z) (UT _ _ Z) Yk hK)) ?_);refine dO (.p (eS (((US.AT++([32,105,110,32]:Bk))++r7)++([32,58,32]:Bk)))) [22] Z (λ _ sl UT K hK=>al Z (bV Z Z Z (UT _ _ Z) Z Wb hK)) (dPc (.ptr 1 9) Z ?_);refine dPc (.p (eL ao US.A')) Z (dO (.rptr (ab.cs (lat US.A' 1))) [25] Z (λ _ sl UT K hK=>al Z (dh (f:=ao) (l:=US.A') ab.cs Z Z Z Z Z Z (UT _ _ Z) Z Z WP ab.E' Y hK)) ?_);refine dPc (.p (.agg (ab.cs (lat US.A' 1)))) Z (dO (.p (eS Vk)) [27] Z (λ _ sl UT K hK=>al Z (bQ (HP.c Y9) Z Z Z (aG (UT _ _ Z) bp) ⟨sr,trivial⟩ HE.e Z hK)) ?_);refine dO (.p (eS ((((US.AT++([32,105,110,32]:Bk))++r7)++([32,58,32]:Bk))++Vk))) [23,28] Z (λ _ sl UT K hK=>al Z (bV Z Z Z (UT _ _ Z) (UT _ _ Z) XH hK)) (dO (.p (eS (Yi++((((US.AT++([32,105,110,32]:Bk))++r7)++([32,58,32]:Bk))++Vk)))) [13,29] Z (λ _ sl UT K hK=>al Z (bV Z Z Z (UT _ _ Z) (UT _ _ Z) Ww hK)) ?_);refine rI (λ _=>.p (eS (Yi++((((US.AT++([32,105,110,32]:Bk))++r7)++([32,58,32]:Bk))++Vk)))) [(30,_)] Z ⟨.inr ⟨17,_,Z,Z,Z⟩,trivial⟩ Z Z Y (lt1 (λ h=>absurd h (by decide))) AX (d5 ?_);refine nx 5 Z (cc' h0 λ Xk h0=>?_);refine mO Z (sc (f:=ao) (l:=US.A') Z Z Z Z Z Z Z Z Z Z Xk (λ x=>congrArg List.length (ab.E' x)) ?_);refine nx 3 Z (bd h0 λ o38 h1 h0=>?_);refine kN o38 (λ v39=>⟨[(3,.p (eS v39.1)),(4,.p (eL ao v39.2))],[]⟩) ?_ ?_
   ·have:=js [901];have:=jS 901 Bk λ v=>[(3,.p (eS v))]
    exact J0
   refine nx 6 Z (fD [36] h1 Z (λ Vv h1=>?_) λ Vv h1=>?_)
   ·refine nx 5 Z (oE h1 ab.E' Z Z Y λ WG h1=>?_);refine nx 1 Z (bd h1 λ Yu e20 h1=>?_);refine oK (HP.c e20) Z ⟨sr,trivial⟩ HE.e Z (oC h1 Z λ WF h1=>?_);refine oC h1 Z λ WE h1=>nx 2 Z (mG (gE (t:=⟨[(3,.p (eS ((Yi++((((US.AT++([32,105,110,32]:Bk))++r7)++([32,58,32]:Bk))++Vk))++(([32,61,62,32]:Bk)++Yu)))),(4,.p (eL ao (sub US.A' 2 (US.A'.length:Int))))],[]⟩) Z Z) ?_);refine nx 2 Z (cc' h1 λ W7 h1=>?_);refine mO Z (sc (f:=ao) (l:=sub US.A' 2 (US.A'.length:Int)) Z Z Z Z Z Z Z Z Z Z W7 (λ x=>congrArg List.length (ab.E' x)) ?_);exact aB
   exact aB
  exact aB
 ·refine λ US=>hP good Tryz.func57 Z Z λ r h0 _ w0=>?_;rw [jq] at h0;have:=js [100];have:=jS 100 Bool λ v=>[(3,.p (eB v))]
  exact J0
instance Lu (n:Nat):uk (aK n) 7:=(wm n).1
def dU (n:Nat)(T':av)(indent_2:Bk):Nat->Int->(List UInt8)->Option (List UInt8)|0,_,_=>none|m+1,Vy,f15=>if Vy<(T'.B'.length:Int) then ck ((0:Int)<=Vy/\Vy<(T'.B'.length:Int))<|ck (indent_2.length+((lat T'.B' Vy).AT).length<=9223372036854775807)<|ck ((indent_2++((lat T'.B' Vy).AT)).length+([32,61,32]:Bk).length<=9223372036854775807)<|(aK n ((lat T'.B' Vy).I')).bind λ VH=>ck (((indent_2++((lat T'.B' Vy).AT))++([32,61,32]:Bk)).length+VH.length<=9223372036854775807)<|ck ((((indent_2++((lat T'.B' Vy).AT))++([32,61,32]:Bk))++VH).length+([10]:Bk).length<=9223372036854775807)<|(aR (aC.mk f15) ((((indent_2++((lat T'.B' Vy).AT))++([32,61,32]:Bk))++VH)++([10]:Bk))).bind λ Y2=>ck (inR (Vy+1))<|dU n T' indent_2 m (Vy+1) Y2.2.2.If else some f15
def dT (n:Nat)(T':av)(WH:Int):Nat->Int->(List UInt8)->Option (List UInt8)|0,_,_=>none|m+1,Ys,f87=>if Ys<(((lat T'.By WH).J').length:Int) then ck ((0:Int)<=Ys/\Ys<(((lat T'.By WH).J').length:Int))<|(j8 n (lat ((lat T'.By WH).J') Ys)).bind λ r90=>ck (([32]:Bk).length+r90.length<=9223372036854775807)<|(aR (aC.mk f87) (([32]:Bk)++r90)).bind λ r93=>ck (inR (Ys+1))<|dT n T' WH m (Ys+1) r93.2.2.If else some f87
def ee (n:Nat)(V5:aC->av->Bk->Option aC)(T':av)(indent_2:Bk):Nat->Int->(List UInt8)->Option (List UInt8)|0,_,_=>none|m+1,WH,f70=>if WH<(T'.By.length:Int) then ck ((0:Int)<=WH/\WH<(T'.By.length:Int))<|ck (indent_2.length+((lat T'.By WH).Mr).length<=9223372036854775807)<|(aR (aC.mk f70) (indent_2++((lat T'.By WH).Mr))).bind λ Z0=>(dT n T' WH n 0 Z0.2.2.If).bind λ f98=>(aR (aC.mk f98) ([32,123,10]:Bk)).bind λ r99=>ck (indent_2.length+([32,32]:Bk).length<=9223372036854775807)<|(V5 (aC.mk r99.2.2.If) ((lat T'.By WH).Mp) (indent_2++([32,32]:Bk))).bind λ XV=>ck (indent_2.length+([125,10]:Bk).length<=9223372036854775807)<|(aR (aC.mk XV.If) (indent_2++([125,10]:Bk))).bind λ Z5=>ck (inR (WH+1))<|ee n V5 T' indent_2 m (WH+1) Z5.2.2.If else some f70
def fP:Nat->aC->av->Bk->Option aC|0,_,_,_=>none|n+1,w_0,T',indent_2=>(dU n T' indent_2 n 0 w_0.If).bind λ f29=>(ee n (fP n) T' indent_2 n 0 f29).bind λ f110=>some (aC.mk f110)
instance IY (n:Nat):∀ (w_0:aC) (T':av) (indent_2:Bk) (r:aC),HO (fP n w_0 T' indent_2=some r) Tryz.prog 29 [.ptr 1000000 0,.p (.agg (av.cs T')),.p (eS indent_2)] [(1000000,[.bptr 70 2 1000000,.vec 900000 1 (5+1) (w_0.If.map eU)])] (.tuple []) ([(1000000,[.bptr 70 2 1000000,.vec 2000000 1 (5+1) (r.If.map eU)])]):=by
 induction n with
 | zero=>exact Zr
 | succ n ih=>
 refine λ w_0 T' indent_2=>hO good [800000] [1000000] Tryz.func29 Z Z λ r h0 _ w0 F=>?_;rw [fP] at h0;refine nx 9 Z (oLl (f:=aw) Z Z ?_);refine nx 3 Z (bd h0 λ YF h1 h0=>?_);refine kE 0 YF (λ ZY=>⟨[(0,.ptr 1000000 0),(2,.p (eS indent_2)),(4,.ptr 4 0)],[(4,(av.cs T').map .p),(1000000,[.bptr 70 2 1000000,.vec 900000 1 (5+1) (ZY.map eU)])]⟩) ?_ ?_
 ·refine nx 5 Z (oLl (f:=aI) Z Z ?_);refine nx 3 Z (bd h0 λ abB h1 h0=>?_);refine kE 2 abB (λ v117=>⟨[],[(1000000,[.bptr 70 2 1000000,.vec 900000 1 (5+1) (v117.map eU)])]⟩) ?_ ?_
  ·exact nx 1 Z (Jd (oi h0) (aJ (aS 900000 800000 Z Z Z Z Z) (aQ _)) Z Z Z Z (sr) ⟨⟨_,Z,⟨sr,sr,trivial⟩⟩,trivial⟩)
  refine lG (λ (YC:Int×(List UInt8))=>⟨[(0,.ptr 1000000 0),(2,.p (eS indent_2)),(33,.p (eL aI T'.By)),(34,.p (eI (T'.By.length:Int))),(35,.p (eI YC.1))],[(1000000,[.bptr 70 2 1000000,.vec 900000 1 (5+1) (YC.2.map eU)])]⟩) (λ m (YC:Int×(List UInt8))=>ee n (fP n) T' indent_2 m YC.1 YC.2) Y (0,YF) h1 (gE rfl rfl) ?_;rintro m ⟨WH,f70⟩ h1;replace h1:ee n (fP n) T' indent_2 (m+1) WH f70=some abB:=h1;rw [ee] at h1;refine nx 5 rfl (fD [36] h1 rfl (λ c71 h1=>?_) λ c71 h1=>?_)
  ·refine nx 6 Z (oE h1 au.E' Z Z Y λ YI h1=>?_);refine nx 10 Z (oC h1 Z λ abD h1=>?_);refine bd h1 λ Z0 e75 h1=>mO Z (cVq [1000000] [900000] 109000 109001 (bj (aC.mk f70) (indent_2++((lat T'.By WH).Mr)) _ e75) HE.e Z ?_);refine nx 6 Z (oLl (f:=eS) Z Z ?_);refine nx 3 Z (bd h1 λ aam h2 h1=>?_);refine kE 4 aam (λ v120=>⟨[(0,.ptr 1000000 0),(2,.p (eS indent_2)),(9,.ptr 9 0),(33,.p (eL aI T'.By)),(34,.p (eI (T'.By.length:Int))),(35,.p (eI WH))],[(9,(au.cs (lat T'.By WH)).map .p),(1000000,[.bptr 70 2 1000000,.vec 110000 1 (5+1) (v120.map eU)])]⟩) ?_ ?_
   ·refine nx 4 Z (bd h1 λ r99 e100 h1=>?_);refine mO Z (cVq [1000000] [110000] 112000 112001 (bj (aC.mk aam) ([32,123,10]:Bk) _ e100) HE.e Z ?_);refine nx 7 Z (oC h1 Z λ abI h1=>?_);refine bd h1 λ XV aaN h1=>mO Z (cVq [1000000] [112000] 113000 113001 (HO.c aaN) HE.e Z ?_);refine nx 4 Z (oC h1 Z λ hk104 h1=>?_);refine bd h1 λ Z5 e106 h1=>mO Z (cVq [1000000] [113000] 114000 114001 (bj (aC.mk XV.If) (indent_2++([125,10]:Bk)) _ e106) HE.e Z ?_);refine nx 2 Z (oA h1 Z Z λ hk107 h1=>?_);exact nx 2 Z (eX (WH+1,Z5.2.2.If) h1 (aJ (aS 114000 900000 Z Z Z Z Z) (gE Z Z)))
   refine lG (λ (XY:Int×(List UInt8))=>⟨[(0,.ptr 1000000 0),(2,.p (eS indent_2)),(9,.ptr 9 0),(33,.p (eL aI T'.By)),(34,.p (eI (T'.By.length:Int))),(35,.p (eI WH)),(46,.p (eL eS ((lat T'.By WH).J'))),(47,.p (eI (((lat T'.By WH).J').length:Int))),(48,.p (eI XY.1))],[(9,(au.cs (lat T'.By WH)).map .p),(1000000,[.bptr 70 2 1000000,.vec 110000 1 (5+1) (XY.2.map eU)])]⟩) (λ m (XY:Int×(List UInt8))=>dT n T' WH m XY.1 XY.2) Y (0,Z0.2.2.If) h2 (aJ (aS 109000 110000 rfl rfl rfl rfl rfl) (gE rfl rfl)) ?_;rintro m ⟨Ys,f87⟩ h2;replace h2:dT n T' WH (m+1) Ys f87=some aam:=h2;rw [dT] at h2;refine nx 5 rfl (fD [49] h2 rfl (λ c88 h2=>?_) λ c88 h2=>?_)
   ·refine nx 6 Z (oE h2 Y Z Z Y λ hk89 h2=>?_);refine nx 6 Z (bd h2 λ r90 e91 h2=>?_);refine oK (HP.c e91) Z ⟨sr,trivial⟩ HE.e Z (oC h2 Z λ hk92 h2=>?_);refine bd h2 λ r93 e94 h2=>mO Z (cVq [1000000] [110000] 111000 111001 (bj (aC.mk f87) (([32]:Bk)++r90) _ e94) HE.e Z ?_);refine nx 2 Z (oA h2 Z Z λ hk95 h2=>?_);exact nx 2 Z (eX (Ys+1,r93.2.2.If) h2 (aJ (aS 111000 110000 Z Z Z Z Z) (gE Z Z)))
   exact dj
  exact aB
 refine lG (λ (XX:Int×(List UInt8))=>⟨[(0,.ptr 1000000 0),(2,.p (eS indent_2)),(4,.ptr 4 0),(13,.p (eL aw T'.B')),(14,.p (eI (T'.B'.length:Int))),(15,.p (eI XX.1))],[(4,(av.cs T').map .p),(1000000,[.bptr 70 2 1000000,.vec 900000 1 (5+1) (XX.2.map eU)])]⟩) (λ m (XX:Int×(List UInt8))=>dU n T' indent_2 m XX.1 XX.2) Y (0,w_0.If) h1 (gE rfl rfl) ?_;rintro m ⟨Vy,f15⟩ h1;replace h1:dU n T' indent_2 (m+1) Vy f15=some YF:=h1;rw [dU] at h1;refine nx 5 rfl (fD [16] h1 rfl (λ c16 h1=>?_) λ c16 h1=>?_)
 ·refine nx 6 Z (oE h1 ai.E' Z Z Y λ hk17 h1=>?_);refine nx 4 Z (cc' h1 λ WG h1=>?_);refine cc' h1 λ Wv h1=>bd h1 λ VH e21 h1=>cc' h1 λ WE h1=>cc' h1 λ W7 h1=>bd h1 λ Y2 e25 h1=>mG (gE (t:=⟨[(0,.ptr 1000000 0),(2,.p (eS indent_2)),(4,.ptr 4 0),(7,.ptr 7 0),(13,.p (eL aw T'.B')),(14,.p (eI (T'.B'.length:Int))),(15,.p (eI Vy))],[(4,(av.cs T').map .p),(7,(ai.cs (lat T'.B' Vy)).map .p),(1000000,[.bptr 70 2 1000000,.vec 900000 1 (5+1) (f15.map eU)])]⟩) Z Z) (mSq ⟨1,[11],(by2 (.some (dk [900000] 102000 102001)) .none),(λ _=>[(0,.ptr 1000000 0),(2,.p (eS indent_2)),(4,.ptr 4 0),(7,.ptr 7 0),(13,.p (eL aw T'.B')),(14,.p (eI (T'.B'.length:Int))),(15,.p (eI Vy))]),(by2 ([(4,[.p (eL aw T'.B'),.p (eL aI T'.By)]),(7,[.p (eS ((lat T'.B' Vy).AT)),.p (eI (((lat T'.B' Vy).I').Ar)),.p (eI (((lat T'.B' Vy).I').fOp)),.p (eS (((lat T'.B' Vy).I').AT)),.p (eS (((lat T'.B' Vy).I').It)),.p (eI ((((lat T'.B' Vy).I').BY).Ar)),.p (eI ((((lat T'.B' Vy).I').BY).G')),.p (eS ((((lat T'.B' Vy).I').BY).D')),.p (eL cn ((((lat T'.B' Vy).I').BY).Gw)),.p (eL eS ((((lat T'.B' Vy).I').BY).F')),.p (eL ao (((lat T'.B' Vy).I').A')),.p (eI (((lat T'.B' Vy).I').fAt)),.p (eI ((lat T'.B' Vy).fAt))]),(1000000,[.bptr 70 2 1000000,.vec 900000 1 (5+1) (f15.map eU)])]) ([(1000000,[.bptr 70 2 1000000,.vec 102000 1 (5+1) (Y2.2.2.If.map eU)]),(4,[.p (eL aw T'.B'),.p (eL aI T'.By)]),(7,[.p (eS ((lat T'.B' Vy).AT)),.p (eI (((lat T'.B' Vy).I').Ar)),.p (eI (((lat T'.B' Vy).I').fOp)),.p (eS (((lat T'.B' Vy).I').AT)),.p (eS (((lat T'.B' Vy).I').It)),.p (eI ((((lat T'.B' Vy).I').BY).Ar)),.p (eI ((((lat T'.B' Vy).I').BY).G')),.p (eS ((((lat T'.B' Vy).I').BY).D')),.p (eL cn ((((lat T'.B' Vy).I').BY).Gw)),.p (eL eS ((((lat T'.B' Vy).I').BY).F')),.p (eL ao (((lat T'.B' Vy).I').A')),.p (eI (((lat T'.B' Vy).I').fAt)),.p (eI ((lat T'.B' Vy).fAt))])]))⟩ Z ?_);refine dPc (.ptr 1000000 0) Z (dPc (.p (eS indent_2)) Z ?_);refine dPc (.ptr 7 0) Z (dPc (.p (eS ((lat T'.B' Vy).AT))) Z ?_);refine dO (.p (eS (indent_2++((lat T'.B' Vy).AT)))) [20,22] Z (λ _ sl UT K hK=>al Z (bV Z Z Z (UT _ _ Z) (UT _ _ Z) WG hK)) (dO (.p (eS ((indent_2++((lat T'.B' Vy).AT))++([32,61,32]:Bk)))) [23] Z (λ _ sl UT K hK=>al Z (bV Z Z Z (UT _ _ Z) Z Wv hK)) ?_);refine dPc (.ptr 7 1) Z (dPc (.p (.agg (ab.cs ((lat T'.B' Vy).I')))) Z ?_);refine dO (.p (eS VH)) [26] Z (λ _ sl UT K hK=>al Z (bQ (HP.c e21) Z Z Z (aG (UT _ _ Z) bp) ⟨sr,trivial⟩ HE.e Z hK)) (dO (.p (eS (((indent_2++((lat T'.B' Vy).AT))++([32,61,32]:Bk))++VH))) [24,27] Z (λ _ sl UT K hK=>al Z (bV Z Z Z (UT _ _ Z) (UT _ _ Z) WE hK)) ?_);refine dO (.p (eS ((((indent_2++((lat T'.B' Vy).AT))++([32,61,32]:Bk))++VH)++([10]:Bk)))) [28] Z (λ _ sl UT K hK=>al Z (bV Z Z Z (UT _ _ Z) Z W7 hK)) (dI (λ _=>.tuple [.p (eI Y2.1),.p (eE Y2.2.1)]) [19,29] Z (λ sl UT K hK=>al Z (bq [1000000] [900000] 102000 102001 (bj (aC.mk f15) ((((indent_2++((lat T'.B' Vy).AT))++([32,61,32]:Bk))++VH)++([10]:Bk)) _ e25) Z Z Z (aG (UT _ _ Z) (aG (UT _ _ Z) bp)) Z ⟨sr,sr,trivial⟩ Z Z ⟨⟨_,Z,⟨sr,sr,trivial⟩⟩,trivial⟩ Z Z Z Z Z Z Z Z HE.e Z Z hK)) ?_);refine d5 (nx 2 Z ?_);exact oA h1 Z Z λ YQ h1=>nx 2 Z (eX (Vy+1,Y2.2.2.If) h1 (aJ (aS 102000 900000 Z Z Z Z Z) (gE Z Z)))
 exact aB
def lA (n:Nat)(b_0:av):Option Bk :=(fP n (aC.mk []) b_0 ([]:Bk)).bind λ r1=>(db (aC.mk r1.If)).bind λ r3=>some r3.1
instance Ls (n:Nat) (b_0:av):∀ (r:Bk),HP (lA n b_0=some r) Tryz.prog 8 [.agg (av.cs b_0)] (.p (eS r)):=by
 refine hP good Tryz.func8 Z Z λ r h0 _ w0=>?_;unfold lA at h0;refine nx 7 Z (mO Z (sx Z Z Z Z Z Z Z ?_));refine nx 4 Z (bd h0 λ r1 e2 h0=>?_);refine mO Z (bq [3] [890000] 101000 101001 (HO.c e2) Z Z Z Z Z ⟨sr,sr,sr,trivial⟩ Z Z ⟨⟨_,Z,⟨sr,AV.sub_nilvec _ _ _,trivial⟩⟩,trivial⟩ Z Z Z Z Z Z Z Z HE.e Z Z ?_);refine nx 3 Z (bd h0 λ r3 e4 h0=>?_);refine mO Z (cVq [3] [101000] 102000 102000 (fv (aC.mk r1.If) _ e4) HE.e Z ?_);exact J0
end Go.Ab.R06
end
section
namespace Go.Ab
section
variable {C:Cx} {o:Oper} {K:AS->Prop} {sl:List (Nat×AV)} {ob:List (Nat×List AV)} {d:Nat}
def upK (tok sz n:Nat)(z:PV)(x:AV):AV:=match x with
 | .stk t s es=>bif Nat.beq t tok then (bif Nat.beq s sz then .stk t s (es.set n z) else .undef) else .stk t s es
 | x=>x.dem (Nat.beq · tok)
def Rl (tok sz n:Nat)(z:PV):List AV->Option (List AV)
 | []=>some []
 | x::r=>(match frc (upK tok sz n z x) with
  | some y=>(match Rl tok sz n z r with|some l=>some (y::l)|none=>none)
  | none=>none)
theorem GF {tok sz n:Nat}{z:PV}:∀ {l l':List AV},Rl tok sz n z l=some l'->l'=l.map (upK tok sz n z)
 | [],l',h=>by cases h; rfl
 | x::r,l',h=>by
  unfold Rl at h;split at h
  ·rename_i y hy;split at h
   ·rename_i m hm; cases h; rw [zQ hy,GF hm]; rfl
   ·cases h
  ·cases h
def Fz (tok sz n:Nat)(z:PV):List (Nat×List AV)->Option (List (Nat×List AV))
 | []=>some []
 | (i,cs)::r=>(match Nat.beq i tok with
  | true=>Fz tok sz n z r
  | false=>(match Rl tok sz n z cs with
   | some ds=>(match Fz tok sz n z r with|some l=>some ((i,ds)::l)|none=>none)
   | none=>none))
theorem uZ {tok sz n:Nat}{z:PV}:∀ {l l':List (Nat×List AV)},Fz tok sz n z l=some l'->∀ id cs,look l' id=some cs->id≠tok/\∃ ds,look l id=some ds/\cs=ds.map (upK tok sz n z)
 | [],l',h,id,cs,hc=>by cases h; cases hc
 | (i,xs)::r,l',h,id,cs,hc=>by
  unfold Fz at h;split at h
  ·rename_i hb;obtain ⟨h1,ds,h2,h3⟩:=uZ h id cs hc
   grind [Nat.eq_of_beq_eq_true,aZ]
  ·rename_i hb;have hi:i≠tok:=λ e=>by simp_all
   split at h
   ·rename_i ds hds;split at h
    ·rename_i m hm
     cases h
     rw [aZ] at hc ⊢;by_cases e1:i=id
     ·grind [GF]
     ·rw [if_neg e1] at hc ⊢;exact uZ hm id cs hc
    ·cases h
   ·cases h
theorem yF {z:PV}(hc:(AV.p z).cellsA=some (z.cells.map .p)){x:PV}(hx:x∈z.cells):x.one=true:=by
 have h9:PV.onesB z.cells=true\/z.one=true:=by
  cases z with
  | agg cs=>
   exact Ju
  | val _=>
   exact Mx
  | slice _=>exact .inr Z
  | ifc=>exact .inr Z
  | aint _=>exact .inr Z
 exact Kq
theorem BV {t:TypeId}{x v:Operand}{i:TI}{tok sz n off:Nat}{es:List PV}{z:PV}{Y0z:AV}{sl':List (Nat×AV)}{ob':List (Nat×List AV)}(ho:o.op=.store t x v)(hd:o.dst=none)
  (hi:look C.tt t=some i) (hiz:i.size=sz) (hx:evo sl x=some (.ptr tok off)) (hoff:off=n*sz) (hq:∀ {g:Gh} {a:Act} {w:World},St C.n C.w0 C.F g ⟨sl,ob⟩ a w->∃ u,ARep w g (.stk tok sz es) u) (hn:n<es.length)
  (hv:evo sl v=some Y0z) (hY:Y0z.sub (.p z)) (hc:(AV.p z).cellsA=some (z.cells.map .p)) (hcl:Nat.beq z.cells.length sz=true) (htok:Nat.blt tok M1=true)
  (h1:sl'=sl.map λ p=>(p.1,upK tok sz n z p.2)) (h2:Fz tok sz n z ob=some ob') (hK:K ⟨sl',ob'⟩):bu C o K ⟨sl,ob⟩:=by
 subst hiz h1 hoff;have htl:tok<M1:=Nat.blt_eq ▸ htok;have hcl':=cl hcl;intro g a w hs;have h5:=bN hs hx;have h6:ARep w g (.p z) (a.eval v):=hY _ _ _ (bN hs hv);obtain ⟨vq,h7⟩:=hq hs;obtain ⟨hs1,hs2⟩:=lF hc h6;rw [List.length_map] at hs1;generalize U4:a.eval x=u at h5
 cases h5 with
 | ptr how=>
 rename_i b
 cases h7 with
 | stkn=>simp at hn
 | stke=>simp at hn
 | stk how0 k2 U9 Pn U0 Vh Va hr=>
  rename_i b0 cap c e;rw [how] at how0; cases how0;obtain ⟨p,hpd⟩:∃ p,p=n*i.size:=⟨_,rfl⟩
  rw [<- hpd] at U4
  have hp:p+i.size<=c.size:=by
   have:=Nat.mul_le_mul_right i.size (show n+1<=cap by omega)
   grind
  have hone1:∀ u∈(a.eval v).cells.toList,u.oneCell'=true:=by
   exact N9
  have hstc:=run_storeCells_at C.P b p e (a.eval v).cells.toList 0 c w k2 jW hone1;simp only [Nat.add_zero,Array.length_toList] at hstc;obtain ⟨c',hc'⟩:∃ c',c'=(c.toList.take p++(a.eval v).cells.toList++c.toList.drop (p+(a.eval v).cells.size)).toArray:=⟨_,rfl⟩
  rw [<- hc'] at hstc;have hsz':=run_sizeOf C.good hi w;have Vs:(a.eval v).cells.size=i.size:=hs1.trans hcl';unfold Oper.wp
  have hrun:(execOp a.eval o).run C.P w=.ok .skip (w.setRow b c'):=by
   simp_all [execOp,Instr.storeAt,Instr.sureAddr,storeVar]
  rw [hrun];simp only [Oper.upon,hd,Act.put]
  have U6:∀ j,c'[j]? = if p<=j/\j<p+i.size then (a.eval v).cells[j-p]? else c[j]?:=by
   grind [mJ]
  have hsize':c'.size=c.size:=by
   grind
  have hev':Ev w g.st (w.setRow b c') g.st:=by
   intro b2 o2 h2;by_cases e1:b2=b
   ·subst e1;have:=(Va o2).1 h2;refine ⟨h2,?_⟩;simp only [World.cell?,k2,setRow_heap w b2 c c' e (0,0) k2]
    grind
   grind [World.cell?,setRow_other]
  have Xi:∀ id b2,Nat.beq id tok=false->g.ow id=some b2->b2≠b:=λ id b2 hD h e=>by
   subst e;have:=hs.inj id tok b2 h how
   simp_all
  have hE:EvO (Nat.beq · tok) w g (w.setRow b c') g:=by
   refine ⟨hev',λ id b2 _ h=>h,λ id b2 c2 e2 hD h h2=>Mj,λ id b2 o2 hD h h3=>h3,λ id b2 es2 k2' hD h h2=>(setRow_other w b b2 c' (Xi id b2 hD h)).trans h2,λ i hi=>?_,λ id b2 o2 hD h _=>setRow_other w b b2 c' (Xi id b2 hD h)⟩;exact M7
  have hup:∀ {y:AV} {u:Value},ARep w g y u->ARep (w.setRow b c') g (upK tok i.size n z y) u:=by
   intro y u h;unfold upK;split
   ·rename_i t s es1
    cases hq:Nat.beq t tok
    ·have:=h.dem hE
     grind [AV.dem]
    ·have e1:=cl hq;subst e1;simp only [cond_true]
     cases hq2:Nat.beq s i.size
     ·exact gX
     ·have e2:=cl hq2;subst e2;simp only [cond_true]
      cases h with
      | stkn=>exact .stkn _ _
      | stke=>exact .stke _ _ _
      | stk how2 hb2 hcs2 hlen2 hsz2 hone2 hst2 hr2=>
       rename_i b2 cap2 c2 e2;rw [how] at how2; cases how2;rw [k2] at hb2; cases hb2;have hl:(es1.set n z).length=es1.length:=List.length_set;rw [<- hl];refine .stk how (setRow_heap w b c c' e (0,0) k2) (hsize'.trans hcs2) O (λ x hx=>?_) (λ x hx y hy=>?_) hst2 (λ k x j p1 hx hp1=>?_)
       ·grind
       ·grind [yF]
       ·rw [List.getElem?_set] at hx;split at hx
        ·rename_i hnk;subst hnk;split at hx
         ·simp only [bx] at hx;subst hx;have hjl:j<z.cells.length:=(List.getElem?_eq_some_iff.1 hp1).1;have hjc:j<(a.eval v).cells.size:=by omega
          have h8:=hs2 j (.p p1) _ (by simp [hp1]) (Array.getElem?_eq_getElem hjc);refine ⟨(a.eval v).cells[j],?_,?_⟩
          ·simp_all
          ·cases h8.1 with
           | p hr=>exact hr.mono hev'
         ·cases hx
        ·rename_i hnk;obtain ⟨u,hu,hrr⟩:=hr2 k x j p1 hx hp1;have hjl:j<i.size:=by grind
         refine ⟨u,?_,hrr.mono hev'⟩;rw [U6,if_neg ?_]
         ·exact hu
         ·rw [hpd];rcases Nat.lt_or_gt_of_ne hnk with h9|h9
          ·have:=Nat.mul_le_mul_right i.size (show n+1<=k from h9)
           grind
          ·have:=Nat.mul_le_mul_right i.size (show k+1<=n from h9)
           grind
   ·exact h.dem hE
  refine ⟨g,⟨sl.map λ p=>(p.1,upK tok i.size n z p.2),ob'⟩,?_,hK⟩;refine ⟨hs.nd,hs.sz,λ j=>?_,λ id' cs' h'=>?_,hs.inj,λ j b2 h=>?_,λ b2 o2 h=>?_,hs.fl,λ b2 h=>?_,hs.os,hs.out,hs.tape,?_,hs.stf,hs.owf,hs.shf.next (λ _ b c e _ _ h=>(pZ k2 hsize').1 b c e h),hs.nst,hs.ev0.trans hev'⟩
  ·exact Lk
  ·obtain ⟨hne',ds,m1,rfl⟩:=uZ h2 id' cs' h';obtain ⟨b2,c2,e2,n1,n2,n3,n4,n5⟩:=hs.ob id' ds m1
   have hD:Nat.beq id' tok=false:=by
    grind [Nat.eq_of_beq_eq_true]
   have hb2:=Xi id' b2 hD n1;refine ⟨b2,c2,e2,n1,(setRow_other w b b2 c' hb2).trans n2,by grind,n4,λ j y hy=>?_⟩
   grind
  ·have:=hs.own j b2 h; simp_all
  ·have:=hs.lt b2 o2 h; simp_all
  ·exact Nq
  ·have:=hs.size; simp_all
theorem Jq {q tok sz:Nat}{es:List PV}(hq:look sl q=some (.stk tok sz es)){g:Gh}{a:Act}{w:World}(hs:St C.n C.w0 C.F g ⟨sl,ob⟩ a w):∃ u,ARep w g (.stk tok sz es) u:=by
 have h7:=hs.sl q
 grind [AS.get]
end
section
variable {C:Cx} {o:Oper} {K:AS->Prop} {sl:List (Nat×AV)} {ob:List (Nat×List AV)} {d:Nat}
def QN {α:Type}(l:List α)(n:Int)(y:α):List α:=l.set n.toNat y
theorem OX {α:Type}(f:α->PV)(tok sz:Nat)(l:List α)(n:Int)(y:α):upK tok sz n.toNat (f y) (.stk tok sz (l.map f))=.stk tok sz ((QN l n y).map f):=by
 simp_all [upK,QN]
theorem FE {α:Type}(f:α->PV)(l:List α)(y:α)(q:Nat){t:TypeId}{x v:Operand}{i:TI}{tok sz:Nat}{n:Int}{Y0z:AV}{sl':List (Nat×AV)}{ob':List (Nat×List AV)}(ho:o.op=.store t x v)(hd:o.dst=none)
  (hi:look C.tt t=some i) (hiz:i.size=sz) (hx:evo sl x=some (.ptr tok (n.toNat*sz))) (hq:look sl q=some (.stk tok sz (l.map f))) (hb:0<=n/\n<(l.length:Int))
  (hv:evo sl v=some Y0z) (hY:Y0z.sub (.p (f y))) (hc:(AV.p (f y)).cellsA=some ((f y).cells.map .p)) (hcl:Nat.beq (f y).cells.length sz=true) (htok:Nat.blt tok M1=true)
  (h1:sl'=sl.map λ p=>(p.1,upK tok sz n.toNat (f y) p.2)) (h2:Fz tok sz n.toNat (f y) ob=some ob') (hK:K ⟨sl',ob'⟩):bu C o K ⟨sl,ob⟩ :=
 BV ho hd hi hiz hx Z (Jq hq) (by grind) hv hY hc hcl htok h1 h2 hK
theorem C2 {s0 s1 s2:AS}(h:∀ K':AS->Prop,K' s1->bu C o K' s0)(hg:cN C s1 s2)(hK:K s2):bu C o K s0:=by
 intro g a w hs;have h1:=h (λ s=>s=s1) rfl g a w hs;unfold Oper.wp at h1 ⊢;refine oH (λ a' w' hn=>?_) (λ _ _ _ h=>h) h1;obtain ⟨g',s',hs',rfl⟩:=hn;obtain ⟨g2,hs2⟩:=hg _ _ _ hs'
 grind
theorem QU (tok sz n:Nat)(z:PV)(x:AV):upK tok sz n z x=x.dem (Nat.beq · tok)\/x.dem (Nat.beq · tok)=.undef:=by
 unfold upK
 grind [AV.dem]
end
variable {p:Prop}
theorem MW (h:p:=by exact ⟨cs,hc,bt _,λ i c d h1 h2=>by grind [AV.sub_refl]⟩):p:=h
section
variable {C:Cx} {o:Oper} {K:AS->Prop} {sl:List (Nat×AV)} {ob:List (Nat×List AV)} {d:Nat}
theorem Rp {α:Type}(f:α->PV)(l:List α)(y:α)(q:Nat){t:TypeId}{x v:Operand}{i:TI}{tok sz:Nat}{n:Int}{Y0z:AV}{sl':List (Nat×AV)}{ob':List (Nat×List AV)}(ho:o.op=.store t x v)(hd:o.dst=none)
  (hi:look C.tt t=some i) (hiz:i.size=sz) (hx:evo sl x=some (.ptr tok (n.toNat*sz))) (hq:look sl q=some (.stk tok sz (l.map f))) (hb:0<=n/\n<(l.length:Int))
  (hv:evo sl v=some Y0z) (hY:Y0z.sub (.p (f y))) (hc:(AV.p (f y)).cellsA=some ((f y).cells.map .p)) (hcl:Nat.beq (f y).cells.length sz=true) (htok:Nat.blt tok M1=true)
  (h1:dmS (Nat.beq · tok) sl=some sl') (h2:Fz tok sz n.toNat (f y) ob=some ob') (hK:K ⟨(q,.stk tok sz ((QN l n y).map f))::sl',ob'⟩):bu C o K ⟨sl,ob⟩:=by
 have d1:=sZ h1;subst d1;refine C2 (s1:=⟨sl.map λ p=>(p.1,upK tok sz n.toNat (f y) p.2),ob'⟩) (s2:=⟨(q,.stk tok sz ((QN l n y).map f))::sl.map λ p=>(p.1,p.2.dem (Nat.beq · tok)),ob'⟩) (λ K' h=>FE f l y q ho hd hi hiz hx hq hb hv hY hc hcl htok Z h2 h) (dZ ⟨λ j x hx=>?_,λ id cs hc=>MW⟩) hK;simp only [aZ,kI] at hx;simp only [AS.get,kI];by_cases e:q=j
 ·grind [OX,AV.sub_refl]
 grind [Option.map_eq_some_iff,QU,AV.sub_refl,AV.sub_undef]
theorem xH {s0:AS}{x y:AV}{rest:List (Nat×AV)}{ob1:List (Nat×List AV)}(h:∀ K':AS->Prop,K' ⟨(d,x)::rest,ob1⟩->bu C o K' s0)(hs:x.sub y)(hK:K ⟨(d,y)::rest,ob1⟩):bu C o K s0:=by
 refine C2 (s2:=⟨(d,y)::rest,ob1⟩) h (dZ ⟨λ j z hz=>?_,λ id cs hc=>MW⟩) hK
 grind [aZ,AS.get,AV.sub_refl]
end
end Go.Ab
end
section
namespace Go.Ab.R06
open Go.Proofs Go.Ab Go.Ab.RB
variable {p:Prop}
theorem Au (h:p:=by exact gFn 26 C_eq_2 Z (by simp only [uB K_eq_2])):p:=h
theorem AB (h:p:=by exact gFn 2 C_eq_2 Z (by simp only [uB K_eq_2])):p:=h
set_option maxRecDepth 4000
attribute [local irreducible] awp iH bu bA cj AV.sub M cN
def gH (O':Bk):Option ab :=some (ab.mk 3 0 O' ([]:Bk) (ag.mk 0 0 ([]:Bk) [] []) [] 0)
instance Hx (O':Bk):∀ (r:ab),HP (gH O'=some r) Tryz.prog 18 [eS O'] (.p (.agg (ab.cs r))):=by
 refine hP good Tryz.func18 Z Z λ r h0 _ w0=>?_;unfold gH at h0;exact J0
def cU (s1_0:List Bk)(s2_1:List Bk):Nat->Int->Option (Unit⊕Bool)|0,_=>none|m+1,t8=>if t8<(s1_0.length:Int) then ck ((0:Int)<=t8/\t8<(s1_0.length:Int))<|ck ((0:Int)<=t8/\t8<(s2_1.length:Int))<|if lat s1_0 t8=lat s2_1 t8 then ck (inR (t8+1))<|cU s1_0 s2_1 m (t8+1)else some (.inr false)else some (.inl ())
def fk (n:Nat)(s1_0:List Bk)(s2_1:List Bk):Option Bool :=if (s1_0.length:Int)=(s2_1.length:Int) then jn (cU s1_0 s2_1 n 0) λ Xe=>some true else some false
instance wa (n:Nat) (s1_0:List Bk) (s2_1:List Bk):∀ (r:Bool),HP (fk n s1_0 s2_1=some r) Tryz.prog 49 [eL eS s1_0,eL eS s2_1] (.p (eB r)):=by
 refine hP good Tryz.func49 Z Z λ r h0 _ w0=>?_;unfold fk at h0;refine nx 8 Z (oLl (f:=eS) Z Z ?_);refine nx 1 Z (oLl (f:=eS) Z Z ?_);refine nx 2 Z (fN [10] h0 Z (λ c1 h0=>?_) λ c1 h0=>?_)
 ·refine nx 6 rfl (oLl (f:=eS) Z Z ?_);refine nx 3 rfl ?_;obtain ⟨ZO,h1,Vp,hR0⟩:=bJ h0;refine kEx 0 (λ Yr:Unit=>ZO=.inl Yr) (λ Yr=>⟨[],[]⟩) (λ Yr hv=>?_) ?_
  ·exact eW
  refine lG (λ (YB:Int)=>⟨[(0,.p (eL eS s1_0)),(1,.p (eL eS s2_1)),(12,.p (eI (s1_0.length:Int))),(13,.p (eI YB))],[]⟩) (λ m (YB:Int)=>cU s1_0 s2_1 m YB) Y 0 h1 (gE rfl rfl) ?_;rintro m t8 h1;replace h1:cU s1_0 s2_1 (m+1) t8=some ZO:=h1;rw [cU] at h1;refine nx 5 rfl (fD [14] h1 rfl (λ c9 h1=>?_) λ c9 h1=>?_)
  ·refine nx 10 Z (cc' h1 λ Wb h1=>?_);refine cc' h1 λ WP h1=>mD [(0,.p (eL eS s1_0)),(1,.p (eL eS s2_1)),(5,.p (eI t8)),(12,.p (eI (s1_0.length:Int))),(13,.p (eI t8))] Z ⟨Z,Z,Z,Z,Z,trivial⟩ Z (dR 2 Z ?_);refine dq (.rptr [eS (lat s1_0 t8)]) [16,17] Z (λ _ e _ q=>al Z (dh (f:=eS) (l:=s1_0) (λ x=>[eS x]) Z Z Z Z Z Z (e _ _ Z) Z (e _ _ Z) Wb Y Y q)) Z (dR 3 Z ?_);refine dq (.rptr [eS (lat s2_1 t8)]) [20,21] Z (λ _ e _ q=>al Z (dh (f:=eS) (l:=s2_1) (λ x=>[eS x]) Z Z Z Z Z Z (e _ _ Z) Z (e _ _ Z) WP Y Y q)) Z (dR 1 Z ?_);refine dq (.p (eB (!decide (lat s1_0 t8=lat s2_1 t8)))) [19,23] Z (λ _ e _ q=>al Z (ko Z Z Z (e _ _ Z) (e _ _ Z) Z q)) Z (dE Z ?_);exact aB
  exact aB
 exact J0
def bg (s1_0:List ag)(s2_1:List ag)(eq_2:ag->ag->Option Bool):Nat->Int->Option (Unit⊕Bool)|0,_=>none|m+1,Vn=>if Vn<(s1_0.length:Int) then ck ((0:Int)<=Vn/\Vn<(s1_0.length:Int))<|ck ((0:Int)<=Vn/\Vn<(s2_1.length:Int))<|(eq_2 (lat s1_0 Vn) (lat s2_1 Vn)).bind λ Vl=>if (!Vl)=true then some (.inr false)else ck (inR (Vn+1))<|bg s1_0 s2_1 eq_2 m (Vn+1)else some (.inl ())
def bX (n:Nat)(s1_0:List ag)(s2_1:List ag)(eq_2:ag->ag->Option Bool):Option Bool :=if (s1_0.length:Int)=(s2_1.length:Int) then jn (bg s1_0 s2_1 eq_2 n 0) λ YA=>some true else some false
theorem fA (n:Nat)(s1_0:List ag)(s2_1:List ag)(eq_2:ag->ag->Option Bool)(F_eq_2:FuncId)(C_eq_2:List AV)(K_eq_2:AV.mapA.go (λ _=>none) C_eq_2=some C_eq_2)(E_eq_2:∀ vs w,(callFunc F_eq_2 vs).run Tryz.prog w=.ok (.enter F_eq_2 vs) w)(H_eq_2:∀ (x0:ag) (x1:ag) r,eq_2 x0 x1=some r->ip Tryz.prog F_eq_2 ([.p (.agg (ag.cs x0)),.p (.agg (ag.cs x1))]++C_eq_2) (·=.p (eB r)))(r:Bool)(h0:bX n s1_0 s2_1 eq_2=some r):ip Tryz.prog 78 [.p (eL cn s1_0),.p (eL cn s2_1),.func (.func F_eq_2) C_eq_2] (·=.p (eB r)):=by
 unfold bX at h0;refine tE good Tryz.func78 Z Z Z λ w0=>mP (λ v:Bool=>.p (eB v)) ?_;refine nx 8 Z (oLl (f:=cn) Z Z ?_);refine nx 1 Z (oLl (f:=cn) Z Z ?_);refine nx 2 Z (fN [14] h0 Z (λ c1 h0=>?_) λ c1 h0=>?_)
 ·refine nx 6 rfl (oLl (f:=cn) Z Z ?_);refine nx 3 rfl ?_;obtain ⟨YE,h1,Vp,hR0⟩:=bJ h0;refine kEx 0 (λ v21:Unit=>YE=.inl v21) (λ v21=>⟨[],[]⟩) (λ v21 hv=>?_) ?_
  ·exact eW
  refine lG (λ (Vw:Int)=>⟨[(1,.p (eL cn s2_1)),(2,.func (.func F_eq_2) C_eq_2),(15,.p (eL cn s1_0)),(16,.p (eI (s1_0.length:Int))),(17,.p (eI Vw))],[]⟩) (λ m (Vw:Int)=>bg s1_0 s2_1 eq_2 m Vw) Y 0 h1 (gE rfl rfl) ?_;rintro m Vn h1;replace h1:bg s1_0 s2_1 eq_2 (m+1) Vn=some YE:=h1;rw [bg] at h1;refine nx 5 rfl (fD [18] h1 rfl (λ Xa h1=>?_) λ Xa h1=>?_)
  ·refine nx 7 Z (oE h1 ag.E' Z Z Y λ W9 h1=>?_);refine nx 9 Z (oE h1 ag.E' Z Z Y λ W8 h1=>?_);refine nx 9 Z (bd h1 λ Vl X9 h1=>?_);refine mG AB (mG Au ?_);refine mO Z (nF (q:=[.p (.agg (ag.cs (lat s1_0 Vn))),.p (.agg (ag.cs (lat s2_1 Vn)))]) (H_eq_2 (lat s1_0 Vn) (lat s2_1 Vn) _ X9) Z Z Z Z K_eq_2 Z Z ⟨sr,sr,trivial⟩ E_eq_2 Z ?_);exact aB
  exact aB
 exact J0
def nA:Nat->ag->ag->Option Bool|0,_,_=>none|n+1,a_0,T'=>(if a_0.Ar=T'.Ar then if a_0.G'=T'.G' then if a_0.D'=T'.D' then(fk n a_0.F' T'.F').bind λ r4=>if r4=true then(bX n a_0.Gw T'.Gw (λ x0 x1=>(nA n) x0 x1)).bind λ r8=>some r8 else some false else some false else some false else some false).bind λ Vn=>some Vn
instance Oc (n:Nat):∀ (a_0:ag) (T':ag) (r:Bool),HP (nA n a_0 T'=some r) Tryz.prog 43 [.agg (ag.cs a_0),.agg (ag.cs T')] (.p (eB r)):=by
 induction n with
 | zero=>exact Zr
 | succ n ih=>
 refine λ a_0 T'=>hP good Tryz.func43 Z Z λ r h0 _ w0=>?_;rw [nA] at h0;refine nx 7 Z (bd h0 λ o12 h1 h0=>?_);refine kN o12 (λ ZW=>⟨[(4,.p (eB ZW))],[]⟩) ?_ ?_
 ·exact J0
 refine nx 7 Z (fD [9,10] h1 Z (λ c1 h1=>?_) λ c1 h1=>?_)
 ·refine nx 7 Z (fD [15,16,17] h1 Z (λ c2 h1=>?_) λ c2 h1=>?_)
  ·refine nx 4 Z (oS Z Z ?_);refine nx 2 Z (fD [22,23,24] h1 Z (λ c3 h1=>?_) λ c3 h1=>?_)
   ·refine nx 4 Z (K1 λ r4 h1=>nx 2 Z ?_);refine fB [29,30,31] h1 Z (λ c6 h1=>?_) λ c6 h1=>?_
    ·refine nx 4 Z (bd h1 λ r8 e9 h1=>?_);refine mO Z (qh (fA _ a_0.Gw T'.Gw (λ x0 x1=>(nA n) x0 x1) 43 [] Z HE.e (λ x0 x1 r h=>(HP.c h).q) _ e9) Z Z Z Z (dv Z (dv Z (dv (oJ Z) mY))) ⟨sr,sr,sr,trivial⟩ HE.e Z ?_);exact aB
    exact aB
   exact aB
  exact aB
 exact aB
def br (s1_0:List ab)(s2_1:List ab)(eq_2:ab->ab->Option Bool):Nat->Int->Option (Unit⊕Bool)|0,_=>none|m+1,Vn=>if Vn<(s1_0.length:Int) then ck ((0:Int)<=Vn/\Vn<(s1_0.length:Int))<|ck ((0:Int)<=Vn/\Vn<(s2_1.length:Int))<|(eq_2 (lat s1_0 Vn) (lat s2_1 Vn)).bind λ Vl=>if (!Vl)=true then some (.inr false)else ck (inR (Vn+1))<|br s1_0 s2_1 eq_2 m (Vn+1)else some (.inl ())
def ce (n:Nat)(s1_0:List ab)(s2_1:List ab)(eq_2:ab->ab->Option Bool):Option Bool :=if (s1_0.length:Int)=(s2_1.length:Int) then jn (br s1_0 s2_1 eq_2 n 0) λ YA=>some true else some false
theorem fT (n:Nat)(s1_0:List ab)(s2_1:List ab)(eq_2:ab->ab->Option Bool)(F_eq_2:FuncId)(C_eq_2:List AV)(K_eq_2:AV.mapA.go (λ _=>none) C_eq_2=some C_eq_2)(E_eq_2:∀ vs w,(callFunc F_eq_2 vs).run Tryz.prog w=.ok (.enter F_eq_2 vs) w)(H_eq_2:∀ (x0:ab) (x1:ab) r,eq_2 x0 x1=some r->ip Tryz.prog F_eq_2 ([.p (.agg (ab.cs x0)),.p (.agg (ab.cs x1))]++C_eq_2) (·=.p (eB r)))(r:Bool)(h0:ce n s1_0 s2_1 eq_2=some r):ip Tryz.prog 44 [.p (eL ao s1_0),.p (eL ao s2_1),.func (.func F_eq_2) C_eq_2] (·=.p (eB r)):=by
 unfold ce at h0;refine tE good Tryz.func44 Z Z Z λ w0=>mP (λ v:Bool=>.p (eB v)) ?_;refine nx 8 Z (oLl (f:=ao) Z Z ?_);refine nx 1 Z (oLl (f:=ao) Z Z ?_);refine nx 2 Z (fN [14] h0 Z (λ c1 h0=>?_) λ c1 h0=>?_)
 ·refine nx 6 rfl (oLl (f:=ao) Z Z ?_);refine nx 3 rfl ?_;obtain ⟨YE,h1,Vp,hR0⟩:=bJ h0;refine kEx 0 (λ v21:Unit=>YE=.inl v21) (λ v21=>⟨[],[]⟩) (λ v21 hv=>?_) ?_
  ·exact eW
  refine lG (λ (Vw:Int)=>⟨[(1,.p (eL ao s2_1)),(2,.func (.func F_eq_2) C_eq_2),(15,.p (eL ao s1_0)),(16,.p (eI (s1_0.length:Int))),(17,.p (eI Vw))],[]⟩) (λ m (Vw:Int)=>br s1_0 s2_1 eq_2 m Vw) Y 0 h1 (gE rfl rfl) ?_;rintro m Vn h1;replace h1:br s1_0 s2_1 eq_2 (m+1) Vn=some YE:=h1;rw [br] at h1;refine nx 5 rfl (fD [18] h1 rfl (λ Xa h1=>?_) λ Xa h1=>?_)
  ·refine nx 7 Z (oE h1 ab.E' Z Z Y λ W9 h1=>?_);refine nx 9 Z (oE h1 ab.E' Z Z Y λ W8 h1=>?_);refine nx 9 Z (bd h1 λ Vl X9 h1=>?_);refine mG AB (mG Au ?_);refine mO Z (nF (q:=[.p (.agg (ab.cs (lat s1_0 Vn))),.p (.agg (ab.cs (lat s2_1 Vn)))]) (H_eq_2 (lat s1_0 Vn) (lat s2_1 Vn) _ X9) Z Z Z Z K_eq_2 Z Z ⟨sr,sr,trivial⟩ E_eq_2 Z ?_);exact aB
  exact aB
 exact J0
def fC:Nat->ab->ab->Option Bool|0,_,_=>none|n+1,a_0,T'=>(if a_0.Ar=T'.Ar then if a_0.fOp=T'.fOp then if a_0.AT=T'.AT then if a_0.It=T'.It then(nA n a_0.BY T'.BY).bind λ r5=>if r5=true then(ce n a_0.A' T'.A' (λ x0 x1=>(fC n) x0 x1)).bind λ r9=>some r9 else some false else some false else some false else some false else some false).bind λ t11=>some t11
instance Dw (n:Nat):∀ (a_0:ab) (T':ab) (r:Bool),HP (fC n a_0 T'=some r) Tryz.prog 19 [.agg (ab.cs a_0),.agg (ab.cs T')] (.p (eB r)):=by
 induction n with
 | zero=>exact Zr
 | succ n ih=>
 refine λ a_0 T'=>hP good Tryz.func19 Z Z λ r h0 _ w0=>?_;rw [fC] at h0;refine nx 7 Z (bd h0 λ o13 h1 h0=>?_);refine kN o13 (λ v14=>⟨[(4,.p (eB v14))],[]⟩) ?_ ?_
 ·exact J0
 refine nx 7 Z (fD [9,10] h1 Z (λ c1 h1=>?_) λ c1 h1=>?_)
 ·refine nx 7 Z (fD [15,16,17] h1 Z (λ c2 h1=>?_) λ c2 h1=>?_)
  ·refine nx 4 Z (oS Z Z ?_);refine nx 2 Z (fD [22,23,24] h1 Z (λ c3 h1=>?_) λ c3 h1=>?_)
   ·refine nx 4 Z (oS Z Z ?_);refine nx 2 Z (fD [29,30,31] h1 Z (λ c4 h1=>?_) λ c4 h1=>?_)
    ·refine nx 4 Z (K1 λ r5 h1=>nx 2 Z ?_);refine fB [36,37,38] h1 Z (λ c7 h1=>?_) λ c7 h1=>?_
     ·refine nx 4 Z (bd h1 λ r9 Xv h1=>?_);refine mO Z (qh (fT _ a_0.A' T'.A' (λ x0 x1=>(fC n) x0 x1) 19 [] Z HE.e (λ x0 x1 r h=>(HP.c h).q) _ Xv) Z Z Z Z (dv Z (dv Z (dv (oJ Z) mY))) ⟨sr,sr,sr,trivial⟩ HE.e Z ?_);exact aB
     exact aB
    exact aB
   exact aB
  exact aB
 exact aB
def aP (s1_0:List ai)(s2_1:List ai)(eq_2:ai->ai->Option Bool):Nat->Int->Option (Unit⊕Bool)|0,_=>none|m+1,Vn=>if Vn<(s1_0.length:Int) then ck ((0:Int)<=Vn/\Vn<(s1_0.length:Int))<|ck ((0:Int)<=Vn/\Vn<(s2_1.length:Int))<|(eq_2 (lat s1_0 Vn) (lat s2_1 Vn)).bind λ Vl=>if (!Vl)=true then some (.inr false)else ck (inR (Vn+1))<|aP s1_0 s2_1 eq_2 m (Vn+1)else some (.inl ())
def bC (n:Nat)(s1_0:List ai)(s2_1:List ai)(eq_2:ai->ai->Option Bool):Option Bool :=if (s1_0.length:Int)=(s2_1.length:Int) then jn (aP s1_0 s2_1 eq_2 n 0) λ YA=>some true else some false
theorem dC (n:Nat)(s1_0:List ai)(s2_1:List ai)(eq_2:ai->ai->Option Bool)(F_eq_2:FuncId)(C_eq_2:List AV)(K_eq_2:AV.mapA.go (λ _=>none) C_eq_2=some C_eq_2)(E_eq_2:∀ vs w,(callFunc F_eq_2 vs).run Tryz.prog w=.ok (.enter F_eq_2 vs) w)(H_eq_2:∀ (x0:ai) (x1:ai) r,eq_2 x0 x1=some r->ip Tryz.prog F_eq_2 ([.p (.agg (ai.cs x0)),.p (.agg (ai.cs x1))]++C_eq_2) (·=.p (eB r)))(r:Bool)(h0:bC n s1_0 s2_1 eq_2=some r):ip Tryz.prog 45 [.p (eL aw s1_0),.p (eL aw s2_1),.func (.func F_eq_2) C_eq_2] (·=.p (eB r)):=by
 unfold bC at h0;refine tE good Tryz.func45 Z Z Z λ w0=>mP (λ v:Bool=>.p (eB v)) ?_;refine nx 8 Z (oLl (f:=aw) Z Z ?_);refine nx 1 Z (oLl (f:=aw) Z Z ?_);refine nx 2 Z (fN [14] h0 Z (λ c1 h0=>?_) λ c1 h0=>?_)
 ·refine nx 6 rfl (oLl (f:=aw) Z Z ?_);refine nx 3 rfl ?_;obtain ⟨YE,h1,Vp,hR0⟩:=bJ h0;refine kEx 0 (λ v21:Unit=>YE=.inl v21) (λ v21=>⟨[],[]⟩) (λ v21 hv=>?_) ?_
  ·exact eW
  refine lG (λ (Vw:Int)=>⟨[(1,.p (eL aw s2_1)),(2,.func (.func F_eq_2) C_eq_2),(15,.p (eL aw s1_0)),(16,.p (eI (s1_0.length:Int))),(17,.p (eI Vw))],[]⟩) (λ m (Vw:Int)=>aP s1_0 s2_1 eq_2 m Vw) Y 0 h1 (gE rfl rfl) ?_;rintro m Vn h1;replace h1:aP s1_0 s2_1 eq_2 (m+1) Vn=some YE:=h1;rw [aP] at h1;refine nx 5 rfl (fD [18] h1 rfl (λ Xa h1=>?_) λ Xa h1=>?_)
  ·refine nx 7 Z (oE h1 ai.E' Z Z Y λ W9 h1=>?_);refine nx 9 Z (oE h1 ai.E' Z Z Y λ W8 h1=>?_);refine nx 9 Z (bd h1 λ Vl X9 h1=>?_);refine mG AB (mG Au ?_);refine mO Z (nF (q:=[.p (.agg (ai.cs (lat s1_0 Vn))),.p (.agg (ai.cs (lat s2_1 Vn)))]) (H_eq_2 (lat s1_0 Vn) (lat s2_1 Vn) _ X9) Z Z Z Z K_eq_2 Z Z ⟨sr,sr,trivial⟩ E_eq_2 Z ?_);exact aB
  exact aB
 exact J0
def jv (n:Nat)(UX:ai)(y_1:ai):Option Bool :=(if UX.AT=y_1.AT then(fC n UX.I' y_1.I').bind λ r2=>some r2 else some false).bind λ t4=>some t4
instance Bp (n:Nat) (UX:ai) (y_1:ai):∀ (r:Bool),HP (jv n UX y_1=some r) Tryz.prog 46 [.agg (ai.cs UX),.agg (ai.cs y_1)] (.p (eB r)):=by
 refine hP good Tryz.func46 Z Z λ r h0 _ w0=>?_;unfold jv at h0;have:=js [100];have:=jS 100 Bool λ v=>[(4,.p (eB v))]
 exact J0
def bh (s1_0:List au)(s2_1:List au)(eq_2:au->au->Option Bool):Nat->Int->Option (Unit⊕Bool)|0,_=>none|m+1,Vn=>if Vn<(s1_0.length:Int) then ck ((0:Int)<=Vn/\Vn<(s1_0.length:Int))<|ck ((0:Int)<=Vn/\Vn<(s2_1.length:Int))<|(eq_2 (lat s1_0 Vn) (lat s2_1 Vn)).bind λ Vl=>if (!Vl)=true then some (.inr false)else ck (inR (Vn+1))<|bh s1_0 s2_1 eq_2 m (Vn+1)else some (.inl ())
def bY (n:Nat)(s1_0:List au)(s2_1:List au)(eq_2:au->au->Option Bool):Option Bool :=if (s1_0.length:Int)=(s2_1.length:Int) then jn (bh s1_0 s2_1 eq_2 n 0) λ YA=>some true else some false
theorem fx (n:Nat)(s1_0:List au)(s2_1:List au)(eq_2:au->au->Option Bool)(F_eq_2:FuncId)(C_eq_2:List AV)(K_eq_2:AV.mapA.go (λ _=>none) C_eq_2=some C_eq_2)(E_eq_2:∀ vs w,(callFunc F_eq_2 vs).run Tryz.prog w=.ok (.enter F_eq_2 vs) w)(H_eq_2:∀ (x0:au) (x1:au) r,eq_2 x0 x1=some r->ip Tryz.prog F_eq_2 ([.p (.agg (au.cs x0)),.p (.agg (au.cs x1))]++C_eq_2) (·=.p (eB r)))(r:Bool)(h0:bY n s1_0 s2_1 eq_2=some r):ip Tryz.prog 47 [.p (eL aI s1_0),.p (eL aI s2_1),.func (.func F_eq_2) C_eq_2] (·=.p (eB r)):=by
 unfold bY at h0;refine tE good Tryz.func47 Z Z Z λ w0=>mP (λ v:Bool=>.p (eB v)) ?_;refine nx 8 Z (oLl (f:=aI) Z Z ?_);refine nx 1 Z (oLl (f:=aI) Z Z ?_);refine nx 2 Z (fN [14] h0 Z (λ c1 h0=>?_) λ c1 h0=>?_)
 ·refine nx 6 rfl (oLl (f:=aI) Z Z ?_);refine nx 3 rfl ?_;obtain ⟨YE,h1,Vp,hR0⟩:=bJ h0;refine kEx 0 (λ v21:Unit=>YE=.inl v21) (λ v21=>⟨[],[]⟩) (λ v21 hv=>?_) ?_
  ·exact eW
  refine lG (λ (Vw:Int)=>⟨[(1,.p (eL aI s2_1)),(2,.func (.func F_eq_2) C_eq_2),(15,.p (eL aI s1_0)),(16,.p (eI (s1_0.length:Int))),(17,.p (eI Vw))],[]⟩) (λ m (Vw:Int)=>bh s1_0 s2_1 eq_2 m Vw) Y 0 h1 (gE rfl rfl) ?_;rintro m Vn h1;replace h1:bh s1_0 s2_1 eq_2 (m+1) Vn=some YE:=h1;rw [bh] at h1;refine nx 5 rfl (fD [18] h1 rfl (λ Xa h1=>?_) λ Xa h1=>?_)
  ·refine nx 7 Z (oE h1 au.E' Z Z Y λ W9 h1=>?_);refine nx 9 Z (oE h1 au.E' Z Z Y λ W8 h1=>?_);refine nx 9 Z (bd h1 λ Vl X9 h1=>?_);refine mG AB (mG Au ?_);refine mO Z (nF (q:=[.p (.agg (au.cs (lat s1_0 Vn))),.p (.agg (au.cs (lat s2_1 Vn)))]) (H_eq_2 (lat s1_0 Vn) (lat s2_1 Vn) _ X9) Z Z Z Z K_eq_2 Z Z ⟨sr,sr,trivial⟩ E_eq_2 Z ?_);exact aB
  exact aB
 exact J0
mutual
def gQ:Nat->av->av->Option Bool|0,_,_=>none|n+1,a_0,T'=>((bC n a_0.B' T'.B' (λ x0 x1=>jv n x0 x1)).bind λ r2=>if r2=true then(bY n a_0.By T'.By (λ x0 x1=>(jz n) x0 x1)).bind λ r6=>some r6 else some false).bind λ t8=>some t8
def jz:Nat->au->au->Option Bool|0,_,_=>none|n+1,UX,y_1=>(if UX.Mr=y_1.Mr then(fk n UX.J' y_1.J').bind λ r2=>if r2=true then((gQ n) UX.Mp y_1.Mp).bind λ r5=>some r5 else some false else some false).bind λ t7=>some t7
end
theorem rX (n:Nat):(∀ (a_0:av) (T':av) (r:Bool),HP (gQ n a_0 T'=some r) Tryz.prog 20 [.agg (av.cs a_0),.agg (av.cs T')] (.p (eB r)))/\(∀ (UX:au) (y_1:au) (r:Bool),HP (jz n UX y_1=some r) Tryz.prog 48 [.agg (au.cs UX),.agg (au.cs y_1)] (.p (eB r))):=by
 induction n with
 | zero=>exact Zr
 | succ n ih=>
 obtain ⟨_,_⟩:=ih;refine ⟨?_,?_⟩
 ·refine λ a_0 T'=>hP good Tryz.func20 Z Z λ r h0 _ w0=>?_;rw [gQ] at h0;refine nx 7 Z (bd h0 λ o10 h1 h0=>?_);refine kN o10 (λ v11=>⟨[(4,.p (eB v11))],[]⟩) ?_ ?_
  ·exact J0
  refine nx 5 Z (bd h1 λ r2 e3 h1=>?_);refine mO Z (qh (dC _ a_0.B' T'.B' (λ x0 x1=>jv n x0 x1) 46 [] Z HE.e (λ x0 x1 r h=>(HP.c h).q) _ e3) Z Z Z Z (dv Z (dv Z (dv (oJ Z) mY))) ⟨sr,sr,sr,trivial⟩ HE.e Z ?_);refine nx 1 Z (fB [9,10] h1 Z (λ c4 h1=>?_) λ c4 h1=>?_)
  ·refine nx 4 Z (bd h1 λ r6 e7 h1=>?_);refine mO Z (qh (fx _ a_0.By T'.By (λ x0 x1=>(jz n) x0 x1) 48 [] Z HE.e (λ x0 x1 r h=>(HP.c h).q) _ e7) Z Z Z Z (dv Z (dv Z (dv (oJ Z) mY))) ⟨sr,sr,sr,trivial⟩ HE.e Z ?_);exact aB
  exact aB
 ·refine λ UX y_1=>hP good Tryz.func48 Z Z λ r h0 _ w0=>?_;rw [jz] at h0;have:=js [100];have:=jS 100 Bool λ v=>[(4,.p (eB v))]
  exact J0
instance Du (n:Nat):∀ (a_0:av) (T':av) (r:Bool),HP (gQ n a_0 T'=some r) Tryz.prog 20 [.agg (av.cs a_0),.agg (av.cs T')] (.p (eB r)):=(rX n).1
def iD (n:Nat):Option Bool :=((λ x0=>gH x0) ([97]:Bk)).bind λ r2=>((λ x0=>gH x0) ([98]:Bk)).bind λ r4=>((λ x0=>gH x0) ([99]:Bk)).bind λ r6=>((aK n (ab.mk 7 13 ([]:Bk) ([]:Bk) (ag.mk 0 0 ([]:Bk) [] []) ([(ab.mk 7 11 ([]:Bk) ([]:Bk) (ag.mk 0 0 ([]:Bk) [] []) [r2,r4] 0),r6]) 0)).bind λ r8=>if r8=([40,97,32,43,32,98,41,32,42,32,99]:Bk) then(aK n (ab.mk 2 0 ([]:Bk) ([]:Bk) (ag.mk 0 0 ([]:Bk) [] []) ([(ab.mk 1 0 ([]:Bk) ([]:Bk) (ag.mk 3 0 ([120]:Bk) [] []) [] 0)]) 0)).bind λ WV=>if WV=([34,36,123,34,120,34,125,34]:Bk) then(lA n (av.mk ([(ai.mk ([97]:Bk) (ab.mk 7 11 ([]:Bk) ([]:Bk) (ag.mk 0 0 ([]:Bk) [] []) [r2,r4] 0) 0)]) ([(au.mk ([98]:Bk) ([([120]:Bk)]) (av.mk [] []) 0)]))).bind λ Vl=>if Vl=([97,32,61,32,97,32,43,32,98,10,98,32,34,120,34,32,123,10,125,10]:Bk) then(fC n (ab.mk 7 11 ([]:Bk) ([]:Bk) (ag.mk 0 0 ([]:Bk) [] []) [r2,r4] 0) (ab.mk 7 11 ([]:Bk) ([]:Bk) (ag.mk 0 0 ([]:Bk) [] []) [r2,r4] 0)).bind λ Vq=>if Vq=true then(fC n (ab.mk 7 11 ([]:Bk) ([]:Bk) (ag.mk 0 0 ([]:Bk) [] []) [r2,r4] 0) (ab.mk 7 13 ([]:Bk) ([]:Bk) (ag.mk 0 0 ([]:Bk) [] []) ([(ab.mk 7 11 ([]:Bk) ([]:Bk) (ag.mk 0 0 ([]:Bk) [] []) [r2,r4] 0),r6]) 0)).bind λ VH=>if (!VH)=true then(gQ n (av.mk ([(ai.mk ([97]:Bk) (ab.mk 7 11 ([]:Bk) ([]:Bk) (ag.mk 0 0 ([]:Bk) [] []) [r2,r4] 0) 0)]) ([(au.mk ([98]:Bk) ([([120]:Bk)]) (av.mk [] []) 0)])) (av.mk ([(ai.mk ([97]:Bk) (ab.mk 7 11 ([]:Bk) ([]:Bk) (ag.mk 0 0 ([]:Bk) [] []) [r2,r4] 0) 0)]) ([(au.mk ([98]:Bk) ([([120]:Bk)]) (av.mk [] []) 0)]))).bind λ VC=>if VC=true then(gQ n (av.mk ([(ai.mk ([97]:Bk) (ab.mk 7 11 ([]:Bk) ([]:Bk) (ag.mk 0 0 ([]:Bk) [] []) [r2,r4] 0) 0)]) ([(au.mk ([98]:Bk) ([([120]:Bk)]) (av.mk [] []) 0)])) (av.mk [] [])).bind λ VI=>some (!VI)else some false else some false else some false else some false else some false else some false).bind λ Zf=>some Zf
instance Nu (n:Nat):∀ (r:Bool),HP (iD n=some r) Tryz.prog 6 [] (.p (eB r)):=by
 refine hP good Tryz.func6 Z Z λ r h0 _ w0=>?_;unfold iD at h0;refine nx 11 Z (bd h0 λ r2 e3 h0=>?_);refine mO Z (nF (q:=[.p (eS ([97]:Bk))]) (HP.c (show gH [97]=some _ from e3)).q Z Z Z Z Z Z Z ⟨sr,trivial⟩ HE.e Z ?_);refine nx 1 Z (bd h0 λ r4 e5 h0=>?_);refine mO Z (nF (q:=[.p (eS ([98]:Bk))]) (HP.c (show gH [98]=some _ from e5)).q Z Z Z Z Z Z Z ⟨sr,trivial⟩ HE.e Z ?_);refine mO Z (bn ao [r2,r4] Z Z Z Z Z Z Z Z Z Z Z Z Z kw ?_);refine nx 2 Z (mG (qL 11 (y:=.p (.agg (ab.cs (ab.mk 7 11 ([]:Bk) ([]:Bk) (ag.mk 0 0 ([]:Bk) [] []) [r2,r4] 0)))) Z (iz ⟨.inl Z,.inl Z,.inl Z,.inl Z,.inl Z,.inl Z,.inl Z,.inr ⟨Z,Z⟩,.inr ⟨Z,Z⟩,.inl Z,.inl Z,trivial⟩)) ?_);refine nx 3 Z (bd h0 λ r6 e7 h0=>?_);refine mG (gE (t:=⟨[(1,.func (.func 18) []),(2,.ptr 2 0)],[(2,(ab.cs (ab.mk 7 11 ([]:Bk) ([]:Bk) (ag.mk 0 0 ([]:Bk) [] []) [r2,r4] 0)).map .p)]⟩) Z Z) (mSq ⟨2,[5,6],(by3 (.some λ i=>Nat.beq i 3) .none .none),(λ _=>[(1,.func (.func 18) []),(2,.ptr 2 0)]),(ob3 ([(2,[.p (eI ((ab.mk 7 11 ([]:Bk) ([]:Bk) (ag.mk 0 0 ([]:Bk) [] []) [r2,r4] 0).Ar)),.p (eI ((ab.mk 7 11 ([]:Bk) ([]:Bk) (ag.mk 0 0 ([]:Bk) [] []) [r2,r4] 0).fOp)),.p (eS ((ab.mk 7 11 ([]:Bk) ([]:Bk) (ag.mk 0 0 ([]:Bk) [] []) [r2,r4] 0).AT)),.p (eS ((ab.mk 7 11 ([]:Bk) ([]:Bk) (ag.mk 0 0 ([]:Bk) [] []) [r2,r4] 0).It)),.p (eI (((ab.mk 7 11 ([]:Bk) ([]:Bk) (ag.mk 0 0 ([]:Bk) [] []) [r2,r4] 0).BY).Ar)),.p (eI (((ab.mk 7 11 ([]:Bk) ([]:Bk) (ag.mk 0 0 ([]:Bk) [] []) [r2,r4] 0).BY).G')),.p (eS (((ab.mk 7 11 ([]:Bk) ([]:Bk) (ag.mk 0 0 ([]:Bk) [] []) [r2,r4] 0).BY).D')),.p (eL cn (((ab.mk 7 11 ([]:Bk) ([]:Bk) (ag.mk 0 0 ([]:Bk) [] []) [r2,r4] 0).BY).Gw)),.p (eL eS (((ab.mk 7 11 ([]:Bk) ([]:Bk) (ag.mk 0 0 ([]:Bk) [] []) [r2,r4] 0).BY).F')),.p (eL ao ((ab.mk 7 11 ([]:Bk) ([]:Bk) (ag.mk 0 0 ([]:Bk) [] []) [r2,r4] 0).A')),.p (eI ((ab.mk 7 11 ([]:Bk) ([]:Bk) (ag.mk 0 0 ([]:Bk) [] []) [r2,r4] 0).fAt))])]) (3,[.p (eI 0),.p (eI 0),.p (eS ([]:Bk)),.p (eS ([]:Bk)),.p (eI 0),.p (eI 0),.p (eS ([]:Bk)),.p (.val (.slice none 0 0)),.p (.val (.slice none 0 0)),.p (.val (.slice none 0 0)),.p (eI 0)]) (3,[.p (eI ((ab.mk 7 13 ([]:Bk) ([]:Bk) (ag.mk 0 0 ([]:Bk) [] []) ([(ab.mk 7 11 ([]:Bk) ([]:Bk) (ag.mk 0 0 ([]:Bk) [] []) [r2,r4] 0),r6]) 0).Ar)),.p (eI ((ab.mk 7 13 ([]:Bk) ([]:Bk) (ag.mk 0 0 ([]:Bk) [] []) ([(ab.mk 7 11 ([]:Bk) ([]:Bk) (ag.mk 0 0 ([]:Bk) [] []) [r2,r4] 0),r6]) 0).fOp)),.p (eS ((ab.mk 7 13 ([]:Bk) ([]:Bk) (ag.mk 0 0 ([]:Bk) [] []) ([(ab.mk 7 11 ([]:Bk) ([]:Bk) (ag.mk 0 0 ([]:Bk) [] []) [r2,r4] 0),r6]) 0).AT)),.p (eS ((ab.mk 7 13 ([]:Bk) ([]:Bk) (ag.mk 0 0 ([]:Bk) [] []) ([(ab.mk 7 11 ([]:Bk) ([]:Bk) (ag.mk 0 0 ([]:Bk) [] []) [r2,r4] 0),r6]) 0).It)),.p (eI (((ab.mk 7 13 ([]:Bk) ([]:Bk) (ag.mk 0 0 ([]:Bk) [] []) ([(ab.mk 7 11 ([]:Bk) ([]:Bk) (ag.mk 0 0 ([]:Bk) [] []) [r2,r4] 0),r6]) 0).BY).Ar)),.p (eI (((ab.mk 7 13 ([]:Bk) ([]:Bk) (ag.mk 0 0 ([]:Bk) [] []) ([(ab.mk 7 11 ([]:Bk) ([]:Bk) (ag.mk 0 0 ([]:Bk) [] []) [r2,r4] 0),r6]) 0).BY).G')),.p (eS (((ab.mk 7 13 ([]:Bk) ([]:Bk) (ag.mk 0 0 ([]:Bk) [] []) ([(ab.mk 7 11 ([]:Bk) ([]:Bk) (ag.mk 0 0 ([]:Bk) [] []) [r2,r4] 0),r6]) 0).BY).D')),.p (eL cn (((ab.mk 7 13 ([]:Bk) ([]:Bk) (ag.mk 0 0 ([]:Bk) [] []) ([(ab.mk 7 11 ([]:Bk) ([]:Bk) (ag.mk 0 0 ([]:Bk) [] []) [r2,r4] 0),r6]) 0).BY).Gw)),.p (eL eS (((ab.mk 7 13 ([]:Bk) ([]:Bk) (ag.mk 0 0 ([]:Bk) [] []) ([(ab.mk 7 11 ([]:Bk) ([]:Bk) (ag.mk 0 0 ([]:Bk) [] []) [r2,r4] 0),r6]) 0).BY).F')),.p (eL ao ((ab.mk 7 13 ([]:Bk) ([]:Bk) (ag.mk 0 0 ([]:Bk) [] []) ([(ab.mk 7 11 ([]:Bk) ([]:Bk) (ag.mk 0 0 ([]:Bk) [] []) [r2,r4] 0),r6]) 0).A')),.p (eI ((ab.mk 7 13 ([]:Bk) ([]:Bk) (ag.mk 0 0 ([]:Bk) [] []) ([(ab.mk 7 11 ([]:Bk) ([]:Bk) (ag.mk 0 0 ([]:Bk) [] []) [r2,r4] 0),r6]) 0).fAt))]))⟩ Z ?_);refine dPc (.p (.agg (ab.cs (ab.mk 7 11 ([]:Bk) ([]:Bk) (ag.mk 0 0 ([]:Bk) [] []) [r2,r4] 0)))) Z (dPc (.func (.func 18) []) Z ?_);refine dO (.p (.agg (ab.cs r6))) [13] Z (λ _ sl UT K hK=>al Z (nF (q:=[.p (eS ([99]:Bk))]) (HP.c (show gH [99]=some _ from e7)).q Z Z Z (UT _ _ Z) Z (aG Z bp) Z ⟨sr,trivial⟩ HE.e Z hK)) (dO (.p (eL ao ([(ab.mk 7 11 ([]:Bk) ([]:Bk) (ag.mk 0 0 ([]:Bk) [] []) [r2,r4] 0),r6]))) [12,14] Z (λ _ sl UT K hK=>al Z (bn ao [(ab.mk 7 11 ([]:Bk) ([]:Bk) (ag.mk 0 0 ([]:Bk) [] []) [r2,r4] 0),r6] Z Z Z Z Z Z (dz (UT _ _ Z) Z (dz (UT _ _ Z) Z fp)) Z Z Z Z Z Z kw hK)) ?_);refine dO (.p (.agg (ab.cs (ab.mk 7 13 ([]:Bk) ([]:Bk) (ag.mk 0 0 ([]:Bk) [] []) ([(ab.mk 7 11 ([]:Bk) ([]:Bk) (ag.mk 0 0 ([]:Bk) [] []) [r2,r4] 0),r6]) 0)))) [15] Z (λ _ sl UT K hK=>al Z (xH (y:=.p (.agg (ab.cs (ab.mk 7 13 ([]:Bk) ([]:Bk) (ag.mk 0 0 ([]:Bk) [] []) ([(ab.mk 7 11 ([]:Bk) ([]:Bk) (ag.mk 0 0 ([]:Bk) [] []) [r2,r4] 0),r6]) 0)))) (λ _ hq=>rV Z Z Z Z Z Z (tp Z (tp Z (tp (UT _ _ Z) vc))) Z Z hq) (iz ⟨.inl Z,.inl Z,.inl Z,.inl Z,.inl Z,.inl Z,.inl Z,.inr ⟨Z,Z⟩,.inr ⟨Z,Z⟩,.inl Z,.inl Z,trivial⟩) hK)) (dI (λ _=>.ptr 3 0) [] Z pT ?_);refine dS Z (d5 ?_);refine nx 6 Z (mG (qL 18 (y:=.p (.agg (ab.cs (ab.mk 1 0 ([]:Bk) ([]:Bk) (ag.mk 3 0 ([120]:Bk) [] []) [] 0)))) Z (iz ⟨.inl Z,.inl Z,.inl Z,.inl Z,.inl Z,.inl Z,.inl Z,.inr ⟨Z,Z⟩,.inr ⟨Z,Z⟩,.inr ⟨Z,Z⟩,.inl Z,trivial⟩)) ?_);refine nx 6 Z (mO Z (bn aw [(ai.mk ([97]:Bk) (ab.mk 7 11 ([]:Bk) ([]:Bk) (ag.mk 0 0 ([]:Bk) [] []) [r2,r4] 0) 0)] Z Z Z Z Z Z Z Z Z Z Z Z Z Ly ?_));refine mO Z (bn eS [([120]:Bk)] Z Z Z Z Z Z Z Z Z Z Z Z Z Z ?_);refine nx 1 Z (mG (qL 23 (y:=.p (.agg (au.cs (au.mk ([98]:Bk) ([([120]:Bk)]) (av.mk [] []) 0)))) Z (iz ⟨.inl Z,.inl Z,.inr ⟨Z,Z⟩,.inr ⟨Z,Z⟩,.inl Z,trivial⟩)) ?_);refine mO Z (bn aI [(au.mk ([98]:Bk) ([([120]:Bk)]) (av.mk [] []) 0)] Z Z Z Z Z Z Z Z Z Z Z Z Z (by first|rfl|(simp only [n7,List.map_nil,au.M']; done)|(simp only [n7,List.map_nil,au.M']; rfl)) ?_);refine nx 5 Z (bd h0 λ ZN h1 h0=>?_);refine kN ZN (λ Yo=>⟨[(0,.p (eB Yo))],[]⟩) ?_ ?_
 ·exact J0
 refine nx 2 Z (bd h1 λ r8 e9 h1=>?_);refine oK (HP.c e9) Z ⟨sr,trivial⟩ HE.e Z (oS Z Z ?_);refine nx 1 Z (fD [28,29] h1 Z (λ c10 h1=>?_) λ c10 h1=>?_)
 ·refine nx 1 Z (mO Z (bn ao [(ab.mk 1 0 ([]:Bk) ([]:Bk) (ag.mk 3 0 ([120]:Bk) [] []) [] 0)] Z Z Z Z Z Z Z Z Z Z Z Z Z kw ?_));exact aB
 exact aB
end Go.Ab.R06
end
section
namespace Go.Ab
open Go.Proofs Go.Ab
attribute [local irreducible] awp iH bu bA cj ip AV.sub
theorem kr (l:List af)(Pn:l.length*32<=140737488355328):cj Tryz.prog 126 [.p (eL aE l)] [] (λ x y=>x=.vec 2000000 3 0 (l.map aE)/\y=[]):=by
 refine qV good [800000] [] Tryz.func126 Z Z Z Z Z λ w0 F=>?_;refine qR ?_;refine tX ?_;refine ni Z ?_;refine oM Z Z Z Z ?_;refine rN ?_
 (repeat (first|refine jZ ?_|refine lM ?_|refine pK ?_|refine kc Z ?_|refine ol ?_|refine jy ?_|refine jX ?_|refine gN ?_|refine iK ?_|refine gu Z ?_|refine noGoto_ret ?_|refine noGoto_exit ?_|refine noGoto_normal ?_))
 refine qR ?_;refine qR ?_;refine tX ?_;refine ni Z ?_;refine wC Z Z Z Z ?_;refine ni Z ?_;refine LH Z Z Z Z Z Z Z Z (λ b hb=>?_);refine rN ?_
 (repeat (first|refine jZ ?_|refine lM ?_|refine pK ?_|refine kc Z ?_|refine ol ?_|refine jy ?_|refine jX ?_|refine gN ?_|refine iK ?_|refine gu Z ?_|refine noGoto_ret ?_|refine noGoto_exit ?_|refine noGoto_normal ?_))
 refine UQ Z (λ hc=>?_) (λ hc=>?_)
 ·have he:l=[]:=by simpa using hb hc
  subst he;refine qR ?_;refine tX ?_;refine ni rfl ?_;refine oM Z Z Z Z ?_;refine rN ?_
  (repeat (first|refine jZ ?_|refine lM ?_|refine pK ?_|refine kc Z ?_|refine ol ?_|refine jy ?_|refine jX ?_|refine gN ?_|refine iK ?_|refine gu Z ?_|refine noGoto_ret ?_|refine noGoto_exit ?_|refine noGoto_normal ?_))
  refine AG ?_
  (repeat (first|refine jZ ?_|refine lM ?_|refine pK ?_|refine kc Z ?_|refine ol ?_|refine jy ?_|refine jX ?_|refine gN ?_|refine iK ?_|refine gu Z ?_|refine noGoto_ret ?_|refine noGoto_exit ?_|refine noGoto_normal ?_))
  exact Ac (aQ _) Z Z Z Z (AV.sub_nilvec _ _ _) trivial
 ·skip
  refine xn ?_
  (repeat (first|refine jZ ?_|refine lM ?_|refine pK ?_|refine kc Z ?_|refine ol ?_|refine jy ?_|refine jX ?_|refine gN ?_|refine iK ?_|refine gu Z ?_|refine noGoto_ret ?_|refine noGoto_exit ?_|refine noGoto_normal ?_))
  refine qR ?_;refine tX ?_;refine ni Z ?_;refine L1 Z Z Z Z Z Z Z 5 3 ?_;refine ni Z ?_;refine wC Z Z Z Z ?_;refine ni Z ?_;refine fY aE [] l Z Z Z Z Z Z Z Z Z Z Z Z Z (λ x=>congrArg List.length (af.E' x)) Z Z Z Z (by simpa using Pn) ?_;refine ni Z ?_;refine oM Z Z Z Z ?_;refine rN ?_
  (repeat (first|refine jZ ?_|refine lM ?_|refine pK ?_|refine kc Z ?_|refine ol ?_|refine jy ?_|refine jX ?_|refine gN ?_|refine iK ?_|refine gu Z ?_|refine noGoto_ret ?_|refine noGoto_exit ?_|refine noGoto_normal ?_))
  refine AG ?_
  (repeat (first|refine jZ ?_|refine lM ?_|refine pK ?_|refine kc Z ?_|refine ol ?_|refine jy ?_|refine jX ?_|refine gN ?_|refine iK ?_|refine gu Z ?_|refine noGoto_ret ?_|refine noGoto_exit ?_|refine noGoto_normal ?_))
  exact Ac (aS 7 800000 Z Z Z Z Z) Z Z Z Z (AV.sub_refl _) trivial
end Go.Ab
end
