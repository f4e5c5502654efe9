/- Texts of the proof, one behind the other. No statement is proved here. -/
import Derived.Test.YtihghalcmfpnaaaGreatDoorCards
import Derived.Test.YtihghalcmfpnaaaGreatDoorTie
import Derived.WalkKit
import Derived.SizedLaws
import Derived.ProofKit
import Derived.OpenShut
import Derived.ShutString
import Derived.LaidMore
import Derived.Stop.Joined
import Derived.Deep.DeepHandedRow
import Derived.Deep.DeepWitnessRowRef
import Derived.Test.YtihghalcmfpnaaaGreatDoorZ14Ta
import Derived.Test.YtihghalcmfpnaaaGreatDoorZ14Tb
import Derived.Test.YtihghalcmfpnaaaGreatDoorZ14Tc
import Derived.Test.YtihghalcmfpnaaaGreatDoorZ14Td
import Derived.Test.YtihghalcmfpnaaaGreatDoorZ14Te
import Derived.Test.YtihghalcmfpnaaaGreatDoorZ14Tf
set_option maxHeartbeats 4000000
section
namespace Go.Ab.R06
open Go.Ab Go.Ab.RB Go.Lib
section
variable {p:Prop}
theorem BN (h:p:=by exact ax (Aj s i [36,123] O (by decide)) Z):p:=h
theorem Bt (h:p:=by exact ag O (af O (aa Z))):p:=h
theorem Hb (h:p:=by exact ax (Aj s i [36,36,123] O (by decide)) Z):p:=h
end
theorem wD {l p:Bytes}:hasPrefix l p=true↔l.take p.length=p:=by
 unfold hasPrefix;rw [List.isPrefixOf_iff_prefix,List.prefix_iff_eq_take];exact ⟨λ h=>h.symm,λ h=>h.symm⟩
theorem Aj (s:Bytes)(i:Nat)(t:Bytes)(hi:i<=2000000000)(ht:1<=t.length/\t.length<=10):fK s (i:Int) t=some (hasPrefix (s.drop i) t):=by
 unfold fK;rw [bC aB];by_cases h:i+t.length<=s.length
 ·rw [if_pos O,bC aB,bC O,cl]
  have hsub:sub s (i:Int) ((i:Int)+(t.length:Int))=(s.drop i).take t.length:=by
   rw [show (i:Int)+(t.length:Int)=((i+t.length:Nat):Int) by omega,xa,List.drop_take];congr 1; omega
  rw [hsub];congr 1;exact eqB (by rw [decide_eq_true_eq,wD])
 ·rw [if_neg O,cl];congr 1
  symm
  rw [<- Bool.not_eq_true];intro k;have:=lM k;rw [ld] at this;omega
def PO (s:Bytes)(y:Option Bytes)(r:Unit⊕Int):Prop:=match y with
 | none=>r=.inl ()\/r=.inr (-1)
 | some r'=>r=.inr ((s.length:Int) - (r'.length:Int))
def ppos (s:Bytes):Option Bytes->Int
 | none=>-1
 | some r'=>(s.length:Int) - (r'.length:Int)
theorem yP {s:Bytes}{i:Int}{y:Option Bytes}(h:Ev2 (λ n m=>dh (gN n) s m i 0) (CO s y)):Ev2 (λ n _=>cE n s i) (·=JH s y):=by
 refine aP ?_;simp only [cE];refine cm (aQ (aO (f:=λ n m=>dh (gN n) s m i 0) h) ?_);exact xf
theorem Jx {s:Bytes}{i:Int}{y:Option Bytes}(h:Ev2 (λ n m=>eY (cE n) s m i) (PO s y)):Ev2 (λ n _=>gN n s i) (·=ppos s y):=by
 refine aP ?_;simp only [gN];refine cm (aQ (aO (f:=λ n m=>eY (cE n) s m i) h) ?_);exact xf
theorem CP {s:Bytes}(hs:s.length<=1000000000):∀ (f:Nat),
  (∀ (d i:Nat) (ci di:Int) (y:Option Bytes),ci=i->di+1=d->1<=d->d+(s.drop i).length<=2000000000->i<=1000000010->fV f d (s.drop i)=some y->Ev2 (λ n m=>dh (gN n) s m ci di) (CO s y)) /\
  (∀ (i:Nat) (ci:Int) (y:Option Bytes),ci=i->i<=1000000010->ix f (s.drop i)=some y->Ev2 (λ n m=>eY (cE n) s m ci) (PO s y))
 | 0=>⟨λ d i ci di y _ _ _ _ _ h=>(by rw [fV] at h; cases h),λ i ci y _ _ h=>(by rw [ix] at h; cases h)⟩
 | f+1=>by
  obtain ⟨i1,i2⟩:=CP hs f;constructor
  ·intro d i ci di y hci hdi h1 hd hi h;refine aw ?_;simp only [dh]
   cases hl:s.drop i with
   | nil =>
    rw [hl,fV] at h; cases h;exact w9
   | cons b r =>
    obtain ⟨g1,g2,g3⟩:=qI hl;have hb:byt s ci=(b.toNat:Int):=by rw [hci,cD,g1]
    rw [hl,fV] at h;rw [hl,aq] at hd;refine ae O (cm (ag O ?_));rw [hb];by_cases h34:b.toNat=34
    ·rw [if_neg O,if_neg O,if_pos h34] at h;refine ae O (ag aB ?_)
     cases hq:ix f r with
     | none=>rw [hq] at h; cases h
     | some z =>
      rw [hq] at h;refine aj _ (Jx (i2 (i+1) (ci+1) z O O  (by rw [g3]; exact hq))) ?_
      cases z with
      | none=>cases h; exact ae (show (-1:Int) < 0 by decide) (aa (.inr rfl))
      | some r' =>
       have hsf:=(iU f).2 _ _ hq;have Sk:=hsf.1.length_le;have hrl:r.length=s.length - (i+1):=by rw [<- g3,ld]
       have hrs:r' <:+ s:=by rw [<- g3] at hsf; exact hsf.1.trans (List.drop_suffix _ _)
       have hsd:=Ey hrs;refine af (by show ¬ (s.length:Int) - (r'.length:Int) < 0; omega) (aa ?_);exact i1 d (s.length - r'.length) _ di y (by show (s.length:Int) - (r'.length:Int)=_; omega) hdi h1 (by rw [hsd]; omega) O (by rw [hsd]; exact h)
    refine af O ?_;by_cases h123:b.toNat=123
    ·rw [if_pos h123] at h;refine aj (di+1) (ag O (ae O qB)) ?_;refine ez (di+1) Bt (ag aB (aa ?_));exact J1
    rw [if_neg h123] at h;refine aj di Bt ?_;by_cases h125:b.toNat=125
    ·rw [if_pos h125] at h;by_cases hd1:d=1
     ·rw [if_pos hd1] at h; cases h;have hlr:r.length=s.length - (i+1):=by rw [<- g3,ld]
      refine iC (.inr (.inr ci)) (ag O (ae O ui)) ?_;show Sum.inr ci=Sum.inr _;congr 1; omega
     ·rw [if_neg hd1] at h;refine ez (di - 1) (ag O (ae O (af O qB))) (ag aB (aa ?_));exact Hp
    rw [if_neg h125,if_neg h34] at h;refine ez di Bt (ag aB (aa ?_));exact Gs
  ·intro i ci y hci hi h;subst hci;refine aw ?_;simp only [eY]
   cases hl:s.drop i with
   | nil =>
    rw [hl,ix] at h; cases h;exact w9
   | cons b r =>
    obtain ⟨g1,g2,g3⟩:=qI hl;have hb:byt s (i:Int)=(b.toNat:Int):=by rw [cD,g1]
    rw [hl,ix] at h;refine ae O (cm (ag O ?_));rw [hb];by_cases h92:b.toNat=92
    ·rw [if_neg O,if_pos h92] at h;refine ae O (ag aB (aa ?_));exact i2 (i+1+1) _ y O O  (by rw [oT s (i+1) 1,g3]; exact h)
    refine af O (ag O ?_);by_cases h34:b.toNat=34
    ·rw [if_pos h34] at h; cases h;have hlr:r.length=s.length - (i+1):=by rw [<- g3,ld]
     refine ae O (ag aB (aa ?_));show Sum.inr ((i:Int)+1)=Sum.inr _;congr 1; omega
    rw [if_neg h34,if_neg h92] at h;refine af O (aj _ Hb ?_);rw [hl];by_cases hp3:hasPrefix (b::r) [36,36,123]=true
    ·rw [if_pos hp3] at h;refine ae hp3 (ag aB (aa ?_));exact i2 (i+3) _ y O O  (by rw [oT s i 3,hl]; exact h)
    rw [if_neg hp3] at h;refine af hp3 (aj _ BN ?_);rw [hl];by_cases hp2:hasPrefix (b::r) [36,123]=true
    ·rw [if_pos hp2] at h;refine ae hp2 (ag aB ?_)
     cases hq:fV f 1 ((b::r).drop 2) with
     | none=>rw [hq] at h; cases h
     | some z =>
      rw [hq] at h;have e2:s.drop (i+2)=(b::r).drop 2:=by rw [oT s i 2,hl]
      refine aj _ (yP (i1 1 (i+2) ((i:Int)+2) 0 z O rfl (by decide) iN O (by rw [e2]; exact hq))) ?_
      cases z with
      | none=>cases h; exact ae (show (-1:Int) < 0 by decide) (aa (.inr rfl))
      | some r' =>
       have hsf:=(iU f).1 _ _ _ hq;have Sk:=hsf.1.length_le;have hrl:((b::r).drop 2).length=s.length - (i+2):=by rw [<- e2,ld]
       have hrs:r' <:+ s:=by rw [<- e2] at hsf; exact hsf.1.trans (List.drop_suffix _ _)
       have hsd:=Ey hrs;refine af (by show ¬ (s.length:Int) - (r'.length:Int) - 1 < 0; omega) (ag BC (aa ?_));exact I6
    ·rw [if_neg hp2] at h;refine af hp2 (ag aB (aa ?_));exact i2 (i+1) _ y O O  (by rw [g3]; exact h)
theorem FY {a:Int}{z:List ac×ao}(hz:z.1.length<=1000000)(ha:∀ t∈z.1,inR (t.fAt+a)):∀ (k i:Nat) (out:List ac),i+k=z.1.length->out.length=i->Ev2 (λ _ m=>d9 a z m out (i:Int)) (·=out++(z.1.drop i).map (mvT a)):=by
 intro k
 induction k with
 | zero =>
  intro i out hi _;refine aw ?_;simp only [d9];refine af O (aa ?_);rw [List.drop_eq_nil_of_le O]; simp
 | succ k ih =>
  intro i out hi ho;refine aw ?_;simp only [d9];have hd:=md (L:=z.1) (i:=i) O;refine ae O (ag O (ag O (ag O (ag (ha _ u3) (ag ns (ag aB ?_))))));have:=kj (P:=λ j=>Ev2 (λ _ m=>d9 a z m (out++[mvT a (lat z.1 (i:Int))]) j) _) (ih (i+1) (out++[mvT a (lat z.1 (i:Int))]) O (by simp [ho]));refine aQ this ?_;rintro _ rfl;rw [hd,la,List.append_assoc]; rfl
def RW (f:Nat):Prop:=∀ (s:Bytes) (a:Int) q,0<=a->a+(s.length:Int)<=1000000000->gv f s a=some q->Ev2 (λ n _=>dM n s a) (OV q)
theorem Rz {f:Nat}(ih:Rol f):RW (f+1):=by
 intro s a q h0 h1 hq;rw [gv] at hq;refine aP ?_;simp only [dM,au,cl];refine aj _ (Oz s) ?_;by_cases hk:(eG s).2.Ar=0
 ·rw [if_neg (by simpa using hk)] at hq;refine ae hk ?_;have hg:=tp h0 h1 hk;have M':(eG s).1.length<=65537:=(qU h0 h1 hk).2.2
  have hb:∀ t∈(eG s).1,inR (t.fAt+a):=by
   intro t ht;have hg1:=hg.1
   have:∀ (l:List ac),Gd (l.map (mvT a))->∀ t∈l,inR (t.fAt+a):=by
    intro l
    induction l with
    | nil=>intro _ t ht; cases ht
    | cons x r ihl =>
     intro hx t ht;have hx1:=hx.1.1;have Wj:=hx.1.2.1;have hx1:0<=x.fAt+a:=hx1;have Wj:x.fAt+a+(x.B'.length:Int)<=1000000000:=Wj;rcases wr.1 ht with rfl | ht
     ·exact bv O O
     ·rcases hx.2 with h6 | h6
      ·have:r=[]:=List.map_eq_nil_iff.1 h6.2;subst this; cases ht
      ·exact ihl h6.2 t ht
   exact this _ hg1 t ht
  have hm:=FY (z:=eG s) O hb (eG s).1.length 0 [] O rfl;rw [List.drop_zero,List.nil_append] at hm;refine aj _ (aO hm) ?_;have hL:=hg.1
  have Tc:0 < ((eG s).1.map (mvT a)).length:=by
   have:=vQ hL;rcases Nat.eq_zero_or_pos ((eG s).1.map (mvT a)).length with q | q
   ·rw [List.length_eq_zero_iff.1 q] at this; exact absurd rfl this
   ·exact q
  have hL1:((eG s).1.map (mvT a)).length<=1000000:=by rw [List.length_map]; omega
  generalize (eG s).1.map (mvT a)=L at hq hL hg Tc hL1;have hpos:et L 0 1 true L:=⟨Tc,by decide,by omega,Z,Z⟩
  cases hx:gi f true L with
  | none=>rw [hx] at hq; cases hq
  | some y =>
   rw [hx] at hq;have hr:=ih.e true _ L hL O 0 0 1 y rfl hg hpos hx;rcases y with e | ⟨x,l⟩
   ·cases hq
    refine ah _ hr ?_;rintro ⟨z1,z2⟩ ⟨he,I,h2,Tq,TE⟩
    cases h2
    refine aj (L,I,1,e.1,e.2,[]) (aj (false,L,I,1,e.1,e.2,[]) lx se) (aa ⟨he,Z⟩)
   ·refine ah _ hr ?_;rintro ⟨z1,z2⟩ ⟨hz,j,h2,h3⟩;replace hz:z1=_:=hz; subst hz; cases h2;have hq:(if (hd true l).Ar=6 then some (.inr z1) else some (.inl (2,(hd true l).fAt)))=some q:=hq;by_cases k6:(hd true l).Ar=6
    ·rw [if_pos k6] at hq; cases hq;refine ah (λ t=>∃ j:Nat,t=(L,(j:Int),1,0,0,[])) ?_ ?_
     ·refine ah (λ t=>∃ j:Nat,t=(false,L,(j:Int),1,0,0,[])) (ae Z (ah _ (tA hL O h3) ?_)) ?_
      ·rintro ⟨y1,y2⟩ ⟨h1,j,h2,ha⟩;replace h1:y1=_:=h1; subst h1; cases h2;exact aa ⟨j,by rw [decide_eq_true k6]; rfl⟩
      ·rintro _ ⟨j,rfl⟩;exact af mv (aa ⟨j,rfl⟩)
     ·rintro _ ⟨j,rfl⟩;exact aa rfl
    ·rw [if_neg k6] at hq; cases hq;refine ah (λ t=>∃ j:Nat,t=(L,(j:Int),1,2,(hd true l).fAt,[])) ?_ ?_
     ·refine ah (λ t=>∃ j:Nat,t=(true,L,(j:Int),1,0,0,[])/\RAt L j 1 true l) (ae Z (ah _ (tA hL O h3) ?_)) ?_
      ·rintro ⟨y1,y2⟩ ⟨h1,j,h2,ha⟩;replace h1:y1=_:=h1; subst h1; cases h2;exact aa ⟨j,by rw [decide_eq_false k6]; rfl,ha⟩
      ·rintro _ ⟨j,rfl,ha⟩;refine ae rfl (ah _ (pO hL O ha.1) ?_);rintro _ ⟨j,rfl,hj⟩;exact aa ⟨j,rfl⟩
     ·exact FH
 ·rw [if_pos hk] at hq; cases hq;have:=DU s;refine af hk (ag aB (aa ⟨hk,?_⟩));show ao.mk _ ((eG s).2.fAt+a) []=ao.mk _ (a+(eG s).2.fAt) [];rw [Int.add_comm]
end Go.Ab.R06
end
section
namespace Go.Ab.R06
open Go.Ab Go.Ab.RB Go.Lib
section
variable {p:Prop}
theorem HR (h:p:=by exact av (λ _=>aj _ (ax hb Z) (aa trivial)) (λ _=>aa trivial)):p:=h
theorem FE (h:p:=by exact aO (f:=λ n m=>cB n (dM n) s a m [] false 0) hread):p:=h
theorem Gr (h:p:=by exact ⟨Z,by show 4096 < (text++[36,123]).length; omega,Z⟩):p:=h
end
theorem HQ {s:Bytes}(hs:s.length<=1000000000){i:Nat}{b:UInt8}{r:Bytes}(hl:s.drop i=b::r)(h34:¬ b.toNat=34):Ev2 (λ n _=>lS n s (i:Int)) (λ z=>match iE (b::r) with
  | .inl k=>z.2.2=k/\k≠0
  | .inr (t,n)=>z=(t,(i:Int)+(n:Int),0)):=by
 obtain ⟨g1,g2,g3⟩:=qI hl;have M':r.length=s.length - (i+1):=by rw [<- g3,ld]
 refine aQ (LQ s hs i b r hl O) ?_;rintro _ rfl;by_cases h92:b.toNat=92
 ·have hb:b=92:=(pc (by decide)).1 h92;subst hb;have hle:=ol r;have hi:iE (92::r)=if (cV r).2.2=0 then .inr (encodeRune (cV r).1,(cV r).2.1.toNat+1) else .inl (cV r).2.2:=by rw [iE,if_pos h92]
  rw [hi];unfold LL;rw [if_pos (ND r)];unfold shE;by_cases hz:(cV r).2.2=0
  ·rw [if_pos hz,if_pos hz];show (_,_,_)=(_,_,_);refine Prod.ext rfl (Prod.ext ?_ rfl);show (i:Int)+1+(cV r).2.1=(i:Int)+(((cV r).2.1.toNat+1:Nat):Int);omega
  ·rw [if_neg hz,if_neg hz];exact ⟨rfl,hz⟩
 ·have hd:¬ (decodeL (b::r)).1=92:=by
   by_cases h128:b.toNat < 128
   ·rw [AN b r h128]; exact h92
   ·have:=AZ b r O; omega
  have hdf:=iA (b::r) G;unfold LL;rw [if_neg hd,iE,if_neg h92];by_cases hbad:jx (decodeL (b::r))
  ·rw [if_pos hbad,if_pos (.inl hbad)];exact ⟨rfl,by decide⟩
  ·rw [if_neg hbad,if_neg (λ k=>k.elim hbad h34)];have:=(hdf.2.2 (λ k=>hbad (.inl k))).2;show (_,_,_)=(_,_,_);rw [this]
theorem EJ {l t:Bytes}{n:Nat}(h:iE l=.inr (t,n))(hl:l.length<=1000000000):t.length<=1000000000:=by
 cases l with
 | nil=>cases h
 | cons b r =>
  rw [iE] at h;split at h
  ·split at h
   ·rename_i hz
    cases h
    have:=lF _ ((ol r).2.2.1 hz).1;omega
   ·cases h
  ·split at h
   ·cases h
   ·cases h
    rw [List.length_take]; omega
def TxO (F:Nat)(s:Bytes)(a:Int)(fr:Int)(parts:List ad)(Td:Bool)(i:Nat)(q:PE⊕(Int×Int×Bytes×List ad×Bool))(z:Bytes×Int×Int):Prop :=
 (z.2.2≠0/\0<=z.2.1/\z.2.1<=(s.length:Int)/\q=.inl (z.2.2,a+z.2.1)) \/
 (z.2.2=0/\4096 < z.1.length/\q=.inl (3,fr)) \/
 (∃ (i' f':Nat),z.2=((i':Int),0)/\f'<=F/\z.1.length<=4096/\i<=i'/\i'<=s.length/\eH f' fr (a+(i':Int)) z.1 parts Td (s.drop i')=some q/\(s.drop i'=[]\/hasPrefix (s.drop i') [36,123]=true))
theorem MO {l:Bytes}(h:hasPrefix l [36,123]=true):¬ hasPrefix l [36,36,123]=true:=by
 intro k;have h1:=wD.1 h;have h2:=wD.1 k;rcases l with _ | ⟨x,_ | ⟨y,l⟩⟩
 ·cases h1
 ·cases h1
 ·simp only [aq,n8,List.take_succ_cons,List.take_zero,List.cons.injEq] at h1 h2;rw [h1.2.1] at h2;exact absurd h2.2.1 (by decide)
theorem Bf {F:Nat}{s:Bytes}(hs:s.length<=1000000000){a fr:Int}{parts:List ad}{Td:Bool}{q:PE⊕(Int×Int×Bytes×List ad×Bool)}:∀ (f i:Nat) (text:Bytes) (i0:Nat),f<=F->i0<=i->i<=s.length->text.length<=4096->eH f fr (a+(i:Int)) text parts Td (s.drop i)=some q ->
  Ev2 (λ n m=>eZ n s m (i:Int) text) (λ r=>match r with | .inl x=>TxO F s a fr parts Td i0 q (x.2,x.1,0) | .inr z=>TxO F s a fr parts Td i0 q z)
 | 0,i,text,i0,_,_,_,_,h=>by rw [eH] at h; cases h
 | f+1,i,text,i0,hF,h0,hi,ht,h=>by
  refine aw ?_;simp only [eZ]
  cases hl:s.drop i with
  | nil =>
   have:=D1 hl;refine aj false ov (af mv (aa (.inr (.inr ⟨i,f+1,Z,hF,ht,h0,hi,h,.inl hl⟩))))
  | cons b r =>
   obtain ⟨g1,g2,g3⟩:=qI hl;have M':(b::r).length=s.length - i:=by rw [<- hl,ld]
   by_cases hp2:hasPrefix (b::r) [36,123]=true
   ·refine aj false (ae O (aj _ BN (aa ?_))) (af mv (aa (.inr (.inr ⟨i,f+1,Z,hF,ht,h0,hi,h,.inr (by rw [hl]; exact hp2)⟩))));rw [hl,hp2]; rfl
   refine aj true (ae O (aj _ BN (aa ?_))) (ae Z (cm (af O ?_)))
   ·rw [hl,show hasPrefix (b::r) [36,123]=false by simpa using hp2]; rfl
   rw [hl,eH] at h;refine aj _ Hb ?_;rw [hl];by_cases hp3:hasPrefix (b::r) [36,36,123]=true
   ·rw [if_pos hp3] at h;have hpl:=lM hp3;simp only [aq,n8] at hpl M';refine ae hp3 (ag ns (ag aB (aa ?_)));have e3:s.drop (i+3)=(b::r).drop 3:=by rw [oT s i 3,hl]
    have htl:(text++[36,123]).length=text.length+2:=by simp
    by_cases hlg:4096 < text.length+2
    ·rw [if_pos hlg] at h; cases h
     -- too long: it is met at the next round or at the end
     refine aw ?_;simp only [eZ];have hb:=Aj s (i+3) [36,123] O (by decide);rw [show ((i+3:Nat):Int)=(i:Int)+3 by omega] at hb;refine ah (λ _=>True) HR (λ c _=>?_);refine av (λ _=>iC (.inr (text++[36,123],(i:Int)+3,0)) ui (.inr (.inl Gr))) (λ _=>aa (.inr (.inl Gr)))
    ·rw [if_neg hlg] at h;have:=Bf (F:=F) hs f (i+3) (text++[36,123]) i0 O O O O  (by rw [e3,show a+((i+3:Nat):Int)=a+(i:Int)+3 by omega]; exact h);rw [show ((i+3:Nat):Int)=(i:Int)+3 by omega] at this;exact this
   rw [if_neg hp3,if_neg hp2] at h;refine af hp3 (ag O ?_);have hb:byt s (i:Int)=(b.toNat:Int):=by rw [cD,g1]
   rw [hb];by_cases h34:b.toNat=34
   ·have hi34:iE (b::r)=.inl 2:=by rw [iE,if_neg O,if_pos (.inr h34)]
    rw [hi34] at h; cases h;exact ae O (aa (.inl ⟨(show (2:Int)≠0 by decide),by show (0:Int)<=(i:Int); omega,by show (i:Int)<=_; omega,rfl⟩))
   refine af O (ah _ (HQ hs hl h34) ?_);intro z hz
   cases hi':iE (b::r) with
   | inl k =>
    rw [hi'] at h hz; cases h;obtain ⟨hz1,hz2⟩:=hz;refine af (by rw [hz1]; exact hz2) (aa (.inl ⟨by show z.2.2≠0; rw [hz1]; exact hz2,by show (0:Int)<=(i:Int); omega,by show (i:Int)<=_; omega,?_⟩));show _=Sum.inl (z.2.2,a+(i:Int));rw [hz1]
   | inr tn =>
    obtain ⟨t,n'⟩:=tn;rw [hi'] at h hz;have hz:z=(t,(i:Int)+(n':Int),0):=hz;subst hz;have h:(if 4096 < text.length+t.length then some (.inl (3,fr)) else eH f fr (a+(i:Int)+(n':Int)) (text++t) parts Td ((b::r).drop n'))=some q:=h;have hn:=rj hi';have htl:(text++t).length=text.length+t.length:=ph;have htb:t.length<=1000000000:=EJ hi' O;refine ae rfl (ag (by show text.length+t.length<=_; omega) (aa ?_));by_cases hlg:4096 < text.length+t.length
    ·rw [if_pos hlg] at h; cases h;refine aw ?_;simp only [eZ];have hb:=Aj s (i+n') [36,123] O (by decide);rw [show ((i+n':Nat):Int)=(i:Int)+(n':Int) by omega] at hb;refine ah (λ _=>True) HR (λ c _=>?_);refine av (λ _=>iC (.inr (text++t,(i:Int)+(n':Int),0)) ui (.inr (.inl ⟨rfl,by show 4096 < (text++t).length; omega,rfl⟩))) (λ _=>aa (.inr (.inl ⟨rfl,by show 4096 < (text++t).length; omega,rfl⟩)))
    ·rw [if_neg hlg] at h;have e3:s.drop (i+n')=(b::r).drop n':=by rw [oT s i n',hl]
     have:=Bf (F:=F) hs f (i+n') (text++t) i0 O O O O  (by rw [e3,show a+((i+n':Nat):Int)=a+(i:Int)+(n':Int) by omega]; exact h);rw [show ((i+n':Nat):Int)=(i:Int)+(n':Int) by omega] at this;exact this
theorem Oj {F:Nat}{s:Bytes}(hs:s.length<=1000000000){a fr:Int}{parts:List ad}{Td:Bool}{q:PE⊕(Int×Int×Bytes×List ad×Bool)}(f i:Nat)(hF:f<=F)(hi:i<=s.length)(h:eH f fr (a+(i:Int)) [] parts Td (s.drop i)=some q) :
  Ev2 (λ n _=>lX n s (i:Int)) (TxO F s a fr parts Td i q):=by
 simp only [lX];refine cm (aQ (aO (Bf hs f i [] i hF (bx _) hi (by decide) h)) ?_);intro r hr;rcases r with ⟨x,y⟩ | z
 ·exact aa hr
 ·exact hr
def A0 (a:Int)(i:Nat)(parts:List ad)(Td:Bool):Prop:=Td=false->(i=0/\parts=[])\/∃ t,parts=[xe t a]
def PtO (a:Int)(q:PE⊕(Int×Int×Bytes×List ad×Bool))(r:(List ad×Bool)⊕(List ad×Bool×ao)):Prop:=match q with
 | .inl e=>e.1≠0/\r=.inr ([],false,eD e)
 | .inr (frm,pos,text,parts,Td)=>r=.inl (flS frm pos text parts,Td)/\(Td=false->flS frm pos text parts=[]/\text=[]\/flS frm pos text parts=[xe text a])
theorem uy {F:Nat}{s:Bytes}{a:Int}(h0:0<=a)(h1:a+(s.length:Int)<=1000000000)(hW:∀ f,f < F->RW f){q:PE⊕(Int×Int×Bytes×List ad×Bool)}:∀ (k f i:Nat) (parts:List ad) (Td:Bool),f<=F->s.length - i < k->i<=s.length->parts.length<=2*i->(Td=false->i=0/\parts=[])->eH f (a+(i:Int)) (a+(i:Int)) [] parts Td (s.drop i)=some q ->
  Ev2 (λ n m=>cB n (dM n) s a m parts Td (i:Int)) (PtO a q)
 | 0,f,i,parts,Td,_,h,_,_,_,_=>absurd h (Nat.not_lt_zero _)
 | k+1,f,i,parts,Td,hF,hk,hi,hp,hopn,h=>by
  refine aw ?_;simp only [cB]
  -- an interpolation at i,with nothing of a text ahead of it
  have interp:∀ (f' i:Nat) (out:List ad),f'<=F->s.length - i < k+1->i<=s.length->out.length<=2*i+1->hasPrefix (s.drop i) [36,123]=true->∀ (frm:Int) (text:Bytes) (parts:List ad) (Td:Bool),flS frm (a+(i:Int)) text parts=out->eH f' frm (a+(i:Int)) text parts Td (s.drop i)=some q->(∀ (i':Nat) (x:ad) (f'':Nat),f''<=F->i < i'->i'<=s.length->eH f'' (a+(i':Int)) (a+(i':Int)) [] (out++[x]) true (s.drop i')=some q->Ev2 (λ n m=>cB n (dM n) s a m (out++[x]) true (i':Int)) (PtO a q)) ->
    Ev2 (λ n _=>(
     ck (inR ((i:Int)+2)) <|
     (cE n s ((i:Int)+2)).bind λ UT =>
     if UT < 0 then
      ck (inR (a+(i:Int))) <|
      some (.inr (.inr ([],false,(ao.mk 40 (a+(i:Int)) ([]:Bytes)))))
     else
      ck (inR ((i:Int)+2)) <|
      ck ((0:Int)<=(i:Int)+2/\(i:Int)+2<=UT/\UT<=(s.length:Int)) <|
      ck (inR (a+(i:Int))) <|
      ck (inR ((a+(i:Int))+2)) <|
      (dM n (sub s ((i:Int)+2) UT) ((a+(i:Int))+2)).bind λ TR =>
      if TR.2.Ar=0 then
      ck ((out.length+[TR.1].length)*160<=140737488355328) <|
      ck (inR (UT+1)) <|
      some (.inl (out++[TR.1],true,UT+1))
      else
      some (.inr (.inr ([],false,TR.2)))
     : Option (((List ad)×Bool×Int)⊕(((List ad)×Bool)⊕((List ad)×Bool×ao))))) (λ x=>match x with
      | .inl z=>Ev2 (λ n m=>cB n (dM n) s a m z.1 z.2.1 z.2.2) (PtO a q)
      | .inr y=>PtO a q y):=by
   intro f' i out hfF hki hi hout hp2 frm text parts Td hfl h cont
   cases f' with
   | zero=>rw [eH] at h; cases h
   | succ f' =>
   cases hl:s.drop i with
   | nil=>rw [hl] at hp2; cases hp2
   | cons b r =>
   have M':(b::r).length=s.length - i:=by rw [<- hl,ld]
   rw [hl] at hp2;rw [hl,eH,if_neg (MO hp2),if_pos hp2] at h;have hpl:=lM hp2;simp only [aq,n8] at hpl M';have e2:s.drop (i+2)=(b::r).drop 2:=by rw [oT s i 2,hl]
   refine ag aB ?_
   cases hc:fV f' 1 ((b::r).drop 2) with
   | none=>rw [hc] at h; cases h
   | some y =>
    rw [hc] at h;refine aj _ (yP ((CP (s:=s) O f').1 1 (i+2) ((i:Int)+2) 0 y O rfl (by decide) iN O (by rw [e2]; exact hc))) ?_
    cases y with
    | none =>
     cases h
     exact ae (show (-1:Int) < 0 by decide) (ag aB (aa ⟨(by decide:(40:Int)≠0),Z⟩))
    | some r' =>
     simp only at h;have hsf:=(iU f').1 _ _ _ hc;have Sk:=hsf.2;have hd2:((b::r).drop 2).length=s.length - (i+2):=by rw [<- e2,ld]
     have hrs:r' <:+ s:=by rw [<- e2] at hsf; exact hsf.1.trans (List.drop_suffix _ _)
     have hsd:=Ey hrs;have hcp:JH s (some r')=((s.length - r'.length - 1:Nat):Int):=by show (s.length:Int) - (r'.length:Int) - 1=_; omega
     rw [hcp]
     have hsub2:sub s ((i:Int)+2) ((s.length - r'.length - 1:Nat):Int)=((b::r).drop 2).take (((b::r).drop 2).length - r'.length - 1):=by
      exact JQ
     rw [hsub2];generalize hX:((b::r).drop 2).take (((b::r).drop 2).length - r'.length - 1)=X at h;have hXl:X.length<=((b::r).drop 2).length:=by rw [<- hX,List.length_take]; omega
     refine af O (ag aB (ag ⟨by omega,by omega,by omega⟩ (ag aB (ag aB ?_))))
     cases hw:gv f' X (a+(i:Int)+2) with
     | none=>rw [hw] at h; cases h
     | some z =>
      rw [hw] at h;refine ah _ (hW f' O X (a+(i:Int)+2) z O O  hw) ?_;rcases z with e | e
      ·cases h
       rintro ⟨w1,w2⟩ ⟨he,hz⟩
       cases hz
       exact af he (aa ⟨he,Z⟩)
      ·rintro _ rfl;have h:eH f' (a+(i:Int)+(((b::r).length - r'.length:Nat):Int)) (a+(i:Int)+(((b::r).length - r'.length:Nat):Int)) [] (flS frm (a+(i:Int)) text parts++[e]) true r'=some q:=h
       have hpos:a+(i:Int)+(((b::r).length - r'.length:Nat):Int)=a+((s.length - r'.length:Nat):Int):=by
        have:=hsf.1.length_le;simp only [aq] at hd2 ⊢; omega
       rw [hpos,hfl] at h;have hi2:((s.length - r'.length - 1:Nat):Int)+1=((s.length - r'.length:Nat):Int):=by omega
       refine ae Z (ag ns (ag aB (aa ?_)));simp only [hi2];exact cont (s.length - r'.length) e f' O O O (by rw [hsd]; exact h)
  by_cases hlt:i < s.length
  ·refine ae O ?_;by_cases hp2:hasPrefix (s.drop i) [36,123]=true
   ·have hfl:flS (a+(i:Int)) (a+(i:Int)) [] parts=parts:=by unfold flS; rw [if_neg O]
    have:=interp f i parts hF hk hi O hp2 (a+(i:Int)) [] parts Td hfl h (λ i' x f'' hF' h1' h2' h3'=>uy h0 h1 hW k f'' i' (parts++[x]) true hF' O h2' wK (λ k=>by cases k) h3');refine cm ?_;refine aj true (ax (by rw [Aj s i [36,123] O (by decide),hp2]) rfl) (ae rfl ?_);exact aQ this (λ s hs=>by cases s <;> exact hs)
   ·refine cm ?_;refine aj false (ax (by rw [Aj s i [36,123] O (by decide)]; simpa using hp2) rfl) (af mv ?_);refine ah _ (Oj (F:=F) O f i hF hi h) ?_;rintro ⟨t,i1,e1⟩ (⟨he,hi0,hi1,hq⟩ | ⟨he,hl,hq⟩ | ⟨i',f',he,hfF,hl,h2',h3',h4',h5'⟩)
    ·simp only at he hi0 hi1 hq;subst hq;exact af he (ag (bv (by show _<=a+i1; omega) (by show a+i1<=_; omega)) (aa ⟨he,rfl⟩))
    ·simp only at he hl hq;subst hq;exact ae he (ae (by show (4096:Int) < (t.length:Int); omega) (ag aB (aa ⟨(by decide:(3:Int)≠0),rfl⟩)))
    ·simp only at he hl h4'
     cases he
     have hii:i < i':=by
      rcases Nat.lt_or_ge i i' with q | q
      ·exact q
      ·exfalso;have:i'=i:=by omega
       subst this;rcases h5' with h5' | h5'
       ·have:=D1 h5'; omega
       ·exact hp2 h5'
     have hfl:flS (a+(i:Int)) (a+(i':Int)) t parts=parts++[xe t (a+(i:Int))]:=by unfold flS; rw [if_pos O]
     refine ae Z (af (by show ¬ (4096:Int) < (t.length:Int); omega) (ag aB (aj _ oe (ag ns (aa ?_)))));have e1:parts++[ad.mk 1 0 [] [] (am.mk 3 0 t [] []) [] (a+(i:Int))]=flS (a+(i:Int)) (a+(i':Int)) t parts:=hfl.symm;show Ev2 (λ n m=>cB n (dM n) s a m (parts++[ad.mk 1 0 [] [] (am.mk 3 0 t [] []) [] (a+(i:Int))]) Td (i':Int)) (PtO a q);rw [e1];have hol:(flS (a+(i:Int)) (a+(i':Int)) t parts).length<=2*i':=by rw [hfl,ph,List.length_singleton]; omega
     refine aw ?_;simp only [cB];rcases h5' with h5' | h5'
     · -- the end
      have:=D1 h5'
      cases f' with
      | zero=>rw [eH] at h4'; cases h4'
      | succ f' =>
       rw [h5',eH] at h4'; cases h4';refine af O (aa ⟨rfl,λ ho=>.inr ?_⟩);obtain ⟨hi0,hp0⟩:=hopn ho;rw [hfl,hp0,hi0]; simp
     ·have hlt':i' < s.length:=by
       rcases Nat.lt_or_ge i' s.length with q | q
       ·exact q
       ·rw [List.drop_eq_nil_of_le q] at h5'; cases h5'
      have:=interp f' i' (flS (a+(i:Int)) (a+(i':Int)) t parts) hfF O h3' O h5' (a+(i:Int)) t parts Td rfl h4' (λ i'' x f'' hF' h1' h2'' h3''=>uy h0 h1 hW k f'' i'' (flS (a+(i:Int)) (a+(i':Int)) t parts++[x]) true hF' O h2'' wK (λ k=>by cases k) h3'');refine ae O (cm ?_);refine aj true (ax (by rw [Aj s i' [36,123] O (by decide),h5']) rfl) (ae rfl ?_);exact aQ this (λ s hs=>by cases s <;> exact hs)
  ·have hd:s.drop i=[]:=List.drop_eq_nil_of_le O
   cases f with
   | zero=>rw [eH] at h; cases h
   | succ f =>
    rw [hd,eH] at h; cases h;have hfl:flS (a+(i:Int)) (a+(i:Int)) [] parts=parts:=by unfold flS; rw [if_neg O]
    refine af O (aa ⟨by rw [hfl],λ ho=>.inl ⟨?_,Z⟩⟩);rw [hfl]; exact (hopn ho).2
theorem u7 {e:ad}(hb:Sz e):Ev2 (λ n _=>dp n (.mk [] 0 0 dOk) e) (λ z=>(z.1,z.2.1)=sC (qE (.inr e))):=by
 simp only [dp,au,cl];refine af mv (aj _ (Ma hb) ?_);exact FD
theorem EQ {e:PE}(he:e.1≠0)(x:ad):Ev2 (λ n _=>dp n (.mk [] 0 0 (eD e)) x) (λ z=>(z.1,z.2.1)=sC (.inl e)):=by
 simp only [dp,au,cl];exact ae (kC he) (aa rfl)
theorem Qg {f:Nat}(hW:∀ f',f' < f->RW f'):∀ (s:Bytes) (a:Int) q,0<=a->a+(s.length:Int)<=1000000000->jC (f+1) s a=some q->Ev2 (λ n _=>ed n s a) (·=sC q):=by
 intro s a q h0 h1 hq;rw [jC] at hq;refine aP ?_;simp only [ed]
 cases hr:eH f a a [] [] false s with
 | none=>rw [hr] at hq; cases hq
 | some y =>
  rw [hr] at hq;have SS:=(fct f).r a a [] [] false s (2*s.length) h0 h1 (by decide) (λ y hy=>by cases hy) G y hr;have hread:=uy (F:=f) h0 h1 hW (s.length+1) f 0 [] false (bx _) O (rg _) G (λ _=>⟨rfl,rfl⟩) (q:=y) (by simpa using hr);rcases y with e | ⟨frm,pos,text,parts,Td⟩
  ·cases hq
   refine aj ([],false,eD e) (aP ?_) ?_
   ·simp only [lg];refine cm (aQ FE ?_);rintro r ⟨he,rfl⟩
    rfl
   ·have he:e.1≠0:=SS;refine aj (1,0,[],[],3,0,[],[],[],[],a) (ae rfl (aj _ oe (af (show ¬ (0:Int)=1 by decide) (aa rfl)))) ?_;refine ah _ (EQ he _) ?_;rintro z hz;exact aa hz
  ·have hq:some (qE (.inr (qT a (frm,pos,text,parts,Td))))=some q:=hq
   cases hq
   have hz:Sz (qT a (frm,pos,text,parts,Td)):=uG O SS;refine ah (λ r=>r=(flS frm pos text parts,Td,dOk)/\(Td=false->flS frm pos text parts=[]/\text=[]\/flS frm pos text parts=[xe text a])) (aP ?_) ?_
   ·simp only [lg];refine cm (aQ FE ?_);rintro r ⟨rfl,ho⟩;exact aa ⟨rfl,ho⟩
   ·rintro _ ⟨rfl,ho⟩
    cases Td with
    | true =>
     refine aj (2,0,[],[],0,0,[],[],[],flS frm pos text parts,a) se ?_;refine ah _ (u7 hz) ?_;rintro z hz;exact aa hz
    | false =>
     refine aj (1,0,[],[],3,0,text,[],[],[],a) (ae Z (aj _ oe ?_)) ?_
     ·rcases ho rfl with ⟨h1',h2'⟩ | h1'
      ·rw [h1',h2'];exact af (show ¬ (0:Int)=1 by decide) (aa rfl)
      ·rw [h1'];exact ae rfl (ag G (aa rfl))
     ·refine ah _ (u7 hz) ?_;rintro z hz;exact aa hz
theorem rol0:Rol 0:=by
 constructor
 ·intro b l L hL M' i I Mp q hI gl h hq; rw [gi] at hq; cases hq
 ·intro SR li b l _ _ L hL M' i I Mp q hI gl h hq; rw [nU] at hq; cases hq
 ·intro SR li b l x r5 _ _ _ L hL M' i Mp q gl h hq; rw [oW] at hq; cases hq
 ·intro b l L hL M' i I Mp q hI gl h hq; rw [unS] at hq; cases hq
 ·intro b l x r1 _ L hL M' i I Mp q hI gl h hq; rw [j4] at hq; cases hq
 ·intro b l L hL M' i I Mp q hI gl h hq; rw [lE] at hq; cases hq
 ·intro b l _ L hL M' i I Mp q hI gl h hq; rw [qn] at hq; cases hq
 ·intro b l _ L hL M' j Mp q gl h hq; rw [mT] at hq; cases hq
 ·intro en l out _ _ _ L hL M' i I Mp q hI h hq; rw [ip] at hq; cases hq
 ·intro l out _ _ L hL M' i I Mp q hI h hq; rw [oX] at hq; cases hq
 ·intro l L hL M' i I Mp q hI gl h hq; rw [na] at hq; cases hq
 ·intro tk k en l _ _ L hL M' i I Mp b q hI _ _ gl h hq; rw [lC] at hq; cases hq
 ·intro s a q _ _ hq; rw [jC] at hq; cases hq
theorem rol:∀ f,(∀ f',f'<=f->Rol f')/\(∀ f',f'<=f->RW f')
 | 0=>⟨λ f' h=>(by have:f'=0:=(by omega)
                   subst this; exact rol0),λ f' h=>(by
   have:f'=0:=by omega
   subst this
   intro s a q _ _ hq; rw [gv] at hq; cases hq)⟩
 | f+1=>by
  obtain ⟨i1,i2⟩:=rol f;have ih:=i1 f (bx _);have hR:Rol (f+1):=⟨Rw ih,Sy ih,Px ih,Sf ih,Qk ih,RG ih,RP ih,Sg ih,SG ih,RF ih,Rp ih,On ih,Qg (λ f' h=>i2 f' O)⟩
  have hWn:RW (f+1):=Rz ih;refine ⟨λ f' h=>?_,λ f' h=>?_⟩
  ·rcases Nat.lt_or_ge f f' with q | q
   ·have:f'=f+1:=by omega
    subst this; exact hR
   ·exact i1 f' q
  ·rcases Nat.lt_or_ge f f' with q | q
   ·have:f'=f+1:=by omega
    subst this; exact hWn
   ·exact i2 f' q
end Go.Ab.R06
end
section
namespace Go.Ab.R06
open Go.Ab Go.Ab.RB Go.Lib
section
variable {p:Prop}
theorem Gv (h:p:=by
 have g1:=glt g hs
 exact eT ((stepT g1).e true) (λ n=>(fct n).e true _ g1) (λ _ l2 _ _ g2=>eT om (λ _=>cW g2) (λ _ _ _ _ _=>gM))):p:=h
theorem G3 (h:p:=by
 exact eT ((stepT (glt g hs)).u b) (λ n=>(fct n).u b _ (glt g hs)) (λ _ _ _ _ _=>gM)):p:=h
end
def Tot {α:Type}(F:Nat->Option α):Prop:=Ev2 (λ n _=>F n) (λ _=>True)
theorem eT {α β:Type}{x:Nat->PR α}{k:Nat->α->List ac->PR β}{P:α->Prop}{l0:List ac}(h:Tot x)(hx:∀ n,hH P l0 (x n))(hk:∀ a l',P a->l' <:+ l0->Gl l'->Tot (λ n=>k n a l')):Tot (λ n=>pb (x n) (k n)):=by
 obtain ⟨r,_,N,hN⟩:=h;have hr:=hx N r (hN N N (bx _) (bx _));rcases r with e | ⟨a,l'⟩
 ·exact ⟨.inl e,trivial,N,λ n m hn hm=>by show pb (x n) (k n)=_; rw [show x n=_ from hN n m hn hm]; rfl⟩
 ·obtain ⟨r2,_,N2,hN2⟩:=hk a l' hr.1 hr.2.1 hr.2.2;refine ⟨r2,trivial,max N N2,λ n m hn hm=>?_⟩;show pb (x n) (k n)=_;rw [show x n=_ from hN n m O O];exact hN2 n m O O
theorem gM {α:Type}{r:α}:Tot (λ _=>some r):=aa trivial
theorem II {α:Type}{x:Option α}(h:∃ r,x=some r):Tot (λ _=>x):=by
 obtain ⟨r,rfl⟩:=h;exact gM
theorem om {b:Bool}{s:Bytes}{l:List ac}:Tot (λ _=>ek b s l):=II (by unfold ek; split <;> exact ⟨_,Z⟩)
theorem RX {b:Bool}{s:Bytes}{l:List ac}:Tot (λ _=>y9 b s l):=II (by unfold y9; split <;> exact ⟨_,Z⟩)
theorem NY {b:Bool}{l:List ac}:Tot (λ _=>xE b l):=II (by unfold xE; split <;> exact ⟨_,Z⟩)
theorem dk {α:Type}{p:Prop} [Decidable p] {f g:Nat->Option α}(h1:p->Tot f)(h2:¬p->Tot g):Tot (λ n=>if p then f n else g n):=av h1 h2
theorem gI {α:Type}{f:Nat->Option α}(h:Tot (λ n=>f (n+1))):Tot f:=aP h
theorem yU {α:Type}{x:Nat->Option α}(h:Tot x):∃ r N,∀ n,N<=n->x n=some r:=by
 obtain ⟨r,_,N,hN⟩:=h;exact ⟨r,N,λ n hn=>hN n n hn hn⟩
theorem xp {α:Type}{x:Nat->Option α}(r:α)(N:Nat)(h:∀ n,N<=n->x n=some r):Tot x:=⟨r,trivial,N,λ n _ hn _=>h n hn⟩
def M0 (M:Nat)(l:List ac):Prop:=∀ t∈l,t.Ar=3->t.B'.length < M
theorem alS {M:Nat}{l l':List ac}(h:M0 M l)(hs:l' <:+ l):M0 M l':=λ t ht=>h t (hs.subset ht)
theorem OS {b:Bool}{l:List ac}(g:Gl l):hd b l∈l:=by
 have h1:=qe (rl (b:=b) g.1)
 have h2:nf b l <:+ l:=by
  unfold nf
  cases b
  ·exact List.suffix_refl _
  ·exact List.dropWhile_suffix _
 exact h2.subset (by rw [h1]; exact List.mem_cons_self)
structure TA (l:List ac):Prop where
 e:∀ b,Tot (λ n=>gi n b l)
 b:∀ SR b,Tot (λ n=>nU n SR b l)
 bl:∀ SR b x,Sz x->Tot (λ n=>oW n SR b x l)
 u:∀ b,Tot (λ n=>unS n b l)
 pl:∀ b x,Sz x->Tot (λ n=>j4 n b x l)
 i:∀ en,Tot (λ n=>ip n en l)
 t:Tot (λ n=>oX n l)
 lo:∀ a k,Tot (λ n=>lC n a k l)
theorem Rs {K:Nat}(hK:∀ (s:Bytes) (a:Int),s.length < K->0<=a->a+(s.length:Int)<=1000000000->Tot (λ n=>jC n s a)):∀ (N:Nat) (l:List ac),l.length<=N->Gl l->M0 K l->TA l:=by
 intro N
 induction N with
 | zero =>
  intro l hl g _;have:=vQ g.1;exact absurd (List.length_eq_zero_iff.1 O) this
 | succ N ih =>
  intro l hl g hA;have step:∀ {l':List ac} {b:Bool},l' <:+ tl b l->Gl l'->TA l':=λ {l' b} hs gl=>ih l' (by have:=hs.length_le; have:=gll (b:=b) g; omega) gl (alS hA (hs.trans (tlS b l)));have stepT:∀ {b:Bool},Gl (tl b l)->TA (tl b l):=λ {b} gl=>step (sfx _) gl
  have hs:∀ b,(hd b l).Ar=3->Tot (λ n=>qn n b l):=by
   intro b k3;refine gI ?_;simp only [qn];have tk:=sX (rl (b:=b) g.1);have h1:=tk.1;have h2:=tk.2.2.1 k3;obtain ⟨r,M,hM⟩:=yU (hK (hd b l).B' ((hd b l).fAt+1) (hA _ (OS g) k3) O O);rcases r with e | e
   ·exact xp (.inl e) M λ n hn=>by simp only [hM n hn]
   ·exact xp (.inr (ad.mk e.Ar e.fOp e.AI e.Gw e.A' e.By (hd b l).fAt,tl b l)) M λ n hn=>by simp only [hM n hn]; rfl
  have hn:∀ b,(hd b l).Ar=1->Tot (λ n=>mT n b l):=by
   intro b k1;have g1:=glk g k1 (by decide);refine gI ?_;simp only [mT];refine dk (λ _=>gM) (λ _=>dk (λ _=>gM) (λ _=>dk (λ _=>gM) (λ _=>dk (λ _=>gM) (λ _=>dk (λ hs=>?_) (λ _=>gM)))));have g2:=glt g1 hs;exact eT ((step (b:=b) (tlS b _) g2).i _) (λ n=>(fct n).i _ _ g2) (λ _ _ _ _ _=>gM)
  have hp:∀ b,Tot (λ n=>lE n b l):=by
   intro b;refine gI ?_;simp only [lE];refine dk (λ _=>dk (λ _=>gM) (λ _=>gM)) (λ _=>dk (λ k3=>hs b k3) (λ _=>dk (λ k1=>hn b k1) (λ _=>?_)));refine dk (λ hs=>?_) (λ _=>?_)
   ·exact Gv
   refine dk (λ hs=>dk (λ hw=>?_) (λ _=>?_)) (λ _=>dk (λ hs=>dk (λ hw=>?_) (λ _=>?_)) (λ _=>gM))
   ·exact (step (b:=b) (tlS true _) (glw (glt g hs) hw)).lo _ _
   ·exact eT ((stepT (glt g hs)).i _) (λ n=>(fct n).i _ _ (glt g hs)) (λ _ _ _ _ _=>gM)
   ·exact (step (b:=b) (tlS true _) (glw (glt g hs) hw)).lo _ _
   ·exact eT (stepT (glt g hs)).t (λ n=>(fct n).t _ (glt g hs)) (λ _ _ _ _ _=>gM)
  have hpl:∀ b x,Sz x->Tot (λ n=>j4 n b x l):=by
   intro b x zx;refine gI ?_;simp only [j4];refine dk (λ hs=>dk (λ hk=>?_) (λ _=>gM)) (λ _=>dk (λ hs=>?_) (λ _=>gM))
   ·exact (step (b:=b) (tlS b _) (glk (glt g hs) hk (by decide))).pl b _ (qK (gln (glt g hs)) (by decide) G (m1 zx))
   ·have g1:=glt g hs;exact eT ((stepT g1).e true) (λ n=>(fct n).e true _ g1) (λ y l2 zy s2 g2=>eT om (λ _=>cW g2) (λ _ l3 _ s3 g3=>(step (b:=b) (s3.trans ((tlS true l2).trans (s2.trans (tlS true _)))) g3).pl b _ (qK (by decide) (by decide) G (m2 zx zy))))
  have hu:∀ b,Tot (λ n=>unS n b l):=by
   intro b;refine gI ?_;simp only [unS];refine dk (λ hs=>?_) (λ _=>dk (λ hs=>?_) (λ _=>?_))
   ·exact G3
   ·exact G3
   ·exact eT (hp b) (λ n=>(fct n).p b l g) (λ x l1 zx s1 g1=>(step s1 g1).pl b x zx)
  have hbl:∀ SR b x,Sz x->Tot (λ n=>oW n SR b x l):=by
   intro SR b x zx;refine gI ?_;simp only [oW]
   cases ha:vu b l SR with
   | none=>exact gM
   | some p =>
    have hs:sgB b l p.1=true:=List.find?_some (p:=λ p:Bytes×Int=>sgB b l p.1) ha;exact eT ((stepT (glt g hs)).b _ b) (λ n=>(fct n).b _ b _ (glt g hs)) (λ y l1 zy s1 g1=>(step (b:=b) (s1.trans (tlS b _)) g1).bl SR b _ (qK (by decide) (by decide) G (m2 zx zy)))
  have hb:∀ (k SR:Nat) b,6<=SR+k->Tot (λ n=>nU n SR b l):=by
   intro k
   induction k with
   | zero =>
    intro SR b hk;refine gI ?_;simp only [nU];exact dk (λ _=>hu b) (λ h=>absurd O h)
   | succ k ihk =>
    intro SR b hk;refine gI ?_;simp only [nU];exact dk (λ _=>hu b) (λ _=>eT (ihk (SR+1) b O) (λ n=>(fct n).b _ b l g) (λ x l1 zx s1 g1=>(step s1 g1).bl SR b x zx))
  have he:∀ b,Tot (λ n=>gi n b l):=by
   intro b;refine gI ?_;simp only [gi];refine eT (hb 6 0 b (by decide)) (λ n=>(fct n).b 0 b l g) (λ c l1 zc s1 g1=>dk (λ hs=>?_) (λ _=>gM));have g2:=glt g1 hs;exact eT ((step (b:=b) ((tlS b l1).trans s1) g2).e b) (λ n=>(fct n).e b _ g2) (λ a l3 _ s3 g3=>eT om (λ _=>cW g3) (λ _ l4 _ s4 g4=>eT ((step (b:=b) (s4.trans ((tlS b l3).trans (s3.trans ((tlS b _).trans ((tlS b l1).trans s1))))) g4).e b) (λ n=>(fct n).e b _ g4) (λ _ _ _ _ _=>gM)))
  have hk:Tot (λ n=>na n l):=by
   refine gI ?_;simp only [na];refine dk (λ _=>gM) (λ _=>dk (λ k3=>hs true k3) (λ _=>dk (λ hs=>?_) (λ _=>gM)));exact Gv
  have hi:∀ en,Tot (λ n=>ip n en l):=by
   intro en;refine gI ?_;simp only [ip];refine dk (λ _=>gM) (λ _=>eT (he true) (λ n=>(fct n).e true l g) (λ x l1 _ s1 g1=>dk (λ hs=>?_) (λ _=>eT om (λ _=>cW g1) (λ _ _ _ _ _=>gM))));have g2:=glt g1 hs;exact eT ((step (b:=true) ((tlS true l1).trans s1) g2).i en) (λ n=>(fct n).i _ _ g2) (λ _ _ _ _ _=>gM)
  have ht:Tot (λ n=>oX n l):=by
   refine gI ?_;simp only [oX];refine dk (λ _=>gM) (λ _=>eT hk (λ n=>(fct n).k l g) (λ x l1 _ s1 g1=>eT om (λ _=>cW g1) (λ _ l2 _ s2 g2=>?_)));have s2':=s2.trans ((tlS true l1).trans s1);refine eT ((step (b:=true) s2' g2).e true) (λ n=>(fct n).e true _ g2) (λ y l3 _ s3 g3=>dk (λ hs=>?_) (λ _=>eT om (λ _=>cW g3) (λ _ _ _ _ _=>gM)));have g4:=glt g3 hs;exact eT (step (b:=true) ((tlS true l3).trans (s3.trans ((tlS true l2).trans s2'))) g4).t (λ n=>(fct n).t _ g4) (λ _ _ _ _ _=>gM)
  have hlo:∀ a k,Tot (λ n=>lC n a k l):=by
   intro a k;refine gI ?_;simp only [lC];refine eT NY (λ _=>o5 g) (λ v l1 _ s1 g1=>?_);refine eT (P:=Tr) (l0:=l1) (dk (λ hs=>eT NY (λ _=>o5 (glt g1 hs)) (λ _ _ _ _ _=>gM)) (λ _=>gM)) (λ _=>cN (λ hs=>dz (o5 (glt g1 hs)) (t1 (tlS true l1)) λ w l2 _ s2 g2=>d7 trivial s2 g2) (λ _=>d7 trivial (sfx _) g1)) (λ nk l2 _ s2 g2=>?_);have q2:=s2.trans s1;refine eT RX (λ _=>A2 g2) (λ _ l3 _ s3 g3=>?_);have q3:=s3.trans ((tlS true l2).trans q2);refine eT ((step (b:=true) q3 g3).e true) (λ n=>(fct n).e true _ g3) (λ x l4 _ s4 g4=>?_);have q4:=s4.trans ((tlS true l3).trans q3);refine eT om (λ _=>cW g4) (λ _ l5 _ s5 g5=>?_);have q5:=s5.trans ((tlS true l4).trans q4);refine eT ((step (b:=true) q5 g5).e true) (λ n=>(fct n).e true _ g5) (λ c l6 _ s6 g6=>?_);have q6:=s6.trans ((tlS true l5).trans q5);refine eT (P:=Tr) (l0:=l6) (dk (λ _=>eT om (λ _=>cW g6) (λ _ l7 _ s7 g7=>eT ((step (b:=true) (s7.trans ((tlS true l6).trans q6)) g7).e true) (λ n=>(fct n).e true _ g7) (λ _ _ _ _ _=>gM))) (λ _=>gM)) (λ n=>cN (λ _=>dz (cW g6) (tlS true l6) λ _ l7 _ s7 g7=>dz ((fct n).e true l7 g7) (t1 s7) λ d l8 _ s8 g8=>d7 trivial s8 g8) (λ _=>d7 trivial (sfx _) g6)) (λ ks l7 _ s7 g7=>?_);have q7:=s7.trans q6;refine eT (P:=Tr) (l0:=l7) (dk (λ hw=>eT ((step (b:=true) ((tlS true l7).trans q7) (glw g7 hw)).e true) (λ n=>(fct n).e true _ (glw g7 hw)) (λ _ _ _ _ _=>gM)) (λ _=>gM)) (λ n=>cN (λ hw=>dz ((fct n).e true _ (glw g7 hw)) (t1 (tlS true l7)) λ e l8 _ s8 g8=>d7 trivial s8 g8) (λ _=>d7 trivial (sfx _) g7)) (λ ks l8 _ s8 g8=>?_);exact eT om (λ _=>cW g8) (λ _ _ _ _ _=>gM)
  exact ⟨he,λ SR b=>hb 6 SR b O,hbl,hu,hpl,hi,ht,hlo⟩
theorem wk:∀ (k:Nat) (l:Bytes),l.length < k->(∀ d,Tot (λ n=>fV n d l))/\Tot (λ n=>ix n l)
 | 0,_,h=>absurd h (Nat.not_lt_zero _)
 | k+1,[],_=>⟨λ d=>gI (by simp only [fV]; exact gM),gI (by simp only [ix]; exact gM)⟩
 | k+1,b::r,h=>by
  have hl:(b::r).length=r.length+1:=rfl;have ih:=λ (l:Bytes) (hl':l.length<=r.length)=>wk k l O;constructor
  ·intro d;refine gI ?_;simp only [fV];refine dk (λ _=>(ih r (bx _)).1 _) (λ _=>dk (λ _=>dk (λ _=>gM) (λ _=>(ih r (bx _)).1 _)) (λ _=>dk (λ _=>?_) (λ _=>(ih r (bx _)).1 _)));obtain ⟨q,_,N,hN⟩:=(ih r (bx _)).2;have hq:=hN N N (bx _) (bx _)
   cases q with
   | none=>exact ⟨none,trivial,N,λ n m hn hm=>by simp only [show ix n r=_ from hN n m hn hm]⟩
   | some r' =>
    have hsf:=(iU N).2 _ _ hq;obtain ⟨q2,_,N2,hN2⟩:=(ih r' O).1 d;refine ⟨q2,trivial,max N N2,λ n m hn hm=>?_⟩;simp only [show ix n r=_ from hN n m O O];exact hN2 n m O O
  ·refine gI ?_;simp only [ix];refine dk (λ _=>gM) (λ _=>dk (λ _=>(ih _ iN).2) (λ _=>dk (λ _=>(ih _ iN).2) (λ _=>dk (λ _=>?_) (λ _=>(ih r (bx _)).2))));obtain ⟨q,_,N,hN⟩:=(ih ((b::r).drop 2) iN).1 1;have hq:=hN N N (bx _) (bx _)
   cases q with
   | none=>exact ⟨none,trivial,N,λ n m hn hm=>by simp only [show fV n 1 ((b::r).drop 2)=_ from hN n m hn hm]⟩
   | some r' =>
    have hsf:=(iU N).1 _ _ _ hq;have h2:=hsf.2;rw [ld] at h2;obtain ⟨q2,_,N2,hN2⟩:=(ih r' O).2;refine ⟨q2,trivial,max N N2,λ n m hn hm=>?_⟩;simp only [show fV n 1 ((b::r).drop 2)=_ from hN n m O O];exact hN2 n m O O
theorem Ds {M:Nat}(hW:∀ (s:Bytes) (a:Int),s.length < M->0<=a->a+(s.length:Int)<=1000000000->Tot (λ n=>gv n s a)):∀ (k:Nat) (s:Bytes) (frm pos:Int) (text:Bytes) (parts:List ad) (Td:Bool),s.length < k->s.length<=M->0<=pos->pos+(s.length:Int)<=1000000000->Tot (λ n=>eH n frm pos text parts Td s)
 | 0,_,_,_,_,_,_,h,_,_,_=>absurd h (Nat.not_lt_zero _)
 | k+1,[],_,_,_,_,_,_,_,_,_=>gI (by simp only [eH]; exact gM)
 | k+1,c::r,frm,pos,text,parts,Td,h,hM,h0,h1=>by
  have hl:(c::r).length=r.length+1:=rfl;refine gI ?_;simp only [eH];refine dk (λ hx=>dk (λ _=>gM) (λ _=>?_)) (λ _=>dk (λ hx=>?_) (λ _=>?_))
  ·have:=lM hx;simp only [aq,n8] at this;exact Ds hW k _ _ _ _ _ _ iN iN O iN
  ·have hpl:=lM hx;simp only [aq,n8] at hpl;obtain ⟨q,_,N,hN⟩:=(wk ((c::r).length+1) ((c::r).drop 2) iN).1 1;have hq:=hN N N (bx _) (bx _)
   cases q with
   | none=>exact ⟨.inl (40,pos),trivial,N,λ n m hn hm=>by simp only [show fV n 1 ((c::r).drop 2)=_ from hN n m hn hm]⟩
   | some r' =>
    have hsf:=(iU N).1 _ _ _ hq;have h2:=hsf.2;rw [ld] at h2;have hw:=hW (((c::r).drop 2).take (((c::r).drop 2).length - r'.length - 1)) (pos+2) (by rw [List.length_take,ld]; omega) O (by rw [List.length_take,ld]; omega);obtain ⟨z,N1,hN1⟩:=yU hw;rcases z with e | e
    ·exact xp (.inl e) (max N N1) λ n hn=>by simp only [show fV n 1 ((c::r).drop 2)=_ from hN n n O O,hN1 n O]
    ·obtain ⟨q2,N2,hN2⟩:=yU (Ds hW k r' (pos+(((c::r).length - r'.length:Nat):Int)) (pos+(((c::r).length - r'.length:Nat):Int)) [] (flS frm pos text parts++[e]) true O O O O);refine xp q2 (max N (max N1 N2)) λ n hn=>?_;simp only [show fV n 1 ((c::r).drop 2)=_ from hN n n O O,hN1 n O];exact hN2 n O
  ·cases hi:iE (c::r) with
   | inl k=>exact gM
   | inr tn =>
    obtain ⟨t,n'⟩:=tn;have:=rj hi;exact dk (λ _=>gM) (λ _=>Ds hW k _ _ _ _ _ _ iN iN O iN)
theorem Sc {K:Nat}(hK:∀ (s:Bytes) (a:Int),s.length < K->0<=a->a+(s.length:Int)<=1000000000->Tot (λ n=>jC n s a))(s:Bytes)(a:Int)(hs:s.length < K+2)(h0:0<=a)(h1:a+(s.length:Int)<=1000000000):Tot (λ n=>gv n s a):=by
 refine gI ?_;simp only [gv];refine dk (λ _=>gM) (λ hk=>?_);have hk:(eG s).2.Ar=0:=Classical.not_not.1 hk;have hg:=tp h0 h1 hk
 have hA:M0 K ((eG s).1.map (mvT a)):=by
  intro t ht h3;obtain ⟨y,hy,rfl⟩:=List.mem_map.1 ht;have:=(qU h0 h1 hk).2.1 y hy h3;show y.B'.length < K;omega
 obtain ⟨z,N,hN⟩:=yU ((Rs hK _ _ (bx _) hg hA).e true);rcases z with e | ⟨x,l⟩
 ·exact xp (.inl e) N λ n hn=>by simp only [hN n hn]
 ·by_cases h6:(hd true l).Ar=6
  ·exact xp (.inr x) N λ n hn=>by simp only [hN n hn,if_pos h6]
  ·exact xp (.inl (2,(hd true l).fAt)) N λ n hn=>by simp only [hN n hn,if_neg h6]
theorem IZ:∀ (K:Nat) (s:Bytes) (a:Int),s.length < K->0<=a->a+(s.length:Int)<=1000000000->Tot (λ n=>jC n s a)
 | 0,_,_,h,_,_=>absurd h (Nat.not_lt_zero _)
 | K+1,s,a,h,h0,h1=>by
  refine gI ?_;simp only [jC];have hr:=Ds (M:=s.length) (λ s' a' hs' h0' h1'=>Sc (K:=K) (λ s'' a''=>IZ K s'' a'') s' a' O h0' h1') (s.length+1) s a a [] [] false O (bx _) h0 h1;obtain ⟨z,N,hN⟩:=yU hr;rcases z with e | z
  ·exact xp (.inl e) N λ n hn=>by simp only [hN n hn]
  ·exact xp (qE (.inr (qT a z))) N λ n hn=>by simp only [hN n hn]
theorem IH (s:Bytes)(a:Int)(h0:0<=a)(h1:a+(s.length:Int)<=1000000000):∃ n q,jC n s a=some q:=by
 obtain ⟨q,_,N,hN⟩:=IZ (s.length+1) s a O h0 h1;exact ⟨N,q,hN N N (bx _) (bx _)⟩
end Go.Ab.R06
end
section
namespace Go.Ab.R06
open Go.Proofs Go.Ab Go.Ab.RB
set_option maxRecDepth 4000
attribute [local irreducible] awp io bg bO cv AV.sub M cZ
end Go.Ab.R06
end
section
namespace Go.Ab.R06
open Go.Proofs Go.Ab Go.Ab.RB
section
variable {p:Prop}
theorem AO (h:p:=by
  exact nx 4 Z (eX _ (oi h1).symm (gE Z Z))):p:=h
end
set_option maxRecDepth 4000
attribute [local irreducible] awp io bg bO cv AV.sub M cZ
instance QS:HE Tryz.prog 23:=⟨Tryz.call23⟩
instance Q6:HE Tryz.prog 37:=⟨Tryz.call37⟩
instance QT:HE Tryz.prog 18:=⟨Tryz.call18⟩
abbrev vc (F:ad->ad->Option (Bool))(k:Nat):Prop:=∀ (a0:ad) (a1:ad) (r:Bool),HP (F a0 a1=some r) Tryz.prog k [.agg (ad.cs a0),.agg (ad.cs a1)] (.p (eB r))
def ef (Um:ad->ad->Option Bool)(a_0:ad)(Tt:ad):Nat->Int->Option (Unit⊕Bool)
 | 0,_=>none
 | m+1,i18 =>
 if i18 < (a_0.By.length:Int) then
  ck ((0:Int)<=i18/\i18 < (a_0.By.length:Int)) <|
  ck ((0:Int)<=i18/\i18 < (Tt.By.length:Int)) <|
  (Um (lat a_0.By i18) (lat Tt.By i18)).bind λ Vb =>
  if (!Vb)=true then
   some (.inr false)
  else
   ck (inR (i18+1)) <|
   ef Um a_0 Tt m (i18+1)
 else
  some (.inl ())
def gb:Nat->ad->ad->Option Bool
 | 0,_,_=>none
 | n+1,a_0,Tt =>
 (
   if a_0.Ar=Tt.Ar then
    if a_0.fOp=Tt.fOp then
     if a_0.AI=Tt.AI then
      if a_0.Gw=Tt.Gw then
       (fS n a_0.A' Tt.A').bind λ r5 =>
       if (!r5)=true then
        some true
       else
        some (!decide ((a_0.By.length:Int)=(Tt.By.length:Int)))
      else
       some true
     else
      some true
    else
     some true
   else
    some true
  ).bind λ t8 =>
 if t8=true then
  some false
 else
  jn (ef (gb n) a_0 Tt n 0) λ _Y4 =>
  some true
instance KR (n:Nat):vc (gb n) 23:=by
 induction n with
 | zero=>exact Zr
 | succ n ih =>
 refine λ a_0 Tt=>hP good Tryz.func23 Z Z λ r h0 _ w0=>?_;rw [gb] at h0;refine nx 8 Z (bd h0 λ VP h1 h0=>?_);refine kN VP (λ Uz=>⟨[(2,.ptr 2 0),(3,.ptr 3 0),(48,.p (eB Uz))],[(2,(ad.cs a_0).map .p),(3,(ad.cs Tt).map .p)]⟩) ?_ ?_
 ·refine nx 1 Z (fB [48] h0 Z (λ c9 h0=>?_) λ c9 h0=>?_)
  ·exact tK
  refine nx 8 rfl ?_;obtain ⟨XD,h1,TC,hR0⟩:=br h0;refine kEx 0 (λ Xf:Unit=>XD=.inl Xf) (λ Xf=>⟨[],[]⟩) (λ Xf hv=>?_) ?_
  ·have h0:=TC _ hv;exact tK
  refine lG (λ (X4:Int)=>⟨[(2,.ptr 2 0),(3,.ptr 3 0),(5,.p (eI X4))],[(2,(ad.cs a_0).map .p),(3,(ad.cs Tt).map .p)]⟩) (λ m (X4:Int)=>ef (gb n) a_0 Tt m X4) Y 0 h1 (gE rfl rfl) ?_;rintro m i18 h1;replace h1:ef (gb n) a_0 Tt (m+1) i18=some XD:=h1;rw [ef] at h1;refine nx 6 rfl (oLl (f:=ak) rfl rfl ?_);refine nx 2 rfl (fD [53] h1 rfl (λ Xn h1=>?_) λ Xn h1=>?_)
  ·refine nx 5 Z (cc' h1 λ VF h1=>?_);refine cc' h1 λ U4 h1=>bd h1 λ Vb e23 h1=>mD [(2,.ptr 2 0),(3,.ptr 3 0),(5,.p (eI i18))] Z ⟨Z,Z,Z,trivial⟩ Z (dR 3 Z ?_);refine dq (.rptr (ad.cs (lat a_0.By i18))) [57,58] Z (λ _ e _ q=>ap Z (jP (f:=ak) (l:=a_0.By) ad.cs Z Z Z Z Z Z (e _ _ Z) Z (e _ _ Z) VF ad.It Y q)) Z (dR 4 Z ?_);refine dq (.rptr (ad.cs (lat Tt.By i18))) [62,63] Z (λ _ e _ q=>ap Z (jP (f:=ak) (l:=Tt.By) ad.cs Z Z Z Z Z Z (e _ _ Z) Z (e _ _ Z) U4 ad.It Y q)) Z (dR 1 Z ?_);refine dq (.p (eB Vb)) [60,65] Z (λ _ e _ q=>ap Z (gG (HP.c e23) Z Z Z (aT (e _ _ Z) (aT (e _ _ Z) b9)) ⟨sr,sr,trivial⟩ Tryz.call23 Z q)) Z (dR 1 Z ?_);refine dE Z (nx 1 Z ?_);refine fB [67] h1 Z (λ XW h1=>?_) λ XW h1=>?_
   ·exact nx 6 Z BR
   refine nx 4 Z (oA h1 Z Z λ VQ h1=>?_);exact nx 2 Z (eX (i18+1) h1 (gE Z Z))
  exact xZ
 refine nx 7 Z (fN [10,11] h1 Z (λ c1 h1=>?_) λ c1 h1=>?_)
 ·refine nx 7 Z (fN [16,17,18] h1 Z (λ c2 h1=>?_) λ c2 h1=>?_)
  ·refine nx 4 Z (oS Z Z ?_);refine nx 2 Z (fN [23,24,25] h1 Z (λ c3 h1=>?_) λ c3 h1=>?_)
   ·refine nx 4 Z (oS Z Z ?_);refine nx 2 Z (fN [30,31,32] h1 Z (λ c4 h1=>?_) λ c4 h1=>?_)
    ·refine nx 4 Z (K1 λ r5 h1=>nx 3 Z ?_);refine fB [38,39,40] h1 Z (λ c7 h1=>?_) λ c7 h1=>?_
     ·exact nx 9 Z gJ
     refine nx 2 Z (oLl (f:=ak) Z Z ?_);exact Hi
    exact Bl
   exact nx 24 Z gJ
  exact nx 31 Z gJ
 exact nx 38 Z gJ
def dd (T6:ad->ad->Option Bool)(a_0:ad)(Tt:ad):Nat->Int->Option (Unit⊕Bool)
 | 0,_=>none
 | m+1,i12 =>
 (
   if i12 < (a_0.By.length:Int) then
    some (decide (i12 < (Tt.By.length:Int)))
   else
    some false
  ).bind λ YX =>
 if YX=true then
  ck ((0:Int)<=i12/\i12 < (a_0.By.length:Int)) <|
  ck ((0:Int)<=i12/\i12 < (Tt.By.length:Int)) <|
  (T6 (lat a_0.By i12) (lat Tt.By i12)).bind λ Ud =>
  if (!Ud)=true then
   some (.inr false)
  else
   ck (inR (i12+1)) <|
   dd T6 a_0 Tt m (i12+1)
 else
  some (.inl ())
def d5:Nat->ad->ad->Option Bool
 | 0,_,_=>none
 | n+1,a_0,Tt =>
 if a_0.fAt=Tt.fAt then
  jn (dd (d5 n) a_0 Tt n 0) λ _Wp =>
  some true
 else
  some false
instance Eu (n:Nat):vc (d5 n) 37:=by
 induction n with
 | zero=>exact Zr
 | succ n ih =>
 refine λ a_0 Tt=>hP good Tryz.func37 Z Z λ r h0 _ w0=>?_;rw [d5] at h0;refine nx 15 Z (fN [10] h0 Z (λ c1 h0=>?_) λ c1 h0=>?_)
 ·refine nx 8 rfl ?_;obtain ⟨V0,h1,TC,hR0⟩:=br h0;refine kEx 0 (λ VJ:Unit=>V0=.inl VJ) (λ VJ=>⟨[],[]⟩) (λ VJ hv=>?_) ?_
  ·have h0:=TC _ hv;exact tK
  refine lG (λ (Y5:Int)=>⟨[(2,.ptr 2 0),(3,.ptr 3 0),(5,.p (eI Y5))],[(2,(ad.cs a_0).map .p),(3,(ad.cs Tt).map .p)]⟩) (λ m (Y5:Int)=>dd (d5 n) a_0 Tt m Y5) Y 0 h1 (gE rfl rfl) ?_;rintro m i12 h1;replace h1:dd (d5 n) a_0 Tt (m+1) i12=some V0:=h1;rw [dd] at h1;refine nx 2 rfl (bd h1 λ o28 h2 h1=>?_);refine kN o28 (λ v29=>⟨[(2,.ptr 2 0),(3,.ptr 3 0),(5,.p (eI i12)),(22,.p (eB v29))],[(2,(ad.cs a_0).map .p),(3,(ad.cs Tt).map .p)]⟩) ?_ ?_
  ·refine nx 1 Z (fB [22] h1 Z (λ XX h1=>?_) λ XX h1=>?_)
   ·refine nx 5 Z (cc' h1 λ UN h1=>?_);refine cc' h1 λ V' h1=>bd h1 λ Ud e19 h1=>mD [(2,.ptr 2 0),(3,.ptr 3 0),(5,.p (eI i12))] Z ⟨Z,Z,Z,trivial⟩ Z (dR 3 Z ?_);refine dq (.rptr (ad.cs (lat a_0.By i12))) [26,27] Z (λ _ e _ q=>ap Z (jP (f:=ak) (l:=a_0.By) ad.cs Z Z Z Z Z Z (e _ _ Z) Z (e _ _ Z) UN ad.It Y q)) Z (dR 4 Z ?_);refine dq (.rptr (ad.cs (lat Tt.By i12))) [31,32] Z (λ _ e _ q=>ap Z (jP (f:=ak) (l:=Tt.By) ad.cs Z Z Z Z Z Z (e _ _ Z) Z (e _ _ Z) V' ad.It Y q)) Z (dR 1 Z ?_);refine dq (.p (eB Ud)) [29,34] Z (λ _ e _ q=>ap Z (gG (HP.c e19) Z Z Z (aT (e _ _ Z) (aT (e _ _ Z) b9)) ⟨sr,sr,trivial⟩ Tryz.call37 Z q)) Z (dR 1 Z ?_);refine dE Z (nx 1 Z ?_);refine fB [36] h1 Z (λ c20 h1=>?_) λ c20 h1=>?_
    ·exact nx 6 Z BR
    refine nx 4 Z (oA h1 Z Z λ U4 h1=>?_);exact nx 2 Z (eX (i12+1) h1 (gE Z Z))
   exact xZ
  refine nx 4 Z (oLl (f:=ak) Z Z ?_);refine nx 2 Z (fD [15,16] h2 Z (λ XY h2=>?_) λ XY h2=>?_)
  ·refine nx 3 Z (oLl (f:=ak) Z Z ?_);exact nx 3 Z uv
  exact nx 7 Z uv
 exact tK
def kT (n:Nat)(a_0:ad)(Tt:ad):Option Bool :=
 (
   (gb n a_0 Tt).bind λ r1 =>
   if r1=true then
    (d5 n a_0 Tt).bind λ r4 =>
    some r4
   else
    some false
  ).bind λ t6 =>
 some t6
instance ID (n:Nat):vc (kT n) 18:=by
 refine λ a_0 Tt=>hP good Tryz.func18 Z Z λ r h0 _ w0=>?_;unfold kT at h0;refine nx 7 Z (bd h0 λ o8 h1 h0=>?_);refine kN o8 (λ v9=>⟨[(4,.p (eB v9))],[]⟩) ?_ ?_
 ·exact nx 2 Z (mQ (oi h0) Z (sr))
 refine nx 3 Z (K1 λ r1 h1=>nx 1 Z ?_);refine fB [7,8] h1 Z (λ c3 h1=>?_) λ c3 h1=>?_
 ·refine nx 2 Z (K1 λ r4 h1=>nx 3 Z ?_);exact eX _ (oi h1).symm (gE Z Z)
 exact Ch
def gP (n:Nat)(Mr:Bytes)(N':Int):Option Bool :=
 (
   if 1500 < (Mr.length:Int) then
    some true
   else
    if N' < 0 then
     some true
    else
     some (decide (1000000 < N'))
  ).bind λ t3 =>
 if t3=true then
  (jD n).bind λ r5 =>
  some r5
 else
  (ff n Mr N').bind λ r7 =>
  (ed n Mr N').bind λ r9 =>
  (
    if r7.2.Ar=r9.2.Ar/\r7.2.fAt=r9.2.fAt/\r7.2.AI=r9.2.AI then
     (kT n r7.1 r9.1).bind λ Tv =>
     if Tv=true then
      (jD n).bind λ S6 =>
      some S6
     else
      some false
    else
     some false
   ).bind λ t17 =>
  some t17
instance xo (n:Nat) (Mr:Bytes) (N':Int):∀ (r:Bool),HP (gP n Mr N'=some r) Tryz.prog 5 [eS Mr,eI N'] (.p (eB r)):=by
 refine hP good Tryz.func5 Z Z λ r h0 _ w0=>?_;unfold gP at h0;refine nx 6 Z (bd h0 λ o20 h1 h0=>?_);refine kN o20 (λ v21=>⟨[(0,.p (eS Mr)),(1,.p (eI N')),(19,.p (eB v21))],[]⟩) ?_ ?_
 ·refine nx 1 Z (fB [19] h0 Z (λ c4 h0=>?_) λ c4 h0=>?_)
  ·refine nx 3 Z (bd h0 λ r5 e6 h0=>?_);refine oK (HP.c e6) Z trivial Tryz.call11 Z (nx 3 Z ?_);exact mQ (oi h0) Z (sr)
  refine nx 6 Z (K0 λ r7 h0=>nx 12 Z ?_);refine bd h0 λ r9 Xb h0=>oK (HP.c Xb) Z ⟨sr,sr,trivial⟩ Tryz.call20 Z (nx 9 Z ?_);refine bd h0 λ o22 h1 h0=>kN o22 (λ ZU=>⟨[(4,.p (eB ZU))],[]⟩) ?_ ?_
  ·exact nx 2 Z (mQ (oi h0) Z (sr))
  refine nx 3 Z (mO Z (Pz (r7.2.Ar=r9.2.Ar/\r7.2.fAt=r9.2.fAt/\r7.2.AI=r9.2.AI) Z Z Z Z Z Z Z (by kernel_rfl) Z Z (.inl ⟨Z,Z⟩) ?_));refine nx 1 Z (fD [35,36] h1 Z (λ Xd h1=>?_) λ Xd h1=>?_)
  ·refine nx 2 Z (K1 λ Tv h1=>nx 2 Z ?_);refine fB [39,40,41] h1 Z (λ Xc h1=>?_) λ Xc h1=>?_
   ·refine bd h1 λ S6 Yy h1=>oK (HP.c Yy) Z trivial Tryz.call11 Z (nx 3 Z ?_);exact eX _ (oi h1).symm (gE Z Z)
   exact AO
  exact nx 9 Z gJ
 refine nx 2 Z (oLs Z ?_);refine nx 2 Z (fD [11,12] h1 Z (λ c1 h1=>?_) λ c1 h1=>?_)
 ·exact nx 8 Z gJ
 refine nx 4 Z (fD [14,15,16] h1 Z (λ c2 h1=>?_) λ c2 h1=>?_)
 ·exact AO
 exact AO
end Go.Ab.R06
end
section
namespace Go.Ab.R06
open Go.Proofs Go.Ab Go.Ab.RB
section
variable {p:Prop}
theorem HX (h:p:=by
 exact ae O (ag O (ag O (aj _ (ih _ (C0 O)) (af (by decide) (ag (bv O O) (ihk (i+1) O))))))):p:=h
theorem I1 (h:p:=by exact ag (bv O O) (ihk (i+1) O)):p:=h
end
theorem yI {v:am}(hb:VSz v):Ev2 (λ n _=>fS n v v) (·=true):=by
 induction hb with
 | @mk x hv hs ih =>
  have l1:∀ k i:Nat,i+k=x.C'.length->Ev2 (λ _ m=>ep x x m i) (·=.inl ()):=by
   intro k
   induction k with
   | zero=>intro i hi; exact aw (by simp only [ep]; exact af O (aa rfl))
   | succ k ihk =>
    intro i hi;refine aw ?_;simp only [ep];exact ae O (ag O (ag O (ae (by trivial) I1)))
  have l2:∀ k i:Nat,i+k=x.Df.length->Ev2 (λ n m=>d6 (fS n) x x m i) (·=.inl ()):=by
   intro k
   induction k with
   | zero=>intro i hi; exact aw (by simp only [d6]; exact af O (aa rfl))
   | succ k ihk =>
    intro i hi;refine aw ?_;simp only [d6];exact HX
  refine aP ?_;simp only [fS];refine aj false (ae (by trivial) (ae (by trivial) (ae (by trivial) (ae (by trivial) (aa G))))) (af (by decide) ?_);exact ez () (aO (f:=λ n m=>ep x x m 0) (l1 x.C'.length 0 O)) (ez () (aO (f:=λ n m=>d6 (fS n) x x m 0) (l2 x.Df.length 0 O)) (aa Z))
theorem alike_refl {e:ad}(hb:Sz e):Ev2 (λ n _=>gb n e e) (·=true):=by
 induction hb with
 | @mk x hn hk hw hc hs ih =>
  have l1:∀ k i:Nat,i+k=x.By.length->Ev2 (λ n m=>ef (gb n) x x m i) (·=.inl ()):=by
   intro k
   induction k with
   | zero=>intro i hi; exact aw (by simp only [ef]; exact af O (aa rfl))
   | succ k ihk =>
    intro i hi;refine aw ?_;simp only [ef];exact HX
  refine aP ?_;simp only [gb];refine aj false (ae (by trivial) (ae (by trivial) (ae (by trivial) (ae (by trivial) (aj _ (yI hw) (af (by decide) (aa G))))))) (af (by decide) ?_);exact ez () (aO (f:=λ n m=>ef (gb n) x x m 0) (l1 x.By.length 0 O)) (aa Z)
theorem xF {e:ad}(hb:Sz e):Ev2 (λ n _=>d5 n e e) (·=true):=by
 induction hb with
 | @mk x hn hk hw hc hs ih =>
  have l1:∀ k i:Nat,i+k=x.By.length->Ev2 (λ n m=>dd (d5 n) x x m i) (·=.inl ()):=by
   intro k
   induction k with
   | zero=>intro i hi; exact aw (by simp only [dd]; exact aj false (af O (aa rfl)) (af (by decide) (aa rfl)))
   | succ k ihk =>
    intro i hi;refine aw ?_;simp only [dd];exact aj true uT (ae (by trivial) (ag O (ag O (aj _ (ih _ u3) (af (by decide) I1)))))
  refine aP ?_;simp only [d5];exact ae (by trivial) (ez () (aO (f:=λ n m=>dd (d5 n) x x m 0) (l1 x.By.length 0 O)) (aa Z))
theorem A7 {e:ad}(hb:Sz e):Ev2 (λ n _=>kT n e e) (·=true):=by
 simp only [kT];exact aj true (aj _ (alike_refl hb) (ae (by trivial) (aj _ (xF hb) (aa rfl)))) (aa rfl)
theorem R4:Sz e0:=.mk (by decide) (by decide) BX (by decide) (λ _ h=>by cases h)
theorem F0 {q:PE⊕ad}(h:∀ x,q=.inr x->Sz x):Sz (sC q).1:=by
 cases q with
 | inl e=>exact R4
 | inr x=>exact h x Z
theorem Mq {q:PE⊕ad}(h:∀ x,q=.inr x->Sz x):∀ x,qE q=.inr x->Sz x:=by
 cases q with
 | inl e=>intro x hx; cases hx
 | inr y =>
  intro x hx;unfold qE at hx;dsimp only at hx;split at hx
  ·cases hx; exact h _ rfl
  ·cases hx
theorem Np {s:Bytes}{f:Nat}{q:PE⊕ad}(hs:(s.length:Int)<=1000000)(hq:gv f s 0=some q):Ev2 (λ n _=>ik n s) (·=sC (qE q)):=by
 have hz:=(fct f).w s 0 O O  q hq;have h1:=(fol f).w s 0 q O O  hq;simp only [ik];refine ah _ h1 λ r hr=>?_
 cases q with
 | inl e =>
  obtain ⟨he,hr⟩:=hr;refine aj (sC (qE (.inl e))) ?_ (aa rfl);simp only [iP];rw [hr];exact af he (aa rfl)
 | inr x =>
  replace hr:r=(x,dOk):=hr;subst hr;exact Bn
theorem EV (s:Bytes)(a:Int)(hs:(s.length:Int)<=1500)(h0:0<=a)(h1:a<=1000000):∃ r:ad×ao,Sz r.1/\Ev2 (λ n _=>ff n s a) (·=r)/\Ev2 (λ n _=>ed n s a) (·=r):=by
 obtain ⟨f,q,hq⟩:=IH s a O O;have hz:=(fct f).tm s a O O  q hq;exact ⟨sC q,F0 λ x hx=>by subst hx; exact hz,(fol f).tm s a q O O  hq,((rol f).1 f (bx _)).tm s a q O O  hq⟩
end Go.Ab.R06
end
section
namespace Go.Ab.R06
open Go.Proofs Go.Ab Go.Ab.RB
section
variable {p:Prop}
theorem A8 (h:p:=by exact NN (by decide) (by decide +kernel)):p:=h
theorem my (h:p:=by decide +kernel):p:=h
end
theorem EZ {e:ad}(hb:Sz e):sA e<=1000000->Ev2 (λ n _=>gk n e) (·=(sA e:Int)):=by
 induction hb with
 | @mk x zn zk zw zc zs ih =>
  intro h0;have hl:=zc;rw [vK] at h0;refine aP ?_;simp only [gk]
  have loop:∀ (k i:Nat) (c:Int),i+k=x.By.length->0<=c->c+(pA (x.By.drop i):Int)<=2000000->pA (x.By.drop i)<=1000000->Ev2 (λ n m=>d4 (gk n) x m c (i:Int)) (·=c+(pA (x.By.drop i):Int)):=by
   intro k
   induction k with
   | zero =>
    intro i c hi h6 h7 h8;refine aw ?_;simp only [d4];refine af O (aa ?_);rw [List.drop_eq_nil_of_le O]; simp [pA]
   | succ k ihk =>
    intro i c hi h6 h7 h8;refine aw ?_;simp only [d4];rw [uX _ O] at h7 h8 ⊢;simp only [pA] at h7 h8 ⊢;refine ae O (ag O ?_);refine aj _ (ih _ u3 O) ?_;refine ag aB (ag aB ?_);refine aQ (qL (P:=λ j=>Ev2 (λ n m=>d4 (gk n) x m (c+(sA (lat x.By (i:Int)):Int)) j) _) (ihk (i+1) _ O O O O)) (λ s hs=>?_);rw [hs]; omega
  refine aj _ (aO (f:=λ n m=>d4 (gk n) x m 1 0) (loop x.By.length 0 1 O O  (by simp only [List.drop_zero]; omega) (by simp only [List.drop_zero]; omega))) (aa ?_);rw [vK]; simp
theorem got {α:Type}{x:Option α}(d:α)(h:x.isSome=true):x=some (x.getD d):=by
 cases x with
 | none=>cases h
 | some y=>rfl
def exS (s:Bytes):PE⊕ad:=(gv 60 s 0).getD (.inl (0,0))
theorem NN {s:Bytes}(hs:(s.length:Int)<=1000000)(h:(gv 60 s 0).isSome=true):Ev2 (λ n _=>ik n s) (·=sC (qE (exS s))):=Np hs (got _ h)
theorem wm:Ev2 (λ n _=>jD n) (·=true):=by
 have e1:(gv 60 [49,32,43,32,50,32,42,32,51] 0).isSome=true:=by decide +kernel
 have z1:Sz (sC (qE (exS [49,32,43,32,50,32,42,32,51]))).1:=F0 (Mq λ x hx=>by
  have:=(fct 60).w [49,32,43,32,50,32,42,32,51] 0 (by decide) (by decide) _ (got (.inl (0,0)) e1);rw [show (gv 60 [49,32,43,32,50,32,42,32,51] 0).getD (.inl (0,0))=.inr x from hx] at this
  exact this)
 simp only [jD];refine aj _ (NN (by decide) e1) (aj _ A8 (aj _ A8 (aj _ A8 ?_)));refine aj false (ax my rfl) (af (by decide) (aj true ?_ (aa rfl)));refine ae my (ag my (ae my (ae my (ae my (ae my (ae my (ae my (aj _ (EZ z1 my) (aa my)))))))))
end Go.Ab.R06
end
