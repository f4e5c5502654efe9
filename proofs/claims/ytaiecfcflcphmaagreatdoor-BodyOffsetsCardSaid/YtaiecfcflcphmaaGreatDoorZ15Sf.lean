/- Texts of the proof, one behind the other. No statement is proved here. -/
import Derived.Test.YtaiecfcflcphmaaGreatDoorZ15Sa
import Derived.Test.YtaiecfcflcphmaaGreatDoorZ15Sb
import Derived.Test.YtaiecfcflcphmaaGreatDoorZ15Sc
import Derived.Test.YtaiecfcflcphmaaGreatDoorZ15Sd
import Derived.Test.YtaiecfcflcphmaaGreatDoorZ15Se
set_option maxHeartbeats 4000000
section
namespace Go.Ab.R06
open Go.Ab Go.Ab.RB Go.Lib
variable {p:Prop}
theorem Hw (h:p:=by
 refine ae (bZ (wj hL NK he h3 r1 _ _ _ _ _ _ _ _ _ _) ?_);rintro _ ⟨z,rfl,j,l',hz1,hz2⟩
 exact ⟨z,Z,he,j,l',hz1,hz2⟩):p:=h
theorem tP (h:p:=by
 refine aR (λ hk=>?_) (λ hk=>ae ⟨_,_,j,l',rfl,by simp,h3⟩);refine am _ (Cd hL NK _ he h3) ?_;rintro _ ⟨j,l',rfl,h3⟩;refine am _ (GP hL NK he h3) ?_;rintro ⟨z1,z2⟩ ⟨j,l',h2,h3⟩
 cases h2
 refine aE (by simp only [cl,n7,la]; omega) ?_
 exact ae ⟨_,_,j,l',Z,by simp,h3⟩):p:=h
theorem Jj (h:p:=by
 cases h2
 refine aE (by simp only [cl,n7,la]; omega) ?_
 exact ae ⟨he,_,_,j,l',Z,by simp,h3⟩):p:=h
theorem qY (h:p:=by
 refine am (λ t=>∃ (ks:List ag) (j:Nat) (l':List ac),t=(ks,L,(j:Int),NJ+1,base,e.1,e.2,[])/\Pos L base j (NJ+1) true l') ?_ ?_
 ·refine am _ (GN hL NK _ he h3) ?_;rintro _ ⟨j,rfl,h3⟩;exact ax rg (ae ⟨_,j,_,rfl,h3⟩)
 rintro _ ⟨ks,j,l',rfl,h3⟩;refine am _ (wv hL NK _ he hn hb h3) ?_;rintro _ ⟨j,l',rfl,h3⟩
 exact ae ⟨he,j,l',Z,h3⟩):p:=h
theorem ze (h:p:=by
 cases h2
 refine aE (by simp only [cl,n7,la]; omega) ?_;refine am _ (tN hL NK _ he h3) ?_;rintro _ ⟨j,rfl,h3⟩
 exact ay Z (ae ⟨he,j,l',.inl ⟨Z,h3⟩⟩)):p:=h
theorem my (h:p:=by
 exact ae ⟨he,j,l',Z,h3⟩):p:=h
theorem Bs (h:p:=by
 rintro _ ⟨j,rfl,h3,h4⟩
 cases hq
 exact ae ⟨Z,j,Z,h3⟩):p:=h
theorem B6 (h:p:=by
 refine am _ (ky hL NK h3 O) ?_;rintro ⟨z1,z2⟩ ⟨h1,j,h2,h3,h4,h5⟩;replace h1:z1=_:=h1; subst h1; cases h2
 exact aC _ (aT Z Z) (ae ⟨Z,j,Z,h3⟩)):p:=h
theorem CH (h:p:=by
 rintro ⟨ys,z⟩ ⟨j,l'',hy,hz,h3,hxx⟩
 cases hy; cases hz
 refine am _ (sB hL NK _ hn hb h3 hxx) ?_;rintro _ ⟨j,rfl,h3,h4⟩
 cases hq
 exact ae ⟨Z,j,Z,h3⟩):p:=h
theorem BP (h:p:=by
 cases hq
 exact ae ⟨Z,j,Z,h3⟩):p:=h
theorem F8 (h:p:=by
 refine ay rfl ?_;refine am _ (uJ hL NK _ h) ?_;rintro ⟨z1,z2⟩ ⟨h1,j,h2,h3⟩;replace h1:z1=_:=h1; subst h1; cases h2
 exact ae ⟨j,Z,h3⟩):p:=h
theorem Jd (h:p:=by
 rw [if_pos hs] at hq; cases hq;refine ax (by simp [hs]) (ae ⟨j,l,by rw [List.append_nil],h3,?_⟩)
 unfold iY; rw [if_pos hs]; rfl):p:=h
theorem sU (h:p:=by
 refine am _ (wv hL NK _ he hn hb h3) ?_;rintro _ ⟨j,l',rfl,h3⟩
 exact ae ⟨he,j,l',Z,h3⟩):p:=h
theorem GJ (h:p:=by
 rintro ⟨ks,z⟩ hz;rcases q with e|⟨ks',l'⟩
 ·obtain ⟨he,j,l',⟨hz,h3⟩|⟨hz,h3,h4⟩⟩:=hz
  ·cases hz; exact ae ⟨he,j,l',.inl ⟨rfl,h3⟩⟩
  ·cases hz; exact ae ⟨he,j,l',.inr ⟨rfl,h3,h4⟩⟩
 ·obtain ⟨j,l'',hz,h3,h4⟩:=hz
  cases hz; exact ae ⟨j,l'',rfl,rfl,h3,h4⟩):p:=h
theorem kR (h:p:=by exact GP hL NK he h3):p:=h
theorem iJ (h:p:=by simp only [cl,n7,la]; omega):p:=h
theorem nw (h:p:=by exact uJ hL NK _ h3):p:=h
theorem yW (h:p:=by exact ky hL NK h3 (sg6 hc)):p:=h
theorem sA (h:p:=by exact Cd hL NK _ he h3):p:=h
theorem yw (h:p:=by exact ky hL NK h3 (sg6 hs)):p:=h
theorem pC (h:p:=by exact sB hL NK _ hn hb h3 hx):p:=h
theorem yx (h:p:=by simp only [la,cl,n7]; omega):p:=h
theorem Bm (h:p:=by exact sB hL NK _ hn hb h3 hxx):p:=h
theorem yA (h:p:=by exact JH ih _ _ gl L base hL NK j (NJ+1) _ h3 hx):p:=h
theorem zd (h:p:=by exact oT hL NK _ h3 hx):p:=h
theorem sB {L:List ac}{base:Int}(hL:Gd (L.map (mvT base)))(NK:L.length<=1000000000){i:Nat}{NJ:Int}{b:Bool}{l:List ac}(s:Bk){q:PE⊕(Unit×List ac)}(h0:0<=NJ)(hb:b=decide (0<NJ))(h:Pos L base i (NJ+1) true l)(hq:iY true s l=some q) :
  Ev2 (λ n _=>bW n (.mk L (i:Int) (NJ+1) base dOk) s) (Kk L base NJ b q):=by subst hb; exact HM hL NK s h0 h hq
theorem wv {L:List ac}{base:Int}(hL:Gd (L.map (mvT base)))(NK:L.length<=1000000000){i:Nat}{NJ:Int}{b:Bool}{l:List ac}{e:PE}(s:Bk)(he:e.1≠0)(h0:0<=NJ)(hb:b=decide (0<NJ))(h:Pos L base i (NJ+1) true l) :
  Ev2 (λ n _=>bW n (.mk L (i:Int) (NJ+1) base (eD e)) s) (λ z=>∃ (j:Nat) (l':List ac),z=.mk L (j:Int) NJ base (eD e)/\Pos L base j NJ b l'):=by subst hb; exact Lj hL NK s he h0 h
theorem sg6 {b:Bool}{l:List ac}{s:Bk}(h:sgB b l s=true):(hd b l).Ar≠6:=by have:=(qj.1 h).1; omega
theorem wd6 {b:Bool}{l:List ac}{s:Bk}(h:wdB b l s=true):(hd b l).Ar≠6:=by have:=(yh.1 h).1; omega
theorem Lu (e:ag):ag.mk e.Ar e.fOp e.AT e.I' (aw.mk e.B'.Ar e.B'.It e.B'.IS e.B'.H' e.B'.E') e.If e.fAt=e:=by
 obtain ⟨k,op,nm,key,⟨vk,vn,vs,vi,vks⟩,kids,at'⟩:=e; rfl
def Fl {α:Type}(F:Nat->af->Option (α×af))(b:Bool)(l:List ac)(x:PR α):Prop :=∀ (L:List ac) (base:Int),Gd (L.map (mvT base))->L.length<=1000000000->∀ (i:Nat) (NJ:Int) (q:PE⊕(α×List ac)),Pos L base i NJ b l->x=some q->Ev2 (λ n _=>F n (.mk L (i:Int) NJ base dOk)) (Out L base NJ b q)
def FlC {α:Type}(F:Nat->af->Option (α×af))(l:List ac)(x:PR α):Prop :=∀ (L:List ac) (base:Int),Gd (L.map (mvT base))->L.length<=1000000000->∀ (i:Nat) (NJ:Int) (b:Bool) (q:PE⊕(α×List ac)),0<=NJ->b=decide (0<NJ)->Pos L base i (NJ+1) true l->x=some q->Ev2 (λ n _=>F n (.mk L (i:Int) (NJ+1) base dOk)) (Out L base NJ b q)
def Kq (L:List ac)(base NJ:Int)(en:Bk)(out:List ag)(q:PE⊕(List ag×List ac))(r:List ag×List ac×Int×Int×Int×Int×Int×Bk):Prop:=match q with
 | .inl e=>e.1≠0/\∃ (j:Nat) (l':List ac),((r.2=(L,(j:Int),NJ,base,e.1,e.2,[])/\Pos L base j NJ true l')\/(r.2=(L,(j:Int),NJ,base,0,0,[])/\Pos L base j NJ true l'/\iY true en l'=some (.inl e)))
 | .inr (ks,l')=>∃ (j:Nat) (l'':List ac),r=(out++ks,L,(j:Int),NJ,base,0,0,[])/\Pos L base j NJ true l''/\iY true en l''=some (.inr ((),l'))
def RdO (s:Bk)(a:Int)(q:PE⊕(Int×Int×Bk×List ag×Bool))(r:(Bk×Int×Int×Int×Bk×(List ag)×Bool)⊕(au×aA)):Prop:=match q with
 | .inl e=>e.1≠0/\∃ t,r=.inr (eD e,t)
 | .inr (frm,pos,text,parts,OI)=>∃ (i fr:Nat),frm=a+(fr:Int)/\pos=a+(i:Int)/\fr<=i/\i<=s.length/\parts.length<=2*i/\r=.inl (s,a,(i:Int),(fr:Int),text,parts,OI)
def WOut (q:PE⊕ag)(r:ag×au):Prop:=match q with
 | .inl e=>e.1≠0/\r.2=eD e
 | .inr x=>r=(x,dOk)
structure Fol (f:Nat):Prop where
 e:∀ b l,Fl aO b l (iO f b l)
 b:∀ (Oa:Nat) (li:Int) b l,li=Oa->Oa<=6->Fl (λ n p=>br n p li) b l (rj f Oa b l)
 bl:∀ (Oa:Nat) (li:Int) b l (x:ag) (r5:ag×af),li=Oa->Oa<=5->x.fAt=r5.1.fAt->∀ (L:List ac) (base:Int),Gd (L.map (mvT base))->L.length<=1000000000->∀ (i:Nat) (NJ:Int) (q:PE⊕(ag×List ac)),Pos L base i NJ b l->tJ f Oa b x l=some q ->
  Ev2 (λ n m=>cn n (br n) li r5 m x.Ar x.fOp x.AT x.I' x.B'.Ar x.B'.It x.B'.IS x.B'.H' x.B'.E' x.If L (i:Int) NJ base 0 0 []) (λ s=>∃ z,s=.inr z/\Out L base NJ b q z)
 u:∀ b l,Fl dz b l (unS f b l)
 pl:∀ b l (x:ag) (r1:ag×af),x.fAt=r1.1.fAt->∀ (L:List ac) (base:Int),Gd (L.map (mvT base))->L.length<=1000000000->∀ (i:Nat) (NJ:Int) (q:PE⊕(ag×List ac)),Pos L base i NJ b l->nu f b x l=some q ->
  Ev2 (λ n m=>cg n (aO n) r1 m x.Ar x.fOp x.AT x.I' x.B'.Ar x.B'.It x.B'.IS x.B'.H' x.B'.E' x.If L (i:Int) NJ base 0 0 []) (λ s=>∃ z,s=.inr z/\Out L base NJ b q z)
 p:∀ b l,Fl dr b l (p6 f b l)
 s:∀ b l,(hd b l).Ar=3->Fl fj b l (vB f b l)
 n:∀ b l,(hd b l).Ar=1->Fl ge b l (qQ f b l)
 i:∀ (en:Bk) (l:List ac) (out:List ag),Gd l->out.length+l.length<=1000000000->∀ (L:List ac) (base:Int),Gd (L.map (mvT base))->L.length<=1000000000->∀ (i:Nat) (NJ:Int) (q:PE⊕(List ag×List ac)),Pos L base i NJ true l->kl f en l=some q ->
  Ev2 (λ n m=>dl n (aO n) en m out L (i:Int) NJ base 0 0 []) (Kq L base NJ en out q)
 t:∀ (l:List ac) (out:List ag),Gl l->out.length+2*l.length<=3000000000->∀ (L:List ac) (base:Int),Gd (L.map (mvT base))->L.length<=1000000000->∀ (i:Nat) (NJ:Int) (q:PE⊕(List ag×List ac)),Pos L base i NJ true l->tS f l=some q ->
  Ev2 (λ n m=>cK n (aO n) (dN n) m out L (i:Int) NJ base 0 0 []) (Kq L base NJ [125] out q)
 k:∀ l,Fl dN true l (qJ f l)
 lo:∀ (a k:Int) l,wdB true l [102,111,114]=true->k=12\/k=13->FlC (λ n p=>fp n p a k) l (oX f a k (tl true l))
 tm:∀ (s:Bk) (a:Int) q,0<=a->a+(s.length:Int)<=1000000000->nr f s a=some q->Ev2 (λ n _=>iT n s a) (·=Mq q)
 r:∀ (s:Bk) (a:Int) (i fr:Nat) (text:Bk) (parts:List ag) (OI:Bool) q,0<=a->a+(s.length:Int)<=1000000000->i<=s.length->fr<=i->text.length<=4096->parts.length<=2*i->j9 f (a+(fr:Int)) (a+(i:Int)) text parts OI (s.drop i)=some q ->
  Ev2 (λ n m=>cA n (a8 n) m s a (i:Int) (fr:Int) text parts OI) (RdO s a q)
 w:∀ (s:Bk) (a:Int) q,0<=a->a+(s.length:Int)<=1000000000->kM f s a=some q->Ev2 (λ n _=>jS n s a) (WOut q)
theorem Ni {f:Nat}(ih:Fol f):∀ b l,Fl aO b l (iO (f+1) b l):=by
 intro b l L base hL NK i NJ q h hq;rw [iO] at hq;refine cz ?_;simp only [aO];rcases b9 hq with ⟨e,hx,rfl⟩|⟨c,l1,hx,hq⟩
 ·refine am _ (ih.b 0 0 b l rfl (by decide) L base hL NK i NJ _ h hx) ?_;rintro ⟨z1,z2⟩ ⟨he,j,l',h2,h3⟩
  cases h2
  refine am _ vd ?_;rintro _ ⟨j,rfl,h3⟩;exact ay rfl (ae ⟨he,j,l',rfl,h3⟩)
 ·refine am _ (ih.b 0 0 b l rfl (by decide) L base hL NK i NJ _ h hx) ?_;rintro ⟨z1,z2⟩ ⟨h1,j,h2,h3⟩;replace h1:z1=_:=h1; subst h1; cases h2;refine am _ nw ?_;rintro ⟨z1,z2⟩ ⟨h1,j,h2,h3⟩;replace h1:z1=_:=h1; subst h1; cases h2;by_cases hs:sgB b l1 [63]=true
  ·rw [if_pos hs] at hq;refine ax (by simp [hs]) ?_;refine am _ yw ?_;rintro ⟨z1,z2⟩ ⟨h1,j,h2,h3,h4,h5⟩;replace h1:z1=_:=h1; subst h1; cases h2;rcases b9 hq with ⟨e,hx,rfl⟩|⟨a,l2,hx,hq⟩
   ·refine am _ (ih.e b _ L base hL NK j NJ _ h3 hx) ?_;rintro ⟨z1,z2⟩ ⟨he,j,l',h2,h3⟩
    cases h2
    refine am _ sA ?_;rintro _ ⟨j,l',rfl,h3⟩;refine am _ kR ?_;rintro ⟨z1,z2⟩ ⟨j,l',h2,h3⟩
    cases h2
    exact my
   ·refine am _ (ih.e b _ L base hL NK j NJ _ h3 hx) ?_;rintro ⟨z1,z2⟩ ⟨h1,j,h2,h3⟩;replace h1:z1=_:=h1; subst h1; cases h2;rcases b9 hq with ⟨e,hx,rfl⟩|⟨u,l3,hx,hq⟩
    ·refine am _ zd ?_;rintro _ ⟨he,j,l',rfl,h3⟩;refine am _ kR ?_;rintro ⟨z1,z2⟩ ⟨j,l',h2,h3⟩
     cases h2
     exact my
    ·refine am _ zd ?_;rintro _ ⟨j,rfl,h3,h4⟩;rcases b9 hq with ⟨e,hx,rfl⟩|⟨d,l4,hx,hq⟩
     ·refine am _ (ih.e b _ L base hL NK j NJ _ h3 hx) ?_;rintro ⟨z1,z2⟩ ⟨he,j,l',h2,h3⟩
      cases h2
      exact my
     ·refine am _ (ih.e b _ L base hL NK j NJ _ h3 hx) ?_;rintro ⟨z1,z2⟩ ⟨h1,j,h2,h3⟩;replace h1:z1=_:=h1; subst h1; cases h2;exact BP
  ·rw [if_neg hs] at hq; cases hq;exact ay (by simpa using hs) tI
theorem Nh {f:Nat}(ih:Fol f):∀ (Oa:Nat) (li:Int) b l,li=Oa->Oa<=6->Fl (λ n p=>br n p li) b l (rj (f+1) Oa b l):=by
 intro Oa li b l UQ h6 L base hL NK i NJ q h hq;rw [rj] at hq;refine cz ?_;simp only [br];by_cases hv:5<Oa
 ·rw [if_pos hv] at hq;refine ay O ?_;refine am _ (ih.u b l L base hL NK i NJ _ h hq) ?_;exact ol
 ·rw [if_neg hv] at hq;refine ax O (aE bO ?_);rcases b9 hq with ⟨e,hx,rfl⟩|⟨c,l1,hx,hq⟩
  ·refine am _ (ih.b (Oa+1) (li+1) b l O O  L base hL NK i NJ _ h hx) ?_;rintro ⟨z1,z2⟩ ⟨he,j,l',h2,h3⟩
   cases h2
   subst UQ;refine dH (bZ F4 ?_);rintro _ ⟨z,rfl,j,l',hz1,hz2⟩;exact ⟨he,j,l',hz1,hz2⟩
  ·refine am _ (ih.b (Oa+1) (li+1) b l O O  L base hL NK i NJ _ h hx) ?_;rintro ⟨z1,z2⟩ ⟨h1,j,h2,h3⟩;replace h1:z1=_:=h1; subst h1; cases h2;refine dH (bZ (cp (ih.bl Oa li b _ _ (_,.mk L (j:Int) NJ base dOk) UQ O rfl L base hL NK j NJ q h3 hq)) ?_);exact x4
theorem Mj {f:Nat}(ih:Fol f):∀ (Oa:Nat) (li:Int) b l (x:ag) (r5:ag×af),li=Oa->Oa<=5->x.fAt=r5.1.fAt->∀ (L:List ac) (base:Int),Gd (L.map (mvT base))->L.length<=1000000000->∀ (i:Nat) (NJ:Int) (q:PE⊕(ag×List ac)),Pos L base i NJ b l->tJ (f+1) Oa b x l=some q ->
  Ev2 (λ n m=>cn n (br n) li r5 m x.Ar x.fOp x.AT x.I' x.B'.Ar x.B'.It x.B'.IS x.B'.H' x.B'.E' x.If L (i:Int) NJ base 0 0 []) (λ s=>∃ z,s=.inr z/\Out L base NJ b q z):=by
 intro Oa li b l x r5 UQ hl5 OA L base hL NK i NJ q h hq;rw [tJ] at hq;refine bc ?_;simp only [cn];subst UQ;refine aC _ (aT (AK hl5) rfl) ?_;have ha:=GD hL NK ((wW Oa).map (·.1)) Ee h;rw [Gi] at ha;have eta:ag.mk x.Ar x.fOp x.AT x.I' (aw.mk x.B'.Ar x.B'.It x.B'.IS x.B'.H' x.B'.E') x.If r5.1.fAt=x:=by rw [<- OA]; exact Lu x
 rw [eta]
 cases hp:CE b l Oa with
 | none=>
  rw [hp] at ha hq
  cases hq
  refine am _ ha ?_;rintro _ ⟨j,rfl,h3⟩;exact ay rfl (ae ⟨_,rfl,rfl,j,rfl,h3⟩)
 | some p=>
  rw [hp] at ha hq;obtain ⟨hm,hs⟩:=KS hp;refine am _ ha ?_;rintro _ ⟨j,rfl,h3⟩;refine ax rg ?_;refine am _ yw ?_;rintro ⟨z1,z2⟩ ⟨h1,j,h2,h3,h4,h5⟩;replace h1:z1=_:=h1; subst h1; cases h2;refine aE bO ?_;have hq:pb (rj f (Oa+1) b (tl b l)) (λ y l=>tJ f Oa b (ag.mk 7 p.2 [] [] v0 [x,y] x.fAt) l)=some q:=hq;rcases b9 hq with ⟨e,hx,rfl⟩|⟨y,l1,hx,hq⟩
  ·refine am _ (ih.b (Oa+1) ((Oa:Int)+1) b _ O O  L base hL NK j NJ _ h3 hx) ?_;rintro ⟨z1,z2⟩ ⟨he,j,l',h2,h3⟩
   cases h2
   refine aC _ (LF hl5 hm) ?_;refine bZ (xF hL NK he h3 hl5 r5 _ _ _ _ _ _ _ _ _ _) ?_;rintro _ ⟨z,rfl,j,l',hz1,hz2⟩;exact ⟨z,rfl,he,j,l',hz1,hz2⟩
  ·refine am _ (ih.b (Oa+1) ((Oa:Int)+1) b _ O O  L base hL NK j NJ _ h3 hx) ?_;rintro ⟨z1,z2⟩ ⟨h1,j,h2,h3⟩;replace h1:z1=_:=h1; subst h1; cases h2;refine aC _ (LF hl5 hm) ?_;exact ih.bl Oa Oa b _ (ag.mk 7 p.2 [] [] v0 [x,_] x.fAt) r5 rfl hl5 OA L base hL NK j NJ q h3 hq
theorem FA {f:Nat}(ih:Fol f):∀ b l,Fl d6 b l (pb (p6 f b l) λ e l=>nu f b e l):=by
 intro b l L base hL NK i NJ q h hq;refine cz ?_;simp only [d6];rcases b9 hq with ⟨e,hx,rfl⟩|⟨c,l1,hx,hq⟩
 ·refine am _ (ih.p b l L base hL NK i NJ _ h hx) ?_;rintro ⟨z1,z2⟩ ⟨he,j,l',h2,h3⟩
  cases h2
  refine dH (bZ F2 ?_);rintro _ ⟨z,rfl,j,l',hz1,hz2⟩;exact ⟨he,j,l',hz1,hz2⟩
 ·refine am _ (ih.p b l L base hL NK i NJ _ h hx) ?_;rintro ⟨z1,z2⟩ ⟨h1,j,h2,h3⟩;replace h1:z1=_:=h1; subst h1; cases h2;refine dH (bZ (cp (ih.pl b _ _ (_,.mk L (j:Int) NJ base dOk) rfl L base hL NK j NJ q h3 hq)) ?_);exact x4
theorem Ng {f:Nat}(ih:Fol f):∀ b l,Fl dz b l (unS (f+1) b l):=by
 intro b l L base hL NK i NJ q h hq;rw [unS] at hq;refine cz ?_;simp only [dz];by_cases hs:sgB b l [33]=true
 ·rw [if_pos hs] at hq;refine am (λ t=>∃ j:Nat,t=(1,L,(j:Int),NJ,base,0,0,[])/\Pos L base j NJ b l) ?_ ?_
  ·refine am _ vF ?_;rintro ⟨z1,z2⟩ ⟨h1,j,h2,h3⟩;replace h1:z1=_:=h1; subst h1; cases h2;exact ay hs sM
  ·rintro _ ⟨j,rfl,h3⟩;refine ax (show ¬ (1:Int)=0 by decide) ?_;refine am _ yw ?_;rintro ⟨z1,z2⟩ ⟨h1,j,h2,h3,h4,h5⟩;replace h1:z1=_:=h1; subst h1; cases h2;rcases b9 hq with ⟨e,hx,rfl⟩|⟨c,l1,hx,hq⟩
   ·refine am _ (ih.u b _ L base hL NK j NJ _ h3 hx) ?_;rintro ⟨z1,z2⟩ ⟨he,j,l',h2,h3⟩
    cases h2
    exact my
   ·refine am _ (ih.u b _ L base hL NK j NJ _ h3 hx) ?_;rintro ⟨z1,z2⟩ ⟨h1,j,h2,h3⟩;replace h1:z1=_:=h1; subst h1; cases h2;exact BP
 rw [if_neg hs] at hq;by_cases hs2:sgB b l [45]=true
 ·rw [if_pos hs2] at hq;refine am (λ t=>∃ j:Nat,t=(2,L,(j:Int),NJ,base,0,0,[])/\Pos L base j NJ b l) ?_ ?_
  ·refine am _ vF ?_;rintro ⟨z1,z2⟩ ⟨h1,j,h2,h3⟩;replace h1:z1=_:=h1; subst h1; cases h2;refine ax hs ?_;refine am _ nw ?_;rintro ⟨z1,z2⟩ ⟨h1,j,h2,h3⟩;replace h1:z1=_:=h1; subst h1; cases h2;exact ay hs2 sM
  ·rintro _ ⟨j,rfl,h3⟩;refine ax (show ¬ (2:Int)=0 by decide) ?_;refine am _ (ky hL NK h3 (sg6 hs2)) ?_;rintro ⟨z1,z2⟩ ⟨h1,j,h2,h3,h4,h5⟩;replace h1:z1=_:=h1; subst h1; cases h2;rcases b9 hq with ⟨e,hx,rfl⟩|⟨c,l1,hx,hq⟩
   ·refine am _ (ih.u b _ L base hL NK j NJ _ h3 hx) ?_;rintro ⟨z1,z2⟩ ⟨he,j,l',h2,h3⟩
    cases h2
    exact my
   ·refine am _ (ih.u b _ L base hL NK j NJ _ h3 hx) ?_;rintro ⟨z1,z2⟩ ⟨h1,j,h2,h3⟩;replace h1:z1=_:=h1; subst h1; cases h2;exact BP
 rw [if_neg hs2] at hq;refine am (λ t=>∃ j:Nat,t=(0,L,(j:Int),NJ,base,0,0,[])/\Pos L base j NJ b l) ?_ ?_
 ·refine am _ vF ?_;rintro ⟨z1,z2⟩ ⟨h1,j,h2,h3⟩;replace h1:z1=_:=h1; subst h1; cases h2;refine ax hs ?_;refine am _ nw ?_;rintro ⟨z1,z2⟩ ⟨h1,j,h2,h3⟩;replace h1:z1=_:=h1; subst h1; cases h2;exact ax hs2 sM
 ·rintro _ ⟨j,rfl,h3⟩;refine ay rfl ?_;refine am _ (FA ih b l L base hL NK j NJ _ h3 hq) ?_;exact ol
theorem Mu {f:Nat}(ih:Fol f):∀ b l (x:ag) (r1:ag×af),x.fAt=r1.1.fAt->∀ (L:List ac) (base:Int),Gd (L.map (mvT base))->L.length<=1000000000->∀ (i:Nat) (NJ:Int) (q:PE⊕(ag×List ac)),Pos L base i NJ b l->nu (f+1) b x l=some q ->
  Ev2 (λ n m=>cg n (aO n) r1 m x.Ar x.fOp x.AT x.I' x.B'.Ar x.B'.It x.B'.IS x.B'.H' x.B'.E' x.If L (i:Int) NJ base 0 0 []) (λ s=>∃ z,s=.inr z/\Out L base NJ b q z):=by
 intro b l x r1 OA L base hL NK i NJ q h hq;have hn:=h.2.1;have hb:=h.2.2.2.1;rw [nu] at hq;refine bc ?_;simp only [cg];have eta:ag.mk x.Ar x.fOp x.AT x.I' (aw.mk x.B'.Ar x.B'.It x.B'.IS x.B'.H' x.B'.E') x.If r1.1.fAt=x:=by rw [<- OA]; exact Lu x
 rw [eta];refine dH ?_;refine am _ vF ?_;rintro ⟨z1,z2⟩ ⟨h1,j,h2,h3⟩;replace h1:z1=_:=h1; subst h1; cases h2;by_cases hs:sgB b l [46]=true
 ·rw [if_pos hs] at hq;refine ay hs ?_;refine am _ yw ?_;rintro ⟨z1,z2⟩ ⟨h1,j,h2,h3,h4,h5⟩;replace h1:z1=_:=h1; subst h1; cases h2;refine am _ (lW hL NK h3) ?_;rintro ⟨z1,z2⟩ ⟨h1,j,h2,h3,h4,h5⟩;replace h1:z1=_:=h1; subst h1; cases h2;by_cases hk:(hd b (tl b l)).Ar=1
  ·rw [if_pos hk] at hq;refine ay hk ?_;refine am _ tB ?_;rintro ⟨z1,z2⟩ ⟨h1,j,h2,h3,h4,h5⟩;replace h1:z1=_:=h1; subst h1; cases h2;exact ae (ih.pl b _ (ag.mk 4 0 (hd b (tl b l)).BY [] v0 [x] x.fAt) r1 OA L base hL NK j NJ q h3 hq)
  ·rw [if_neg hk] at hq; cases hq;refine ax hk (aC _ xS (ae ⟨_,rfl,(by decide:(2:Int)≠0),j,_,rfl,h3⟩))
 rw [if_neg hs] at hq;refine ax hs ?_;refine am _ nw ?_;rintro ⟨z1,z2⟩ ⟨h1,j,h2,h3⟩;replace h1:z1=_:=h1; subst h1; cases h2;by_cases hs2:sgB b l [91]=true
 ·rw [if_pos hs2] at hq;refine ay hs2 ?_;refine am _ (qh hL NK h3 (sg6 hs2)) ?_;rintro _ ⟨j,rfl,h3⟩;rcases b9 hq with ⟨e,hx,rfl⟩|⟨y,l1,hx,hq⟩
  ·refine am _ (ih.e true _ L base hL NK j (NJ+1) _ h3 hx) ?_;rintro ⟨z1,z2⟩ ⟨he,j,l',h2,h3⟩
   cases h2
   refine am _ (wv hL NK _ he hn hb h3) ?_;rintro _ ⟨j,l',rfl,h3⟩;exact Hw
  ·refine am _ (ih.e true _ L base hL NK j (NJ+1) _ h3 hx) ?_;rintro ⟨z1,z2⟩ ⟨h1,j,h2,h3⟩;replace h1:z1=_:=h1; subst h1; cases h2;rcases b9 hq with ⟨e,hx,rfl⟩|⟨u,l2,hx,hq⟩
   ·refine am _ pC ?_;rintro _ ⟨he,j,l',rfl,h3⟩;exact Hw
   ·refine am _ pC ?_;rintro _ ⟨j,rfl,h3,h4⟩;exact ae (ih.pl b _ (ag.mk 5 0 [] [] v0 [x,_] x.fAt) r1 OA L base hL NK j NJ q h3 hq)
 ·rw [if_neg hs2] at hq; cases hq;exact ax hs2 (ae ⟨_,rfl,rfl,j,rfl,h3⟩)
theorem Pos.gl {L:List ac}{base:Int}(hL:Gd (L.map (mvT base)))(NK:L.length<=1000000000){i:Nat}{NJ:Int}{b:Bool}{l:List ac}(h:Pos L base i NJ b l)(hk:(hd b l).Ar≠6):Gl (tl b l):=by
 refine ⟨Gj (h.gd hL) hk,?_⟩;have h1:=congrArg List.length (ub (h.gd hL));have h2:=congrArg List.length h.2.2.2.2;have h3:=BG b ((L.drop i).map (mvT base));rw [n6,ro] at h3;rw [cl] at h1;omega
theorem Dc {b:Bool}{s:Bk}{l:List ac}{e:PE}(h:iY b s l=some (.inl e)):e.1≠0:=by
 unfold iY at h;split at h
 ·cases h
 ·cases h; exact (show (2:Int)≠0 by decide)
def LP (L:List ac)(base NJ:Int)(en:Bk)(q:PE⊕(List ag×List ac))(r:List ag×af):Prop:=match q with
 | .inl e=>e.1≠0/\∃ (j:Nat) (l':List ac),(r.2=.mk L (j:Int) NJ base (eD e)/\Pos L base j NJ true l')\/(r.2=.mk L (j:Int) NJ base dOk/\Pos L base j NJ true l'/\iY true en l'=some (.inl e))
 | .inr (ks,l')=>∃ (j:Nat) (l'':List ac),r.1=ks/\r.2=.mk L (j:Int) NJ base dOk/\Pos L base j NJ true l''/\iY true en l''=some (.inr ((),l'))
theorem JH {f:Nat}(ih:Fol f):∀ (en:Bk) (l:List ac),Gl l->∀ (L:List ac) (base:Int),Gd (L.map (mvT base))->L.length<=1000000000->∀ (i:Nat) (NJ:Int) (q:PE⊕(List ag×List ac)),Pos L base i NJ true l->kl f en l=some q ->
  Ev2 (λ n _=>gb n (.mk L (i:Int) NJ base dOk) en) (LP L base NJ en q):=by
 intro en l gl L base hL NK i NJ q h hq;refine cz ?_;simp only [gb];refine am _ (cp (ih.i en l [] gl.1 (by have:=gl.2; simp only [n7]; omega) L base hL NK i NJ q h hq)) ?_;exact GJ
theorem D1 {f:Nat}(ih:Fol f):∀ (l:List ac),Gl l->∀ (L:List ac) (base:Int),Gd (L.map (mvT base))->L.length<=1000000000->∀ (i:Nat) (NJ:Int) (q:PE⊕(List ag×List ac)),Pos L base i NJ true l->tS f l=some q ->
  Ev2 (λ n _=>fQ n (.mk L (i:Int) NJ base dOk)) (LP L base NJ [125] q):=by
 intro l gl L base hL NK i NJ q h hq;refine cz ?_;simp only [fQ];refine am _ (cp (ih.t l [] gl (by have:=gl.2; simp only [n7]; omega) L base hL NK i NJ q h hq)) ?_;exact GJ
theorem Nv {f:Nat}(ih:Fol f):∀ b l,Fl dr b l (p6 (f+1) b l):=by
 intro b l L base hL NK i NJ q h hq;have hn:=h.2.1;have hb:=h.2.2.2.1;rw [p6] at hq;refine cz ?_;simp only [dr,bh,Option.bind_some];refine ax rg ?_;refine am _ qa ?_;rintro ⟨z1,z2⟩ ⟨h1,j,h2,h3,h4,h5⟩;replace h1:z1=_:=h1; subst h1; cases h2;have tk:=xc (h3.gd hL);have t1':=tk.1;have t2':=tk.2.1;by_cases k2:(hd b l).Ar=2
 ·rw [if_pos k2] at hq;refine ay k2 (aC _ (Ak _ (show (hd b l).BY.length<=1000000000 by omega)) ?_);by_cases hz:(AQ (hd b l).BY).2=0
  ·rw [if_pos hz] at hq; cases hq;refine ay hz ?_;exact B6
  ·rw [if_neg hz] at hq; cases hq;exact ax hz (aC _ xS (ae ⟨hz,j,l,rfl,h3⟩))
 rw [if_neg k2] at hq;refine ax k2 ?_;by_cases k3:(hd b l).Ar=3
 ·rw [if_pos k3] at hq;refine ay k3 (am _ (ih.s b l k3 L base hL NK j NJ q h3 hq) ?_);exact ol
 rw [if_neg k3] at hq;refine ax k3 ?_;by_cases k1:(hd b l).Ar=1
 ·rw [if_pos k1] at hq;refine ay k1 (am _ (ih.n b l k1 L base hL NK j NJ q h3 hq) ?_);exact ol
 rw [if_neg k1] at hq;refine ax k1 ?_;by_cases k4:(hd b l).Ar=4
 ·have sg:∀ s,sgB b l s=true↔(hd b l).BY=s:=λ s=>by rw [qj]; exact ⟨λ h=>h.2,λ h=>⟨k4,h⟩⟩
  refine ay k4 (am (Out L base NJ b q) (cz ?_) (λ z hz=>ae hz));simp only [gS];refine am _ (lW hL NK h3) ?_;rintro ⟨z1,z2⟩ ⟨h1,j,h2,h3,h4,h5⟩;replace h1:z1=_:=h1; subst h1; cases h2;by_cases s1:(hd b l).BY=[40]
  ·rw [if_pos ((sg _).2 s1)] at hq;refine ay s1 ?_;refine am _ (qh hL NK h3 O) ?_;rintro _ ⟨j,rfl,h3⟩;rcases b9 hq with ⟨e,hx,rfl⟩|⟨c,l1,hx,hq⟩
   ·refine am _ (ih.e true _ L base hL NK j (NJ+1) _ h3 hx) ?_;rintro ⟨z1,z2⟩ ⟨he,j,l',h2,h3⟩
    cases h2
    exact sU
   ·refine am _ (ih.e true _ L base hL NK j (NJ+1) _ h3 hx) ?_;rintro ⟨z1,z2⟩ ⟨h1,j,h2,h3⟩;replace h1:z1=_:=h1; subst h1; cases h2;rcases b9 hq with ⟨e,hx,rfl⟩|⟨u,l2,hx,hq⟩
    ·refine am _ pC ?_;rintro _ ⟨he,j,l',rfl,h3⟩;exact my
    ·refine am _ pC ?_;exact Bs
  rw [if_neg (λ h=>s1 ((sg _).1 h))] at hq;refine ax s1 ?_;by_cases s2:(hd b l).BY=[91]
  ·rw [if_pos ((sg _).2 s2)] at hq;refine ay s2 ?_;have gl:=h3.gl hL NK (by omega:(hd b l).Ar≠6);refine am _ (qh hL NK h3 O) ?_;rintro _ ⟨j,rfl,h3⟩;refine am _ (sc hL NK _ h3) ?_;rintro ⟨z1,z2⟩ ⟨h1,j,h2,h3⟩;replace h1:z1=_:=h1; subst h1; cases h2;by_cases hw:wdB true (tl b l) [102,111,114]=true
   ·rw [if_pos hw] at hq;refine ay hw (am _ (ih.lo (hd b l).fAt 12 (tl b l) hw (by decide) L base hL NK j NJ b q hn hb h3 hq) ?_);exact ol
   ·rw [if_neg hw] at hq;refine ax hw ?_;rcases b9 hq with ⟨e,hx,rfl⟩|⟨ks,l1,hx,hq⟩
    ·refine am _ yA ?_;rintro ⟨ys,z⟩ ⟨he,j,l',⟨hz,h3⟩|⟨hz,h3,hxx⟩⟩
     ·cases hz
      exact sU
     ·cases hz
      refine am _ Bm ?_;rintro _ ⟨he,j,l',rfl,h3⟩;exact my
    ·refine am _ yA ?_;exact CH
  rw [if_neg (λ h=>s2 ((sg _).1 h))] at hq;refine ax s2 ?_;by_cases s3:(hd b l).BY=[123]
  ·rw [if_pos ((sg _).2 s3)] at hq;refine ay s3 ?_;have gl:=h3.gl hL NK (by omega:(hd b l).Ar≠6);refine am _ (qh hL NK h3 O) ?_;rintro _ ⟨j,rfl,h3⟩;refine am _ (sc hL NK _ h3) ?_;rintro ⟨z1,z2⟩ ⟨h1,j,h2,h3⟩;replace h1:z1=_:=h1; subst h1; cases h2;by_cases hw:wdB true (tl b l) [102,111,114]=true
   ·rw [if_pos hw] at hq;refine ay hw (am _ (ih.lo (hd b l).fAt 13 (tl b l) hw (by decide) L base hL NK j NJ b q hn hb h3 hq) ?_);exact ol
   ·rw [if_neg hw] at hq;refine ax hw ?_;rcases b9 hq with ⟨e,hx,rfl⟩|⟨ks,l1,hx,hq⟩
    ·refine am _ (D1 ih _ gl L base hL NK j (NJ+1) _ h3 hx) ?_;rintro ⟨ys,z⟩ ⟨he,j,l',⟨hz,h3⟩|⟨hz,h3,hxx⟩⟩
     ·cases hz
      exact sU
     ·cases hz
      refine am _ Bm ?_;rintro _ ⟨he,j,l',rfl,h3⟩;exact my
    ·refine am _ (D1 ih _ gl L base hL NK j (NJ+1) _ h3 hx) ?_;exact CH
  rw [if_neg (λ h=>s3 ((sg _).1 h))] at hq; cases hq;exact ax s3 vZ
 ·have sn:∀ s,¬ sgB b l s=true:=λ s h=>k4 (qj.1 h).1;rw [if_neg (sn _),if_neg (sn _),if_neg (sn _)] at hq; cases hq;exact ax k4 vZ
theorem Nc {f:Nat}(ih:Fol f):∀ b l,(hd b l).Ar=1->Fl ge b l (qQ (f+1) b l):=by
 intro b l k1 L base hL NK i NJ q h hq;have hn:=h.2.1;have hb:=h.2.2.2.1;rw [qQ] at hq;refine cz ?_;simp only [ge];refine am _ qa ?_;rintro ⟨z1,z2⟩ ⟨h1,j,h2,h3,h4,h5⟩;replace h1:z1=_:=h1; subst h1; cases h2;by_cases s1:(hd b l).BY=[110,117,108,108]
 ·rw [if_pos s1] at hq; cases hq;refine ay s1 ?_;exact B6
 rw [if_neg s1] at hq;refine ax s1 ?_;by_cases s2:(hd b l).BY=[116,114,117,101]
 ·rw [if_pos s2] at hq; cases hq;refine aC true (ay s2 (ae rfl)) (ay rfl ?_);refine am _ tB ?_;rintro ⟨z1,z2⟩ ⟨h1,j,h2,h3,h4,h5⟩;replace h1:z1=_:=h1; subst h1; cases h2;exact aC 1 (ay s2 (ae rfl)) (aC _ nN tI)
 rw [if_neg s2] at hq;by_cases s3:(hd b l).BY=[102,97,108,115,101]
 ·rw [if_pos s3] at hq; cases hq;refine aC true (ax s2 (ae (decide_eq_true s3))) (ay rfl ?_);refine am _ tB ?_;rintro ⟨z1,z2⟩ ⟨h1,j,h2,h3,h4,h5⟩;replace h1:z1=_:=h1; subst h1; cases h2;exact aC 0 (ax s2 (ae rfl)) (aC _ nN tI)
 rw [if_neg s3] at hq;refine aC false (ax s2 (ae (decide_eq_false s3))) (ax rg (aC _ wE ?_));by_cases s4:zW (hd b l).BY=true
 ·rw [if_pos s4] at hq; cases hq;exact ay s4 vZ
 rw [if_neg s4] at hq;refine ax s4 ?_;refine am _ tB ?_;rintro ⟨z1,z2⟩ ⟨h1,j,h2,h3,h4,h5⟩;replace h1:z1=_:=h1; subst h1; cases h2;refine am _ nw ?_;rintro ⟨z1,z2⟩ ⟨h1,j,h2,h3⟩;replace h1:z1=_:=h1; subst h1; cases h2;by_cases s5:sgB b (tl b l) [40]=true
 ·rw [if_pos s5] at hq;refine ax (by simp [s5]) ?_;have gl:=h3.gl hL NK (sg6 s5);refine am _ (qh hL NK h3 (sg6 s5)) ?_;rintro _ ⟨j,rfl,h3⟩;rcases b9 hq with ⟨e,hx,rfl⟩|⟨ks,l1,hx,hq⟩
  ·refine am _ yA ?_;rintro ⟨ys,z⟩ ⟨he,j,l',⟨hz,h3⟩|⟨hz,h3,hxx⟩⟩
   ·cases hz
    exact sU
   ·cases hz
    refine am _ Bm ?_;rintro _ ⟨he,j,l',rfl,h3⟩;exact my
  ·refine am _ yA ?_;exact CH
 ·rw [if_neg s5] at hq; cases hq;exact ay (by simpa using s5) tI
theorem M4 {f:Nat}(ih:Fol f):∀ (en:Bk) (l:List ac) (out:List ag),Gd l->out.length+l.length<=1000000000->∀ (L:List ac) (base:Int),Gd (L.map (mvT base))->L.length<=1000000000->∀ (i:Nat) (NJ:Int) (q:PE⊕(List ag×List ac)),Pos L base i NJ true l->kl (f+1) en l=some q ->
  Ev2 (λ n m=>dl n (aO n) en m out L (i:Int) NJ base 0 0 []) (Kq L base NJ en out q):=by
 intro en l out hg NR L base hL NK i NJ q h hq;have gl:Gl l:=⟨hg,by omega⟩
 have gt:=gll (b:=true) gl;rw [kl] at hq;refine bc ?_;simp only [dl,bh,Option.bind_some];refine am (λ t=>∃ j:Nat,t=(!sgB true l en,L,(j:Int),NJ,base,0,0,[])/\Pos L base j NJ true l) ?_ ?_
 ·exact F8
 rintro _ ⟨j,rfl,h3⟩;by_cases hs:sgB true l en=true
 ·exact Jd
 rw [if_neg hs] at hq;refine ay (by simpa using hs) ?_;rcases b9 hq with ⟨e,hx,rfl⟩|⟨x,l1,hx,hq⟩
 ·refine am _ (ih.e true l L base hL NK j NJ _ h3 hx) ?_;rintro ⟨z1,z2⟩ ⟨he,j,l',h2,h3⟩;exact ze
 ·refine am _ (ih.e true l L base hL NK j NJ _ h3 hx) ?_;rintro ⟨z1,z2⟩ ⟨h1,j,h2,h3⟩;replace h1:z1=_:=h1; subst h1; cases h2;have f1:=(fct f).e true l gl _ hx;refine aE iJ ?_;refine am _ nw ?_;rintro ⟨z1,z2⟩ ⟨h1,j,h2,h3⟩;replace h1:z1=_:=h1; subst h1; cases h2;by_cases hc:sgB true l1 [44]=true
  ·rw [if_pos hc] at hq;refine ax (by simp [hc]) ?_;have b1:=f1.2.1.length_le;have b2:=gll (b:=true) f1.2.2;have g2:=glt f1.2.2 hc;refine am _ yW ?_;rintro ⟨z1,z2⟩ ⟨h1,j,h2,h3,h4,h5⟩;replace h1:z1=_:=h1; subst h1; cases h2;rcases b9 hq with ⟨e,hy,rfl⟩|⟨ks,l2,hy,hq⟩
   ·exact bZ (ih.i en _ (out++[_]) g2.1 yx L base hL NK j NJ _ h3 hy) (λ r hr=>hr)
   ·cases hq
    refine bZ (ih.i en _ (out++[_]) g2.1 yx L base hL NK j NJ _ h3 hy) ?_;rintro r ⟨j,l'',rfl,h3,hn⟩;exact ⟨j,l'',by rw [List.append_assoc]; rfl,h3,hn⟩
  ·rw [if_neg hc] at hq;refine ay (by simpa using hc) ?_;rcases b9 hq with ⟨e,hy,rfl⟩|⟨u,l2,hy,hq⟩
   ·exact ae ⟨Dc hy,j,l1,.inr ⟨Z,h3,hy⟩⟩
   ·cases hq
    exact ae ⟨j,l1,Z,h3,hy⟩
theorem M9 {f:Nat}(ih:Fol f):∀ (l:List ac) (out:List ag),Gl l->out.length+2*l.length<=3000000000->∀ (L:List ac) (base:Int),Gd (L.map (mvT base))->L.length<=1000000000->∀ (i:Nat) (NJ:Int) (q:PE⊕(List ag×List ac)),Pos L base i NJ true l->tS (f+1) l=some q ->
  Ev2 (λ n m=>cK n (aO n) (dN n) m out L (i:Int) NJ base 0 0 []) (Kq L base NJ [125] out q):=by
 intro l out gl NR L base hL NK i NJ q h hq;have hgn:=ub (h.gd hL);rw [tS] at hq;refine bc ?_;simp only [cK,bh,Option.bind_some];refine am (λ t=>∃ j:Nat,t=(!sgB true l [125],L,(j:Int),NJ,base,0,0,[])/\Pos L base j NJ true l) ?_ ?_
 ·exact F8
 rintro _ ⟨j,rfl,h3⟩;by_cases hs:sgB true l [125]=true
 ·exact Jd
 rw [if_neg hs] at hq;refine ay (by simpa using hs) ?_;rcases b9 hq with ⟨e,hx,rfl⟩|⟨x,l1,hx,hq⟩
 ·refine am _ (ih.k l L base hL NK j NJ _ h3 hx) ?_;rintro ⟨z1,z2⟩ ⟨he,j,l',h2,h3⟩
  cases h2
  refine aE iJ ?_;refine am _ sA ?_;rintro _ ⟨j,l',rfl,h3⟩;refine am _ kR ?_;rintro ⟨z1,z2⟩ ⟨j,l',h2,h3⟩;exact ze
 ·refine am _ (ih.k l L base hL NK j NJ _ h3 hx) ?_;rintro ⟨z1,z2⟩ ⟨h1,j,h2,h3⟩;replace h1:z1=_:=h1; subst h1; cases h2;refine aE iJ ?_;rcases b9 hq with ⟨e,hy,rfl⟩|⟨u,l2,hy,hq⟩
  ·refine am _ (oT hL NK _ h3 hy) ?_;rintro _ ⟨he,j,l',rfl,h3⟩;refine am _ kR ?_;rintro ⟨z1,z2⟩ ⟨j,l',h2,h3⟩;exact ze
  ·refine am _ (oT hL NK _ h3 hy) ?_;rintro _ ⟨j,rfl,h3,h4⟩;rcases b9 hq with ⟨e,hv,rfl⟩|⟨y,l3,hv,hq⟩
   ·refine am _ (ih.e true l2 L base hL NK j NJ _ h3 hv) ?_;rintro ⟨z1,z2⟩ ⟨he,j,l',h2,h3⟩;exact ze
   ·refine am _ (ih.e true l2 L base hL NK j NJ _ h3 hv) ?_;rintro ⟨z1,z2⟩ ⟨h1,j,h2,h3⟩;replace h1:z1=_:=h1; subst h1; cases h2;refine aE iJ ?_;refine am _ nw ?_;rintro ⟨z1,z2⟩ ⟨h1,j,h2,h3⟩;replace h1:z1=_:=h1; subst h1; cases h2;by_cases hc:sgB true l3 [44]=true
    ·rw [if_pos hc] at hq;refine ax (by simp [hc]) ?_;have gt:=gll (b:=true) gl;have f1:=(fct f).k l gl _ hx;have f2:=fz (b:=true) (s:=[61]) f1.2.2 _ hy;have f3:=(fct f).e true l2 f2.2.2 _ hv;have b1:=f1.2.1.length_le;have b2:=(f2.2.1.trans (tlS true l1)).length_le;have b3:=(f3.2.1.trans (tlS true l2)).length_le;have b4:=gll (b:=true) f3.2.2;have g2:=glt f3.2.2 hc;refine am _ yW ?_;rintro ⟨z1,z2⟩ ⟨h1,j,h2,h3,h4,h5⟩;replace h1:z1=_:=h1; subst h1; cases h2;rcases b9 hq with ⟨e,hr,rfl⟩|⟨ks,l4,hr,hq⟩
     ·exact bZ (ih.t _ ((out++[_])++[_]) g2 yx L base hL NK j NJ _ h3 hr) (λ r hr=>hr)
     ·cases hq
      refine bZ (ih.t _ ((out++[_])++[_]) g2 yx L base hL NK j NJ _ h3 hr) ?_;rintro r ⟨j,l'',rfl,h3,hn⟩;exact ⟨j,l'',by rw [List.append_assoc,List.append_assoc]; rfl,h3,hn⟩
    ·rw [if_neg hc] at hq;refine ay (by simpa using hc) ?_;rcases b9 hq with ⟨e,hr,rfl⟩|⟨u,l4,hr,hq⟩
     ·exact ae ⟨Dc hr,j,l3,.inr ⟨Z,h3,hr⟩⟩
     ·cases hq
      exact ae ⟨j,l3,by rw [List.append_assoc]; rfl,h3,hr⟩
theorem Nx {f:Nat}(ih:Fol f):∀ l,Fl dN true l (qJ (f+1) l):=by
 intro l L base hL NK i NJ q h hq;have hn:=h.2.1;have hb:=h.2.2.2.1;rw [qJ] at hq;refine cz ?_;simp only [dN];refine am _ qa ?_;rintro ⟨z1,z2⟩ ⟨h1,j,h2,h3,h4,h5⟩;replace h1:z1=_:=h1; subst h1; cases h2;by_cases k1:(hd true l).Ar=1
 ·rw [if_pos k1] at hq; cases hq;refine ay k1 ?_;exact B6
 rw [if_neg k1] at hq;refine ax k1 ?_;by_cases k3:(hd true l).Ar=3
 ·rw [if_pos k3] at hq;refine ay k3 (am _ (ih.s true l k3 L base hL NK j NJ q h3 hq) ?_);exact ol
 rw [if_neg k3] at hq;refine ax k3 ?_;refine am _ nw ?_;rintro ⟨z1,z2⟩ ⟨h1,j,h2,h3⟩;replace h1:z1=_:=h1; subst h1; cases h2;by_cases s1:sgB true l [40]=true
 ·rw [if_pos s1] at hq;refine ay s1 ?_;refine am _ (qh hL NK h3 (sg6 s1)) ?_;rintro _ ⟨j,rfl,h3⟩;rcases b9 hq with ⟨e,hx,rfl⟩|⟨c,l1,hx,hq⟩
  ·refine am _ (ih.e true _ L base hL NK j (NJ+1) _ h3 hx) ?_;rintro ⟨z1,z2⟩ ⟨he,j,l',h2,h3⟩
   cases h2
   exact sU
  ·refine am _ (ih.e true _ L base hL NK j (NJ+1) _ h3 hx) ?_;rintro ⟨z1,z2⟩ ⟨h1,j,h2,h3⟩;replace h1:z1=_:=h1; subst h1; cases h2;rcases b9 hq with ⟨e,hx,rfl⟩|⟨u,l2,hx,hq⟩
   ·refine am _ pC ?_;rintro _ ⟨he,j,l',rfl,h3⟩;exact my
   ·refine am _ pC ?_;exact Bs
 ·rw [if_neg s1] at hq; cases hq;exact ax s1 vZ
theorem MG {f:Nat}(ih:Fol f):∀ (a k:Int) l,wdB true l [102,111,114]=true->k=12\/k=13->FlC (λ n p=>fp n p a k) l (oX (f+1) a k (tl true l)):=by
 intro a k l hw hk L base hL NK i NJ b q hn hb h hq;rw [oX] at hq;refine cz ?_;simp only [fp];refine am _ (ky hL NK h (wd6 hw)) ?_;rintro ⟨z1,z2⟩ ⟨h1,j,h2,h3,h4,h5⟩;replace h1:z1=_:=h1; subst h1; cases h2;rcases b9 hq with ⟨e,hx,rfl⟩|⟨v,l1,hx,hq⟩
 ·refine am _ (nq hL NK h3 hx) ?_;rintro ⟨z1,z2⟩ ⟨he,j,l',h2,h3⟩
  cases h2
  refine am (λ t=>∃ (w1 w2:Bk) (j:Nat) (l':List ac),t=(w1,w2,L,(j:Int),NJ+1,base,e.1,e.2,[])/\Pos L base j (NJ+1) true l') ?_ ?_
  ·refine am _ vd ?_;rintro _ ⟨j,rfl,h3⟩;exact ax rg (ae ⟨_,_,j,_,rfl,h3⟩)
  rintro _ ⟨w1,w2,j,l',rfl,h3⟩;refine am _ (xi hL NK _ he h3) ?_;rintro _ ⟨j,l',rfl,h3⟩;refine am _ kR ?_;rintro ⟨z1,z2⟩ ⟨j,l',h2,h3⟩
  cases h2
  refine aE iJ ?_;refine am _ sA ?_;rintro _ ⟨j,l',rfl,h3⟩;refine am _ kR ?_;rintro ⟨z1,z2⟩ ⟨j,l',h2,h3⟩
  cases h2
  refine aE iJ ?_;refine am (λ t=>∃ (en:Bk) (ks:List ag) (j:Nat) (l':List ac),t=(en,ks,L,(j:Int),NJ+1,base,e.1,e.2,[])/\ks.length<=3/\Pos L base j (NJ+1) true l') ?_ ?_
  ·exact tP
  rintro _ ⟨en,ks,j,l',rfl,hks,h3⟩;exact qY
 ·refine am _ (nq hL NK h3 hx) ?_;rintro ⟨z1,z2⟩ ⟨h1,j,h2,h3⟩;replace h1:z1=_:=h1; subst h1; cases h2;rcases b9 hq with ⟨e,hy,rfl⟩|⟨nk,l2,hy,hq⟩
  ·refine am (λ t=>e.1≠0/\∃ (w1 w2:Bk) (j:Nat) (l':List ac),t=(w1,w2,L,(j:Int),NJ+1,base,e.1,e.2,[])/\Pos L base j (NJ+1) true l') ?_ ?_
   ·refine am _ nw ?_;rintro ⟨z1,z2⟩ ⟨h1,j,h2,h3⟩;replace h1:z1=_:=h1; subst h1; cases h2;by_cases hc:sgB true l1 [44]=true
    ·rw [if_pos hc] at hy;refine ay hc ?_;refine am _ yW ?_;rintro ⟨z1,z2⟩ ⟨h1,j,h2,h3,h4,h5⟩;replace h1:z1=_:=h1; subst h1; cases h2;rcases b9 hy with ⟨e,hz,hee⟩|⟨v2,l3,hz,hee⟩
     ·cases hee
      refine am _ (nq hL NK h3 hz) ?_;rintro ⟨z1,z2⟩ ⟨he,j,l',h2,h3⟩
      cases h2
      exact ae ⟨he,_,_,j,l',Z,h3⟩
     ·cases hee
    ·rw [if_neg hc] at hy; cases hy
   rintro _ ⟨he,w1,w2,j,l',rfl,h3⟩;refine am _ (xi hL NK _ he h3) ?_;rintro _ ⟨j,l',rfl,h3⟩;refine am _ kR ?_;rintro ⟨z1,z2⟩ ⟨j,l',h2,h3⟩
   cases h2
   refine aE iJ ?_;refine am _ sA ?_;rintro _ ⟨j,l',rfl,h3⟩;refine am _ kR ?_;rintro ⟨z1,z2⟩ ⟨j,l',h2,h3⟩
   cases h2
   refine aE iJ ?_;refine am (λ t=>∃ (en:Bk) (ks:List ag) (j:Nat) (l':List ac),t=(en,ks,L,(j:Int),NJ+1,base,e.1,e.2,[])/\ks.length<=3/\Pos L base j (NJ+1) true l') ?_ ?_
   ·exact tP
   rintro _ ⟨en,ks,j,l',rfl,hks,h3⟩;exact qY
  ·refine am (λ t=>∃ (j:Nat),t=(nk.1,nk.2,L,(j:Int),NJ+1,base,0,0,[])/\Pos L base j (NJ+1) true l2) ?_ ?_
   ·refine am _ nw ?_;rintro ⟨z1,z2⟩ ⟨h1,j,h2,h3⟩;replace h1:z1=_:=h1; subst h1; cases h2;by_cases hc:sgB true l1 [44]=true
    ·rw [if_pos hc] at hy;refine ay hc ?_;refine am _ yW ?_;rintro ⟨z1,z2⟩ ⟨h1,j,h2,h3,h4,h5⟩;replace h1:z1=_:=h1; subst h1; cases h2;rcases b9 hy with ⟨e,hz,hee⟩|⟨v2,l3,hz,hee⟩
     ·cases hee
     ·refine am _ (nq hL NK h3 hz) ?_;rintro ⟨z1,z2⟩ ⟨h1,j,h2,h3⟩;replace h1:z1=_:=h1; subst h1; cases h2
      cases hee
      exact ae ⟨j,Z,h3⟩
    ·rw [if_neg hc] at hy; cases hy;exact ax hc sM
   rintro _ ⟨j,rfl,h3⟩;rcases b9 hq with ⟨e,hx,rfl⟩|⟨u,l3,hx,hq⟩
   ·refine am _ (wG hL NK _ h3 hx) ?_;rintro _ ⟨he,j,l',rfl,h3⟩;refine am _ kR ?_;rintro ⟨z1,z2⟩ ⟨j,l',h2,h3⟩
    cases h2
    refine aE iJ ?_;refine am _ sA ?_;rintro _ ⟨j,l',rfl,h3⟩;refine am _ kR ?_;rintro ⟨z1,z2⟩ ⟨j,l',h2,h3⟩
    cases h2
    refine aE iJ ?_;refine am (λ t=>∃ (en:Bk) (ks:List ag) (j:Nat) (l':List ac),t=(en,ks,L,(j:Int),NJ+1,base,e.1,e.2,[])/\ks.length<=3/\Pos L base j (NJ+1) true l') ?_ ?_
    ·exact tP
    rintro _ ⟨en,ks,j,l',rfl,hks,h3⟩;exact qY
   ·refine am _ (wG hL NK _ h3 hx) ?_;rintro _ ⟨j,rfl,h3,h4⟩;rcases b9 hq with ⟨e,hx,rfl⟩|⟨x,l4,hx,hq⟩
    ·refine am _ (ih.e true l3 L base hL NK j (NJ+1) _ h3 hx) ?_;rintro ⟨z1,z2⟩ ⟨he,j,l',h2,h3⟩
     cases h2
     refine aE iJ ?_;refine am _ sA ?_;rintro _ ⟨j,l',rfl,h3⟩;refine am _ kR ?_;rintro ⟨z1,z2⟩ ⟨j,l',h2,h3⟩
     cases h2
     refine aE iJ ?_;refine am (λ t=>∃ (en:Bk) (ks:List ag) (j:Nat) (l':List ac),t=(en,ks,L,(j:Int),NJ+1,base,e.1,e.2,[])/\ks.length<=3/\Pos L base j (NJ+1) true l') ?_ ?_
     ·exact tP
     rintro _ ⟨en,ks,j,l',rfl,hks,h3⟩;exact qY
    ·refine am _ (ih.e true l3 L base hL NK j (NJ+1) _ h3 hx) ?_;rintro ⟨z1,z2⟩ ⟨h1,j,h2,h3⟩;replace h1:z1=_:=h1; subst h1; cases h2;refine aE iJ ?_;rcases b9 hq with ⟨e,hx,rfl⟩|⟨u,l5,hx,hq⟩
     ·refine am _ zd ?_;rintro _ ⟨he,j,l',rfl,h3⟩;refine am _ kR ?_;rintro ⟨z1,z2⟩ ⟨j,l',h2,h3⟩
      cases h2
      refine aE iJ ?_;refine am (λ t=>∃ (en:Bk) (ks:List ag) (j:Nat) (l':List ac),t=(en,ks,L,(j:Int),NJ+1,base,e.1,e.2,[])/\ks.length<=3/\Pos L base j (NJ+1) true l') ?_ ?_
      ·exact tP
      rintro _ ⟨en,ks,j,l',rfl,hks,h3⟩;exact qY
     ·refine am _ zd ?_;rintro _ ⟨j,rfl,h3,h4⟩;rcases b9 hq with ⟨e,hx,rfl⟩|⟨c,l6,hx,hq⟩
      ·refine am _ (ih.e true l5 L base hL NK j (NJ+1) _ h3 hx) ?_;rintro ⟨z1,z2⟩ ⟨he,j,l',h2,h3⟩
       cases h2
       refine aE iJ ?_;refine am (λ t=>∃ (en:Bk) (ks:List ag) (j:Nat) (l':List ac),t=(en,ks,L,(j:Int),NJ+1,base,e.1,e.2,[])/\ks.length<=3/\Pos L base j (NJ+1) true l') ?_ ?_
       ·exact tP
       rintro _ ⟨en,ks,j,l',rfl,hks,h3⟩;exact qY
      ·refine am _ (ih.e true l5 L base hL NK j (NJ+1) _ h3 hx) ?_;rintro ⟨z1,z2⟩ ⟨h1,j,h2,h3⟩;replace h1:z1=_:=h1; subst h1; cases h2;refine aE iJ ?_;rcases b9 hq with ⟨e,hy,rfl⟩|⟨ks,l7,hy,hq⟩
       ·refine am (λ t=>e.1≠0/\∃ (en:Bk) (ks:List ag) (j:Nat) (l':List ac),t=(en,ks,L,(j:Int),NJ+1,base,e.1,e.2,[])/\ks.length<=3/\Pos L base j (NJ+1) true l') ?_ ?_
        ·refine aR (λ hk=>?_) (λ hk=>?_)
         ·rw [if_pos hk] at hy;rcases b9 hy with ⟨e,hz,hee⟩|⟨u,l8,hz,hy⟩
          ·cases hee
           refine am _ (oT hL NK _ h3 hz) ?_;rintro _ ⟨he,j,l',rfl,h3⟩;refine am _ kR ?_;rintro ⟨z1,z2⟩ ⟨j,l',h2,h3⟩;exact Jj
          ·refine am _ (oT hL NK _ h3 hz) ?_;rintro _ ⟨j,rfl,h3,h4⟩;rcases b9 hy with ⟨e,hz,hee⟩|⟨d,l9,hz,hee⟩
           ·cases hee
            refine am _ (ih.e true l8 L base hL NK j (NJ+1) _ h3 hz) ?_;rintro ⟨z1,z2⟩ ⟨he,j,l',h2,h3⟩;exact Jj
           ·cases hee
         ·rw [if_neg hk] at hy; cases hy
        rintro _ ⟨he,en,ks,j,l',rfl,hks,h3⟩;exact qY
       ·refine am (λ t=>∃ (j:Nat),t=((if k=13 then [125] else [93]:Bk),ks,L,(j:Int),NJ+1,base,0,0,[])/\ks.length<=3/\Pos L base j (NJ+1) true l7) ?_ ?_
        ·refine aR (λ hk=>?_) (λ hk=>?_)
         ·rw [if_pos hk] at hy;rcases b9 hy with ⟨e,hz,hee⟩|⟨u,l8,hz,hy⟩
          ·cases hee
          ·refine am _ (oT hL NK _ h3 hz) ?_;rintro _ ⟨j,rfl,h3,h4⟩;rcases b9 hy with ⟨e,hz,hee⟩|⟨d,l9,hz,hee⟩
           ·cases hee
           ·refine am _ (ih.e true l8 L base hL NK j (NJ+1) _ h3 hz) ?_;rintro ⟨z1,z2⟩ ⟨h1,j,h2,h3⟩;replace h1:z1=_:=h1; subst h1; cases h2;refine aE iJ ?_
            cases hee
            exact ae ⟨j,by rw [if_pos hk]; rfl,by simp,h3⟩
         ·rw [if_neg hk] at hy; cases hy;exact ae ⟨j,by rw [if_neg hk]; rfl,by simp,h3⟩
        rintro _ ⟨j,rfl,hks,h3⟩;rcases b9 hq with ⟨e,hy,rfl⟩|⟨ks2,l8,hy,hq⟩
        ·refine am (λ t=>e.1≠0/\∃ (ks:List ag) (j:Nat) (l':List ac),t=(ks,L,(j:Int),NJ+1,base,e.1,e.2,[])/\Pos L base j (NJ+1) true l') ?_ ?_
         ·refine am _ (sc hL NK _ h3) ?_;rintro ⟨z1,z2⟩ ⟨h1,j,h2,h3⟩;replace h1:z1=_:=h1; subst h1; cases h2;by_cases hc:wdB true l7 [105,102]=true
          ·rw [if_pos hc] at hy;refine ay hc ?_;refine am _ (ky hL NK h3 (wd6 hc)) ?_;rintro ⟨z1,z2⟩ ⟨h1,j,h2,h3,h4,h5⟩;replace h1:z1=_:=h1; subst h1; cases h2;rcases b9 hy with ⟨e,hz,hee⟩|⟨d,l9,hz,hee⟩
           ·cases hee
            refine am _ (ih.e true _ L base hL NK j (NJ+1) _ h3 hz) ?_;rintro ⟨z1,z2⟩ ⟨he,j,l',h2,h3⟩
            cases h2
            refine aE iJ ?_;exact ae ⟨he,_,j,l',Z,h3⟩
           ·cases hee
          ·rw [if_neg hc] at hy; cases hy
         rintro _ ⟨he,ks,j,l',rfl,h3⟩;exact sU
        ·refine am (λ t=>∃ (j:Nat),t=(ks2,L,(j:Int),NJ+1,base,0,0,[])/\Pos L base j (NJ+1) true l8) ?_ ?_
         ·refine am _ (sc hL NK _ h3) ?_;rintro ⟨z1,z2⟩ ⟨h1,j,h2,h3⟩;replace h1:z1=_:=h1; subst h1; cases h2;by_cases hc:wdB true l7 [105,102]=true
          ·rw [if_pos hc] at hy;refine ay hc ?_;refine am _ (ky hL NK h3 (wd6 hc)) ?_;rintro ⟨z1,z2⟩ ⟨h1,j,h2,h3,h4,h5⟩;replace h1:z1=_:=h1; subst h1; cases h2;rcases b9 hy with ⟨e,hz,hee⟩|⟨d,l9,hz,hee⟩
           ·cases hee
           ·refine am _ (ih.e true _ L base hL NK j (NJ+1) _ h3 hz) ?_;rintro ⟨z1,z2⟩ ⟨h1,j,h2,h3⟩;replace h1:z1=_:=h1; subst h1; cases h2;refine aE iJ ?_
            cases hee
            exact ae ⟨j,Z,h3⟩
          ·rw [if_neg hc] at hy; cases hy;exact ax hc sM
         rintro _ ⟨j,rfl,h3⟩;rcases b9 hq with ⟨e,hx,rfl⟩|⟨u,l9,hx,hq⟩
         ·refine am _ pC ?_;rintro _ ⟨he,j,l',rfl,h3⟩;exact my
         ·refine am _ pC ?_;exact Bs
theorem Nt {f:Nat}(ih:Fol f):∀ b l,(hd b l).Ar=3->Fl fj b l (vB (f+1) b l):=by
 intro b l k3 L base hL NK i NJ q h hq;rw [vB] at hq;refine cz ?_;simp only [fj];refine am _ qa ?_;rintro ⟨z1,z2⟩ ⟨h1,j,h2,h3,h4,h5⟩;replace h1:z1=_:=h1; subst h1; cases h2;have tk:=xc (h3.gd hL);have t1':=tk.1;have t2':=tk.2.2.1 k3;refine aE (eM (by show _<=(hd b l).fAt+1; omega) (by show (hd b l).fAt+1<=_; omega)) ?_
 cases ht:nr f (hd b l).BY ((hd b l).fAt+1) with
 | none=>rw [ht] at hq; cases hq
 | some y=>
  rw [ht] at hq;have hf:=(fct f).tm _ _ O O  y ht;refine aC _ (ih.tm (hd b l).BY ((hd b l).fAt+1) y O O  ht) ?_;rcases y with e|e
  ·cases hq
   exact ax hf (aC _ xS (ae ⟨hf,j,l,Z,h3⟩))
  ·cases hq
   refine ay rfl ?_;refine am _ tB ?_;rintro ⟨z1,z2⟩ ⟨h1,j,h2,h3,h4,h5⟩;replace h1:z1=_:=h1; subst h1; cases h2;exact ae ⟨rfl,j,rfl,h3⟩
theorem Iu (h:p:=by
 have hlr:r.length=s.length-(i+1):=by grind
 refine ay O (ae ?_);show Sum.inr ci=Sum.inr _
 grind):p:=h
theorem J2 (h:p:=by
 exact ay (by decide) (ae (by unfold wA; rw [if_neg (by decide)]; rfl))):p:=h
theorem Jz (h:p:=by
 cases y with
 | none=>
  rintro r (rfl|rfl)
  ·exact ae Z
  ·rfl
 | some r'=>rintro r rfl; rfl):p:=h
theorem Jh (h:p:=by
 refine ax O (ae (aE (eM (by grind) (by grind)) ?_))
 grind):p:=h
theorem C3 (h:p:=by exact ax (by decide) (ae Z)):p:=h
theorem IJ (h:p:=by exact eM (by show _<=(s.length:Int)-(r'.length:Int)-1+1; omega) (by show (s.length:Int)-(r'.length:Int)-1+1<=_; omega)):p:=h
theorem vg (h:p:=by exact aT (nE _ _) hp):p:=h
theorem vA (h:p:=by exact ax rg (ae Z)):p:=h
theorem zS {s:Bk}{i:Nat}{b:UInt8}{r:Bk}(h:s.drop i=b::r):s.getD i 0=b/\i<s.length/\s.drop (i+1)=r:=by
 grind [List.drop_eq_nil_of_le,List.drop_eq_getElem_cons]
theorem KB {s:Bk}{i:Nat}(h:s.drop i=[]):s.length<=i:=List.drop_eq_nil_iff.1 h
theorem w5 (s:Bk)(i k:Nat):s.drop (i+k)=(s.drop i).drop k:=by simp_all
theorem MO {s r:Bk}(h:r <:+ s):s.drop (s.length-r.length)=r:=(List.suffix_iff_eq_drop.1 h).symm
theorem nE (l p:Bk):strings_HasPrefix l p=some (hasPrefix l p):=rfl
def CO (s:Bk)(y:Option Bk)(r:Unit⊕Int):Prop:=match y with
 | none=>r=.inl ()\/r=.inr (-1)
 | some r'=>r=.inr ((s.length:Int)-(r'.length:Int)-1)
def LN (s:Bk):Option Bk->Int|none=>-1|some r'=>(s.length:Int)-(r'.length:Int)-1
theorem Dx {s:Bk}{i:Int}{y:Option Bk}(h:Ev2 (λ n m=>em (fY n) s m i 1) (CO s y)):Ev2 (λ n _=>eu n s i) (·=LN s y):=by
 refine cz ?_;simp only [eu];refine dH (bZ (cp (f:=λ n m=>em (fY n) s m i 1) h) ?_);exact Jz
theorem Kz {s:Bk}{i:Int}{y:Option Bk}(h:Ev2 (λ n m=>eP (eu n) s m i) (CO s y)):Ev2 (λ n _=>fY n s i) (·=LN s y):=by
 refine cz ?_;simp only [fY];refine dH (bZ (cp (f:=λ n m=>eP (eu n) s m i) h) ?_);exact Jz
theorem I2 {s:Bk}(hs:s.length<=1000000000):∀ (f:Nat),
  (∀ (d i:Nat) (ci di:Int) (y:Option Bk),ci=i->di=d->1<=d->d+(s.drop i).length<=2000000000->i<=1000000010->iP f d (s.drop i)=some y->Ev2 (λ n m=>em (fY n) s m ci di) (CO s y)) /\
  (∀ (i:Nat) (ci:Int) (y:Option Bk),ci=i->i<=1000000010->km f (s.drop i)=some y->Ev2 (λ n m=>eP (eu n) s m ci) (CO s y))
 | 0=>⟨λ d i ci di y _ _ _ _ _ h=>(by grind [iP]),λ i ci y _ _ h=>(by grind [km])⟩
 | f+1=>by
  obtain ⟨i1,i2⟩:=I2 hs f;constructor
  ·intro d i ci di y hci hdi h1 hd hi h;refine bc ?_;simp only [em]
   cases hl:s.drop i with
   | nil=>
    rw [hl,iP] at h; cases h;have:=KB hl;exact ax O (ae (.inl rfl))
   | cons b r=>
    obtain ⟨g1,g2,g3⟩:=zS hl;have hb:byt s ci=(b.toNat:Int):=by grind [jO]
    rw [hl,iP] at h;rw [hl,cl] at hd;refine ay O (aE O ?_);rw [hb];refine dH ?_;by_cases h123:b.toNat=123
    ·rw [if_pos h123] at h;refine ay O (aE bO (ae (aE ve ?_)))
     grind
    rw [if_neg h123] at h;refine ax O ?_;by_cases h125:b.toNat=125
    ·rw [if_pos h125] at h;refine ay O (aE bO ?_);by_cases hd1:d=1
     ·rw [if_pos hd1] at h; cases h;exact Iu
     ·rw [if_neg hd1] at h;exact Jh
    rw [if_neg h125] at h;refine ax O ?_;by_cases h34:b.toNat=34
    ·rw [if_pos h34] at h;refine ay O (aE bO ?_)
     cases hq:km f r with
     | none=>grind
     | some z=>
      rw [hq] at h;refine aC _ (Kz (i2 (i+1) (ci+1) z O O  (by grind))) ?_
      cases z with
      | none=>cases h; exact ay (show (-1:Int)<0 by decide) (ae (.inr rfl))
      | some r'=>
       have hsf:=(lu f).2 _ _ hq;have NI:=hsf.1.length_le;have hrl:r.length=s.length-(i+1):=by grind
       have hrs:r' <:+ s:=by grind [List.drop_suffix]
       have hsd:=MO hrs;refine ax (by show ¬ (s.length:Int)-(r'.length:Int)-1<0; omega) (ae (aE IJ ?_));exact i1 d (s.length-r'.length) _ di y (by show (s.length:Int)-(r'.length:Int)-1+1=_; omega) hdi h1 (by grind) O (by grind)
    ·rw [if_neg h34] at h;exact Jh
  ·intro i ci y hci hi h;refine bc ?_;simp only [eP]
   cases hl:s.drop i with
   | nil=>
    rw [hl,km] at h; cases h;have:=KB hl;exact ax O (ae (.inl rfl))
   | cons b r=>
    obtain ⟨g1,g2,g3⟩:=zS hl;have hb:byt s ci=(b.toNat:Int):=by grind [jO]
    have hsub:sub s ci (s.length:Int)=b::r:=by grind [kG]
    rw [hl,km] at h;refine ay O ?_;rw [hb,hsub];refine dH (aE O ?_);by_cases h34:b.toNat=34
    ·rw [if_pos h34] at h; cases h;exact Iu
    rw [if_neg h34] at h;refine ax O (aE O ?_);by_cases h92:b.toNat=92
    ·rw [if_pos h92] at h;refine ay O (aE bO (ae (aE bO ?_)));exact i2 (i+1+1) (ci+1+1) y O O  (by grind [w5])
    rw [if_neg h92] at h;refine ax O (aE O (aC _ (aT (nE _ _) rfl) ?_));by_cases hp3:hasPrefix (b::r) [36,36,123]=true
    ·rw [if_pos hp3] at h;refine ay hp3 (aE bO (ae (aE bO ?_)));exact i2 (i+3) (ci+2+1) y O O  (by grind [w5])
    rw [if_neg hp3] at h;refine ax hp3 (aE O (aC _ (aT (nE _ _) rfl) ?_));by_cases hp2:hasPrefix (b::r) [36,123]=true
    ·rw [if_pos hp2] at h;refine ay hp2 (aE bO ?_)
     cases hq:iP f 1 ((b::r).drop 2) with
     | none=>grind
     | some z=>
      rw [hq] at h;have e2:s.drop (i+2)=(b::r).drop 2:=by grind [w5]
      refine aC _ (Dx (i1 1 (i+2) (ci+2) 1 z O rfl (by decide) (by grind) O (by grind))) ?_
      cases z with
      | none=>cases h; exact ay (show (-1:Int)<0 by decide) (ae (.inr rfl))
      | some r'=>
       have hsf:=(lu f).1 _ _ _ hq;have NI:=hsf.1.length_le;have hrl:((b::r).drop 2).length=s.length-(i+2):=by grind
       have hrs:r' <:+ s:=by grind [List.drop_suffix]
       have hsd:=MO hrs;refine ax (by show ¬ (s.length:Int)-(r'.length:Int)-1<0; omega) (ae (aE IJ ?_));exact i2 (s.length-r'.length) _ y (by show (s.length:Int)-(r'.length:Int)-1+1=_; omega) O (by grind)
    ·rw [if_neg hp2] at h;refine ax hp2 (ae (aE bO ?_))
     grind
theorem uc:∀ (k:Nat) (l:Bk) (a:Nat) (x:Bk),(dc k l a).2<l.length->dc k (l.take ((dc k l a).2+1)++x) a=dc k l a
 | 0,l,a,x,_=>by simp [dc]
 | k+1,[],a,x,h=>by simp at h
 | k+1,b::r,a,x,h=>by
  have e:dc (k+1) (b::r) a=match ux b with
   | some d=>((dc k r (16*a+d)).1,(dc k r (16*a+d)).2+1)
   | none=>(a,0):=by grind [dc]
  cases hd:ux b with
  | none=>
   grind [dc]
  | some d=>
   rw [hd] at e;simp only at e;rw [e] at h ⊢;have ih:=uc k r (16*a+d) x (by grind)
   grind [dc]
theorem Ln (b:UInt8):strings_IndexByte ([48,49,50,51,52,53,54,55,56,57,97,98,99,100,101,102]:Bk) (b.toNat:Int)=some (indexByte Fx b)/\decide (0<=indexByte Fx b)=(ux b).isSome:=by
 constructor
 ·exact H0
 grind [xr]
theorem La (s:Bk)(_hs:s.length<=1000000000):∀ (k i a:Nat),i+k=6->i<=s.length->Ev2 (λ _ m=>cE s m (i:Int)) (·=((i+(dc k (s.drop i) a).2:Nat):Int)):=by
 intro k
 induction k with
 | zero=>
  simp_all [bc,cE,ae,dc]
 | succ k ih=>
  intro i a hi hl;refine bc ?_;simp only [cE]
  cases hd:s.drop i with
  | nil=>
   have:=KB hd;refine aC false yv (ax rg (ae ?_));rw [dc]; rfl
  | cons b r=>
   obtain ⟨g1,g2,g3⟩:=zS hd;have hb:byt s (i:Int)=(b.toNat:Int):=by rw [jO,g1]
   refine aC (ux b).isSome ?_ ?_
   ·refine ay O (ay O (aE O ?_))
    simp_all [Ln,ae]
   ·rw [dc]
    cases hx:ux b with
    | none=>simp_all [ae]
    | some d=>
     refine ay Z (aE bO ?_);have:=lw (P:=λ j=>Ev2 (λ _ m=>cE s m j) _) (ih (i+1) (16*a+d) O O)
     grind
theorem KG (s:Bk)(hs:s.length<=1000000000):Ev2 (λ n _=>ir n s) (·=((dc 6 s 0).2:Int)):=by
 simp only [ir];refine aC _ (cp (f:=λ _ m=>cE s m 0) (La s hs 6 0 0 rfl (qr _))) (ae ?_)
 grind
theorem JZ (b:UInt8)(r:Bk)(h:b.toNat<128):decodeL (b::r)=(b.toNat,1):=by
 have e:=E3 b h;have h2:=Dd (b.toNat:Int) (by grind [iE]) r
 grind
theorem M0 (r:Bk):(decodeL (92::r)).1=92:=by
 grind [JZ]
theorem K4 (x:Bk):((fc (x++[34])).2.2=0->(fc (x++[34])).2.1=(x.length:Int)->(nH (34::92::(x++[34]))).1=encodeRune (fc (x++[34])).1/\(nH (34::92::(x++[34]))).2.2=0)/\((fc (x++[34])).2.2≠0->(nH (34::92::(x++[34]))).2.2≠0):=by
 have h34:(34:UInt8).toNat=34:=rfl;rw [tH,if_pos h34,qm,if_neg (show ¬ (92:UInt8).toNat=34 by decide),if_pos (M0 _)];constructor
 ·intro h0 h1;rw [if_pos h0,h1,Int.toNat_natCast,List.drop_left];have hn:(92::(x++[34])).length=(x.length+1)+1:=by simp
  rw [hn,qm,if_pos h34];have hr:=(rS (x++[34])).2.2.1 h0
  grind [nc]
 grind
theorem Lp {c:UInt8}(h:c.toNat≠117)(t t':Bk):fc (c::t)=fc (c::t')/\((fc (c::t)).2.2=0->(fc (c::t)).2.1=1)/\((fc (c::t)).2.2≠0->(fc (c::t)).2.2=2):=by
 grind [tv]
theorem El (d:UInt8)(u:Bk):fc (117::d::u)=if d.toNat=123 then ((i7 u).1,(i7 u).2.1+2,(i7 u).2.2) else (0,0,2):=by
 rw [tv]; rfl
theorem Eq (u:Bk)(h:(dc 6 u 0).2<u.length):i7 (u.take ((dc 6 u 0).2+1)++[34])=i7 u/\((i7 u).2.2=0->(i7 u).2.1=(((dc 6 u 0).2+1:Nat):Int))/\((i7 u).2.2≠0->(i7 u).2.2=2):=by
 grind [uc,i7]
def wA (r:Bk):Bk×Int×Int:=if (fc r).2.2=0 then (encodeRune (fc r).1,(fc r).2.1+1,0) else ([],0,(fc r).2.2)
theorem Dv {s x:Bk}{k:Int}(hs:s.length<=1000000000)(hxs:x.length<=100)(hk:k=((x.length+1:Nat):Int))(hx:s.take (x.length+1)=92::x){q:Bk×Int×Int}(h0:(fc (x++[34])).2.2=0->(fc (x++[34])).2.1=(x.length:Int)/\q=(encodeRune (fc (x++[34])).1,k,0))(h1:(fc (x++[34])).2.2≠0->q=([],0,2)) :
  Ev2 (λ n _=>if (s.length:Int)<k then some (([]:Bk),(0:Int),(40:Int)) else
   ck ((0:Int)<=0/\0<=k/\k<=(s.length:Int)) <|
   ck (([34]:Bk).length+(sub s 0 k).length<=9223372036854775807) <|
   ck ((([34]:Bk)++(sub s 0 k)).length+([34]:Bk).length<=9223372036854775807) <|
   (gh n ((([34]:Bk)++(sub s 0 k))++([34]:Bk))).bind λ Py=>
   if Py.2.2=0 then some (Py.1,k,0) else some (([]:Bk),0,2)) (·=q):=by
 have hl:(92::x).length=x.length+1:=rfl
 have hxl:x.length+1<=s.length:=by
  grind
 have hsub:sub s 0 k=92::x:=by
  subst hk;show (s.take _).drop 0=_
  grind
 rw [hsub];refine ax O (aE O (aE (by grind) (aE (by grind) ?_)));have NR:((([34]:Bk)++(92::x))++([34]:Bk)).length<=1000000000:=by grind
 refine aC _ (Hz _ NR) ?_;have e:(([34]:Bk)++(92::x))++([34]:Bk)=34::92::(x++[34]):=rfl;rw [e];obtain ⟨u1,u2⟩:=K4 x;by_cases hz:(fc (x++[34])).2.2=0
 ·simp_all [ae]
 simp_all [ae]
theorem LD {r:Bk}(hs:(92::r:Bk).length<=1000000000):Ev2 (λ n _=>lm n (92::r)) (·=wA r):=by
 simp only [lm];have hl0:(92::r:Bk).length=r.length+1:=rfl
 cases r with
 | nil=>
  refine ik 2 (aC false (aT (nE _ _) (by decide)) vA) ?_;exact J2
 | cons c t=>
  by_cases hc:c.toNat=117
  ·have hc':c=117:=(AN (by decide)).1 hc;subst hc';have hp:hasPrefix (92::117::t) [92,117]=true:=by simp [hasPrefix]
   cases t with
   | nil=>
    refine ik 4 (aC true vg (ay Z (aC false C3 (ax rg C3)))) ?_;exact J2
   | cons d u=>
    have hl:(92::117::d::u:Bk).length=u.length+3:=rfl;have hb:byt (92::117::d::u) 2=(d.toNat:Int):=rfl;have e:=El d u;by_cases hd:d.toNat=123
    ·rw [if_pos hd] at e;have hd':d=123:=(AN (by decide)).1 hd
     have h6:Ev2 (λ _ _=>(if (2:Int)<((92::117::d::u:Bk).length:Int) then ck ((0:Int)<=2/\(2:Int)<((92::117::d::u:Bk).length:Int))<|some (!decide (byt (92::117::d::u) 2=123)) else some false:Option Bool)) (·=false):=by
      refine ay O (aE O (ae ?_))
      grind
     cases u with
     | nil=>
      refine ik 4 (aC true vg (ay Z (aC false h6 (ax rg rb)))) ?_;refine ay G (ae ?_);have hx:(i7 []).2.2=40:=by decide
      grind [wA]
     | cons v w=>
      have hlv:(v::w).length=w.length+1:=rfl;have hsub:sub (92::117::d::v::w) 3 ((92::117::d::v::w:Bk).length:Int)=v::w:=by rw [kG]; rfl
      have hrun:=qy 6 (v::w) 0;refine ik (4+((dc 6 (v::w) 0).2:Int)) (aC true vg (ay Z (aC false h6 (ax rg (ay O (aE O ?_)))))) ?_
      ·rw [hsub];exact aC _ (KG _ O) pU
      by_cases hc:(dc 6 (v::w) 0).2=(v::w).length
      ·refine ay O (ae ?_)
       grind [i7,wA]
      ·obtain ⟨x1,x2,x3⟩:=Eq (v::w) O;have hlt:((v::w).take ((dc 6 (v::w) 0).2+1)).length=(dc 6 (v::w) 0).2+1:=by grind
       have ex:fc ((117::d::(v::w).take ((dc 6 (v::w) 0).2+1))++[34])=fc (117::d::v::w):=by
        grind [El]
       refine Dv (x:=117::d::(v::w).take ((dc 6 (v::w) 0).2+1)) hs (by grind) (by grind) ?_ ?_ ?_
       ·grind
       ·grind [wA]
       grind [wA]
    ·rw [if_neg hd] at e;refine kF ([],0,2) (aC true vg (ay rfl (aC true (ay O (aE O (ae ?_))) yN))) ?_
     ·grind
     grind [wA]
  ·have hp:hasPrefix (92::c::t) [92,117]=false:=by
    have:¬ c=117:=λ h=>hc (by rw [h]; rfl)
    grind [hasPrefix]
   obtain ⟨o1,o2,o3⟩:=Lp hc t [34];refine ik 2 (aC false vg vA) ?_;refine Dv (x:=[c]) hs G rfl rfl ?_ ?_
   ·grind [wA]
   grind [wA]
theorem Il (s:Bk)(a i fr:Int)(text:Bk)(parts:List ag)(OI:Bool)(h:inR (a+fr)):ew (.mk s a i fr text parts OI)=some (if 4096<text.length then au.mk 3 (a+fr) [] else dOk,.mk s a i fr text parts OI):=by
 unfold ew;by_cases hl:4096<text.length
 ·grind [jW]
 ·rw [if_neg (by grind),if_neg hl]; rfl
def ItO (s:Bk)(a i fr:Int)(text:Bk)(parts:List ag)(OI:Bool)(q:Int⊕(Bk×Nat))(r:au×aA):Prop:=match q with
 | .inl k=>r.1=au.mk k (a+i) []
 | .inr (t,n)=>if 4096<text.length+t.length then r.1=au.mk 3 (a+fr) [] else r=(dOk,.mk s a (i+n) fr (text++t) parts OI)
theorem L2 {s:Bk}(hs:s.length<=1000000000){a fr:Int}{i:Nat}(ha:0<=a)(ha2:a<=1000000000)(hf:0<=fr)(hf2:fr<=1000000000)(text:Bk)(ht:text.length<=4096)(parts:List ag)(OI:Bool){b:UInt8}{r:Bk}(hl:s.drop i=b::r) :
  Ev2 (λ n _=>gf n (.mk s a (i:Int) fr text parts OI)) (ItO s a i fr text parts OI (mT (b::r))):=by
 obtain ⟨g1,g2,g3⟩:=zS hl;have hsub:sub s (i:Int) (s.length:Int)=b::r:=by grind [kG]
 have NK:(b::r).length=s.length-i:=by grind
 have hb0:byt (b::r) 0=(b.toNat:Int):=rfl;have hlc:(b::r).length=r.length+1:=rfl
 have fin:∀ (t:Bk) (n:Nat),mT (b::r)=.inr (t,n)->n<=1000000000->t.length<=1000000000->Ev2 (λ _ _=>(ew (aA.mk s a ((i:Int)+(n:Int)) fr (text++t) parts OI)).bind λ P5=>some (P5.1,(aA.mk P5.2.fs P5.2.fat P5.2.fi P5.2.Df P5.2.D' P5.2.C' P5.2.IN))) (ItO s a i fr text parts OI (mT (b::r))):=by
  intro t n hi _ _;refine aC _ (aT (Il s a _ fr _ parts OI bO) rfl) (ae ?_)
  grind [ItO]
 simp only [gf];rw [hsub];refine aE O ?_;by_cases h92:b.toNat=92
 ·have hb':b=92:=(AN (by decide)).1 h92;have hle:=rS r;have hi:mT (b::r)=if (fc r).2.2=0 then .inr (encodeRune (fc r).1,(fc r).2.1.toNat+1) else .inl (fc r).2.2:=by grind [mT]
  subst hb';by_cases hz:(fc r).2.2=0
  ·rw [if_pos hz] at hi;obtain ⟨e1,e2⟩:=hle.2.2.1 hz;have hel:=nc _ e1;refine ik ((i:Int)+(((fc r).2.1.toNat+1:Nat):Int),text++encodeRune (fc r).1) (aE O (ay (by grind) (aC _ (LD O) ?_))) (fin _ _ hi O O);unfold wA; rw [if_pos hz];refine ay rfl (aE (by grind) (aE ve (ae ?_)))
   grind
  ·rw [if_neg hz] at hi;refine kF (au.mk (fc r).2.2 (a+(i:Int)) [],aA.mk s a (i:Int) fr text parts OI) (aE O (ay (by grind) (aC _ (LD O) ?_))) ?_
   ·unfold wA; rw [if_neg hz];exact ax hz (aE ve (ae Z))
   ·rw [hi]; rfl
 ·have hd:bj (b::r)=some (((decodeL (b::r)).1:Int),((decodeL (b::r)).2:Int)):=by
   grind [bj,rQ]
  have hdf:=me (b::r) G
  have hq:(decodeL (b::r)).1=34↔b.toNat=34:=by
   grind [JZ,MI]
  have hi:mT (b::r)=if pi (decodeL (b::r))\/b.toNat=34 then .inl 2 else .inr ((b::r).take (decodeL (b::r)).2,(decodeL (b::r)).2):=by grind [mT]
  have hsb:∀ w:Nat,sub (b::r) 0 (w:Int)=(b::r).take w:=λ w=>by show ((b::r).take _).drop 0=_; grind
  generalize decodeL (b::r)=D at hd hdf hq hi;obtain ⟨c,w⟩:=D;simp only at hd hdf hq
  have hbad:Ev2 (λ _ _=>(if (c:Int)=65533 then if (w:Int)=1 then some true else if (c:Int)<32 then some true else if (c:Int)=127 then some true else some (decide ((c:Int)=34)) else if (c:Int)<32 then some true else if (c:Int)=127 then some true else some (decide ((c:Int)=34)):Option Bool)) (·=decide (pi (c,w)\/b.toNat=34)):=by
   have mk:∀ x:Bool,(x=true↔(((c=65533/\w=1)\/c<32\/c=127)\/c=34))->x=decide (pi (c,w)\/b.toNat=34):=by
    intro x hx;refine eqB ?_;rw [hx,decide_eq_true_eq,<- hq]
    rfl
   refine aR (λ h1=>aR (λ h2=>ae (mk _ ?_)) (λ h2=>aR (λ h3=>ae (mk _ ?_)) (λ h3=>aR (λ h4=>ae (mk _ ?_)) (λ h4=>ae (mk _ ?_))))) (λ h1=>aR (λ h3=>ae (mk _ ?_)) (λ h3=>aR (λ h4=>ae (mk _ ?_)) (λ h4=>ae (mk _ ?_))))
   all_goals grind
   all_goals grind
   all_goals omega
  by_cases hx:pi (c,w)\/b.toNat=34
  ·rw [if_pos hx] at hi;refine kF (au.mk 2 (a+(i:Int)) [],aA.mk s a (i:Int) fr text parts OI) (aE O (ax (by grind) (aC _ (aT hd rfl) (aC _ hbad (ay (decide_eq_true hx) (aE ve (ae rfl))))))) ?_;rw [hi]; rfl
  ·rw [if_neg hx] at hi;have hw2:=hdf.2.1;refine ik ((i:Int)+(w:Int),text++(b::r).take w) (aE O (ax (by grind) (aC _ (aT hd rfl) (aC _ hbad (ax (by grind) ?_))))) (fin _ _ hi O (by grind));simp only [hsb];exact aE O (aE (by grind) pU)
theorem IE (h:p:=by
 exact aC true (aT (nE _ _) hp3) (ay Z (aE (by simp only [cl,n7]; omega) (aE (eM O O) (aC _ (aT hlong Z) (ae Z)))))):p:=h
theorem Ia (h:p:=by exact eM (by show _<=a+(i:Int); omega) (by show a+(i:Int)<=_; omega)):p:=h
theorem sX (h:p:=by exact aT (nE _ _) (by simpa using hp3)):p:=h
theorem B3 (h:p:=by exact aT (nE _ _) (by simpa using hp2)):p:=h
theorem BZ (h:p:=by exact eM (by show _<=(i:Int)+2; omega) (by show (i:Int)+2<=_; omega)):p:=h
theorem Fq (h:p:=by exact cp (f:=λ n m=>cA n (a8 n) m s a 0 0 [] [] false) hread):p:=h
theorem Dh {src:Bk->SE⊕Bk}{l:Bk}(hs:∀ r e n,r.length<=l.length->src r=.inl e->e.2=some n->n<=l.length){e:SE}{n:Nat}(h:ll src l=.inl e)(hn:e.2=some n):n<=l.length:=by
 cases l with
 | nil=>cases h; cases hn; exact qr _
 | cons b r=>
  rw [kP] at h;split at h
  ·split at h
   ·cases h; cases hn; exact bt _
   ·cases h
  split at h
  ·cases h
  split at h
  ·cases h
  split at h
  ·split at h
   ·rename_i e' he
    cases h
    exact hs r e n (Nat.le_succ _) he hn
   ·cases h
  split at h
  ·cases h; cases hn; exact bt _
  ·cases h
theorem II:∀ (f k:Nat),(∀ l e n,hZ f k l=.inl e->e.2=some n->n<=l.length)/\(∀ d l e n,lY f k d l=.inl e->e.2=some n->n<=l.length)
 | 0,k=>⟨λ l e n h hn=>(by rw [hZ] at h; cases h; cases hn),λ d l e n h hn=>(by rw [lY] at h; cases h; cases hn)⟩
 | f+1,k=>by
  have ih:=II f;constructor
  ·intro l e n h hn
   cases l with
   | nil=>rw [hZ] at h; cases h; cases hn
   | cons b r=>
    rw [qp] at h;split at h
    ·cases h
    split at h
    ·have:=(ih k).1 _ e n h hn;rw [ro] at this; omega
    split at h
    ·split at h
     ·cases h; cases hn; exact bt _
     ·split at h
      ·rename_i e' he
       cases h
       have:=(ih (k+1)).2 _ _ e n he hn;rw [ro] at this; omega
      ·rename_i l' he;have h1:=((jr f (k+1)).2 _ _ _ he).2;have:=(ih k).1 _ e n h hn;rw [ro] at h1; omega
    ·have hX:(if b.toNat=92 then r else b::r).length<=(b::r).length:=by split <;> simp
     generalize (if b.toNat=92 then r else b::r)=X at h hX
     cases X with
     | nil=>cases h; cases hn
     | cons c t=>
      simp only at h;split at h
      ·cases h; cases hn; exact hX
      ·have:=(ih k).1 _ e n h hn;rw [ro] at this; omega
  ·intro d l e n h hn;rw [qw] at h;have hk:=se false l
   cases hsk:hQ false l with
   | nil=>rw [hsk,Jo] at h; cases h; cases hn
   | cons b r=>
    rw [hsk] at hk;rw [hsk,qx] at h
    cases ht:ll (hZ f k) (b::r) with
    | inl e'=>
     rw [ht,vW] at h; cases h;exact Nat.le_trans (Dh (λ x y m hx hxy hm=>Nat.le_trans ((ih k).1 x y m hxy hm) hx) ht hn) hk
    | inr z=>
     obtain ⟨c,t,l'⟩:=z;have h1:=(mU (λ x y _ hxy=>(jr f k).1 x y hxy) ht).2;rw [ht,rz] at h;split at h
     ·split at h
      ·cases h
      ·have:=(ih k).2 _ _ e n h hn; omega
     split at h
     ·have:=(ih k).2 _ _ e n h hn; omega
     ·have:=(ih k).2 _ _ e n h hn; omega
theorem zr:∀ (f c:Nat) (l:Bk) (e:SE) (n:Nat),jw f c l=.inl e->e.2=some n->n<=l.length
 | 0,c,l,e,n,h,hn=>by rw [jw] at h; cases h; cases hn
 | f+1,c,l,e,n,h,hn=>by
  rw [mJ] at h;have hk:=se true l
  cases hsk:hQ true l with
  | nil=>
   rw [hsk,nT] at h;split at h
   ·cases h; cases hn; exact qr _
   ·cases h
  | cons b r=>
   rw [hsk] at hk;rw [hsk,mF] at h;split at h
   ·cases h; cases hn; exact hk
   split at h
   ·cases h; cases hn; exact hk
   cases ht:ll (hZ f 0) (b::r) with
   | inl e'=>
    rw [ht] at h; cases h
    cases he:e'.2 with
    | none=>unfold J9 at hn; rw [he] at hn; cases hn; exact hk
    | some m=>
     unfold J9 at hn; rw [he] at hn; cases hn;exact Nat.le_trans (Dh (λ x y m hx hxy hm=>Nat.le_trans ((II f 0).1 x y m hxy hm) hx) ht he) hk
   | inr z=>
    obtain ⟨k,t,l'⟩:=z;have h1:=(mU (λ x y _ hxy=>(jr f 0).1 x y hxy) ht).2;rw [ht,n0] at h
    cases hs:jw f (c+1) l' with
    | inl e'=>
     rw [hs] at h; cases h;have:=zr f (c+1) l' e n hs hn;omega
    | inr ts'=>rw [hs] at h; cases h
theorem K6 (s:Bk):0<=(fg s).2.fAt/\(fg s).2.fAt<=(s.length:Int):=by
 unfold fg;split
 ·exact ⟨Int.le_refl _,by show (0:Int)<=_; omega⟩
 ·cases hs:jw (s.length+1) 0 s with
  | inr ts=>exact ⟨Int.le_refl _,by show (0:Int)<=_; omega⟩
  | inl e=>
   show 0<=(yi s 0 e).fAt/\(yi s 0 e).fAt<=_;unfold yi
   cases he:e.2 with
   | none=>exact ⟨Int.le_refl _,by show (0:Int)<=_; omega⟩
   | some n=>
    have:=zr _ _ _ e n hs he;exact ⟨by show 0<=(s.length:Int)-(n:Int); omega,by show (s.length:Int)-(n:Int)<=_; omega⟩
theorem Nk {f:Nat}(ih:Fol f):∀ (s:Bk) (a:Int) q,0<=a->a+(s.length:Int)<=1000000000->kM (f+1) s a=some q->Ev2 (λ n _=>jS n s a) (WOut q):=by
 intro s a q h0 h1 hq;rw [kM] at hq;refine cz ?_;simp only [jS];refine aC _ (DU s) ?_;by_cases hk:(fg s).2.Ar=0
 ·rw [if_neg (by simpa using hk)] at hq;refine ay hk ?_;have hg:=uC h0 h1 hk;have NK:(fg s).1.length<=65537:=(uK h0 h1 hk).2.2;have hL:=hg.1;have hL1:(fg s).1.length<=1000000000:=by omega
  generalize hLL:(fg s).1=L at hq hL NK hL1
  have Ob:0<L.length:=by
   have:=Ei hL;rcases Nat.eq_zero_or_pos L.length with q|q
   ·rw [List.length_eq_zero_iff.1 q] at this; exact absurd rfl this
   ·exact q
  have hpos:Pos L a 0 1 true (L.map (mvT a)):=⟨Ob,by decide,by omega,Z,Z⟩
  cases hx:iO f true (L.map (mvT a)) with
  | none=>rw [hx] at hq; cases hq
  | some y=>
   rw [hx] at hq;have hr:=ih.e true _ L a hL hL1 0 1 y hpos hx;rcases y with e|⟨x,l⟩
   ·cases hq
    refine am _ hr ?_;rintro ⟨z1,z2⟩ ⟨he,j,l',h2,h3⟩
    cases h2
    refine am (λ t=>∃ j:Nat,t=(L,(j:Int),1,a,e.1,e.2,[])) (am _ (lW hL hL1 h3) ?_) ?_
    ·rintro ⟨z1,z2⟩ ⟨h1,j,h2,h3,h4,h5⟩;replace h1:z1=_:=h1; subst h1; cases h2;exact aR (λ _=>ae ⟨j,rfl⟩) (λ _=>aC _ (aT (Dz he _ _ _ _) rfl) (ae ⟨j,rfl⟩))
    ·rintro _ ⟨j,rfl⟩;exact ae ⟨he,rfl⟩
   ·refine am _ hr ?_;rintro ⟨z1,z2⟩ ⟨hz,j,h2,h3⟩;replace hz:z1=_:=hz; subst hz; cases h2;have hq:(if (hd true l).Ar=6 then some (.inr z1) else some (.inl (2,(hd true l).fAt)))=some q:=hq;by_cases k6:(hd true l).Ar=6
    ·rw [if_pos k6] at hq; cases hq;refine am (λ t=>∃ j:Nat,t=(L,(j:Int),1,a,0,0,[])) (am _ (lW hL hL1 h3) ?_) ?_
     ·rintro ⟨y1,y2⟩ ⟨h1,j,h2,h3,h4,h5⟩;replace h1:y1=_:=h1; subst h1; cases h2;exact ay k6 (ae ⟨j,rfl⟩)
     ·rintro _ ⟨j,rfl⟩;exact ae rfl
    ·rw [if_neg k6] at hq; cases hq;refine am (λ t=>∃ j:Nat,t=(L,(j:Int),1,a,2,(hd true l).fAt,[])) (am _ (lW hL hL1 h3) ?_) ?_
     ·rintro ⟨y1,y2⟩ ⟨h1,j,h2,h3,h4,h5⟩;replace h1:y1=_:=h1; subst h1; cases h2;exact ax k6 (aC _ xS (ae ⟨j,rfl⟩))
     ·rintro _ ⟨j,rfl⟩;exact ae ⟨(by decide:(2:Int)≠0),rfl⟩
 ·rw [if_pos hk] at hq; cases hq;have:=K6 s;refine ax hk (aE bO (ae ⟨hk,rfl⟩))
theorem Em {s:Bk}{a:Int}{i fr:Nat}(text:Bk)(parts:List ag)(OI:Bool)(ha:0<=a)(h1:a+(s.length:Int)<=1000000000)(hi:i<=s.length)(hf:fr<=i)(hp:parts.length<=2*i) :
  fb (.mk s a (i:Int) (fr:Int) text parts OI)=some (.mk s a (i:Int) (fr:Int) [] (flS (a+(fr:Int)) (a+(i:Int)) text parts) OI):=by
 unfold fb flS;by_cases h:fr<i
 ·rw [if_pos (by show (fr:Int)<(i:Int); omega),if_pos O];show ((ck (inR (a+(fr:Int)))<|ck ((parts.length+1)*160<=140737488355328)<|some (parts++[Gx text (a+(fr:Int))]):Option (List ag)).bind λ f6=>some (aA.mk s a (i:Int) (fr:Int) ([]:Bk) f6 OI))=_;rw [jW bO,jW O]; rfl
 ·rw [if_neg (by show ¬ (fr:Int)<(i:Int); omega),if_neg O]; rfl
theorem zJ {e:ag}(hb:Sz e):Ev2 (λ n _=>gU n e dOk) (·=Mq (BE (.inr e))):=by
 simp only [gU];refine ay rfl (aC _ (yP hb) ?_);by_cases h:chk e=0
 ·exact ay h (ae (by unfold BE; simp only [h,if_true]; rfl))
 ·exact ax h (ae (by unfold BE; simp only [h,if_false]; rfl))
theorem L5 {f:Nat}(ih:Fol f):∀ (s:Bk) (a:Int) q,0<=a->a+(s.length:Int)<=1000000000->nr (f+1) s a=some q->Ev2 (λ n _=>iT n s a) (·=Mq q):=by
 intro s a q h0 h1 hq;rw [nr] at hq;refine cz ?_;simp only [iT]
 cases hr:j9 f a a [] [] false s with
 | none=>rw [hr] at hq; cases hq
 | some y=>
  rw [hr] at hq;have NR:=(fct f).r a a [] [] false s (2*s.length) h0 h1 (by decide) (λ y hy=>by cases hy) G y hr;have hread:=ih.r s a 0 0 [] [] false y h0 h1 (qr _) (bt _) (by decide) (by decide) (by simpa using hr);rcases y with e|⟨frm,pos,text,parts,OI⟩
  ·cases hq
   refine am (λ r=>e.1≠0/\r.1=eD e) (cz ?_) ?_
   ·simp only [gB];refine dH (bZ Fq ?_);rintro r ⟨he,t,rfl⟩;exact ⟨he,rfl⟩
   ·rintro ⟨r1,r2⟩ ⟨he,hz⟩
    cases hz
    exact ax he (ae Z)
  ·have hq:some (BE (.inr (uY a (frm,pos,text,parts,OI))))=some q:=hq
   cases hq
   refine am (λ r=>∃ (i fr:Nat),frm=a+(fr:Int)/\pos=a+(i:Int)/\fr<=i/\i<=s.length/\parts.length<=2*i/\r=(dOk,.mk s a (i:Int) (fr:Int) text parts OI)) (cz ?_) ?_
   ·simp only [gB];refine dH (bZ Fq ?_);rintro r ⟨i,fr,g1,g2,g3,g4,g5,rfl⟩;exact ae ⟨i,fr,g1,g2,g3,g4,g5,rfl⟩
   ·rintro _ ⟨i,fr,rfl,rfl,g3,g4,g5,rfl⟩;have hz:Sz (uY a (a+(fr:Int),a+(i:Int),text,parts,OI)):=zU O NR;refine ay rfl (aC _ nN ?_)
    cases OI with
    | true=>
     refine aC (2,0,[],[],0,0,[],[],[],flS (a+(fr:Int)) (a+(i:Int)) text parts,a) (ay Z (aC _ (aT (Em text parts true h0 h1 g4 g3 g5) Z) (ae Z))) ?_;exact aC _ (zJ hz) (ae Z)
    | false=>
     refine aC (1,0,[],[],3,0,text,[],[],[],a) vA ?_;exact aC _ (zJ hz) (ae Z)
theorem Nf {f:Nat}(ih:Fol f):∀ (s:Bk) (a:Int) (i fr:Nat) (text:Bk) (parts:List ag) (OI:Bool) q,0<=a->a+(s.length:Int)<=1000000000->i<=s.length->fr<=i->text.length<=4096->parts.length<=2*i->j9 (f+1) (a+(fr:Int)) (a+(i:Int)) text parts OI (s.drop i)=some q ->
  Ev2 (λ n m=>cA n (a8 n) m s a (i:Int) (fr:Int) text parts OI) (RdO s a q):=by
 intro s a i fr text parts OI q h0 h1 hi hf ht hp hq;refine bc ?_;simp only [cA]
 cases hl:s.drop i with
 | nil=>
  rw [hl,j9] at hq; cases hq;have:=KB hl;exact ax O (ae ⟨i,fr,rfl,rfl,hf,hi,hp,rfl⟩)
 | cons b r=>
  obtain ⟨g1,g2,g3⟩:=zS hl;have hsub:sub s (i:Int) (s.length:Int)=b::r:=by rw [kG,Int.toNat_natCast,hl]
  have NK:(b::r).length=s.length-i:=by rw [<- hl,ro]
  rw [hl,j9] at hq;refine ay O (aE O ?_);rw [hsub];by_cases hp3:hasPrefix (b::r) [36,36,123]=true
  ·rw [if_pos hp3] at hq;have hpl:=qA hp3;simp only [cl,n7] at hpl NK;have hlong:=Il s a ((i:Int)+3) (fr:Int) (text++[36,123]) parts OI bO;have htl:(text++[36,123]).length=text.length+2:=by simp
   rw [htl] at hlong;by_cases hlg:4096<text.length+2
   ·rw [if_pos hlg] at hq hlong; cases hq;refine aC (3,a+(fr:Int),[],s,a,(i:Int)+3,(fr:Int),text++[36,123],parts,OI) ?_ (ax (show ¬ (3:Int)=0 by decide) (ae ⟨(by decide:(3:Int)≠0),_,rfl⟩));exact IE
   ·rw [if_neg hlg] at hq hlong;refine aC (0,0,[],s,a,(i:Int)+3,(fr:Int),text++[36,123],parts,OI) ?_ (ay rfl ?_)
    ·exact IE
    ·have e3:s.drop (i+3)=(b::r).drop 3:=by rw [w5 s i 3,hl]
     have:=ih.r s a (i+3) fr (text++[36,123]) parts OI q h0 h1 O O O O  (by
      rw [e3,show a+((i+3:Nat):Int)=a+(i:Int)+3 by omega]; exact hq)
     rw [show ((i+3:Nat):Int)=(i:Int)+3 by omega] at this;exact this
  rw [if_neg hp3] at hq;by_cases hp2:hasPrefix (b::r) [36,123]=true
  ·rw [if_pos hp2] at hq;have hpl:=qA hp2;simp only [cl,n7] at hpl NK;have e2:s.drop (i+2)=(b::r).drop 2:=by rw [w5 s i 2,hl]
   have hfl:=Em text parts OI h0 h1 hi hf hp;have hflen:(flS (a+(fr:Int)) (a+(i:Int)) text parts).length<=parts.length+1:=by unfold flS; split <;> simp
   cases hc:iP f 1 ((b::r).drop 2) with
   | none=>rw [hc] at hq; cases hq
   | some y=>
    rw [hc] at hq;have hcl:=Dx ((I2 (s:=s) O f).1 1 (i+2) ((i:Int)+2) 1 y O rfl (by decide) lL O (by rw [e2]; exact hc));have pre:∀ {P:au×aA->Prop},Ev2 (λ n _=>(a8 (n+1) (aA.mk s a (i:Int) (fr:Int) text parts OI))) P->Ev2 (λ n _=>(a8 n (aA.mk s a (i:Int) (fr:Int) text parts OI))) P:=λ h=>cz h
    cases y with
    | none=>
     cases hq
     refine aC (40,a+(i:Int),[],s,a,(i:Int),(fr:Int),[],flS (a+(fr:Int)) (a+(i:Int)) text parts,true) ?_ (ax (show ¬ (40:Int)=0 by decide) (ae ⟨(by decide:(40:Int)≠0),_,Z⟩));refine aC false sX (ax rg (aC true (aT (nE _ _) hp2) (ay Z ?_)));refine aC (au.mk 40 (a+(i:Int)) [],aA.mk s a (i:Int) (fr:Int) [] (flS (a+(fr:Int)) (a+(i:Int)) text parts) true) (pre ?_) (ae Z);simp only [a8];exact aC _ (aT hfl Z) (aE BZ (aC _ hcl (ay (by show (-1:Int)<0; decide) (aE Ia (ae Z)))))
    | some r'=>
     simp only at hq;have hsf:=(lu f).1 _ _ _ hc;have NI:=hsf.2;have hd2:((b::r).drop 2).length=s.length-(i+2):=by rw [<- e2,ro]
     have hrs:r' <:+ s:=by rw [<- e2] at hsf; exact hsf.1.trans (List.drop_suffix _ _)
     have hsd:=MO hrs;have hcp:LN s (some r')=((s.length-r'.length-1:Nat):Int):=by show (s.length:Int)-(r'.length:Int)-1=_; omega
     rw [hcp] at hcl
     have hsub2:sub s ((i:Int)+2) ((s.length-r'.length-1:Nat):Int)=((b::r).drop 2).take (((b::r).drop 2).length-r'.length-1):=by
      rw [show (i:Int)+2=((i+2:Nat):Int) by omega,sf,List.drop_take,e2];congr 1; omega
     generalize hX:((b::r).drop 2).take (((b::r).drop 2).length-r'.length-1)=X at hq hsub2;have hXl:X.length<=((b::r).drop 2).length:=by rw [<- hX,List.length_take]; omega
     cases hw:kM f X (a+(i:Int)+2) with
     | none=>rw [hw] at hq; cases hq
     | some z=>
      rw [hw] at hq;have hwh:=ih.w X (a+(i:Int)+2) z O O  hw
      have lead:∀ {P:au×aA->Prop},Ev2 (λ n _=>(jS n X (a+(i:Int)+2)).bind λ Ov=>if Ov.2.Ar=0 then ck (((flS (a+(fr:Int)) (a+(i:Int)) text parts).length+1)*160<=140737488355328)<|ck (inR (((s.length-r'.length-1:Nat):Int)+1))<|some (au.mk 0 0 ([]:Bk),aA.mk s a (((s.length-r'.length-1:Nat):Int)+1) (((s.length-r'.length-1:Nat):Int)+1) [] (flS (a+(fr:Int)) (a+(i:Int)) text parts++[Ov.1]) true) else some (Ov.2,aA.mk s a (i:Int) (fr:Int) [] (flS (a+(fr:Int)) (a+(i:Int)) text parts) true)) P ->
        Ev2 (λ n _=>(a8 n (aA.mk s a (i:Int) (fr:Int) text parts OI))) P:=by
       intro P hP;refine pre ?_;simp only [a8];refine aC _ (aT hfl rfl) (aE BZ (aC _ hcl (ax O (aE BZ (aE ⟨by show (0:Int)<=(i:Int)+2; omega,by show (i:Int)+2<=_; omega,by show _<=(s.length:Int); omega⟩ (aE Ia (aE (eM (by show _<=a+(i:Int)+2; omega) (by show a+(i:Int)+2<=_; omega)) ?_)))))));simp only [hsub2];exact hP
      rcases z with e|e
      ·cases hq
       have he:=(fct f).w X (a+(i:Int)+2) O O  _ hw;refine aC (e.1,e.2,[],s,a,(i:Int),(fr:Int),[],flS (a+(fr:Int)) (a+(i:Int)) text parts,true) ?_ (ax he (ae ⟨he,_,rfl⟩));refine aC false sX (ax rg (aC true (aT (nE _ _) hp2) (ay rfl ?_)));refine aC (eD e,aA.mk s a (i:Int) (fr:Int) [] (flS (a+(fr:Int)) (a+(i:Int)) text parts) true) (lead (am _ hwh ?_)) (ae rfl);rintro ⟨w1,w2⟩ ⟨_,hz⟩
       cases hz
       exact ax he (ae Z)
      ·have hq:j9 f (a+(i:Int)+(((b::r).length-r'.length:Nat):Int)) (a+(i:Int)+(((b::r).length-r'.length:Nat):Int)) [] (flS (a+(fr:Int)) (a+(i:Int)) text parts++[e]) true r'=some q:=hq
       have hpos:a+(i:Int)+(((b::r).length-r'.length:Nat):Int)=a+((s.length-r'.length:Nat):Int):=by
        have:=hsf.1.length_le;simp only [cl] at hd2 ⊢; omega
       rw [hpos] at hq;have hi2:((s.length-r'.length-1:Nat):Int)+1=((s.length-r'.length:Nat):Int):=by omega
       refine aC (0,0,[],s,a,((s.length-r'.length:Nat):Int),((s.length-r'.length:Nat):Int),[],flS (a+(fr:Int)) (a+(i:Int)) text parts++[e],true) ?_ (ay Z ?_)
       ·refine aC false sX (ax rg (aC true (aT (nE _ _) hp2) (ay rfl ?_)));refine aC (dOk,aA.mk s a ((s.length-r'.length:Nat):Int) ((s.length-r'.length:Nat):Int) [] (flS (a+(fr:Int)) (a+(i:Int)) text parts++[e]) true) (lead (am _ hwh ?_)) (ae rfl);rintro _ rfl;refine ay rfl (aE O (aE bO (ae ?_)));rw [hi2]; rfl
       ·exact ih.r s a (s.length-r'.length) (s.length-r'.length) [] _ true q h0 h1 O (bt _) (by decide) (by rw [la,List.length_singleton]; omega) (by rw [hsd]; exact hq)
  rw [if_neg hp2] at hq;have hit:=L2 (s:=s) O (a:=a) (fr:=(fr:Int)) (i:=i) h0 O O O text ht parts OI hl
  cases hi':mT (b::r) with
  | inl k=>
   rw [hi'] at hq hit; cases hq;have hk:=Ea hi';refine am (λ t=>t.1=k/\t.2.1=a+(i:Int)/\t.2.2.1=[]) ?_ ?_
   ·refine aC false sX (ax rg (aC false B3 (ax rg ?_)));refine am _ hit ?_;rintro ⟨z1,z2⟩ hz;have hz:z1=au.mk k (a+(i:Int)) []:=hz;subst hz;exact ae ⟨rfl,rfl,rfl⟩
   ·rintro ⟨t1,t2,t3,t4⟩ ⟨k1,k2,k3⟩;simp only at k1 k2 k3;subst k1 k2 k3;exact ax hk (ae ⟨hk,_,rfl⟩)
  | inr tn=>
   obtain ⟨t,n⟩:=tn;rw [hi'] at hq hit;have hq:(if 4096<text.length+t.length then some (.inl (3,a+(fr:Int))) else j9 f (a+(fr:Int)) (a+(i:Int)+(n:Int)) (text++t) parts OI ((b::r).drop n))=some q:=hq;have hn:=vf hi';by_cases hlg:4096<text.length+t.length
   ·rw [if_pos hlg] at hq; cases hq;refine am (λ t=>t.1=3/\t.2.1=a+(fr:Int)/\t.2.2.1=[]) ?_ ?_
    ·refine aC false sX (ax rg (aC false B3 (ax rg ?_)));refine am _ hit ?_;rintro ⟨z1,z2⟩ hz;unfold ItO at hz;simp only [if_pos hlg] at hz;subst hz;exact ae ⟨rfl,rfl,rfl⟩
    ·rintro ⟨t1,t2,t3,t4⟩ ⟨k1,k2,k3⟩;simp only at k1 k2 k3;subst k1 k2 k3;exact ax (show ¬ (3:Int)=0 by decide) (ae ⟨(by decide:(3:Int)≠0),_,rfl⟩)
   ·rw [if_neg hlg] at hq;refine aC (0,0,[],s,a,(i:Int)+(n:Int),(fr:Int),text++t,parts,OI) ?_ (ay rfl ?_)
    ·refine aC false sX (ax rg (aC false B3 (ax rg ?_)));refine am _ hit ?_;rintro ⟨z1,z2⟩ hz;unfold ItO at hz;simp only [if_neg hlg] at hz
     cases hz
     exact ae Z
    ·have e3:s.drop (i+n)=(b::r).drop n:=by rw [w5 s i n,hl]
     have:=ih.r s a (i+n) fr (text++t) parts OI q h0 h1 O O  BU O (by
      rw [e3,show a+((i+n:Nat):Int)=a+(i:Int)+(n:Int) by omega]; exact hq)
     rw [show ((i+n:Nat):Int)=(i:Int)+(n:Int) by omega] at this;exact this
theorem fol:∀ f,Fol f:=by
 intro f
 induction f with
 | zero=>
  constructor
  ·intro b l L base hL NK i NJ q h hq; rw [iO] at hq; cases hq
  ·intro Oa li b l _ _ L base hL NK i NJ q h hq; rw [rj] at hq; cases hq
  ·intro Oa li b l x r5 _ _ _ L base hL NK i NJ q h hq; rw [tJ] at hq; cases hq
  ·intro b l L base hL NK i NJ q h hq; rw [unS] at hq; cases hq
  ·intro b l x r1 _ L base hL NK i NJ q h hq; rw [nu] at hq; cases hq
  ·intro b l L base hL NK i NJ q h hq; rw [p6] at hq; cases hq
  ·intro b l _ L base hL NK i NJ q h hq; rw [vB] at hq; cases hq
  ·intro b l _ L base hL NK i NJ q h hq; rw [qQ] at hq; cases hq
  ·intro en l out _ _ L base hL NK i NJ q h hq; rw [kl] at hq; cases hq
  ·intro l out _ _ L base hL NK i NJ q h hq; rw [tS] at hq; cases hq
  ·intro l L base hL NK i NJ q h hq; rw [qJ] at hq; cases hq
  ·intro a k l _ _ L base hL NK i NJ b q _ _ h hq; rw [oX] at hq; cases hq
  ·intro s a q _ _ hq; rw [nr] at hq; cases hq
  ·intro s a i fr text parts OI q _ _ _ _ _ _ hq; rw [j9] at hq; cases hq
  ·intro s a q _ _ hq; rw [kM] at hq; cases hq
 | succ f ih=>exact ⟨Ni ih,Nh ih,Mj ih,Ng ih,Mu ih,Nv ih,Nt ih,Nc ih,M4 ih,M9 ih,Nx ih,MG ih,L5 ih,Nf ih,Nk ih⟩
end Go.Ab.R06
end
section
namespace Go.Ab
open Go.Proofs Go.Ab
variable {p:Prop}
theorem CR (h:p:=by
 refine b8 Z ?_;refine fq Z Z Z Z ?_;refine eR ?_
 (repeat (first|refine bK ?_|refine ca ?_|refine da ?_|refine bY Z ?_|refine cU ?_|refine bJ ?_|refine bM ?_|refine a7 ?_|refine bo ?_|refine bg Z ?_|refine noGoto_ret ?_|refine noGoto_exit ?_|refine noGoto_normal ?_))
 refine oj ?_
 (repeat (first|refine bK ?_|refine ca ?_|refine da ?_|refine bY Z ?_|refine cU ?_|refine bJ ?_|refine bM ?_|refine a7 ?_|refine bo ?_|refine bg Z ?_|refine noGoto_ret ?_|refine noGoto_exit ?_|refine noGoto_normal ?_))
 refine xM Z ?_
 exact AV.sub_vec _ _ _ _):p:=h
theorem B7 (h:p:=by
 refine dC ?_;refine fA ?_;refine b8 Z ?_;refine fq Z Z Z Z ?_;refine eR ?_
 (repeat (first|refine bK ?_|refine ca ?_|refine da ?_|refine bY Z ?_|refine cU ?_|refine bJ ?_|refine bM ?_|refine a7 ?_|refine bo ?_|refine bg Z ?_|refine noGoto_ret ?_|refine noGoto_exit ?_|refine noGoto_normal ?_))
 refine oj ?_
 (repeat (first|refine bK ?_|refine ca ?_|refine da ?_|refine bY Z ?_|refine cU ?_|refine bJ ?_|refine bM ?_|refine a7 ?_|refine bo ?_|refine bg Z ?_|refine noGoto_ret ?_|refine noGoto_exit ?_|refine noGoto_normal ?_))
 refine xM Z ?_
 exact gm _):p:=h
theorem G3 (h:p:=by exact bn 7 800000 Z Z Z Z (aF Z (aG _) Z)):p:=h
attribute [local irreducible] awp fV aX aK aS gG AV.sub
theorem iB (l:List Bk)(NK:l.length*16<=140737488355328):aK Tryz.prog 77 [eL eS l] (·=.p (eL eS l)):=by
 refine bV good Tryz.func77 Z Z Z λ w0=>?_;refine dC ?_;refine fA ?_;refine b8 Z ?_;refine fq Z Z Z Z ?_;refine eR ?_
 (repeat (first|refine bK ?_|refine ca ?_|refine da ?_|refine bY Z ?_|refine cU ?_|refine bJ ?_|refine bM ?_|refine a7 ?_|refine bo ?_|refine bg Z ?_|refine noGoto_ret ?_|refine noGoto_exit ?_|refine noGoto_normal ?_))
 refine dC ?_;refine dC ?_;refine fA ?_;refine b8 Z ?_;refine b6 Z Z Z Z ?_;refine b8 Z ?_;refine oa Z Z Z Z Z Z Z Z (λ b hb=>?_);refine eR ?_
 (repeat (first|refine bK ?_|refine ca ?_|refine da ?_|refine bY Z ?_|refine cU ?_|refine bJ ?_|refine bM ?_|refine a7 ?_|refine bo ?_|refine bg Z ?_|refine noGoto_ret ?_|refine noGoto_exit ?_|refine noGoto_normal ?_))
 refine xd Z (λ hc=>?_) (λ hc=>?_)
 ·have he:l=[]:=by simpa using hb hc
  subst he;exact B7
 ·skip
  refine mA ?_
  (repeat (first|refine bK ?_|refine ca ?_|refine da ?_|refine bY Z ?_|refine cU ?_|refine bJ ?_|refine bM ?_|refine a7 ?_|refine bo ?_|refine bg Z ?_|refine noGoto_ret ?_|refine noGoto_exit ?_|refine noGoto_normal ?_))
  refine dC ?_;refine fA ?_;refine b8 Z ?_;refine rI Z Z Z Z Z Z Z 5 1 ?_;refine b8 Z ?_;refine b6 Z Z Z Z ?_;refine b8 Z ?_;refine fF eS [] l Z Z Z Z Z Z Z Z Z Z Z Z Z Y Z Z Z Z pK ?_;exact CR
theorem jz (l:List aw)(h:l.isEmpty=true):aK Tryz.prog 108 [eL bw l] (·=.p (eL bw [])):=by
 obtain rfl:l=[]:=by simpa using h
 refine bV good Tryz.func108 Z Z Z λ w0=>?_;refine dC ?_;refine fA ?_;refine b8 Z ?_;refine fq Z Z Z Z ?_;refine eR ?_
 (repeat (first|refine bK ?_|refine ca ?_|refine da ?_|refine bY Z ?_|refine cU ?_|refine bJ ?_|refine bM ?_|refine a7 ?_|refine bo ?_|refine bg Z ?_|refine noGoto_ret ?_|refine noGoto_exit ?_|refine noGoto_normal ?_))
 refine dC ?_;refine dC ?_;refine fA ?_;refine b8 Z ?_;refine b6 Z Z Z Z ?_;refine b8 Z ?_;refine oa Z Z Z Z Z Z Z Z (λ b hb=>?_);refine eR ?_
 (repeat (first|refine bK ?_|refine ca ?_|refine da ?_|refine bY Z ?_|refine cU ?_|refine bJ ?_|refine bM ?_|refine a7 ?_|refine bo ?_|refine bg Z ?_|refine noGoto_ret ?_|refine noGoto_exit ?_|refine noGoto_normal ?_))
 refine xd Z (λ hc=>?_) (λ hc=>?_)
 ·skip
  exact B7
 ·skip
  refine mA ?_
  (repeat (first|refine bK ?_|refine ca ?_|refine da ?_|refine bY Z ?_|refine cU ?_|refine bJ ?_|refine bM ?_|refine a7 ?_|refine bo ?_|refine bg Z ?_|refine noGoto_ret ?_|refine noGoto_exit ?_|refine noGoto_normal ?_))
  refine dC ?_;refine fA ?_;refine b8 Z ?_;refine rI Z Z Z Z Z Z Z 5 5 ?_;refine b8 Z ?_;refine b6 Z Z Z Z ?_;refine b8 Z ?_;refine fF bw [] [] Z Z Z Z Z Z Z Z Z Z Z Z Z (λ x=>congrArg List.length (aw.F' x)) Z Z Z Z (by decide) ?_;exact CR
theorem jB (l:List aw)(h:l.isEmpty=false)(NK:l.length*80<=140737488355328):aS Tryz.prog 108 [.p (eL bw l)] [] (λ x y=>x=.arr 2000000 5 0 l.length/\y=[(2000000,jJ bw l)]):=by
 refine bT good [800000] [800000] Tryz.func108 Z Z Z Z Z λ w0 F=>?_;refine dC ?_;refine fA ?_;refine b8 Z ?_;refine fq Z Z Z Z ?_;refine eR ?_
 (repeat (first|refine bK ?_|refine ca ?_|refine da ?_|refine bY Z ?_|refine cU ?_|refine bJ ?_|refine bM ?_|refine a7 ?_|refine bo ?_|refine bg Z ?_|refine noGoto_ret ?_|refine noGoto_exit ?_|refine noGoto_normal ?_))
 refine dC ?_;refine dC ?_;refine fA ?_;refine b8 Z ?_;refine b6 Z Z Z Z ?_;refine b8 Z ?_;refine oa Z Z Z Z Z Z Z Z (λ b hb=>?_);refine eR ?_
 (repeat (first|refine bK ?_|refine ca ?_|refine da ?_|refine bY Z ?_|refine cU ?_|refine bJ ?_|refine bM ?_|refine a7 ?_|refine bo ?_|refine bg Z ?_|refine noGoto_ret ?_|refine noGoto_exit ?_|refine noGoto_normal ?_))
 refine xd Z (λ hc=>?_) (λ hc=>?_)
 ·have he:l=[]:=by simpa using hb hc
  subst he
  cases h
 ·skip
  refine mA ?_
  (repeat (first|refine bK ?_|refine ca ?_|refine da ?_|refine bY Z ?_|refine cU ?_|refine bJ ?_|refine bM ?_|refine a7 ?_|refine bo ?_|refine bg Z ?_|refine noGoto_ret ?_|refine noGoto_exit ?_|refine noGoto_normal ?_))
  refine dC ?_;refine fA ?_;refine b8 Z ?_;refine w4 Z Z Z Z Z Z 5 ?_;refine b8 Z ?_;refine b6 Z Z Z Z ?_;refine b8 Z ?_;refine En bw [] l Z Z Z Z Z Z Z Z Z Z Z Z Z Z Z (λ x=>congrArg List.length (aw.F' x)) Z Z Z pK ?_;refine b8 Z ?_;refine fq Z Z Z Z ?_;refine eR ?_
  (repeat (first|refine bK ?_|refine ca ?_|refine da ?_|refine bY Z ?_|refine cU ?_|refine bJ ?_|refine bM ?_|refine a7 ?_|refine bo ?_|refine bg Z ?_|refine noGoto_ret ?_|refine noGoto_exit ?_|refine noGoto_normal ?_))
  refine oj ?_
  (repeat (first|refine bK ?_|refine ca ?_|refine da ?_|refine bY Z ?_|refine cU ?_|refine bJ ?_|refine bM ?_|refine a7 ?_|refine bo ?_|refine bg Z ?_|refine noGoto_ret ?_|refine noGoto_exit ?_|refine noGoto_normal ?_))
  exact rN G3 Z Z Z BK (AV.sub_of_eq (congrArg (AV.arr 2000000 5 0) G)) Hp
theorem jU (l:List ag)(h:l.isEmpty=true):aK Tryz.prog 76 [eL av l] (·=.p (eL av [])):=by
 obtain rfl:l=[]:=by simpa using h
 refine bV good Tryz.func76 Z Z Z λ w0=>?_;refine dC ?_;refine fA ?_;refine b8 Z ?_;refine fq Z Z Z Z ?_;refine eR ?_
 (repeat (first|refine bK ?_|refine ca ?_|refine da ?_|refine bY Z ?_|refine cU ?_|refine bJ ?_|refine bM ?_|refine a7 ?_|refine bo ?_|refine bg Z ?_|refine noGoto_ret ?_|refine noGoto_exit ?_|refine noGoto_normal ?_))
 refine dC ?_;refine dC ?_;refine fA ?_;refine b8 Z ?_;refine b6 Z Z Z Z ?_;refine b8 Z ?_;refine oa Z Z Z Z Z Z Z Z (λ b hb=>?_);refine eR ?_
 (repeat (first|refine bK ?_|refine ca ?_|refine da ?_|refine bY Z ?_|refine cU ?_|refine bJ ?_|refine bM ?_|refine a7 ?_|refine bo ?_|refine bg Z ?_|refine noGoto_ret ?_|refine noGoto_exit ?_|refine noGoto_normal ?_))
 refine xd Z (λ hc=>?_) (λ hc=>?_)
 ·skip
  exact B7
 ·skip
  refine mA ?_
  (repeat (first|refine bK ?_|refine ca ?_|refine da ?_|refine bY Z ?_|refine cU ?_|refine bJ ?_|refine bM ?_|refine a7 ?_|refine bo ?_|refine bg Z ?_|refine noGoto_ret ?_|refine noGoto_exit ?_|refine noGoto_normal ?_))
  refine dC ?_;refine fA ?_;refine b8 Z ?_;refine rI Z Z Z Z Z Z Z 5 11 ?_;refine b8 Z ?_;refine b6 Z Z Z Z ?_;refine b8 Z ?_;refine fF av [] [] Z Z Z Z Z Z Z Z Z Z Z Z Z (λ x=>congrArg List.length (ag.F' x)) Z Z Z Z (by decide) ?_;exact CR
theorem jT (l:List ag)(h:l.isEmpty=false)(NK:l.length*160<=140737488355328):aS Tryz.prog 76 [.p (eL av l)] [] (λ x y=>x=.arr 2000000 11 0 l.length/\y=[(2000000,jJ av l)]):=by
 refine bT good [800000] [800000] Tryz.func76 Z Z Z Z Z λ w0 F=>?_;refine dC ?_;refine fA ?_;refine b8 Z ?_;refine fq Z Z Z Z ?_;refine eR ?_
 (repeat (first|refine bK ?_|refine ca ?_|refine da ?_|refine bY Z ?_|refine cU ?_|refine bJ ?_|refine bM ?_|refine a7 ?_|refine bo ?_|refine bg Z ?_|refine noGoto_ret ?_|refine noGoto_exit ?_|refine noGoto_normal ?_))
 refine dC ?_;refine dC ?_;refine fA ?_;refine b8 Z ?_;refine b6 Z Z Z Z ?_;refine b8 Z ?_;refine oa Z Z Z Z Z Z Z Z (λ b hb=>?_);refine eR ?_
 (repeat (first|refine bK ?_|refine ca ?_|refine da ?_|refine bY Z ?_|refine cU ?_|refine bJ ?_|refine bM ?_|refine a7 ?_|refine bo ?_|refine bg Z ?_|refine noGoto_ret ?_|refine noGoto_exit ?_|refine noGoto_normal ?_))
 refine xd Z (λ hc=>?_) (λ hc=>?_)
 ·have he:l=[]:=by simpa using hb hc
  subst he
  cases h
 ·skip
  refine mA ?_
  (repeat (first|refine bK ?_|refine ca ?_|refine da ?_|refine bY Z ?_|refine cU ?_|refine bJ ?_|refine bM ?_|refine a7 ?_|refine bo ?_|refine bg Z ?_|refine noGoto_ret ?_|refine noGoto_exit ?_|refine noGoto_normal ?_))
  refine dC ?_;refine fA ?_;refine b8 Z ?_;refine w4 Z Z Z Z Z Z 11 ?_;refine b8 Z ?_;refine b6 Z Z Z Z ?_;refine b8 Z ?_;refine En av [] l Z Z Z Z Z Z Z Z Z Z Z Z Z Z Z (λ x=>congrArg List.length (ag.F' x)) Z Z Z pK ?_;refine b8 Z ?_;refine fq Z Z Z Z ?_;refine eR ?_
  (repeat (first|refine bK ?_|refine ca ?_|refine da ?_|refine bY Z ?_|refine cU ?_|refine bJ ?_|refine bM ?_|refine a7 ?_|refine bo ?_|refine bg Z ?_|refine noGoto_ret ?_|refine noGoto_exit ?_|refine noGoto_normal ?_))
  refine oj ?_
  (repeat (first|refine bK ?_|refine ca ?_|refine da ?_|refine bY Z ?_|refine cU ?_|refine bJ ?_|refine bM ?_|refine a7 ?_|refine bo ?_|refine bg Z ?_|refine noGoto_ret ?_|refine noGoto_exit ?_|refine noGoto_normal ?_))
  exact rN G3 Z Z Z BK (AV.sub_of_eq (congrArg (AV.arr 2000000 11 0) G)) Hp
theorem jA (l:List ac)(NK:l.length*32<=140737488355328):aS Tryz.prog 115 [.p (eL az l)] [] (λ x y=>x=.vec 2000000 3 0 (l.map az)/\y=[]):=by
 refine bT good [800000] [] Tryz.func115 Z Z Z Z Z λ w0 F=>?_;refine dC ?_;refine fA ?_;refine b8 Z ?_;refine fq Z Z Z Z ?_;refine eR ?_
 (repeat (first|refine bK ?_|refine ca ?_|refine da ?_|refine bY Z ?_|refine cU ?_|refine bJ ?_|refine bM ?_|refine a7 ?_|refine bo ?_|refine bg Z ?_|refine noGoto_ret ?_|refine noGoto_exit ?_|refine noGoto_normal ?_))
 refine dC ?_;refine dC ?_;refine fA ?_;refine b8 Z ?_;refine b6 Z Z Z Z ?_;refine b8 Z ?_;refine oa Z Z Z Z Z Z Z Z (λ b hb=>?_);refine eR ?_
 (repeat (first|refine bK ?_|refine ca ?_|refine da ?_|refine bY Z ?_|refine cU ?_|refine bJ ?_|refine bM ?_|refine a7 ?_|refine bo ?_|refine bg Z ?_|refine noGoto_ret ?_|refine noGoto_exit ?_|refine noGoto_normal ?_))
 refine xd Z (λ hc=>?_) (λ hc=>?_)
 ·have he:l=[]:=by simpa using hb hc
  subst he;refine dC ?_;refine fA ?_;refine b8 rfl ?_;refine fq Z Z Z Z ?_;refine eR ?_
  (repeat (first|refine bK ?_|refine ca ?_|refine da ?_|refine bY Z ?_|refine cU ?_|refine bJ ?_|refine bM ?_|refine a7 ?_|refine bo ?_|refine bg Z ?_|refine noGoto_ret ?_|refine noGoto_exit ?_|refine noGoto_normal ?_))
  refine oj ?_
  (repeat (first|refine bK ?_|refine ca ?_|refine da ?_|refine bY Z ?_|refine cU ?_|refine bJ ?_|refine bM ?_|refine a7 ?_|refine bo ?_|refine bg Z ?_|refine noGoto_ret ?_|refine noGoto_exit ?_|refine noGoto_normal ?_))
  exact rN (aJ _) Z Z Z Z (AV.sub_nilvec _ _ _) trivial
 ·skip
  refine mA ?_
  (repeat (first|refine bK ?_|refine ca ?_|refine da ?_|refine bY Z ?_|refine cU ?_|refine bJ ?_|refine bM ?_|refine a7 ?_|refine bo ?_|refine bg Z ?_|refine noGoto_ret ?_|refine noGoto_exit ?_|refine noGoto_normal ?_))
  refine dC ?_;refine fA ?_;refine b8 Z ?_;refine rI Z Z Z Z Z Z Z 5 3 ?_;refine b8 Z ?_;refine b6 Z Z Z Z ?_;refine b8 Z ?_;refine fF az [] l Z Z Z Z Z Z Z Z Z Z Z Z Z (λ x=>congrArg List.length (ac.F' x)) Z Z Z Z pK ?_;refine b8 Z ?_;refine fq Z Z Z Z ?_;refine eR ?_
  (repeat (first|refine bK ?_|refine ca ?_|refine da ?_|refine bY Z ?_|refine cU ?_|refine bJ ?_|refine bM ?_|refine a7 ?_|refine bo ?_|refine bg Z ?_|refine noGoto_ret ?_|refine noGoto_exit ?_|refine noGoto_normal ?_))
  refine oj ?_
  (repeat (first|refine bK ?_|refine ca ?_|refine da ?_|refine bY Z ?_|refine cU ?_|refine bJ ?_|refine bM ?_|refine a7 ?_|refine bo ?_|refine bg Z ?_|refine noGoto_ret ?_|refine noGoto_exit ?_|refine noGoto_normal ?_))
  exact rN (bn 7 800000 Z Z Z Z Z) Z Z Z Z (AV.sub_refl _) trivial
end Go.Ab
end
section
namespace Go.Ab
variable {p:Prop}
theorem FL (h:p:=by
 cases hd:D t
 ·have:Nat.beq t tok=false:=by
   cases hb:Nat.beq t tok
   ·rfl
   ·rw [bx hb,h] at hd; cases hd
  simp only [AV.dem,hd,cond_false,AV.stl,this]
 ·simp only [AV.dem,hd,cond_true,AV.stl]):p:=h
theorem Iw (h:p:=by
 have h1:=List.any_eq_false.1 hd t ht;intro h2;rw [bx h2] at h1
 exact h1 h):p:=h
theorem Gm (h:p:=by
 rcases List.mem_append.1 hx with hx|hx
 ·exact N6 x hx c hc
 ·obtain ⟨i,hi⟩:=List.mem_iff_getElem?.1 hx;obtain ⟨j,hj⟩:=List.mem_iff_getElem?.1 hc
  exact (hnews i x j c hi hj).1):p:=h
theorem Cb (h:p:=by
 simp only [World.cell?,hb,sm];rw [h3]
 simp):p:=h
theorem Cy (h:p:=by
 rw [ph,Nat.one_mul] at this; omega):p:=h
theorem Ju (h:p:=by exact ⟨h2,by simp only [World.cell?,setRow_other w b b2 c' e1]⟩):p:=h
theorem pn {i n j sz:Nat}(h:i<n)(hj:j<sz):i*sz+j<n*sz:=by
 have:=py sz (show i+1<=n from h);rw [Nat.succ_mul] at this; omega
section
variable {C:Cx} {o:Oper} {K:AS->Prop} {sl:List (Nat×AV)} {ob:List (Nat×List AV)} {d:Nat}
theorem vh {es ys:List PV}{t tx e e':TypeId}{i ie j:TI}{y:Operand}{Y0z:AV}{k sz:Nat}(D:Nat->Bool)(hDl:∀ i,D i=true->i<M1)(hDk:D k=true)
  (hi:look C.tt t=some i) (N4:i.k=.slice e) (hie:look C.tt e=some ie) (hj:look C.tt tx=some j) (hjk:j.k=.slice e')
  (hy:evo sl y=some Y0z) (hY:Y0z.elems? = some ys) (hszy:∀ y∈ys,y.cells.length=sz) (hsze:∀ x∈es,x.cells.length=sz) (N6:∀ x∈es,∀ c∈x.cells,c.one=true)
  (h1s:ie.size=sz) (h0:0<sz) (hzl:ie.zero.length=ie.size)
  (NK:(es.length+ys.length)*ie.bytes<=140737488355328) (hlen':es.length+ys.length<=9223372036854775807)
  {g:Gh} {a:Act} {w:World} (hs:St C.n C.w0 C.F g ⟨sl,ob⟩ a w) (base:Option Addr) (cap:Nat) (olds:List Value)
  (hold:(Builtin.firstCells ie.size es.length (.slice base es.length cap)).run C.P w.drew=.ok olds.toArray w.drew) (hol:olds.length=es.length*sz)
  (hoc:∀ (i:Nat) x (j:Nat) p,es[i]? = some x->x.cells[j]? = some p->∃ u,olds[i*sz+j]? = some u/\PRep w g.st p u)
  (hg:cap<es.length+ys.length) (ty:TypeId) (hn:Nat.blt d C.n=true) :
  ∃ v w' g',(Builtin.append_ #[t,tx] ty #[.slice base es.length cap,a.eval y]).run C.P w=.ok v w' /\
   St C.n C.w0 C.F g' ⟨(d,.stk k sz (es++ys))::(cq D ⟨sl,ob⟩).sl,(cq D ⟨sl,ob⟩).ob⟩ (a.put (some d) v) w':=by
 subst h1s;obtain ⟨u,h1,h2⟩:=bA C.good hi;have h3:=bC (h2.trans N4);subst h3;obtain ⟨u',h1',h2'⟩:=bA C.good hj;have h3':=bC (h2'.trans hjk);subst h3';obtain ⟨info,hf1,hf2,hf3,z,hf4,hf5⟩:=ib C.good hie;have hyv:=iN hY (bv hs hy);obtain ⟨news,hsrc,hnews⟩:=wn (P:=C.P) (sz:=ie.size) h1' hyv hszy h0;have hfit:=growslice_fits (bytes:=ie.bytes) hg NK;have hrun:=run_append_grow_src w t tx ty e info z h1 hf1 hf4 base es.length cap olds (by rw [hf2]; exact hold) (a.eval y) ys.length news rk hg O (by rw [hf3]; exact hfit);obtain ⟨q,hq⟩:∃ q,q=grownCap w (es.length+ys.length) cap e:=⟨_,rfl⟩
 rw [<- hq] at hrun
 have hqn:es.length+ys.length<=q:=by
  exact C4
 have hzs:z.cells.size=ie.size:=by rw [<- hzl,<- hf5,Array.length_toList]
 have hnl:news.length=ys.length*ie.size:=hsrc.newsLen;obtain ⟨c,hc⟩:∃ c,c=(olds++news).toArray++Builtin.zeroCells z.cells (q-(es.length+ys.length)):=⟨_,rfl⟩
 rw [<- hc] at hrun
 have N0:c.size=q*ie.size:=by
  rw [hc];simp only [Array.size_append,List.size_toArray,la,hol,hnl,size_zeroCells,hzs];obtain ⟨r,rfl⟩:∃ r,q=es.length+ys.length+r:=⟨q-(es.length+ys.length),by omega⟩
  rw [Nat.add_sub_cancel_left,ph,ph]
 have hf:=hs.drew.fresh D hDl k hDk (λ o=>o=q*ie.size) c e;have NZ:=ly (w:=w.drew) (T:=λ o=>o=q*ie.size) (ob:=.cells c e) hs.drew.lt;have hlenA:(es++ys).length=es.length+ys.length:=la
 have hrep:ARep (w.drew.alloc (.cells c e)) ⟨λ b o=>g.st b o\/(b=w.drew.heap.size/\o=q*ie.size),λ i=>if i=k then some w.drew.heap.size else if D i then none else g.ow i⟩ (.stk k ie.size (es++ys)) (.slice (some ⟨w.drew.heap.size,0,none⟩) (es++ys).length q):=by
  refine .stk G dO N0 O (λ x hx=>?_) (λ x hx c hc=>?_) (λ o=>?_) (λ i x j p hx hp=>?_)
  ·rcases List.mem_append.1 hx with hx|hx
   ·exact hsze x hx
   ·exact hszy x hx
  ·exact Gm
  ·constructor
   ·rintro (h|⟨_,h⟩)
    ·exact Bw
    ·exact h
   ·intro h; exact .inr ⟨rfl,h⟩
  ·have hjl:j<x.cells.length:=(List.getElem?_eq_some_iff.1 hp).1
   have hget:∀ m,m<olds.length+news.length->c[m]? = if m<olds.length then olds[m]? else news[m-olds.length]?:=by
    intro m hm;rw [hc,Array.getElem?_append];simp only [List.size_toArray,la];rw [if_pos hm,List.getElem?_toArray,List.getElem?_append]
   rw [List.getElem?_append] at hx;split at hx
   ·rename_i hlt;rw [hsze x (List.mem_of_getElem? hx)] at hjl;have:=pn hlt hjl;obtain ⟨u,hu,hr⟩:=hoc i x j p hx hp;exact ⟨u,by rw [hget _ O,if_pos O]; exact hu,(PRep.mono (w:=w) (w':=w.drew) (st:=g.st) (st':=g.st) (λ b o h=>⟨h,rfl⟩) hr).mono NZ⟩
   ·rename_i hge;rw [hszy x (List.mem_of_getElem? hx)] at hjl;have hil:i-es.length<ys.length:=(List.getElem?_eq_some_iff.1 hx).1;have:=pn hil hjl;obtain ⟨k1,u,hu,hr⟩:=hnews (i-es.length) x j p hx hp
    have e1:i*ie.size+j=es.length*ie.size+((i-es.length)*ie.size+j):=by
     rw [<- Nat.add_assoc,<- ph]; congr 2; omega
    exact ⟨u,by rw [hget _ O,if_neg O,e1,hol,Nat.add_sub_cancel_left]; exact hu,(PRep.mono (w:=w) (w':=w.drew) (st:=g.st) (st':=g.st) (λ b o h=>⟨h,Z⟩) hr).mono NZ⟩
 rw [hlenA] at hrep;have hp:=hf.put (d:=some d) (λ t ht=>by cases ht; exact d3 ▸ hn) hrep;exact ⟨_,_,_,hrun,hp⟩
theorem y5 {t tx e e':TypeId}{x y:Operand}{k sz:Nat}{es:List PV}{X Y0z:AV}{ys:List PV}{i ie j:TI}(ho:o.op=.call { callee:=.builtin .append,args:=#[x,y],argTypes:=#[t,tx] })(hd:o.dst=some d)(hn:Nat.blt d C.n=true)
  (hi:look C.tt t=some i) (N4:i.k=.slice e) (hie:look C.tt e=some ie) (hj:look C.tt tx=some j) (hjk:j.k=.slice e') (hx:evo sl x=some X) (hX:X.sub (.stk k sz es)) (hk:Nat.blt k M1=true)
  (hy:evo sl y=some Y0z) (hY:Y0z.elems? = some ys) (hszy:∀ y∈ys,y.cells.length=sz) (hys:0<ys.length) (h1s:ie.size=sz) (h0:Nat.blt 0 sz=true) (hzl:Nat.beq ie.zero.length ie.size=true)
  (NK:(es.length+ys.length)*ie.bytes<=140737488355328) (hlen':es.length+ys.length<=9223372036854775807)
  (hK:K ⟨(d,.stk k sz (es++ys))::(cq (λ i=>Nat.beq i k) ⟨sl,ob⟩).sl,(cq (λ i=>Nat.beq i k) ⟨sl,ob⟩).ob⟩):aX C o K ⟨sl,ob⟩:=by
 have hzl':=bx hzl;have hk':k<M1:=d3 ▸ hk;have h0':0<sz:=d3 ▸ h0
 have hDl:∀ i,(Nat.beq i k)=true->i<M1:=by
  intro i hi;have:=bx hi; omega
 intro g a w hs;have hxr:=hX _ _ _ rt;generalize hxv:a.eval x=xv at hxr
 have hrun0:∀ v w',(Builtin.append_ #[t,tx] o.type #[xv,a.eval y]).run C.P w=.ok v w'->(execOp a.eval o).run C.P w=.ok (.value v) w':=by
  exact y9
 cases hxr with
 | stkn=>
  obtain ⟨v,w',g',hr',hst'⟩:=vh (es:=[]) (k:=k) (λ i=>Nat.beq i k) hDl G hi N4 hie hj hjk hy hY hszy G G  h1s h0' hzl' NK hlen' hs none 0 [] (run_firstCells_none w.drew ie.size 0 0 0) G (λ i x j p hx=>by simp at hx) (by simpa using hys) o.type hn;exact wd
 | stke=>
  rename_i a0;obtain ⟨v,w',g',hr',hst'⟩:=vh (es:=[]) (k:=k) (λ i=>Nat.beq i k) hDl G hi N4 hie hj hjk hy hY hszy G G  h1s h0' hzl' NK hlen' hs (some a0) 0 [] (run_firstCells_some w.drew ie.size 0 a0 0 0 [] G G) G (λ i x j p hx=>by simp at hx) (by simpa using hys) o.type hn;exact wd
 | stk how hb N0 hlenc hszc N6 N7 hr=>
  rename_i b cap c e0;subst h1s;by_cases hroom:es.length+ys.length<=cap
  ·obtain ⟨u,h1,h2⟩:=bA C.good hi;have h3:=bC (h2.trans N4);subst h3;obtain ⟨u',h1',h2'⟩:=bA C.good hj;have h3':=bC (h2'.trans hjk);subst h3';obtain ⟨info,hf1,hf2,hf3,z,hf4,hf5⟩:=ib C.good hie;have hyv:=iN hY (bv hs hy);obtain ⟨news,hsrc,hnews⟩:=wn (P:=C.P) (sz:=ie.size) h1' hyv hszy h0';have hnl:news.length=ys.length*ie.size:=hsrc.newsLen
   have hfit:es.length*ie.size+news.length<=c.size:=by
    rw [hnl,N0,<- ph]; exact py _ hroom
   have hstc:=run_storeCells_at C.P b (es.length*ie.size) e0 news 0 c w hb (by simpa using hfit) hsrc.one;simp only [Nat.add_zero] at hstc;obtain ⟨c',hc'⟩:∃ c',c'=(c.toList.take (es.length*ie.size)++news++c.toList.drop (es.length*ie.size+news.length)).toArray:=⟨_,rfl⟩
   rw [<- hc'] at hstc;have hrr:=oe t tx o.type e info h1 hf1 b es.length cap (a.eval y) ys.length news rk hroom xZ
   have hcell':∀ j,c'[j]? = if es.length*ie.size<=j/\j<es.length*ie.size+news.length then news[j-es.length*ie.size]? else c[j]?:=by
    intro j;rw [hc'];have:=jg c.toList news (es.length*ie.size) (by simpa using hfit) j;simpa using this
   have hcs':c'.size=cap*ie.size:=by rw [<- N0,hc']; simp; omega
   have hin:=hs.inplace (λ i=>Nat.beq i k) hDl (k:=k) (d:=k) how G G  hb (c':=c') (hcs'.trans N0.symm) (λ o h=>by
    have:=(N7 o).1 h
    rw [Array.getElem?_eq_none O,Array.getElem?_eq_none O]) (λ o=>o=cap*ie.size) (λ o h=>(N7 o).1 h)
   have hEv:Ev w g.st (w.setRow b c') (λ b' o=>(b'=b/\o=cap*ie.size)\/(b'≠b/\g.st b' o)):=by
    intro b' o h;by_cases e1:b'=b
    ·subst e1;have ho:=(N7 o).1 h;refine ⟨.inl ⟨rfl,ho⟩,?_⟩;simp only [World.cell?,setRow_heap w b' c c' e0 (0,0) hb,hb];rw [Array.getElem?_eq_none O,Array.getElem?_eq_none O]
    ·exact ⟨.inr ⟨e1,h⟩,by simp only [World.cell?,setRow_other w b b' c' e1]⟩
   have hlenA:(es++ys).length=es.length+ys.length:=la
   have hrep:ARep (w.setRow b c') ⟨λ b' o=>(b'=b/\o=cap*ie.size)\/(b'≠b/\g.st b' o),λ i=>if i=k then some b else if (Nat.beq i k) then none else g.ow i⟩ (.stk k ie.size (es++ys)) (.slice (some ⟨b,0,none⟩) (es++ys).length cap):=by
    refine .stk G (setRow_heap w b c c' e0 (0,0) hb) hcs' O (λ x hx=>?_) (λ x hx c hc=>?_) (λ o=>?_) (λ i x j p hx hp=>?_)
    ·rcases List.mem_append.1 hx with hx|hx
     ·exact hszc x hx
     ·exact hszy x hx
    ·exact Gm
    ·constructor
     ·rintro (⟨_,h⟩|⟨h,_⟩)
      ·exact h
      ·exact absurd Z h
     ·intro h; exact .inl ⟨rfl,h⟩
    ·have hjl:j<x.cells.length:=(List.getElem?_eq_some_iff.1 hp).1;rw [List.getElem?_append] at hx;split at hx
     ·rename_i hlt;rw [hszc x (List.mem_of_getElem? hx)] at hjl;have:=pn hlt hjl;obtain ⟨u,hu,hr⟩:=hr i x j p hx hp;exact ⟨u,by rw [hcell',if_neg O]; exact hu,hr.mono hEv⟩
     ·rename_i hge;rw [hszy x (List.mem_of_getElem? hx)] at hjl;have hil:i-es.length<ys.length:=(List.getElem?_eq_some_iff.1 hx).1;have:=pn hil hjl;obtain ⟨_,u,hu,hr⟩:=hnews (i-es.length) x j p hx hp
      have e1:i*ie.size+j=es.length*ie.size+((i-es.length)*ie.size+j):=by
       rw [<- Nat.add_assoc,<- ph]; congr 2; omega
      exact ⟨u,by rw [hcell',if_pos O,e1,Nat.add_sub_cancel_left]; exact hu,hr.mono hEv⟩
   rw [hlenA] at hrep;have hp:=hin.put (d:=some d) (λ t ht=>by cases ht; exact d3 ▸ hn) hrep;exact C8
  ·have hle:es.length*ie.size<=c.toList.length:=by
    have e1:c.toList.length=cap*ie.size:=Array.length_toList.trans N0;rw [e1]; exact py _ hlenc
   have hlenT:(c.toList.take (es.length*ie.size)).length=es.length*ie.size:=by
    rw [List.length_take]; omega
   have hold:(Builtin.firstCells ie.size es.length (.slice (some ⟨b,0,none⟩) es.length cap)).run C.P w.drew=.ok (c.toList.take (es.length*ie.size)).toArray w.drew:=by
    exact GG
   obtain ⟨v,w',g',hr',hst'⟩:=vh (es:=es) (k:=k) (λ i=>Nat.beq i k) hDl G hi N4 hie hj hjk hy hY hszy hszc N6 rfl h0' hzl' NK hlen' hs (some ⟨b,0,none⟩) cap (c.toList.take (es.length*ie.size))
    hold hlenT (λ i x j p hx hp=>by
     obtain ⟨u,hu,hr⟩:=hr i x j p hx hp;have hjl:j<x.cells.length:=(List.getElem?_eq_some_iff.1 hp).1;rw [hszc x (List.mem_of_getElem? hx)] at hjl;have:=pn (List.getElem?_eq_some_iff.1 hx).1 hjl
     exact ⟨u,by rw [List.getElem?_take,if_pos this]; simpa using hu,hr⟩) O o.type hn
   exact wd
def upK (tok sz n:Nat)(z:PV)(x:AV):AV:=match x with
 | .stk t s es=>bif Nat.beq t tok then (bif Nat.beq s sz then .stk t s (es.set n z) else .undef) else .stk t s es
 | x=>x.dem (Nat.beq · tok)
def KV (tok sz n:Nat)(z:PV):List AV->Option (List AV)
 | []=>some []
 | x::r=>(match frc (upK tok sz n z x) with
  | some y=>(match KV tok sz n z r with|some l=>some (y::l)|none=>none)
  | none=>none)
theorem Eg {tok sz n:Nat}{z:PV}:∀ {l l':List AV},KV tok sz n z l=some l'->l'=l.map (upK tok sz n z)
 | [],l',h=>by cases h; rfl
 | x::r,l',h=>by
  unfold KV at h;split at h
  ·rename_i y hy;split at h
   ·rename_i m hm; cases h; rw [qZ hy,Eg hm]; rfl
   ·cases h
  ·cases h
def CK (tok sz n:Nat)(z:PV):List (Nat×List AV)->Option (List (Nat×List AV))
 | []=>some []
 | (i,cs)::r=>(match Nat.beq i tok with
  | true=>CK tok sz n z r
  | false=>(match KV tok sz n z cs with
   | some ds=>(match CK tok sz n z r with|some l=>some ((i,ds)::l)|none=>none)
   | none=>none))
theorem tf {tok sz n:Nat}{z:PV}:∀ {l l':List (Nat×List AV)},CK tok sz n z l=some l'->∀ id cs,look l' id=some cs->id≠tok/\∃ ds,look l id=some ds/\cs=ds.map (upK tok sz n z)
 | [],l',h,id,cs,hc=>by cases h; cases hc
 | (i,xs)::r,l',h,id,cs,hc=>by
  unfold CK at h;split at h
  ·rename_i hb;obtain ⟨h1,ds,h2,h3⟩:=tf h id cs hc;exact BS
  ·rename_i hb;have hi:i≠tok:=λ e=>by subst e; simp at hb
   split at h
   ·rename_i ds hds;split at h
    ·rename_i m hm
     cases h
     rw [a6] at hc ⊢;by_cases e1:i=id
     ·subst e1;rw [if_pos rfl] at hc ⊢
      cases hc
      exact ⟨hi,xs,Z,Eg hds⟩
     ·rw [if_neg e1] at hc ⊢;exact tf hm id cs hc
    ·cases h
   ·cases h
theorem wS {z:PV}(hc:(AV.p z).cellsA=some (z.cells.map .p)){x:PV}(hx:x∈z.cells):x.one=true:=by
 have h9:PV.onesB z.cells=true\/z.one=true:=by
  cases z with
  | agg cs=>
   exact HE
  | val _=>
   exact Fp
  | slice _=>exact .inr Z
  | ifc=>exact .inr Z
  | aint _=>exact .inr Z
 rcases h9 with h9|h9
 ·exact ig h9 x hx
 ·have:z.cells=[z]:=by cases z <;> first|rfl|(simp [PV.one] at h9)
  rw [this] at hx;rw [List.mem_singleton.1 hx]; exact h9
theorem Az {t:TypeId}{x v:Operand}{i:TI}{tok sz n off:Nat}{es:List PV}{z:PV}{Y0z:AV}{sl':List (Nat×AV)}{ob':List (Nat×List AV)}(ho:o.op=.store t x v)(hd:o.dst=none)
  (hi:look C.tt t=some i) (hiz:i.size=sz) (hx:evo sl x=some (.ptr tok off)) (hoff:off=n*sz) (hq:∀ {g:Gh} {a:Act} {w:World},St C.n C.w0 C.F g ⟨sl,ob⟩ a w->∃ u,ARep w g (.stk tok sz es) u) (hn:n<es.length)
  (hv:evo sl v=some Y0z) (hY:Y0z.sub (.p z)) (hc:(AV.p z).cellsA=some (z.cells.map .p)) (hcl:Nat.beq z.cells.length sz=true) (htok:Nat.blt tok M1=true)
  (h1:sl'=sl.map λ p=>(p.1,upK tok sz n z p.2)) (h2:CK tok sz n z ob=some ob') (hK:K ⟨sl',ob'⟩):aX C o K ⟨sl,ob⟩:=by
 subst hiz h1 hoff;have htl:tok<M1:=d3 ▸ htok;have hcl':=bx hcl;intro g a w hs;have h5:=bv hs hx;have h6:ARep w g (.p z) (a.eval v):=hY _ _ _ (bv hs hv);obtain ⟨vq,h7⟩:=hq hs;obtain ⟨hs1,hs2⟩:=jY hc h6;rw [n6] at hs1;generalize NZ:a.eval x=u at h5
 cases h5 with
 | ptr how=>
 rename_i b
 cases h7 with
 | stkn=>simp at hn
 | stke=>simp at hn
 | stk how0 k2 N0 NK NR N6 N7 hr=>
  rename_i b0 cap c e;rw [how] at how0; cases how0;obtain ⟨p,hpd⟩:∃ p,p=n*i.size:=⟨_,rfl⟩
  rw [<- hpd] at NZ
  have hp:p+i.size<=c.size:=by
   have:=py i.size (show n+1<=cap by omega);rw [ph,Nat.one_mul] at this;rw [hpd,N0]; exact this
  have hone1:∀ u∈(a.eval v).cells.toList,u.oneCell'=true:=by
   exact H5
  have hstc:=run_storeCells_at C.P b p e (a.eval v).cells.toList 0 c w k2 hC hone1;simp only [Nat.add_zero,Array.length_toList] at hstc;obtain ⟨c',hc'⟩:∃ c',c'=(c.toList.take p++(a.eval v).cells.toList++c.toList.drop (p+(a.eval v).cells.size)).toArray:=⟨_,rfl⟩
  rw [<- hc'] at hstc;have hsz':=run_sizeOf C.good hi w;have Ob:(a.eval v).cells.size=i.size:=hs1.trans hcl';unfold Oper.wp
  have hrun:(execOp a.eval o).run C.P w=.ok .skip (w.setRow b c'):=by
   exact Hj
  rw [hrun];simp only [Oper.upon,hd,Act.put]
  have NY:∀ j,c'[j]? = if p<=j/\j<p+i.size then (a.eval v).cells[j-p]? else c[j]?:=by
   exact IL
  have hsize':c'.size=c.size:=by
   rw [hc']; simp; omega
  have hev':Ev w g.st (w.setRow b c') g.st:=by
   intro b2 o2 h2;by_cases e1:b2=b
   ·subst e1;have:=(N7 o2).1 h2;refine ⟨h2,?_⟩;simp only [World.cell?,k2,setRow_heap w b2 c c' e (0,0) k2];exact Cp
   ·exact Ju
  have Rp:∀ id b2,Nat.beq id tok=false->g.ow id=some b2->b2≠b:=λ id b2 hD h e=>by
   subst e;have:=hs.inj id tok b2 h how;subst this;simp at hD
  have hE:EvO (Nat.beq · tok) w g (w.setRow b c') g:=by
   refine ⟨hev',λ id b2 _ h=>h,λ id b2 c2 e2 hD h h2=>IB,λ id b2 o2 hD h h3=>h3,λ id b2 es2 k2' hD h h2=>(setRow_other w b b2 c' (Rp id b2 hD h)).trans h2,λ i hi=>?_,λ id b2 o2 hD h _=>setRow_other w b b2 c' (Rp id b2 hD h)⟩
   cases hq:Nat.beq i tok
   ·rfl
   ·exact BR
  have hup:∀ {y:AV} {u:Value},ARep w g y u->ARep (w.setRow b c') g (upK tok i.size n z y) u:=by
   intro y u h;unfold upK;split
   ·rename_i t s es1
    cases hq:Nat.beq t tok
    ·have:=h.dem hE;simpa [AV.dem,hq] using this
    ·have e1:=bx hq;subst e1;simp only [cond_true]
     cases hq2:Nat.beq s i.size
     ·exact gC
     ·have e2:=bx hq2;subst e2;simp only [cond_true]
      cases h with
      | stkn=>exact .stkn _ _
      | stke=>exact .stke _ _ _
      | stk how2 hb2 hcs2 hlen2 hsz2 hone2 hst2 hr2=>
       rename_i b2 cap2 c2 e2;rw [how] at how2; cases how2;rw [k2] at hb2; cases hb2;have hl:(es1.set n z).length=es1.length:=List.length_set;rw [<- hl];refine .stk how (setRow_heap w b c c' e (0,0) k2) (hsize'.trans hcs2) O (λ x hx=>?_) (λ x hx y hy=>?_) hst2 (λ k x j p1 hx hp1=>?_)
       ·rcases List.mem_or_eq_of_mem_set hx with hx|rfl
        ·exact hsz2 x hx
        ·exact hcl'
       ·rcases List.mem_or_eq_of_mem_set hx with hx|rfl
        ·exact hone2 x hx y hy
        ·exact wS hc hy
       ·rw [List.getElem?_set] at hx;split at hx
        ·rename_i hnk;subst hnk;split at hx
         ·simp only [aq] at hx;subst hx;have hjl:j<z.cells.length:=(List.getElem?_eq_some_iff.1 hp1).1;have hjc:j<(a.eval v).cells.size:=by omega
          have h8:=hs2 j (.p p1) _ (by simp [hp1]) (Array.getElem?_eq_getElem hjc);refine ⟨(a.eval v).cells[j],?_,?_⟩
          ·rw [NY,<- hpd,if_pos ⟨by omega,by omega⟩];rw [show p+j-p=j by omega];exact Array.getElem?_eq_getElem hjc
          ·cases h8.1 with
           | p hr=>exact hr.mono hev'
         ·cases hx
        ·rename_i hnk;obtain ⟨u,hu,hrr⟩:=hr2 k x j p1 hx hp1;have hjl:j<i.size:=by rw [<- hsz2 x (List.mem_of_getElem? hx)]; exact (List.getElem?_eq_some_iff.1 hp1).1
         refine ⟨u,?_,hrr.mono hev'⟩;rw [NY,if_neg ?_]
         ·exact hu
         ·rw [hpd];rcases Nat.lt_or_gt_of_ne hnk with h9|h9
          ·have:=py i.size (show n+1<=k from h9);exact Cy
          ·have:=py i.size (show k+1<=n from h9);exact Cy
   ·exact h.dem hE
  refine ⟨g,⟨sl.map λ p=>(p.1,upK tok i.size n z p.2),ob'⟩,?_,hK⟩;refine ⟨hs.nd,hs.sz,λ j=>?_,λ id' cs' h'=>?_,hs.inj,λ j b2 h=>?_,λ b2 o2 h=>?_,hs.fl,λ b2 h=>?_,hs.os,hs.out,hs.tape,?_,hs.stf,hs.owf,hs.shf.next (λ _ b c e _ _ h=>(nG k2 hsize').1 b c e h),hs.nst,hs.ev0.trans hev'⟩
  ·exact FM
  ·obtain ⟨hne',ds,m1,rfl⟩:=tf h2 id' cs' h';obtain ⟨b2,c2,e2,n1,n2,n3,n4,n5⟩:=hs.ob id' ds m1
   have hD:Nat.beq id' tok=false:=by
    exact HG
   have hb2:=Rp id' b2 hD n1;refine ⟨b2,c2,e2,n1,(setRow_other w b b2 c' hb2).trans n2,by simpa using n3,n4,λ j y hy=>?_⟩;exact Ge
  ·exact CS
  ·have:=hs.lt b2 o2 h; simpa using this
  ·exact Ic
  ·have:=hs.size; simpa using this
theorem JN {q tok sz:Nat}{es:List PV}(hq:look sl q=some (.stk tok sz es)){g:Gh}{a:Act}{w:World}(hs:St C.n C.w0 C.F g ⟨sl,ob⟩ a w):∃ u,ARep w g (.stk tok sz es) u:=by
 have h7:=hs.sl q;simp only [AS.get,hq,n9] at h7;exact ⟨_,h7⟩
theorem vG {t e:TypeId}{x y:Operand}{i ie:TI}{k:IntKind}{n:Int}{id sz:Nat}{es:List PV}(ho:o.op=.indexAddr t x y)(hd:o.dst=some d)(hn:Nat.blt d C.n=true)
  (hi:look C.tt t=some i) (N4:i.k=.slice e) (hie:look C.tt e=some ie) (hx:evo sl x=some (.stk id sz es))
  (hy:evo sl y=some (.p (.val (.int k n)))) (NR:ie.size=sz) (hb:0<=n/\n<(es.length:Int))
  (hK:K ⟨(d,.ptr id (n.toNat*sz))::sl,ob⟩):aX C o K ⟨sl,ob⟩:=by
 obtain ⟨u,h1,h2⟩:=bA C.good hi;have h3:=bC (h2.trans N4);subst h3;refine ok_one hd hn (λ g a w hs=>?_) hK;have h5:=bv hs hx;generalize hv:a.eval x=v at h5
 cases h5 with
 | stkn=>simp at hb; omega
 | stke=>simp at hb; omega
 | stk how hb' N0 hlenc hszc N6 N7 hr=>
  rename_i b cap c e';exact ⟨.pointer (some ⟨b,n.toNat*sz,none⟩),by simp [execOp,ho,hv,co hs hy,Instr.indexAt,asIntOf,run_underlying h1,hb.1,hb.2,run_sizeOf C.good hie,NR,add_lit],.ptr how⟩
theorem JF {id sz:Nat}{es:List PV}{q:Nat}{sl':List (Nat×AV)}{ob':List (Nat×List AV)}(hid:id<M1)(hq:look sl q=some (.stk id sz es))(h1:dmS (Nat.beq · id) sl=some sl')(h2:dmO (Nat.beq · id) ob=some ob') :
  cv C ⟨sl,ob⟩ ⟨(q,.p (.slice es))::sl',ob'⟩:=by
 intro g a w hs;have h6:=hs.sl q;simp only [AS.get,hq,n9] at h6
 have drop:∀ (st':Nat->Nat->Prop),(∀ b o,g.st b o->st' b o)->(∀ i b,i≠id->g.ow i=some b->∀ o,st' b o->g.st b o)->(∀ b o,st' b o->b<w.heap.size)->(∀ b,C.F b->∀ o,st' b o↔g.st b o) ->
   St C.n C.w0 C.F ⟨st',λ i=>if i=id then none else g.ow i⟩ (cq (Nat.beq · id) ⟨sl,ob⟩) a w:=by
  intro st' k1 k2 k3 k4;refine hs.evolve (Nat.beq · id) (sx hid) (λ b o h=>⟨k1 b o h,rfl⟩) (λ i b hD h=>?_) (λ i j b h1 h2=>?_) (λ i b h=>?_) k3 (λ b h=>rfl) Z Z Z (bt _) k4 (λ i hi=>?_)
  ·have Ob:i≠id:=λ e=>by subst e; simp at hD
   exact ⟨by simp only [if_neg Ob]; exact h,Z,k2 i b Ob h⟩
  ·dsimp only at h1 h2;exact Cr
  ·dsimp only at h;exact BV
  ·dsimp only; rw [if_neg O]
 obtain ⟨g',hs',hrep⟩:∃ g',St C.n C.w0 C.F g' (cq (Nat.beq · id) ⟨sl,ob⟩) a w/\ARep w g' (.p (.slice es)) (a.tmps.getD q Go.undef):=by
  generalize a.tmps.getD q Go.undef=vq at h6
  cases h6 with
  | stkn=>exact ⟨_,drop g.st (λ _ _ h=>h) (λ _ _ _ _ _ h=>h) hs.lt (λ _ _ _=>Iff.rfl),.p .nils⟩
  | stke=>exact ⟨_,drop g.st (λ _ _ h=>h) (λ _ _ _ _ _ h=>h) hs.lt (λ _ _ _=>Iff.rfl),.p (.nile _)⟩
  | stk how hb N0 NK NR N6 N7 hr=>
   rename_i b cap c e;have hown:=hs.own id b how;refine ⟨_,drop (λ b' o=>g.st b' o\/(b'=b/\o<es.length*sz)) (λ _ _ h=>.inl h) (λ i b' Ob h o h2=>?_) (λ b' o h=>?_) (λ b' hF o=>?_),.p ?_⟩
   ·rcases h2 with h2|⟨h2,_⟩
    ·exact h2
    ·subst h2; exact absurd (hs.inj i id b' h how) Ob
   ·rcases h with h|⟨h,_⟩
    ·exact hs.lt b' o h
    ·subst h; exact hown.1
   ·constructor
    ·rintro (h|⟨h,_⟩)
     ·exact h
     ·subst h; exact absurd hF hown.2
    ·exact .inl
   ·refine .slice sz (λ i j=>(c[i*sz+j]?).getD Go.undef) NK NR N6 (λ i x j p hx hp=>?_) (λ i x j p hx hp=>?_)
    ·obtain ⟨v,h3,h4⟩:=hr i x j p hx hp;have hil:i<es.length:=(List.getElem?_eq_some_iff.1 hx).1;have hjl:j<sz:=by have:=(List.getElem?_eq_some_iff.1 hp).1; rw [NR x (List.mem_of_getElem? hx)] at this; exact this
     have:=pn hil hjl;refine ⟨.inr qV,?_⟩;exact Cb
    ·obtain ⟨v,h3,h4⟩:=hr i x j p hx hp;rw [h3];exact h4.mono λ b o h=>⟨.inl h,rfl⟩
 refine ⟨g',?_⟩;rw [oU h1,ny h2];refine { hs' with sl:=λ i=>?_ };simp only [AS.get,a6];by_cases e:q=i
 ·subst e; rw [if_pos rfl]; exact hrep
 ·rw [if_neg e]; exact hs'.sl i
end
mutual
def AV.stl (tok:Nat):AV->AV|.stk t s es=>bif Nat.beq t tok then .p (.slice es) else .stk t s es|.agg cs=>.agg (AV.stlL tok cs)|x=>x.dem (Nat.beq · tok)
def AV.stlL (tok:Nat):List AV->List AV|[]=>[]|x::r=>x.stl tok::AV.stlL tok r
end
theorem D7 (tok:Nat):∀ l:List AV,AV.stlL tok l=l.map (AV.stl tok)
 | []=>by rw [AV.stlL]; rfl
 | x::r=>by rw [AV.stlL,D7 tok r]; rfl
theorem ARep.stl {tok:Nat}{w:World}{g g':Gh}(hE:EvO (Nat.beq · tok) w g w g')(hs:∀ b c e,g.ow tok=some b->w.heap[b]? = some (.cells c e (0,0))->∀ o,o<c.size->g'.st b o)
  {x:AV} {v:Value} (h:ARep w g x v):ARep w g' (x.stl tok) v:=by
 induction h with
 | agg hl h ih=>
  simp only [AV.stl,D7];refine .agg vp λ i c v h1 h2=>?_;rw [List.getElem?_map] at h1;obtain ⟨x,hx,rfl⟩:=mv.1 h1;exact ih i x v hx h2
 | stkn t sz=>
  simp only [AV.stl]
  cases Nat.beq t tok
  ·exact .stkn _ _
  ·exact .p .nils
 | stke t sz a=>
  simp only [AV.stl]
  cases Nat.beq t tok
  ·exact .stke _ _ _
  ·exact .p (.nile _)
 | stk how hb N0 NK NR N6 N7 hr=>
  rename_i t sz es b cap c e;have hd:=(ARep.stk how hb N0 NK NR N6 N7 hr).dem hE;simp only [AV.stl];simp only [AV.dem] at hd
  cases hq:Nat.beq t tok
  ·rw [hq] at hd; exact hd
  ·have:=bx hq;subst this;refine .p (.slice sz (λ i j=>(c[i*sz+j]?).getD Go.undef) NK NR N6 (λ i x j p hx hp=>?_) (λ i x j p hx hp=>?_))
   ·obtain ⟨v,h3,h4⟩:=hr i x j p hx hp;refine ⟨hs b c e how hb _ ?_,?_⟩
    ·have:=(Array.getElem?_eq_some_iff.1 h3).1;omega
    ·exact Cb
   ·obtain ⟨v,h3,h4⟩:=hr i x j p hx hp;rw [h3];exact h4.mono hE.ev
 | undef v=>exact (ARep.undef v).dem hE
 | p h=>exact (ARep.p h).dem hE
 | vecn a b c=>exact (ARep.vecn a b c).dem hE
 | vece a b c=>exact (ARep.vece a b c).dem hE
 | vec h1 h2 h3 h4 h5 h6 h7=>exact (ARep.vec h1 h2 h3 h4 h5 h6 h7).dem hE
 | arr h1 h2 h3 h4=>exact (ARep.arr h1 h2 h3 h4).dem hE
 | ptr h1=>exact (ARep.ptr h1).dem hE
 | bptrn h1 h2 h3=>exact (ARep.bptrn h1 h2 h3).dem hE
 | bptr h1 h2 h3=>exact (ARep.bptr h1 h2 h3).dem hE
 | rptr a h1 h2=>exact (ARep.rptr a h1 h2).dem hE
 | tuple hl h _=>exact (ARep.tuple hl h).dem hE
 | func hl h _=>exact (ARep.func hl h).dem hE
 | mp h1 h2 h3 h4 h5 h6=>exact (ARep.mp h1 h2 h3 h4 h5 h6).dem hE
 | mpr h1 h2 h3 h4 h5 h6 _=>exact (ARep.mpr h1 h2 h3 h4 h5 h6).dem hE
 | sem h1 h=>exact (ARep.sem h1 h).dem hE
 | it h1 h2 h3=>exact (ARep.it h1 h2 h3).dem hE
 | vecp h1 h2 h3 h4 h5 h6 h7 h8=>exact (ARep.vecp h1 h2 h3 h4 h5 h6 h7 h8).dem hE
 | elp h1 h2 h3 h4=>exact (ARep.elp h1 h2 h3 h4).dem hE
def KC (tok:Nat):List AV->Option (List AV)
 | []=>some []
 | x::r=>(match frc (x.stl tok) with
  | some y=>(match KC tok r with|some l=>some (y::l)|none=>none)
  | none=>none)
theorem D4 {tok:Nat}:∀ {l l':List AV},KC tok l=some l'->l'=l.map (AV.stl tok)
 | [],l',h=>by cases h; rfl
 | x::r,l',h=>by
  unfold KC at h;split at h
  ·rename_i y hy;split at h
   ·rename_i m hm; cases h; rw [qZ hy,D4 hm]; rfl
   ·cases h
  ·cases h
def Ka (tok:Nat):List (Nat×AV)->Option (List (Nat×AV))
 | []=>some []
 | (i,x)::r=>(match frc (x.stl tok) with
  | some y=>(match Ka tok r with|some l=>some ((i,y)::l)|none=>none)
  | none=>none)
theorem Eb {tok:Nat}:∀ {l l':List (Nat×AV)},Ka tok l=some l'->l'=l.map λ p=>(p.1,p.2.stl tok)
 | [],l',h=>by cases h; rfl
 | (i,x)::r,l',h=>by
  unfold Ka at h;split at h
  ·rename_i y hy;split at h
   ·rename_i m hm; cases h; rw [qZ hy,Eb hm]; rfl
   ·cases h
  ·cases h
def Cv (tok:Nat):List (Nat×List AV)->Option (List (Nat×List AV))
 | []=>some []
 | (i,cs)::r=>(match Nat.beq i tok with
  | true=>Cv tok r
  | false=>(match KC tok cs with
   | some ds=>(match Cv tok r with|some l=>some ((i,ds)::l)|none=>none)
   | none=>none))
theorem tL {tok:Nat}:∀ {l l':List (Nat×List AV)},Cv tok l=some l'->∀ id cs,look l' id=some cs->id≠tok/\∃ ds,look l id=some ds/\cs=ds.map (AV.stl tok)
 | [],l',h,id,cs,hc=>by cases h; cases hc
 | (i,xs)::r,l',h,id,cs,hc=>by
  unfold Cv at h;split at h
  ·rename_i hb;obtain ⟨h1,ds,h2,h3⟩:=tL h id cs hc;exact BS
  ·rename_i hb;have hi:i≠tok:=λ e=>by subst e; simp at hb
   split at h
   ·rename_i ds hds;split at h
    ·rename_i m hm
     cases h
     rw [a6] at hc ⊢;by_cases e1:i=id
     ·subst e1;rw [if_pos rfl] at hc ⊢
      cases hc
      exact ⟨hi,xs,Z,D4 hds⟩
     ·rw [if_neg e1] at hc ⊢;exact tL hm id cs hc
    ·cases h
   ·cases h
theorem vR {C:Cx}{sl sl':List (Nat×AV)}{ob ob':List (Nat×List AV)}(tok:Nat)(hid:Nat.blt tok M1=true)(h1:sl'=sl.map λ p=>(p.1,p.2.stl tok))(h2:Cv tok ob=some ob') :
  cv C ⟨sl,ob⟩ ⟨sl',ob'⟩:=by
 have hid':tok<M1:=d3 ▸ hid;intro g a w hs;obtain ⟨st',hst'⟩:∃ st':Nat->Nat->Prop,∀ b o,st' b o↔g.st b o\/(g.ow tok=some b/\∃ c e,w.heap[b]? = some (.cells c e (0,0))/\o<c.size):=⟨_,λ _ _=>Iff.rfl⟩
 have k1:∀ b o,g.st b o->st' b o:=λ b o h=>(hst' b o).2 (.inl h)
 have k2:∀ i b,i≠tok->g.ow i=some b->∀ o,st' b o->g.st b o:=λ i b Ob h o h2=>by
  rcases (hst' b o).1 h2 with h3|⟨h3,_⟩
  ·exact h3
  ·exact absurd (hs.inj i tok b h h3) Ob
 obtain ⟨g',hg',how'⟩:∃ g':Gh,g'.st=st'/\∀ i,g'.ow i=if i=tok then none else g.ow i:=⟨⟨st',λ i=>if i=tok then none else g.ow i⟩,rfl,λ _=>rfl⟩
 have hs':St C.n C.w0 C.F g' (cq (Nat.beq · tok) ⟨sl,ob⟩) a w:=by
  refine hs.evolve (Nat.beq · tok) (sx hid') (λ b o h=>⟨by rw [hg']; exact k1 b o h,Z⟩) (λ i b hD h=>?_) (λ i j b h1 h2=>?_) (λ i b h=>?_) (λ b o h=>?_) (λ b h=>rfl) Z Z Z (bt _) (λ b hF o=>?_) (λ i hi=>?_)
  ·have Ob:i≠tok:=λ e=>by subst e; simp at hD
   exact ⟨by rw [how',if_neg Ob]; exact h,Z,by rw [hg']; exact k2 i b Ob h⟩
  ·rw [how'] at h1 h2;exact Cr
  ·rw [how'] at h;exact BV
  ·rw [hg'] at h;rcases (hst' b o).1 h with h|⟨h,_⟩
   ·exact hs.lt b o h
   ·exact (hs.own tok b h).1
  ·rw [hg'];refine ⟨λ h=>?_,k1 b o⟩;rcases (hst' b o).1 h with h|⟨h,_⟩
   ·exact h
   ·exact absurd hF (hs.own tok b h).2
  ·rw [how',if_neg O]
 have hE:EvO (Nat.beq · tok) w g w g':=by
  refine ⟨λ b o h=>⟨by rw [hg']; exact k1 b o h,Z⟩,λ id b hD h=>?_,λ id b c e hD h hb=>⟨c,hb,Z⟩,λ id b o hD h h3=>?_,λ id b es k hD h hb=>hb,λ i hi=>?_,λ _ _ _ _ _ _=>rfl⟩
  ·have Ob:id≠tok:=λ e=>by subst e; simp at hD
   rw [how',if_neg Ob]; exact h
  ·have Ob:id≠tok:=λ e=>by subst e; simp at hD
   rw [hg'] at h3;exact k2 id b Ob h o h3
  ·cases hq:Nat.beq i tok
   ·rfl
   ·exact BR
 have hall:∀ b c e,g.ow tok=some b->w.heap[b]? = some (.cells c e (0,0))->∀ o,o<c.size->g'.st b o:=λ b c e h h2 o h3=>by
  rw [hg']; exact (hst' b o).2 (.inr ⟨h,c,e,h2,h3⟩)
 refine ⟨g',{ hs' with sl:=λ i=>?_,ob:=λ id cs hc=>?_ }⟩
 ·have h:=hs.sl i;rw [h1];simp only [AS.get,iy];simp only [AS.get] at h
  cases hl:look sl i with
  | none=>simp only [Option.map_none,Option.getD_none]; exact .undef _
  | some x=>rw [hl] at h; simpa using h.stl hE hall
 ·obtain ⟨Ob,ds,m1,rfl⟩:=tL h2 id cs hc;obtain ⟨b2,c2,e2,n1,n2,n3,n4,n5⟩:=hs.ob id ds m1;refine ⟨b2,c2,e2,by rw [how',if_neg Ob]; exact n1,n2,by simpa using n3,λ o h3=>n4 o (k2 id b2 Ob n1 o (by rw [<- hg']; exact h3)),λ j y hy=>?_⟩;simp only [List.getElem?_map,mv] at hy;obtain ⟨y0,hy0,rfl⟩:=hy;obtain ⟨u,hu,hr⟩:=n5 j y0 hy0;exact ⟨u,hu,hr.stl hE hall⟩
theorem xL {C:Cx}{sl sl':List (Nat×AV)}{ob ob':List (Nat×List AV)}(tok:Nat)(hid:Nat.blt tok M1=true)(h1:Ka tok sl=some sl')(h2:Cv tok ob=some ob') :
  cv C ⟨sl,ob⟩ ⟨sl',ob'⟩:=vR tok hid (Eb h1) h2
mutual
theorem tQ (D:Nat->Bool)(tok:Nat)(h:D tok=true):∀ x:AV,(x.dem D).dem (Nat.beq · tok)=x.dem D
 | .undef=>by simp only [AV.dem]
 | .p _=>by simp only [AV.dem]
 | .agg cs=>by simp only [AV.dem]; rw [oO D tok h cs]
 | .tuple cs=>by simp only [AV.dem]; rw [oO D tok h cs]
 | .func f cs=>by simp only [AV.dem]; rw [oO D tok h cs]
 | .rptr _=>by simp only [AV.dem]
 | .sem ts R=>by
  cases hd:ts.any D
  ·have:ts.any (Nat.beq · tok)=false:=List.any_eq_false.2 λ t ht=>by
    exact Iw
   simp only [AV.dem,hd,cond_false,this]
  ·simp only [AV.dem,hd,cond_true]
 | .vec t _ _ _|.arr t _ _ _|.ptr t _|.bptr _ _ t|.mp t _|.mpr t _ _ _ _|.stk t _ _|.it t _ _|.vecp t _ _ _|.elp t _=>by
  cases hd:D t
  ·have:Nat.beq t tok=false:=by
    cases hb:Nat.beq t tok
    ·rfl
    ·rw [bx hb,h] at hd; cases hd
   simp only [AV.dem,hd,cond_false,this]
  ·simp only [AV.dem,hd,cond_true]
theorem oO (D:Nat->Bool)(tok:Nat)(h:D tok=true):∀ l:List AV,jH (Nat.beq · tok) (jH D l)=jH D l
 | []=>by simp only [jH]
 | x::r=>by simp only [jH]; rw [tQ D tok h x,oO D tok h r]
end
mutual
theorem Dy (D:Nat->Bool)(tok:Nat)(h:D tok=true):∀ x:AV,(x.dem D).stl tok=x.dem D
 | .agg cs=>by simp only [AV.dem,AV.stl]; rw [AE D tok h cs]
 | .stk t s es=>by
  exact FL
 | .undef=>by simp only [AV.dem,AV.stl]
 | .p x=>by simp only [AV.dem,AV.stl]
 | .tuple cs=>by have:=tQ D tok h (.tuple cs); simp only [AV.dem] at this; simp only [AV.dem,AV.stl]; exact this
 | .func f cs=>by have:=tQ D tok h (.func f cs); simp only [AV.dem] at this; simp only [AV.dem,AV.stl]; exact this
 | .rptr _=>by simp only [AV.dem,AV.stl]
 | .sem ts R=>by
  cases hd:ts.any D
  ·have:ts.any (Nat.beq · tok)=false:=List.any_eq_false.2 λ t ht=>by
    exact Iw
   simp only [AV.dem,hd,cond_false,AV.stl,this]
  ·simp only [AV.dem,hd,cond_true,AV.stl]
 | .vec t _ _ _|.arr t _ _ _|.ptr t _|.bptr _ _ t|.mp t _|.mpr t _ _ _ _|.it t _ _|.vecp t _ _ _|.elp t _=>by
  exact FL
theorem AE (D:Nat->Bool)(tok:Nat)(h:D tok=true):∀ l:List AV,AV.stlL tok (jH D l)=jH D l
 | []=>by simp only [jH,AV.stlL]
 | x::r=>by simp only [jH,AV.stlL]; rw [Dy D tok h x,AE D tok h r]
end
section
variable {C:Cx} {o:Oper} {K:AS->Prop} {sl:List (Nat×AV)} {ob:List (Nat×List AV)} {d:Nat}
theorem kz {α:Type}(f:α->PV)(l:List α){t e:TypeId}{x y:Operand}{i ie:TI}{k:IntKind}{n:Int}{id sz:Nat}(ho:o.op=.indexAddr t x y)(hd:o.dst=some d)(hn:Nat.blt d C.n=true)
  (hi:look C.tt t=some i) (N4:i.k=.slice e) (hie:look C.tt e=some ie) (hx:evo sl x=some (.stk id sz (l.map f)))
  (hy:evo sl y=some (.p (.val (.int k n)))) (NR:ie.size=sz) (hb:0<=n/\n<(l.length:Int)) (hK:K ⟨(d,.ptr id (n.toNat*sz))::sl,ob⟩):aX C o K ⟨sl,ob⟩ :=
 vG ho hd hn hi N4 hie hx hy NR Cl hK
def Fi {α:Type}(l:List α)(n:Int)(y:α):List α:=l.set n.toNat y
theorem KZ {α:Type}(f:α->PV)(tok sz:Nat)(l:List α)(n:Int)(y:α):upK tok sz n.toNat (f y) (.stk tok sz (l.map f))=.stk tok sz ((Fi l n y).map f):=by
 simp [upK,Fi,List.map_set]
theorem Bh {α:Type}(f:α->PV)(l:List α)(y:α)(q:Nat){t:TypeId}{x v:Operand}{i:TI}{tok sz:Nat}{n:Int}{Y0z:AV}{sl':List (Nat×AV)}{ob':List (Nat×List AV)}(ho:o.op=.store t x v)(hd:o.dst=none)
  (hi:look C.tt t=some i) (hiz:i.size=sz) (hx:evo sl x=some (.ptr tok (n.toNat*sz))) (hq:look sl q=some (.stk tok sz (l.map f))) (hb:0<=n/\n<(l.length:Int))
  (hv:evo sl v=some Y0z) (hY:Y0z.sub (.p (f y))) (hc:(AV.p (f y)).cellsA=some ((f y).cells.map .p)) (hcl:Nat.beq (f y).cells.length sz=true) (htok:Nat.blt tok M1=true)
  (h1:sl'=sl.map λ p=>(p.1,upK tok sz n.toNat (f y) p.2)) (h2:CK tok sz n.toNat (f y) ob=some ob') (hK:K ⟨sl',ob'⟩):aX C o K ⟨sl,ob⟩ :=
 Az ho hd hi hiz hx Z (JN hq) zb hv hY hc hcl htok h1 h2 hK
theorem we {s0 s1 s2:AS}(h:∀ K':AS->Prop,K' s1->aX C o K' s0)(hg:cv C s1 s2)(hK:K s2):aX C o K s0:=by
 intro g a w hs;have h1:=h (λ s=>s=s1) rfl g a w hs;unfold Oper.wp at h1 ⊢;refine md (λ a' w' hn=>?_) (λ _ _ _ h=>h) h1;obtain ⟨g',s',hs',rfl⟩:=hn;obtain ⟨g2,hs2⟩:=hg _ _ _ hs';exact ⟨g2,_,hs2,hK⟩
theorem xw {s s0:AS}{D:Nat->Bool}{x:AV}{ob1:List (Nat×List AV)}(tok:Nat)(h:∀ K':AS->Prop,K' ⟨(d,x)::(cq D s).sl,ob1⟩->aX C o K' s0)(hid:Nat.blt tok M1=true)(hD:D tok=true)(hob:Cv tok ob1=some ob1)
  (hK:K ⟨(d,x.stl tok)::(cq D s).sl,ob1⟩):aX C o K s0:=by
 refine we h (vR tok hid ?_ hob) hK;simp only [cq,dg,List.map_map];congr 1;refine List.map_congr_left λ p _=>?_;simp only [Function.comp,Dy D tok hD]
theorem Kt (tok sz n:Nat)(z:PV)(x:AV):upK tok sz n z x=x.dem (Nat.beq · tok)\/x.dem (Nat.beq · tok)=.undef:=by
 unfold upK;split
 ·rename_i t s es
  cases h:Nat.beq t tok
  ·left; simp only [AV.dem,h,cond_false]
  ·right; simp only [AV.dem,h,cond_true]
 ·exact .inl Z
end
theorem Ig (h:p:=by exact ⟨cs,hc,bt _,λ i c d h1 h2=>by rw [h1] at h2; cases h2; exact AV.sub_refl _⟩):p:=h
def bor:AV->Option AV|.stk _ _ es=>some (.p (.slice es))|x=>x.mapA (λ _=>none)
def xP:List AV->Option (List AV)
 | []=>some []
 | x::r=>match bor x,xP r with
  | some y,some l=>some (y::l)
  | _,_=>none
theorem Db:∀ {l l':List AV},xP l=some l'->l.length=l'.length/\∀ (i:Nat) x y,l[i]? = some x->l'[i]? = some y->bor x=some y
 | [],l',h=>by simp only [xP,aq] at h; subst h; exact ⟨Z,by simp⟩
 | x::r,l',h=>by
  simp only [xP] at h;split at h
  ·rename_i y q hy hq
   cases h
   obtain ⟨h1,h2⟩:=Db hq;exact FH
  ·cases h
section
variable {C:Cx} {o:Oper} {K:AS->Prop} {sl:List (Nat×AV)} {ob:List (Nat×List AV)} {d:Nat}
def u0 (w:World)(g:Gh)(l:List AV)(b o:Nat):Prop :=g.st b o\/((∃ tok sz es,.stk tok sz es∈l/\g.ow tok=some b)/\∃ c e,w.heap[b]? = some (.cells c e (0,0))/\o<c.size)
theorem Kv {w:World}{g:Gh}{l:List AV}{x y:AV}{v:Value}(hx:x∈l)(h:ARep w g x v)(hy:bor x=some y):ARep w ⟨u0 w g l,λ _=>none⟩ y v:=by
 have hE:EvO (λ _=>false) w ⟨g.st,λ _=>none⟩ w ⟨u0 w g l,λ _=>none⟩ :=
  ⟨λ b o h=>⟨.inl h,rfl⟩,(by intro _ _ _ h; cases h),(by intro _ _ _ _ _ h; cases h),(by intro _ _ _ _ h; cases h),(by intro _ _ _ _ _ h; cases h),λ _ _=>rfl,(by intro _ _ _ _ h; cases h)⟩
 by_cases hs:∃ tok sz es,x=.stk tok sz es
 ·obtain ⟨tok,sz,es,rfl⟩:=hs;simp only [bor,aq] at hy;subst hy
  cases h with
  | stkn=>exact .p .nils
  | stke=>exact .p (.nile _)
  | stk how hb N0 NK NR N6 N7 hr=>
   rename_i b cap c e;refine .p (.slice sz (λ i j=>(c[i*sz+j]?).getD Go.undef) NK NR N6 (λ i x j p hx' hp=>?_) (λ i x j p hx' hp=>?_))
   ·obtain ⟨v,h3,h4⟩:=hr i x j p hx' hp;refine ⟨.inr ⟨⟨_,_,_,hx,how⟩,c,e,hb,?_⟩,?_⟩
    ·have:=(Array.getElem?_eq_some_iff.1 h3).1;omega
    ·exact Cb
   ·obtain ⟨v,h3,h4⟩:=hr i x j p hx' hp;rw [h3];exact h4.mono hE.ev
 ·have hm:x.mapA (λ _=>none)=some y:=by
   cases x <;> first|exact hy|exact absurd ⟨_,_,_,rfl⟩ hs
  exact (kj (g:=g) (g':=⟨g.st,λ _=>none⟩) rfl (λ i j b h _=>by cases h) h hm).mono hE
theorem xe {f:FuncId}{args:Array Operand}{ts:Array TypeId}{l l' q:List AV}{v0:Value}(hc:gG C.P f q (·=.p (.val v0)))(ho:o.op=.call { callee:=.value (.func f),args:=args,argTypes:=ts })
  (hd:o.dst=some d) (hn:Nat.blt d C.n=true) (hl:j8 sl args.toList=some l) (hl':xP l=some l') (hq:nj l' q) (henter:∀ vs w,(callFunc f vs).run C.P w=.ok (.enter f vs) w)
  (hK:K ⟨(d,.p (.val v0))::sl,ob⟩):aX C o K ⟨sl,ob⟩:=by
 intro g a w hs;obtain ⟨a1,a2⟩:=jk hs _ l hl;obtain ⟨m1,m2⟩:=Db hl';obtain ⟨b1,b2⟩:=kT hq;have hEv:Ev w g.st w (u0 w g l):=λ b o h=>⟨.inl h,rfl⟩
 have hok:Ok0 w (u0 w g l):=by
  refine ⟨λ b o h=>?_,hs.ok0.gl.mono hEv⟩;rcases h with h|⟨_,c,e,h,_⟩
  ·exact hs.lt b o h
  ·exact (Array.getElem?_eq_some_iff.1 h).1
 have NK:=a1.symm.trans (m1.trans b1)
 have hcall:=hc w (u0 w g l) (args.map a.eval) hok pK (λ i c v hc hv=>by
  have hi':i<l'.length:=by have:=(List.getElem?_eq_some_iff.1 hc).1; omega
  have hi:i<l.length:=by omega
  have hv':(args.toList.map a.eval)[i]? = some v:=by rw [<- Array.toList_map]; simpa using hv
  have h1:=a2 i _ v (List.getElem?_eq_getElem hi) hv';have h2:=Kv (l:=l) (List.getElem_mem hi) h1 (m2 i _ _ (List.getElem?_eq_getElem hi) (List.getElem?_eq_getElem hi'))
  exact b2 i _ c (List.getElem?_eq_getElem hi') hc w _ v h2)
 unfold Oper.wp;have hrun:(execOp a.eval o).run C.P w=.ok (.enter f (args.map a.eval)) w:=by simp [execOp,ho,resolve,Act.eval,Deferred.ofValue,invoke,henter]
 rw [hrun];simp only [Oper.upon];refine hcall.mono λ e w' ⟨v,r,g',he,hR,hr,hA⟩=>?_;subst he;subst hR
 have hv:v=v0:=by
  cases hr with|p h=>cases h; rfl
 subst hv
 have hs':St C.n C.w0 C.F g ⟨sl,ob⟩ a w':=by
  refine hs.evolve0 (λ b o h=>?_) (λ id b h=>?_) hs.inj (λ i b h=>?_) (λ b o h=>?_) (λ b h=>?_) hA.os hA.out hA.tape hA.size (λ b hb o=>Iff.rfl) (λ _ _=>rfl)
  ·have hlt:=hs.lt b o h;exact ⟨h,by simp only [World.cell?,hA.fr b hlt]⟩
  ·have hlt:=(hs.own id b h).1;exact ⟨h,hA.fr b hlt,λ o ho=>ho⟩
  ·have:=hs.own i b h; have:=hA.size; exact ⟨by omega,(hs.own i b h).2⟩
  ·have:=hs.lt b o h; have:=hA.size; omega
  ·have:=hs.fl b h; have:=hs.size; exact hA.fr b O
 have hp:=hs'.put (d:=o.dst) (x:=.p (.val v)) (v:=v) (λ t ht=>by rw [hd] at ht; cases ht; exact d3 ▸ hn) (.p (.val _));rw [hd] at hp;simp only;rw [hd];exact ⟨_,_,hp,hK⟩
theorem E8 {t:TypeId}{x:Operand}{i:TI}{id n off sz q:Nat}{es:List PV}{y:PV}(ho:o.op=.load t x)(hd:o.dst=some d)(hn:Nat.blt d C.n=true)
  (hi:look C.tt t=some i) (hia:i.k.isAgg=true) (hx:evo sl x=some (.ptr id off)) (hoff:off=n*sz) (hq:look sl q=some (.stk id sz es)) (NR:i.size=sz) (hy:es[n]? = some y)
  (hK:K ⟨(d,.p (.agg y.cells))::sl,ob⟩):aX C o K ⟨sl,ob⟩:=by
 subst hoff;refine ok_one hd hn (λ g a w hs=>?_) hK;have h5:=bv hs hx;generalize hv:a.eval x=v at h5
 cases h5 with
 | ptr how=>
  rename_i b;have h6:=hs.sl q;simp only [AS.get,hq,n9] at h6;generalize a.tmps.getD q Go.undef=vq at h6
  cases h6 with
  | stkn=>simp at hy
  | stke=>simp at hy
  | stk how2 hb N0 NK hszc N6 N7 hr=>
   rename_i b2 cap c e;rw [how] at how2; cases how2;have hyl:=hszc y (List.mem_of_getElem? hy)
   have hc:∀ j,j<i.size->w.cell? ⟨b,n*sz+j,none⟩=some (c.getD (n*sz+j) Go.undef):=by
    intro j hj;have hj':j<y.cells.length:=by omega
    obtain ⟨u,hu,_⟩:=hr n y j _ hy (List.getElem?_eq_getElem hj');rw [mL hs hb,Array.getD_eq_getD_getElem?,hu]
    rfl
   have hld:=na C.good hi hia (f:=λ j=>c.getD (n*sz+j) Go.undef) hc;refine ⟨.agg ((List.range i.size).map λ j=>c.getD (n*sz+j) Go.undef).toArray,by simp only [execOp,ho,hv,Instr.loadAt,Instr.sureAddr,Sem.run_bind,Sem.run_pure,Result.andThen_ok,hld],.p (.agg hC λ j y' v h1 h2=>?_)⟩;have hj:j<i.size:=by have:=(List.getElem?_eq_some_iff.1 h1).1; omega
   simp only [List.getElem?_toArray,List.getElem?_map,List.getElem?_range hj,Option.map_some,aq] at h2;subst h2;obtain ⟨u,hu,hr2⟩:=hr n y j y' hy h1;rw [Array.getD_eq_getD_getElem?,hu];exact hr2
theorem BW {t e:TypeId}{x:Operand}{hi:Option Operand}{id sz:Nat}{es:List PV}{h:Int}{i ie:TI}(ho:o.op=.slice t x none hi none)(hd:o.dst=some d)(hn:Nat.blt d C.n=true)
  (hi':look C.tt t=some i) (N4:i.k=.slice e) (hie:look C.tt e=some ie) (hx:evo sl x=some (.stk id sz es)) (hhi:hiI sl (es.length:Int) hi=some h)
  (hb:0<=h/\h<=es.length) (hK:K ⟨(d,.stk id sz (es.take h.toNat))::sl,ob⟩):aX C o K ⟨sl,ob⟩:=by
 obtain ⟨u,h1,h2⟩:=bA C.good hi';have h3:=bC (h2.trans N4);subst h3;refine ok_one hd hn (λ g a w hs=>?_) hK;have hv:=bv hs hx;generalize hq:a.eval x=v at hv
 cases hv with
 | stkn=>
  simp only [n7] at hb hhi;have e2:h=0:=by omega
  subst e2;have e:=gY (P:=C.P) hs true 0 0 none hi (l:=0) rfl hhi O (bt _);refine ⟨.slice none 0 0,?_,by simpa using ARep.stkn _ _⟩;exact tE
 | stke=>
  rename_i a0;simp only [n7] at hb hhi;have e2:h=0:=by omega
  subst e2;have e:=gY (P:=C.P) hs true 0 0 none hi (l:=0) rfl hhi O (bt _);refine ⟨.slice (some a0) 0 0,?_,by simpa using ARep.stke _ _ a0⟩;exact tE
 | stk how hb2 N0 NK hszc N6 N7 hr=>
  rename_i b cap c e0;have e:=gY (P:=C.P) hs true es.length cap none hi (l:=0) rfl hhi ⟨by omega,hb.1,by omega⟩ NK;have hlt:(es.take h.toNat).length=h.toNat:=by rw [List.length_take]; omega
  refine ⟨.slice (some ⟨b,0,none⟩) (es.take h.toNat).length cap,?_,.stk how hb2 N0 O (λ x hx=>hszc x (List.mem_of_mem_take hx)) (λ x hx=>N6 x (List.mem_of_mem_take hx)) N7 (λ i x j p hx hp=>?_)⟩
  ·simp at e;simp [execOp,ho,hq,Instr.sliceAt,Instr.slice,run_underlying h1,e,run_sizeOf C.good hie,add_lit,hlt]
   try omega
  ·rw [List.getElem?_take] at hx;split at hx
   ·exact hr i x j p hx hp
   ·cases hx
def KL (tok sz len k:Nat):World->Gh->Value->Prop:=λ _ g v=>(len=k/\∃ a c,v=.slice a 0 c)\/(k<len/\∃ b cap,g.ow tok=some b/\v=.slice (some ⟨b,k*sz,none⟩) (len-k) cap)
theorem yZ {t e:TypeId}{x:Operand}{lo:Option Operand}{id sz:Nat}{es:List PV}{h:Int}{i ie:TI}(ho:o.op=.slice t x lo none none)(hd:o.dst=some d)(hn:Nat.blt d C.n=true)
  (hi':look C.tt t=some i) (N4:i.k=.slice e) (hie:look C.tt e=some ie) (NR:ie.size=sz) (hx:evo sl x=some (.stk id sz es)) (hlo:loI sl lo=some h)
  (hb:0<=h/\h<=es.length) (hK:K ⟨(d,.sem [id] (KL id sz es.length h.toNat))::sl,ob⟩):aX C o K ⟨sl,ob⟩:=by
 obtain ⟨u,h1,h2⟩:=bA C.good hi';have h3:=bC (h2.trans N4);subst h3;refine ok_one hd hn (λ g a w hs=>?_) hK;have hv:=bv hs hx;generalize hq:a.eval x=v at hv
 cases hv with
 | stkn=>
  simp only [n7] at hb;have e2:h=0:=by omega
  subst e2;have e:=gY (P:=C.P) hs true 0 0 lo none (h:=0) hlo rfl O (bt _);refine ⟨.slice none 0 0,?_,.sem rfl λ w' g' _=>.inl ⟨rfl,_,_,rfl⟩⟩;exact tE
 | stke=>
  rename_i a0;simp only [n7] at hb;have e2:h=0:=by omega
  subst e2;have e:=gY (P:=C.P) hs true 0 0 lo none (h:=0) hlo rfl O (bt _);refine ⟨.slice (some a0) 0 0,?_,.sem rfl λ w' g' _=>.inl ⟨rfl,_,_,rfl⟩⟩;exact tE
 | stk how hb2 N0 NK hszc N6 N7 hr=>
  rename_i b cap c e0;have e:=gY (P:=C.P) hs true es.length cap lo none (h:=(es.length:Int)) hlo rfl ⟨by omega,by omega,by omega⟩ NK;simp at e;by_cases hk:h.toNat=es.length
  ·refine ⟨.slice (if cap=h.toNat then some ⟨b,0,none⟩ else some ⟨b,h.toNat*sz,none⟩) 0 (cap-h.toNat),?_,.sem Z λ w' g' _=>.inl ⟨hk.symm,_,_,Z⟩⟩;simp [execOp,ho,hq,Instr.sliceAt,Instr.slice,run_underlying h1,e,run_sizeOf C.good hie,add_lit,NR,hk]
  ·have P2:h.toNat<es.length:=by omega
   refine ⟨.slice (some ⟨b,h.toNat*sz,none⟩) (es.length-h.toNat) (cap-h.toNat),?_,.sem Z λ w' g' NZ=>.inr ⟨P2,b,_,NZ.ow _ _ (List.mem_singleton.2 Z) how,Z⟩⟩;have hc:¬ (cap=h.toNat):=by omega
   simp [execOp,ho,hq,Instr.sliceAt,Instr.slice,run_underlying h1,e,run_sizeOf C.good hie,add_lit,NR,hc]
theorem yy {z:Array Value}{n i j:Nat}(hi:i<n)(hj:j<z.size):(Builtin.zeroCells z n)[i*z.size+j]? = z[j]?:=by
 have h1:i*z.size+j<n*z.size:=pn hi hj;unfold Builtin.zeroCells;rw [Array.getElem?_map,Array.getElem?_range,if_pos h1];have h2:(i*z.size+j)%z.size=j:=by rw [Nat.mul_comm,Nat.mul_add_mod,Nat.mod_eq_of_lt hj]
 simp only [Option.map_some,h2];rw [getElem!_pos z j hj,Array.getElem?_eq_getElem hj]
theorem oB:∀ {l:List Value},pJ l=true->∀ v∈l,v.oneCell'=true
 | [],_,v,h=>by simp at h
 | x::r,h,v,hv=>by
  simp only [pJ,n8] at h;rcases wr.1 hv with rfl|hv
  ·exact h.1
  ·exact oB h.2 v hv
theorem A1 {t e:TypeId}{x:Operand}{i ie:TI}{tok sz k q:Nat}{es:List PV}{sl':List (Nat×AV)}{ob':List (Nat×List AV)}(ho:o.op=.call { callee:=.builtin .clear,args:=#[x],argTypes:=#[t] })(hd:o.dst=none)
  (hi:look C.tt t=some i) (N4:i.k=.slice e) (hie:look C.tt e=some ie) (NR:ie.size=sz) (hzl:Nat.beq ie.zero.length ie.size=true) (hz1:pJ ie.zero=true)
  (hx:evo sl x=some (.sem [tok] (KL tok sz es.length k))) (hq:look sl q=some (.stk tok sz es)) (hk:k<=es.length) (htok:Nat.blt tok M1=true)
  (h1:dmS (Nat.beq · tok) sl=some sl') (h2:dmO (Nat.beq · tok) ob=some ob')
  (hK:K ⟨(q,.stk tok sz (es.take k++List.replicate (es.length-k) (.agg (ie.zero.map .val))))::sl',ob'⟩):aX C o K ⟨sl,ob⟩:=by
 subst NR;have htl:tok<M1:=d3 ▸ htok;have hzl':=bx hzl;obtain ⟨u1,u2,u3⟩:=bA C.good hi;have u4:=bC (u3.trans N4);subst u4;intro g a w hs;have h5:=bv hs hx;have h6:=hs.sl q;simp only [AS.get,hq,n9] at h6;obtain ⟨z,hz,hzc⟩:=jI C.good hie w;have hzs:z.cells.size=ie.size:=by rw [<- Array.length_toList,hzc,hzl']
 generalize NZ:a.eval x=u at h5
 cases h5 with
 | sem ho1 hR=>
 have hR0:=hR w g (EvT.refl _ _ _);obtain ⟨vq,hvq⟩:∃ vq,vq=a.tmps.getD q Go.undef:=⟨_,rfl⟩
 rw [<- hvq] at h6
 have key:∀ (w':World) (vr:Value),(Builtin.clear_ #[t] o.type #[u]).run C.P w=.ok vr w'->w'.heap.size=w.heap.size->w'.os=w.os->w'.output=w.output->w'.tape=w.tape ->
   (∀ b2,g.ow tok≠some b2->w'.heap[b2]? = w.heap[b2]?)->Ev w g.st w' g.st->ARep w' g (.stk tok ie.size (es.take k++List.replicate (es.length-k) (.agg (ie.zero.map .val)))) vq ->
   o.wp C.P a w (λ a' w'=>∃ g' s',St C.n C.w0 C.F g' s' a' w'/\K s') (λ _ _ _=>False):=by
  intro w' vr hcl hsz' hos hout htape hoth hev' hrep
  have hrun:(execOp a.eval o).run C.P w=.ok (.value vr) w':=by
   unfold execOp;simp only [ho,resolve,invoke,builtin,Sem.run_bind,Sem.run_pure,Result.andThen_ok,List.map_toArray,dg,th,NZ,hcl]
  have Rp:∀ id b2,Nat.beq id tok=false->g.ow id=some b2->g.ow tok≠some b2:=λ id b2 hD h e=>by
   have:=hs.inj id tok b2 h e;subst this;simp at hD
  have hS:=hs.evolve (w':=w') (g':=g) (Nat.beq · tok) (λ i h=>by rw [bx h]; exact htl) hev' (λ id b hD h=>⟨h,hoth b (Rp id b hD h),λ o h=>h⟩) hs.inj
   (λ i b h=>by have:=hs.own i b h; exact ⟨by rw [hsz']; exact this.1,this.2⟩) (λ b o h=>by rw [hsz']; exact hs.lt b o h) (λ b h=>hoth b λ e=>(hs.own tok b e).2 h)
   hos hout htape (by rw [hsz']; exact bt _) (λ _ _ _=>Iff.rfl) (λ _ _=>rfl)
  unfold Oper.wp;rw [hrun];simp only [Oper.upon,hd,Act.put];have d1:=oU h1;have d2:=ny h2;subst d1 d2;refine ⟨g,⟨(q,.stk tok ie.size (es.take k++List.replicate (es.length-k) (.agg (ie.zero.map .val))))::(cq (Nat.beq · tok) ⟨sl,ob⟩).sl,(cq (Nat.beq · tok) ⟨sl,ob⟩).ob⟩,{ hS with sl:=λ j=>?_ },hK⟩;have h:=hS.sl j;simp only [AS.get,a6];by_cases e:q=j
  ·subst e;rw [hvq] at hrep;simpa using hrep
  ·rw [if_neg e];exact h
 rcases hR0 with ⟨P2,a0,c0,rfl⟩|⟨P2,b,cap,how,rfl⟩
 ·refine key w (.tuple #[]) ?_ Z Z Z Z (λ _ _=>rfl) (Ev.refl _ _) ?_
  ·cases a0 <;> simp [Builtin.clear_,run_underlying u2]
  ·rw [P2,List.take_of_length_le O,Nat.sub_self,List.replicate_zero,List.append_nil];exact h6
 ·cases h6 with
  | stkn=>simp at P2
  | stke=>simp at P2
  | stk how2 hb N0 NK hszc N6 N7 hr=>
   rename_i b2 cap2 c e2;rw [how] at how2; cases how2
   have hfit:k*ie.size+(es.length-k)*ie.size<=c.size:=by
    rw [<- ph,N0];exact py _ O
   obtain ⟨zs,hzsd⟩:∃ zs,zs=(Builtin.zeroCells z.cells (es.length-k)).toList:=⟨_,rfl⟩
   have hzsl:zs.length=(es.length-k)*ie.size:=by rw [hzsd,Array.length_toList,size_zeroCells,hzs]
   have hz1c:∀ v∈zs,v.oneCell'=true:=by
    intro v hv;rw [hzsd] at hv;simp only [Builtin.zeroCells,Array.toList_map,List.mem_map] at hv;obtain ⟨m,hm,rfl⟩:=hv;have hm':m<(es.length-k)*z.cells.size:=by simpa using hm
    have hpos:0<z.cells.size:=by
     rcases Nat.eq_zero_or_pos z.cells.size with h|h
     ·rw [h] at hm'; omega
     ·exact h
    have hml:=Nat.mod_lt m hpos;rw [getElem!_pos z.cells _ hml];exact oB hz1 _ (by rw [<- hzc,Array.mem_toList_iff]; exact Array.getElem_mem hml)
   have hstc:=run_storeCells_at C.P b (k*ie.size) e2 zs 0 c w hb (by rw [Nat.add_zero,hzsl]; exact hfit) hz1c;simp only [Nat.add_zero] at hstc;obtain ⟨c',hc'⟩:∃ c',c'=(c.toList.take (k*ie.size)++zs++c.toList.drop (k*ie.size+zs.length)).toArray:=⟨_,rfl⟩
   rw [<- hc'] at hstc
   have NY:∀ j,c'[j]? = if k*ie.size<=j/\j<k*ie.size+zs.length then zs[j-k*ie.size]? else c[j]?:=by
    intro j;rw [hc'];have:=jg c.toList zs (k*ie.size) (by rw [hzsl]; simpa using hfit) j;simpa using this
   have hsize':c'.size=c.size:=by
    rw [hc']; simp only [List.size_toArray,la,List.length_take,ro,Array.length_toList,hzsl]; omega
   have hev':Ev w g.st (w.setRow b c') g.st:=by
    intro b2 o2 h2;by_cases e1:b2=b
    ·subst e1;have:=(N7 o2).1 h2;refine ⟨h2,?_⟩;simp only [World.cell?,hb,setRow_heap w b2 c c' e2 (0,0) hb];exact Cp
    ·exact Ju
   refine key (w.setRow b c') (.tuple #[]) ?_ G rfl Z Z (λ b2 hb2=>setRow_other w b b2 c' λ e=>hb2 (e ▸ how)) hev' ?_
   ·obtain ⟨m,hm⟩:∃ m,es.length-k=m+1:=⟨es.length-k-1,by omega⟩
    rw [hm] at hzsd ⊢;simp [Builtin.clear_,run_underlying u2,hz,<- hzsd,hstc]
   ·have hl:(es.take k++List.replicate (es.length-k) (PV.agg (ie.zero.map .val))).length=es.length:=by
     rw [la,List.length_take,List.length_replicate]; omega
    obtain ⟨fin,hfin⟩:∃ fin,fin=es.take k++List.replicate (es.length-k) (PV.agg (ie.zero.map .val)):=⟨_,rfl⟩
    rw [<- hfin] at hl ⊢
    have hmem:∀ x∈fin,x∈es\/x=PV.agg (ie.zero.map .val):=λ x hx=>by
     rw [hfin] at hx;rcases List.mem_append.1 hx with hx|hx
     ·exact .inl (List.mem_of_mem_take hx)
     ·exact .inr (List.mem_replicate.1 hx).2
    rw [<- hl];refine .stk how (setRow_heap w b c c' e2 (0,0) hb) (hsize'.trans N0) O (λ x hx=>?_) (λ x hx y hy=>?_) N7 (λ m x j p hx hp=>?_)
    ·rcases hmem x hx with hx|rfl
     ·exact hszc x hx
     ·simpa [PV.cells] using hzl'
    ·rcases hmem x hx with hx|rfl
     ·exact N6 x hx y hy
     ·simp only [PV.cells,List.mem_map] at hy;obtain ⟨v,hv,rfl⟩:=hy;exact oB hz1 v hv
    ·by_cases hmk:m<k
     ·rw [hfin,List.getElem?_append_left (by rw [List.length_take]; omega),List.getElem?_take,if_pos hmk] at hx;obtain ⟨v,h3,h4⟩:=hr m x j p hx hp;have hjl:j<ie.size:=by rw [<- hszc x (List.mem_of_getElem? hx)]; exact (List.getElem?_eq_some_iff.1 hp).1
      refine ⟨v,?_,h4.mono hev'⟩;rw [NY,if_neg ?_]
      ·exact h3
      ·have:=py ie.size (show m+1<=k from hmk);exact Cy
     ·have hml:m<es.length:=by rw [<- hl]; exact (List.getElem?_eq_some_iff.1 hx).1
      rw [hfin,List.getElem?_append_right (by rw [List.length_take]; omega)] at hx;have hx':=(List.mem_replicate.1 (List.mem_of_getElem? hx)).2;subst hx';simp only [PV.cells,List.getElem?_map,mv] at hp;obtain ⟨v,hv,rfl⟩:=hp;have hjl:j<ie.size:=by rw [<- hzl']; exact (List.getElem?_eq_some_iff.1 hv).1
      refine ⟨v,?_,.val _⟩;have h8:(m-k)*ie.size+j<(es.length-k)*ie.size:=pn O hjl
      have h9:k*ie.size+((m-k)*ie.size+j)=m*ie.size+j:=by
       rw [<- Nat.add_assoc,<- ph];congr 2;omega
      rw [NY,if_pos ⟨by omega,by rw [hzsl]; omega⟩,hzsd,Array.getElem?_toList,show m*ie.size+j-k*ie.size=(m-k)*ie.size+j by omega,<- hzs,yy O (by rw [hzs]; exact hjl),<- Array.getElem?_toList,hzc];exact hv
theorem xK {α:Type} [Inhabited α] (f:α->PV)(l:List α)(cs:α->List PV)(q:Nat){t:TypeId}{x:Operand}{i:TI}{id sz:Nat}{n:Int}(ho:o.op=.load t x)(hd:o.dst=some d)(hn:Nat.blt d C.n=true)
  (hi:look C.tt t=some i) (hia:i.k.isAgg=true) (hx:evo sl x=some (.ptr id (n.toNat*sz))) (hq:look sl q=some (.stk id sz (l.map f))) (NR:i.size=sz) (hb:0<=n/\n<(l.length:Int)) (N0:∀ x,(f x).cells=cs x)
  (hK:K ⟨(d,.p (.agg (cs (lat l n))))::sl,ob⟩):aX C o K ⟨sl,ob⟩:=by
 have hl:n.toNat<l.length:=by omega
 refine E8 (y:=f (lat l n)) ho hd hn hi hia hx Z hq NR ?_ (by rw [N0]; exact hK);rw [List.getElem?_map,List.getElem?_eq_getElem hl,lat,List.getD_eq_getElem?_getD,List.getElem?_eq_getElem hl]
 rfl
theorem rP {α:Type}(f:α->PV)(l:List α){t e:TypeId}{x:Operand}{lo:Option Operand}{id sz:Nat}{h:Int}{i ie:TI}(ho:o.op=.slice t x lo none none)(hd:o.dst=some d)(hn:Nat.blt d C.n=true)
  (hi':look C.tt t=some i) (N4:i.k=.slice e) (hie:look C.tt e=some ie) (NR:ie.size=sz) (hx:evo sl x=some (.stk id sz (l.map f))) (hlo:loI sl lo=some h)
  (hb:0<=h/\h<=(l.length:Int)) (hK:K ⟨(d,.sem [id] (KL id sz l.length h.toNat))::sl,ob⟩):aX C o K ⟨sl,ob⟩:=by
 refine yZ ho hd hn hi' N4 hie NR hx hlo Cl ?_;rw [n6];exact hK
def EF {α:Type}(f:α->PV)(l:List α)(k:Nat)(z:PV):List PV:=(l.map f).take k++List.replicate (l.length-k) z
theorem vM {α:Type}(f:α->PV)(l:List α)(q:Nat){t e:TypeId}{x:Operand}{i ie:TI}{tok sz:Nat}{h:Int}{sl':List (Nat×AV)}{ob':List (Nat×List AV)}(ho:o.op=.call { callee:=.builtin .clear,args:=#[x],argTypes:=#[t] })(hd:o.dst=none)
  (hi:look C.tt t=some i) (N4:i.k=.slice e) (hie:look C.tt e=some ie) (NR:ie.size=sz) (hzl:Nat.beq ie.zero.length ie.size=true) (hz1:pJ ie.zero=true)
  (hx:evo sl x=some (.sem [tok] (KL tok sz l.length h.toNat))) (hq:look sl q=some (.stk tok sz (l.map f))) (hb:0<=h/\h<=(l.length:Int)) (htok:Nat.blt tok M1=true)
  (h1:dmS (Nat.beq · tok) sl=some sl') (h2:dmO (Nat.beq · tok) ob=some ob') (hK:K ⟨(q,.stk tok sz (EF f l h.toNat (.agg (ie.zero.map .val))))::sl',ob'⟩):aX C o K ⟨sl,ob⟩:=by
 refine A1 (es:=l.map f) (k:=h.toNat) ho hd hi N4 hie NR hzl hz1 (by rw [n6]; exact hx) hq zb htok h1 h2 ?_;rw [n6];exact hK
theorem ue {α:Type}(f:α->PV)(l:List α){z:PV}{t e:TypeId}{x:Operand}{hi:Option Operand}{id sz:Nat}{h:Int}{i ie:TI}(ho:o.op=.slice t x none hi none)(hd:o.dst=some d)(hn:Nat.blt d C.n=true)
  (hi':look C.tt t=some i) (N4:i.k=.slice e) (hie:look C.tt e=some ie) (hx:evo sl x=some (.stk id sz (EF f l h.toNat z))) (hhi:hiI sl (l.length:Int) hi=some h)
  (hb:0<=h/\h<=(l.length:Int)) (hK:K ⟨(d,.stk id sz ((sub l 0 h).map f))::sl,ob⟩):aX C o K ⟨sl,ob⟩:=by
 have hl:(EF f l h.toNat z).length=l.length:=by
  unfold EF;rw [la,List.length_take,n6,List.length_replicate];omega
 refine BW ho hd hn hi' N4 hie hx (by rw [hl]; exact hhi) (by rw [hl]; exact hb) ?_
 have:(EF f l h.toNat z).take h.toNat=(sub l 0 h).map f:=by
  unfold EF;rw [List.take_append_of_le_length (by rw [List.length_take,n6]; omega),List.take_take,Nat.min_self,<- List.map_take]
  rfl
 rw [this];exact hK
theorem uf {α:Type}(f:α->PV)(l:List α)(y:α)(q:Nat){t:TypeId}{x v:Operand}{i:TI}{tok sz:Nat}{n:Int}{Y0z:AV}{sl':List (Nat×AV)}{ob':List (Nat×List AV)}(ho:o.op=.store t x v)(hd:o.dst=none)
  (hi:look C.tt t=some i) (hiz:i.size=sz) (hx:evo sl x=some (.ptr tok (n.toNat*sz))) (hq:look sl q=some (.stk tok sz (l.map f))) (hb:0<=n/\n<(l.length:Int))
  (hv:evo sl v=some Y0z) (hY:Y0z.sub (.p (f y))) (hc:(AV.p (f y)).cellsA=some ((f y).cells.map .p)) (hcl:Nat.beq (f y).cells.length sz=true) (htok:Nat.blt tok M1=true)
  (h1:dmS (Nat.beq · tok) sl=some sl') (h2:CK tok sz n.toNat (f y) ob=some ob') (hK:K ⟨(q,.stk tok sz ((Fi l n y).map f))::sl',ob'⟩):aX C o K ⟨sl,ob⟩:=by
 have d1:=oU h1;subst d1;refine we (s1:=⟨sl.map λ p=>(p.1,upK tok sz n.toNat (f y) p.2),ob'⟩) (s2:=⟨(q,.stk tok sz ((Fi l n y).map f))::sl.map λ p=>(p.1,p.2.dem (Nat.beq · tok)),ob'⟩) (λ K' h=>Bh f l y q ho hd hi hiz hx hq hb hv hY hc hcl htok Z h2 h) (cG ⟨λ j x hx=>?_,λ id cs hc=>Ig⟩) hK;simp only [a6,iy] at hx;simp only [AS.get,iy];by_cases e:q=j
 ·subst e;simp only [if_pos,aq] at hx;subst hx;rw [hq,Option.map_some,n9,KZ];exact AV.sub_refl _
 ·rw [if_neg e] at hx;obtain ⟨z,hz,rfl⟩:=mv.1 hx;rw [hz,Option.map_some,n9];rcases Kt tok sz n.toNat (f y) z with h|h
  ·rw [h]; exact AV.sub_refl _
  ·rw [h]; exact AV.sub_undef _
theorem Ao:xP []=some []:=rfl
theorem qv {x y:AV}{r l:List AV}(h1:bor x=some y)(h2:xP r=some l):xP (x::r)=some (y::l):=by simp only [xP,h1,h2]
theorem zt {f:Fn}{cs l:List AV}(h:AV.mapA.go (λ _=>none) cs=some l):bor (.func f cs)=some (.func f l):=by simp only [bor,AV.mapA,h]
theorem xI {α:Type}(f:α->PV)(l0 l:List α){t tx e e':TypeId}{x y:Operand}(k:Nat){sz:Nat}{X Y0z:AV}{i ie j:TI}(ho:o.op=.call { callee:=.builtin .append,args:=#[x,y],argTypes:=#[t,tx] })(hd:o.dst=some d)(hn:Nat.blt d C.n=true)
  (hi:look C.tt t=some i) (N4:i.k=.slice e) (hie:look C.tt e=some ie) (hj:look C.tt tx=some j) (hjk:j.k=.slice e') (hx:evo sl x=some X) (hX:X.sub (.stk k sz (l0.map f))) (hk:Nat.blt k M1=true)
  (hy:evo sl y=some Y0z) (hY:Y0z.elems? = some (l.map f)) (NR:∀ x,(f x).cells.length=sz) (hys:0<l.length) (h1s:ie.size=sz) (h0:Nat.blt 0 sz=true) (hzl:Nat.beq ie.zero.length ie.size=true) (hby:Nat.blt 0 ie.bytes=true)
  (NK:(l0.length+l.length)*ie.bytes<=140737488355328)
  (hK:K ⟨(d,.stk k sz ((l0++l).map f))::(cq (λ i=>Nat.beq i k) ⟨sl,ob⟩).sl,(cq (λ i=>Nat.beq i k) ⟨sl,ob⟩).ob⟩):aX C o K ⟨sl,ob⟩:=by
 have hby':1<=ie.bytes:=Nat.succ_le_of_lt vj;have h3:(l0.length+l.length)*1<=(l0.length+l.length)*ie.bytes:=Nat.mul_le_mul_left _ hby';refine y5 ho hd hn hi N4 hie hj hjk hx hX hk hy hY (λ y hy=>?_) (by simpa using hys) h1s h0 hzl BO C0 ?_
 ·obtain ⟨x,_,rfl⟩:=List.mem_map.1 hy;exact NR x
 ·rw [<- List.map_append];exact hK
theorem F9 {s0:AS}{x y:AV}{rest:List (Nat×AV)}{ob1:List (Nat×List AV)}(h:∀ K':AS->Prop,K' ⟨(d,x)::rest,ob1⟩->aX C o K' s0)(hs:x.sub y)(hK:K ⟨(d,y)::rest,ob1⟩):aX C o K s0:=by
 refine we (s2:=⟨(d,y)::rest,ob1⟩) h (cG ⟨λ j z hz=>?_,λ id cs hc=>Ig⟩) hK;simp only [a6] at hz;simp only [AS.get,a6];by_cases e:d=j
 ·rw [if_pos e] at hz ⊢
  cases hz
  exact hs
 ·rw [if_neg e] at hz ⊢;rw [hz];exact AV.sub_refl _
end
end Go.Ab
end
section
namespace Go.Ab.R06
open Go.Proofs Go.Ab Go.Ab.RB
variable {p:Prop}
theorem G4 (h:p:=by
  exact nx 2 Z (mQo (oi h0) (aJ _) Z Z Z Z (sr) ⟨⟨_,Z,⟨sr,sr,sr,sr,sr,trivial⟩⟩,trivial⟩)):p:=h
theorem yM (h:p:=by
  exact nx 3 Z (mQo (oi h0) (aU (bn 900000 800000 Z Z Z Z Z) (aU (bn 900001 800001 Z Z Z Z Z) (aJ _))) Z Z Z Z (sr) ⟨⟨_,Z,⟨sr,sr,sr,sr,sr,trivial⟩⟩,⟨_,Z,⟨sr,sr,trivial⟩⟩,trivial⟩)):p:=h
theorem H3 (h:p:=by
  exact nx 1 Z (mQo (hR0 _ (oi h1).symm) (aJ _) Z Z Z Z (cb ⟨gm _,sr,trivial⟩) ⟨⟨_,Z,⟨sr,sr,sr,sr,sr,trivial⟩⟩,trivial⟩)):p:=h
theorem G0 (h:p:=by
  exact nx 6 Z (mQo (oi h0) (aU (bn 900000 800000 Z Z Z Z Z) (aU (bn 900001 800001 Z Z Z Z Z) (aJ _))) Z Z Z Z (sr) ⟨⟨_,Z,⟨sr,sr,sr,sr,sr,trivial⟩⟩,⟨_,Z,⟨sr,sr,trivial⟩⟩,trivial⟩)):p:=h
theorem He (h:p:=by
  exact nx 3 Z (mQo (oi h0) (aJ _) Z Z Z Z (sr) ⟨⟨_,Z,⟨sr,sr,sr,sr,sr,trivial⟩⟩,trivial⟩)):p:=h
theorem HI (h:p:=by first|rfl|(simp only [dg,th,al.Mr]; done)|(simp only [dg,th,al.Mr]; rfl)):p:=h
theorem IU (h:p:=by exact eX _ (oi h2).symm (cG (jv ⟨er Z,er Z,er Z,er Z,⟨_,Z,FV c6.symm⟩,er Z,trivial⟩ ⟨⟨_,Z,⟨sr,sr,trivial⟩⟩,⟨_,Z,⟨sr,sr,sr,trivial⟩⟩,⟨_,Z,⟨sr,sr,trivial⟩⟩,⟨_,Z,⟨sr,sr,sr,sr,sr,trivial⟩⟩,trivial⟩))):p:=h
theorem Jb (h:p:=by exact mQo (oi h0) (aJ _) Z Z Z Z (sr) ⟨⟨_,Z,⟨sr,sr,sr,sr,sr,trivial⟩⟩,trivial⟩):p:=h
theorem yj (h:p:=by simp only [rW K_f_1]):p:=h
theorem CN (h:p:=by exact mQo (oi h0) (aJ _) Z Z Z Z (cb ⟨sr,sr,trivial⟩) ⟨⟨_,Z,⟨sr,sr,sr,sr,sr,trivial⟩⟩,trivial⟩):p:=h
attribute [local irreducible] awp fV aX aK aS AV.sub M cv
def cI (NL:aj):Option (ac×aj) :=ck ((0:Int)<=NL.fat/\NL.fat<(NL.fl.length:Int))<|some ((lat NL.fl NL.fat),NL)
theorem dk (NL:aj)(r:ac×aj)(h0:cI NL=some r):aS Tryz.prog 28 [.ptr 1000000 0] [(1000000,[.p (eL az NL.fl),.p (eI NL.fat),.p (eI NL.AI.Ar),.p (eI NL.AI.fAt),.p (eS NL.AI.AT)])] (λ x y=>x=.p (.agg (ac.cs r.1))/\y=[(1000000,[.p (eL az r.2.fl),.p (eI r.2.fat),.p (eI r.2.AI.Ar),.p (eI r.2.AI.fAt),.p (eS r.2.AI.AT)])]):=by
 unfold cI at h0;refine bT good [] [1000000] Tryz.func28 Z Z Z Z Z λ w0 F=>mPo (λ v:ac×aj=>.p (.agg (ac.cs v.1))) (λ v=>[(1000000,[.p (eL az v.2.fl),.p (eI v.2.fat),.p (eI v.2.AI.Ar),.p (eI v.2.AI.fAt),.p (eS v.2.AI.AT)])]) ?_;refine nx 5 Z (cc' h0 λ Ra h0=>?_);refine mG (gE (t:=⟨[(0,.ptr 1000000 0),(2,.ptr 2 0)],[(2,[.p (eI 0),.p (eS ([]:Bk)),.p (eI 0)]),(1000000,[.p (eL az NL.fl),.p (eI NL.fat),.p (eI NL.AI.Ar),.p (eI NL.AI.fAt),.p (eS NL.AI.AT)])]⟩) Z Z) (mS ⟨1,[10],(λ _=>.none),(λ _=>[(0,.ptr 1000000 0),(2,.ptr 2 0)]),(by2 ([(2,[.p (eI 0),.p (eS ([]:Bk)),.p (eI 0)]),(1000000,[.p (eL az NL.fl),.p (eI NL.fat),.p (eI NL.AI.Ar),.p (eI NL.AI.fAt),.p (eS NL.AI.AT)])]) ([(2,[.p (eI ((lat NL.fl NL.fat).Ar)),.p (eS ((lat NL.fl NL.fat).BY)),.p (eI ((lat NL.fl NL.fat).fAt))]),(2,[.p (eI 0),.p (eS ([]:Bk)),.p (eI 0)]),(1000000,[.p (eL az NL.fl),.p (eI NL.fat),.p (eI NL.AI.Ar),.p (eI NL.AI.fAt),.p (eS NL.AI.AT)])]))⟩ Z Z Z ⟨Z,Z,trivial⟩ (lt1 ⟨Z,Z,trivial⟩) Z Z Z Z ?_);refine ar (λ _=>.ptr 1000000 0) Z Z Z (dG Z Y) (lt1 Z) (ak Z (ai [(0,_)] ⟨.inl Z,trivial⟩ (λ sl NI K hK=>ah Z (b6 Z Z Z (NI _ _ Z) hK)) ap)) (ar (λ _=>.ptr 1000000 0) Z Z Z (dG Z Y) (lt1 Z) (ak Z (ai [(3,_)] ⟨.inr ⟨0,_,Z,Z,Z⟩,trivial⟩ (λ sl NI K hK=>ah Z (bE Z Z Z (NI _ _ Z) hK)) ap)) ?_);refine ar (λ _=>.ptr 1000000 0) Z Z Z (dG Z Y) (lt1 Z) (ak Z (ai [(4,_)] ⟨.inr ⟨1,_,Z,Z,Z⟩,trivial⟩ (λ sl NI K hK=>ah Z (aI Z Z Z Z Z Z Z Z (NI _ _ Z) hK)) ap)) (ar (λ _=>.p (eL az NL.fl)) Z Z Z (dG Z Y) (lt1 Z) (ak Z (ai [(5,_)] ⟨.inr ⟨2,_,Z,Z,Z⟩,trivial⟩ (λ sl NI K hK=>ah Z (bH Z Z Z Z Z (NI _ _ Z) Z Z hK)) ap)) ?_);refine ar (λ _=>.ptr 1000000 0) Z Z Z (dG Z Y) (lt1 Z) (ak Z (ai [(0,_)] ⟨.inl Z,trivial⟩ (λ sl NI K hK=>ah Z (b6 Z Z Z (NI _ _ Z) hK)) ap)) (ar (λ _=>.ptr 1000000 0) Z Z Z (dG Z Y) (lt1 Z) (ak Z (ai [(7,_)] ⟨.inr ⟨4,_,Z,Z,Z⟩,trivial⟩ (λ sl NI K hK=>ah Z (bE Z Z Z (NI _ _ Z) hK)) ap)) ?_);refine ar (λ _=>.ptr 1000000 1) Z Z Z (dG Z Y) (lt1 Z) (ak Z (ai [(8,_)] ⟨.inr ⟨5,_,Z,Z,Z⟩,trivial⟩ (λ sl NI K hK=>ah Z (aI Z Z Z Z Z Z Z Z (NI _ _ Z) hK)) ap)) (ar (λ _=>.p (eI NL.fat)) Z Z Z (dG Z Y) (lt1 Z) (ak Z (ai [(9,_)] ⟨.inr ⟨6,_,Z,Z,Z⟩,trivial⟩ (λ sl NI K hK=>ah Z (bH Z Z Z Z Z (NI _ _ Z) Z Z hK)) ap)) ?_);refine ar (λ _=>.rptr (ac.cs (lat NL.fl NL.fat))) Z Z Z (dG Z Y) (lt1 Z) (ak Z (ai [(6,_),(10,_)] ⟨.inr ⟨3,_,Z,Z,Z⟩,.inr ⟨7,_,Z,Z,Z⟩,trivial⟩ (λ sl NI K hK=>ah Z (nV (f:=az) (l:=NL.fl) ac.cs Z Z Z Z Z Z (NI _ _ Z) Z (NI _ _ Z) Ra ac.F' Y hK)) ap)) (ar (λ _=>.p (.agg (ac.cs (lat NL.fl NL.fat)))) Z Z Z (dG Z Y) (lt1 Z) (ak Z (ai [(11,_)] ⟨.inr ⟨8,_,Z,Z,Z⟩,trivial⟩ (λ sl NI K hK=>ah Z (xj Z Z Z Z Z (NI _ _ Z) Z hK)) ap)) ?_);refine dI [(2,_),(12,_)] Z ⟨.inl Z,.inr ⟨9,_,Z,Z,Z⟩,trivial⟩ Z (λ sl NI K hK=>ah Z (fe Z Z Z (NI _ _ Z) (NI _ _ Z) Z Z Z (ld Z) hK)) (cV ?_);exact G4
def cC:Nat->(List ac)->Int->Int->Int->Bk->Option ((List ac)×Int×Int×Int×Bk)|0,_,_,_,_,_=>none|m+1,Rf,f11,f12,f13,RA=>(cI (aj.mk Rf f11 (au.mk f12 f13 RA))).bind λ N8=>if N8.1.Ar=5 then ck (inR (N8.2.fat+1))<|cC m N8.2.fl (N8.2.fat+1) N8.2.AI.Ar N8.2.AI.fAt N8.2.AI.AT else some (N8.2.fl,N8.2.fat,N8.2.AI.Ar,N8.2.AI.fAt,N8.2.AI.AT)
def eG (n:Nat)(NL:aj):Option (Bool×aj) :=(cC n NL.fl NL.fat NL.AI.Ar NL.AI.fAt NL.AI.AT).bind λ Sv=>some (decide (NL.fat<Sv.2.1),(aj.mk Sv.1 Sv.2.1 (au.mk Sv.2.2.1 Sv.2.2.2.1 Sv.2.2.2.2)))
theorem ka (n:Nat)(NL:aj)(r:Bool×aj)(h0:eG n NL=some r):aS Tryz.prog 51 [.ptr 1000000 0] [(1000000,[.p (eL az NL.fl),.p (eI NL.fat),.p (eI NL.AI.Ar),.p (eI NL.AI.fAt),.p (eS NL.AI.AT)])] (λ x y=>x=.p (eB r.1)/\y=[(1000000,[.p (eL az r.2.fl),.p (eI r.2.fat),.p (eI r.2.AI.Ar),.p (eI r.2.AI.fAt),.p (eS r.2.AI.AT)])]):=by
 unfold eG at h0;refine bT good [] [1000000] Tryz.func51 Z Z Z Z Z λ w0 F=>mPo (λ v:Bool×aj=>.p (eB v.1)) (λ v=>[(1000000,[.p (eL az v.2.fl),.p (eI v.2.fat),.p (eI v.2.AI.Ar),.p (eI v.2.AI.fAt),.p (eS v.2.AI.AT)])]) ?_;refine nx 14 Z (bd h0 λ SB h1 h0=>?_);refine kE 0 SB (λ QT=>⟨[(0,.ptr 1000000 0),(3,.p (eI NL.fat))],[(1000000,[.p (eL az QT.1),.p (eI QT.2.1),.p (eI QT.2.2.1),.p (eI QT.2.2.2.1),.p (eS QT.2.2.2.2)])]⟩) ?_ ?_
 ·exact nx 12 Z Jb
 refine lG (λ (RL:(List ac)×Int×Int×Int×Bk)=>⟨[(0,.ptr 1000000 0),(3,.p (eI NL.fat))],[(1000000,[.p (eL az RL.1),.p (eI RL.2.1),.p (eI RL.2.2.1),.p (eI RL.2.2.2.1),.p (eS RL.2.2.2.2)])]⟩) (λ m (RL:(List ac)×Int×Int×Int×Bk)=>cC m RL.1 RL.2.1 RL.2.2.1 RL.2.2.2.1 RL.2.2.2.2) Y (NL.fl,NL.fat,NL.AI.Ar,NL.AI.fAt,NL.AI.AT) h1 (gE rfl rfl) ?_;rintro m ⟨Rf,f11,f12,f13,RA⟩ h1;replace h1:cC (m+1) Rf f11 f12 f13 RA=some SB:=h1;rw [cC] at h1;refine nx 4 rfl (bd h1 λ N8 SL h1=>?_);refine mO rfl (aN [1000000] [] 102000 102000 (dk (aj.mk Rf f11 (au.mk f12 f13 RA)) _ SL) rfl rfl rfl rfl rfl ⟨sr,trivial⟩ rfl rfl ⟨⟨_,rfl,⟨sr,sr,sr,sr,sr,trivial⟩⟩,trivial⟩ rfl rfl rfl rfl rfl rfl rfl rfl Tryz.call28 rfl rfl ?_);refine nx 3 rfl (fD [11] h1 rfl (λ Oo h1=>?_) λ Oo h1=>?_)
 ·refine nx 8 Z (oA h1 Z Z λ QL h1=>?_);exact nx 4 Z (eX (N8.2.fl,N8.2.fat+1,N8.2.AI.Ar,N8.2.AI.fAt,N8.2.AI.AT) h1 (gE Z Z))
 exact cH
def fo (NL:aj)(s_1:Bk):Option (Bool×aj) :=(cI NL).bind λ r1=>(if r1.1.Ar=4 then some (decide (r1.1.BY=s_1))else some false : Option Bool).bind λ t4=>some (t4,r1.2)
theorem jD (NL:aj)(s_1:Bk)(r:Bool×aj)(h0:fo NL s_1=some r):aS Tryz.prog 52 [.ptr 1000000 0,.p (eS s_1)] [(1000000,[.p (eL az NL.fl),.p (eI NL.fat),.p (eI NL.AI.Ar),.p (eI NL.AI.fAt),.p (eS NL.AI.AT)])] (λ x y=>x=.p (eB r.1)/\y=[(1000000,[.p (eL az r.2.fl),.p (eI r.2.fat),.p (eI r.2.AI.Ar),.p (eI r.2.AI.fAt),.p (eS r.2.AI.AT)])]):=by
 unfold fo at h0;refine bT good [] [1000000] Tryz.func52 Z Z Z Z Z λ w0 F=>mPo (λ v:Bool×aj=>.p (eB v.1)) (λ v=>[(1000000,[.p (eL az v.2.fl),.p (eI v.2.fat),.p (eI v.2.AI.Ar),.p (eI v.2.AI.fAt),.p (eS v.2.AI.AT)])]) ?_;refine nx 7 Z (bd h0 λ r1 e2 h0=>?_);refine mO Z (aN [1000000] [] 101000 101000 (dk NL _ e2) Z Z Z Z Z ⟨sr,trivial⟩ Z Z ⟨⟨_,Z,⟨sr,sr,sr,sr,sr,trivial⟩⟩,trivial⟩ Z Z Z Z Z Z Z Z Tryz.call28 Z Z ?_);refine nx 4 Z (bd h0 λ o6 h1 h0=>?_);refine kN o6 (λ v7=>⟨[(4,.p (eB v7))],[(1000000,(aj.cs r1.2).map .p)]⟩) ?_ ?_
 ·exact G4
 refine nx 5 Z (fD [10,11] h1 Z (λ c3 h1=>?_) λ c3 h1=>?_)
 ·refine nx 3 Z (oS Z Z ?_);exact y3
 exact mq
def fu (NL:aj)(k_1:Int)(at_2:Int)(name_3:Bk):Option (Bool×aj) :=some (false,(aj.mk NL.fl NL.fat (au.mk k_1 at_2 name_3)))
theorem fM (NL:aj)(k_1:Int)(at_2:Int)(name_3:Bk)(r:Bool×aj)(h0:fu NL k_1 at_2 name_3=some r):aS Tryz.prog 55 [.ptr 1000000 0,.p (eI k_1),.p (eI at_2),.p (eS name_3)] [(1000000,[.p (eL az NL.fl),.p (eI NL.fat),.p (eI NL.AI.Ar),.p (eI NL.AI.fAt),.p (eS NL.AI.AT)])] (λ x y=>x=.p (eB r.1)/\y=[(1000000,[.p (eL az r.2.fl),.p (eI r.2.fat),.p (eI r.2.AI.Ar),.p (eI r.2.AI.fAt),.p (eS r.2.AI.AT)])]):=by
 unfold fu at h0;refine bT good [] [1000000] Tryz.func55 Z Z Z Z Z λ w0 F=>mPo (λ v:Bool×aj=>.p (eB v.1)) (λ v=>[(1000000,[.p (eL az v.2.fl),.p (eI v.2.fat),.p (eI v.2.AI.Ar),.p (eI v.2.AI.fAt),.p (eS v.2.AI.AT)])]) ?_;exact nx 20 Z Jb
def aM (NN:List al)(f_1:al->Option Bool):Nat->Int->Option (Unit⊕Int)|0,_=>none|m+1,t8=>if t8<(NN.length:Int) then ck ((0:Int)<=t8/\t8<(NN.length:Int))<|(f_1 (lat NN t8)).bind λ PM=>if PM=true then some (.inr t8)else ck (inR (t8+1))<|aM NN f_1 m (t8+1)else some (.inl ())
def bP (n:Nat)(NN:List al)(f_1:al->Option Bool):Option Int :=jn (aM NN f_1 n 0) λ _q16=>some (-1)
theorem d8 (n:Nat)(NN:List al)(f_1:al->Option Bool)(F_f_1:FuncId)(C_f_1:List AV)(K_f_1:AV.mapA.go (λ _=>none) C_f_1=some C_f_1)(E_f_1:∀ vs w,(callFunc F_f_1 vs).run Tryz.prog w=.ok (.enter F_f_1 vs) w)(H_f_1:∀ (x0:al) r,f_1 x0=some r->gG Tryz.prog F_f_1 ([.p (.agg (al.cs x0))]++C_f_1) (·=.p (eB r)))(r:Int)(h0:bP n NN f_1=some r):gG Tryz.prog 78 [.p (eL ao NN),.func (.func F_f_1) C_f_1] (·=.p (eI r)):=by
 unfold bP at h0;refine sP good Tryz.func78 Z Z Z λ w0=>mP (λ v:Int=>.p (eI v)) ?_;refine nx 8 rfl (oLl (f:=ao) Z Z ?_);refine nx 3 rfl ?_;obtain ⟨TO,h1,Ou,hR0⟩:=cw h0;refine kEx 0 (λ Sk:Unit=>TO=.inl Sk) (λ Sk=>⟨[],[]⟩) (λ Sk hv=>?_) ?_
 ·have h0:=Ou _ hv;exact ez
 refine lG (λ (Ro:Int)=>⟨[(0,.p (eL ao NN)),(1,.func (.func F_f_1) C_f_1),(7,.p (eI (NN.length:Int))),(8,.p (eI Ro))],[]⟩) (λ m (Ro:Int)=>aM NN f_1 m Ro) Y 0 h1 (gE rfl rfl) ?_;rintro m t8 h1;replace h1:aM NN f_1 (m+1) t8=some TO:=h1;rw [aM] at h1;refine nx 5 rfl (fD [9] h1 rfl (λ c9 h1=>?_) λ c9 h1=>?_)
 ·refine nx 14 Z (oE h1 al.F' Z Z Y λ Po h1=>?_);refine nx 1 Z (bd h1 λ PM QN h1=>?_);refine mG (gFn 1 C_f_1 Z yj) (mG (gFn 11 C_f_1 Z yj) ?_);refine mO Z (rF (q:=[.p (.agg (al.cs (lat NN t8)))]) (H_f_1 (lat NN t8) _ QN) Z Z Z Z K_f_1 Z Z ⟨sr,trivial⟩ E_f_1 Z ?_);refine nx 1 Z (fB [16] h1 Z (λ P8 h1=>?_) λ P8 h1=>?_)
  ·exact u6
  exact yF
 exact cH
def bF (n:Nat)(NN:List al)(f_1:al->Option Bool):Option Bool :=(bP n NN f_1).bind λ r1=>some (decide (0<=r1))
theorem gv (n:Nat)(NN:List al)(f_1:al->Option Bool)(F_f_1:FuncId)(C_f_1:List AV)(K_f_1:AV.mapA.go (λ _=>none) C_f_1=some C_f_1)(E_f_1:∀ vs w,(callFunc F_f_1 vs).run Tryz.prog w=.ok (.enter F_f_1 vs) w)(H_f_1:∀ (x0:al) r,f_1 x0=some r->gG Tryz.prog F_f_1 ([.p (.agg (al.cs x0))]++C_f_1) (·=.p (eB r)))(r:Bool)(h0:bF n NN f_1=some r):gG Tryz.prog 87 [.p (eL ao NN),.func (.func F_f_1) C_f_1] (·=.p (eB r)):=by
 unfold bF at h0;refine sP good Tryz.func87 Z Z Z λ w0=>mP (λ v:Bool=>.p (eB v)) ?_;refine nx 8 Z (bd h0 λ r1 e2 h0=>?_);refine mO Z (zo (d8 _ NN f_1 F_f_1 C_f_1 K_f_1 E_f_1 H_f_1 _ e2) Z Z Z Z (mZ Z (mZ (xx K_f_1) vQ)) ⟨sr,sr,trivial⟩ Tryz.call78 Z ?_);exact wk
def cB (a_0:al)(cap_0:ac):Option Bool :=some (decide (a_0.AT=cap_0.BY))
theorem mn (a_0:al)(cap_0:ac)(r:Bool)(h0:cB a_0 cap_0=some r):gG Tryz.prog 88 [.p (.agg (al.cs a_0)),.rptr (ac.cs cap_0)] (·=.p (eB r)):=by
 unfold cB at h0;refine sP good Tryz.func88 Z Z Z λ w0=>mP (λ v:Bool=>.p (eB v)) ?_;refine nx 11 Z (oS Z Z ?_);exact nz
def cj (NL:aj):Nat->Int->Int->Option (Unit⊕(Int×aj))|0,_,_=>none|m+1,open23,i24=>jn (ck ((0:Int)<=i24/\i24<(NL.fl.length:Int))<|(if (lat NL.fl i24).Ar=6 then some true else if (lat NL.fl i24).Ar=5 then some (decide (open23=0))else some false : Option Bool).bind λ Pr=>if Pr=true then some (.inr (.inr (i24,NL)))else if (lat NL.fl i24).Ar=4 then jn ((if (lat NL.fl i24).BY=([40]:Bk) then some true else if (lat NL.fl i24).BY=([91]:Bk) then some true else some (decide ((lat NL.fl i24).BY=([123]:Bk))) : Option Bool).bind λ t33=>if t33=true then ck (inR (open23+1))<|some (.inl (open23+1))else(if (lat NL.fl i24).BY=([41]:Bk) then some true else if (lat NL.fl i24).BY=([93]:Bk) then some true else some (decide ((lat NL.fl i24).BY=([125]:Bk))) : Option Bool).bind λ t38=>if t38=true then if open23=0 then some (.inr (.inr (.inr (i24,NL))))else ck (inR (open23-1))<|some (.inl (open23-1))else some (.inl open23) : Option (Int⊕(Int⊕(Unit⊕(Int×aj))))) λ open42=>some (.inl open42)else some (.inl open23) : Option (Int⊕(Unit⊕(Int×aj)))) λ open43=>ck (inR (i24+1))<|cj NL m open43 (i24+1)
def iI (n:Nat)(NL:aj):Option (Int×aj) :=jn (cj NL n 0 NL.fat) λ _PQ=>none
theorem pm (n:Nat)(NL:aj)(r:Int×aj)(h0:iI n NL=some r):aS Tryz.prog 114 [.ptr 1000000 0] [(1000000,[.p (eL az NL.fl),.p (eI NL.fat),.p (eI NL.AI.Ar),.p (eI NL.AI.fAt),.p (eS NL.AI.AT)])] (λ x y=>x=.p (eI r.1)/\y=[(1000000,[.p (eL az r.2.fl),.p (eI r.2.fat),.p (eI r.2.AI.Ar),.p (eI r.2.AI.fAt),.p (eS r.2.AI.AT)])]):=by
 unfold iI at h0;refine bT good [] [1000000] Tryz.func114 Z Z Z Z Z λ w0 F=>mPo (λ v:Int×aj=>.p (eI v.1)) (λ v=>[(1000000,[.p (eL az v.2.fl),.p (eI v.2.fat),.p (eI v.2.AI.Ar),.p (eI v.2.AI.fAt),.p (eS v.2.AI.AT)])]) ?_;refine nx 17 rfl ?_;obtain ⟨Rj,h1,Ou,hR0⟩:=cw h0;refine kEx 0 (λ Tz:Unit=>Rj=.inl Tz) (λ Tz=>⟨[],[(1000000,[.p (eL az NL.fl),.p (eI NL.fat),.p (eI NL.AI.Ar),.p (eI NL.AI.fAt),.p (eS NL.AI.AT)])]⟩) (λ Tz hv=>?_) ?_
 ·exact yR
 refine lG (λ (UF:Int×Int)=>⟨[(0,.ptr 1000000 0),(3,.p (eI UF.1)),(4,.p (eI UF.2))],[(1000000,[.p (eL az NL.fl),.p (eI NL.fat),.p (eI NL.AI.Ar),.p (eI NL.AI.fAt),.p (eS NL.AI.AT)])]⟩) (λ m (UF:Int×Int)=>cj NL m UF.1 UF.2) Y (0,NL.fat) h1 (gE rfl rfl) ?_;rintro m ⟨open23,i24⟩ h1;replace h1:cj NL (m+1) open23 i24=some Rj:=h1;rw [cj] at h1;refine nx 1 rfl ?_;obtain ⟨o56,h2,hL1,hR1⟩:=cw h1;refine kX (λ Ut:Int=>o56=.inl Ut) (λ Ut=>⟨[(0,.ptr 1000000 0),(3,.p (eI Ut)),(4,.p (eI i24))],[(1000000,[.p (eL az NL.fl),.p (eI NL.fat),.p (eI NL.AI.Ar),.p (eI NL.AI.fAt),.p (eS NL.AI.AT)])]⟩) (λ Ut hv=>?_) ?_
 ·have h1:=hL1 _ hv;refine nx 3 Z (oA h1 Z Z λ UU h1=>?_);exact nx 2 Z (eX (Ut,i24+1) h1 (gE Z Z))
 refine nx 8 Z (oE h2 ac.F' Z Z Y λ Qc h2=>?_);refine nx 6 Z (bd h2 λ o58 h3 h2=>?_);refine kN o58 (λ v59=>⟨[(0,.ptr 1000000 0),(3,.p (eI open23)),(4,.p (eI i24)),(5,.ptr 5 0),(30,.p (eB v59))],[(5,(ac.cs (lat NL.fl i24)).map .p),(1000000,[.p (eL az NL.fl),.p (eI NL.fat),.p (eI NL.AI.Ar),.p (eI NL.AI.fAt),.p (eS NL.AI.AT)])]⟩) ?_ ?_
 ·refine nx 1 Z (fB [30] h2 Z (λ SO h2=>?_) λ SO h2=>?_)
  ·exact nx 7 Z (mQo (hR0 _ (hR1 _ (oi h2).symm).symm) (aJ _) Z Z Z Z (sr) ⟨⟨_,Z,⟨sr,sr,sr,sr,sr,trivial⟩⟩,trivial⟩)
  refine nx 9 Z (fN [34] h2 Z (λ Tt h2=>?_) λ Tt h2=>?_)
  ·refine nx 7 rfl ?_;obtain ⟨o60,h3,hL2,hR2⟩:=cw h2;refine kX (λ v61:Int=>o60=.inl v61) (λ v61=>⟨[(0,.ptr 1000000 0),(3,.p (eI v61)),(4,.p (eI i24))],[(1000000,[.p (eL az NL.fl),.p (eI NL.fat),.p (eI NL.AI.Ar),.p (eI NL.AI.fAt),.p (eS NL.AI.AT)])]⟩) (λ v61 hv=>?_) ?_
   ·have h2:=hL2 _ hv;exact zk
   refine nx 2 Z (bd h3 λ o62 h4 h3=>?_);refine kN o62 (λ v63=>⟨[(0,.ptr 1000000 0),(3,.p (eI open23)),(4,.p (eI i24)),(36,.p (eS ((lat NL.fl i24).BY))),(37,.p (eB v63))],[(1000000,[.p (eL az NL.fl),.p (eI NL.fat),.p (eI NL.AI.Ar),.p (eI NL.AI.fAt),.p (eS NL.AI.AT)])]⟩) ?_ ?_
   ·refine nx 1 Z (fB [37] h3 Z (λ Vp h3=>?_) λ Vp h3=>?_)
    ·refine nx 3 Z (oA h3 Z Z λ SG h3=>?_);exact mI
    refine nx 2 Z (bd h3 λ o64 h4 h3=>?_);refine kN o64 (λ v65=>⟨[(0,.ptr 1000000 0),(3,.p (eI open23)),(4,.p (eI i24)),(43,.p (eB v65))],[(1000000,[.p (eL az NL.fl),.p (eI NL.fat),.p (eI NL.AI.Ar),.p (eI NL.AI.fAt),.p (eS NL.AI.AT)])]⟩) ?_ ?_
    ·refine nx 1 Z (fB [43] h3 Z (λ SN h3=>?_) λ SN h3=>?_)
     ·refine nx 7 Z (fD [48] h3 Z (λ RD h3=>?_) λ RD h3=>?_)
      ·exact nx 7 Z (mQo (hR0 _ (hR1 _ (hR2 _ (oi h3).symm).symm).symm) (aJ _) Z Z Z Z (sr) ⟨⟨_,Z,⟨sr,sr,sr,sr,sr,trivial⟩⟩,trivial⟩)
      refine nx 4 Z (oA h3 Z Z λ QK h3=>?_);exact mI
     exact mI
    refine nx 2 Z (oS Z Z ?_);refine nx 2 Z (fD [43,44] h4 Z (λ Tq h4=>?_) λ Tq h4=>?_)
    ·exact rm
    refine nx 3 Z (oS Z Z ?_);refine nx 2 Z (fD [43,45] h4 Z (λ c37 h4=>?_) λ c37 h4=>?_)
    ·exact rm
    refine nx 2 Z (oS Z Z ?_);exact rm
   refine nx 2 Z (oS Z Z ?_);refine nx 2 Z (fD [37,38] h4 Z (λ Ts h4=>?_) λ Ts h4=>?_)
   ·exact rm
   refine nx 3 Z (oS Z Z ?_);refine nx 2 Z (fD [37,39] h4 Z (λ Vr h4=>?_) λ Vr h4=>?_)
   ·exact rm
   refine nx 2 Z (oS Z Z ?_);exact rm
  exact fS
 refine nx 5 Z (fD [21,22] h3 Z (λ SP h3=>?_) λ SP h3=>?_)
 ·exact nx 9 Z yX
 refine nx 4 Z (fD [25,26] h3 Z (λ QP h3=>?_) λ QP h3=>?_)
 ·exact B5
 exact B5
def eQ (n:Nat)(NL:aj):Option (ag×Bool×aj) :=(iI n NL).bind λ r1=>ck ((0:Int)<=r1.2.fat/\r1.2.fat<=r1.1/\r1.1<=(r1.2.fl.length:Int))<|ck ((sub r1.2.fl r1.2.fat r1.1).length*32<=140737488355328)<|ck ((0:Int)<=r1.1/\r1.1<(r1.2.fl.length:Int))<|ck (((sub r1.2.fl r1.2.fat r1.1).length+([(ac.mk 6 ([]:Bk) ((lat r1.2.fl r1.1).fAt))]).length)*32<=140737488355328)<|(kU n ((sub r1.2.fl r1.2.fat r1.1)++([(ac.mk 6 ([]:Bk) ((lat r1.2.fl r1.1).fAt))])) 0).bind λ r7=>if r7.2.2.Ar=0 then ck (inR (r1.2.fat+r7.2.1))<|some (r7.1,true,(aj.mk r1.2.fl (r1.2.fat+r7.2.1) r1.2.AI))else some (r7.1,false,(aj.mk r1.2.fl r1.2.fat r7.2.2))
theorem mX (n:Nat)(NL:aj)(r:ag×Bool×aj)(h0:eQ n NL=some r):aS Tryz.prog 89 [.ptr 1000000 0] [(1000000,[.p (eL az NL.fl),.p (eI NL.fat),.p (eI NL.AI.Ar),.p (eI NL.AI.fAt),.p (eS NL.AI.AT)])] (λ x y=>x=.tuple [.p (.agg (ag.cs r.1)),.p (eB r.2.1)]/\y=[(1000000,[.p (eL az r.2.2.fl),.p (eI r.2.2.fat),.p (eI r.2.2.AI.Ar),.p (eI r.2.2.AI.fAt),.p (eS r.2.2.AI.AT)])]):=by
 unfold eQ at h0;refine bT good [] [1000000] Tryz.func89 Z Z Z Z Z λ w0 F=>mPo (λ v:ag×Bool×aj=>.tuple [.p (.agg (ag.cs v.1)),.p (eB v.2.1)]) (λ v=>[(1000000,[.p (eL az v.2.2.fl),.p (eI v.2.2.fat),.p (eI v.2.2.AI.Ar),.p (eI v.2.2.AI.fAt),.p (eS v.2.2.AI.AT)])]) ?_;refine nx 8 Z (bd h0 λ r1 e2 h0=>?_);refine mO Z (aN [1000000] [] 101000 101000 (pm _ NL _ e2) Z Z Z Z Z ⟨sr,trivial⟩ Z Z ⟨⟨_,Z,⟨sr,sr,sr,sr,sr,trivial⟩⟩,trivial⟩ Z Z Z Z Z Z Z Z Tryz.call114 Z Z ?_);refine nx 3 Z (cc' h0 λ QY h0=>?_);refine cc' h0 λ Rq h0=>cc' h0 λ RP h0=>cc' h0 λ hk6 h0=>mG (gE (t:=⟨[(0,.ptr 1000000 0),(2,.ptr 2 0),(4,.p (eI r1.1))],[(2,[.p (eI 0),.p (eI 0),.p (eS ([]:Bk)),.p (eS ([]:Bk)),.p (eI 0),.p (eI 0),.p (eS ([]:Bk)),.p (.val (.slice none 0 0)),.p (.val (.slice none 0 0)),.p (.val (.slice none 0 0)),.p (eI 0)]),(1000000,(aj.cs r1.2).map .p)]⟩) Z Z) (mS ⟨2,[10,21],(by3 (.some (dp [] 102000 102001)) (.some λ i=>Nat.beq i 102000||Nat.beq i 32) .none),(λ _=>[(0,.ptr 1000000 0),(2,.ptr 2 0),(4,.p (eI r1.1))]),(λ _=>[(2,[.p (eI 0),.p (eI 0),.p (eS ([]:Bk)),.p (eS ([]:Bk)),.p (eI 0),.p (eI 0),.p (eS ([]:Bk)),.p (.val (.slice none 0 0)),.p (.val (.slice none 0 0)),.p (.val (.slice none 0 0)),.p (eI 0)]),(1000000,[.p (eL az r1.2.fl),.p (eI r1.2.fat),.p (eI r1.2.AI.Ar),.p (eI r1.2.AI.fAt),.p (eS r1.2.AI.AT)])])⟩ Z Z Z ⟨Z,Z,Z,trivial⟩ (lt2 ⟨Z,Z,Z,trivial⟩ ⟨Z,Z,Z,trivial⟩) Z Z Z Z ?_);refine ar (λ _=>.ptr 1000000 0) Z Z Z (cM Z Z Y) (lt2 Z Z) (ai [(0,_)] ⟨.inl Z,trivial⟩ (λ sl NI K hK=>ah Z (b6 Z Z Z (NI _ _ Z) hK)) (ai [(0,_)] ⟨.inl Z,trivial⟩ (λ sl NI K hK=>ah Z (b6 Z Z Z (NI _ _ Z) hK)) (ai [(0,_)] ⟨.inl Z,trivial⟩ (λ sl NI K hK=>ah Z (b6 Z Z Z (NI _ _ Z) hK)) ap))) (ar (λ _=>.ptr 1000000 0) Z Z Z (cM Z Z Y) (lt2 Z Z) (ai [(11,_)] ⟨.inr ⟨0,_,Z,Z,Z⟩,trivial⟩ (λ sl NI K hK=>ah Z (bE Z Z Z (NI _ _ Z) hK)) (ai [(11,_)] ⟨.inr ⟨0,_,Z,Z,Z⟩,trivial⟩ (λ sl NI K hK=>ah Z (bE Z Z Z (NI _ _ Z) hK)) (ai [(11,_)] ⟨.inr ⟨0,_,Z,Z,Z⟩,trivial⟩ (λ sl NI K hK=>ah Z (bE Z Z Z (NI _ _ Z) hK)) ap))) ?_);refine ar (λ _=>.ptr 1000000 0) Z Z Z (cM Z Z Y) (lt2 Z Z) (ai [(12,_)] ⟨.inr ⟨1,_,Z,Z,Z⟩,trivial⟩ (λ sl NI K hK=>ah Z (aI Z Z Z Z Z Z Z Z (NI _ _ Z) hK)) (ai [(12,_)] ⟨.inr ⟨1,_,Z,Z,Z⟩,trivial⟩ (λ sl NI K hK=>ah Z (aI Z Z Z Z Z Z Z Z (NI _ _ Z) hK)) (ai [(12,_)] ⟨.inr ⟨1,_,Z,Z,Z⟩,trivial⟩ (λ sl NI K hK=>ah Z (aI Z Z Z Z Z Z Z Z (NI _ _ Z) hK)) ap))) (ar (λ _=>.p (eL az r1.2.fl)) Z Z Z (cM Z Z Y) (lt2 Z Z) (ai [(13,_)] ⟨.inr ⟨2,_,Z,Z,Z⟩,trivial⟩ (λ sl NI K hK=>ah Z (bH Z Z Z Z Z (NI _ _ Z) Z Z hK)) (ai [(13,_)] ⟨.inr ⟨2,_,Z,Z,Z⟩,trivial⟩ (λ sl NI K hK=>ah Z (bH Z Z Z Z Z (NI _ _ Z) Z Z hK)) (ai [(13,_)] ⟨.inr ⟨2,_,Z,Z,Z⟩,trivial⟩ (λ sl NI K hK=>ah Z (bH Z Z Z Z Z (NI _ _ Z) Z Z hK)) ap))) ?_);refine ar (λ _=>.ptr 1000000 0) Z Z Z (cM Z Z Y) (lt2 Z Z) (ai [(0,_)] ⟨.inl Z,trivial⟩ (λ sl NI K hK=>ah Z (b6 Z Z Z (NI _ _ Z) hK)) (ai [(0,_)] ⟨.inl Z,trivial⟩ (λ sl NI K hK=>ah Z (b6 Z Z Z (NI _ _ Z) hK)) (ai [(0,_)] ⟨.inl Z,trivial⟩ (λ sl NI K hK=>ah Z (b6 Z Z Z (NI _ _ Z) hK)) ap))) (ar (λ _=>.ptr 1000000 0) Z Z Z (cM Z Z Y) (lt2 Z Z) (ai [(15,_)] ⟨.inr ⟨4,_,Z,Z,Z⟩,trivial⟩ (λ sl NI K hK=>ah Z (bE Z Z Z (NI _ _ Z) hK)) (ai [(15,_)] ⟨.inr ⟨4,_,Z,Z,Z⟩,trivial⟩ (λ sl NI K hK=>ah Z (bE Z Z Z (NI _ _ Z) hK)) (ai [(15,_)] ⟨.inr ⟨4,_,Z,Z,Z⟩,trivial⟩ (λ sl NI K hK=>ah Z (bE Z Z Z (NI _ _ Z) hK)) ap))) ?_);refine ar (λ _=>.ptr 1000000 1) Z Z Z (cM Z Z Y) (lt2 Z Z) (ai [(16,_)] ⟨.inr ⟨5,_,Z,Z,Z⟩,trivial⟩ (λ sl NI K hK=>ah Z (aI Z Z Z Z Z Z Z Z (NI _ _ Z) hK)) (ai [(16,_)] ⟨.inr ⟨5,_,Z,Z,Z⟩,trivial⟩ (λ sl NI K hK=>ah Z (aI Z Z Z Z Z Z Z Z (NI _ _ Z) hK)) (ai [(16,_)] ⟨.inr ⟨5,_,Z,Z,Z⟩,trivial⟩ (λ sl NI K hK=>ah Z (aI Z Z Z Z Z Z Z Z (NI _ _ Z) hK)) ap))) (ar (λ _=>.p (eI r1.2.fat)) Z Z Z (cM Z Z Y) (lt2 Z Z) (ai [(17,_)] ⟨.inr ⟨6,_,Z,Z,Z⟩,trivial⟩ (λ sl NI K hK=>ah Z (bH Z Z Z Z Z (NI _ _ Z) Z Z hK)) (ai [(17,_)] ⟨.inr ⟨6,_,Z,Z,Z⟩,trivial⟩ (λ sl NI K hK=>ah Z (bH Z Z Z Z Z (NI _ _ Z) Z Z hK)) (ai [(17,_)] ⟨.inr ⟨6,_,Z,Z,Z⟩,trivial⟩ (λ sl NI K hK=>ah Z (bH Z Z Z Z Z (NI _ _ Z) Z Z hK)) ap))) ?_);refine ar (λ _=>.p (eI r1.1)) Z Z Z (cM Z Z Y) (lt2 Z Z) (ai [(4,_)] ⟨.inl Z,trivial⟩ (λ sl NI K hK=>ah Z (b6 Z Z Z (NI _ _ Z) hK)) (ai [(4,_)] ⟨.inl Z,trivial⟩ (λ sl NI K hK=>ah Z (b6 Z Z Z (NI _ _ Z) hK)) (ai [(4,_)] ⟨.inl Z,trivial⟩ (λ sl NI K hK=>ah Z (b6 Z Z Z (NI _ _ Z) hK)) ap))) (ar (λ _=>.p (eL az (sub r1.2.fl r1.2.fat r1.1))) Z Z Z (cM Z Z Y) (lt2 Z Z) (ak Z (ak Z (ai [(14,_),(18,_),(19,_)] ⟨.inr ⟨3,_,Z,Z,Z⟩,.inr ⟨7,_,Z,Z,Z⟩,.inr ⟨8,_,Z,Z,Z⟩,trivial⟩ (λ sl NI K hK=>ah Z (w7 (f:=az) (l:=r1.2.fl) Z Z Z Z Z Z (NI _ _ Z) Z nF oQ QY (λ x=>congrArg List.length (ac.F' x)) hK)) ap))) ?_);refine dB (by3 (.vec 102000 3 0 ((sub r1.2.fl r1.2.fat r1.1).map az)) (.vec 102000 3 0 ((sub r1.2.fl r1.2.fat r1.1).map az)) (.p (eL az (sub r1.2.fl r1.2.fat r1.1)))) [(20,_)] Z ⟨.inr ⟨9,_,Z,Z,Z⟩,trivial⟩ Z Z (dG Z Y) (lt2 (λ h=>absurd h (by decide)) Y) (λ sl NI K hK=>ah Z (aN [] [] 102000 102001 (jA (sub r1.2.fl r1.2.fat r1.1) Rq) Z Z Z (aQ (NI _ _ Z) bU) Z ⟨sr,trivial⟩ Z Z trivial Z Z Z Z Z Z Z Z Tryz.call115 Z Z hK)) (ar (λ _=>.ptr 1000000 0) Z Z Z (cM Z Z Y) (lt2 Z Z) (ai [(0,_)] ⟨.inl Z,trivial⟩ (λ sl NI K hK=>ah Z (b6 Z Z Z (NI _ _ Z) hK)) (ai [(0,_)] ⟨.inl Z,trivial⟩ (λ sl NI K hK=>ah Z (b6 Z Z Z (NI _ _ Z) hK)) (ai [(0,_)] ⟨.inl Z,trivial⟩ (λ sl NI K hK=>ah Z (b6 Z Z Z (NI _ _ Z) hK)) ap))) ?_);refine ar (λ _=>.ptr 1000000 0) Z Z Z (cM Z Z Y) (lt2 Z Z) (ai [(22,_)] ⟨.inr ⟨11,_,Z,Z,Z⟩,trivial⟩ (λ sl NI K hK=>ah Z (bE Z Z Z (NI _ _ Z) hK)) (ai [(22,_)] ⟨.inr ⟨11,_,Z,Z,Z⟩,trivial⟩ (λ sl NI K hK=>ah Z (bE Z Z Z (NI _ _ Z) hK)) (ai [(22,_)] ⟨.inr ⟨11,_,Z,Z,Z⟩,trivial⟩ (λ sl NI K hK=>ah Z (bE Z Z Z (NI _ _ Z) hK)) ap))) (ar (λ _=>.ptr 1000000 0) Z Z Z (cM Z Z Y) (lt2 Z Z) (ai [(23,_)] ⟨.inr ⟨12,_,Z,Z,Z⟩,trivial⟩ (λ sl NI K hK=>ah Z (aI Z Z Z Z Z Z Z Z (NI _ _ Z) hK)) (ai [(23,_)] ⟨.inr ⟨12,_,Z,Z,Z⟩,trivial⟩ (λ sl NI K hK=>ah Z (aI Z Z Z Z Z Z Z Z (NI _ _ Z) hK)) (ai [(23,_)] ⟨.inr ⟨12,_,Z,Z,Z⟩,trivial⟩ (λ sl NI K hK=>ah Z (aI Z Z Z Z Z Z Z Z (NI _ _ Z) hK)) ap))) ?_);refine ar (λ _=>.p (eL az r1.2.fl)) Z Z Z (cM Z Z Y) (lt2 Z Z) (ai [(24,_)] ⟨.inr ⟨13,_,Z,Z,Z⟩,trivial⟩ (λ sl NI K hK=>ah Z (bH Z Z Z Z Z (NI _ _ Z) Z Z hK)) (ai [(24,_)] ⟨.inr ⟨13,_,Z,Z,Z⟩,trivial⟩ (λ sl NI K hK=>ah Z (bH Z Z Z Z Z (NI _ _ Z) Z Z hK)) (ai [(24,_)] ⟨.inr ⟨13,_,Z,Z,Z⟩,trivial⟩ (λ sl NI K hK=>ah Z (bH Z Z Z Z Z (NI _ _ Z) Z Z hK)) ap))) (ar (λ _=>.p (eI r1.1)) Z Z Z (cM Z Z Y) (lt2 Z Z) (ai [(4,_)] ⟨.inl Z,trivial⟩ (λ sl NI K hK=>ah Z (b6 Z Z Z (NI _ _ Z) hK)) (ai [(4,_)] ⟨.inl Z,trivial⟩ (λ sl NI K hK=>ah Z (b6 Z Z Z (NI _ _ Z) hK)) (ai [(4,_)] ⟨.inl Z,trivial⟩ (λ sl NI K hK=>ah Z (b6 Z Z Z (NI _ _ Z) hK)) ap))) ?_);refine ar (λ _=>.rptr (ac.cs (lat r1.2.fl r1.1))) Z Z Z (cM Z Z Y) (lt2 Z Z) (ai [(25,_),(26,_)] ⟨.inr ⟨14,_,Z,Z,Z⟩,.inr ⟨15,_,Z,Z,Z⟩,trivial⟩ (λ sl NI K hK=>ah Z (nV (f:=az) (l:=r1.2.fl) ac.cs Z Z Z Z Z Z (NI _ _ Z) Z (NI _ _ Z) RP ac.F' Y hK)) (ai [(25,_),(26,_)] ⟨.inr ⟨14,_,Z,Z,Z⟩,.inr ⟨15,_,Z,Z,Z⟩,trivial⟩ (λ sl NI K hK=>ah Z (nV (f:=az) (l:=r1.2.fl) ac.cs Z Z Z Z Z Z (NI _ _ Z) Z (NI _ _ Z) RP ac.F' Y hK)) (ai [(25,_),(26,_)] ⟨.inr ⟨14,_,Z,Z,Z⟩,.inr ⟨15,_,Z,Z,Z⟩,trivial⟩ (λ sl NI K hK=>ah Z (nV (f:=az) (l:=r1.2.fl) ac.cs Z Z Z Z Z Z (NI _ _ Z) Z (NI _ _ Z) RP ac.F' Y hK)) ap))) (ar (λ _=>.rptr (List.drop 2 (ac.cs (lat r1.2.fl r1.1)))) Z Z Z (cM Z Z Y) (lt2 Z Z) (ai [(27,_)] ⟨.inr ⟨16,_,Z,Z,Z⟩,trivial⟩ (λ sl NI K hK=>ah Z (fZ Z Z Z Z Z Z Z Z (NI _ _ Z) hK)) (ai [(27,_)] ⟨.inr ⟨16,_,Z,Z,Z⟩,trivial⟩ (λ sl NI K hK=>ah Z (fZ Z Z Z Z Z Z Z Z (NI _ _ Z) hK)) (ai [(27,_)] ⟨.inr ⟨16,_,Z,Z,Z⟩,trivial⟩ (λ sl NI K hK=>ah Z (fZ Z Z Z Z Z Z Z Z (NI _ _ Z) hK)) ap))) ?_);refine ar (λ _=>.p (eI ((lat r1.2.fl r1.1).fAt))) Z Z Z (cM Z Z Y) (lt2 Z Z) (ai [(28,_)] ⟨.inr ⟨17,_,Z,Z,Z⟩,trivial⟩ (λ sl NI K hK=>ah Z (j7 Z Z Z Z Z (NI _ _ Z) Z hK)) (ai [(28,_)] ⟨.inr ⟨17,_,Z,Z,Z⟩,trivial⟩ (λ sl NI K hK=>ah Z (j7 Z Z Z Z Z (NI _ _ Z) Z hK)) (ai [(28,_)] ⟨.inr ⟨17,_,Z,Z,Z⟩,trivial⟩ (λ sl NI K hK=>ah Z (j7 Z Z Z Z Z (NI _ _ Z) Z hK)) ap))) (ar (λ _=>.p (.agg [eI 6,eS ([]:Bk),eI ((lat r1.2.fl r1.1).fAt)])) Z Z Z (cM Z Z Y) (lt2 Z Z) (ai [(29,_)] ⟨.inr ⟨18,_,Z,Z,Z⟩,trivial⟩ (λ sl NI K hK=>ah Z (gV Z Z Z Z Z Z (iH Z (iH (NI _ _ Z) nX)) Z Z hK)) (ai [(29,_)] ⟨.inr ⟨18,_,Z,Z,Z⟩,trivial⟩ (λ sl NI K hK=>ah Z (gV Z Z Z Z Z Z (iH Z (iH (NI _ _ Z) nX)) Z Z hK)) (ai [(29,_)] ⟨.inr ⟨18,_,Z,Z,Z⟩,trivial⟩ (λ sl NI K hK=>ah Z (gV Z Z Z Z Z Z (iH Z (iH (NI _ _ Z) nX)) Z Z hK)) ap))) ?_);refine ar (λ _=>.p (eL az ([(ac.mk 6 ([]:Bk) ((lat r1.2.fl r1.1).fAt))]))) Z Z Z (cM Z Z Y) (lt2 Z Z) (ak Z (ai [(30,_)] ⟨.inr ⟨19,_,Z,Z,Z⟩,trivial⟩ (λ sl NI K hK=>ah Z (bz az [(ac.mk 6 ([]:Bk) ((lat r1.2.fl r1.1).fAt))] Z Z Z Z Z Z (du (NI _ _ Z) Z eA) Z Z Z Z Z Z ym hK)) (ai [(30,_)] ⟨.inr ⟨19,_,Z,Z,Z⟩,trivial⟩ (λ sl NI K hK=>ah Z (bz az [(ac.mk 6 ([]:Bk) ((lat r1.2.fl r1.1).fAt))] Z Z Z Z Z Z (du (NI _ _ Z) Z eA) Z Z Z Z Z Z ym hK)) ap))) (dB (λ _=>.vec 32 3 0 (((sub r1.2.fl r1.2.fat r1.1)++([(ac.mk 6 ([]:Bk) ((lat r1.2.fl r1.1).fAt))])).map az)) [(21,_),(31,_)] Z ⟨.inr ⟨10,_,Z,Z,Z⟩,.inr ⟨20,_,Z,Z,Z⟩,trivial⟩ Z Z Y (lt2 (λ h=>absurd h (by decide)) (λ h=>absurd h (by decide))) (λ sl NI K hK=>ah Z (fF az (sub r1.2.fl r1.2.fat r1.1) ([(ac.mk 6 ([]:Bk) ((lat r1.2.fl r1.1).fAt))]) Z Z Z Z Z Z Z Z (NI _ _ Z) Z Z (NI _ _ Z) Z (λ x=>congrArg List.length (ac.F' x)) Z Z Z Z hk6 hK)) ?_);refine mj (λ _=>.vec 32 3 0 (((sub r1.2.fl r1.2.fat r1.1)++([(ac.mk 6 ([]:Bk) ((lat r1.2.fl r1.1).fAt))])).map az)) Z Z Z (cM Z Z Y) (lt2 Y (nl Z)) (ai [(32,_)] ⟨.inr ⟨21,_,Z,Z,Z⟩,trivial⟩ (λ sl NI K hK=>ah Z (fq Z Z Z (NI _ _ Z) hK)) (ak Z (ak Z ap))) (cV ?_);refine nx 4 Z (bd h0 λ r7 e8 h0=>?_);refine oK (yJ _ ((sub r1.2.fl r1.2.fat r1.1)++([(ac.mk 6 ([]:Bk) ((lat r1.2.fl r1.1).fAt))])) 0 _ e8) Z ⟨AV.sub_vec _ _ _ _,sr,trivial⟩ Tryz.call116 Z (nx 10 Z ?_);refine mG (gE (t:=⟨[(0,.ptr 1000000 0),(2,.ptr 2 0),(6,.ptr 6 0),(7,.p (eI r7.2.1)),(8,.ptr 8 0)],[(2,[.p (eI 0),.p (eI 0),.p (eS ([]:Bk)),.p (eS ([]:Bk)),.p (eI 0),.p (eI 0),.p (eS ([]:Bk)),.p (.val (.slice none 0 0)),.p (.val (.slice none 0 0)),.p (.val (.slice none 0 0)),.p (eI 0)]),(6,(ag.cs r7.1).map .p),(8,(au.cs r7.2.2).map .p),(1000000,(aj.cs r1.2).map .p)]⟩) Z Z) (nx 7 Z ?_);refine fN [41] h0 Z (λ c9 h0=>?_) λ c9 h0=>?_
 ·refine nx 9 Z (oA h0 Z Z λ Po h0=>?_);exact nx 11 Z CN
 exact nx 16 Z CN
def ff (n:Nat)(NL:aj)(NU:aH)(name_2:ac):Option (Bool×aj×aH) :=ck (inR (NL.fat+1))<|(bF n NU.By (λ x0=>cB x0 name_2)).bind λ r3=>if r3=true then(fu (aj.mk NL.fl (NL.fat+1) NL.AI) 8 name_2.fAt name_2.BY).bind λ r6=>some (r6.1,r6.2,(aH.mk NU.By NU.A'))else(eQ n (aj.mk NL.fl (NL.fat+1) NL.AI)).bind λ r8=>ck ((NU.By.length+[(al.mk name_2.BY r8.1 name_2.fAt)].length)*184<=140737488355328)<|some (r8.2.1,r8.2.2,(aH.mk (NU.By++[(al.mk name_2.BY r8.1 name_2.fAt)]) NU.A'))
theorem nK (n:Nat)(NL:aj)(NU:aH)(name_2:ac)(r:Bool×aj×aH)(h0:ff n NL NU name_2=some r):aS Tryz.prog 53 [.ptr 1000000 0,.ptr 1000001 0,.p (.agg (ac.cs name_2))] [(1000000,[.p (eL az NL.fl),.p (eI NL.fat),.p (eI NL.AI.Ar),.p (eI NL.AI.fAt),.p (eS NL.AI.AT)]),(1000001,[.vec 900000 13 0 (NU.By.map ao),.vec 900001 5 0 (NU.A'.map aD)])] (λ x y=>x=.p (eB r.1)/\y=[(1000000,[.p (eL az r.2.1.fl),.p (eI r.2.1.fat),.p (eI r.2.1.AI.Ar),.p (eI r.2.1.AI.fAt),.p (eS r.2.1.AI.AT)]),(1000001,[.vec 2000000 13 0 (r.2.2.By.map ao),.vec 2000001 5 0 (r.2.2.A'.map aD)])]):=by
 unfold ff at h0;refine bT good [800000,800001] [1000000,1000001] Tryz.func53 Z Z Z Z Z λ w0 F=>mPo (λ v:Bool×aj×aH=>.p (eB v.1)) (λ v=>[(1000000,[.p (eL az v.2.1.fl),.p (eI v.2.1.fat),.p (eI v.2.1.AI.Ar),.p (eI v.2.1.AI.fAt),.p (eS v.2.1.AI.AT)]),(1000001,[.vec 2000000 13 0 (v.2.2.By.map ao),.vec 2000001 5 0 (v.2.2.A'.map aD)])]) ?_;refine nx 11 Z (oA h0 Z Z λ Ra h0=>?_);refine nx 11 Z (mG (nJ 5 (cs:=ac.cs name_2) Z Z Z) ?_);refine mO Z (nt Z Z Z Z ?_);refine bd h0 λ r3 e4 h0=>mO Z (zo (gv _ NU.By (λ x0=>cB x0 name_2) 88 [.rptr (ac.cs name_2)] Z Tryz.call88 (λ x0 r h=>mn x0 name_2 r h) _ e4) Z Z Z Z (mZ Z (mZ (xx Z) vQ)) ⟨sr,sr,trivial⟩ Tryz.call87 Z ?_);refine nx 1 Z (fB [21] h0 Z (λ c5 h0=>?_) λ c5 h0=>?_)
 ·refine nx 8 Z (bd h0 λ r6 e7 h0=>?_);refine mO Z (aN [1000000] [] 101000 101000 (fM (aj.mk NL.fl (NL.fat+1) NL.AI) 8 name_2.fAt name_2.BY _ e7) Z Z Z Z Z ⟨sr,sr,sr,sr,trivial⟩ Z Z ⟨⟨_,Z,⟨sr,sr,sr,sr,sr,trivial⟩⟩,trivial⟩ Z Z Z Z Z Z Z Z Tryz.call55 Z Z ?_);exact yM
 refine nx 5 Z (bd h0 λ r8 e9 h0=>?_);refine mO Z (aN [1000000] [] 102000 102000 (mX _ (aj.mk NL.fl (NL.fat+1) NL.AI) _ e9) Z Z Z Z Z ⟨sr,trivial⟩ Z Z ⟨⟨_,Z,⟨sr,sr,sr,sr,sr,trivial⟩⟩,trivial⟩ Z Z Z Z Z Z Z Z Tryz.call89 Z Z ?_);refine nx 8 Z (cc' h0 λ Po h0=>?_);refine mG (gE (t:=⟨[(1,.ptr 1000001 0),(5,.rptr (ac.cs name_2)),(7,.ptr 7 0),(8,.p (eB r8.2.1))],[(7,(ag.cs r8.1).map .p),(1000000,(aj.cs r8.2.2).map .p),(1000001,[.vec 900000 13 0 (NU.By.map ao),.vec 900001 5 0 (NU.A'.map aD)])]⟩) Z Z) (mS ⟨2,[12,15],(by3 (.some λ i=>Nat.beq i 900000||Nat.beq i 45) .none .none),(λ _=>[(1,.ptr 1000001 0),(5,.rptr (ac.cs name_2)),(7,.ptr 7 0),(8,.p (eB r8.2.1))]),(by3 ([(7,[.p (eI r8.1.Ar),.p (eI r8.1.fOp),.p (eS r8.1.AT),.p (eS r8.1.I'),.p (eI r8.1.B'.Ar),.p (eI r8.1.B'.It),.p (eS r8.1.B'.IS),.p (eL bw r8.1.B'.H'),.p (eL eS r8.1.B'.E'),.p (eL av r8.1.If),.p (eI r8.1.fAt)]),(1000000,[.p (eL az r8.2.2.fl),.p (eI r8.2.2.fat),.p (eI r8.2.2.AI.Ar),.p (eI r8.2.2.AI.fAt),.p (eS r8.2.2.AI.AT)]),(1000001,[.vec 900000 13 0 (NU.By.map ao),.vec 900001 5 0 (NU.A'.map aD)])]) ([(7,[.p (eI r8.1.Ar),.p (eI r8.1.fOp),.p (eS r8.1.AT),.p (eS r8.1.I'),.p (eI r8.1.B'.Ar),.p (eI r8.1.B'.It),.p (eS r8.1.B'.IS),.p (eL bw r8.1.B'.H'),.p (eL eS r8.1.B'.E'),.p (eL av r8.1.If),.p (eI r8.1.fAt)]),(1000000,[.p (eL az r8.2.2.fl),.p (eI r8.2.2.fat),.p (eI r8.2.2.AI.Ar),.p (eI r8.2.2.AI.fAt),.p (eS r8.2.2.AI.AT)]),(1000001,[.p (eL ao NU.By),.vec 900001 5 0 (NU.A'.map aD)])]) ([(1000001,[.vec 45 13 0 ((NU.By++[(al.mk name_2.BY r8.1 name_2.fAt)]).map ao),.vec 900001 5 0 (NU.A'.map aD)]),(7,[.p (eI r8.1.Ar),.p (eI r8.1.fOp),.p (eS r8.1.AT),.p (eS r8.1.I'),.p (eI r8.1.B'.Ar),.p (eI r8.1.B'.It),.p (eS r8.1.B'.IS),.p (eL bw r8.1.B'.H'),.p (eL eS r8.1.B'.E'),.p (eL av r8.1.If),.p (eI r8.1.fAt)]),(1000000,[.p (eL az r8.2.2.fl),.p (eI r8.2.2.fat),.p (eI r8.2.2.AI.Ar),.p (eI r8.2.2.AI.fAt),.p (eS r8.2.2.AI.AT)]),(1000001,[.p (eL ao NU.By),.vec 900001 5 0 (NU.A'.map aD)])]))⟩ Z Z Z ⟨Z,Z,Z,Z,trivial⟩ (lt2 ⟨Z,Z,Z,Z,trivial⟩ ⟨Z,Z,Z,Z,trivial⟩) Z Z Z Z ?_);refine ar (λ _=>.ptr 1000001 0) Z Z Z (cM Z Z Y) (lt2 Z Z) (ak Z (ai [(1,_)] ⟨.inl Z,trivial⟩ (λ sl NI K hK=>ah Z (b6 Z Z Z (NI _ _ Z) hK)) (ai [(1,_)] ⟨.inl Z,trivial⟩ (λ sl NI K hK=>ah Z (b6 Z Z Z (NI _ _ Z) hK)) ap))) (ar (λ _=>.ptr 1000001 0) Z Z Z (cM Z Z Y) (lt2 Z Z) (ak Z (ai [(1,_)] ⟨.inl Z,trivial⟩ (λ sl NI K hK=>ah Z (b6 Z Z Z (NI _ _ Z) hK)) (ai [(1,_)] ⟨.inl Z,trivial⟩ (λ sl NI K hK=>ah Z (b6 Z Z Z (NI _ _ Z) hK)) ap))) ?_);refine ar (λ _=>.ptr 1000001 0) Z Z Z (cM Z Z Y) (lt2 Z Z) (ak Z (ai [(34,_)] ⟨.inr ⟨1,_,Z,Z,Z⟩,trivial⟩ (λ sl NI K hK=>ah Z (bE Z Z Z (NI _ _ Z) hK)) (ai [(34,_)] ⟨.inr ⟨1,_,Z,Z,Z⟩,trivial⟩ (λ sl NI K hK=>ah Z (bE Z Z Z (NI _ _ Z) hK)) ap))) (ar (λ _=>.ptr 1000001 0) Z Z Z (cM Z Z Y) (lt2 Z Z) (ak Z (ai [(35,_)] ⟨.inr ⟨2,_,Z,Z,Z⟩,trivial⟩ (λ sl NI K hK=>ah Z (aI Z Z Z Z Z Z Z Z (NI _ _ Z) hK)) (ai [(35,_)] ⟨.inr ⟨2,_,Z,Z,Z⟩,trivial⟩ (λ sl NI K hK=>ah Z (aI Z Z Z Z Z Z Z Z (NI _ _ Z) hK)) ap))) ?_);refine ar (by3 (.vec 900000 13 0 (NU.By.map ao)) (.p (eL ao NU.By)) (.p (eL ao NU.By))) Z Z Z (cM Z Z Y) (lt2 Z Z) (ak Z (ak Z (ai [(36,_)] ⟨.inr ⟨3,_,Z,Z,Z⟩,trivial⟩ (λ sl NI K hK=>ah Z (bH Z Z Z Z Z (NI _ _ Z) Z Z hK)) ap))) (ar (λ _=>.rptr (List.drop 1 (ac.cs name_2))) Z Z Z (cM Z Z Y) (lt2 Z Z) (ak Z (ai [(5,_)] ⟨.inl Z,trivial⟩ (λ sl NI K hK=>ah Z (fZ Z Z Z Z Z Z Z Z (NI _ _ Z) hK)) (ai [(5,_)] ⟨.inl Z,trivial⟩ (λ sl NI K hK=>ah Z (fZ Z Z Z Z Z Z Z Z (NI _ _ Z) hK)) ap))) ?_);refine ar (λ _=>.p (eS name_2.BY)) Z Z Z (cM Z Z Y) (lt2 Z Z) (ak Z (ai [(38,_)] ⟨.inr ⟨5,_,Z,Z,Z⟩,trivial⟩ (λ sl NI K hK=>ah Z (j7 Z Z Z Z Z (NI _ _ Z) Z hK)) (ai [(38,_)] ⟨.inr ⟨5,_,Z,Z,Z⟩,trivial⟩ (λ sl NI K hK=>ah Z (j7 Z Z Z Z Z (NI _ _ Z) Z hK)) ap))) (ar (λ _=>.p (.agg (ag.cs r8.1))) Z Z Z (cM Z Z Y) (lt2 Z Z) (ak Z (ai [(7,_)] ⟨.inl Z,trivial⟩ (λ sl NI K hK=>ah Z (eH Z Z Z Z Z (NI _ _ Z) Z Z Z hK)) (ai [(7,_)] ⟨.inl Z,trivial⟩ (λ sl NI K hK=>ah Z (eH Z Z Z Z Z (NI _ _ Z) Z Z Z hK)) ap))) ?_);refine ar (λ _=>.rptr (List.drop 2 (ac.cs name_2))) Z Z Z (cM Z Z Y) (lt2 Z Z) (ak Z (ai [(5,_)] ⟨.inl Z,trivial⟩ (λ sl NI K hK=>ah Z (fZ Z Z Z Z Z Z Z Z (NI _ _ Z) hK)) (ai [(5,_)] ⟨.inl Z,trivial⟩ (λ sl NI K hK=>ah Z (fZ Z Z Z Z Z Z Z Z (NI _ _ Z) hK)) ap))) (ar (λ _=>.p (eI name_2.fAt)) Z Z Z (cM Z Z Y) (lt2 Z Z) (ak Z (ai [(41,_)] ⟨.inr ⟨8,_,Z,Z,Z⟩,trivial⟩ (λ sl NI K hK=>ah Z (j7 Z Z Z Z Z (NI _ _ Z) Z hK)) (ai [(41,_)] ⟨.inr ⟨8,_,Z,Z,Z⟩,trivial⟩ (λ sl NI K hK=>ah Z (j7 Z Z Z Z Z (NI _ _ Z) Z hK)) ap))) ?_);refine ar (λ _=>.p (.agg [eS name_2.BY,eI r8.1.Ar,eI r8.1.fOp,eS r8.1.AT,eS r8.1.I',eI r8.1.B'.Ar,eI r8.1.B'.It,eS r8.1.B'.IS,eL bw r8.1.B'.H',eL eS r8.1.B'.E',eL av r8.1.If,eI r8.1.fAt,eI name_2.fAt])) Z Z Z (cM Z Z Y) (lt2 Z Z) (ak Z (ai [(39,_),(40,_),(42,_)] ⟨.inr ⟨6,_,Z,Z,Z⟩,.inr ⟨7,_,Z,Z,Z⟩,.inr ⟨9,_,Z,Z,Z⟩,trivial⟩ (λ sl NI K hK=>ah Z (gV Z Z Z Z Z Z (iH (NI _ _ Z) (iH (NI _ _ Z) (iH (NI _ _ Z) nX))) Z Z hK)) (ai [(39,_),(40,_),(42,_)] ⟨.inr ⟨6,_,Z,Z,Z⟩,.inr ⟨7,_,Z,Z,Z⟩,.inr ⟨9,_,Z,Z,Z⟩,trivial⟩ (λ sl NI K hK=>ah Z (gV Z Z Z Z Z Z (iH (NI _ _ Z) (iH (NI _ _ Z) (iH (NI _ _ Z) nX))) Z Z hK)) ap))) (ar (λ _=>.p (eL ao [(al.mk name_2.BY r8.1 name_2.fAt)])) Z Z Z (cM Z Z Y) (lt2 Z Z) (ak Z (ak Z (ai [(43,_)] ⟨.inr ⟨10,_,Z,Z,Z⟩,trivial⟩ (λ sl NI K hK=>ah Z (bz ao [(al.mk name_2.BY r8.1 name_2.fAt)] Z Z Z Z Z Z (du (NI _ _ Z) Z eA) Z Z Z Z Z Z HI hK)) ap))) ?_);refine dB (λ _=>.vec 45 13 0 ((NU.By++[(al.mk name_2.BY r8.1 name_2.fAt)]).map ao)) [(37,_),(44,_)] Z ⟨.inr ⟨4,_,Z,Z,Z⟩,.inr ⟨11,_,Z,Z,Z⟩,trivial⟩ Z Z (dG Z Y) (lt2 (λ h=>absurd h (by decide)) Y) (λ sl NI K hK=>ah Z (fF ao NU.By [(al.mk name_2.BY r8.1 name_2.fAt)] Z Z Z Z Z Z Z Z (NI _ _ Z) Z Z (NI _ _ Z) Z (λ x=>congrArg List.length (al.F' x)) Z Z Z Z Po hK)) (ar (λ _=>.ptr 1000001 0) Z Z Z (cM Z Z Y) (lt2 Z Z) (ai [(33,_)] ⟨.inr ⟨0,_,Z,Z,Z⟩,trivial⟩ (λ sl NI K hK=>ah Z (bE Z Z Z (NI _ _ Z) hK)) (ai [(33,_)] ⟨.inr ⟨0,_,Z,Z,Z⟩,trivial⟩ (λ sl NI K hK=>ah Z (bE Z Z Z (NI _ _ Z) hK)) (ak Z ap))) ?_);refine ar (λ _=>.ptr 1000001 0) Z Z Z (cM Z Z Y) (lt2 Z Z) (ak Z (ai [(46,_)] ⟨.inr ⟨13,_,Z,Z,Z⟩,trivial⟩ (λ sl NI K hK=>ah Z (aI Z Z Z Z Z Z Z Z (NI _ _ Z) hK)) (ak Z ap))) (dI [(45,_),(47,_)] Z ⟨.inr ⟨12,_,Z,Z,Z⟩,.inr ⟨14,_,Z,Z,Z⟩,trivial⟩ Z (λ sl NI K hK=>ah Z (fe Z Z Z (NI _ _ Z) (NI _ _ Z) Z Z Z (ld Z) hK)) ?_);refine cV (nx 7 Z ?_);exact mQo (oi h0) (aU (bn 45 800000 Z Z Z Z Z) (aU (bn 900001 800001 Z Z Z Z Z) (aJ _))) Z Z Z Z (sr) ⟨⟨_,Z,⟨sr,sr,sr,sr,sr,trivial⟩⟩,⟨_,Z,⟨sr,sr,trivial⟩⟩,trivial⟩
def dy (NL:aj):Option (Bool×aj) :=(cI NL).bind λ r1=>if r1.1.Ar=6 then(fu r1.2 40 r1.1.fAt ([]:Bk)).bind λ r4=>some (r4.1,r4.2)else(fu r1.2 2 r1.1.fAt ([]:Bk)).bind λ r6=>some (r6.1,r6.2)
theorem fH (NL:aj)(r:Bool×aj)(h0:dy NL=some r):aS Tryz.prog 29 [.ptr 1000000 0] [(1000000,[.p (eL az NL.fl),.p (eI NL.fat),.p (eI NL.AI.Ar),.p (eI NL.AI.fAt),.p (eS NL.AI.AT)])] (λ x y=>x=.p (eB r.1)/\y=[(1000000,[.p (eL az r.2.fl),.p (eI r.2.fat),.p (eI r.2.AI.Ar),.p (eI r.2.AI.fAt),.p (eS r.2.AI.AT)])]):=by
 unfold dy at h0;refine bT good [] [1000000] Tryz.func29 Z Z Z Z Z λ w0 F=>mPo (λ v:Bool×aj=>.p (eB v.1)) (λ v=>[(1000000,[.p (eL az v.2.fl),.p (eI v.2.fat),.p (eI v.2.AI.Ar),.p (eI v.2.AI.fAt),.p (eS v.2.AI.AT)])]) ?_;refine nx 7 Z (bd h0 λ r1 e2 h0=>?_);refine mO Z (aN [1000000] [] 101000 101000 (dk NL _ e2) Z Z Z Z Z ⟨sr,trivial⟩ Z Z ⟨⟨_,Z,⟨sr,sr,sr,sr,sr,trivial⟩⟩,trivial⟩ Z Z Z Z Z Z Z Z Tryz.call28 Z Z ?_);refine nx 10 Z (fD [8] h0 Z (λ c3 h0=>?_) λ c3 h0=>?_)
 ·refine nx 6 Z (bd h0 λ r4 e5 h0=>?_);refine mO Z (aN [1000000] [] 102000 102000 (fM r1.2 40 r1.1.fAt ([]:Bk) _ e5) Z Z Z Z Z ⟨sr,sr,sr,sr,trivial⟩ Z Z ⟨⟨_,Z,⟨sr,sr,sr,sr,sr,trivial⟩⟩,trivial⟩ Z Z Z Z Z Z Z Z Tryz.call55 Z Z ?_);exact He
 refine nx 7 Z (bd h0 λ r6 e7 h0=>?_);refine mO Z (aN [1000000] [] 103000 103000 (fM r1.2 2 r1.1.fAt ([]:Bk) _ e7) Z Z Z Z Z ⟨sr,sr,sr,sr,trivial⟩ Z Z ⟨⟨_,Z,⟨sr,sr,sr,sr,sr,trivial⟩⟩,trivial⟩ Z Z Z Z Z Z Z Z Tryz.call55 Z Z ?_);exact He
def cP (n:Nat):Nat->(List Bk)->(List ac)->Int->Int->Int->Bk->Option (((List Bk)×(List ac)×Int×Int×Int×Bk)⊕((List Bk)×Bool×aj))|0,_,_,_,_,_,_=>none|m+1,OH,QZ,Tj,Ti,OY,O'=>(cI (aj.mk QZ Tj (au.mk Ti OY O'))).bind λ S6=>if S6.1.Ar=3 then(cI S6.2).bind λ O7=>(strings_Contains O7.1.BY ([36,123]:Bk)).bind λ Pa=>if Pa=true then(dy O7.2).bind λ PZ=>some (.inr ([],PZ.1,PZ.2))else ck (([34]:Bk).length+O7.1.BY.length<=9223372036854775807)<|ck ((([34]:Bk)++O7.1.BY).length+([34]:Bk).length<=9223372036854775807)<|(gh n ((([34]:Bk)++O7.1.BY)++([34]:Bk))).bind λ PP=>if PP.2.2=0 then(strings_Contains PP.1 ([36,123]:Bk)).bind λ Q4=>if Q4=true then(dy O7.2).bind λ UA=>some (.inr ([],UA.1,UA.2))else ck ((OH.length+[PP.1].length)*16<=140737488355328)<|ck (inR (O7.2.fat+1))<|cP n m (OH++[PP.1]) O7.2.fl (O7.2.fat+1) O7.2.AI.Ar O7.2.AI.fAt O7.2.AI.AT else(fu O7.2 PP.2.2 O7.1.fAt ([]:Bk)).bind λ UB=>some (.inr ([],UB.1,UB.2))else some (.inl (OH,S6.2.fl,S6.2.fat,S6.2.AI.Ar,S6.2.AI.fAt,S6.2.AI.AT))
def iG (n:Nat)(NL:aj):Option ((List Bk)×Bool×aj) :=jn (cP n n [] NL.fl NL.fat NL.AI.Ar NL.AI.fAt NL.AI.AT) λ QJ=>some (QJ.1,true,(aj.mk QJ.2.1 QJ.2.2.1 (au.mk QJ.2.2.2.1 QJ.2.2.2.2.1 QJ.2.2.2.2.2)))
theorem pk (n:Nat)(NL:aj)(r:(List Bk)×Bool×aj)(h0:iG n NL=some r):aS Tryz.prog 90 [.ptr 1000000 0] [(1000000,[.p (eL az NL.fl),.p (eI NL.fat),.p (eI NL.AI.Ar),.p (eI NL.AI.fAt),.p (eS NL.AI.AT)])] (λ x y=>x=.tuple [.p (eL eS r.1),.p (eB r.2.1)]/\y=[(1000000,[.p (eL az r.2.2.fl),.p (eI r.2.2.fat),.p (eI r.2.2.AI.Ar),.p (eI r.2.2.AI.fAt),.p (eS r.2.2.AI.AT)])]):=by
 unfold iG at h0;refine bT good [] [1000000] Tryz.func90 Z Z Z Z Z λ w0 F=>mPo (λ v:(List Bk)×Bool×aj=>.tuple [.p (eL eS v.1),.p (eB v.2.1)]) (λ v=>[(1000000,[.p (eL az v.2.2.fl),.p (eI v.2.2.fat),.p (eI v.2.2.AI.Ar),.p (eI v.2.2.AI.fAt),.p (eS v.2.2.AI.AT)])]) ?_;refine nx 11 rfl ?_;obtain ⟨o74,h1,Ou,hR0⟩:=cw h0;refine kEx 0 (λ v75:(List Bk)×(List ac)×Int×Int×Int×Bk=>o74=.inl v75) (λ v75=>⟨[(4,.vec 43 1 0 (v75.1.map eS))],[(1000000,[.p (eL az v75.2.1),.p (eI v75.2.2.1),.p (eI v75.2.2.2.1),.p (eI v75.2.2.2.2.1),.p (eS v75.2.2.2.2.2)])]⟩) (λ v75 hv=>?_) ?_
 ·have h0:=Ou _ hv;exact nx 8 Z CN
 refine lG (λ (Rx:(List Bk)×(List ac)×Int×Int×Int×Bk)=>⟨[(0,.ptr 1000000 0),(4,.vec 43 1 0 (Rx.1.map eS))],[(1000000,[.p (eL az Rx.2.1),.p (eI Rx.2.2.1),.p (eI Rx.2.2.2.1),.p (eI Rx.2.2.2.2.1),.p (eS Rx.2.2.2.2.2)])]⟩) (λ m (Rx:(List Bk)×(List ac)×Int×Int×Int×Bk)=>cP n m Rx.1 Rx.2.1 Rx.2.2.1 Rx.2.2.2.1 Rx.2.2.2.2.1 Rx.2.2.2.2.2) Y ([],NL.fl,NL.fat,NL.AI.Ar,NL.AI.fAt,NL.AI.AT) h1 (cG (jv ⟨er rfl,⟨_,rfl,AV.sub_nilvec _ _ _⟩,trivial⟩ ⟨⟨_,rfl,⟨sr,sr,sr,sr,sr,trivial⟩⟩,trivial⟩)) ?_;rintro m ⟨OH,QZ,Tj,Ti,OY,O'⟩ h1;replace h1:cP n (m+1) OH QZ Tj Ti OY O'=some o74:=h1;rw [cP] at h1;refine nx 4 rfl (bd h1 λ S6 e38 h1=>?_);refine mO rfl (aN [1000000] [] 106000 106000 (dk (aj.mk QZ Tj (au.mk Ti OY O')) _ e38) rfl rfl rfl rfl rfl ⟨sr,trivial⟩ rfl rfl ⟨⟨_,rfl,⟨sr,sr,sr,sr,sr,trivial⟩⟩,trivial⟩ rfl rfl rfl rfl rfl rfl rfl rfl Tryz.call28 rfl rfl ?_);refine nx 3 rfl (fD [12] h1 rfl (λ SN h1=>?_) λ SN h1=>?_)
 ·refine nx 6 Z (bd h1 λ O7 Vb h1=>?_);refine mO Z (aN [1000000] [] 107000 107000 (dk S6.2 _ Vb) Z Z Z Z Z ⟨sr,trivial⟩ Z Z ⟨⟨_,Z,⟨sr,sr,sr,sr,sr,trivial⟩⟩,trivial⟩ Z Z Z Z Z Z Z Z Tryz.call28 Z Z ?_);refine nx 8 Z (bd h1 λ Pa Tl h1=>?_);refine oK (ic O7.1.BY ([36,123]:Bk) _ Tl) Z ⟨sr,sr,trivial⟩ Tryz.call70 Z (nx 1 Z ?_);refine fB [17] h1 Z (λ Tp h1=>?_) λ Tp h1=>?_
  ·refine nx 4 Z (bd h1 λ PZ Ue h1=>?_);refine mO Z (aN [1000000] [] 108000 108000 (fH O7.2 _ Ue) Z Z Z Z Z ⟨sr,trivial⟩ Z Z ⟨⟨_,Z,⟨sr,sr,sr,sr,sr,trivial⟩⟩,trivial⟩ Z Z Z Z Z Z Z Z Tryz.call29 Z Z ?_);exact nx 4 Z (mQo (hR0 _ (oi h1).symm) (aJ _) Z Z Z Z (cb ⟨gm _,sr,trivial⟩) ⟨⟨_,Z,⟨sr,sr,sr,sr,sr,trivial⟩⟩,trivial⟩)
  refine nx 6 Z (oC h1 Z λ RQ h1=>?_);refine oC h1 Z λ Tc h1=>bd h1 λ PP Va h1=>oK (np _ ((([34]:Bk)++O7.1.BY)++([34]:Bk)) _ Va) Z ⟨sr,trivial⟩ Tryz.call117 Z (nx 14 Z ?_);refine fN [30] h1 Z (λ c51 h1=>?_) λ c51 h1=>?_
  ·refine nx 6 Z (bd h1 λ Q4 U9 h1=>?_);refine oK (ic PP.1 ([36,123]:Bk) _ U9) Z ⟨sr,sr,trivial⟩ Tryz.call70 Z (nx 1 Z ?_);refine fB [37] h1 Z (λ Vj h1=>?_) λ Vj h1=>?_
   ·refine nx 4 Z (bd h1 λ UA e58 h1=>?_);refine mO Z (aN [1000000] [] 110000 110000 (fH O7.2 _ e58) Z Z Z Z Z ⟨sr,trivial⟩ Z Z ⟨⟨_,Z,⟨sr,sr,sr,sr,sr,trivial⟩⟩,trivial⟩ Z Z Z Z Z Z Z Z Tryz.call29 Z Z ?_);refine nx 3 Z (mG (gE (t:=⟨[(2,.p (.val (.slice none 0 0))),(3,.p (eB UA.1))],[(1000000,(aj.cs UA.2).map .p)]⟩) Z Z) ?_);exact H3
   refine nx 2 Z (mG (gE (t:=⟨[(0,.ptr 1000000 0),(4,.vec 43 1 0 (OH.map eS)),(6,.p (eS PP.1))],[(1000000,(aj.cs O7.2).map .p)]⟩) Z Z) ?_);refine nx 4 Z (mO Z (bz eS [PP.1] Z Z Z Z Z Z Z Z Z Z Z Z Z Z ?_));refine cc' h1 λ Tb h1=>mO Z (fF eS OH [PP.1] Z Z Z Z Z Z Z Z Z Z Z Z Z Y Z Z Z Z Tb ?_);refine nx 7 Z (oA h1 Z Z λ RO h1=>?_);exact nx 4 Z (eX (OH++[PP.1],O7.2.fl,O7.2.fat+1,O7.2.AI.Ar,O7.2.AI.fAt,O7.2.AI.AT) h1 (gE Z Z))
  refine nx 7 Z (bd h1 λ UB e53 h1=>?_);refine mO Z (aN [1000000] [] 109000 109000 (fM O7.2 PP.2.2 O7.1.fAt ([]:Bk) _ e53) Z Z Z Z Z ⟨sr,sr,sr,sr,trivial⟩ Z Z ⟨⟨_,Z,⟨sr,sr,sr,sr,sr,trivial⟩⟩,trivial⟩ Z Z Z Z Z Z Z Z Tryz.call55 Z Z ?_);refine nx 3 Z (mG (gE (t:=⟨[(2,.p (.val (.slice none 0 0))),(3,.p (eB UB.1))],[(1000000,(aj.cs UB.2).map .p)]⟩) Z Z) ?_);exact H3
 exact cH
def cX (n:Nat)(ON:aj->aH->ac->Int->Option (Bool×aj×aH))(NM:Int):Nat->(List al)->(List aB)->(List ac)->Int->Int->Int->Bk->Option (((List al)×(List aB)×(List ac)×Int×Int×Int×Bk)⊕(aH×Bool×aj))|0,_,_,_,_,_,_,_=>none|m+1,OY,O',OO,Pb,Pz,PK,PI=>(cI (aj.mk OO Pb (au.mk Pz PK PI))).bind λ Pa=>if Pa.1.Ar=1 then(cI Pa.2).bind λ PZ=>ck (inR (PZ.2.fat+1))<|((fo (aj.mk PZ.2.fl (PZ.2.fat+1) PZ.2.AI) ([61]:Bk)).bind λ QI=>if QI.1=true then(ff n QI.2 (aH.mk OY O') PZ.1).bind λ OR=>some (OR.1,OR.2.2.By,OR.2.2.A',OR.2.1.fl,OR.2.1.fat,OR.2.1.AI.Ar,OR.2.1.AI.fAt,OR.2.1.AI.AT)else(ON QI.2 (aH.mk OY O') PZ.1 NM).bind λ Qh=>some (Qh.1,Qh.2.2.By,Qh.2.2.A',Qh.2.1.fl,Qh.2.1.fat,Qh.2.1.AI.Ar,Qh.2.1.AI.fAt,Qh.2.1.AI.AT) : Option (Bool×(List al)×(List aB)×(List ac)×Int×Int×Int×Bk)).bind λ Q8=>if (!Q8.1)=true then some (.inr ((aH.mk Q8.2.1 Q8.2.2.1),false,(aj.mk Q8.2.2.2.1 Q8.2.2.2.2.1 (au.mk Q8.2.2.2.2.2.1 Q8.2.2.2.2.2.2.1 Q8.2.2.2.2.2.2.2))))else(eG n (aj.mk Q8.2.2.2.1 Q8.2.2.2.2.1 (au.mk Q8.2.2.2.2.2.1 Q8.2.2.2.2.2.2.1 Q8.2.2.2.2.2.2.2))).bind λ Q3=>if (!Q3.1)=true then some (.inl (Q8.2.1,Q8.2.2.1,Q3.2.fl,Q3.2.fat,Q3.2.AI.Ar,Q3.2.AI.fAt,Q3.2.AI.AT))else cX n ON NM m Q8.2.1 Q8.2.2.1 Q3.2.fl Q3.2.fat Q3.2.AI.Ar Q3.2.AI.fAt Q3.2.AI.AT else some (.inl (OY,O',Pa.2.fl,Pa.2.fat,Pa.2.AI.Ar,Pa.2.AI.fAt,Pa.2.AI.AT))
mutual
def eW:Nat->aj->Int->Option (aH×Bool×aj)|0,_,_=>none|n+1,NL,NM=>(eG n NL).bind λ r1=>jn (cX n (dw n) NM n [] [] r1.2.fl r1.2.fat r1.2.AI.Ar r1.2.AI.fAt r1.2.AI.AT) λ Qb=>some ((aH.mk Qb.1 Qb.2.1),true,(aj.mk Qb.2.2.1 Qb.2.2.2.1 (au.mk Qb.2.2.2.2.1 Qb.2.2.2.2.2.1 Qb.2.2.2.2.2.2)))
def dw:Nat->aj->aH->ac->Int->Option (Bool×aj×aH)|0,_,_,_,_=>none|n+1,NL,NU,name_2,NV=>(iG n NL).bind λ r1=>if (!r1.2.1)=true then some (false,r1.2.2,(aH.mk NU.By NU.A'))else(fo r1.2.2 ([123]:Bk)).bind λ r4=>if (!r4.1)=true then(dy r4.2).bind λ r7=>some (r7.1,r7.2,(aH.mk NU.By NU.A'))else if 32<=NV then(fu r4.2 4 name_2.fAt ([]:Bk)).bind λ Ot=>some (Ot.1,Ot.2,(aH.mk NU.By NU.A'))else ck (inR (r4.2.fat+1))<|ck (inR (NV+1))<|((eW n) (aj.mk r4.2.fl (r4.2.fat+1) r4.2.AI) (NV+1)).bind λ Oq=>if (!Oq.2.1)=true then some (false,Oq.2.2,(aH.mk NU.By NU.A'))else(fo Oq.2.2 ([125]:Bk)).bind λ Om=>if (!Om.1)=true then(dy Om.2).bind λ Pp=>some (Pp.1,Pp.2,(aH.mk NU.By NU.A'))else ck (inR (Om.2.fat+1))<|ck ((NU.A'.length+1)*96<=140737488355328)<|some (true,(aj.mk Om.2.fl (Om.2.fat+1) Om.2.AI),(aH.mk NU.By (NU.A'++[(aB.mk name_2.BY r1.1 Oq.1 name_2.fAt)])))
end
theorem pf (n:Nat):(∀ (NL:aj) (NM:Int) (r:aH×Bool×aj),eW n NL NM=some r->aS Tryz.prog 27 [.ptr 1000000 0,.p (eI NM)] [(1000000,[.p (eL az NL.fl),.p (eI NL.fat),.p (eI NL.AI.Ar),.p (eI NL.AI.fAt),.p (eS NL.AI.AT)])] (λ x y=>x=.tuple [.p (.agg (aH.cs r.1)),.p (eB r.2.1)]/\y=[(1000000,[.p (eL az r.2.2.fl),.p (eI r.2.2.fat),.p (eI r.2.2.AI.Ar),.p (eI r.2.2.AI.fAt),.p (eS r.2.2.AI.AT)])]))/\(∀ (NL:aj) (NU:aH) (name_2:ac) (NV:Int) (r:Bool×aj×aH),dw n NL NU name_2 NV=some r->aS Tryz.prog 54 [.ptr 1000000 0,.ptr 1000001 0,.p (.agg (ac.cs name_2)),.p (eI NV)] [(1000000,[.p (eL az NL.fl),.p (eI NL.fat),.p (eI NL.AI.Ar),.p (eI NL.AI.fAt),.p (eS NL.AI.AT)]),(1000001,[.vec 900000 13 0 (NU.By.map ao),.vec 900001 5 0 (NU.A'.map aD)])] (λ x y=>x=.p (eB r.1)/\y=[(1000000,[.p (eL az r.2.1.fl),.p (eI r.2.1.fat),.p (eI r.2.1.AI.Ar),.p (eI r.2.1.AI.fAt),.p (eS r.2.1.AI.AT)]),(1000001,[.vec 2000000 13 0 (r.2.2.By.map ao),.vec 2000001 5 0 (r.2.2.A'.map aD)])])):=by
 induction n with
 | zero=>exact ⟨(by intro NL NM r h0; cases h0),(by intro NL NU name_2 NV r h0; cases h0)⟩
 | succ n ih=>
 obtain ⟨O8,O9⟩:=ih;refine ⟨?_,?_⟩
 ·skip
  intro NL NM r h0;rw [eW] at h0;refine bT good [] [1000000] Tryz.func27 Z Z Z Z Z λ w0 F=>mPo (λ v:aH×Bool×aj=>.tuple [.p (.agg (aH.cs v.1)),.p (eB v.2.1)]) (λ v=>[(1000000,[.p (eL az v.2.2.fl),.p (eI v.2.2.fat),.p (eI v.2.2.AI.Ar),.p (eI v.2.2.AI.fAt),.p (eS v.2.2.AI.AT)])]) ?_;refine nx 12 rfl (bd h0 λ r1 e2 h0=>?_);refine mO rfl (aN [1000000] [] 101000 101000 (ka _ NL _ e2) Z Z Z Z Z ⟨sr,trivial⟩ Z Z ⟨⟨_,rfl,⟨sr,sr,sr,sr,sr,trivial⟩⟩,trivial⟩ Z Z Z Z Z Z Z Z Tryz.call51 Z Z ?_);refine nx 3 rfl ?_;obtain ⟨o83,h1,Ou,hR0⟩:=cw h0;refine kEx 0 (λ R4:(List al)×(List aB)×(List ac)×Int×Int×Int×Bk=>o83=.inl R4) (λ R4=>⟨[(4,.ptr 4 0),(6,.ptr 6 0)],[(4,[.p (.val (.slice none 0 0)),.p (.val (.slice none 0 0))]),(6,[.vec 112000 13 0 (R4.1.map ao),.vec 112001 5 0 (R4.2.1.map aD)]),(1000000,[.p (eL az R4.2.2.1),.p (eI R4.2.2.2.1),.p (eI R4.2.2.2.2.1),.p (eI R4.2.2.2.2.2.1),.p (eS R4.2.2.2.2.2.2)])]⟩) (λ R4 hv=>?_) ?_
  ·have h0:=Ou _ hv;exact nx 8 Z (mQo (oi h0) (aJ _) Z Z Z Z (cb ⟨rD ⟨sr,sr,trivial⟩,sr,trivial⟩) ⟨⟨_,Z,⟨sr,sr,sr,sr,sr,trivial⟩⟩,trivial⟩)
  refine lG (λ (Rn:(List al)×(List aB)×(List ac)×Int×Int×Int×Bk)=>⟨[(0,.ptr 1000000 0),(1,.p (eI NM)),(4,.ptr 4 0),(6,.ptr 6 0)],[(4,[.p (.val (.slice none 0 0)),.p (.val (.slice none 0 0))]),(6,[.vec 106000 13 0 (Rn.1.map ao),.vec 106001 5 0 (Rn.2.1.map aD)]),(1000000,[.p (eL az Rn.2.2.1),.p (eI Rn.2.2.2.1),.p (eI Rn.2.2.2.2.1),.p (eI Rn.2.2.2.2.2.1),.p (eS Rn.2.2.2.2.2.2)])]⟩) (λ m (Rn:(List al)×(List aB)×(List ac)×Int×Int×Int×Bk)=>cX n (dw n) NM m Rn.1 Rn.2.1 Rn.2.2.1 Rn.2.2.2.1 Rn.2.2.2.2.1 Rn.2.2.2.2.2.1 Rn.2.2.2.2.2.2) Y ([],[],r1.2.fl,r1.2.fat,r1.2.AI.Ar,r1.2.AI.fAt,r1.2.AI.AT) h1 (cG (jv ⟨er rfl,er rfl,er rfl,er rfl,trivial⟩ ⟨⟨_,rfl,⟨sr,sr,trivial⟩⟩,⟨_,rfl,⟨AV.sub_nilvec _ _ _,AV.sub_nilvec _ _ _,trivial⟩⟩,⟨_,rfl,⟨sr,sr,sr,sr,sr,trivial⟩⟩,trivial⟩)) ?_;rintro m ⟨OY,O',OO,Pb,Pz,PK,PI⟩ h1;replace h1:cX n (dw n) NM (m+1) OY O' OO Pb Pz PK PI=some o83:=h1;rw [cX] at h1;refine nx 4 rfl (bd h1 λ Pa Tl h1=>?_);refine mO rfl (aN [1000000] [] 108000 108000 (dk (aj.mk OO Pb (au.mk Pz PK PI)) _ Tl) rfl rfl rfl rfl rfl ⟨sr,trivial⟩ rfl rfl ⟨⟨_,rfl,⟨sr,sr,sr,sr,sr,trivial⟩⟩,trivial⟩ rfl rfl rfl rfl rfl rfl rfl rfl Tryz.call28 rfl rfl ?_);refine nx 3 rfl (fD [14] h1 rfl (λ Tp h1=>?_) λ Tp h1=>?_)
  ·refine nx 6 Z (bd h1 λ PZ Ue h1=>?_);refine mO Z (aN [1000000] [] 109000 109000 (dk Pa.2 _ Ue) Z Z Z Z Z ⟨sr,trivial⟩ Z Z ⟨⟨_,Z,⟨sr,sr,sr,sr,sr,trivial⟩⟩,trivial⟩ Z Z Z Z Z Z Z Z Tryz.call28 Z Z ?_);refine nx 9 Z (oA h1 Z Z λ RQ h1=>?_);refine nx 9 Z (bd h1 λ TL h2 h1=>?_);refine kN TL (λ Ty=>⟨[(0,.ptr 1000000 0),(1,.p (eI NM)),(4,.ptr 4 0),(6,.ptr 6 0),(8,.p (eB Ty.1))],[(4,[.p (.val (.slice none 0 0)),.p (.val (.slice none 0 0))]),(6,[.vec 112000 13 0 (Ty.2.1.map ao),.vec 112001 5 0 (Ty.2.2.1.map aD)]),(1000000,[.p (eL az Ty.2.2.2.1),.p (eI Ty.2.2.2.2.1),.p (eI Ty.2.2.2.2.2.1),.p (eI Ty.2.2.2.2.2.2.1),.p (eS Ty.2.2.2.2.2.2.2)])]⟩) ?_ ?_
   ·refine nx 7 Z (fB [34] h1 Z (λ c63 h1=>?_) λ c63 h1=>?_)
    ·exact nx 8 Z (mQo (hR0 _ (oi h1).symm) (aJ _) Z Z Z Z (cb ⟨rD ⟨sr,sr,trivial⟩,sr,trivial⟩) ⟨⟨_,Z,⟨sr,sr,sr,sr,sr,trivial⟩⟩,trivial⟩)
    refine nx 5 Z (bd h1 λ Q3 e65 h1=>?_);refine mO Z (aN [1000000] [] 113000 113000 (ka _ (aj.mk TL.2.2.2.1 TL.2.2.2.2.1 (au.mk TL.2.2.2.2.2.1 TL.2.2.2.2.2.2.1 TL.2.2.2.2.2.2.2)) _ e65) Z Z Z Z Z ⟨sr,trivial⟩ Z Z ⟨⟨_,Z,⟨sr,sr,sr,sr,sr,trivial⟩⟩,trivial⟩ Z Z Z Z Z Z Z Z Tryz.call51 Z Z ?_);refine nx 2 Z (fB [38] h1 Z (λ c66 h1=>?_) λ c66 h1=>?_)
    ·exact cH
    exact nx 2 Z (eX (TL.2.1,TL.2.2.1,Q3.2.fl,Q3.2.fat,Q3.2.AI.Ar,Q3.2.AI.fAt,Q3.2.AI.AT) h1 (aU (bn 112000 106000 Z Z Z Z Z) (aU (bn 112001 106001 Z Z Z Z Z) (gE Z Z))))
   refine nx 3 Z (bd h2 λ QI Ud h2=>?_);refine mO Z (aN [1000000] [] 110000 110000 (jD (aj.mk PZ.2.fl (PZ.2.fat+1) PZ.2.AI) ([61]:Bk) _ Ud) Z Z Z Z Z ⟨sr,sr,trivial⟩ Z Z ⟨⟨_,Z,⟨sr,sr,sr,sr,sr,trivial⟩⟩,trivial⟩ Z Z Z Z Z Z Z Z Tryz.call52 Z Z ?_);refine nx 1 Z (fB [25] h2 Z (λ Ui h2=>?_) λ Ui h2=>?_)
   ·refine nx 4 Z (bd h2 λ OR Uc h2=>?_);refine mO Z (aN [1000000,6] [106000,106001] 111000 111002 (nK _ QI.2 (aH.mk OY O') PZ.1 _ Uc) Z Z Z Z Z ⟨sr,sr,sr,trivial⟩ Z Z ⟨⟨_,Z,⟨sr,sr,sr,sr,sr,trivial⟩⟩,⟨_,Z,⟨sr,sr,trivial⟩⟩,trivial⟩ Z Z Z Z Z Z Z Z Tryz.call53 Z Z ?_);exact nx 2 Z (eX _ (oi h2).symm (aU (bn 111000 112000 Z Z Z Z Z) (aU (bn 111001 112001 Z Z Z Z Z) (gE Z Z))))
   refine nx 5 Z (bd h2 λ Qh U' h2=>?_);refine mO Z (aN [1000000,6] [106000,106001] 112000 112002 (O9 QI.2 (aH.mk OY O') PZ.1 NM _ U') Z Z Z Z Z ⟨sr,sr,sr,sr,trivial⟩ Z Z ⟨⟨_,Z,⟨sr,sr,sr,sr,sr,trivial⟩⟩,⟨_,Z,⟨sr,sr,trivial⟩⟩,trivial⟩ Z Z Z Z Z Z Z Z Tryz.call54 Z Z ?_);exact fS
  exact nx 2 Z (eXi _ (oi h1).symm (aU (bn 106000 112000 Z Z Z Z Z) (aU (bn 106001 112001 Z Z Z Z Z) (gE Z Z))))
 ·skip
  intro NL NU name_2 NV r h0;rw [dw] at h0;refine bT good [800000,800001] [1000000,1000001] Tryz.func54 Z Z Z Z Z λ w0 F=>mPo (λ v:Bool×aj×aH=>.p (eB v.1)) (λ v=>[(1000000,[.p (eL az v.2.1.fl),.p (eI v.2.1.fat),.p (eI v.2.1.AI.Ar),.p (eI v.2.1.AI.fAt),.p (eS v.2.1.AI.AT)]),(1000001,[.vec 2000000 13 0 (v.2.2.By.map ao),.vec 2000001 5 0 (v.2.2.A'.map aD)])]) ?_;refine nx 8 rfl (bd h0 λ r1 e2 h0=>?_);refine mO rfl (aN [1000000] [] 101000 101000 (pk _ NL _ e2) Z Z Z Z Z ⟨sr,trivial⟩ Z Z ⟨⟨_,rfl,⟨sr,sr,sr,sr,sr,trivial⟩⟩,trivial⟩ Z Z Z Z Z Z Z Z Tryz.call90 Z Z ?_);refine nx 12 rfl (fB [18] h0 rfl (λ c3 h0=>?_) λ c3 h0=>?_)
  ·exact G0
  refine nx 6 Z (bd h0 λ r4 e5 h0=>?_);refine mO Z (aN [1000000] [] 102000 102000 (jD r1.2.2 ([123]:Bk) _ e5) Z Z Z Z Z ⟨sr,sr,trivial⟩ Z Z ⟨⟨_,Z,⟨sr,sr,sr,sr,sr,trivial⟩⟩,trivial⟩ Z Z Z Z Z Z Z Z Tryz.call52 Z Z ?_);refine nx 2 Z (fB [21] h0 Z (λ c6 h0=>?_) λ c6 h0=>?_)
  ·refine nx 4 Z (bd h0 λ r7 e8 h0=>?_);refine mO Z (aN [1000000] [] 103000 103000 (fH r4.2 _ e8) Z Z Z Z Z ⟨sr,trivial⟩ Z Z ⟨⟨_,Z,⟨sr,sr,sr,sr,sr,trivial⟩⟩,trivial⟩ Z Z Z Z Z Z Z Z Tryz.call29 Z Z ?_);exact yM
  refine nx 8 Z (fD [25] h0 Z (λ c9 h0=>?_) λ c9 h0=>?_)
  ·refine nx 6 Z (bd h0 λ Ot Qe h0=>?_);refine mO Z (aN [1000000] [] 104000 104000 (fM r4.2 4 name_2.fAt ([]:Bk) _ Qe) Z Z Z Z Z ⟨sr,sr,sr,sr,trivial⟩ Z Z ⟨⟨_,Z,⟨sr,sr,sr,sr,sr,trivial⟩⟩,trivial⟩ Z Z Z Z Z Z Z Z Tryz.call55 Z Z ?_);exact yM
  refine nx 8 Z (oA h0 Z Z λ QM h0=>?_);refine nx 8 Z (oA h0 Z Z λ Rs h0=>?_);refine bd h0 λ Oq RX h0=>mO Z (aN [1000000] [] 105000 105000 (O8 (aj.mk r4.2.fl (r4.2.fat+1) r4.2.AI) (NV+1) _ RX) Z Z Z Z Z ⟨sr,sr,trivial⟩ Z Z ⟨⟨_,Z,⟨sr,sr,sr,sr,sr,trivial⟩⟩,trivial⟩ Z Z Z Z Z Z Z Z Tryz.call27 Z Z ?_);refine nx 7 Z (mG (gE (t:=⟨[(0,.ptr 1000000 0),(1,.ptr 1000001 0),(6,.ptr 6 0),(9,.p (eL eS r1.1)),(10,.p (eB Oq.2.1)),(11,.ptr 11 0)],[(6,(ac.cs name_2).map .p),(11,(aH.cs Oq.1).map .p),(1000000,(aj.cs Oq.2.2).map .p),(1000001,[.vec 900000 13 0 (NU.By.map ao),.vec 900001 5 0 (NU.A'.map aD)])]⟩) Z Z) ?_);refine nx 6 Z (fB [45] h0 Z (λ SQ h0=>?_) λ SQ h0=>?_)
  ·exact G0
  refine nx 6 Z (bd h0 λ Om RV h0=>?_);refine mO Z (aN [1000000] [] 106000 106000 (jD Oq.2.2 ([125]:Bk) _ RV) Z Z Z Z Z ⟨sr,sr,trivial⟩ Z Z ⟨⟨_,Z,⟨sr,sr,sr,sr,sr,trivial⟩⟩,trivial⟩ Z Z Z Z Z Z Z Z Tryz.call52 Z Z ?_);refine nx 2 Z (fB [48] h0 Z (λ QE h0=>?_) λ QE h0=>?_)
  ·refine nx 4 Z (bd h0 λ Pp Rt h0=>?_);refine mO Z (aN [1000000] [] 107000 107000 (fH Om.2 _ Rt) Z Z Z Z Z ⟨sr,trivial⟩ Z Z ⟨⟨_,Z,⟨sr,sr,sr,sr,sr,trivial⟩⟩,trivial⟩ Z Z Z Z Z Z Z Z Tryz.call29 Z Z ?_);exact yM
  refine nx 8 Z (oA h0 Z Z λ Pw h0=>?_);refine nx 5 Z (cc' h0 λ Qn h0=>?_);refine mG (gE (t:=⟨[(1,.ptr 1000001 0),(6,.ptr 6 0),(9,.p (eL eS r1.1)),(11,.ptr 11 0)],[(6,(ac.cs name_2).map .p),(11,(aH.cs Oq.1).map .p),(1000000,[.p (eL az Om.2.fl),.p (eI (Om.2.fat+1)),.p (eI Om.2.AI.Ar),.p (eI Om.2.AI.fAt),.p (eS Om.2.AI.AT)]),(1000001,[.vec 900000 13 0 (NU.By.map ao),.vec 900001 5 0 (NU.A'.map aD)])]⟩) Z Z) (mSP ⟨3,[13,15,18],(by4 (.some λ i=>Nat.beq i 900001||Nat.beq i 71) (.fn (upP 71 5 (.agg [eS name_2.BY,eL eS r1.1,eL ao Oq.1.By,eL aD Oq.1.A',eI name_2.fAt]))) .none .none),(λ _=>[(1,.ptr 1000001 0),(6,.ptr 6 0),(9,.p (eL eS r1.1)),(11,.ptr 11 0)]),(by4 ([(6,[.p (eI name_2.Ar),.p (eS name_2.BY),.p (eI name_2.fAt)]),(11,[.p (eL ao Oq.1.By),.p (eL aD Oq.1.A')]),(1000000,[.p (eL az Om.2.fl),.p (eI (Om.2.fat+1)),.p (eI Om.2.AI.Ar),.p (eI Om.2.AI.fAt),.p (eS Om.2.AI.AT)]),(1000001,[.vec 900000 13 0 (NU.By.map ao),.vec 900001 5 0 (NU.A'.map aD)])]) ([(6,[.p (eI name_2.Ar),.p (eS name_2.BY),.p (eI name_2.fAt)]),(11,[.p (eL ao Oq.1.By),.p (eL aD Oq.1.A')]),(1000000,[.p (eL az Om.2.fl),.p (eI (Om.2.fat+1)),.p (eI Om.2.AI.Ar),.p (eI Om.2.AI.fAt),.p (eS Om.2.AI.AT)]),(1000001,[.vec 900000 13 0 (NU.By.map ao),.p (eL aD NU.A')])]) ([(6,[.p (eI name_2.Ar),.p (eS name_2.BY),.p (eI name_2.fAt)]),(11,[.p (eL ao Oq.1.By),.p (eL aD Oq.1.A')]),(1000000,[.p (eL az Om.2.fl),.p (eI (Om.2.fat+1)),.p (eI Om.2.AI.Ar),.p (eI Om.2.AI.fAt),.p (eS Om.2.AI.AT)]),(1000001,[.vec 900000 13 0 (NU.By.map ao),.p (eL aD NU.A')])]) ([(1000001,[.vec 900000 13 0 (NU.By.map ao),.vec 71 5 0 (NU.A'.map aD++[.agg [eS name_2.BY,eL eS r1.1,eL ao Oq.1.By,eL aD Oq.1.A',eI name_2.fAt]])]),(6,[.p (eI name_2.Ar),.p (eS name_2.BY),.p (eI name_2.fAt)]),(11,[.p (eL ao Oq.1.By),.p (eL aD Oq.1.A')]),(1000000,[.p (eL az Om.2.fl),.p (eI (Om.2.fat+1)),.p (eI Om.2.AI.Ar),.p (eI Om.2.AI.fAt),.p (eS Om.2.AI.AT)]),(1000001,[.vec 900000 13 0 (NU.By.map ao),.p (eL aD NU.A')])]))⟩ ⟨3,[13,18,15],(by4 (.some λ i=>Nat.beq i 900001||Nat.beq i 71) .none (.fn (upP 71 5 (.agg [eS name_2.BY,eL eS r1.1,eL ao Oq.1.By,eL aD Oq.1.A',eI name_2.fAt]))) .none),(λ _=>[(1,.ptr 1000001 0),(6,.ptr 6 0),(9,.p (eL eS r1.1)),(11,.ptr 11 0)]),(by4 ([(6,[.p (eI name_2.Ar),.p (eS name_2.BY),.p (eI name_2.fAt)]),(11,[.p (eL ao Oq.1.By),.p (eL aD Oq.1.A')]),(1000000,[.p (eL az Om.2.fl),.p (eI (Om.2.fat+1)),.p (eI Om.2.AI.Ar),.p (eI Om.2.AI.fAt),.p (eS Om.2.AI.AT)]),(1000001,[.vec 900000 13 0 (NU.By.map ao),.vec 900001 5 0 (NU.A'.map aD)])]) ([(6,[.p (eI name_2.Ar),.p (eS name_2.BY),.p (eI name_2.fAt)]),(11,[.p (eL ao Oq.1.By),.p (eL aD Oq.1.A')]),(1000000,[.p (eL az Om.2.fl),.p (eI (Om.2.fat+1)),.p (eI Om.2.AI.Ar),.p (eI Om.2.AI.fAt),.p (eS Om.2.AI.AT)]),(1000001,[.vec 900000 13 0 (NU.By.map ao),.p (eL aD NU.A')])]) ([(1000001,[.vec 900000 13 0 (NU.By.map ao),.vecp 71 5 0 (NU.A'.map aD)]),(6,[.p (eI name_2.Ar),.p (eS name_2.BY),.p (eI name_2.fAt)]),(11,[.p (eL ao Oq.1.By),.p (eL aD Oq.1.A')]),(1000000,[.p (eL az Om.2.fl),.p (eI (Om.2.fat+1)),.p (eI Om.2.AI.Ar),.p (eI Om.2.AI.fAt),.p (eS Om.2.AI.AT)]),(1000001,[.vec 900000 13 0 (NU.By.map ao),.p (eL aD NU.A')])]) ([(1000001,[.vec 900000 13 0 (NU.By.map ao),.vec 71 5 0 (NU.A'.map aD++[.agg [eS name_2.BY,eL eS r1.1,eL ao Oq.1.By,eL aD Oq.1.A',eI name_2.fAt]])]),(6,[.p (eI name_2.Ar),.p (eS name_2.BY),.p (eI name_2.fAt)]),(11,[.p (eL ao Oq.1.By),.p (eL aD Oq.1.A')]),(1000000,[.p (eL az Om.2.fl),.p (eI (Om.2.fat+1)),.p (eI Om.2.AI.Ar),.p (eI Om.2.AI.fAt),.p (eS Om.2.AI.AT)]),(1000001,[.vec 900000 13 0 (NU.By.map ao),.p (eL aD NU.A')])]))⟩ Z Z Z Z Z Z Z ⟨Z,Z,Z,Z,trivial⟩ Z (lt3 ⟨Z,Z,Z,Z,trivial⟩ ⟨Z,Z,Z,Z,trivial⟩ ⟨Z,Z,Z,Z,trivial⟩) (lt3 ⟨Z,Z,Z,Z,trivial⟩ ⟨Z,Z,Z,Z,trivial⟩ ⟨Z,Z,Z,Z,trivial⟩) Z Z Z Z Z ?_);refine ar (λ _=>.ptr 1000001 0) Z Z Z (fh Z Z Z Y) (lt3 Z Z Z) (ak Z (ak Z (ak Z (ai [(1,_)] ⟨.inl Z,trivial⟩ (λ sl NI K hK=>ah Z (b6 Z Z Z (NI _ _ Z) hK)) ap)))) (ar (λ _=>.ptr 1000001 0) Z Z Z (fh Z Z Z Y) (lt3 Z Z Z) (ak Z (ak Z (ak Z (ai [(58,_)] ⟨.inr ⟨0,_,Z,Z,Z⟩,trivial⟩ (λ sl NI K hK=>ah Z (bE Z Z Z (NI _ _ Z) hK)) ap)))) ?_);refine ar (λ _=>.ptr 1000001 1) Z Z Z (fh Z Z Z Y) (lt3 Z Z Z) (ak Z (ak Z (ak Z (ai [(59,_)] ⟨.inr ⟨1,_,Z,Z,Z⟩,trivial⟩ (λ sl NI K hK=>ah Z (aI Z Z Z Z Z Z Z Z (NI _ _ Z) hK)) ap)))) (ar (by4 (.vec 900001 5 0 (NU.A'.map aD)) (.p (eL aD NU.A')) (.p (eL aD NU.A')) (.p (eL aD NU.A'))) Z Z Z (fh Z Z Z Y) (lt3 Z Z Z) (ak Z (ak Z (ak Z (ai [(60,_)] ⟨.inr ⟨2,_,Z,Z,Z⟩,trivial⟩ (λ sl NI K hK=>ah Z (bH Z Z Z Z Z (NI _ _ Z) Z Z hK)) ap)))) ?_);refine ar (λ _=>.ptr 6 1) Z Z Z (fh Z Z Z Y) (lt3 Z Z Z) (ak Z (ak Z (ak Z (ai [(6,_)] ⟨.inl Z,trivial⟩ (λ sl NI K hK=>ah Z (aI Z Z Z Z Z Z Z Z (NI _ _ Z) hK)) ap)))) (ar (λ _=>.p (eS name_2.BY)) Z Z Z (fh Z Z Z Y) (lt3 Z Z Z) (ak Z (ak Z (ak Z (ai [(62,_)] ⟨.inr ⟨4,_,Z,Z,Z⟩,trivial⟩ (λ sl NI K hK=>ah Z (bH Z Z Z Z Z (NI _ _ Z) Z Z hK)) ap)))) ?_);refine ar (λ _=>.p (eL eS r1.1)) Z Z Z (fh Z Z Z Y) (lt3 Z Z Z) (ak Z (ak Z (ak Z (ai [(9,_)] ⟨.inl Z,trivial⟩ (λ sl NI K hK=>ah Z (b6 Z Z Z (NI _ _ Z) hK)) ap)))) (ar (λ _=>.p (.agg (aH.cs Oq.1))) Z Z Z (fh Z Z Z Y) (lt3 Z Z Z) (ak Z (ak Z (ak Z (ai [(11,_)] ⟨.inl Z,trivial⟩ (λ sl NI K hK=>ah Z (eH Z Z Z Z Z (NI _ _ Z) Z Z Z hK)) ap)))) ?_);refine ar (λ _=>.ptr 6 2) Z Z Z (fh Z Z Z Y) (lt3 Z Z Z) (ak Z (ak Z (ak Z (ai [(6,_)] ⟨.inl Z,trivial⟩ (λ sl NI K hK=>ah Z (aI Z Z Z Z Z Z Z Z (NI _ _ Z) hK)) ap)))) (ar (λ _=>.p (eI name_2.fAt)) Z Z Z (fh Z Z Z Y) (lt3 Z Z Z) (ak Z (ak Z (ak Z (ai [(66,_)] ⟨.inr ⟨8,_,Z,Z,Z⟩,trivial⟩ (λ sl NI K hK=>ah Z (bH Z Z Z Z Z (NI _ _ Z) Z Z hK)) ap)))) ?_);refine ar (λ _=>.p (.agg [eS name_2.BY,eL eS r1.1,eL ao Oq.1.By,eL aD Oq.1.A',eI name_2.fAt])) Z Z Z (fh Z Z Z Y) (lt3 Z Z Z) (ak Z (ak Z (ak Z (ai [(63,_),(64,_),(65,_),(67,_)] ⟨.inr ⟨5,_,Z,Z,Z⟩,.inr ⟨6,_,Z,Z,Z⟩,.inr ⟨7,_,Z,Z,Z⟩,.inr ⟨9,_,Z,Z,Z⟩,trivial⟩ (λ sl NI K hK=>ah Z (gV Z Z Z Z Z Z (iH (NI _ _ Z) (iH (NI _ _ Z) (iH (NI _ _ Z) (iH (NI _ _ Z) nX)))) Z Z hK)) ap)))) (ar (λ _=>.p (eI (NU.A'.length:Int))) Z Z Z (fh Z Z Z Y) (lt3 Z Z Z) (ak Z (ak Z (ak Z (ai [(61,_)] ⟨.inr ⟨3,_,Z,Z,Z⟩,trivial⟩ (λ sl NI K hK=>ah Z (jN (f:=aD) (l:=NU.A') Z Z Z Z Z (NI _ _ Z) Z hK)) ap)))) ?_);refine ar (λ _=>.p (eL (λ x:PV=>x) [.agg [eS ([]:Bk),.val (.slice none 0 0),.val (.slice none 0 0),.val (.slice none 0 0),eI 0]])) Z Z Z (fh Z Z Z Y) (lt3 Z Z Z) (ak Z (ak Z (ak Z (ai [] trivial (λ sl NI K hK=>ah Z (bz (λ x:PV=>x) [.agg [eS ([]:Bk),.val (.slice none 0 0),.val (.slice none 0 0),.val (.slice none 0 0),eI 0]] Z Z Z Z Z Z (du Z Z eA) Z Z Z Z Z Z Z hK)) ap)))) (dB (by4 (.vecp 71 5 0 (NU.A'.map aD)) (.vecp 71 5 0 (NU.A'.map aD)) (.vec 71 5 0 (NU.A'.map aD++[.agg [eS name_2.BY,eL eS r1.1,eL ao Oq.1.By,eL aD Oq.1.A',eI name_2.fAt]])) (.vec 71 5 0 (NU.A'.map aD++[.agg [eS name_2.BY,eL eS r1.1,eL ao Oq.1.By,eL aD Oq.1.A',eI name_2.fAt]]))) [(61,_),(70,_)] Z ⟨.inr ⟨3,_,Z,Z,Z⟩,.inr ⟨12,_,Z,Z,Z⟩,trivial⟩ Z Z (cM Z Z Y) (lt3 (λ h=>absurd h (by decide)) Y Y) (λ sl NI K hK=>ah Z (oc aD NU.A' Z Z Z Z Z Z Z Z (NI _ _ Z) Z Z (NI _ _ Z) Z Z Z Z Z Qn hK)) ?_);refine mj (by4 (.elp 71 5) (.elp 71 5) .undef .undef) Z Z Z (fh Z Z Z Y) (lt3 (nl Z) Y Y) (ak Z (ak Z (ai [(69,_),(71,_)] ⟨.inr ⟨11,_,Z,Z,Z⟩,.inr ⟨13,_,Z,Z,Z⟩,trivial⟩ (λ sl NI K hK=>ah Z (lV Z Z Z Z Z Z Z (NI _ _ Z) (NI _ _ Z) oD hK)) (ak Z ap)))) (dI [(68,_),(72,_)] Z ⟨.inr ⟨10,_,Z,Z,Z⟩,.inr ⟨14,_,Z,Z,Z⟩,trivial⟩ Z (λ sl NI K hK=>ah Z (tc (z:=.agg [eS name_2.BY,eL eS r1.1,eL ao Oq.1.By,eL aD Oq.1.A',eI name_2.fAt]) Z Z Z Z (NI _ _ Z) (NI _ _ Z) Z Z Z Z Z hK)) ?_);refine ar (λ _=>.ptr 1000001 0) Z Z Z (fh Z Z Z Y) (lt3 Z Z Z) (ai [(58,_)] ⟨.inr ⟨0,_,Z,Z,Z⟩,trivial⟩ (λ sl NI K hK=>ah Z (bE Z Z Z (NI _ _ Z) hK)) (ai [(58,_)] ⟨.inr ⟨0,_,Z,Z,Z⟩,trivial⟩ (λ sl NI K hK=>ah Z (bE Z Z Z (NI _ _ Z) hK)) (ai [(58,_)] ⟨.inr ⟨0,_,Z,Z,Z⟩,trivial⟩ (λ sl NI K hK=>ah Z (bE Z Z Z (NI _ _ Z) hK)) (ak Z ap)))) (ar (λ _=>.ptr 1000001 1) Z Z Z (fh Z Z Z Y) (lt3 Z Z Z) (ak Z (ai [(73,_)] ⟨.inr ⟨16,_,Z,Z,Z⟩,trivial⟩ (λ sl NI K hK=>ah Z (aI Z Z Z Z Z Z Z Z (NI _ _ Z) hK)) (ai [(73,_)] ⟨.inr ⟨16,_,Z,Z,Z⟩,trivial⟩ (λ sl NI K hK=>ah Z (aI Z Z Z Z Z Z Z Z (NI _ _ Z) hK)) (ak Z ap)))) ?_);refine dI [(71,_),(74,_)] Z ⟨.inr ⟨13,_,Z,Z,Z⟩,.inr ⟨17,_,Z,Z,Z⟩,trivial⟩ Z (λ sl NI K hK=>ah Z (fe Z Z Z (NI _ _ Z) (NI _ _ Z) Z Z Z (ld Z) hK)) (wl (ar (λ _=>.ptr 1000001 0) Z Z Z (fh Z Z Z Y) (lt3 Z Z Z) (ak Z (ak Z (ak Z (ai [(1,_)] ⟨.inl Z,trivial⟩ (λ sl NI K hK=>ah Z (b6 Z Z Z (NI _ _ Z) hK)) ap)))) (ar (λ _=>.ptr 1000001 0) Z Z Z (fh Z Z Z Y) (lt3 Z Z Z) (ak Z (ak Z (ak Z (ai [(58,_)] ⟨.inr ⟨0,_,Z,Z,Z⟩,trivial⟩ (λ sl NI K hK=>ah Z (bE Z Z Z (NI _ _ Z) hK)) ap)))) (ar (λ _=>.ptr 1000001 1) Z Z Z (fh Z Z Z Y) (lt3 Z Z Z) (ak Z (ak Z (ak Z (ai [(59,_)] ⟨.inr ⟨1,_,Z,Z,Z⟩,trivial⟩ (λ sl NI K hK=>ah Z (aI Z Z Z Z Z Z Z Z (NI _ _ Z) hK)) ap)))) (ar (by4 (.vec 900001 5 0 (NU.A'.map aD)) (.p (eL aD NU.A')) (.p (eL aD NU.A')) (.p (eL aD NU.A'))) Z Z Z (fh Z Z Z Y) (lt3 Z Z Z) (ak Z (ak Z (ak Z (ai [(60,_)] ⟨.inr ⟨2,_,Z,Z,Z⟩,trivial⟩ (λ sl NI K hK=>ah Z (bH Z Z Z Z Z (NI _ _ Z) Z Z hK)) ap)))) (ar (λ _=>.ptr 6 1) Z Z Z (fh Z Z Z Y) (lt3 Z Z Z) (ak Z (ak Z (ak Z (ai [(6,_)] ⟨.inl Z,trivial⟩ (λ sl NI K hK=>ah Z (aI Z Z Z Z Z Z Z Z (NI _ _ Z) hK)) ap)))) (ar (λ _=>.p (eS name_2.BY)) Z Z Z (fh Z Z Z Y) (lt3 Z Z Z) (ak Z (ak Z (ak Z (ai [(62,_)] ⟨.inr ⟨4,_,Z,Z,Z⟩,trivial⟩ (λ sl NI K hK=>ah Z (bH Z Z Z Z Z (NI _ _ Z) Z Z hK)) ap)))) (ar (λ _=>.p (eL eS r1.1)) Z Z Z (fh Z Z Z Y) (lt3 Z Z Z) (ak Z (ak Z (ak Z (ai [(9,_)] ⟨.inl Z,trivial⟩ (λ sl NI K hK=>ah Z (b6 Z Z Z (NI _ _ Z) hK)) ap)))) (ar (λ _=>.p (.agg (aH.cs Oq.1))) Z Z Z (fh Z Z Z Y) (lt3 Z Z Z) (ak Z (ak Z (ak Z (ai [(11,_)] ⟨.inl Z,trivial⟩ (λ sl NI K hK=>ah Z (eH Z Z Z Z Z (NI _ _ Z) Z Z Z hK)) ap)))) (ar (λ _=>.ptr 6 2) Z Z Z (fh Z Z Z Y) (lt3 Z Z Z) (ak Z (ak Z (ak Z (ai [(6,_)] ⟨.inl Z,trivial⟩ (λ sl NI K hK=>ah Z (aI Z Z Z Z Z Z Z Z (NI _ _ Z) hK)) ap)))) (ar (λ _=>.p (eI name_2.fAt)) Z Z Z (fh Z Z Z Y) (lt3 Z Z Z) (ak Z (ak Z (ak Z (ai [(66,_)] ⟨.inr ⟨8,_,Z,Z,Z⟩,trivial⟩ (λ sl NI K hK=>ah Z (bH Z Z Z Z Z (NI _ _ Z) Z Z hK)) ap)))) (ar (λ _=>.p (.agg [eS name_2.BY,eL eS r1.1,eL ao Oq.1.By,eL aD Oq.1.A',eI name_2.fAt])) Z Z Z (fh Z Z Z Y) (lt3 Z Z Z) (ak Z (ak Z (ak Z (ai [(63,_),(64,_),(65,_),(67,_)] ⟨.inr ⟨5,_,Z,Z,Z⟩,.inr ⟨6,_,Z,Z,Z⟩,.inr ⟨7,_,Z,Z,Z⟩,.inr ⟨9,_,Z,Z,Z⟩,trivial⟩ (λ sl NI K hK=>ah Z (gV Z Z Z Z Z Z (iH (NI _ _ Z) (iH (NI _ _ Z) (iH (NI _ _ Z) (iH (NI _ _ Z) nX)))) Z Z hK)) ap)))) (ar (λ _=>.p (eI (NU.A'.length:Int))) Z Z Z (fh Z Z Z Y) (lt3 Z Z Z) (ak Z (ak Z (ak Z (ai [(61,_)] ⟨.inr ⟨3,_,Z,Z,Z⟩,trivial⟩ (λ sl NI K hK=>ah Z (jN (f:=aD) (l:=NU.A') Z Z Z Z Z (NI _ _ Z) Z hK)) ap)))) (ar (λ _=>.p (eL (λ x:PV=>x) [.agg [eS ([]:Bk),.val (.slice none 0 0),.val (.slice none 0 0),.val (.slice none 0 0),eI 0]])) Z Z Z (fh Z Z Z Y) (lt3 Z Z Z) (ak Z (ak Z (ak Z (ai [] trivial (λ sl NI K hK=>ah Z (bz (λ x:PV=>x) [.agg [eS ([]:Bk),.val (.slice none 0 0),.val (.slice none 0 0),.val (.slice none 0 0),eI 0]] Z Z Z Z Z Z (du Z Z eA) Z Z Z Z Z Z Z hK)) ap)))) (dB (by4 (.vecp 71 5 0 (NU.A'.map aD)) (.vecp 71 5 0 (NU.A'.map aD)) (.vecp 71 5 0 (NU.A'.map aD)) (.vec 71 5 0 (NU.A'.map aD++[.agg [eS name_2.BY,eL eS r1.1,eL ao Oq.1.By,eL aD Oq.1.A',eI name_2.fAt]]))) [(61,_),(70,_)] Z ⟨.inr ⟨3,_,Z,Z,Z⟩,.inr ⟨12,_,Z,Z,Z⟩,trivial⟩ Z Z (cM Z Z Y) (lt3 (λ h=>absurd h (by decide)) Y Y) (λ sl NI K hK=>ah Z (oc aD NU.A' Z Z Z Z Z Z Z Z (NI _ _ Z) Z Z (NI _ _ Z) Z Z Z Z Z Qn hK)) (mj (by4 (.elp 71 5) (.elp 71 5) (.elp 71 5) .undef) Z Z Z (fh Z Z Z Y) (lt3 (nl Z) Y Y) (ak Z (ai [(69,_),(71,_)] ⟨.inr ⟨11,_,Z,Z,Z⟩,.inr ⟨13,_,Z,Z,Z⟩,trivial⟩ (λ sl NI K hK=>ah Z (lV Z Z Z Z Z Z Z (NI _ _ Z) (NI _ _ Z) oD hK)) (ai [(69,_),(71,_)] ⟨.inr ⟨11,_,Z,Z,Z⟩,.inr ⟨13,_,Z,Z,Z⟩,trivial⟩ (λ sl NI K hK=>ah Z (lV Z Z Z Z Z Z Z (NI _ _ Z) (NI _ _ Z) oD hK)) (ak Z ap)))) (dI [(68,_),(72,_)] Z ⟨.inr ⟨10,_,Z,Z,Z⟩,.inr ⟨14,_,Z,Z,Z⟩,trivial⟩ Z (λ sl NI K hK=>ah Z (tc (z:=.agg [eS name_2.BY,eL eS r1.1,eL ao Oq.1.By,eL aD Oq.1.A',eI name_2.fAt]) Z Z Z Z (NI _ _ Z) (NI _ _ Z) Z Z Z Z Z hK)) (ar (λ _=>.ptr 1000001 0) Z Z Z (fh Z Z Z Y) (lt3 Z Z Z) (ai [(58,_)] ⟨.inr ⟨0,_,Z,Z,Z⟩,trivial⟩ (λ sl NI K hK=>ah Z (bE Z Z Z (NI _ _ Z) hK)) (ai [(58,_)] ⟨.inr ⟨0,_,Z,Z,Z⟩,trivial⟩ (λ sl NI K hK=>ah Z (bE Z Z Z (NI _ _ Z) hK)) (ai [(58,_)] ⟨.inr ⟨0,_,Z,Z,Z⟩,trivial⟩ (λ sl NI K hK=>ah Z (bE Z Z Z (NI _ _ Z) hK)) (ak Z ap)))) (ar (λ _=>.ptr 1000001 1) Z Z Z (fh Z Z Z Y) (lt3 Z Z Z) (ak Z (ak Z (ai [(73,_)] ⟨.inr ⟨16,_,Z,Z,Z⟩,trivial⟩ (λ sl NI K hK=>ah Z (aI Z Z Z Z Z Z Z Z (NI _ _ Z) hK)) (ak Z ap)))) (dI [(71,_),(74,_)] Z ⟨.inr ⟨13,_,Z,Z,Z⟩,.inr ⟨17,_,Z,Z,Z⟩,trivial⟩ Z (λ sl NI K hK=>ah Z (fe Z Z Z (NI _ _ Z) (NI _ _ Z) Z Z Z (ld Z) hK)) (y7 Z ⟨Z,Z,Z,Z,Z,trivial⟩ ⟨⟨Z,Z,.inr Z⟩,⟨⟨Z,Z,.inr Z⟩,⟨⟨Z,Z,.inr Z⟩,⟨⟨Z,Z,.inr Z⟩,⟨⟨Z,Z,.inr Z⟩,⟨⟨Z,Z,.inr Z⟩,⟨⟨Z,Z,.inr Z⟩,⟨⟨Z,Z,.inr Z⟩,⟨⟨Z,Z,.inr Z⟩,⟨⟨Z,Z,.inr Z⟩,⟨⟨Z,Z,.inr Z⟩,⟨⟨Z,Z,.inr Z⟩,⟨⟨Z,Z,.inr Z⟩,⟨⟨Z,Z,.inr Z⟩,⟨⟨Z,Z,.inr Z⟩,⟨⟨Z,Z,.inr Z⟩,⟨⟨Z,Z,.inr Z⟩,trivial⟩⟩⟩⟩⟩⟩⟩⟩⟩⟩⟩⟩⟩⟩⟩⟩⟩)))))))))))))))))))) ?_);refine mG (cG (t:=⟨[],[(1000000,[.p (eL az Om.2.fl),.p (eI (Om.2.fat+1)),.p (eI Om.2.AI.Ar),.p (eI Om.2.AI.fAt),.p (eS Om.2.AI.AT)]),(1000001,[.vec 900000 13 0 (NU.By.map ao),.vec 71 5 0 ((NU.A'++[(aB.mk name_2.BY r1.1 Oq.1 name_2.fAt)]).map aD)])]⟩) (jv trivial ⟨⟨_,Z,⟨sr,sr,sr,sr,sr,trivial⟩⟩,⟨_,Z,⟨sr,AV.sub_of_eq (by first|(simp only [List.map_append,dg,th,aB.Mr]; done)|(simp only [List.map_append,dg,th,aB.Mr]; rfl)),trivial⟩⟩,trivial⟩)) (nx 6 Z ?_);exact mQo (oi h0) (aU (bn 900000 800000 Z Z Z Z Z) (aU (bn 71 800001 Z Z Z Z Z) (aJ _))) Z Z Z Z (sr) ⟨⟨_,Z,⟨sr,sr,sr,sr,sr,trivial⟩⟩,⟨_,Z,⟨sr,sr,trivial⟩⟩,trivial⟩
theorem pH (n:Nat):∀ (NL:aj) (NM:Int) (r:aH×Bool×aj),eW n NL NM=some r->aS Tryz.prog 27 [.ptr 1000000 0,.p (eI NM)] [(1000000,[.p (eL az NL.fl),.p (eI NL.fat),.p (eI NL.AI.Ar),.p (eI NL.AI.fAt),.p (eS NL.AI.AT)])] (λ x y=>x=.tuple [.p (.agg (aH.cs r.1)),.p (eB r.2.1)]/\y=[(1000000,[.p (eL az r.2.2.fl),.p (eI r.2.2.fat),.p (eI r.2.2.AI.Ar),.p (eI r.2.2.AI.fAt),.p (eS r.2.2.AI.AT)])]):=(pf n).1
def jf (n:Nat)(NN:Bk):Option (aH×au) :=(kO n NN).bind λ r1=>if r1.2.Ar=0 then(eW n (aj.mk r1.1 0 (au.mk 0 0 ([]:Bk))) 0).bind λ r4=>((if r4.2.1=true then(cI r4.2.2).bind λ r7=>some (!decide (r7.1.Ar=6),r7.2.fl,r7.2.fat,r7.2.AI.Ar,r7.2.AI.fAt,r7.2.AI.AT)else some (false,r4.2.2.fl,r4.2.2.fat,r4.2.2.AI.Ar,r4.2.2.AI.fAt,r4.2.2.AI.AT) : Option (Bool×(List ac)×Int×Int×Int×Bk)).bind λ Sw=>if Sw.1=true then(dy (aj.mk Sw.2.1 Sw.2.2.1 (au.mk Sw.2.2.2.1 Sw.2.2.2.2.1 Sw.2.2.2.2.2))).bind λ Pq=>some (Pq.1,Pq.2.fl,Pq.2.fat,Pq.2.AI.Ar,Pq.2.AI.fAt,Pq.2.AI.AT)else some (r4.2.1,Sw.2.1,Sw.2.2.1,Sw.2.2.2.1,Sw.2.2.2.2.1,Sw.2.2.2.2.2) : Option (Bool×(List ac)×Int×Int×Int×Bk)).bind λ TG=>if (!TG.1)=true then some ((aH.mk [] []),(au.mk TG.2.2.2.1 TG.2.2.2.2.1 TG.2.2.2.2.2))else some (r4.1,(au.mk 0 0 ([]:Bk)))else some ((aH.mk [] []),r1.2)
theorem lf (n:Nat)(NN:Bk)(r:aH×au)(h0:jf n NN=some r):aK Tryz.prog 10 [eS NN] (·=.tuple [.p (.agg (aH.cs r.1)),.p (.agg (au.cs r.2))]):=by
 unfold jf at h0;refine bV good Tryz.func10 Z Z Z λ w0=>mP (λ v:aH×au=>.tuple [.p (.agg (aH.cs v.1)),.p (.agg (au.cs v.2))]) ?_;refine nx 8 Z (bd h0 λ r1 e2 h0=>?_);refine oK (qL _ NN _ e2) Z ⟨sr,trivial⟩ Tryz.call26 Z (nx 14 Z ?_);refine fN [16] h0 Z (λ c3 h0=>?_) λ c3 h0=>?_
 ·refine nx 12 Z (bd h0 λ r4 e5 h0=>?_);refine mO Z (aN [21] [] 101000 101000 (pH _ (aj.mk r1.1 0 (au.mk 0 0 ([]:Bk))) 0 _ e5) Z Z Z Z Z ⟨sr,sr,trivial⟩ Z Z ⟨⟨_,Z,⟨sr,sr,sr,sr,sr,trivial⟩⟩,trivial⟩ Z Z Z Z Z Z Z Z Tryz.call27 Z Z ?_);refine nx 8 Z (bd h0 λ PC h1 h0=>?_);refine kN PC (λ R5=>⟨[(2,.ptr 2 0),(3,.ptr 3 0),(6,.ptr 21 0),(7,.ptr 7 0),(8,.p (eB R5.1))],[(2,[.p (.val (.slice none 0 0)),.p (.val (.slice none 0 0))]),(3,[.p (eI 0),.p (eI 0),.p (eS ([]:Bk))]),(7,(aH.cs r4.1).map .p),(21,[.p (eL az R5.2.1),.p (eI R5.2.2.1),.p (eI R5.2.2.2.1),.p (eI R5.2.2.2.2.1),.p (eS R5.2.2.2.2.2)])]⟩) ?_ ?_
  ·refine nx 7 Z (fB [37] h0 Z (λ Ru h0=>?_) λ Ru h0=>?_)
   ·refine nx 2 Z (mG (gE (t:=⟨[(2,.ptr 2 0),(3,.ptr 3 0),(6,.ptr 21 0)],[(2,[.p (.val (.slice none 0 0)),.p (.val (.slice none 0 0))]),(3,[.p (eI 0),.p (eI 0),.p (eS ([]:Bk))]),(21,[.p (eL az PC.2.1),.p (eI PC.2.2.1),.p (eI PC.2.2.2.1),.p (eI PC.2.2.2.2.1),.p (eS PC.2.2.2.2.2)])]⟩) Z Z) ?_);refine mS ⟨2,[5,6],(λ _=>.none),(λ _=>[(2,.ptr 2 0),(3,.ptr 3 0),(6,.ptr 21 0)]),(by3 ([(2,[.p (.val (.slice none 0 0)),.p (.val (.slice none 0 0))]),(3,[.p (eI 0),.p (eI 0),.p (eS ([]:Bk))]),(21,[.p (eL az PC.2.1),.p (eI PC.2.2.1),.p (eI PC.2.2.2.1),.p (eI PC.2.2.2.2.1),.p (eS PC.2.2.2.2.2)])]) ([(2,[.p (.val (.slice none 0 0)),.p (.val (.slice none 0 0))]),(2,[.p (.val (.slice none 0 0)),.p (.val (.slice none 0 0))]),(3,[.p (eI 0),.p (eI 0),.p (eS ([]:Bk))]),(21,[.p (eL az PC.2.1),.p (eI PC.2.2.1),.p (eI PC.2.2.2.1),.p (eI PC.2.2.2.2.1),.p (eS PC.2.2.2.2.2)])]) ([(3,[.p (eI PC.2.2.2.1),.p (eI PC.2.2.2.2.1),.p (eS PC.2.2.2.2.2)]),(2,[.p (.val (.slice none 0 0)),.p (.val (.slice none 0 0))]),(2,[.p (.val (.slice none 0 0)),.p (.val (.slice none 0 0))]),(3,[.p (eI 0),.p (eI 0),.p (eS ([]:Bk))]),(21,[.p (eL az PC.2.1),.p (eI PC.2.2.1),.p (eI PC.2.2.2.1),.p (eI PC.2.2.2.2.1),.p (eS PC.2.2.2.2.2)])]))⟩ Z Z Z ⟨Z,Z,Z,trivial⟩ (lt2 ⟨Z,Z,Z,trivial⟩ ⟨Z,Z,Z,trivial⟩) Z Z Z Z (ar (λ _=>.p (.agg [.val (.slice none 0 0),.val (.slice none 0 0)])) Z Z Z (cM Z Z Y) (lt2 Z Z) (ak Z (ak Z (ai [] trivial (λ sl NI K hK=>ah Z (gV Z Z Z Z Z Z nX Z Z hK)) ap))) ?_);refine ar (λ _=>.ptr 21 0) Z Z Z (cM Z Z Y) (lt2 Z Z) (ak Z (ai [(6,_)] ⟨.inl Z,trivial⟩ (λ sl NI K hK=>ah Z (b6 Z Z Z (NI _ _ Z) hK)) (ai [(6,_)] ⟨.inl Z,trivial⟩ (λ sl NI K hK=>ah Z (b6 Z Z Z (NI _ _ Z) hK)) ap))) (ar (λ _=>.ptr 21 0) Z Z Z (cM Z Z Y) (lt2 Z Z) (ak Z (ai [(39,_)] ⟨.inr ⟨1,_,Z,Z,Z⟩,trivial⟩ (λ sl NI K hK=>ah Z (bE Z Z Z (NI _ _ Z) hK)) (ai [(39,_)] ⟨.inr ⟨1,_,Z,Z,Z⟩,trivial⟩ (λ sl NI K hK=>ah Z (bE Z Z Z (NI _ _ Z) hK)) ap))) ?_);refine ar (λ _=>.ptr 21 2) Z Z Z (cM Z Z Y) (lt2 Z Z) (ak Z (ai [(40,_)] ⟨.inr ⟨2,_,Z,Z,Z⟩,trivial⟩ (λ sl NI K hK=>ah Z (aI Z Z Z Z Z Z Z Z (NI _ _ Z) hK)) (ai [(40,_)] ⟨.inr ⟨2,_,Z,Z,Z⟩,trivial⟩ (λ sl NI K hK=>ah Z (aI Z Z Z Z Z Z Z Z (NI _ _ Z) hK)) ap))) (ar (λ _=>.p (.agg [eI PC.2.2.2.1,eI PC.2.2.2.2.1,eS PC.2.2.2.2.2])) Z Z Z (cM Z Z Y) (lt2 Z Z) (ak Z (ai [(41,_)] ⟨.inr ⟨3,_,Z,Z,Z⟩,trivial⟩ (λ sl NI K hK=>ah Z (eH Z Z Z Z Z (NI _ _ Z) Z Z Z hK)) (ai [(41,_)] ⟨.inr ⟨3,_,Z,Z,Z⟩,trivial⟩ (λ sl NI K hK=>ah Z (eH Z Z Z Z Z (NI _ _ Z) Z Z Z hK)) ap))) ?_);refine dI [(2,_),(38,_)] Z ⟨.inl Z,.inr ⟨0,_,Z,Z,Z⟩,trivial⟩ Z (λ sl NI K hK=>ah Z (fe Z Z Z (NI _ _ Z) (NI _ _ Z) Z Z Z (ld Z) hK)) (dI [(3,_),(42,_)] Z ⟨.inl Z,.inr ⟨4,_,Z,Z,Z⟩,trivial⟩ Z (λ sl NI K hK=>ah Z (fe Z Z Z (NI _ _ Z) (NI _ _ Z) Z Z Z (ld Z) hK)) ?_);refine cV (nx 2 Z ?_);exact mQ (oi h0) Z (cb ⟨dW ⟨.inr ⟨Z,Z⟩,.inr ⟨Z,Z⟩,trivial⟩,sr,trivial⟩)
   exact nx 10 Z sJ
  refine nx 1 Z (bd h1 λ QB h2 h1=>?_);refine kN QB (λ PS=>⟨[(2,.ptr 2 0),(3,.ptr 3 0),(6,.ptr 21 0),(7,.ptr 7 0),(8,.p (eB r4.2.1)),(33,.p (eB PS.1))],[(2,[.p (.val (.slice none 0 0)),.p (.val (.slice none 0 0))]),(3,[.p (eI 0),.p (eI 0),.p (eS ([]:Bk))]),(7,(aH.cs r4.1).map .p),(21,[.p (eL az PS.2.1),.p (eI PS.2.2.1),.p (eI PS.2.2.2.1),.p (eI PS.2.2.2.2.1),.p (eS PS.2.2.2.2.2)])]⟩) ?_ ?_
  ·refine nx 1 Z (fB [33] h1 Z (λ QQ h1=>?_) λ QQ h1=>?_)
   ·refine nx 3 Z (bd h1 λ Pq Rh h1=>?_);refine mO Z (aN [21] [] 103000 103000 (fH (aj.mk QB.2.1 QB.2.2.1 (au.mk QB.2.2.2.1 QB.2.2.2.2.1 QB.2.2.2.2.2)) _ Rh) Z Z Z Z Z ⟨sr,trivial⟩ Z Z ⟨⟨_,Z,⟨sr,sr,sr,sr,sr,trivial⟩⟩,trivial⟩ Z Z Z Z Z Z Z Z Tryz.call29 Z Z ?_);exact cZ
   exact cZ
  refine nx 3 Z (fB [8,26,27,28] h2 Z (λ c6 h2=>?_) λ c6 h2=>?_)
  ·refine nx 1 Z (bd h2 λ r7 e8 h2=>?_);refine mO Z (aN [21] [] 102000 102000 (dk r4.2.2 _ e8) Z Z Z Z Z ⟨sr,trivial⟩ Z Z ⟨⟨_,Z,⟨sr,sr,sr,sr,sr,trivial⟩⟩,trivial⟩ Z Z Z Z Z Z Z Z Tryz.call28 Z Z ?_);exact nx 4 Z IU
  exact nx 6 Z IU
 refine nx 2 Z (mG (gE (t:=⟨[(2,.ptr 2 0),(3,.ptr 3 0),(5,.ptr 5 0)],[(2,[.p (.val (.slice none 0 0)),.p (.val (.slice none 0 0))]),(3,[.p (eI 0),.p (eI 0),.p (eS ([]:Bk))]),(5,(au.cs r1.2).map .p)]⟩) Z Z) ?_);refine mS ⟨2,[2,3],(λ _=>.none),(λ _=>[(2,.ptr 2 0),(3,.ptr 3 0),(5,.ptr 5 0)]),(by3 ([(2,[.p (.val (.slice none 0 0)),.p (.val (.slice none 0 0))]),(3,[.p (eI 0),.p (eI 0),.p (eS ([]:Bk))]),(5,[.p (eI r1.2.Ar),.p (eI r1.2.fAt),.p (eS r1.2.AT)])]) ([(2,[.p (.val (.slice none 0 0)),.p (.val (.slice none 0 0))]),(2,[.p (.val (.slice none 0 0)),.p (.val (.slice none 0 0))]),(3,[.p (eI 0),.p (eI 0),.p (eS ([]:Bk))]),(5,[.p (eI r1.2.Ar),.p (eI r1.2.fAt),.p (eS r1.2.AT)])]) ([(3,[.p (eI r1.2.Ar),.p (eI r1.2.fAt),.p (eS r1.2.AT)]),(2,[.p (.val (.slice none 0 0)),.p (.val (.slice none 0 0))]),(2,[.p (.val (.slice none 0 0)),.p (.val (.slice none 0 0))]),(3,[.p (eI 0),.p (eI 0),.p (eS ([]:Bk))]),(5,[.p (eI r1.2.Ar),.p (eI r1.2.fAt),.p (eS r1.2.AT)])]))⟩ Z Z Z ⟨Z,Z,Z,trivial⟩ (lt2 ⟨Z,Z,Z,trivial⟩ ⟨Z,Z,Z,trivial⟩) Z Z Z Z (ar (λ _=>.p (.agg [.val (.slice none 0 0),.val (.slice none 0 0)])) Z Z Z (cM Z Z Y) (lt2 Z Z) (ak Z (ak Z (ai [] trivial (λ sl NI K hK=>ah Z (gV Z Z Z Z Z Z nX Z Z hK)) ap))) ?_);refine ar (λ _=>.p (.agg (au.cs r1.2))) Z Z Z (cM Z Z Y) (lt2 Z Z) (ak Z (ai [(5,_)] ⟨.inl Z,trivial⟩ (λ sl NI K hK=>ah Z (eH Z Z Z Z Z (NI _ _ Z) Z Z Z hK)) (ai [(5,_)] ⟨.inl Z,trivial⟩ (λ sl NI K hK=>ah Z (eH Z Z Z Z Z (NI _ _ Z) Z Z Z hK)) ap))) (dI [(2,_),(17,_)] Z ⟨.inl Z,.inr ⟨0,_,Z,Z,Z⟩,trivial⟩ Z (λ sl NI K hK=>ah Z (fe Z Z Z (NI _ _ Z) (NI _ _ Z) Z Z Z (ld Z) hK)) ?_);refine dI [(3,_),(18,_)] Z ⟨.inl Z,.inr ⟨1,_,Z,Z,Z⟩,trivial⟩ Z (λ sl NI K hK=>ah Z (fe Z Z Z (NI _ _ Z) (NI _ _ Z) Z Z Z (ld Z) hK)) (cV ?_);exact nx 2 Z (mQ (oi h0) Z (cb ⟨dW ⟨.inr ⟨Z,Z⟩,.inr ⟨Z,Z⟩,trivial⟩,sr,trivial⟩))
end Go.Ab.R06
end
