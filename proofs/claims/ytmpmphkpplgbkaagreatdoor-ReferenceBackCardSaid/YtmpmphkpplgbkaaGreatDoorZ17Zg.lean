/- Texts of the proof, one behind the other. No statement is proved here. -/
import Derived.Test.YtmpmphkpplgbkaaGreatDoorCards
import Derived.Test.YtmpmphkpplgbkaaGreatDoorTie
import Derived.WalkKit
import Derived.SizedLaws
import Derived.ProofKit
import Derived.OpenShut
import Derived.ShutString
import Derived.LaidMore
import Derived.Stop.Joined
import Derived.Deep.DeepHandedRow
import Derived.Deep.DeepWitnessRowRef
import Derived.Test.YtmpmphkpplgbkaaGreatDoorZ17Za
import Derived.Test.YtmpmphkpplgbkaaGreatDoorZ17Zb
import Derived.Test.YtmpmphkpplgbkaaGreatDoorZ17Zc
import Derived.Test.YtmpmphkpplgbkaaGreatDoorZ17Zd
import Derived.Test.YtmpmphkpplgbkaaGreatDoorZ17Ze
import Derived.Test.YtmpmphkpplgbkaaGreatDoorZ17Zf
set_option maxHeartbeats 4000000
section
namespace Go.Ab.R06
open Go.Ab Go.Ab.RB Go.Lib
theorem fc {L:List af}{base:Int}(hL:Gd (L.map (mvT base)))(H0:L.length<=1000000000){i:Nat}{HZ:Int}{b:Bool}{l:List af}(s:Bytes){q:PE⊕(Unit×List af)}(h0:0<=HZ)(hb:b=decide (0 < HZ))(h:Pos L base i (HZ+1) true l)(hq:iO true s l=some q) :
  Ev2 (λ n _=>bR n (.mk L (i:Int) (HZ+1) base dOk) s) (Eo L base HZ b q):=by subst hb; exact Dl hL H0 s h0 h hq
theorem gp {L:List af}{base:Int}(hL:Gd (L.map (mvT base)))(H0:L.length<=1000000000){i:Nat}{HZ:Int}{b:Bool}{l:List af}{e:PE}(s:Bytes)(he:e.1≠0)(h0:0<=HZ)(hb:b=decide (0 < HZ))(h:Pos L base i (HZ+1) true l) :
  Ev2 (λ n _=>bR n (.mk L (i:Int) (HZ+1) base (eD e)) s) (λ z=>∃ (j:Nat) (l':List af),z=.mk L (j:Int) HZ base (eD e)/\Pos L base j HZ b l'):=by subst hb; exact Fz hL H0 s he h0 h
theorem sg6 {b:Bool}{l:List af}{s:Bytes}(h:sgB b l s=true):(hd b l).Ar≠6:=by have:=(qF.1 h).1; omega
theorem wd6 {b:Bool}{l:List af}{s:Bytes}(h:wdB b l s=true):(hd b l).Ar≠6:=by have:=(wy.1 h).1; omega
theorem AU (e:ab):ab.mk e.Ar e.fOp e.AI e.E' (ah.mk e.A'.Ar e.A'.F' e.A'.HT e.A'.HQ e.A'.D') e.By e.fAt=e:=by
 obtain ⟨k,op,nm,key,⟨vk,vn,vs,vi,vks⟩,kids,at'⟩:=e; rfl
def Fl {α:Type}(F:Nat->ae->Option (α×ae))(b:Bool)(l:List af)(x:PR α):Prop :=
 ∀ (L:List af) (base:Int),Gd (L.map (mvT base))->L.length<=1000000000->∀ (i:Nat) (HZ:Int) (q:PE⊕(α×List af)),Pos L base i HZ b l->x=some q->Ev2 (λ n _=>F n (.mk L (i:Int) HZ base dOk)) (Out L base HZ b q)
def FlC {α:Type}(F:Nat->ae->Option (α×ae))(l:List af)(x:PR α):Prop :=
 ∀ (L:List af) (base:Int),Gd (L.map (mvT base))->L.length<=1000000000->∀ (i:Nat) (HZ:Int) (b:Bool) (q:PE⊕(α×List af)),0<=HZ->b=decide (0 < HZ)->Pos L base i (HZ+1) true l->x=some q->Ev2 (λ n _=>F n (.mk L (i:Int) (HZ+1) base dOk)) (Out L base HZ b q)
def E3 (L:List af)(base HZ:Int)(en:Bytes)(out:List ab)(q:PE⊕(List ab×List af))(r:List ab×List af×Int×Int×Int×Int×Int×Bytes):Prop:=match q with
 | .inl e=>e.1≠0/\∃ (j:Nat) (l':List af),((r.2=(L,(j:Int),HZ,base,e.1,e.2,[])/\Pos L base j HZ true l')\/(r.2=(L,(j:Int),HZ,base,0,0,[])/\Pos L base j HZ true l'/\iO true en l'=some (.inl e)))
 | .inr (ks,l')=>∃ (j:Nat) (l'':List af),r=(out++ks,L,(j:Int),HZ,base,0,0,[])/\Pos L base j HZ true l''/\iO true en l''=some (.inr ((),l'))
def RdO (s:Bytes)(a:Int)(q:PE⊕(Int×Int×Bytes×List ab×Bool))(r:(Bytes×Int×Int×Int×Bytes×(List ab)×Bool)⊕(ap×al)):Prop:=match q with
 | .inl e=>e.1≠0/\∃ t,r=.inr (eD e,t)
 | .inr (frm,pos,text,parts,IX)=>∃ (i fr:Nat),frm=a+(fr:Int)/\pos=a+(i:Int)/\fr<=i/\i<=s.length/\parts.length<=2*i/\r=.inl (s,a,(i:Int),(fr:Int),text,parts,IX)
def WOut (q:PE⊕ab)(r:ab×ap):Prop:=match q with
 | .inl e=>e.1≠0/\r.2=eD e
 | .inr x=>r=(x,dOk)
structure Fol (f:Nat):Prop where
 e:∀ b l,Fl aF b l (iJ f b l)
 b:∀ (Iy:Nat) (li:Int) b l,li=Iy->Iy<=6->Fl (λ n p=>bw n p li) b l (q9 f Iy b l)
 bl:∀ (Iy:Nat) (li:Int) b l (x:ab) (r5:ab×ae),li=Iy->Iy<=5->x.fAt=r5.1.fAt->∀ (L:List af) (base:Int),Gd (L.map (mvT base))->L.length<=1000000000->∀ (i:Nat) (HZ:Int) (q:PE⊕(ab×List af)),Pos L base i HZ b l->sO f Iy b x l=some q ->
  Ev2 (λ n m=>cj n (bw n) li r5 m x.Ar x.fOp x.AI x.E' x.A'.Ar x.A'.F' x.A'.HT x.A'.HQ x.A'.D' x.By L (i:Int) HZ base 0 0 []) (λ s=>∃ z,s=.inr z/\Out L base HZ b q z)
 u:∀ b l,Fl du b l (unS f b l)
 pl:∀ b l (x:ab) (r1:ab×ae),x.fAt=r1.1.fAt->∀ (L:List af) (base:Int),Gd (L.map (mvT base))->L.length<=1000000000->∀ (i:Nat) (HZ:Int) (q:PE⊕(ab×List af)),Pos L base i HZ b l->nq f b x l=some q ->
  Ev2 (λ n m=>bY n (aF n) r1 m x.Ar x.fOp x.AI x.E' x.A'.Ar x.A'.F' x.A'.HT x.A'.HQ x.A'.D' x.By L (i:Int) HZ base 0 0 []) (λ s=>∃ z,s=.inr z/\Out L base HZ b q z)
 p:∀ b l,Fl dj b l (pB f b l)
 s:∀ b l,(hd b l).Ar=3->Fl eQ b l (wY f b l)
 n:∀ b l,(hd b l).Ar=1->Fl fH b l (qI f b l)
 i:∀ (en:Bytes) (l:List af) (out:List ab),Gd l->out.length+l.length<=1000000000->∀ (L:List af) (base:Int),Gd (L.map (mvT base))->L.length<=1000000000->∀ (i:Nat) (HZ:Int) (q:PE⊕(List ab×List af)),Pos L base i HZ true l->mt f en l=some q ->
  Ev2 (λ n m=>de n (aF n) en m out L (i:Int) HZ base 0 0 []) (E3 L base HZ en out q)
 t:∀ (l:List af) (out:List ab),Gl l->out.length+2*l.length<=3000000000->∀ (L:List af) (base:Int),Gd (L.map (mvT base))->L.length<=1000000000->∀ (i:Nat) (HZ:Int) (q:PE⊕(List ab×List af)),Pos L base i HZ true l->vg f l=some q ->
  Ev2 (λ n m=>cI n (aF n) (dA n) m out L (i:Int) HZ base 0 0 []) (E3 L base HZ [125] out q)
 k:∀ l,Fl dA true l (si f l)
 lo:∀ (a k:Int) l,wdB true l [102,111,114]=true->k=12\/k=13->FlC (λ n p=>eH n p a k) l (rf f a k (tl true l))
 tm:∀ (s:Bytes) (a:Int) q,0<=a->a+(s.length:Int)<=1000000000->qj f s a=some q->Ev2 (λ n _=>ir n s a) (·=GU q)
 r:∀ (s:Bytes) (a:Int) (i fr:Nat) (text:Bytes) (parts:List ab) (IX:Bool) q,0<=a->a+(s.length:Int)<=1000000000->i<=s.length->fr<=i->text.length<=4096->parts.length<=2*i->lh f (a+(fr:Int)) (a+(i:Int)) text parts IX (s.drop i)=some q ->
  Ev2 (λ n m=>cb n (aR n) m s a (i:Int) (fr:Int) text parts IX) (RdO s a q)
 w:∀ (s:Bytes) (a:Int) q,0<=a->a+(s.length:Int)<=1000000000->lK f s a=some q->Ev2 (λ n _=>hQ n s a) (WOut q)
theorem Hu {f:Nat}(ih:Fol f):∀ b l,Fl aF b l (iJ (f+1) b l):=by
 intro b l L base hL H0 i HZ q h hq;rw [iJ] at hq;refine cJ ?_;simp only [aF];rcases bW hq with ⟨e,hx,rfl⟩ | ⟨c,l1,hx,hq⟩
 ·
  refine ag _ (ih.b 0 0 b l rfl (by decide) L base hL H0 i HZ _ h hx) ?_;rintro ⟨z1,z2⟩ ⟨he,j,l',h2,h3⟩
  cases h2
  refine ag _ (kz hL H0 _ he h3) ?_;rintro _ ⟨j,rfl,h3⟩;exact am rfl (aa ⟨he,j,l',rfl,h3⟩)
 ·
  refine ag _ (ih.b 0 0 b l rfl (by decide) L base hL H0 i HZ _ h hx) ?_;rintro ⟨z1,z2⟩ ⟨h1,j,h2,h3⟩;replace h1:z1=_:=h1; subst h1; cases h2;refine ag _ (fZ hL H0 _ h3) ?_;rintro ⟨z1,z2⟩ ⟨h1,j,h2,h3⟩;replace h1:z1=_:=h1; subst h1; cases h2;by_cases hs:sgB b l1 [63]=true
  ·
   rw [if_pos hs] at hq;refine ak (by simp [hs]) ?_;refine ag _ (eh hL H0 h3 (sg6 hs)) ?_;rintro ⟨z1,z2⟩ ⟨h1,j,h2,h3,h4,h5⟩;replace h1:z1=_:=h1; subst h1; cases h2;rcases bW hq with ⟨e,hx,rfl⟩ | ⟨a,l2,hx,hq⟩
   ·
    refine ag _ (ih.e b _ L base hL H0 j HZ _ h3 hx) ?_;rintro ⟨z1,z2⟩ ⟨he,j,l',h2,h3⟩
    cases h2
    refine ag _ (kA hL H0 _ he h3) ?_;rintro _ ⟨j,l',rfl,h3⟩;refine ag _ (ic hL H0 he h3) ?_;rintro ⟨z1,z2⟩ ⟨j,l',h2,h3⟩
    cases h2
    exact aa ⟨he,j,l',Z,h3⟩
   ·
    refine ag _ (ih.e b _ L base hL H0 j HZ _ h3 hx) ?_;rintro ⟨z1,z2⟩ ⟨h1,j,h2,h3⟩;replace h1:z1=_:=h1; subst h1; cases h2;rcases bW hq with ⟨e,hx,rfl⟩ | ⟨u,l3,hx,hq⟩
    ·
     refine ag _ (kW hL H0 _ h3 hx) ?_;rintro _ ⟨he,j,l',rfl,h3⟩;refine ag _ (ic hL H0 he h3) ?_;rintro ⟨z1,z2⟩ ⟨j,l',h2,h3⟩
     cases h2
     exact aa ⟨he,j,l',Z,h3⟩
    ·
     refine ag _ (kW hL H0 _ h3 hx) ?_;rintro _ ⟨j,rfl,h3,h4⟩;rcases bW hq with ⟨e,hx,rfl⟩ | ⟨d,l4,hx,hq⟩
     ·
      refine ag _ (ih.e b _ L base hL H0 j HZ _ h3 hx) ?_;rintro ⟨z1,z2⟩ ⟨he,j,l',h2,h3⟩
      cases h2
      exact aa ⟨he,j,l',Z,h3⟩
     ·
      refine ag _ (ih.e b _ L base hL H0 j HZ _ h3 hx) ?_;rintro ⟨z1,z2⟩ ⟨h1,j,h2,h3⟩;replace h1:z1=_:=h1; subst h1; cases h2
      cases hq
      exact aa ⟨Z,j,Z,h3⟩
  ·
   rw [if_neg hs] at hq; cases hq;exact am (by simpa using hs) (aa ⟨rfl,j,rfl,h3⟩)
theorem HP {f:Nat}(ih:Fol f):∀ (Iy:Nat) (li:Int) b l,li=Iy->Iy<=6->Fl (λ n p=>bw n p li) b l (q9 (f+1) Iy b l):=by
 intro Iy li b l OM h6 L base hL H0 i HZ q h hq;rw [q9] at hq;refine cJ ?_;simp only [bw];by_cases hv:5 < Iy
 ·
  rw [if_pos hv] at hq;refine am O ?_;refine ag _ (ih.u b l L base hL H0 i HZ _ h hq) ?_;rintro ⟨z1,z2⟩ hz;exact aa hz
 ·
  rw [if_neg hv] at hq;refine ak O (aw (aK O O) ?_);rcases bW hq with ⟨e,hx,rfl⟩ | ⟨c,l1,hx,hq⟩
  ·
   refine ag _ (ih.b (Iy+1) (li+1) b l O O  L base hL H0 i HZ _ h hx) ?_;rintro ⟨z1,z2⟩ ⟨he,j,l',h2,h3⟩
   cases h2
   subst OM;refine eC (b7 (bU (rt hL H0 he h3 O (z1,.mk L (j:Int) HZ base (eD e)) _ _ _ _ _ _ _ _ _ _)) ?_);rintro _ ⟨z,rfl,j,l',hz1,hz2⟩;exact ⟨he,j,l',hz1,hz2⟩
  ·
   refine ag _ (ih.b (Iy+1) (li+1) b l O O  L base hL H0 i HZ _ h hx) ?_;rintro ⟨z1,z2⟩ ⟨h1,j,h2,h3⟩;replace h1:z1=_:=h1; subst h1; cases h2;refine eC (b7 (bU (ih.bl Iy li b _ _ (_,.mk L (j:Int) HZ base dOk) OM O rfl L base hL H0 j HZ q h3 hq)) ?_);rintro _ ⟨z,rfl,hz⟩;exact hz
theorem GA {f:Nat}(ih:Fol f):∀ (Iy:Nat) (li:Int) b l (x:ab) (r5:ab×ae),li=Iy->Iy<=5->x.fAt=r5.1.fAt->∀ (L:List af) (base:Int),Gd (L.map (mvT base))->L.length<=1000000000->∀ (i:Nat) (HZ:Int) (q:PE⊕(ab×List af)),Pos L base i HZ b l->sO (f+1) Iy b x l=some q ->
  Ev2 (λ n m=>cj n (bw n) li r5 m x.Ar x.fOp x.AI x.E' x.A'.Ar x.A'.F' x.A'.HT x.A'.HQ x.A'.D' x.By L (i:Int) HZ base 0 0 []) (λ s=>∃ z,s=.inr z/\Out L base HZ b q z):=by
 intro Iy li b l x r5 OM hl5 IT L base hL H0 i HZ q h hq;rw [sO] at hq;refine aY ?_;simp only [cj];subst OM;refine ao _ (ar (yq hl5) rfl) ?_;have ha:=Cj hL H0 ((u7 Iy).map (·.1)) AB h;rw [CZ] at ha;have eta:ab.mk x.Ar x.fOp x.AI x.E' (ah.mk x.A'.Ar x.A'.F' x.A'.HT x.A'.HQ x.A'.D') x.By r5.1.fAt=x:=by rw [<- IT]; exact AU x
 rw [eta]
 cases hp:x9 b l Iy with
 | none =>
  rw [hp] at ha hq
  cases hq
  refine ag _ ha ?_;rintro _ ⟨j,rfl,h3⟩;exact am rfl (aa ⟨_,rfl,rfl,j,rfl,h3⟩)
 | some p =>
  rw [hp] at ha hq;obtain ⟨hm,hs⟩:=Es hp;refine ag _ ha ?_;rintro _ ⟨j,rfl,h3⟩;refine ak qr ?_;refine ag _ (eh hL H0 h3 (sg6 hs)) ?_;rintro ⟨z1,z2⟩ ⟨h1,j,h2,h3,h4,h5⟩;replace h1:z1=_:=h1; subst h1; cases h2;refine aw (aK O O) ?_;have hq:pb (q9 f (Iy+1) b (tl b l)) (λ y l=>sO f Iy b (ab.mk 7 p.2 [] [] v0 [x,y] x.fAt) l)=some q:=hq;rcases bW hq with ⟨e,hx,rfl⟩ | ⟨y,l1,hx,hq⟩
  ·
   refine ag _ (ih.b (Iy+1) ((Iy:Int)+1) b _ O O  L base hL H0 j HZ _ h3 hx) ?_;rintro ⟨z1,z2⟩ ⟨he,j,l',h2,h3⟩
   cases h2
   refine ao _ (FL hl5 hm) ?_;refine b7 (rt hL H0 he h3 hl5 r5 _ _ _ _ _ _ _ _ _ _) ?_;rintro _ ⟨z,rfl,j,l',hz1,hz2⟩;exact ⟨z,rfl,he,j,l',hz1,hz2⟩
  ·
   refine ag _ (ih.b (Iy+1) ((Iy:Int)+1) b _ O O  L base hL H0 j HZ _ h3 hx) ?_;rintro ⟨z1,z2⟩ ⟨h1,j,h2,h3⟩;replace h1:z1=_:=h1; subst h1; cases h2;refine ao _ (FL hl5 hm) ?_;exact ih.bl Iy Iy b _ (ab.mk 7 p.2 [] [] v0 [x,_] x.fAt) r5 rfl hl5 IT L base hL H0 j HZ q h3 hq
theorem Cs {f:Nat}(ih:Fol f):∀ b l,Fl dN b l (pb (pB f b l) λ e l=>nq f b e l):=by
 intro b l L base hL H0 i HZ q h hq;refine cJ ?_;simp only [dN];rcases bW hq with ⟨e,hx,rfl⟩ | ⟨c,l1,hx,hq⟩
 ·
  refine ag _ (ih.p b l L base hL H0 i HZ _ h hx) ?_;rintro ⟨z1,z2⟩ ⟨he,j,l',h2,h3⟩
  cases h2
  refine eC (b7 (bU (oL hL H0 he h3 (z1,.mk L (j:Int) HZ base (eD e)) _ _ _ _ _ _ _ _ _ _)) ?_);rintro _ ⟨z,rfl,j,l',hz1,hz2⟩;exact ⟨he,j,l',hz1,hz2⟩
 ·
  refine ag _ (ih.p b l L base hL H0 i HZ _ h hx) ?_;rintro ⟨z1,z2⟩ ⟨h1,j,h2,h3⟩;replace h1:z1=_:=h1; subst h1; cases h2;refine eC (b7 (bU (ih.pl b _ _ (_,.mk L (j:Int) HZ base dOk) rfl L base hL H0 j HZ q h3 hq)) ?_);rintro _ ⟨z,rfl,hz⟩;exact hz
theorem Hh {f:Nat}(ih:Fol f):∀ b l,Fl du b l (unS (f+1) b l):=by
 intro b l L base hL H0 i HZ q h hq;rw [unS] at hq;refine cJ ?_;simp only [du];by_cases hs:sgB b l [33]=true
 ·
  rw [if_pos hs] at hq;refine ag (λ t=>∃ j:Nat,t=(1,L,(j:Int),HZ,base,0,0,[])/\Pos L base j HZ b l) ?_ ?_
  ·
   refine ag _ (fZ hL H0 _ h) ?_;rintro ⟨z1,z2⟩ ⟨h1,j,h2,h3⟩;replace h1:z1=_:=h1; subst h1; cases h2;exact am hs (aa ⟨j,rfl,h3⟩)
  ·
   rintro _ ⟨j,rfl,h3⟩;refine ak (show ¬ (1:Int)=0 by decide) ?_;refine ag _ (eh hL H0 h3 (sg6 hs)) ?_;rintro ⟨z1,z2⟩ ⟨h1,j,h2,h3,h4,h5⟩;replace h1:z1=_:=h1; subst h1; cases h2;rcases bW hq with ⟨e,hx,rfl⟩ | ⟨c,l1,hx,hq⟩
   ·
    refine ag _ (ih.u b _ L base hL H0 j HZ _ h3 hx) ?_;rintro ⟨z1,z2⟩ ⟨he,j,l',h2,h3⟩
    cases h2
    exact aa ⟨he,j,l',Z,h3⟩
   ·
    refine ag _ (ih.u b _ L base hL H0 j HZ _ h3 hx) ?_;rintro ⟨z1,z2⟩ ⟨h1,j,h2,h3⟩;replace h1:z1=_:=h1; subst h1; cases h2
    cases hq
    exact aa ⟨Z,j,Z,h3⟩
 rw [if_neg hs] at hq;by_cases hs2:sgB b l [45]=true
 ·
  rw [if_pos hs2] at hq;refine ag (λ t=>∃ j:Nat,t=(2,L,(j:Int),HZ,base,0,0,[])/\Pos L base j HZ b l) ?_ ?_
  ·
   refine ag _ (fZ hL H0 _ h) ?_;rintro ⟨z1,z2⟩ ⟨h1,j,h2,h3⟩;replace h1:z1=_:=h1; subst h1; cases h2;refine ak hs ?_;refine ag _ (fZ hL H0 _ h3) ?_;rintro ⟨z1,z2⟩ ⟨h1,j,h2,h3⟩;replace h1:z1=_:=h1; subst h1; cases h2;exact am hs2 (aa ⟨j,rfl,h3⟩)
  ·
   rintro _ ⟨j,rfl,h3⟩;refine ak (show ¬ (2:Int)=0 by decide) ?_;refine ag _ (eh hL H0 h3 (sg6 hs2)) ?_;rintro ⟨z1,z2⟩ ⟨h1,j,h2,h3,h4,h5⟩;replace h1:z1=_:=h1; subst h1; cases h2;rcases bW hq with ⟨e,hx,rfl⟩ | ⟨c,l1,hx,hq⟩
   ·
    refine ag _ (ih.u b _ L base hL H0 j HZ _ h3 hx) ?_;rintro ⟨z1,z2⟩ ⟨he,j,l',h2,h3⟩
    cases h2
    exact aa ⟨he,j,l',Z,h3⟩
   ·
    refine ag _ (ih.u b _ L base hL H0 j HZ _ h3 hx) ?_;rintro ⟨z1,z2⟩ ⟨h1,j,h2,h3⟩;replace h1:z1=_:=h1; subst h1; cases h2
    cases hq
    exact aa ⟨Z,j,Z,h3⟩
 rw [if_neg hs2] at hq;refine ag (λ t=>∃ j:Nat,t=(0,L,(j:Int),HZ,base,0,0,[])/\Pos L base j HZ b l) ?_ ?_
 ·
  refine ag _ (fZ hL H0 _ h) ?_;rintro ⟨z1,z2⟩ ⟨h1,j,h2,h3⟩;replace h1:z1=_:=h1; subst h1; cases h2;refine ak hs ?_;refine ag _ (fZ hL H0 _ h3) ?_;rintro ⟨z1,z2⟩ ⟨h1,j,h2,h3⟩;replace h1:z1=_:=h1; subst h1; cases h2;exact ak hs2 (aa ⟨j,rfl,h3⟩)
 ·
  rintro _ ⟨j,rfl,h3⟩;refine am rfl ?_;refine ag _ (Cs ih b l L base hL H0 j HZ _ h3 hq) ?_;rintro ⟨z1,z2⟩ hz;exact aa hz
theorem GY {f:Nat}(ih:Fol f):∀ b l (x:ab) (r1:ab×ae),x.fAt=r1.1.fAt->∀ (L:List af) (base:Int),Gd (L.map (mvT base))->L.length<=1000000000->∀ (i:Nat) (HZ:Int) (q:PE⊕(ab×List af)),Pos L base i HZ b l->nq (f+1) b x l=some q ->
  Ev2 (λ n m=>bY n (aF n) r1 m x.Ar x.fOp x.AI x.E' x.A'.Ar x.A'.F' x.A'.HT x.A'.HQ x.A'.D' x.By L (i:Int) HZ base 0 0 []) (λ s=>∃ z,s=.inr z/\Out L base HZ b q z):=by
 intro b l x r1 IT L base hL H0 i HZ q h hq;have hn:=h.2.1;have hb:=h.2.2.2.1;rw [nq] at hq;refine aY ?_;simp only [bY];have eta:ab.mk x.Ar x.fOp x.AI x.E' (ah.mk x.A'.Ar x.A'.F' x.A'.HT x.A'.HQ x.A'.D') x.By r1.1.fAt=x:=by rw [<- IT]; exact AU x
 rw [eta];refine eC ?_;refine ag _ (fZ hL H0 _ h) ?_;rintro ⟨z1,z2⟩ ⟨h1,j,h2,h3⟩;replace h1:z1=_:=h1; subst h1; cases h2;by_cases hs:sgB b l [46]=true
 ·
  rw [if_pos hs] at hq;refine am hs ?_;refine ag _ (eh hL H0 h3 (sg6 hs)) ?_;rintro ⟨z1,z2⟩ ⟨h1,j,h2,h3,h4,h5⟩;replace h1:z1=_:=h1; subst h1; cases h2;refine ag _ (fp hL H0 h3) ?_;rintro ⟨z1,z2⟩ ⟨h1,j,h2,h3,h4,h5⟩;replace h1:z1=_:=h1; subst h1; cases h2;by_cases hk:(hd b (tl b l)).Ar=1
  ·
   rw [if_pos hk] at hq;refine am hk ?_;refine ag _ (eh hL H0 h3 O) ?_;rintro ⟨z1,z2⟩ ⟨h1,j,h2,h3,h4,h5⟩;replace h1:z1=_:=h1; subst h1; cases h2;exact aa (ih.pl b _ (ab.mk 4 0 (hd b (tl b l)).Df [] v0 [x] x.fAt) r1 IT L base hL H0 j HZ q h3 hq)
  ·
   rw [if_neg hk] at hq; cases hq;refine ak hk (ao _ (ar (iQ _ _ _ _) rfl) (aa ⟨_,rfl,(by decide:(2:Int)≠0),j,_,rfl,h3⟩))
 rw [if_neg hs] at hq;refine ak hs ?_;refine ag _ (fZ hL H0 _ h3) ?_;rintro ⟨z1,z2⟩ ⟨h1,j,h2,h3⟩;replace h1:z1=_:=h1; subst h1; cases h2;by_cases hs2:sgB b l [91]=true
 ·
  rw [if_pos hs2] at hq;refine am hs2 ?_;refine ag _ (p6 hL H0 h3 (sg6 hs2)) ?_;rintro _ ⟨j,rfl,h3⟩;rcases bW hq with ⟨e,hx,rfl⟩ | ⟨y,l1,hx,hq⟩
  ·
   refine ag _ (ih.e true _ L base hL H0 j (HZ+1) _ h3 hx) ?_;rintro ⟨z1,z2⟩ ⟨he,j,l',h2,h3⟩
   cases h2
   refine ag _ (gp hL H0 _ he hn hb h3) ?_;rintro _ ⟨j,l',rfl,h3⟩;refine aa (b7 (oL hL H0 he h3 r1 _ _ _ _ _ _ _ _ _ _) ?_);rintro _ ⟨z,rfl,j,l',hz1,hz2⟩;exact ⟨z,rfl,he,j,l',hz1,hz2⟩
  ·
   refine ag _ (ih.e true _ L base hL H0 j (HZ+1) _ h3 hx) ?_;rintro ⟨z1,z2⟩ ⟨h1,j,h2,h3⟩;replace h1:z1=_:=h1; subst h1; cases h2;rcases bW hq with ⟨e,hx,rfl⟩ | ⟨u,l2,hx,hq⟩
   ·
    refine ag _ (fc hL H0 _ hn hb h3 hx) ?_;rintro _ ⟨he,j,l',rfl,h3⟩;refine aa (b7 (oL hL H0 he h3 r1 _ _ _ _ _ _ _ _ _ _) ?_);rintro _ ⟨z,rfl,j,l',hz1,hz2⟩;exact ⟨z,rfl,he,j,l',hz1,hz2⟩
   ·
    refine ag _ (fc hL H0 _ hn hb h3 hx) ?_;rintro _ ⟨j,rfl,h3,h4⟩;exact aa (ih.pl b _ (ab.mk 5 0 [] [] v0 [x,_] x.fAt) r1 IT L base hL H0 j HZ q h3 hq)
 ·
  rw [if_neg hs2] at hq; cases hq;exact ak hs2 (aa ⟨_,rfl,rfl,j,rfl,h3⟩)
theorem Pos.gl {L:List af}{base:Int}(hL:Gd (L.map (mvT base)))(H0:L.length<=1000000000){i:Nat}{HZ:Int}{b:Bool}{l:List af}(h:Pos L base i HZ b l)(hk:(hd b l).Ar≠6):Gl (tl b l):=by
 refine ⟨BZ (h.gd hL) hk,?_⟩;have h1:=congrArg List.length (tS (h.gd hL));have h2:=congrArg List.length h.2.2.2.2;have h3:=yA b ((L.drop i).map (mvT base));rw [n7,n8] at h3;rw [aq] at h1;omega
theorem AO {b:Bool}{s:Bytes}{l:List af}{e:PE}(h:iO b s l=some (.inl e)):e.1≠0:=by
 unfold iO at h;split at h
 ·cases h
 ·cases h; exact (show (2:Int)≠0 by decide)
def LP (L:List af)(base HZ:Int)(en:Bytes)(q:PE⊕(List ab×List af))(r:List ab×ae):Prop:=match q with
 | .inl e=>e.1≠0/\∃ (j:Nat) (l':List af),(r.2=.mk L (j:Int) HZ base (eD e)/\Pos L base j HZ true l')\/(r.2=.mk L (j:Int) HZ base dOk/\Pos L base j HZ true l'/\iO true en l'=some (.inl e))
 | .inr (ks,l')=>∃ (j:Nat) (l'':List af),r.1=ks/\r.2=.mk L (j:Int) HZ base dOk/\Pos L base j HZ true l''/\iO true en l''=some (.inr ((),l'))
theorem qU {f:Nat}(ih:Fol f):∀ (en:Bytes) (l:List af),Gl l->∀ (L:List af) (base:Int),Gd (L.map (mvT base))->L.length<=1000000000->∀ (i:Nat) (HZ:Int) (q:PE⊕(List ab×List af)),Pos L base i HZ true l->mt f en l=some q ->
  Ev2 (λ n _=>fJ n (.mk L (i:Int) HZ base dOk) en) (LP L base HZ en q):=by
 intro en l gl L base hL H0 i HZ q h hq;refine cJ ?_;simp only [fJ];refine ag _ (bU (ih.i en l [] gl.1 (by have:=gl.2; simp only [cl]; omega) L base hL H0 i HZ q h hq)) ?_;rintro ⟨ks,z⟩ hz;rcases q with e | ⟨ks',l'⟩
 ·obtain ⟨he,j,l',⟨hz,h3⟩ | ⟨hz,h3,h4⟩⟩:=hz
  ·cases hz; exact aa ⟨he,j,l',.inl ⟨rfl,h3⟩⟩
  ·cases hz; exact aa ⟨he,j,l',.inr ⟨rfl,h3,h4⟩⟩
 ·obtain ⟨j,l'',hz,h3,h4⟩:=hz
  cases hz; exact aa ⟨j,l'',rfl,rfl,h3,h4⟩
theorem zW {f:Nat}(ih:Fol f):∀ (l:List af),Gl l->∀ (L:List af) (base:Int),Gd (L.map (mvT base))->L.length<=1000000000->∀ (i:Nat) (HZ:Int) (q:PE⊕(List ab×List af)),Pos L base i HZ true l->vg f l=some q ->
  Ev2 (λ n _=>fo n (.mk L (i:Int) HZ base dOk)) (LP L base HZ [125] q):=by
 intro l gl L base hL H0 i HZ q h hq;refine cJ ?_;simp only [fo];refine ag _ (bU (ih.t l [] gl (by have:=gl.2; simp only [cl]; omega) L base hL H0 i HZ q h hq)) ?_;rintro ⟨ks,z⟩ hz;rcases q with e | ⟨ks',l'⟩
 ·obtain ⟨he,j,l',⟨hz,h3⟩ | ⟨hz,h3,h4⟩⟩:=hz
  ·cases hz; exact aa ⟨he,j,l',.inl ⟨rfl,h3⟩⟩
  ·cases hz; exact aa ⟨he,j,l',.inr ⟨rfl,h3,h4⟩⟩
 ·obtain ⟨j,l'',hz,h3,h4⟩:=hz
  cases hz; exact aa ⟨j,l'',rfl,rfl,h3,h4⟩
theorem Hg {f:Nat}(ih:Fol f):∀ b l,Fl dj b l (pB (f+1) b l):=by
 intro b l L base hL H0 i HZ q h hq;have hn:=h.2.1;have hb:=h.2.2.2.1;rw [pB] at hq;refine cJ ?_;simp only [dj,bc,py];refine ak qr ?_;refine ag _ (fp hL H0 h) ?_;rintro ⟨z1,z2⟩ ⟨h1,j,h2,h3,h4,h5⟩;replace h1:z1=_:=h1; subst h1; cases h2;have tk:=xo (h3.gd hL);have t1':=tk.1;have t2':=tk.2.1;by_cases k2:(hd b l).Ar=2
 ·
  rw [if_pos k2] at hq;refine am k2 (ao _ (yu _ (show (hd b l).Df.length<=1000000000 by omega)) ?_);by_cases hz:(xk (hd b l).Df).2=0
  ·
   rw [if_pos hz] at hq; cases hq;refine am hz ?_;refine ag _ (eh hL H0 h3 O) ?_;rintro ⟨z1,z2⟩ ⟨h1,j,h2,h3,h4,h5⟩;replace h1:z1=_:=h1; subst h1; cases h2;exact ao _ (ar rfl rfl) (aa ⟨rfl,j,rfl,h3⟩)
  ·
   rw [if_neg hz] at hq; cases hq;exact ak hz (ao _ (ar (iQ _ _ _ _) rfl) (aa ⟨hz,j,l,rfl,h3⟩))
 rw [if_neg k2] at hq;refine ak k2 ?_;by_cases k3:(hd b l).Ar=3
 ·
  rw [if_pos k3] at hq;refine am k3 (ag _ (ih.s b l k3 L base hL H0 j HZ q h3 hq) ?_);rintro ⟨z1,z2⟩ hz;exact aa hz
 rw [if_neg k3] at hq;refine ak k3 ?_;by_cases k1:(hd b l).Ar=1
 ·
  rw [if_pos k1] at hq;refine am k1 (ag _ (ih.n b l k1 L base hL H0 j HZ q h3 hq) ?_);rintro ⟨z1,z2⟩ hz;exact aa hz
 rw [if_neg k1] at hq;refine ak k1 ?_;by_cases k4:(hd b l).Ar=4
 ·
  have sg:∀ s,sgB b l s=true↔(hd b l).Df=s:=λ s=>by rw [qF]; exact ⟨λ h=>h.2,λ h=>⟨k4,h⟩⟩
  refine am k4 (ag (Out L base HZ b q) (cJ ?_) (λ z hz=>aa hz));simp only [gr];refine ag _ (fp hL H0 h3) ?_;rintro ⟨z1,z2⟩ ⟨h1,j,h2,h3,h4,h5⟩;replace h1:z1=_:=h1; subst h1; cases h2;by_cases s1:(hd b l).Df=[40]
  ·
   rw [if_pos ((sg _).2 s1)] at hq;refine am s1 ?_;refine ag _ (p6 hL H0 h3 O) ?_;rintro _ ⟨j,rfl,h3⟩;rcases bW hq with ⟨e,hx,rfl⟩ | ⟨c,l1,hx,hq⟩
   ·
    refine ag _ (ih.e true _ L base hL H0 j (HZ+1) _ h3 hx) ?_;rintro ⟨z1,z2⟩ ⟨he,j,l',h2,h3⟩
    cases h2
    refine ag _ (gp hL H0 _ he hn hb h3) ?_;rintro _ ⟨j,l',rfl,h3⟩;exact aa ⟨he,j,l',rfl,h3⟩
   ·
    refine ag _ (ih.e true _ L base hL H0 j (HZ+1) _ h3 hx) ?_;rintro ⟨z1,z2⟩ ⟨h1,j,h2,h3⟩;replace h1:z1=_:=h1; subst h1; cases h2;rcases bW hq with ⟨e,hx,rfl⟩ | ⟨u,l2,hx,hq⟩
    ·
     refine ag _ (fc hL H0 _ hn hb h3 hx) ?_;rintro _ ⟨he,j,l',rfl,h3⟩;exact aa ⟨he,j,l',rfl,h3⟩
    ·
     refine ag _ (fc hL H0 _ hn hb h3 hx) ?_;rintro _ ⟨j,rfl,h3,h4⟩
     cases hq
     exact aa ⟨Z,j,Z,h3⟩
  rw [if_neg (λ h=>s1 ((sg _).1 h))] at hq;refine ak s1 ?_;by_cases s2:(hd b l).Df=[91]
  ·
   rw [if_pos ((sg _).2 s2)] at hq;refine am s2 ?_;have gl:=h3.gl hL H0 (by omega:(hd b l).Ar≠6);refine ag _ (p6 hL H0 h3 O) ?_;rintro _ ⟨j,rfl,h3⟩;refine ag _ (rb hL H0 _ h3) ?_;rintro ⟨z1,z2⟩ ⟨h1,j,h2,h3⟩;replace h1:z1=_:=h1; subst h1; cases h2;by_cases hw:wdB true (tl b l) [102,111,114]=true
   ·
    rw [if_pos hw] at hq;refine am hw (ag _ (ih.lo (hd b l).fAt 12 (tl b l) hw (by decide) L base hL H0 j HZ b q hn hb h3 hq) ?_);rintro ⟨z1,z2⟩ hz;exact aa hz
   ·
    rw [if_neg hw] at hq;refine ak hw ?_;rcases bW hq with ⟨e,hx,rfl⟩ | ⟨ks,l1,hx,hq⟩
    ·
     refine ag _ (qU ih _ _ gl L base hL H0 j (HZ+1) _ h3 hx) ?_;rintro ⟨ys,z⟩ ⟨he,j,l',⟨hz,h3⟩ | ⟨hz,h3,hxx⟩⟩
     ·cases hz
      refine ag _ (gp hL H0 _ he hn hb h3) ?_;rintro _ ⟨j,l',rfl,h3⟩;exact aa ⟨he,j,l',rfl,h3⟩
     ·cases hz
      refine ag _ (fc hL H0 _ hn hb h3 hxx) ?_;rintro _ ⟨he,j,l',rfl,h3⟩;exact aa ⟨he,j,l',rfl,h3⟩
    ·
     refine ag _ (qU ih _ _ gl L base hL H0 j (HZ+1) _ h3 hx) ?_;rintro ⟨ys,z⟩ ⟨j,l'',hy,hz,h3,hxx⟩
     cases hy; cases hz
     refine ag _ (fc hL H0 _ hn hb h3 hxx) ?_;rintro _ ⟨j,rfl,h3,h4⟩
     cases hq
     exact aa ⟨Z,j,Z,h3⟩
  rw [if_neg (λ h=>s2 ((sg _).1 h))] at hq;refine ak s2 ?_;by_cases s3:(hd b l).Df=[123]
  ·
   rw [if_pos ((sg _).2 s3)] at hq;refine am s3 ?_;have gl:=h3.gl hL H0 (by omega:(hd b l).Ar≠6);refine ag _ (p6 hL H0 h3 O) ?_;rintro _ ⟨j,rfl,h3⟩;refine ag _ (rb hL H0 _ h3) ?_;rintro ⟨z1,z2⟩ ⟨h1,j,h2,h3⟩;replace h1:z1=_:=h1; subst h1; cases h2;by_cases hw:wdB true (tl b l) [102,111,114]=true
   ·
    rw [if_pos hw] at hq;refine am hw (ag _ (ih.lo (hd b l).fAt 13 (tl b l) hw (by decide) L base hL H0 j HZ b q hn hb h3 hq) ?_);rintro ⟨z1,z2⟩ hz;exact aa hz
   ·
    rw [if_neg hw] at hq;refine ak hw ?_;rcases bW hq with ⟨e,hx,rfl⟩ | ⟨ks,l1,hx,hq⟩
    ·
     refine ag _ (zW ih _ gl L base hL H0 j (HZ+1) _ h3 hx) ?_;rintro ⟨ys,z⟩ ⟨he,j,l',⟨hz,h3⟩ | ⟨hz,h3,hxx⟩⟩
     ·cases hz
      refine ag _ (gp hL H0 _ he hn hb h3) ?_;rintro _ ⟨j,l',rfl,h3⟩;exact aa ⟨he,j,l',rfl,h3⟩
     ·cases hz
      refine ag _ (fc hL H0 _ hn hb h3 hxx) ?_;rintro _ ⟨he,j,l',rfl,h3⟩;exact aa ⟨he,j,l',rfl,h3⟩
    ·
     refine ag _ (zW ih _ gl L base hL H0 j (HZ+1) _ h3 hx) ?_;rintro ⟨ys,z⟩ ⟨j,l'',hy,hz,h3,hxx⟩
     cases hy; cases hz
     refine ag _ (fc hL H0 _ hn hb h3 hxx) ?_;rintro _ ⟨j,rfl,h3,h4⟩
     cases hq
     exact aa ⟨Z,j,Z,h3⟩
  rw [if_neg (λ h=>s3 ((sg _).1 h))] at hq; cases hq;exact ak s3 (ao _ (ar (iQ _ _ _ _) rfl) (aa ⟨(by decide:(2:Int)≠0),j,l,rfl,h3⟩))
 ·
  have sn:∀ s,¬ sgB b l s=true:=λ s h=>k4 (qF.1 h).1;rw [if_neg (sn _),if_neg (sn _),if_neg (sn _)] at hq; cases hq;exact ak k4 (ao _ (ar (iQ _ _ _ _) rfl) (aa ⟨(by decide:(2:Int)≠0),j,l,rfl,h3⟩))
theorem HL {f:Nat}(ih:Fol f):∀ b l,(hd b l).Ar=1->Fl fH b l (qI (f+1) b l):=by
 intro b l k1 L base hL H0 i HZ q h hq;have hn:=h.2.1;have hb:=h.2.2.2.1;rw [qI] at hq;refine cJ ?_;simp only [fH];refine ag _ (fp hL H0 h) ?_;rintro ⟨z1,z2⟩ ⟨h1,j,h2,h3,h4,h5⟩;replace h1:z1=_:=h1; subst h1; cases h2;by_cases s1:(hd b l).Df=[110,117,108,108]
 ·
  rw [if_pos s1] at hq; cases hq;refine am s1 ?_;refine ag _ (eh hL H0 h3 O) ?_;rintro ⟨z1,z2⟩ ⟨h1,j,h2,h3,h4,h5⟩;replace h1:z1=_:=h1; subst h1; cases h2;exact ao _ (ar rfl rfl) (aa ⟨rfl,j,rfl,h3⟩)
 rw [if_neg s1] at hq;refine ak s1 ?_;by_cases s2:(hd b l).Df=[116,114,117,101]
 ·
  rw [if_pos s2] at hq; cases hq;refine ao true (am s2 (aa rfl)) (am rfl ?_);refine ag _ (eh hL H0 h3 O) ?_;rintro ⟨z1,z2⟩ ⟨h1,j,h2,h3,h4,h5⟩;replace h1:z1=_:=h1; subst h1; cases h2;exact ao 1 (am s2 (aa rfl)) (ao _ (ar rfl rfl) (aa ⟨rfl,j,rfl,h3⟩))
 rw [if_neg s2] at hq;by_cases s3:(hd b l).Df=[102,97,108,115,101]
 ·
  rw [if_pos s3] at hq; cases hq;refine ao true (ak s2 (aa (decide_eq_true s3))) (am rfl ?_);refine ag _ (eh hL H0 h3 O) ?_;rintro ⟨z1,z2⟩ ⟨h1,j,h2,h3,h4,h5⟩;replace h1:z1=_:=h1; subst h1; cases h2;exact ao 0 (ak s2 (aa rfl)) (ao _ (ar rfl rfl) (aa ⟨rfl,j,rfl,h3⟩))
 rw [if_neg s3] at hq;refine ao false (ak s2 (aa (decide_eq_false s3))) (ak qr (ao _ (ar (tr _) rfl) ?_));by_cases s4:gC (hd b l).Df=true
 ·
  rw [if_pos s4] at hq; cases hq;exact am s4 (ao _ (ar (iQ _ _ _ _) rfl) (aa ⟨(by decide:(2:Int)≠0),j,l,rfl,h3⟩))
 rw [if_neg s4] at hq;refine ak s4 ?_;refine ag _ (eh hL H0 h3 O) ?_;rintro ⟨z1,z2⟩ ⟨h1,j,h2,h3,h4,h5⟩;replace h1:z1=_:=h1; subst h1; cases h2;refine ag _ (fZ hL H0 _ h3) ?_;rintro ⟨z1,z2⟩ ⟨h1,j,h2,h3⟩;replace h1:z1=_:=h1; subst h1; cases h2;by_cases s5:sgB b (tl b l) [40]=true
 ·
  rw [if_pos s5] at hq;refine ak (by simp [s5]) ?_;have gl:=h3.gl hL H0 (sg6 s5);refine ag _ (p6 hL H0 h3 (sg6 s5)) ?_;rintro _ ⟨j,rfl,h3⟩;rcases bW hq with ⟨e,hx,rfl⟩ | ⟨ks,l1,hx,hq⟩
  ·
   refine ag _ (qU ih _ _ gl L base hL H0 j (HZ+1) _ h3 hx) ?_;rintro ⟨ys,z⟩ ⟨he,j,l',⟨hz,h3⟩ | ⟨hz,h3,hxx⟩⟩
   ·cases hz
    refine ag _ (gp hL H0 _ he hn hb h3) ?_;rintro _ ⟨j,l',rfl,h3⟩;exact aa ⟨he,j,l',rfl,h3⟩
   ·cases hz
    refine ag _ (fc hL H0 _ hn hb h3 hxx) ?_;rintro _ ⟨he,j,l',rfl,h3⟩;exact aa ⟨he,j,l',rfl,h3⟩
  ·
   refine ag _ (qU ih _ _ gl L base hL H0 j (HZ+1) _ h3 hx) ?_;rintro ⟨ys,z⟩ ⟨j,l'',hy,hz,h3,hxx⟩
   cases hy; cases hz
   refine ag _ (fc hL H0 _ hn hb h3 hxx) ?_;rintro _ ⟨j,rfl,h3,h4⟩
   cases hq
   exact aa ⟨Z,j,Z,h3⟩
 ·
  rw [if_neg s5] at hq; cases hq;exact am (by simpa using s5) (aa ⟨rfl,j,rfl,h3⟩)
theorem Hs {f:Nat}(ih:Fol f):∀ (en:Bytes) (l:List af) (out:List ab),Gd l->out.length+l.length<=1000000000->∀ (L:List af) (base:Int),Gd (L.map (mvT base))->L.length<=1000000000->∀ (i:Nat) (HZ:Int) (q:PE⊕(List ab×List af)),Pos L base i HZ true l->mt (f+1) en l=some q ->
  Ev2 (λ n m=>de n (aF n) en m out L (i:Int) HZ base 0 0 []) (E3 L base HZ en out q):=by
 intro en l out hg Ia L base hL H0 i HZ q h hq;have gl:Gl l:=⟨hg,by omega⟩
 have gt:=gll (b:=true) gl;rw [mt] at hq;refine aY ?_;simp only [de,bc,py];refine ag (λ t=>∃ j:Nat,t=(!sgB true l en,L,(j:Int),HZ,base,0,0,[])/\Pos L base j HZ true l) ?_ ?_
 ·
  refine am rfl ?_;refine ag _ (fZ hL H0 _ h) ?_;rintro ⟨z1,z2⟩ ⟨h1,j,h2,h3⟩;replace h1:z1=_:=h1; subst h1; cases h2;exact aa ⟨j,rfl,h3⟩
 rintro _ ⟨j,rfl,h3⟩;by_cases hs:sgB true l en=true
 ·
  rw [if_pos hs] at hq; cases hq;refine ak (by simp [hs]) (aa ⟨j,l,by rw [List.append_nil],h3,?_⟩);unfold iO; rw [if_pos hs]; rfl
 rw [if_neg hs] at hq;refine am (by simpa using hs) ?_;rcases bW hq with ⟨e,hx,rfl⟩ | ⟨x,l1,hx,hq⟩
 ·
  refine ag _ (ih.e true l L base hL H0 j HZ _ h3 hx) ?_;rintro ⟨z1,z2⟩ ⟨he,j,l',h2,h3⟩
  cases h2
  refine aw (by simp only [aq,cl]; omega) ?_;refine ag _ (kz hL H0 _ he h3) ?_;rintro _ ⟨j,rfl,h3⟩;exact am rfl (aa ⟨he,j,l',.inl ⟨rfl,h3⟩⟩)
 ·
  refine ag _ (ih.e true l L base hL H0 j HZ _ h3 hx) ?_;rintro ⟨z1,z2⟩ ⟨h1,j,h2,h3⟩;replace h1:z1=_:=h1; subst h1; cases h2;have f1:=(fct f).e true l gl _ hx;refine aw (by simp only [aq,cl]; omega) ?_;refine ag _ (fZ hL H0 _ h3) ?_;rintro ⟨z1,z2⟩ ⟨h1,j,h2,h3⟩;replace h1:z1=_:=h1; subst h1; cases h2;by_cases hc:sgB true l1 [44]=true
  ·
   rw [if_pos hc] at hq;refine ak (by simp [hc]) ?_;have b1:=f1.2.1.length_le;have b2:=gll (b:=true) f1.2.2;have g2:=glt f1.2.2 hc;refine ag _ (eh hL H0 h3 (sg6 hc)) ?_;rintro ⟨z1,z2⟩ ⟨h1,j,h2,h3,h4,h5⟩;replace h1:z1=_:=h1; subst h1; cases h2;rcases bW hq with ⟨e,hy,rfl⟩ | ⟨ks,l2,hy,hq⟩
   ·
    exact b7 (ih.i en _ (out++[_]) g2.1 (by simp only [dg,aq,cl]; omega) L base hL H0 j HZ _ h3 hy) (λ r hr=>hr)
   ·
    cases hq
    refine b7 (ih.i en _ (out++[_]) g2.1 (by simp only [dg,aq,cl]; omega) L base hL H0 j HZ _ h3 hy) ?_;rintro r ⟨j,l'',rfl,h3,hn⟩;exact ⟨j,l'',by rw [List.append_assoc]; rfl,h3,hn⟩
  ·
   rw [if_neg hc] at hq;refine am (by simpa using hc) ?_;rcases bW hq with ⟨e,hy,rfl⟩ | ⟨u,l2,hy,hq⟩
   ·exact aa ⟨AO hy,j,l1,.inr ⟨Z,h3,hy⟩⟩
   ·cases hq
    exact aa ⟨j,l1,Z,h3,hy⟩
theorem Ho {f:Nat}(ih:Fol f):∀ (l:List af) (out:List ab),Gl l->out.length+2*l.length<=3000000000->∀ (L:List af) (base:Int),Gd (L.map (mvT base))->L.length<=1000000000->∀ (i:Nat) (HZ:Int) (q:PE⊕(List ab×List af)),Pos L base i HZ true l->vg (f+1) l=some q ->
  Ev2 (λ n m=>cI n (aF n) (dA n) m out L (i:Int) HZ base 0 0 []) (E3 L base HZ [125] out q):=by
 intro l out gl Ia L base hL H0 i HZ q h hq;have hgn:=tS (h.gd hL);rw [vg] at hq;refine aY ?_;simp only [cI,bc,py];refine ag (λ t=>∃ j:Nat,t=(!sgB true l [125],L,(j:Int),HZ,base,0,0,[])/\Pos L base j HZ true l) ?_ ?_
 ·
  refine am rfl ?_;refine ag _ (fZ hL H0 _ h) ?_;rintro ⟨z1,z2⟩ ⟨h1,j,h2,h3⟩;replace h1:z1=_:=h1; subst h1; cases h2;exact aa ⟨j,rfl,h3⟩
 rintro _ ⟨j,rfl,h3⟩;by_cases hs:sgB true l [125]=true
 ·
  rw [if_pos hs] at hq; cases hq;refine ak (by simp [hs]) (aa ⟨j,l,by rw [List.append_nil],h3,?_⟩);unfold iO; rw [if_pos hs]; rfl
 rw [if_neg hs] at hq;refine am (by simpa using hs) ?_;rcases bW hq with ⟨e,hx,rfl⟩ | ⟨x,l1,hx,hq⟩
 ·
  refine ag _ (ih.k l L base hL H0 j HZ _ h3 hx) ?_;rintro ⟨z1,z2⟩ ⟨he,j,l',h2,h3⟩
  cases h2
  refine aw (by simp only [aq,cl]; omega) ?_;refine ag _ (kA hL H0 _ he h3) ?_;rintro _ ⟨j,l',rfl,h3⟩;refine ag _ (ic hL H0 he h3) ?_;rintro ⟨z1,z2⟩ ⟨j,l',h2,h3⟩
  cases h2
  refine aw (by simp only [aq,cl,dg]; omega) ?_;refine ag _ (kz hL H0 _ he h3) ?_;rintro _ ⟨j,rfl,h3⟩;exact am rfl (aa ⟨he,j,l',.inl ⟨rfl,h3⟩⟩)
 ·
  refine ag _ (ih.k l L base hL H0 j HZ _ h3 hx) ?_;rintro ⟨z1,z2⟩ ⟨h1,j,h2,h3⟩;replace h1:z1=_:=h1; subst h1; cases h2;refine aw (by simp only [aq,cl]; omega) ?_;rcases bW hq with ⟨e,hy,rfl⟩ | ⟨u,l2,hy,hq⟩
  ·
   refine ag _ (kW hL H0 _ h3 hy) ?_;rintro _ ⟨he,j,l',rfl,h3⟩;refine ag _ (ic hL H0 he h3) ?_;rintro ⟨z1,z2⟩ ⟨j,l',h2,h3⟩
   cases h2
   refine aw (by simp only [aq,cl,dg]; omega) ?_;refine ag _ (kz hL H0 _ he h3) ?_;rintro _ ⟨j,rfl,h3⟩;exact am rfl (aa ⟨he,j,l',.inl ⟨rfl,h3⟩⟩)
  ·
   refine ag _ (kW hL H0 _ h3 hy) ?_;rintro _ ⟨j,rfl,h3,h4⟩;rcases bW hq with ⟨e,hv,rfl⟩ | ⟨y,l3,hv,hq⟩
   ·
    refine ag _ (ih.e true l2 L base hL H0 j HZ _ h3 hv) ?_;rintro ⟨z1,z2⟩ ⟨he,j,l',h2,h3⟩
    cases h2
    refine aw (by simp only [aq,cl,dg]; omega) ?_;refine ag _ (kz hL H0 _ he h3) ?_;rintro _ ⟨j,rfl,h3⟩;exact am rfl (aa ⟨he,j,l',.inl ⟨rfl,h3⟩⟩)
   ·
    refine ag _ (ih.e true l2 L base hL H0 j HZ _ h3 hv) ?_;rintro ⟨z1,z2⟩ ⟨h1,j,h2,h3⟩;replace h1:z1=_:=h1; subst h1; cases h2;refine aw (by simp only [aq,cl,dg]; omega) ?_;refine ag _ (fZ hL H0 _ h3) ?_;rintro ⟨z1,z2⟩ ⟨h1,j,h2,h3⟩;replace h1:z1=_:=h1; subst h1; cases h2;by_cases hc:sgB true l3 [44]=true
    ·
     rw [if_pos hc] at hq;refine ak (by simp [hc]) ?_;have gt:=gll (b:=true) gl;have f1:=(fct f).k l gl _ hx;have f2:=j5 (b:=true) (s:=[61]) f1.2.2 _ hy;have f3:=(fct f).e true l2 f2.2.2 _ hv;have b1:=f1.2.1.length_le;have b2:=(f2.2.1.trans (tlS true l1)).length_le;have b3:=(f3.2.1.trans (tlS true l2)).length_le;have b4:=gll (b:=true) f3.2.2;have g2:=glt f3.2.2 hc;refine ag _ (eh hL H0 h3 (sg6 hc)) ?_;rintro ⟨z1,z2⟩ ⟨h1,j,h2,h3,h4,h5⟩;replace h1:z1=_:=h1; subst h1; cases h2;rcases bW hq with ⟨e,hr,rfl⟩ | ⟨ks,l4,hr,hq⟩
     ·
      exact b7 (ih.t _ ((out++[_])++[_]) g2 (by simp only [dg,aq,cl]; omega) L base hL H0 j HZ _ h3 hr) (λ r hr=>hr)
     ·
      cases hq
      refine b7 (ih.t _ ((out++[_])++[_]) g2 (by simp only [dg,aq,cl]; omega) L base hL H0 j HZ _ h3 hr) ?_;rintro r ⟨j,l'',rfl,h3,hn⟩;exact ⟨j,l'',by rw [List.append_assoc,List.append_assoc]; rfl,h3,hn⟩
    ·
     rw [if_neg hc] at hq;refine am (by simpa using hc) ?_;rcases bW hq with ⟨e,hr,rfl⟩ | ⟨u,l4,hr,hq⟩
     ·exact aa ⟨AO hr,j,l3,.inr ⟨Z,h3,hr⟩⟩
     ·cases hq
      exact aa ⟨j,l3,by rw [List.append_assoc]; rfl,h3,hr⟩
theorem Hi {f:Nat}(ih:Fol f):∀ l,Fl dA true l (si (f+1) l):=by
 intro l L base hL H0 i HZ q h hq;have hn:=h.2.1;have hb:=h.2.2.2.1;rw [si] at hq;refine cJ ?_;simp only [dA];refine ag _ (fp hL H0 h) ?_;rintro ⟨z1,z2⟩ ⟨h1,j,h2,h3,h4,h5⟩;replace h1:z1=_:=h1; subst h1; cases h2;by_cases k1:(hd true l).Ar=1
 ·
  rw [if_pos k1] at hq; cases hq;refine am k1 ?_;refine ag _ (eh hL H0 h3 O) ?_;rintro ⟨z1,z2⟩ ⟨h1,j,h2,h3,h4,h5⟩;replace h1:z1=_:=h1; subst h1; cases h2;exact ao _ (ar rfl rfl) (aa ⟨rfl,j,rfl,h3⟩)
 rw [if_neg k1] at hq;refine ak k1 ?_;by_cases k3:(hd true l).Ar=3
 ·
  rw [if_pos k3] at hq;refine am k3 (ag _ (ih.s true l k3 L base hL H0 j HZ q h3 hq) ?_);rintro ⟨z1,z2⟩ hz;exact aa hz
 rw [if_neg k3] at hq;refine ak k3 ?_;refine ag _ (fZ hL H0 _ h3) ?_;rintro ⟨z1,z2⟩ ⟨h1,j,h2,h3⟩;replace h1:z1=_:=h1; subst h1; cases h2;by_cases s1:sgB true l [40]=true
 ·
  rw [if_pos s1] at hq;refine am s1 ?_;refine ag _ (p6 hL H0 h3 (sg6 s1)) ?_;rintro _ ⟨j,rfl,h3⟩;rcases bW hq with ⟨e,hx,rfl⟩ | ⟨c,l1,hx,hq⟩
  ·
   refine ag _ (ih.e true _ L base hL H0 j (HZ+1) _ h3 hx) ?_;rintro ⟨z1,z2⟩ ⟨he,j,l',h2,h3⟩
   cases h2
   refine ag _ (gp hL H0 _ he hn hb h3) ?_;rintro _ ⟨j,l',rfl,h3⟩;exact aa ⟨he,j,l',rfl,h3⟩
  ·
   refine ag _ (ih.e true _ L base hL H0 j (HZ+1) _ h3 hx) ?_;rintro ⟨z1,z2⟩ ⟨h1,j,h2,h3⟩;replace h1:z1=_:=h1; subst h1; cases h2;rcases bW hq with ⟨e,hx,rfl⟩ | ⟨u,l2,hx,hq⟩
   ·
    refine ag _ (fc hL H0 _ hn hb h3 hx) ?_;rintro _ ⟨he,j,l',rfl,h3⟩;exact aa ⟨he,j,l',rfl,h3⟩
   ·
    refine ag _ (fc hL H0 _ hn hb h3 hx) ?_;rintro _ ⟨j,rfl,h3,h4⟩
    cases hq
    exact aa ⟨Z,j,Z,h3⟩
 ·
  rw [if_neg s1] at hq; cases hq;exact ak s1 (ao _ (ar (iQ _ _ _ _) rfl) (aa ⟨(by decide:(2:Int)≠0),j,l,rfl,h3⟩))
theorem GQ {f:Nat}(ih:Fol f):∀ (a k:Int) l,wdB true l [102,111,114]=true->k=12\/k=13->FlC (λ n p=>eH n p a k) l (rf (f+1) a k (tl true l)):=by
 intro a k l hw hk L base hL H0 i HZ b q hn hb h hq;rw [rf] at hq;refine cJ ?_;simp only [eH];refine ag _ (eh hL H0 h (wd6 hw)) ?_;rintro ⟨z1,z2⟩ ⟨h1,j,h2,h3,h4,h5⟩;replace h1:z1=_:=h1; subst h1; cases h2;rcases bW hq with ⟨e,hx,rfl⟩ | ⟨v,l1,hx,hq⟩
 ·
  refine ag _ (nz hL H0 h3 hx) ?_;rintro ⟨z1,z2⟩ ⟨he,j,l',h2,h3⟩
  cases h2
  refine ag (λ t=>∃ (w1 w2:Bytes) (j:Nat) (l':List af),t=(w1,w2,L,(j:Int),HZ+1,base,e.1,e.2,[])/\Pos L base j (HZ+1) true l') ?_ ?_
  ·refine ag _ (kz hL H0 _ he h3) ?_;rintro _ ⟨j,rfl,h3⟩;exact ak qr (aa ⟨_,_,j,_,rfl,h3⟩)
  rintro _ ⟨w1,w2,j,l',rfl,h3⟩;refine ag _ (vm hL H0 _ he h3) ?_;rintro _ ⟨j,l',rfl,h3⟩;refine ag _ (ic hL H0 he h3) ?_;rintro ⟨z1,z2⟩ ⟨j,l',h2,h3⟩
  cases h2
  refine aw (by simp only [aq,cl]; omega) ?_;refine ag _ (kA hL H0 _ he h3) ?_;rintro _ ⟨j,l',rfl,h3⟩;refine ag _ (ic hL H0 he h3) ?_;rintro ⟨z1,z2⟩ ⟨j,l',h2,h3⟩
  cases h2
  refine aw (by simp only [aq,cl]; omega) ?_;refine ag (λ t=>∃ (en:Bytes) (ks:List ab) (j:Nat) (l':List af),t=(en,ks,L,(j:Int),HZ+1,base,e.1,e.2,[])/\ks.length<=3/\Pos L base j (HZ+1) true l') ?_ ?_
  ·refine aI (λ hk=>?_) (λ hk=>aa ⟨_,_,j,l',rfl,by simp,h3⟩);refine ag _ (kA hL H0 _ he h3) ?_;rintro _ ⟨j,l',rfl,h3⟩;refine ag _ (ic hL H0 he h3) ?_;rintro ⟨z1,z2⟩ ⟨j,l',h2,h3⟩
   cases h2
   refine aw (by simp only [aq,cl,dg]; omega) ?_;exact aa ⟨_,_,j,l',Z,by simp,h3⟩
  rintro _ ⟨en,ks,j,l',rfl,hks,h3⟩;refine ag (λ t=>∃ (ks:List ab) (j:Nat) (l':List af),t=(ks,L,(j:Int),HZ+1,base,e.1,e.2,[])/\Pos L base j (HZ+1) true l') ?_ ?_
  ·refine ag _ (pn hL H0 _ he h3) ?_;rintro _ ⟨j,rfl,h3⟩;exact ak qr (aa ⟨_,j,_,rfl,h3⟩)
  rintro _ ⟨ks,j,l',rfl,h3⟩;refine ag _ (gp hL H0 _ he hn hb h3) ?_;rintro _ ⟨j,l',rfl,h3⟩;exact aa ⟨he,j,l',rfl,h3⟩
 ·
  refine ag _ (nz hL H0 h3 hx) ?_;rintro ⟨z1,z2⟩ ⟨h1,j,h2,h3⟩;replace h1:z1=_:=h1; subst h1; cases h2;rcases bW hq with ⟨e,hy,rfl⟩ | ⟨nk,l2,hy,hq⟩
  ·
   refine ag (λ t=>e.1≠0/\∃ (w1 w2:Bytes) (j:Nat) (l':List af),t=(w1,w2,L,(j:Int),HZ+1,base,e.1,e.2,[])/\Pos L base j (HZ+1) true l') ?_ ?_
   ·
    refine ag _ (fZ hL H0 _ h3) ?_;rintro ⟨z1,z2⟩ ⟨h1,j,h2,h3⟩;replace h1:z1=_:=h1; subst h1; cases h2;by_cases hc:sgB true l1 [44]=true
    ·
     rw [if_pos hc] at hy;refine am hc ?_;refine ag _ (eh hL H0 h3 (sg6 hc)) ?_;rintro ⟨z1,z2⟩ ⟨h1,j,h2,h3,h4,h5⟩;replace h1:z1=_:=h1; subst h1; cases h2;rcases bW hy with ⟨e,hz,hee⟩ | ⟨v2,l3,hz,hee⟩
     ·cases hee
      refine ag _ (nz hL H0 h3 hz) ?_;rintro ⟨z1,z2⟩ ⟨he,j,l',h2,h3⟩
      cases h2
      exact aa ⟨he,_,_,j,l',Z,h3⟩
     ·cases hee
    ·
     rw [if_neg hc] at hy; cases hy
   rintro _ ⟨he,w1,w2,j,l',rfl,h3⟩;refine ag _ (vm hL H0 _ he h3) ?_;rintro _ ⟨j,l',rfl,h3⟩;refine ag _ (ic hL H0 he h3) ?_;rintro ⟨z1,z2⟩ ⟨j,l',h2,h3⟩
   cases h2
   refine aw (by simp only [aq,cl]; omega) ?_;refine ag _ (kA hL H0 _ he h3) ?_;rintro _ ⟨j,l',rfl,h3⟩;refine ag _ (ic hL H0 he h3) ?_;rintro ⟨z1,z2⟩ ⟨j,l',h2,h3⟩
   cases h2
   refine aw (by simp only [aq,cl]; omega) ?_;refine ag (λ t=>∃ (en:Bytes) (ks:List ab) (j:Nat) (l':List af),t=(en,ks,L,(j:Int),HZ+1,base,e.1,e.2,[])/\ks.length<=3/\Pos L base j (HZ+1) true l') ?_ ?_
   ·refine aI (λ hk=>?_) (λ hk=>aa ⟨_,_,j,l',rfl,by simp,h3⟩);refine ag _ (kA hL H0 _ he h3) ?_;rintro _ ⟨j,l',rfl,h3⟩;refine ag _ (ic hL H0 he h3) ?_;rintro ⟨z1,z2⟩ ⟨j,l',h2,h3⟩
    cases h2
    refine aw (by simp only [aq,cl,dg]; omega) ?_;exact aa ⟨_,_,j,l',Z,by simp,h3⟩
   rintro _ ⟨en,ks,j,l',rfl,hks,h3⟩;refine ag (λ t=>∃ (ks:List ab) (j:Nat) (l':List af),t=(ks,L,(j:Int),HZ+1,base,e.1,e.2,[])/\Pos L base j (HZ+1) true l') ?_ ?_
   ·refine ag _ (pn hL H0 _ he h3) ?_;rintro _ ⟨j,rfl,h3⟩;exact ak qr (aa ⟨_,j,_,rfl,h3⟩)
   rintro _ ⟨ks,j,l',rfl,h3⟩;refine ag _ (gp hL H0 _ he hn hb h3) ?_;rintro _ ⟨j,l',rfl,h3⟩;exact aa ⟨he,j,l',rfl,h3⟩
  ·
   refine ag (λ t=>∃ (j:Nat),t=(nk.1,nk.2,L,(j:Int),HZ+1,base,0,0,[])/\Pos L base j (HZ+1) true l2) ?_ ?_
   ·
    refine ag _ (fZ hL H0 _ h3) ?_;rintro ⟨z1,z2⟩ ⟨h1,j,h2,h3⟩;replace h1:z1=_:=h1; subst h1; cases h2;by_cases hc:sgB true l1 [44]=true
    ·
     rw [if_pos hc] at hy;refine am hc ?_;refine ag _ (eh hL H0 h3 (sg6 hc)) ?_;rintro ⟨z1,z2⟩ ⟨h1,j,h2,h3,h4,h5⟩;replace h1:z1=_:=h1; subst h1; cases h2;rcases bW hy with ⟨e,hz,hee⟩ | ⟨v2,l3,hz,hee⟩
     ·cases hee
     ·
      refine ag _ (nz hL H0 h3 hz) ?_;rintro ⟨z1,z2⟩ ⟨h1,j,h2,h3⟩;replace h1:z1=_:=h1; subst h1; cases h2
      cases hee
      exact aa ⟨j,Z,h3⟩
    ·
     rw [if_neg hc] at hy; cases hy;exact ak hc (aa ⟨j,rfl,h3⟩)
   rintro _ ⟨j,rfl,h3⟩;rcases bW hq with ⟨e,hx,rfl⟩ | ⟨u,l3,hx,hq⟩
   ·
    refine ag _ (uJ hL H0 _ h3 hx) ?_;rintro _ ⟨he,j,l',rfl,h3⟩;refine ag _ (ic hL H0 he h3) ?_;rintro ⟨z1,z2⟩ ⟨j,l',h2,h3⟩
    cases h2
    refine aw (by simp only [aq,cl]; omega) ?_;refine ag _ (kA hL H0 _ he h3) ?_;rintro _ ⟨j,l',rfl,h3⟩;refine ag _ (ic hL H0 he h3) ?_;rintro ⟨z1,z2⟩ ⟨j,l',h2,h3⟩
    cases h2
    refine aw (by simp only [aq,cl]; omega) ?_;refine ag (λ t=>∃ (en:Bytes) (ks:List ab) (j:Nat) (l':List af),t=(en,ks,L,(j:Int),HZ+1,base,e.1,e.2,[])/\ks.length<=3/\Pos L base j (HZ+1) true l') ?_ ?_
    ·refine aI (λ hk=>?_) (λ hk=>aa ⟨_,_,j,l',rfl,by simp,h3⟩);refine ag _ (kA hL H0 _ he h3) ?_;rintro _ ⟨j,l',rfl,h3⟩;refine ag _ (ic hL H0 he h3) ?_;rintro ⟨z1,z2⟩ ⟨j,l',h2,h3⟩
     cases h2
     refine aw (by simp only [aq,cl,dg]; omega) ?_;exact aa ⟨_,_,j,l',Z,by simp,h3⟩
    rintro _ ⟨en,ks,j,l',rfl,hks,h3⟩;refine ag (λ t=>∃ (ks:List ab) (j:Nat) (l':List af),t=(ks,L,(j:Int),HZ+1,base,e.1,e.2,[])/\Pos L base j (HZ+1) true l') ?_ ?_
    ·refine ag _ (pn hL H0 _ he h3) ?_;rintro _ ⟨j,rfl,h3⟩;exact ak qr (aa ⟨_,j,_,rfl,h3⟩)
    rintro _ ⟨ks,j,l',rfl,h3⟩;refine ag _ (gp hL H0 _ he hn hb h3) ?_;rintro _ ⟨j,l',rfl,h3⟩;exact aa ⟨he,j,l',rfl,h3⟩
   ·
    refine ag _ (uJ hL H0 _ h3 hx) ?_;rintro _ ⟨j,rfl,h3,h4⟩;rcases bW hq with ⟨e,hx,rfl⟩ | ⟨x,l4,hx,hq⟩
    ·
     refine ag _ (ih.e true l3 L base hL H0 j (HZ+1) _ h3 hx) ?_;rintro ⟨z1,z2⟩ ⟨he,j,l',h2,h3⟩
     cases h2
     refine aw (by simp only [aq,cl]; omega) ?_;refine ag _ (kA hL H0 _ he h3) ?_;rintro _ ⟨j,l',rfl,h3⟩;refine ag _ (ic hL H0 he h3) ?_;rintro ⟨z1,z2⟩ ⟨j,l',h2,h3⟩
     cases h2
     refine aw (by simp only [aq,cl]; omega) ?_;refine ag (λ t=>∃ (en:Bytes) (ks:List ab) (j:Nat) (l':List af),t=(en,ks,L,(j:Int),HZ+1,base,e.1,e.2,[])/\ks.length<=3/\Pos L base j (HZ+1) true l') ?_ ?_
     ·refine aI (λ hk=>?_) (λ hk=>aa ⟨_,_,j,l',rfl,by simp,h3⟩);refine ag _ (kA hL H0 _ he h3) ?_;rintro _ ⟨j,l',rfl,h3⟩;refine ag _ (ic hL H0 he h3) ?_;rintro ⟨z1,z2⟩ ⟨j,l',h2,h3⟩
      cases h2
      refine aw (by simp only [aq,cl,dg]; omega) ?_;exact aa ⟨_,_,j,l',Z,by simp,h3⟩
     rintro _ ⟨en,ks,j,l',rfl,hks,h3⟩;refine ag (λ t=>∃ (ks:List ab) (j:Nat) (l':List af),t=(ks,L,(j:Int),HZ+1,base,e.1,e.2,[])/\Pos L base j (HZ+1) true l') ?_ ?_
     ·refine ag _ (pn hL H0 _ he h3) ?_;rintro _ ⟨j,rfl,h3⟩;exact ak qr (aa ⟨_,j,_,rfl,h3⟩)
     rintro _ ⟨ks,j,l',rfl,h3⟩;refine ag _ (gp hL H0 _ he hn hb h3) ?_;rintro _ ⟨j,l',rfl,h3⟩;exact aa ⟨he,j,l',rfl,h3⟩
    ·
     refine ag _ (ih.e true l3 L base hL H0 j (HZ+1) _ h3 hx) ?_;rintro ⟨z1,z2⟩ ⟨h1,j,h2,h3⟩;replace h1:z1=_:=h1; subst h1; cases h2;refine aw (by simp only [aq,cl]; omega) ?_;rcases bW hq with ⟨e,hx,rfl⟩ | ⟨u,l5,hx,hq⟩
     ·
      refine ag _ (kW hL H0 _ h3 hx) ?_;rintro _ ⟨he,j,l',rfl,h3⟩;refine ag _ (ic hL H0 he h3) ?_;rintro ⟨z1,z2⟩ ⟨j,l',h2,h3⟩
      cases h2
      refine aw (by simp only [aq,cl]; omega) ?_;refine ag (λ t=>∃ (en:Bytes) (ks:List ab) (j:Nat) (l':List af),t=(en,ks,L,(j:Int),HZ+1,base,e.1,e.2,[])/\ks.length<=3/\Pos L base j (HZ+1) true l') ?_ ?_
      ·refine aI (λ hk=>?_) (λ hk=>aa ⟨_,_,j,l',rfl,by simp,h3⟩);refine ag _ (kA hL H0 _ he h3) ?_;rintro _ ⟨j,l',rfl,h3⟩;refine ag _ (ic hL H0 he h3) ?_;rintro ⟨z1,z2⟩ ⟨j,l',h2,h3⟩
       cases h2
       refine aw (by simp only [aq,cl,dg]; omega) ?_;exact aa ⟨_,_,j,l',Z,by simp,h3⟩
      rintro _ ⟨en,ks,j,l',rfl,hks,h3⟩;refine ag (λ t=>∃ (ks:List ab) (j:Nat) (l':List af),t=(ks,L,(j:Int),HZ+1,base,e.1,e.2,[])/\Pos L base j (HZ+1) true l') ?_ ?_
      ·refine ag _ (pn hL H0 _ he h3) ?_;rintro _ ⟨j,rfl,h3⟩;exact ak qr (aa ⟨_,j,_,rfl,h3⟩)
      rintro _ ⟨ks,j,l',rfl,h3⟩;refine ag _ (gp hL H0 _ he hn hb h3) ?_;rintro _ ⟨j,l',rfl,h3⟩;exact aa ⟨he,j,l',rfl,h3⟩
     ·
      refine ag _ (kW hL H0 _ h3 hx) ?_;rintro _ ⟨j,rfl,h3,h4⟩;rcases bW hq with ⟨e,hx,rfl⟩ | ⟨c,l6,hx,hq⟩
      ·
       refine ag _ (ih.e true l5 L base hL H0 j (HZ+1) _ h3 hx) ?_;rintro ⟨z1,z2⟩ ⟨he,j,l',h2,h3⟩
       cases h2
       refine aw (by simp only [aq,cl]; omega) ?_;refine ag (λ t=>∃ (en:Bytes) (ks:List ab) (j:Nat) (l':List af),t=(en,ks,L,(j:Int),HZ+1,base,e.1,e.2,[])/\ks.length<=3/\Pos L base j (HZ+1) true l') ?_ ?_
       ·refine aI (λ hk=>?_) (λ hk=>aa ⟨_,_,j,l',rfl,by simp,h3⟩);refine ag _ (kA hL H0 _ he h3) ?_;rintro _ ⟨j,l',rfl,h3⟩;refine ag _ (ic hL H0 he h3) ?_;rintro ⟨z1,z2⟩ ⟨j,l',h2,h3⟩
        cases h2
        refine aw (by simp only [aq,cl,dg]; omega) ?_;exact aa ⟨_,_,j,l',Z,by simp,h3⟩
       rintro _ ⟨en,ks,j,l',rfl,hks,h3⟩;refine ag (λ t=>∃ (ks:List ab) (j:Nat) (l':List af),t=(ks,L,(j:Int),HZ+1,base,e.1,e.2,[])/\Pos L base j (HZ+1) true l') ?_ ?_
       ·refine ag _ (pn hL H0 _ he h3) ?_;rintro _ ⟨j,rfl,h3⟩;exact ak qr (aa ⟨_,j,_,rfl,h3⟩)
       rintro _ ⟨ks,j,l',rfl,h3⟩;refine ag _ (gp hL H0 _ he hn hb h3) ?_;rintro _ ⟨j,l',rfl,h3⟩;exact aa ⟨he,j,l',rfl,h3⟩
      ·
       refine ag _ (ih.e true l5 L base hL H0 j (HZ+1) _ h3 hx) ?_;rintro ⟨z1,z2⟩ ⟨h1,j,h2,h3⟩;replace h1:z1=_:=h1; subst h1; cases h2;refine aw (by simp only [aq,cl]; omega) ?_;rcases bW hq with ⟨e,hy,rfl⟩ | ⟨ks,l7,hy,hq⟩
       ·
        refine ag (λ t=>e.1≠0/\∃ (en:Bytes) (ks:List ab) (j:Nat) (l':List af),t=(en,ks,L,(j:Int),HZ+1,base,e.1,e.2,[])/\ks.length<=3/\Pos L base j (HZ+1) true l') ?_ ?_
        ·refine aI (λ hk=>?_) (λ hk=>?_)
         ·
          rw [if_pos hk] at hy;rcases bW hy with ⟨e,hz,hee⟩ | ⟨u,l8,hz,hy⟩
          ·cases hee
           refine ag _ (kW hL H0 _ h3 hz) ?_;rintro _ ⟨he,j,l',rfl,h3⟩;refine ag _ (ic hL H0 he h3) ?_;rintro ⟨z1,z2⟩ ⟨j,l',h2,h3⟩
           cases h2
           refine aw (by simp only [aq,cl,dg]; omega) ?_;exact aa ⟨he,_,_,j,l',Z,by simp,h3⟩
          ·
           refine ag _ (kW hL H0 _ h3 hz) ?_;rintro _ ⟨j,rfl,h3,h4⟩;rcases bW hy with ⟨e,hz,hee⟩ | ⟨d,l9,hz,hee⟩
           ·cases hee
            refine ag _ (ih.e true l8 L base hL H0 j (HZ+1) _ h3 hz) ?_;rintro ⟨z1,z2⟩ ⟨he,j,l',h2,h3⟩
            cases h2
            refine aw (by simp only [aq,cl,dg]; omega) ?_;exact aa ⟨he,_,_,j,l',Z,by simp,h3⟩
           ·cases hee
         ·rw [if_neg hk] at hy; cases hy
        rintro _ ⟨he,en,ks,j,l',rfl,hks,h3⟩;refine ag (λ t=>∃ (ks:List ab) (j:Nat) (l':List af),t=(ks,L,(j:Int),HZ+1,base,e.1,e.2,[])/\Pos L base j (HZ+1) true l') ?_ ?_
        ·refine ag _ (pn hL H0 _ he h3) ?_;rintro _ ⟨j,rfl,h3⟩;exact ak qr (aa ⟨_,j,_,rfl,h3⟩)
        rintro _ ⟨ks,j,l',rfl,h3⟩;refine ag _ (gp hL H0 _ he hn hb h3) ?_;rintro _ ⟨j,l',rfl,h3⟩;exact aa ⟨he,j,l',rfl,h3⟩
       ·
        refine ag (λ t=>∃ (j:Nat),t=((if k=13 then [125] else [93]:Bytes),ks,L,(j:Int),HZ+1,base,0,0,[])/\ks.length<=3/\Pos L base j (HZ+1) true l7) ?_ ?_
        ·refine aI (λ hk=>?_) (λ hk=>?_)
         ·
          rw [if_pos hk] at hy;rcases bW hy with ⟨e,hz,hee⟩ | ⟨u,l8,hz,hy⟩
          ·cases hee
          ·
           refine ag _ (kW hL H0 _ h3 hz) ?_;rintro _ ⟨j,rfl,h3,h4⟩;rcases bW hy with ⟨e,hz,hee⟩ | ⟨d,l9,hz,hee⟩
           ·cases hee
           ·
            refine ag _ (ih.e true l8 L base hL H0 j (HZ+1) _ h3 hz) ?_;rintro ⟨z1,z2⟩ ⟨h1,j,h2,h3⟩;replace h1:z1=_:=h1; subst h1; cases h2;refine aw (by simp only [aq,cl,dg]; omega) ?_
            cases hee
            exact aa ⟨j,by rw [if_pos hk]; rfl,by simp,h3⟩
         ·rw [if_neg hk] at hy; cases hy;exact aa ⟨j,by rw [if_neg hk]; rfl,by simp,h3⟩
        rintro _ ⟨j,rfl,hks,h3⟩;rcases bW hq with ⟨e,hy,rfl⟩ | ⟨ks2,l8,hy,hq⟩
        ·
         refine ag (λ t=>e.1≠0/\∃ (ks:List ab) (j:Nat) (l':List af),t=(ks,L,(j:Int),HZ+1,base,e.1,e.2,[])/\Pos L base j (HZ+1) true l') ?_ ?_
         ·
          refine ag _ (rb hL H0 _ h3) ?_;rintro ⟨z1,z2⟩ ⟨h1,j,h2,h3⟩;replace h1:z1=_:=h1; subst h1; cases h2;by_cases hc:wdB true l7 [105,102]=true
          ·
           rw [if_pos hc] at hy;refine am hc ?_;refine ag _ (eh hL H0 h3 (wd6 hc)) ?_;rintro ⟨z1,z2⟩ ⟨h1,j,h2,h3,h4,h5⟩;replace h1:z1=_:=h1; subst h1; cases h2;rcases bW hy with ⟨e,hz,hee⟩ | ⟨d,l9,hz,hee⟩
           ·cases hee
            refine ag _ (ih.e true _ L base hL H0 j (HZ+1) _ h3 hz) ?_;rintro ⟨z1,z2⟩ ⟨he,j,l',h2,h3⟩
            cases h2
            refine aw (by simp only [aq,cl]; omega) ?_;exact aa ⟨he,_,j,l',Z,h3⟩
           ·cases hee
          ·
           rw [if_neg hc] at hy; cases hy
         rintro _ ⟨he,ks,j,l',rfl,h3⟩;refine ag _ (gp hL H0 _ he hn hb h3) ?_;rintro _ ⟨j,l',rfl,h3⟩;exact aa ⟨he,j,l',rfl,h3⟩
        ·
         refine ag (λ t=>∃ (j:Nat),t=(ks2,L,(j:Int),HZ+1,base,0,0,[])/\Pos L base j (HZ+1) true l8) ?_ ?_
         ·
          refine ag _ (rb hL H0 _ h3) ?_;rintro ⟨z1,z2⟩ ⟨h1,j,h2,h3⟩;replace h1:z1=_:=h1; subst h1; cases h2;by_cases hc:wdB true l7 [105,102]=true
          ·
           rw [if_pos hc] at hy;refine am hc ?_;refine ag _ (eh hL H0 h3 (wd6 hc)) ?_;rintro ⟨z1,z2⟩ ⟨h1,j,h2,h3,h4,h5⟩;replace h1:z1=_:=h1; subst h1; cases h2;rcases bW hy with ⟨e,hz,hee⟩ | ⟨d,l9,hz,hee⟩
           ·cases hee
           ·
            refine ag _ (ih.e true _ L base hL H0 j (HZ+1) _ h3 hz) ?_;rintro ⟨z1,z2⟩ ⟨h1,j,h2,h3⟩;replace h1:z1=_:=h1; subst h1; cases h2;refine aw (by simp only [aq,cl]; omega) ?_
            cases hee
            exact aa ⟨j,Z,h3⟩
          ·
           rw [if_neg hc] at hy; cases hy;exact ak hc (aa ⟨j,rfl,h3⟩)
         rintro _ ⟨j,rfl,h3⟩;rcases bW hq with ⟨e,hx,rfl⟩ | ⟨u,l9,hx,hq⟩
         ·
          refine ag _ (fc hL H0 _ hn hb h3 hx) ?_;rintro _ ⟨he,j,l',rfl,h3⟩;exact aa ⟨he,j,l',rfl,h3⟩
         ·
          refine ag _ (fc hL H0 _ hn hb h3 hx) ?_;rintro _ ⟨j,rfl,h3,h4⟩
          cases hq
          exact aa ⟨Z,j,Z,h3⟩
theorem Hm {f:Nat}(ih:Fol f):∀ b l,(hd b l).Ar=3->Fl eQ b l (wY (f+1) b l):=by
 intro b l k3 L base hL H0 i HZ q h hq;rw [wY] at hq;refine cJ ?_;simp only [eQ];refine ag _ (fp hL H0 h) ?_;rintro ⟨z1,z2⟩ ⟨h1,j,h2,h3,h4,h5⟩;replace h1:z1=_:=h1; subst h1; cases h2;have tk:=xo (h3.gd hL);have t1':=tk.1;have t2':=tk.2.2.1 k3;refine aw (aK (by show _<=(hd b l).fAt+1; omega) (by show (hd b l).fAt+1<=_; omega)) ?_
 cases ht:qj f (hd b l).Df ((hd b l).fAt+1) with
 | none=>rw [ht] at hq; cases hq
 | some y =>
  rw [ht] at hq;have hf:=(fct f).tm _ _ O O  y ht;refine ao _ (ih.tm (hd b l).Df ((hd b l).fAt+1) y O O  ht) ?_;rcases y with e | e
  ·cases hq
   exact ak hf (ao _ (ar (iQ _ _ _ _) Z) (aa ⟨hf,j,l,Z,h3⟩))
  ·cases hq
   refine am rfl ?_;refine ag _ (eh hL H0 h3 O) ?_;rintro ⟨z1,z2⟩ ⟨h1,j,h2,h3,h4,h5⟩;replace h1:z1=_:=h1; subst h1; cases h2;exact aa ⟨rfl,j,rfl,h3⟩
theorem xe {α:Type} [Inhabited α] (A:List α)(x:α)(R:List α):lat (A++x::R) (A.length:Int)=x:=by
 rw [wF,List.getD_eq_getElem?_getD,List.getElem?_append_right (n6 _),Nat.sub_self]; rfl
theorem xu {α:Type}(A:List α)(x y:α)(R:List α):(A++x::R).set A.length y=A++y::R:=by
 induction A with
 | nil=>rfl
 | cons a A ih=>simp [ih]
theorem G4 (k:Nat):∀ (mid A B:List ab),mid.length<=k->A.length=B.length->A.length+mid.length+B.length<=gg ->
  Ev2 (λ _ m=>jp m (A.length:Int) ((A.length:Int)+mid.length - 1) (A++(mid++B))) (·=A++(mid.reverse++B)):=by
 induction k with
 | zero =>
  intro mid A B hk hAB hW;have:mid=[]:=List.eq_nil_of_length_eq_zero O;subst this;refine aY ?_;simp only [jp];exact ak (by simp; omega) (aa rfl)
 | succ k ih =>
  intro mid A B hk hAB hW;rcases mid with _ | ⟨x,t⟩
  ·refine aY ?_;simp only [jp];exact ak (by simp; omega) (aa Z)
  rcases List.eq_nil_or_concat t with rfl | ⟨m,y,rfl⟩
  ·refine aY ?_;simp only [jp];exact ak G (aa Z)
  refine aY ?_;simp only [jp];unfold gg at hW;simp only [List.concat_eq_append] at hk hW ⊢;simp only [aq,dg,cl] at hk hW;have e1:A++(x::(m++[y])++B)=A++x::(m++y::B):=by simp
  have ej:(A.length:Int)+((x::(m++[y])).length:Nat) - 1=((A++x::m).length:Nat):=by simp; omega
  have e2:A++x::(m++y::B)=(A++x::m)++y::B:=by simp
  have H0:(A++x::(m++y::B)).length=A.length+m.length+B.length+2:=by simp; omega
  have hj:(A++x::m).length=A.length+m.length+1:=by simp; omega
  rw [e1,ej];refine am O (aw ⟨by omega,by omega⟩ (aw ⟨by omega,by omega⟩ (aw (aK O O) (aw (aK O O) ?_))));have l1:lat (A++x::(m++y::B)) (A.length:Int)=x:=xe A x _;have l2:lat (A++x::(m++y::B)) ((A++x::m).length:Nat)=y:=by rw [e2]; exact xe _ y B
  rw [l1,l2,Int.toNat_natCast,Int.toNat_natCast,xu,show A++y::(m++y::B)=(A++y::m)++y::B by simp];rw [show (A++x::m).length=(A++y::m).length by simp,xu];have:=ih m (A++[y]) (x::B) O (by simp [hAB]) (by unfold gg; simp; omega);refine b7 (P:=(·=A++[y]++(m.reverse++x::B))) ?_ (λ r hr=>by rw [hr]; simp);have g1:((A++[y]).length:Int)=(A.length:Int)+1:=by simp
  have g2:((A++[y]).length:Int)+m.length - 1=((A++y::m).length:Nat) - 1:=by simp; omega
  rw [g2,g1] at this;rw [show A++y::m++x::B=A++[y]++(m++x::B) by simp];exact this
theorem zB (l:List ab)(hl:l.length<=gg):Ev2 (λ n _=>gi n l) (·=l.reverse):=by
 simp only [gi];refine aw (by unfold gg at hl; exact aK O O) ?_;have:=bU (G4 l.length l [] [] O rfl (by simpa using hl));simpa using this
inductive Ch:ab->ab->List ab->Prop
 | stop {e:ab} (h4:e.Ar≠4) (h5:e.Ar≠5):Ch e e []
 | step {e k r:ab} {s:List ab} (h:e.Ar=4\/e.Ar=5) (hk:e.By[0]? = some k) (hr:Ch k r s):Ch e r (e::s)
theorem CR {l:List ab}{k:ab}(h:l[0]? = some k):lat l 0=k:=by
 rw [show (0:Int)=((0:Nat):Int) from rfl,wF,List.getD_eq_getElem?_getD,h]; rfl
theorem yO {α:Type}{l:List α}{j:Nat}{k:α}(h:l[j]? = some k):j < l.length:=(List.getElem?_eq_some_iff.1 h).1
theorem zm {e r:ab}{s:List ab}(h:Ch e r s):∀ st:List ab,st.length+s.length<=100000 ->
  Ev2 (λ _ m=>cy m st e.Ar e.fOp e.AI e.E' e.A'.Ar e.A'.F' e.A'.HT e.A'.HQ e.A'.D' e.By e.fAt)
   (·=(st++s,r.Ar,r.fOp,r.AI,r.E',r.A'.Ar,r.A'.F',r.A'.HT,r.A'.HQ,r.A'.D',r.By,r.fAt)):=by
 induction h with
 | @stop e h4 h5 =>
  intro st Ik;refine aY ?_;simp only [cy];refine ag (·=false) (ak h4 (ak h5 (aa rfl))) (λ t ht=>?_);subst ht;exact ak G (aa G)
 | @step e k r s h hk hr ih =>
  intro st Ik;have hl:=yO hk;refine aY ?_;simp only [cy];refine ag (·=true) ?_ (λ t ht=>?_)
  ·rcases h with h | h
   ·exact am h (aa (decide_eq_true O))
   ·exact ak O (am h (aa (decide_eq_true O)))
  subst ht;simp only [aq] at Ik;refine am rfl (aw (by simp; omega) (aw ⟨by omega,by omega⟩ ?_));rw [CR hk,AU];refine b7 (ih (st++[e]) (by simp; omega)) λ x hx=>?_;rw [hx]; simp
theorem yr {e r:ab}{s:List ab}(h:Ch e r s)(hs:s.length<=100000):Ev2 (λ n _=>dZ n e) (·=(r,s.reverse)):=by
 simp only [dZ];refine ag _ (bU (zm h [] (by simpa using hs))) (λ q hq=>?_);subst hq;refine ag _ (zB _ (by unfold gg; simp; omega)) (λ x hx=>aa ?_);rw [hx,AU]; simp
def isA (st:List ab)(i:Nat):Prop:=i < st.length/\(lat st (i:Int)).Ar=4
instance (st:List ab) (i:Nat):Decidable (isA st i):=inferInstanceAs (Decidable (_/\_))
theorem Fs (st:List ab)(i:Nat):ep st (i:Int)=some (if isA st i then ((lat st (i:Int)).AI,true) else ([],false)):=by
 unfold ep isA;by_cases h:i < st.length
 ·have hb:(0:Int)<=i/\(i:Int) < (st.length:Int):=⟨by omega,by omega⟩
  rw [if_neg O];simp only [bI hb,Ff];by_cases h4:(lat st (i:Int)).Ar=4
  ·simp [h,h4]
  ·simp [h4]
 ·rw [if_pos O];simp [h]
theorem yR {k n:Int}(h:ff k n=some true):(k=1/\n=0)\/(k=2/\1<=n)\/(k=3/\n=0)\/(k=4/\n=1)\/(k=5/\n=2)\/(k=6/\n=1)\/(k=7/\n=2)\/(k=8/\n=3)\/k=9\/k=10\/(k=11/\n.tmod 2=0)\/(k=12/\(n=2\/n=3))\/(k=13/\(n=3\/n=4)):=by
 unfold ff ck at h;by_cases h1:k=1
 ·subst h1; simp at h; exact .inl ⟨rfl,h⟩
 by_cases h2:k=2
 ·subst h2; simp at h; exact .inr (.inl ⟨rfl,h⟩)
 by_cases h3:k=3
 ·subst h3; simp at h; omega
 by_cases h4:k=4
 ·subst h4; simp at h; omega
 by_cases h5:k=5
 ·subst h5; simp at h; omega
 by_cases h6:k=6
 ·subst h6; simp at h; omega
 by_cases h7:k=7
 ·subst h7; simp at h; omega
 by_cases h8:k=8
 ·subst h8; simp at h; omega
 by_cases h9:k=9
 ·subst h9; simp
 by_cases h10:k=10
 ·subst h10; simp
 by_cases h11:k=11
 ·subst h11; simp at h; simp [h]
 by_cases h12:k=12
 ·subst h12;by_cases q:n=2
  ·subst q; simp
  ·simp [q] at h; omega
 by_cases h13:k=13
 ·subst h13;by_cases q:n=3
  ·subst q; simp
  ·simp [q] at h; omega
 simp [h1,h2,h3,h4,h5,h6,h7,h8,h9,h10,h11,h12,h13] at h
theorem A5 {v:ah}(h:fU v=some true):v=v0:=by
 obtain ⟨k,n,s,l,y⟩:=v;unfold fU at h;simp only [ah.Ar,ah.F',ah.HT,ah.HQ,ah.D'] at h;by_cases h1:k=0 <;> by_cases h2:n=0 <;> by_cases h3:s=[] <;> by_cases h4:l=[] <;> by_cases h5:y=[] <;> simp [h1,h2,h3,h4,h5] at h;subst h1 h2 h3 h4 h5
 rfl
theorem Ck (v:ah):∃ b,fU v=some b:=by
 unfold fU
 repeat' split
 all_goals exact ⟨_,Z⟩
inductive Be:ah->Prop where
 | null:Be v0
 | bool (n:Int) (h:n=0\/n=1):Be (ah.mk 1 n [] [] [])
 | num (n:Int) (h0:0<=n) (h:n<=jK):Be (ah.mk 2 n [] [] [])
 | str (s:Bytes) (h:validD s=true) (hl:s.length<=4096):Be (ah.mk 3 0 s [] [])
inductive Shp:ab->Prop where
 | lit (v:ah) (a:Int) (h:Be v):Shp (yS v a)
 | tmpl (l:List ab) (a:Int) (h:l≠[]):Shp (ab.mk 2 0 [] [] v0 l a)
 | name (s:Bytes) (a:Int) (hi:bH s=true) (hr:gC s=false):Shp (ab.mk 3 0 s [] v0 [] a)
 | attr (s:Bytes) (x:ab) (a:Int) (hi:bH s=true):Shp (ab.mk 4 0 s [] v0 [x] a)
 | idx (x y:ab) (a:Int):Shp (ab.mk 5 0 [] [] v0 [x,y] a)
 | un (o:Int) (x:ab) (a:Int) (h:o=1\/o=2):Shp (ab.mk 6 o [] [] v0 [x] a)
 | bin (o:Int) (x y:ab) (a:Int) (h:3<=o/\o<=15):Shp (ab.mk 7 o [] [] v0 [x,y] a)
 | cond (x y z:ab) (a:Int):Shp (ab.mk 8 0 [] [] v0 [x,y,z] a)
 | call (s:Bytes) (l:List ab) (a:Int) (hi:bH s=true) (hr:gC s=false):Shp (ab.mk 9 0 s [] v0 l a)
 | list (l:List ab) (a:Int):Shp (ab.mk 10 0 [] [] v0 l a)
 | map (l:List ab) (a:Int) (h:l.length % 2=0):Shp (ab.mk 11 0 [] [] v0 l a)
 | loop (m:Bool) (s y:Bytes) (x c:ab) (dl fl:List ab) (a:Int) (hi:bH s=true) (hr:gC s=false) (hy:y=[]\/bH y=true/\gC y=false) (hd:m=false/\dl=[]\/m=true/\∃ d,dl=[d]) (hf:fl=[]\/∃ f,fl=[f]):Shp (ab.mk (if m then 13 else 12) 0 s y v0 ([x,c]++dl++fl) a)
theorem len1 {α:Type}{l:List α}(h:(l.length:Int)=1):∃ x,l=[x]:=by
 match l,h with
 | [x],_=>exact ⟨x,Z⟩
 | [],h=>simp at h
 | _::_::_,h=>simp only [aq] at h; omega
theorem GW {α:Type}{l:List α}(h:(l.length:Int)=2):∃ x y,l=[x,y]:=by
 match l,h with
 | [x,y],_=>exact ⟨x,y,Z⟩
 | [],h=>simp at h
 | [_],h=>simp at h
 | _::_::_::_,h=>simp only [aq] at h; omega
theorem Gj {α:Type}{l:List α}(h:(l.length:Int)=3):∃ x y z,l=[x,y,z]:=by
 match l,h with
 | [x,y,z],_=>exact ⟨x,y,z,Z⟩
 | [],h=>simp at h
 | [_],h=>simp at h
 | [_,_],h=>simp at h
 | _::_::_::_::_,h=>simp only [aq] at h; omega
theorem len4 {α:Type}{l:List α}(h:(l.length:Int)=4):∃ x y z w,l=[x,y,z,w]:=by
 match l,h with
 | [x,y,z,w],_=>exact ⟨x,y,z,w,Z⟩
 | [],h=>simp at h
 | [_],h=>simp at h
 | [_,_],h=>simp at h
 | [_,_,_],h=>simp at h
 | _::_::_::_::_::_,h=>simp only [aq] at h; omega
theorem Gn {v:ah}(hk:v.Ar=0\/v.Ar=1\/v.Ar=2\/v.Ar=3)(hn:v.Ar=2->0<=v.F')(h:sC v=0):Be v:=by
 obtain ⟨k,n,s,l,y⟩:=v;simp only [ah.Ar,ah.F'] at hk hn
 have h:(if k=1/\n≠0/\n≠1\/k≠1/\k≠2/\n≠0\/k≠3/\s≠[]\/l≠[]\/y≠[] then (1:Int)
  else if k=2/\¬(-jK<=n/\n<=jK) then 5 else if k=3/\4096 < s.length then 3 else if k=3/\validD s=false then 1 else 0)=0:=h
 by_cases q:k=1/\n≠0/\n≠1\/k≠1/\k≠2/\n≠0\/k≠3/\s≠[]\/l≠[]\/y≠[]
 ·rw [if_pos q] at h; cases h
 rw [if_neg q] at h;by_cases q2:k=2/\¬(-jK<=n/\n<=jK)
 ·rw [if_pos q2] at h; cases h
 rw [if_neg q2] at h;by_cases q3:k=3/\4096 < s.length
 ·rw [if_pos q3] at h; cases h
 rw [if_neg q3] at h;by_cases q4:k=3/\validD s=false
 ·rw [if_pos q4] at h; cases h
 simp only [not_or,not_and,Decidable.not_not] at q;obtain ⟨p1,p2,p3,p4,p5⟩:=q;subst p4 p5;rcases hk with rfl | rfl | rfl | rfl
 ·cases p2 O O; cases p3 O; exact .null
 ·cases p3 O
  exact .bool n (by
   by_cases n0:n=0
   ·exact .inl n0
   ·exact .inr (p1 Z n0))
 ·cases p3 O
  simp only [true_and,Decidable.not_not] at q2;exact .num n (hn rfl) q2.2
 ·cases p2 O O
  simp only [true_and,Bool.not_eq_false] at q3 q4;exact .str s q4 O
theorem CM {e:ab}(hb:Sz e)(h:jm e=0):Shp e:=by
 have hs:pr e=true:=by
  unfold jm at h;split at h
  ·cases h
  ·rename_i q; simpa using q
 have h1:=qE hb;rw [hs] at h1;unfold jm at h;rw [if_neg (by rw [hs]; decide)] at h;unfold eY at h1;obtain ⟨zb,hz⟩:=Ck e.A'
 cases hk:ff e.Ar (e.By.length:Int) with
 | none=>rw [hk] at h1; cases h1
 | some kb =>
  cases kb with
  | false=>rw [hk] at h1; simp at h1
  | true =>
   have kf:=yR hk;rw [hk,hz] at h1;obtain ⟨k,o,n,y,v,l,a⟩:=e;simp only [ab.Ar,ab.fOp,ab.AI,ab.E',ab.A',ab.By] at h h1 kf hz;have hzv:zb=true->v=v0:=λ e=>A5 (by rw [hz,e]);rcases kf with ⟨rfl,hl⟩ | ⟨rfl,hl⟩ | ⟨rfl,hl⟩ | ⟨rfl,hl⟩ | ⟨rfl,hl⟩ | ⟨rfl,hl⟩ | ⟨rfl,hl⟩ | ⟨rfl,hl⟩ | rfl | rfl | ⟨rfl,hl⟩ | ⟨rfl,hl⟩ | ⟨rfl,hl⟩
   · -- literals
    have hl:l=[]:=by simpa using hl
    subst hl;have h:sC v=0:=by simpa using h
    by_cases ky:y=[]
    ·by_cases nm:n=[]
     ·subst ky nm;by_cases ho:o=0
      ·subst ho;refine .lit v a (Gn ?_ ?_ h)
       ·by_cases q0:v.Ar=0
        ·exact .inl q0
        by_cases q1:v.Ar=1
        ·exact .inr (.inl q1)
        by_cases q3:v.Ar=3
        ·exact .inr (.inr (.inr q3))
        by_cases q2:v.Ar=2
        ·exact .inr (.inr (.inl q2))
        simp [aZ,aO,q0,q1,q2,q3] at h1
       ·intro q2;simp [aZ,aO,q2] at h1;exact of_decide_eq_true h1
      ·simp [aZ,aO,ho] at h1
     ·simp [aZ,aO,ky,nm] at h1
    ·simp [aZ,aO,ky] at h1
   ·have hy:y=[]:=by by_cases q:y=[] <;> first | exact q | (exfalso; simp [aZ,aO,q] at h1)
    have hn:n=[]:=by by_cases q:n=[] <;> first | exact q | (exfalso; simp [aZ,aO,q,hy] at h1)
    subst hy hn;simp [aZ,aO] at h1
    cases hzv (by cases zb <;> simp at h1 ⊢)
    have ho:o=0:=by cases zb <;> simp at h1 <;> exact of_decide_eq_true h1
    subst ho;exact .tmpl l a (by rintro rfl; simp at hl)
   ·have hl:l=[]:=by simpa using hl
    have hy:y=[]:=by by_cases q:y=[] <;> first | exact q | (exfalso; simp [aZ,aO,q] at h1)
    subst hy hl;simp [aZ,aO] at h1 h
    cases hzv (by cases zb <;> simp at h1 ⊢)
    have ho:o=0:=by cases zb <;> simp at h1 <;> exact of_decide_eq_true h1
    subst ho;exact .name n a h.1 h.2
   ·obtain ⟨x,rfl⟩:=len1 hl;have hy:y=[]:=by by_cases q:y=[] <;> first | exact q | (exfalso; simp [aZ,aO,q] at h1)
    subst hy;simp [aZ,aO] at h1 h
    cases hzv (by cases zb <;> simp at h1 ⊢)
    have ho:o=0:=by cases zb <;> simp at h1 <;> exact of_decide_eq_true h1
    subst ho;exact .attr n x a h
   ·obtain ⟨x,z,rfl⟩:=GW hl;have hy:y=[]:=by by_cases q:y=[] <;> first | exact q | (exfalso; simp [aZ,aO,q] at h1)
    have hn:n=[]:=by by_cases q:n=[] <;> first | exact q | (exfalso; simp [aZ,aO,q,hy] at h1)
    subst hy hn;simp [aZ,aO] at h1
    cases hzv (by cases zb <;> simp at h1 ⊢)
    have ho:o=0:=by cases zb <;> simp at h1 <;> exact of_decide_eq_true h1
    subst ho;exact .idx x z a
   ·obtain ⟨x,rfl⟩:=len1 hl;have hy:y=[]:=by by_cases q:y=[] <;> first | exact q | (exfalso; simp [aZ,aO,q] at h1)
    have hn:n=[]:=by by_cases q:n=[] <;> first | exact q | (exfalso; simp [aZ,aO,q,hy] at h1)
    subst hy hn;simp [aZ,aO] at h1
    cases hzv (by cases zb <;> simp at h1 ⊢)
    refine .un o x a ?_;by_cases o1:o=1
    ·exact .inl o1
    ·cases zb <;> simp [o1] at h1
     exact .inr (of_decide_eq_true h1)
   ·obtain ⟨x,z,rfl⟩:=GW hl;have hy:y=[]:=by by_cases q:y=[] <;> first | exact q | (exfalso; simp [aZ,aO,q] at h1)
    have hn:n=[]:=by by_cases q:n=[] <;> first | exact q | (exfalso; simp [aZ,aO,q,hy] at h1)
    subst hy hn;simp [aZ,aO] at h1
    cases hzv (by cases zb <;> simp at h1 ⊢)
    refine .bin o x z a ?_;by_cases o1:3<=o
    ·cases zb <;> simp [o1] at h1
     exact ⟨o1,of_decide_eq_true h1⟩
    ·cases zb <;> simp [o1] at h1
   ·obtain ⟨x,z,w,rfl⟩:=Gj hl;have hy:y=[]:=by by_cases q:y=[] <;> first | exact q | (exfalso; simp [aZ,aO,q] at h1)
    have hn:n=[]:=by by_cases q:n=[] <;> first | exact q | (exfalso; simp [aZ,aO,q,hy] at h1)
    subst hy hn;simp [aZ,aO] at h1
    cases hzv (by cases zb <;> simp at h1 ⊢)
    have ho:o=0:=by cases zb <;> simp at h1 <;> exact of_decide_eq_true h1
    subst ho;exact .cond x z w a
   ·have hy:y=[]:=by by_cases q:y=[] <;> first | exact q | (exfalso; simp [aZ,aO,q] at h1)
    subst hy;simp [aZ,aO] at h1 h
    cases hzv (by cases zb <;> simp at h1 ⊢)
    have ho:o=0:=by cases zb <;> simp at h1 <;> exact of_decide_eq_true h1
    subst ho;exact .call n l a h.1 h.2
   ·have hy:y=[]:=by by_cases q:y=[] <;> first | exact q | (exfalso; simp [aZ,aO,q] at h1)
    have hn:n=[]:=by by_cases q:n=[] <;> first | exact q | (exfalso; simp [aZ,aO,q,hy] at h1)
    subst hy hn;simp [aZ,aO] at h1
    cases hzv (by cases zb <;> simp at h1 ⊢)
    have ho:o=0:=by cases zb <;> simp at h1 <;> exact of_decide_eq_true h1
    subst ho;exact .list l a
   ·have hy:y=[]:=by by_cases q:y=[] <;> first | exact q | (exfalso; simp [aZ,aO,q] at h1)
    have hn:n=[]:=by by_cases q:n=[] <;> first | exact q | (exfalso; simp [aZ,aO,q,hy] at h1)
    subst hy hn;simp [aZ,aO] at h1
    cases hzv (by cases zb <;> simp at h1 ⊢)
    have ho:o=0:=by cases zb <;> simp at h1 <;> exact of_decide_eq_true h1
    subst ho;refine .map l a ?_;rw [Int.tmod_eq_emod_of_nonneg O] at hl;omega
   ·simp [aZ,aO] at h1 h
    cases hzv (by cases zb <;> simp at h1 ⊢)
    have ho:o=0:=by cases zb <;> simp at h1 <;> exact of_decide_eq_true h1
    subst ho
    have hi:bH n=true/\gC n=false:=by
     by_cases q:bH n=false\/gC n=true
     ·simp [q] at h
     ·simpa using q
    have hy:y=[]\/bH y=true/\gC y=false:=by
     simp [hi] at h;by_cases q:¬y=[]/\(bH y=false\/gC y=true)
     ·simp [q] at h
     ·by_cases y0:y=[]
      ·exact .inl y0
      ·simp [y0] at q; exact .inr q
    rcases hl with hl | hl
    ·obtain ⟨x,z,rfl⟩:=GW hl;exact .loop false n y x z [] [] a hi.1 hi.2 hy (.inl ⟨rfl,rfl⟩) (.inl rfl)
    ·obtain ⟨x,z,w,rfl⟩:=Gj hl;exact .loop false n y x z [] [w] a hi.1 hi.2 hy (.inl ⟨rfl,rfl⟩) (.inr ⟨w,rfl⟩)
   ·simp [aZ,aO] at h1 h
    cases hzv (by cases zb <;> simp at h1 ⊢)
    have ho:o=0:=by cases zb <;> simp at h1 <;> exact of_decide_eq_true h1
    subst ho
    have hi:bH n=true/\gC n=false:=by
     by_cases q:bH n=false\/gC n=true
     ·simp [q] at h
     ·simpa using q
    have hy:y=[]\/bH y=true/\gC y=false:=by
     simp [hi] at h;by_cases q:¬y=[]/\(bH y=false\/gC y=true)
     ·simp [q] at h
     ·by_cases y0:y=[]
      ·exact .inl y0
      ·simp [y0] at q; exact .inr q
    rcases hl with hl | hl
    ·obtain ⟨x,z,w,rfl⟩:=Gj hl;exact .loop true n y x z [w] [] a hi.1 hi.2 hy (.inr ⟨rfl,w,rfl⟩) (.inl rfl)
    ·obtain ⟨x,z,w,u,rfl⟩:=len4 hl;exact .loop true n y x z [w] [u] a hi.1 hi.2 hy (.inr ⟨rfl,w,rfl⟩) (.inr ⟨u,rfl⟩)
inductive VE:Nat->ab->Prop where
 | mk {lv:Nat} {e:ab} (h:lv<=32) (s:Shp e) (c:chk e=0) (b:e.By.length<=4000000000) (k:∀ x∈e.By,VE (lv+1) x):VE lv e
theorem zy (e:ab):1<=oH e:=by rw [pL]; omega
theorem vW {x:ab}:∀ {l:List ab},x∈l->oH x<=kF l
 | y::l,h=>by
  simp only [kF];rcases ur.1 h with rfl | h
  ·omega
  ·have:=vW h; omega
def VM (e:ab):Prop:=∀ c lv,(lr c lv e).1=0->(lr c lv e).2=c+oH e/\∀ c' lv',c'<=c->lv'<=lv->(lr c' lv' e).1=0
theorem vml:∀ (l:List ab),(∀ x∈l,VM x)->∀ c lv,(jV c lv l).1=0->(jV c lv l).2=c+kF l/\(∀ c' lv',c'<=c->lv'<=lv->(jV c' lv' l).1=0)/\∀ x∈l,∃ d,(lr d lv x).1=0
 | [],_,c,lv,_=>by
  refine ⟨by simp [jV,kF],λ c' lv' _ _=>by simp [jV],λ x hx=>by cases hx⟩
 | x::r,h,c,lv,h0=>by
  rw [mc] at h0 ⊢;have hx:=h x List.mem_cons_self c lv;by_cases q:(lr c lv x).1=0
  ·rw [if_pos q] at h0 ⊢;obtain ⟨x1,x2⟩:=hx q;obtain ⟨r1,r2,r3⟩:=vml r (λ y hy=>h y (List.mem_cons_of_mem _ hy)) _ lv h0;refine ⟨by rw [r1,x1]; simp only [kF]; omega,λ c' lv' h1 h2=>?_,λ y hy=>?_⟩
   ·rw [mc,if_pos (x2 c' lv' h1 h2)];have:=(h x List.mem_cons_self c' lv' (x2 c' lv' h1 h2)).1;exact r2 _ lv' (by rw [this,x1]; omega) h2
   ·rcases ur.1 hy with rfl | hy
    ·exact ⟨c,q⟩
    ·exact r3 y hy
  ·rw [if_neg q] at h0; exact absurd h0 q
theorem x8 {e:ab}(hb:ab.Bd e):VM e:=by
 induction hb with
 | @mk x bKind bOp bName bKey bValue bKids eKids bAt ih =>
  intro c lv h;rw [kQ] at h ⊢;by_cases q1:32 < lv
  ·rw [if_pos q1] at h; cases h
  by_cases q2:4096<=c
  ·rw [if_neg q1,if_pos q2] at h; cases h
  by_cases q3:jm x=0
  ·rw [if_neg q1,if_neg q2,if_pos q3] at h ⊢;obtain ⟨l1,l2,-⟩:=vml x.By ih _ _ h;refine ⟨by rw [l1,pL]; omega,λ c' lv' h1 h2=>?_⟩;rw [kQ,if_neg O,if_neg O,if_pos q3];exact l2 _ _ O O
  ·rw [if_neg q1,if_neg q2,if_neg q3] at h; exact absurd h q3
theorem tz:∀ l:List ab,l.length<=kF l
 | []=>rd _
 | x::l=>by
  have:=tz l; have:=zy x;simp only [kF,aq]; omega
theorem HA {e:ab}(hb:ab.Bd e):∀ c lv,1<=lv->oH e<=1000->(lr c lv e).1=0->VE lv e:=by
 induction hb with
 | @mk x bKind bOp bName bKey bValue bKids eKids bAt ih =>
  intro c lv h1 hn h;have hB:ab.Bd x:=.mk bKind bOp bName bKey bValue bKids eKids bAt;have hc:chk x=0:=(x8 hB c lv h).2 0 1 (rd _) h1;rw [kQ] at h;by_cases q1:32 < lv
  ·rw [if_pos q1] at h; cases h
  by_cases q2:4096<=c
  ·rw [if_neg q1,if_pos q2] at h; cases h
  by_cases q3:jm x=0
  ·rw [if_neg q1,if_neg q2,if_pos q3] at h;obtain ⟨-,-,l3⟩:=vml x.By (λ y hy=>x8 (eKids y hy)) _ _ h;rw [pL] at hn;refine .mk O (CM (FO hB) q3) hc (by have:=tz x.By; omega) λ y hy=>?_;obtain ⟨d,hd⟩:=l3 y hy;exact ih y hy d (lv+1) O (by have:=vW hy; omega) hd
  ·rw [if_neg q1,if_neg q2,if_neg q3] at h; exact absurd h q3
theorem FX {p:UInt8->Bool}{t x:Bytes}(ht:∀ z∈t,p z=true)(hx:∀ z∈x.head?,p z=false):(t++x).takeWhile p=t/\(t++x).dropWhile p=x:=by
 induction t with
 | nil =>
  cases x with
  | nil=>exact ⟨Z,Z⟩
  | cons z x =>
   have:=hx z rfl;rw [List.nil_append,List.takeWhile_cons,List.dropWhile_cons];simp [this]
 | cons a t ih =>
  have ha:=ht a List.mem_cons_self;obtain ⟨i1,i2⟩:=ih (λ z hz=>ht z (List.mem_cons_of_mem _ hz));rw [List.cons_append,List.takeWhile_cons,List.dropWhile_cons,if_pos ha,if_pos ha,i1,i2];exact ⟨rfl,rfl⟩
theorem Gy {b:UInt8}(h:ko b=true):b.toNat≠10/\b.toNat≠34/\b.toNat≠35/\lF b=false:=by
 have h1:=(nS b).1 h;refine ⟨by omega,by omega,by omega,?_⟩;simp [lF]; omega
theorem xT {s:Bytes}{i:Nat}{b:UInt8}{r:Bytes}(h:s.drop i=b::r):s.getD i 0=b/\i < s.length/\s.drop (i+1)=r:=by
 have hi:i < s.length:=by
  rcases Nat.lt_or_ge i s.length with q | q
  ·exact q
  ·rw [List.drop_eq_nil_of_le q] at h; cases h
 rw [List.drop_eq_getElem_cons hi] at h
 injection h with h1 h2
 refine ⟨?_,hi,h2⟩;rw [<- h1]; simp [hi]
theorem FA {s:Bytes}{i:Nat}(h:s.drop i=[]):s.length<=i:=List.drop_eq_nil_iff.1 h
theorem vM (s:Bytes)(i k:Nat):s.drop (i+k)=(s.drop i).drop k:=by rw [List.drop_drop]
theorem F9 {s r:Bytes}(h:r <:+ s):s.drop (s.length - r.length)=r:=(List.suffix_iff_eq_drop.1 h).symm
theorem gh (l p:Bytes):strings_HasPrefix l p=some (hasPrefix l p):=rfl
def CO (s:Bytes)(y:Option Bytes)(r:Unit⊕Int):Prop:=match y with
 | none=>r=.inl ()\/r=.inr (-1)
 | some r'=>r=.inr ((s.length:Int) - (r'.length:Int) - 1)
def Gf (s:Bytes):Option Bytes->Int
 | none=>-1
 | some r'=>(s.length:Int) - (r'.length:Int) - 1
theorem AL {s:Bytes}{i:Int}{y:Option Bytes}(h:Ev2 (λ n m=>dX (fx n) s m i 1) (CO s y)):Ev2 (λ n _=>d4 n s i) (·=Gf s y):=by
 refine cJ ?_;simp only [d4];refine eC (b7 (bU (f:=λ n m=>dX (fx n) s m i 1) h) ?_)
 cases y with
 | none =>
  rintro r (rfl | rfl)
  ·exact aa Z
  ·rfl
 | some r'=>rintro r rfl; rfl
theorem EJ {s:Bytes}{i:Int}{y:Option Bytes}(h:Ev2 (λ n m=>ey (d4 n) s m i) (CO s y)):Ev2 (λ n _=>fx n s i) (·=Gf s y):=by
 refine cJ ?_;simp only [fx];refine eC (b7 (bU (f:=λ n m=>ey (d4 n) s m i) h) ?_)
 cases y with
 | none =>
  rintro r (rfl | rfl)
  ·exact aa Z
  ·rfl
 | some r'=>rintro r rfl; rfl
theorem CP {s:Bytes}(hs:s.length<=1000000000):∀ (f:Nat),
  (∀ (d i:Nat) (ci di:Int) (y:Option Bytes),ci=i->di=d->1<=d->d+(s.drop i).length<=2000000000->i<=1000000010->kr f d (s.drop i)=some y->Ev2 (λ n m=>dX (fx n) s m ci di) (CO s y)) /\
  (∀ (i:Nat) (ci:Int) (y:Option Bytes),ci=i->i<=1000000010->mK f (s.drop i)=some y->Ev2 (λ n m=>ey (d4 n) s m ci) (CO s y))
 | 0=>⟨λ d i ci di y _ _ _ _ _ h=>(by rw [kr] at h; cases h),λ i ci y _ _ h=>(by rw [mK] at h; cases h)⟩
 | f+1=>by
  obtain ⟨i1,i2⟩:=CP hs f;constructor
  ·intro d i ci di y hci hdi h1 hd hi h;refine aY ?_;simp only [dX]
   cases hl:s.drop i with
   | nil =>
    rw [hl,kr] at h; cases h;have:=FA hl;exact ak O (aa (.inl rfl))
   | cons b r =>
    obtain ⟨g1,g2,g3⟩:=xT hl;have hb:byt s ci=(b.toNat:Int):=by rw [hci,gD,g1]
    rw [hl,kr] at h;rw [hl,aq] at hd;refine am O (aw O ?_);rw [hb];refine eC ?_;by_cases h123:b.toNat=123
    ·rw [if_pos h123] at h;refine am O (aw (aK O O) (aa (aw (aK (by show _<=ci+1; omega) (by show ci+1<=_; omega)) ?_)));exact i1 (d+1) (i+1) (ci+1) (di+1) y O O O (by rw [g3]; omega) O (by rw [g3]; exact h)
    rw [if_neg h123] at h;refine ak O ?_;by_cases h125:b.toNat=125
    ·rw [if_pos h125] at h;refine am O (aw (aK O O) ?_);by_cases hd1:d=1
     ·rw [if_pos hd1] at h; cases h;have hlr:r.length=s.length - (i+1):=by rw [<- g3,n8]
      refine am O (aa ?_);show Sum.inr ci=Sum.inr _;congr 1; omega
     ·rw [if_neg hd1] at h;refine ak O (aa (aw (aK (by show _<=ci+1; omega) (by show ci+1<=_; omega)) ?_));exact i1 (d - 1) (i+1) (ci+1) (di - 1) y O O O (by rw [g3]; omega) O (by rw [g3]; exact h)
    rw [if_neg h125] at h;refine ak O ?_;by_cases h34:b.toNat=34
    ·rw [if_pos h34] at h;refine am O (aw (aK O O) ?_)
     cases hq:mK f r with
     | none=>rw [hq] at h; cases h
     | some z =>
      rw [hq] at h;refine ao _ (EJ (i2 (i+1) (ci+1) z O O  (by rw [g3]; exact hq))) ?_
      cases z with
      | none=>cases h; exact am (show (-1:Int) < 0 by decide) (aa (.inr rfl))
      | some r' =>
       have hsf:=(pm f).2 _ _ hq;have H2:=hsf.1.length_le;have hrl:r.length=s.length - (i+1):=by rw [<- g3,n8]
       have hrs:r' <:+ s:=by rw [<- g3] at hsf; exact hsf.1.trans (List.drop_suffix _ _)
       have hsd:=F9 hrs;refine ak (by show ¬ (s.length:Int) - (r'.length:Int) - 1 < 0; omega) (aa (aw (aK (by show _<=(s.length:Int) - (r'.length:Int) - 1+1; omega) (by show (s.length:Int) - (r'.length:Int) - 1+1<=_; omega)) ?_));exact i1 d (s.length - r'.length) _ di y (by show (s.length:Int) - (r'.length:Int) - 1+1=_; omega) hdi h1 (by rw [hsd]; omega) O (by rw [hsd]; exact h)
    ·rw [if_neg h34] at h;refine ak O (aa (aw (aK (by show _<=ci+1; omega) (by show ci+1<=_; omega)) ?_));exact i1 d (i+1) (ci+1) di y O O O (by rw [g3]; omega) O (by rw [g3]; exact h)
  ·intro i ci y hci hi h;refine aY ?_;simp only [ey]
   cases hl:s.drop i with
   | nil =>
    rw [hl,mK] at h; cases h;have:=FA hl;exact ak O (aa (.inl rfl))
   | cons b r =>
    obtain ⟨g1,g2,g3⟩:=xT hl;have hb:byt s ci=(b.toNat:Int):=by rw [hci,gD,g1]
    have hsub:sub s ci (s.length:Int)=b::r:=by rw [km,hci,Int.toNat_natCast,hl]
    rw [hl,mK] at h;refine am O ?_;rw [hb,hsub];refine eC (aw O ?_);by_cases h34:b.toNat=34
    ·rw [if_pos h34] at h; cases h;have hlr:r.length=s.length - (i+1):=by rw [<- g3,n8]
     refine am O (aa ?_);show Sum.inr ci=Sum.inr _;congr 1; omega
    rw [if_neg h34] at h;refine ak O (aw O ?_);by_cases h92:b.toNat=92
    ·rw [if_pos h92] at h;refine am O (aw (aK O O) (aa (aw (aK O O) ?_)));exact i2 (i+1+1) (ci+1+1) y O O  (by rw [vM s (i+1) 1,g3]; exact h)
    rw [if_neg h92] at h;refine ak O (aw O (ao _ (ar (gh _ _) rfl) ?_));by_cases hp3:hasPrefix (b::r) [36,36,123]=true
    ·rw [if_pos hp3] at h;refine am hp3 (aw (aK O O) (aa (aw (aK O O) ?_)));exact i2 (i+3) (ci+2+1) y O O  (by rw [vM s i 3,hl]; exact h)
    rw [if_neg hp3] at h;refine ak hp3 (aw O (ao _ (ar (gh _ _) rfl) ?_));by_cases hp2:hasPrefix (b::r) [36,123]=true
    ·rw [if_pos hp2] at h;refine am hp2 (aw (aK O O) ?_)
     cases hq:kr f 1 ((b::r).drop 2) with
     | none=>rw [hq] at h; cases h
     | some z =>
      rw [hq] at h;have e2:s.drop (i+2)=(b::r).drop 2:=by rw [vM s i 2,hl]
      refine ao _ (AL (i1 1 (i+2) (ci+2) 1 z O rfl (by decide) (by rw [n8]; omega) O (by rw [e2]; exact hq))) ?_
      cases z with
      | none=>cases h; exact am (show (-1:Int) < 0 by decide) (aa (.inr rfl))
      | some r' =>
       have hsf:=(pm f).1 _ _ _ hq;have H2:=hsf.1.length_le;have hrl:((b::r).drop 2).length=s.length - (i+2):=by rw [<- e2,n8]
       have hrs:r' <:+ s:=by rw [<- e2] at hsf; exact hsf.1.trans (List.drop_suffix _ _)
       have hsd:=F9 hrs;refine ak (by show ¬ (s.length:Int) - (r'.length:Int) - 1 < 0; omega) (aa (aw (aK (by show _<=(s.length:Int) - (r'.length:Int) - 1+1; omega) (by show (s.length:Int) - (r'.length:Int) - 1+1<=_; omega)) ?_));exact i2 (s.length - r'.length) _ y (by show (s.length:Int) - (r'.length:Int) - 1+1=_; omega) O (by rw [hsd]; exact h)
    ·rw [if_neg hp2] at h;refine ak hp2 (aa (aw (aK O O) ?_));exact i2 (i+1) (ci+1) y O O  (by rw [g3]; exact h)
theorem rW:∀ (k:Nat) (l:Bytes) (a:Nat) (x:Bytes),(cD k l a).2 < l.length->cD k (l.take ((cD k l a).2+1)++x) a=cD k l a
 | 0,l,a,x,_=>by rw [cD,cD]
 | k+1,[],a,x,h=>by simp at h
 | k+1,b::r,a,x,h=>by
  have e:cD (k+1) (b::r) a=match rj b with
   | some d=>((cD k r (16*a+d)).1,(cD k r (16*a+d)).2+1)
   | none=>(a,0):=by rw [cD]; cases rj b <;> rfl
  cases hd:rj b with
  | none =>
   rw [hd] at e;rw [e];show cD (k+1) (b::x) a=_;rw [cD,hd]
  | some d =>
   rw [hd] at e;simp only at e;rw [e] at h ⊢;have ih:=rW k r (16*a+d) x (by simp only [aq] at h; omega);show cD (k+1) (b::(r.take ((cD k r (16*a+d)).2+1)++x)) a=_;rw [cD,hd];simp only [ih]
theorem zJ (b:UInt8):strings_IndexByte ([48,49,50,51,52,53,54,55,56,57,97,98,99,100,101,102]:Bytes) (b.toNat:Int)=some (indexByte CV b)/\decide (0<=indexByte CV b)=(rj b).isSome:=by
 constructor
 ·unfold strings_IndexByte;have:((b.toNat:Int).toNat.toUInt8)=b:=by simp
  rw [this]; rfl
 ·rw [wi]
  cases rj b with
  | none=>rfl
  | some d=>simp
theorem Ek (s:Bytes)(_hs:s.length<=1000000000):∀ (k i a:Nat),i+k=6->i<=s.length->Ev2 (λ _ m=>cE s m (i:Int)) (·=((i+(cD k (s.drop i) a).2:Nat):Int)):=by
 intro k
 induction k with
 | zero =>
  intro i a hi hl;refine aY ?_;simp only [cE];refine ao false (aI (λ _=>ak O (aa rfl)) (λ _=>aa rfl)) (ak qr (aa ?_));rw [cD]; rfl
 | succ k ih =>
  intro i a hi hl;refine aY ?_;simp only [cE]
  cases hd:s.drop i with
  | nil =>
   have:=FA hd;refine ao false (ak O (aa Z)) (ak qr (aa ?_));rw [cD]; rfl
  | cons b r =>
   obtain ⟨g1,g2,g3⟩:=xT hd;have hb:byt s (i:Int)=(b.toNat:Int):=by rw [gD,g1]
   refine ao (rj b).isSome ?_ ?_
   ·refine am O (am O (aw O ?_));rw [hb];exact ao _ (ar (zJ b).1 Z) (aa (zJ b).2)
   ·rw [cD]
    cases hx:rj b with
    | none=>exact ak qr (aa Z)
    | some d =>
     refine am rfl (aw (aK O O) ?_);have:=pg (P:=λ j=>Ev2 (λ _ m=>cE s m j) _) (ih (i+1) (16*a+d) O O);refine b7 this ?_;rintro _ rfl;rw [g3]; congr 1; simp only []; omega
theorem Ex (s:Bytes)(hs:s.length<=1000000000):Ev2 (λ n _=>gX n s) (·=((cD 6 s 0).2:Int)):=by
 simp only [gX];refine ao _ (bU (f:=λ _ m=>cE s m 0) (Ek s hs 6 0 0 rfl (rd _))) (aa ?_);rw [List.drop_zero,Nat.zero_add]
theorem CY (b:UInt8)(r:Bytes)(h:b.toNat < 128):decodeL (b::r)=(b.toNat,1):=by
 have e:=Bz b h;have h2:=Ay (b.toNat:Int) (by unfold ib; omega) r;rw [e] at h2;simpa using h2
theorem Ht (r:Bytes):(decodeL (92::r)).1=92:=by
 have:=CY (92:UInt8) r (by decide);rw [this]; rfl
theorem D7 (x:Bytes):((d5 (x++[34])).2.2=0->(d5 (x++[34])).2.1=(x.length:Int)->(Da (34::92::(x++[34]))).1=encodeRune (d5 (x++[34])).1/\(Da (34::92::(x++[34]))).2.2=0)/\((d5 (x++[34])).2.2≠0->(Da (34::92::(x++[34]))).2.2≠0):=by
 have h34:(34:UInt8).toNat=34:=rfl;rw [vC,if_pos h34,pX,if_neg (show ¬ (92:UInt8).toNat=34 by decide),if_pos (Ht _)];constructor
 ·intro h0 h1;rw [if_pos h0,h1,Int.toNat_natCast,List.drop_left];have hn:(92::(x++[34])).length=(x.length+1)+1:=by simp
  rw [hn,pX,if_pos h34];have hr:=(ra (x++[34])).2.2.1 h0;have hle:=nu _ hr.1;simp only [List.nil_append];rw [if_neg O,if_neg O];exact ⟨rfl,rfl⟩
 ·intro h0;rw [if_neg h0];exact h0
theorem EU {c:UInt8}(h:c.toNat≠117)(t t':Bytes):d5 (c::t)=d5 (c::t')/\((d5 (c::t)).2.2=0->(d5 (c::t)).2.1=1)/\((d5 (c::t)).2.2≠0->(d5 (c::t)).2.2=2):=by
 have e:∀ t:Bytes,d5 (c::t)=if c.toNat=110 then (10,1,0) else if c.toNat=114 then (13,1,0) else if c.toNat=116 then (9,1,0) else if c.toNat=34\/c.toNat=92 then ((c.toNat:Int),1,0) else (0,0,2):=λ t=>by
  rw [rn];simp only [if_neg h]
 rw [e t,e t'];refine ⟨rfl,?_⟩;by_cases h1:c.toNat=110
 ·rw [if_pos h1]; simp
 rw [if_neg h1];by_cases h2:c.toNat=114
 ·rw [if_pos h2]; simp
 rw [if_neg h2];by_cases h3:c.toNat=116
 ·rw [if_pos h3]; simp
 rw [if_neg h3];by_cases h4:c.toNat=34\/c.toNat=92
 ·rw [if_pos h4]; simp
 rw [if_neg h4]; simp
theorem Al (d:UInt8)(u:Bytes):d5 (117::d::u)=if d.toNat=123 then ((ga u).1,(ga u).2.1+2,(ga u).2.2) else (0,0,2):=by
 rw [rn]; rfl
theorem BC (u:Bytes)(h:(cD 6 u 0).2 < u.length):ga (u.take ((cD 6 u 0).2+1)++[34])=ga u/\((ga u).2.2=0->(ga u).2.1=(((cD 6 u 0).2+1:Nat):Int))/\((ga u).2.2≠0->(ga u).2.2=2):=by
 have e:=rW 6 u 0 [34] h;unfold ga;rw [e];generalize cD 6 u 0=H at h ⊢;obtain ⟨v,c⟩:=H;simp only at h ⊢
 have l1:¬ c=(u.take (c+1)++[34]).length:=by
  rw [dg,List.length_take,List.length_singleton]; omega
 have g1:∀ k,k<=c->(u.take (c+1)++[34]).getD k 0=u.getD k 0:=by
  intro k hk;rw [List.getD_eq_getElem?_getD,List.getD_eq_getElem?_getD,List.getElem?_append_left (by rw [List.length_take]; omega),List.getElem?_take_of_lt O]
 rw [if_neg l1,if_neg (show ¬ c=u.length by omega),g1 c (n6 _),g1 0 (rd _)];refine ⟨rfl,?_⟩;split
 ·simp
 ·simp
def sI (r:Bytes):Bytes×Int×Int:=if (d5 r).2.2=0 then (encodeRune (d5 r).1,(d5 r).2.1+1,0) else ([],0,(d5 r).2.2)
theorem zM {s x:Bytes}{k:Int}(_hs:s.length<=1000000000)(hxs:x.length<=100)(hk:k=((x.length+1:Nat):Int))(hx:s.take (x.length+1)=92::x){q:Bytes×Int×Int}(h0:(d5 (x++[34])).2.2=0->(d5 (x++[34])).2.1=(x.length:Int)/\q=(encodeRune (d5 (x++[34])).1,k,0))(h1:(d5 (x++[34])).2.2≠0->q=([],0,2)) :
  Ev2 (λ n _=>if (s.length:Int) < k then some (([]:Bytes),(0:Int),(40:Int)) else
   ck ((0:Int)<=0/\0<=k/\k<=(s.length:Int)) <|
   ck (([34]:Bytes).length+(sub s 0 k).length<=9223372036854775807) <|
   ck ((([34]:Bytes)++(sub s 0 k)).length+([34]:Bytes).length<=9223372036854775807) <|
   (gW n ((([34]:Bytes)++(sub s 0 k))++([34]:Bytes))).bind λ Jw =>
   if Jw.2.2=0 then some (Jw.1,k,0) else some (([]:Bytes),0,2)) (·=q):=by
 have hl:(92::x).length=x.length+1:=rfl
 have hxl:x.length+1<=s.length:=by
  have:=congrArg List.length hx;rw [List.length_take,hl] at this; omega
 have hsub:sub s 0 k=92::x:=by
  subst hk;show (s.take _).drop 0=_;rw [List.drop_zero,Int.toNat_natCast,hx]
 rw [hsub];refine ak O (aw O (aw (by simp only [aq,cl]; omega) (aw (by simp only [dg,aq,cl]; omega) ?_)));have Ia:((([34]:Bytes)++(92::x))++([34]:Bytes)).length<=1000000000:=by simp only [dg,aq,cl]; omega
 refine ao _ (Gc _ Ia) ?_;have e:(([34]:Bytes)++(92::x))++([34]:Bytes)=34::92::(x++[34]):=rfl;rw [e];obtain ⟨u1,u2⟩:=D7 x;by_cases hz:(d5 (x++[34])).2.2=0
 ·obtain ⟨z1,z2⟩:=h0 hz;obtain ⟨w1,w2⟩:=u1 hz z1;exact am w2 (aa (by rw [w1,z2]))
 ·exact ak (u2 hz) (aa (h1 hz).symm)
theorem FM {r:Bytes}(hs:(92::r:Bytes).length<=1000000000):Ev2 (λ n _=>lA n (92::r)) (·=sI r):=by
 simp only [lA];have hl0:(92::r:Bytes).length=r.length+1:=rfl
 cases r with
 | nil =>
  refine ia 2 (ao false (ar (gh _ _) (by decide)) (ak qr (aa Z))) ?_;exact am (by decide) (aa (by unfold sI; rw [if_neg (by decide)]; rfl))
 | cons c t =>
  by_cases hc:c.toNat=117
  ·have hc':c=117:=(xy (by decide)).1 hc;subst hc';have hp:hasPrefix (92::117::t) [92,117]=true:=by simp [hasPrefix]
   cases t with
   | nil =>
    refine ia 4 (ao true (ar (gh _ _) hp) (am Z (ao false (ak (by decide) (aa Z)) (ak qr (ak (by decide) (aa Z)))))) ?_;exact am (by decide) (aa (by unfold sI; rw [if_neg (by decide)]; rfl))
   | cons d u =>
    have hl:(92::117::d::u:Bytes).length=u.length+3:=rfl;have hb:byt (92::117::d::u) 2=(d.toNat:Int):=rfl;have e:=Al d u;by_cases hd:d.toNat=123
    ·rw [if_pos hd] at e;have hd':d=123:=(xy (by decide)).1 hd
     have h6:Ev2 (λ _ _=>(if (2:Int) < ((92::117::d::u:Bytes).length:Int) then ck ((0:Int)<=2/\(2:Int) < ((92::117::d::u:Bytes).length:Int)) <| some (!decide (byt (92::117::d::u) 2=123)) else some false:Option Bool)) (·=false):=by
      refine am O (aw O (aa ?_));rw [hb,hd]; rfl
     cases u with
     | nil =>
      refine ia 4 (ao true (ar (gh _ _) hp) (am Z (ao false h6 (ak qr (ak G (aa Z)))))) ?_;refine am G (aa ?_);have hx:(ga []).2.2=40:=by decide
      unfold sI;rw [e];show _=if (ga []).2.2=0 then _ else ([],0,(ga []).2.2);rw [hx]; rfl
     | cons v w =>
      have hlv:(v::w).length=w.length+1:=rfl;have hsub:sub (92::117::d::v::w) 3 ((92::117::d::v::w:Bytes).length:Int)=v::w:=by rw [km]; rfl
      have hrun:=pZ 6 (v::w) 0;refine ia (4+((cD 6 (v::w) 0).2:Int)) (ao true (ar (gh _ _) hp) (am Z (ao false h6 (ak qr (am O (aw O ?_)))))) ?_
      ·rw [hsub];exact ao _ (Ex _ O) (aw (aK O O) (aa rfl))
      by_cases hc:(cD 6 (v::w) 0).2=(v::w).length
      ·refine am O (aa ?_);have hx:(ga (v::w)).2.2=40:=by unfold ga; simp only [hc,if_true]
       unfold sI;rw [e];show _=if (ga (v::w)).2.2=0 then _ else ([],0,(ga (v::w)).2.2);rw [hx]; rfl
      ·obtain ⟨x1,x2,x3⟩:=BC (v::w) O;have hlt:((v::w).take ((cD 6 (v::w) 0).2+1)).length=(cD 6 (v::w) 0).2+1:=by rw [List.length_take]; omega
       have ex:d5 ((117::d::(v::w).take ((cD 6 (v::w) 0).2+1))++[34])=d5 (117::d::v::w):=by
        show d5 (117::d::((v::w).take ((cD 6 (v::w) 0).2+1)++[34]))=_;rw [Al,if_pos hd,x1,e]
       refine zM (x:=117::d::(v::w).take ((cD 6 (v::w) 0).2+1)) hs (by simp only [aq,hlt]; omega) (by simp only [aq,hlt]; omega) ?_ ?_ ?_
       ·simp only [aq,hlt]; rfl
       ·rw [ex];intro hz;have hz':(ga (v::w)).2.2=0:=by rw [e] at hz; exact hz
        refine ⟨?_,?_⟩
        ·rw [e]; show (ga (v::w)).2.1+2=_; rw [x2 hz']; simp only [aq,hlt]; omega
        ·unfold sI; rw [if_pos hz];refine Prod.ext Z (Prod.ext ?_ Z);rw [e]; show (ga (v::w)).2.1+2+1=4+((cD 6 (v::w) 0).2:Int); rw [x2 hz']; omega
       ·rw [ex];intro hz;have hz':(ga (v::w)).2.2≠0:=by rw [e] at hz; exact hz
        unfold sI; rw [if_neg hz];rw [e]; show ([],0,(ga (v::w)).2.2)=_; rw [x3 hz']
    ·rw [if_neg hd] at e;refine kH ([],0,2) (ao true (ar (gh _ _) hp) (am rfl (ao true (am O (aw O (aa ?_))) (am rfl (aa rfl))))) ?_
     ·rw [hb]; simp; omega
     ·unfold sI; rw [e]; rfl
  ·have hp:hasPrefix (92::c::t) [92,117]=false:=by
    have:¬ c=117:=λ h=>hc (by rw [h]; rfl);unfold hasPrefix;simp only [List.isPrefixOf,beq_self_eq_true,Bool.true_and];rw [beq_eq_false_iff_ne.2 (λ h=>this h.symm)]; rfl
   obtain ⟨o1,o2,o3⟩:=EU hc t [34];refine ia 2 (ao false (ar (gh _ _) hp) (ak qr (aa rfl))) ?_;refine zM (x:=[c]) hs G rfl rfl ?_ ?_
   ·intro hz;have hz:(d5 (c::[34])).2.2=0:=hz;rw [<- o1] at hz;refine ⟨?_,?_⟩
    ·show (d5 (c::[34])).2.1=_; rw [<- o1,o2 hz]; rfl
    ·unfold sI; rw [if_pos hz,o2 hz];show _=(encodeRune (d5 (c::[34])).1,_,_);rw [<- o1]; rfl
   ·intro hz;have hz:(d5 (c::[34])).2.2≠0:=hz;rw [<- o1] at hz;unfold sI; rw [if_neg hz,o3 hz]
theorem DF (s:Bytes)(a i fr:Int)(text:Bytes)(parts:List ab)(IX:Bool)(h:inR (a+fr)):d7 (.mk s a i fr text parts IX)=some (if 4096 < text.length then ap.mk 3 (a+fr) [] else dOk,.mk s a i fr text parts IX):=by
 unfold d7;by_cases hl:4096 < text.length
 ·rw [if_pos (by show (4096:Int) < (text.length:Int); omega),if_pos hl];exact bI h
 ·rw [if_neg (by show ¬ (4096:Int) < (text.length:Int); omega),if_neg hl]; rfl
def ItO (s:Bytes)(a i fr:Int)(text:Bytes)(parts:List ab)(IX:Bool)(q:Int⊕(Bytes×Nat))(r:ap×al):Prop:=match q with
 | .inl k=>r.1=ap.mk k (a+i) []
 | .inr (t,n)=>if 4096 < text.length+t.length then r.1=ap.mk 3 (a+fr) [] else r=(dOk,.mk s a (i+n) fr (text++t) parts IX)
theorem Gs {s:Bytes}(hs:s.length<=1000000000){a fr:Int}{i:Nat}(ha:0<=a)(ha2:a<=1000000000)(hf:0<=fr)(hf2:fr<=1000000000)(text:Bytes)(ht:text.length<=4096)(parts:List ab)(IX:Bool){b:UInt8}{r:Bytes}(hl:s.drop i=b::r) :
  Ev2 (λ n _=>fV n (.mk s a (i:Int) fr text parts IX)) (ItO s a i fr text parts IX (ns (b::r))):=by
 obtain ⟨g1,g2,g3⟩:=xT hl;have hsub:sub s (i:Int) (s.length:Int)=b::r:=by rw [km,Int.toNat_natCast,hl]
 have H0:(b::r).length=s.length - i:=by rw [<- hl,n8]
 have hb0:byt (b::r) 0=(b.toNat:Int):=rfl;have hlc:(b::r).length=r.length+1:=rfl
 have fin:∀ (t:Bytes) (n:Nat),ns (b::r)=.inr (t,n)->n<=1000000000->t.length<=1000000000->Ev2 (λ _ _=>(d7 (al.mk s a ((i:Int)+(n:Int)) fr (text++t) parts IX)).bind λ JF=>some (JF.1,(al.mk JF.2.fs JF.2.fat JF.2.fi JF.2.B' JF.2.C' JF.2.BY JF.2.HS))) (ItO s a i fr text parts IX (ns (b::r))):=by
  intro t n hi _ _;refine ao _ (ar (DF s a _ fr _ parts IX (aK O O)) rfl) (aa ?_);rw [hi];unfold ItO;simp only [dg];by_cases hl:4096 < text.length+t.length
  ·rw [if_pos hl,if_pos hl]
  ·rw [if_neg hl,if_neg hl]
 simp only [fV];rw [hsub];refine aw O ?_;by_cases h92:b.toNat=92
 ·have hb':b=92:=(xy (by decide)).1 h92;have hle:=ra r;have hi:ns (b::r)=if (d5 r).2.2=0 then .inr (encodeRune (d5 r).1,(d5 r).2.1.toNat+1) else .inl (d5 r).2.2:=by rw [ns,if_pos h92]
  subst hb';by_cases hz:(d5 r).2.2=0
  ·rw [if_pos hz] at hi;obtain ⟨e1,e2⟩:=hle.2.2.1 hz;have hel:=nu _ e1;refine ia ((i:Int)+(((d5 r).2.1.toNat+1:Nat):Int),text++encodeRune (d5 r).1) (aw O (am (by rw [hb0]; rfl) (ao _ (FM O) ?_))) (fin _ _ hi O O);unfold sI; rw [if_pos hz];refine am rfl (aw (by (try simp only []); omega) (aw (aK (by (try simp only []); omega) (by (try simp only []); omega)) (aa ?_)));simp only [];congr 2; omega
  ·rw [if_neg hz] at hi;refine kH (ap.mk (d5 r).2.2 (a+(i:Int)) [],al.mk s a (i:Int) fr text parts IX) (aw O (am (by rw [hb0]; rfl) (ao _ (FM O) ?_))) ?_
   ·unfold sI; rw [if_neg hz];exact ak hz (aw (aK (by (try simp only []); omega) (by (try simp only []); omega)) (aa Z))
   ·rw [hi]; rfl
 ·have hd:bg (b::r)=some (((decodeL (b::r)).1:Int),((decodeL (b::r)).2:Int)):=by
   unfold bg;rw [jB _ G]
  have hdf:=kK (b::r) G
  have hq:(decodeL (b::r)).1=34↔b.toNat=34:=by
   by_cases h128:b.toNat < 128
   ·rw [CY b r h128]
   ·have:=Gz b r O; omega
  have hi:ns (b::r)=if nW (decodeL (b::r))\/b.toNat=34 then .inl 2 else .inr ((b::r).take (decodeL (b::r)).2,(decodeL (b::r)).2):=by rw [ns,if_neg h92]
  have hsb:∀ w:Nat,sub (b::r) 0 (w:Int)=(b::r).take w:=λ w=>by show ((b::r).take _).drop 0=_; rw [List.drop_zero,Int.toNat_natCast]
  generalize decodeL (b::r)=D at hd hdf hq hi;obtain ⟨c,w⟩:=D;simp only at hd hdf hq
  have hbad:Ev2 (λ _ _=>(if (c:Int)=65533 then if (w:Int)=1 then some true else if (c:Int) < 32 then some true else if (c:Int)=127 then some true else some (decide ((c:Int)=34)) else if (c:Int) < 32 then some true else if (c:Int)=127 then some true else some (decide ((c:Int)=34)):Option Bool)) (·=decide (nW (c,w)\/b.toNat=34)):=by
   have mk:∀ x:Bool,(x=true↔(((c=65533/\w=1)\/c < 32\/c=127)\/c=34))->x=decide (nW (c,w)\/b.toNat=34):=by
    intro x hx;refine eqB ?_;rw [hx,decide_eq_true_eq,<- hq]
    rfl
   refine aI (λ h1=>aI (λ h2=>aa (mk _ ?_)) (λ h2=>aI (λ h3=>aa (mk _ ?_)) (λ h3=>aI (λ h4=>aa (mk _ ?_)) (λ h4=>aa (mk _ ?_))))) (λ h1=>aI (λ h3=>aa (mk _ ?_)) (λ h3=>aI (λ h4=>aa (mk _ ?_)) (λ h4=>aa (mk _ ?_))))
   all_goals (try rw [decide_eq_true_eq])
   all_goals (try simp only [true_iff])
   all_goals omega
  by_cases hx:nW (c,w)\/b.toNat=34
  ·rw [if_pos hx] at hi;refine kH (ap.mk 2 (a+(i:Int)) [],al.mk s a (i:Int) fr text parts IX) (aw O (ak (by rw [hb0]; omega) (ao _ (ar hd rfl) (ao _ hbad (am (decide_eq_true hx) (aw (aK (by (try simp only []); omega) (by (try simp only []); omega)) (aa rfl))))))) ?_;rw [hi]; rfl
  ·rw [if_neg hx] at hi;have hw2:=hdf.2.1;refine ia ((i:Int)+(w:Int),text++(b::r).take w) (aw O (ak (by rw [hb0]; omega) (ao _ (ar hd rfl) (ao _ hbad (ak (by simpa using hx) ?_))))) (fin _ _ hi O (by rw [List.length_take]; omega));simp only [hsb];exact aw O (aw (by rw [List.length_take]; omega) (aw (aK O O) (aa rfl)))
theorem zR {src:Bytes->SE⊕Bytes}{l:Bytes}(hs:∀ r e n,r.length<=l.length->src r=.inl e->e.2=some n->n<=l.length){e:SE}{n:Nat}(h:kp src l=.inl e)(hn:e.2=some n):n<=l.length:=by
 cases l with
 | nil=>cases h; cases hn; exact rd _
 | cons b r =>
  rw [jR] at h;split at h
  ·split at h
   ·cases h; cases hn; exact n6 _
   ·cases h
  split at h
  ·cases h
  split at h
  ·cases h
  split at h
  ·split at h
   ·rename_i e' he
    cases h
    exact hs r e n (Nat.le_succ _) he hn
   ·cases h
  split at h
  ·cases h; cases hn; exact n6 _
  ·cases h
theorem C8:∀ (f k:Nat),(∀ l e n,ge f k l=.inl e->e.2=some n->n<=l.length)/\(∀ d l e n,lI f k d l=.inl e->e.2=some n->n<=l.length)
 | 0,k=>⟨λ l e n h hn=>(by rw [ge] at h; cases h; cases hn),λ d l e n h hn=>(by rw [lI] at h; cases h; cases hn)⟩
 | f+1,k=>by
  have ih:=C8 f;constructor
  ·intro l e n h hn
   cases l with
   | nil=>rw [ge] at h; cases h; cases hn
   | cons b r =>
    rw [pW] at h;split at h
    ·cases h
    split at h
    ·have:=(ih k).1 _ e n h hn;rw [n8] at this; omega
    split at h
    ·split at h
     ·cases h; cases hn; exact n6 _
     ·split at h
      ·rename_i e' he
       cases h
       have:=(ih (k+1)).2 _ _ e n he hn;rw [n8] at this; omega
      ·rename_i l' he;have h1:=((j6 f (k+1)).2 _ _ _ he).2;have:=(ih k).1 _ e n h hn;rw [n8] at h1; omega
    ·have hX:(if b.toNat=92 then r else b::r).length<=(b::r).length:=by split <;> simp
     generalize (if b.toNat=92 then r else b::r)=X at h hX
     cases X with
     | nil=>cases h; cases hn
     | cons c t =>
      simp only at h;split at h
      ·cases h; cases hn; exact hX
      ·have:=(ih k).1 _ e n h hn;rw [n8] at this; omega
  ·intro d l e n h hn;rw [pQ] at h;have hk:=uL false l
   cases hsk:fm false l with
   | nil=>rw [hsk,Cb] at h; cases h; cases hn
   | cons b r =>
    rw [hsk] at hk;rw [hsk,pR] at h
    cases ht:kp (ge f k) (b::r) with
    | inl e' =>
     rw [ht,tW] at h; cases h;exact Nat.le_trans (zR (λ x y m hx hxy hm=>Nat.le_trans ((ih k).1 x y m hxy hm) hx) ht hn) hk
    | inr z =>
     obtain ⟨c,t,l'⟩:=z;have h1:=(nV (λ x y _ hxy=>(j6 f k).1 x y hxy) ht).2;rw [ht,qS] at h;split at h
     ·split at h
      ·cases h
      ·have:=(ih k).2 _ _ e n h hn; omega
     split at h
     ·have:=(ih k).2 _ _ e n h hn; omega
     ·have:=(ih k).2 _ _ e n h hn; omega
theorem xV:∀ (f c:Nat) (l:Bytes) (e:SE) (n:Nat),jk f c l=.inl e->e.2=some n->n<=l.length
 | 0,c,l,e,n,h,hn=>by rw [jk] at h; cases h; cases hn
 | f+1,c,l,e,n,h,hn=>by
  rw [kD] at h;have hk:=uL true l
  cases hsk:fm true l with
  | nil =>
   rw [hsk,nU] at h;split at h
   ·cases h; cases hn; exact rd _
   ·cases h
  | cons b r =>
   rw [hsk] at hk;rw [hsk,mw] at h;split at h
   ·cases h; cases hn; exact hk
   split at h
   ·cases h; cases hn; exact hk
   cases ht:kp (ge f 0) (b::r) with
   | inl e' =>
    rw [ht] at h; cases h
    cases he:e'.2 with
    | none=>unfold EW at hn; rw [he] at hn; cases hn; exact hk
    | some m =>
     unfold EW at hn; rw [he] at hn; cases hn;exact Nat.le_trans (zR (λ x y m hx hxy hm=>Nat.le_trans ((C8 f 0).1 x y m hxy hm) hx) ht he) hk
   | inr z =>
    obtain ⟨k,t,l'⟩:=z;have h1:=(nV (λ x y _ hxy=>(j6 f 0).1 x y hxy) ht).2;rw [ht,oe] at h
    cases hs:jk f (c+1) l' with
    | inl e' =>
     rw [hs] at h; cases h;have:=xV f (c+1) l' e n hs hn;omega
    | inr ts'=>rw [hs] at h; cases h
theorem FG (s:Bytes):0<=(iD s).2.fAt/\(iD s).2.fAt<=(s.length:Int):=by
 unfold iD;split
 ·exact ⟨Int.le_refl _,by show (0:Int)<=_; omega⟩
 ·cases hs:jk (s.length+1) 0 s with
  | inr ts=>exact ⟨Int.le_refl _,by show (0:Int)<=_; omega⟩
  | inl e =>
   show 0<=(wP s 0 e).fAt/\(wP s 0 e).fAt<=_;unfold wP
   cases he:e.2 with
   | none=>exact ⟨Int.le_refl _,by show (0:Int)<=_; omega⟩
   | some n =>
    have:=xV _ _ _ e n hs he;exact ⟨by show 0<=(s.length:Int) - (n:Int); omega,by show (s.length:Int) - (n:Int)<=_; omega⟩
theorem HG {f:Nat}(ih:Fol f):∀ (s:Bytes) (a:Int) q,0<=a->a+(s.length:Int)<=1000000000->lK (f+1) s a=some q->Ev2 (λ n _=>hQ n s a) (WOut q):=by
 intro s a q h0 h1 hq;rw [lK] at hq;refine cJ ?_;simp only [hQ];refine ao _ (Fq s) ?_;by_cases hk:(iD s).2.Ar=0
 ·rw [if_neg (by simpa using hk)] at hq;refine am hk ?_;have hg:=Ap h0 h1 hk;have H0:(iD s).1.length<=65537:=(wZ h0 h1 hk).2.2;have hL:=hg.1;have hL1:(iD s).1.length<=1000000000:=by omega
  generalize hLL:(iD s).1=L at hq hL H0 hL1
  have Iw:0 < L.length:=by
   have:=AK hL;rcases Nat.eq_zero_or_pos L.length with q | q
   ·rw [List.length_eq_zero_iff.1 q] at this; exact absurd rfl this
   ·exact q
  have hpos:Pos L a 0 1 true (L.map (mvT a)):=⟨Iw,by decide,by omega,Z,Z⟩
  cases hx:iJ f true (L.map (mvT a)) with
  | none=>rw [hx] at hq; cases hq
  | some y =>
   rw [hx] at hq;have hr:=ih.e true _ L a hL hL1 0 1 y hpos hx;rcases y with e | ⟨x,l⟩
   ·cases hq
    refine ag _ hr ?_;rintro ⟨z1,z2⟩ ⟨he,j,l',h2,h3⟩
    cases h2
    refine ag (λ t=>∃ j:Nat,t=(L,(j:Int),1,a,e.1,e.2,[])) (ag _ (fp hL hL1 h3) ?_) ?_
    ·rintro ⟨z1,z2⟩ ⟨h1,j,h2,h3,h4,h5⟩;replace h1:z1=_:=h1; subst h1; cases h2;exact aI (λ _=>aa ⟨j,rfl⟩) (λ _=>ao _ (ar (wX he _ _ _ _) rfl) (aa ⟨j,rfl⟩))
    ·rintro _ ⟨j,rfl⟩;exact aa ⟨he,rfl⟩
   ·refine ag _ hr ?_;rintro ⟨z1,z2⟩ ⟨hz,j,h2,h3⟩;replace hz:z1=_:=hz; subst hz; cases h2;have hq:(if (hd true l).Ar=6 then some (.inr z1) else some (.inl (2,(hd true l).fAt)))=some q:=hq;by_cases k6:(hd true l).Ar=6
    ·rw [if_pos k6] at hq; cases hq;refine ag (λ t=>∃ j:Nat,t=(L,(j:Int),1,a,0,0,[])) (ag _ (fp hL hL1 h3) ?_) ?_
     ·rintro ⟨y1,y2⟩ ⟨h1,j,h2,h3,h4,h5⟩;replace h1:y1=_:=h1; subst h1; cases h2;exact am k6 (aa ⟨j,rfl⟩)
     ·rintro _ ⟨j,rfl⟩;exact aa rfl
    ·rw [if_neg k6] at hq; cases hq;refine ag (λ t=>∃ j:Nat,t=(L,(j:Int),1,a,2,(hd true l).fAt,[])) (ag _ (fp hL hL1 h3) ?_) ?_
     ·rintro ⟨y1,y2⟩ ⟨h1,j,h2,h3,h4,h5⟩;replace h1:y1=_:=h1; subst h1; cases h2;exact ak k6 (ao _ (ar (iQ _ _ _ _) rfl) (aa ⟨j,rfl⟩))
     ·rintro _ ⟨j,rfl⟩;exact aa ⟨(by decide:(2:Int)≠0),rfl⟩
 ·rw [if_pos hk] at hq; cases hq;have:=FG s;refine ak hk (aw (aK O O) (aa ⟨hk,rfl⟩))
theorem zQ {s:Bytes}{a:Int}{i fr:Nat}(text:Bytes)(parts:List ab)(IX:Bool)(ha:0<=a)(h1:a+(s.length:Int)<=1000000000)(hi:i<=s.length)(hf:fr<=i)(hp:parts.length<=2*i) :
  eA (.mk s a (i:Int) (fr:Int) text parts IX)=some (.mk s a (i:Int) (fr:Int) [] (flS (a+(fr:Int)) (a+(i:Int)) text parts) IX):=by
 unfold eA flS;by_cases h:fr < i
 ·rw [if_pos (by show (fr:Int) < (i:Int); omega),if_pos O];show ((ck (inR (a+(fr:Int))) <| ck ((parts.length+1)*160<=140737488355328) <| some (parts++[Dt text (a+(fr:Int))]):Option (List ab)).bind λ f6=>some (al.mk s a (i:Int) (fr:Int) ([]:Bytes) f6 IX))=_;rw [bI (aK O O),bI O]; rfl
 ·rw [if_neg (by show ¬ (fr:Int) < (i:Int); omega),if_neg O]; rfl
theorem uv {e:ab}(hb:Sz e):Ev2 (λ n _=>jP n e dOk) (·=GU (vf (.inr e))):=by
 simp only [jP];refine am rfl (ao _ (Ey hb) ?_);by_cases h:chk e=0
 ·exact am h (aa (by unfold vf; simp only [h,if_true]; rfl))
 ·exact ak h (aa (by unfold vf; simp only [h,if_false]; rfl))
theorem GZ {f:Nat}(ih:Fol f):∀ (s:Bytes) (a:Int) q,0<=a->a+(s.length:Int)<=1000000000->qj (f+1) s a=some q->Ev2 (λ n _=>ir n s a) (·=GU q):=by
 intro s a q h0 h1 hq;rw [qj] at hq;refine cJ ?_;simp only [ir]
 cases hr:lh f a a [] [] false s with
 | none=>rw [hr] at hq; cases hq
 | some y =>
  rw [hr] at hq;have Ia:=(fct f).r a a [] [] false s (2*s.length) h0 h1 (by decide) (λ y hy=>by cases hy) G y hr;have hread:=ih.r s a 0 0 [] [] false y h0 h1 (rd _) (n6 _) (by decide) (by decide) (by simpa using hr);rcases y with e | ⟨frm,pos,text,parts,IX⟩
  ·cases hq
   refine ag (λ r=>e.1≠0/\r.1=eD e) (cJ ?_) ?_
   ·simp only [fS];refine eC (b7 (bU (f:=λ n m=>cb n (aR n) m s a 0 0 [] [] false) hread) ?_);rintro r ⟨he,t,rfl⟩;exact ⟨he,rfl⟩
   ·rintro ⟨r1,r2⟩ ⟨he,hz⟩
    cases hz
    exact ak he (aa Z)
  ·have hq:some (vf (.inr (vP a (frm,pos,text,parts,IX))))=some q:=hq
   cases hq
   refine ag (λ r=>∃ (i fr:Nat),frm=a+(fr:Int)/\pos=a+(i:Int)/\fr<=i/\i<=s.length/\parts.length<=2*i/\r=(dOk,.mk s a (i:Int) (fr:Int) text parts IX)) (cJ ?_) ?_
   ·simp only [fS];refine eC (b7 (bU (f:=λ n m=>cb n (aR n) m s a 0 0 [] [] false) hread) ?_);rintro r ⟨i,fr,g1,g2,g3,g4,g5,rfl⟩;exact aa ⟨i,fr,g1,g2,g3,g4,g5,rfl⟩
   ·rintro _ ⟨i,fr,rfl,rfl,g3,g4,g5,rfl⟩;have hz:Sz (vP a (a+(fr:Int),a+(i:Int),text,parts,IX)):=xZ O Ia;refine am rfl (ao _ (ar rfl rfl) ?_)
    cases IX with
    | true =>
     refine ao (2,0,[],[],0,0,[],[],[],flS (a+(fr:Int)) (a+(i:Int)) text parts,a) (am Z (ao _ (ar (zQ text parts true h0 h1 g4 g3 g5) Z) (aa Z))) ?_;exact ao _ (uv hz) (aa Z)
    | false =>
     refine ao (1,0,[],[],3,0,text,[],[],[],a) (ak qr (aa Z)) ?_;exact ao _ (uv hz) (aa Z)
theorem Hz {f:Nat}(ih:Fol f):∀ (s:Bytes) (a:Int) (i fr:Nat) (text:Bytes) (parts:List ab) (IX:Bool) q,0<=a->a+(s.length:Int)<=1000000000->i<=s.length->fr<=i->text.length<=4096->parts.length<=2*i->lh (f+1) (a+(fr:Int)) (a+(i:Int)) text parts IX (s.drop i)=some q ->
  Ev2 (λ n m=>cb n (aR n) m s a (i:Int) (fr:Int) text parts IX) (RdO s a q):=by
 intro s a i fr text parts IX q h0 h1 hi hf ht hp hq;refine aY ?_;simp only [cb]
 cases hl:s.drop i with
 | nil =>
  rw [hl,lh] at hq; cases hq;have:=FA hl;exact ak O (aa ⟨i,fr,rfl,rfl,hf,hi,hp,rfl⟩)
 | cons b r =>
  obtain ⟨g1,g2,g3⟩:=xT hl;have hsub:sub s (i:Int) (s.length:Int)=b::r:=by rw [km,Int.toNat_natCast,hl]
  have H0:(b::r).length=s.length - i:=by rw [<- hl,n8]
  rw [hl,lh] at hq;refine am O (aw O ?_);rw [hsub];by_cases hp3:hasPrefix (b::r) [36,36,123]=true
  ·rw [if_pos hp3] at hq;have hpl:=tc hp3;simp only [aq,cl] at hpl H0;have hlong:=DF s a ((i:Int)+3) (fr:Int) (text++[36,123]) parts IX (aK O O);have htl:(text++[36,123]).length=text.length+2:=by simp
   rw [htl] at hlong;by_cases hlg:4096 < text.length+2
   ·rw [if_pos hlg] at hq hlong; cases hq;refine ao (3,a+(fr:Int),[],s,a,(i:Int)+3,(fr:Int),text++[36,123],parts,IX) ?_ (ak (show ¬ (3:Int)=0 by decide) (aa ⟨(by decide:(3:Int)≠0),_,rfl⟩));exact ao true (ar (gh _ _) hp3) (am rfl (aw (by simp only [aq,cl]; omega) (aw (aK O O) (ao _ (ar hlong rfl) (aa rfl)))))
   ·rw [if_neg hlg] at hq hlong;refine ao (0,0,[],s,a,(i:Int)+3,(fr:Int),text++[36,123],parts,IX) ?_ (am rfl ?_)
    ·exact ao true (ar (gh _ _) hp3) (am Z (aw (by simp only [aq,cl]; omega) (aw (aK O O) (ao _ (ar hlong Z) (aa Z)))))
    ·have e3:s.drop (i+3)=(b::r).drop 3:=by rw [vM s i 3,hl]
     have:=ih.r s a (i+3) fr (text++[36,123]) parts IX q h0 h1 O O O O  (by
      rw [e3,show a+((i+3:Nat):Int)=a+(i:Int)+3 by omega]; exact hq)
     rw [show ((i+3:Nat):Int)=(i:Int)+3 by omega] at this;exact this
  rw [if_neg hp3] at hq;by_cases hp2:hasPrefix (b::r) [36,123]=true
  ·rw [if_pos hp2] at hq;have hpl:=tc hp2;simp only [aq,cl] at hpl H0;have e2:s.drop (i+2)=(b::r).drop 2:=by rw [vM s i 2,hl]
   have hfl:=zQ text parts IX h0 h1 hi hf hp;have hflen:(flS (a+(fr:Int)) (a+(i:Int)) text parts).length<=parts.length+1:=by unfold flS; split <;> simp
   cases hc:kr f 1 ((b::r).drop 2) with
   | none=>rw [hc] at hq; cases hq
   | some y =>
    rw [hc] at hq;have hcl:=AL ((CP (s:=s) O f).1 1 (i+2) ((i:Int)+2) 1 y O rfl (by decide) (by rw [n8]; omega) O (by rw [e2]; exact hc));have pre:∀ {P:ap×al->Prop},Ev2 (λ n _=>(aR (n+1) (al.mk s a (i:Int) (fr:Int) text parts IX))) P->Ev2 (λ n _=>(aR n (al.mk s a (i:Int) (fr:Int) text parts IX))) P:=λ h=>cJ h
    cases y with
    | none =>
     cases hq
     refine ao (40,a+(i:Int),[],s,a,(i:Int),(fr:Int),[],flS (a+(fr:Int)) (a+(i:Int)) text parts,true) ?_ (ak (show ¬ (40:Int)=0 by decide) (aa ⟨(by decide:(40:Int)≠0),_,Z⟩));refine ao false (ar (gh _ _) (by simpa using hp3)) (ak qr (ao true (ar (gh _ _) hp2) (am Z ?_)));refine ao (ap.mk 40 (a+(i:Int)) [],al.mk s a (i:Int) (fr:Int) [] (flS (a+(fr:Int)) (a+(i:Int)) text parts) true) (pre ?_) (aa Z);simp only [aR];exact ao _ (ar hfl Z) (aw (aK (by show _<=(i:Int)+2; omega) (by show (i:Int)+2<=_; omega)) (ao _ hcl (am (by show (-1:Int) < 0; decide) (aw (aK (by show _<=a+(i:Int); omega) (by show a+(i:Int)<=_; omega)) (aa Z)))))
    | some r' =>
     simp only at hq;have hsf:=(pm f).1 _ _ _ hc;have H2:=hsf.2;have hd2:((b::r).drop 2).length=s.length - (i+2):=by rw [<- e2,n8]
     have hrs:r' <:+ s:=by rw [<- e2] at hsf; exact hsf.1.trans (List.drop_suffix _ _)
     have hsd:=F9 hrs;have hcp:Gf s (some r')=((s.length - r'.length - 1:Nat):Int):=by show (s.length:Int) - (r'.length:Int) - 1=_; omega
     rw [hcp] at hcl
     have hsub2:sub s ((i:Int)+2) ((s.length - r'.length - 1:Nat):Int)=((b::r).drop 2).take (((b::r).drop 2).length - r'.length - 1):=by
      rw [show (i:Int)+2=((i+2:Nat):Int) by omega,Ao,List.drop_take,e2];congr 1; omega
     generalize hX:((b::r).drop 2).take (((b::r).drop 2).length - r'.length - 1)=X at hq hsub2;have hXl:X.length<=((b::r).drop 2).length:=by rw [<- hX,List.length_take]; omega
     cases hw:lK f X (a+(i:Int)+2) with
     | none=>rw [hw] at hq; cases hq
     | some z =>
      rw [hw] at hq;have hwh:=ih.w X (a+(i:Int)+2) z O O  hw
      have lead:∀ {P:ap×al->Prop},Ev2 (λ n _=>(hQ n X (a+(i:Int)+2)).bind λ IN=>if IN.2.Ar=0 then ck (((flS (a+(fr:Int)) (a+(i:Int)) text parts).length+1)*160<=140737488355328) <| ck (inR (((s.length - r'.length - 1:Nat):Int)+1)) <| some (ap.mk 0 0 ([]:Bytes),al.mk s a (((s.length - r'.length - 1:Nat):Int)+1) (((s.length - r'.length - 1:Nat):Int)+1) [] (flS (a+(fr:Int)) (a+(i:Int)) text parts++[IN.1]) true) else some (IN.2,al.mk s a (i:Int) (fr:Int) [] (flS (a+(fr:Int)) (a+(i:Int)) text parts) true)) P ->
        Ev2 (λ n _=>(aR n (al.mk s a (i:Int) (fr:Int) text parts IX))) P:=by
       intro P hP;refine pre ?_;simp only [aR];refine ao _ (ar hfl rfl) (aw (aK (by show _<=(i:Int)+2; omega) (by show (i:Int)+2<=_; omega)) (ao _ hcl (ak O (aw (aK (by show _<=(i:Int)+2; omega) (by show (i:Int)+2<=_; omega)) (aw ⟨by show (0:Int)<=(i:Int)+2; omega,by show (i:Int)+2<=_; omega,by show _<=(s.length:Int); omega⟩ (aw (aK (by show _<=a+(i:Int); omega) (by show a+(i:Int)<=_; omega)) (aw (aK (by show _<=a+(i:Int)+2; omega) (by show a+(i:Int)+2<=_; omega)) ?_)))))));simp only [hsub2];exact hP
      rcases z with e | e
      ·cases hq
       have he:=(fct f).w X (a+(i:Int)+2) O O  _ hw;refine ao (e.1,e.2,[],s,a,(i:Int),(fr:Int),[],flS (a+(fr:Int)) (a+(i:Int)) text parts,true) ?_ (ak he (aa ⟨he,_,rfl⟩));refine ao false (ar (gh _ _) (by simpa using hp3)) (ak qr (ao true (ar (gh _ _) hp2) (am rfl ?_)));refine ao (eD e,al.mk s a (i:Int) (fr:Int) [] (flS (a+(fr:Int)) (a+(i:Int)) text parts) true) (lead (ag _ hwh ?_)) (aa rfl);rintro ⟨w1,w2⟩ ⟨_,hz⟩
       cases hz
       exact ak he (aa Z)
      ·have hq:lh f (a+(i:Int)+(((b::r).length - r'.length:Nat):Int)) (a+(i:Int)+(((b::r).length - r'.length:Nat):Int)) [] (flS (a+(fr:Int)) (a+(i:Int)) text parts++[e]) true r'=some q:=hq
       have hpos:a+(i:Int)+(((b::r).length - r'.length:Nat):Int)=a+((s.length - r'.length:Nat):Int):=by
        have:=hsf.1.length_le;simp only [aq] at hd2 ⊢; omega
       rw [hpos] at hq;have hi2:((s.length - r'.length - 1:Nat):Int)+1=((s.length - r'.length:Nat):Int):=by omega
       refine ao (0,0,[],s,a,((s.length - r'.length:Nat):Int),((s.length - r'.length:Nat):Int),[],flS (a+(fr:Int)) (a+(i:Int)) text parts++[e],true) ?_ (am Z ?_)
       ·refine ao false (ar (gh _ _) (by simpa using hp3)) (ak qr (ao true (ar (gh _ _) hp2) (am rfl ?_)));refine ao (dOk,al.mk s a ((s.length - r'.length:Nat):Int) ((s.length - r'.length:Nat):Int) [] (flS (a+(fr:Int)) (a+(i:Int)) text parts++[e]) true) (lead (ag _ hwh ?_)) (aa rfl);rintro _ rfl;refine am rfl (aw O (aw (aK O O) (aa ?_)));rw [hi2]; rfl
       ·exact ih.r s a (s.length - r'.length) (s.length - r'.length) [] _ true q h0 h1 O (n6 _) (by decide) (by rw [dg,List.length_singleton]; omega) (by rw [hsd]; exact hq)
  rw [if_neg hp2] at hq;have hit:=Gs (s:=s) O (a:=a) (fr:=(fr:Int)) (i:=i) h0 O O O text ht parts IX hl
  cases hi':ns (b::r) with
  | inl k =>
   rw [hi'] at hq hit; cases hq;have hk:=AM hi';refine ag (λ t=>t.1=k/\t.2.1=a+(i:Int)/\t.2.2.1=[]) ?_ ?_
   ·refine ao false (ar (gh _ _) (by simpa using hp3)) (ak qr (ao false (ar (gh _ _) (by simpa using hp2)) (ak qr ?_)));refine ag _ hit ?_;rintro ⟨z1,z2⟩ hz;have hz:z1=ap.mk k (a+(i:Int)) []:=hz;subst hz;exact aa ⟨rfl,rfl,rfl⟩
   ·rintro ⟨t1,t2,t3,t4⟩ ⟨k1,k2,k3⟩;simp only at k1 k2 k3;subst k1 k2 k3;exact ak hk (aa ⟨hk,_,rfl⟩)
  | inr tn =>
   obtain ⟨t,n⟩:=tn;rw [hi'] at hq hit;have hq:(if 4096 < text.length+t.length then some (.inl (3,a+(fr:Int))) else lh f (a+(fr:Int)) (a+(i:Int)+(n:Int)) (text++t) parts IX ((b::r).drop n))=some q:=hq;have hn:=xU hi';by_cases hlg:4096 < text.length+t.length
   ·rw [if_pos hlg] at hq; cases hq;refine ag (λ t=>t.1=3/\t.2.1=a+(fr:Int)/\t.2.2.1=[]) ?_ ?_
    ·refine ao false (ar (gh _ _) (by simpa using hp3)) (ak qr (ao false (ar (gh _ _) (by simpa using hp2)) (ak qr ?_)));refine ag _ hit ?_;rintro ⟨z1,z2⟩ hz;unfold ItO at hz;simp only [if_pos hlg] at hz;subst hz;exact aa ⟨rfl,rfl,rfl⟩
    ·rintro ⟨t1,t2,t3,t4⟩ ⟨k1,k2,k3⟩;simp only at k1 k2 k3;subst k1 k2 k3;exact ak (show ¬ (3:Int)=0 by decide) (aa ⟨(by decide:(3:Int)≠0),_,rfl⟩)
   ·rw [if_neg hlg] at hq;refine ao (0,0,[],s,a,(i:Int)+(n:Int),(fr:Int),text++t,parts,IX) ?_ (am rfl ?_)
    ·refine ao false (ar (gh _ _) (by simpa using hp3)) (ak qr (ao false (ar (gh _ _) (by simpa using hp2)) (ak qr ?_)));refine ag _ hit ?_;rintro ⟨z1,z2⟩ hz;unfold ItO at hz;simp only [if_neg hlg] at hz
     cases hz
     exact aa Z
    ·have e3:s.drop (i+n)=(b::r).drop n:=by rw [vM s i n,hl]
     have:=ih.r s a (i+n) fr (text++t) parts IX q h0 h1 O O  (by rw [dg]; omega) O (by
      rw [e3,show a+((i+n:Nat):Int)=a+(i:Int)+(n:Int) by omega]; exact hq)
     rw [show ((i+n:Nat):Int)=(i:Int)+(n:Int) by omega] at this;exact this
theorem fol:∀ f,Fol f:=by
 intro f
 induction f with
 | zero =>
  constructor
  ·intro b l L base hL H0 i HZ q h hq; rw [iJ] at hq; cases hq
  ·intro Iy li b l _ _ L base hL H0 i HZ q h hq; rw [q9] at hq; cases hq
  ·intro Iy li b l x r5 _ _ _ L base hL H0 i HZ q h hq; rw [sO] at hq; cases hq
  ·intro b l L base hL H0 i HZ q h hq; rw [unS] at hq; cases hq
  ·intro b l x r1 _ L base hL H0 i HZ q h hq; rw [nq] at hq; cases hq
  ·intro b l L base hL H0 i HZ q h hq; rw [pB] at hq; cases hq
  ·intro b l _ L base hL H0 i HZ q h hq; rw [wY] at hq; cases hq
  ·intro b l _ L base hL H0 i HZ q h hq; rw [qI] at hq; cases hq
  ·intro en l out _ _ L base hL H0 i HZ q h hq; rw [mt] at hq; cases hq
  ·intro l out _ _ L base hL H0 i HZ q h hq; rw [vg] at hq; cases hq
  ·intro l L base hL H0 i HZ q h hq; rw [si] at hq; cases hq
  ·intro a k l _ _ L base hL H0 i HZ b q _ _ h hq; rw [rf] at hq; cases hq
  ·intro s a q _ _ hq; rw [qj] at hq; cases hq
  ·intro s a i fr text parts IX q _ _ _ _ _ _ hq; rw [lh] at hq; cases hq
  ·intro s a q _ _ hq; rw [lK] at hq; cases hq
 | succ f ih=>exact ⟨Hu ih,HP ih,GA ih,Hh ih,GY ih,Hg ih,Hm ih,HL ih,Hs ih,Ho ih,Hi ih,GQ ih,GZ ih,Hz ih,HG ih⟩
inductive F2 {α β:Type}(P:α->β->Prop):List α->List β->Prop where
 | nil:F2 P [] []
 | cons {a:α} {b:β} {l:List α} {m:List β} (h:P a b) (t:F2 P l m):F2 P (a::l) (b::m)
theorem F2.len {α β:Type}{P:α->β->Prop}{a:List α}{b:List β}(h:F2 P a b):b.length=a.length:=by
 induction h with
 | nil=>rfl
 | cons p _ ih=>rw [aq,aq,ih]
theorem F2.zip {α β:Type}{P:α->β->Prop}{a:List α}{b:List β}(h:F2 P a b):∀ p∈a.zip b,P p.1 p.2:=by
 induction h with
 | nil=>intro p hp; cases hp
 | cons p _ ih =>
  intro q hq;rw [List.zip_cons_cons] at hq;rcases ur.1 hq with rfl | hq
  ·exact p
  ·exact ih q hq
theorem F2.map {α β γ:Type}{P:β->γ->Prop}(f:α->β)(g:α->γ):∀ l:List α,(∀ a∈l,P (f a) (g a))->F2 P (l.map f) (l.map g)
 | [],_=>.nil
 | a::l,h=>.cons (h a List.mem_cons_self) (F2.map f g l λ b hb=>h b (List.mem_cons_of_mem _ hb))
theorem f21 {α β:Type}{P:α->β->Prop}{a:α}{b:β}(h:P a b):F2 P [a] [b]:=.cons h .nil
section
variable {R:Int->Int->Prop}
def TR (R:Int->Int->Prop)(t t':af):Prop:=t'.Ar=t.Ar/\t'.Df=t.Df/\R t.fAt t'.fAt
inductive RE (R:Int->Int->Prop):ab->ab->Prop where
 | mk {x y:ab} (k:y.Ar=x.Ar) (o:y.fOp=x.fOp) (n:y.AI=x.AI) (m:y.E'=x.E') (v:y.A'=x.A') (a:R x.fAt y.fAt) (c:x.By.length<=4000000000) (l:y.By.length=x.By.length) (s:∀ p∈x.By.zip y.By,RE R p.1 p.2):RE R x y
theorem RE.at {x y:ab}(h:RE R x y):R x.fAt y.fAt:=by cases h; assumption
def RT (R:Int->Int->Prop){α β:Type}(P:α->β->Prop):Option (PE⊕α)->Option (PE⊕β)->Prop
 | none,none=>True
 | some (.inl e),some (.inl e')=>e'.1=e.1/\R e.2 e'.2
 | some (.inr a),some (.inr b)=>P a b
 | _,_=>False
theorem nf2 (b:Bool){l m:List af}(h:F2 (TR R) l m):F2 (TR R) (nf b l) (nf b m):=by
 cases b
 ·exact h
 ·induction h with
  | nil=>exact .nil
  | @cons x y l m p t ih =>
   show F2 (TR R) ((x::l).dropWhile nlT) ((y::m).dropWhile nlT);rw [List.dropWhile_cons,List.dropWhile_cons,show nlT y=nlT x by unfold nlT; rw [p.1]];split
   ·exact ih
   ·exact .cons p t
theorem hd2 (b:Bool){l m:List af}(g:Gl l)(h:F2 (TR R) l m):TR R (hd b l) (hd b m)/\F2 (TR R) (tl b l) (tl b m):=by
 have h1:=nf2 b h;have h2:=AK (tB (b:=b) g.1);unfold hd tl;generalize nf b l=x at h1 h2 ⊢;generalize nf b m=y at h1 ⊢
 cases h1 with
 | nil=>exact absurd Z h2
 | cons p t=>exact ⟨p,t⟩
theorem k2' {b:Bool}{l m:List af}(h:F2 (TR R) l m)(g:Gl l):(hd b m).Ar=(hd b l).Ar:=(hd2 b g h).1.1
theorem x2 {b:Bool}{l m:List af}(h:F2 (TR R) l m)(g:Gl l):(hd b m).Df=(hd b l).Df:=(hd2 b g h).1.2.1
theorem shp2 {x y:ab}(k:y.Ar=x.Ar)(o:y.fOp=x.fOp)(n:y.AI=x.AI)(m:y.E'=x.E')(v:y.A'=x.A')(l:y.By.length=x.By.length):pr y=pr x:=by
 unfold pr;simp only [fC,gA,k,o,n,m,v,l]
theorem HB {x y:ab}(k:y.Ar=x.Ar)(o:y.fOp=x.fOp)(n:y.AI=x.AI)(m:y.E'=x.E')(v:y.A'=x.A')(l:y.By.length=x.By.length):jm y=jm x:=by
 unfold jm;simp only [shp2 k o n m v l,k,n,m,v]
theorem vis2 {x y:ab}(h:RE R x y):∀ c lv,lr c lv y=lr c lv x:=by
 induction h with
 | @mk x y k o n m v a c l s ih =>
  have hl:∀ (xs ys:List ab),ys.length=xs.length->(∀ p∈xs.zip ys,∀ c lv,lr c lv p.2=lr c lv p.1)->∀ c lv,jV c lv ys=jV c lv xs:=by
   intro xs
   induction xs with
   | nil =>
    intro ys hl _ c lv;rw [List.length_eq_zero_iff.1 hl]
   | cons p xs ihx =>
    intro ys hl hp c lv
    cases ys with
    | nil=>cases hl
    | cons q ys =>
     rw [List.zip_cons_cons] at hp;have h1:=hp _ List.mem_cons_self;rw [mc,mc,h1 c lv];split
     ·exact ihx ys (Nat.succ.inj hl) (λ p hq=>hp p (List.mem_cons_of_mem _ hq)) _ _
     ·rfl
  intro c lv;rw [kQ,kQ,HB k o n m v l,hl x.By y.By l ih]
theorem chk2 {x y:ab}(h:RE R x y):chk y=chk x:=by unfold chk; rw [vis2 h]
theorem fin2 {x y:ab}(h:RE R x y):RT R (RE R) (some (vf (.inr x))) (some (vf (.inr y))):=by
 unfold vf;simp only [chk2 h];split
 ·exact h
 ·exact ⟨Z,h.at⟩
end
end Go.Ab.R06
end
section
namespace Go.Ab.R06
open Go.Ab Go.Ab.RB Go.Lib
def iG:List Bytes->Bytes
 | []=>[]
 | a::r=>46::(a++iG r)
def wD:List Bytes->List (Int×Bytes)
 | []=>[(6,[])]
 | a::r=>(4,[46])::(1,a)::wD r
def tV:ab->List Bytes->ab
 | x,[]=>x
 | x,a::r=>tV (ab.mk 4 0 a [] v0 [x] x.fAt) r
def KT (p:Int×Bytes)(z:Tk):Prop:=z.1=p.1/\z.2.1=p.2
def KL (p:Int×Bytes)(t:af):Prop:=t.Ar=p.1/\t.Df=p.2
theorem rB {t:Bytes}(h:bH t=true):∃ b w,t=b::w/\ko b=true/\t.length<=64/\∀ z∈t,idB z=true:=by
 cases t with
 | nil=>cases h
 | cons b w =>
  unfold bH at h;simp only [ro,decide_eq_true_eq] at h;obtain ⟨⟨h1,h2⟩,h3⟩:=h;refine ⟨b,w,rfl,h2,h1,λ z hz=>?_⟩;rcases ur.1 hz with rfl | hz
  ·unfold idB; rw [h2]; rfl
  ·exact rg.1 h3 z hz
theorem xp {a:UInt8}{w:Bytes}(h1:lF a=false)(h2:a.toNat≠35):fm true (a::w)=a::w:=by
 unfold fm;rw [List.dropWhile_cons,if_neg (by simp [h1])];simp [h2]
theorem Cw {src:Bytes->SE⊕Bytes}{t x:Bytes}(h:bH t=true)(hx:∀ z∈x.head?,idB z=false):kp src (t++x)=.inr (1,t,x)/\fm true (t++x)=t++x/\iU (t++x)=true:=by
 obtain ⟨b,w,rfl,hl,h64,ha⟩:=rB h;have hw:=FX ha hx;have hn:=Gy hl;refine ⟨?_,xp hn.2.2.2 hn.2.2.1,?_⟩
 ·rw [List.cons_append,jR,if_pos hl,<- List.cons_append,hw.1,hw.2,if_neg O]
 ·rw [List.cons_append,iX,hl]; rfl
theorem F0 {x:Bytes}(hx:∀ z∈x.head?,ko z=true):jl (46::x)=[46]:=by
 cases x with
 | nil=>decide
 | cons z x=>rw [show 46::z::x=[46]++(z::x) from rfl]; simp [jl,uS,hasPrefix,List.isPrefixOf,List.find?,E8]; decide
theorem En {src:Bytes->SE⊕Bytes}{x:Bytes}(hx:∀ z∈x.head?,ko z=true):kp src (46::x)=.inr (4,[46],x)/\fm true (46::x)=46::x/\iU (46::x)=true:=by
 have hs:=F0 hx;refine ⟨?_,xp (by decide) (by decide),?_⟩
 ·rw [jR,if_neg (by decide),if_neg (by decide),if_neg (by decide),if_neg (by decide),hs,if_neg (by decide)]; rfl
 ·rw [iX,hs]; rfl
theorem Aw (us:List Bytes):∀ z∈(iG us).head?,idB z=false:=by
 intro z hz
 cases us with
 | nil=>cases hz
 | cons a r=>cases hz; decide
theorem Hk {a x:Bytes}(h:bH a=true):∀ z∈(a++x).head?,ko z=true:=by
 obtain ⟨b,w,rfl,hl,_⟩:=rB h;intro z hz
 cases hz
 exact hl
theorem rO {f c:Nat}{b:UInt8}{r:Bytes}{k:Int}{t l':Bytes}{ts:List Tk}(h1:kp (ge f 0) (b::r)=.inr (k,t,l'))(h2:fm true (b::r)=b::r)(h3:iU (b::r)=true)(hc:c≠16384)(h4:jk f (c+1) l'=.inr ts) :
  jk (f+1) c (b::r)=.inr ((k,t,(b::r).length)::ts):=by
 rw [kD,h2,mw,if_neg (by rw [h3]; simp),if_neg hc,h1,oe,h4]
theorem vw:∀ (us:List Bytes),(∀ a∈us,bH a=true)->∀ f c,2*us.length < f->c+2*us.length < 16384->∃ ts,jk f c (iG us)=.inr ts/\F2 KT (wD us) ts
 | [],_,f,c,hf,hc=>by
  obtain ⟨f,rfl⟩:∃ k,f=k+1:=⟨f - 1,by omega⟩
  refine ⟨[(6,[],0)],?_,.cons ⟨Z,Z⟩ .nil⟩;rw [kD,show fm true (iG [])=[] from rfl,nU,if_neg (by simp only [cl] at hc; omega)]
 | a::r,h,f,c,hf,hc=>by
  simp only [aq] at hf hc;obtain ⟨f,rfl⟩:∃ k,f=k+2:=⟨f - 2,by omega⟩
  have ha:=h a List.mem_cons_self;obtain ⟨ts,e,h2⟩:=vw r (λ b hb=>h b (List.mem_cons_of_mem _ hb)) f (c+2) O O;obtain ⟨d1,d2,d3⟩:=En (src:=ge (f+1) 0) (Hk (x:=iG r) ha);obtain ⟨i1,i2,i3⟩:=Cw (src:=ge f 0) ha (Aw r);obtain ⟨b,w,ea,_⟩:=rB ha
  have e1:jk (f+1) (c+1) (a++iG r)=.inr ((1,a,(a++iG r).length)::ts):=by
   have hx:a++iG r=b::(w++iG r):=by rw [ea]; rfl
   rw [hx] at i1 i2 i3 ⊢;exact rO i1 i2 i3 O e
  exact ⟨_,rO d1 d2 d3 O e1,.cons ⟨Z,Z⟩ (.cons ⟨Z,Z⟩ h2)⟩
theorem yI {root:Bytes}{us:List Bytes}(hr:bH root=true)(ha:∀ a∈us,bH a=true)(hl:us.length<=100):∃ L:List af,iD (root++iG us)=(L,ap.mk 0 0 [])/\F2 KL ((1,root)::wD us) L:=by
 have H0:∀ (l:List Bytes),(∀ a∈l,bH a=true)->(iG l).length<=65*l.length/\2*l.length<=(iG l).length:=by
  intro l
  induction l with
  | nil=>intro _; exact ⟨rd _,rd _⟩
  | cons a r ih =>
   intro h;obtain ⟨i1,i2⟩:=ih (λ b hb=>h b (List.mem_cons_of_mem _ hb));obtain ⟨b,w,ea,_,h64,_⟩:=rB (h a List.mem_cons_self);have h1:1<=a.length:=by rw [ea]; simp
   have:(iG (a::r)).length=1+(a.length+(iG r).length):=by show (46::(a++iG r)).length=_; simp; omega
   simp only [aq];omega
 obtain ⟨h1,h2⟩:=H0 us ha;obtain ⟨b,w,ea,_,h64,_⟩:=rB hr;have h3:1<=root.length:=by rw [ea]; simp
 have hs:(root++iG us).length=root.length+(iG us).length:=dg;obtain ⟨ts,e,hk⟩:=vw us ha ((root++iG us).length) 1 O O;obtain ⟨i1,i2,i3⟩:=Cw (src:=ge ((root++iG us).length) 0) hr (Aw us)
 have e1:∃ n,jk ((root++iG us).length+1) 0 (root++iG us)=.inr ((1,root,n)::ts):=by
  generalize (root++iG us).length=F at e i1 ⊢;have hx:root++iG us=b::(w++iG us):=by rw [ea]; rfl
  rw [hx] at i1 i2 i3 ⊢;exact ⟨_,rO i1 i2 i3 (by decide) e⟩
 obtain ⟨n,e1⟩:=e1;refine ⟨((1,root,n)::ts).map (tkS (root++iG us)),?_,.cons ⟨rfl,rfl⟩ ?_⟩
 ·unfold iD;rw [if_neg O,e1]
  rfl
 ·generalize root++iG us=S;generalize wD us=K at hk
  clear e1 e
  induction hk with
  | nil=>exact .nil
  | cons p _ ih=>exact .cons p ih
theorem xE {b:Bool}{k:Int}{s:Bytes}{P:List (Int×Bytes)}{L:List af}(h:F2 KL ((k,s)::P) L)(h5:k≠5):(hd b L).Ar=k/\(hd b L).Df=s/\F2 KL P (tl b L):=by
 cases h with
 | @cons _ t _ M hp ht =>
  have:nf b (t::M)=t::M:=by rw [lW,if_neg (by rintro ⟨_,h⟩; rw [hp.1] at h; exact h5 h)]
  unfold hd tl;rw [this];exact ⟨hp.1,hp.2,ht⟩
theorem sj {b:Bool}{k:Int}{t:Bytes}{P:List (Int×Bytes)}{L:List af}(h:F2 KL ((k,t)::P) L)(h5:k≠5)(s:Bytes):sgB b L s=(decide (k=4)&&decide (t=s)):=by
 obtain ⟨h1,h2,_⟩:=xE (b:=b) h h5;unfold sgB;rw [h1,h2]
theorem E0 (us:List Bytes):∃ k s P,wD us=(k,s)::P/\k≠5/\(k=6/\s=[]\/k=4/\s=[46]):=by
 cases us with
 | nil=>exact ⟨_,_,_,Z,by decide,.inl ⟨Z,Z⟩⟩
 | cons a r=>exact ⟨_,_,_,Z,by decide,.inr ⟨Z,Z⟩⟩
theorem vF:∀ (us:List Bytes) (x:ab) (b:Bool) (L:List af),F2 KL (wD us) L->∃ L',F2 KL [(6,[])] L'/\∀ f,us.length < f->nq f b x L=some (.inr (tV x us,L'))
 | [],x,b,L,h=>by
  refine ⟨L,h,λ f hf=>?_⟩;obtain ⟨f,rfl⟩:∃ k,f=k+1:=⟨f - 1,by omega⟩
  rw [nq,sj h (by decide),sj h (by decide)]
  rfl
 | a::r,x,b,L,h=>by
  obtain ⟨_,_,h1⟩:=xE (b:=b) h (by decide);obtain ⟨k1,k2,h2⟩:=xE (b:=b) h1 (by decide);obtain ⟨L',h3,h4⟩:=vF r (ab.mk 4 0 a [] v0 [x] x.fAt) b _ h2;refine ⟨L',h3,λ f hf=>?_⟩;simp only [aq] at hf;obtain ⟨f,rfl⟩:∃ k,f=k+1:=⟨f - 1,by omega⟩
  rw [nq,sj h (by decide),if_pos (by decide),if_pos k1,k2];exact h4 f O
theorem Dm {root:Bytes}{us:List Bytes}{L:List af}(hb:gC root=false)(h:F2 KL ((1,root)::wD us) L)(b:Bool):∃ L',F2 KL [(6,[])] L'/\∀ f,us.length+4<=f->unS f b L=some (.inr (tV (ab.mk 3 0 root [] v0 [] (hd b L).fAt) us,L')):=by
 obtain ⟨k1,k2,h1⟩:=xE (b:=b) h (by decide);obtain ⟨k,s,P,e,hp5,hp⟩:=E0 us
 have hs:sgB b (tl b L) [40]=false:=by
  have h2:=h1;rw [e] at h2;rw [sj h2 hp5];rcases hp with ⟨rfl,rfl⟩ | ⟨rfl,rfl⟩ <;> decide
 have hn:∀ s,s∈Ft->root≠s:=by
  intro s hs e;unfold gC at hb;rw [List.any_eq_false] at hb;exact hb s hs (by simp [e])
 obtain ⟨L',h2,h3⟩:=vF us (ab.mk 3 0 root [] v0 [] (hd b L).fAt) b (tl b L) h1;refine ⟨L',h2,λ f hf=>?_⟩;obtain ⟨f,rfl⟩:∃ k,f=k+3:=⟨f - 3,by omega⟩
 have hprim:pB (f+2) b L=some (.inr (ab.mk 3 0 root [] v0 [] (hd b L).fAt,tl b L)):=by
  rw [pB,k1,if_neg (by decide),if_neg (by decide),if_pos rfl,qI,k2,if_neg (hn _ (by decide)),if_neg (hn _ (by decide)),if_neg (hn _ (by decide)),if_neg (by rw [hb]; decide),hs]
  rfl
 rw [unS,sj h (by decide),sj h (by decide),if_neg G,if_neg G,hprim];exact h3 (f+2) O
theorem E5 {b:Bool}{L:List af}(h:F2 KL [(6,[])] L)(Iy:Nat):x9 b L Iy=none:=by
 unfold x9;rw [List.find?_eq_none];intro p _;rw [sj h (by decide)];simp
theorem wa {b:Bool}{L L':List af}{y:ab}(h':F2 KL [(6,[])] L'):∀ (k Iy f:Nat),Iy+k=6->(∀ f',f<=f'->unS f' b L=some (.inr (y,L')))->∀ f',f+2*k+1<=f'->q9 f' Iy b L=some (.inr (y,L'))
 | 0,Iy,f,hk,hu,f',hf=>by
  obtain ⟨f',rfl⟩:∃ k,f'=k+1:=⟨f' - 1,by omega⟩
  rw [q9,if_pos O];exact hu f' O
 | k+1,Iy,f,hk,hu,f',hf=>by
  obtain ⟨f',rfl⟩:∃ k,f'=k+2:=⟨f' - 2,by omega⟩
  rw [q9,if_neg O,wa h' k (Iy+1) f O hu (f'+1) O];show sO (f'+1) Iy b y L'=_;rw [sO,E5 h']
  rfl
theorem xB {root:Bytes}{us:List Bytes}(hr:bH root=true)(hb:gC root=false)(ha:∀ a∈us,bH a=true)(hl:us.length<=100):∃ (a:Int),lK 200 (root++iG us) 0=some (.inr (tV (ab.mk 3 0 root [] v0 [] a) us)):=by
 obtain ⟨L,e,h⟩:=yI hr ha hl
 have h0:F2 KL ((1,root)::wD us) (L.map (mvT 0)):=by
  clear e
  generalize (1,root)::wD us=K at h
  induction h with
  | nil=>exact .nil
  | cons p _ ih=>exact .cons p ih
 obtain ⟨L',h',hu⟩:=Dm hb h0 true;refine ⟨(hd true (L.map (mvT 0))).fAt,?_⟩;obtain ⟨k1,_⟩:=xE (b:=true) h' (by decide)
 have he:iJ 199 true (L.map (mvT 0))=some (.inr (tV (ab.mk 3 0 root [] v0 [] (hd true (L.map (mvT 0))).fAt) us,L')):=by
  rw [iJ,wa h' 6 0 (us.length+4) rfl hu 198 O];show (if sgB true L' [63]=true then _ else pok _ L')=_;rw [sj h' (by decide),if_neg (by decide)]
  rfl
 rw [lK,e,if_neg G,he];show (if (hd true L').Ar=6 then _ else _)=_;rw [if_pos k1]
end Go.Ab.R06
end
section
namespace Go.Ab.R06
open Go.Ab
theorem AY:∀ (m m':Nat),m<=m'->∀ (i j:Int) (l:List ab),Le (jp m i j l) (jp m' i j l):=by
 intro m
 induction m with
 | zero=>intro m' _ i j l; exact kS _
 | succ m ih =>
 intro m' hm i j l
 cases m' with
 | zero=>omega
 | succ m' =>
 simp only [jp]
 repeat' (with_reducible (first | exact aM _ | apply ih | refine jz ?_ | refine gR ?_ ?_ | omega))
theorem wS {n n':Nat}(hn:n<=n'){l:List ab}:Le (gi n l) (gi n' l):=by
 simp only [gi];exact jz (AY _ _ hn _ _ _)
theorem oY:∀ (m m':Nat),m<=m'->∀ y0 y1 y2 y3 y4 y5 y6 y7 y8 y9 y10 y11,Le (cy m y0 y1 y2 y3 y4 y5 y6 y7 y8 y9 y10 y11) (cy m' y0 y1 y2 y3 y4 y5 y6 y7 y8 y9 y10 y11):=by
 intro m
 induction m with
 | zero=>intro m' _ y0 y1 y2 y3 y4 y5 y6 y7 y8 y9 y10 y11; exact kS _
 | succ m ih =>
 intro m' hm y0 y1 y2 y3 y4 y5 y6 y7 y8 y9 y10 y11
 cases m' with
 | zero=>omega
 | succ m' =>
 simp only [cy]
 repeat' (with_reducible (first | exact aM _ | apply ih | refine jz ?_ | refine gR ?_ ?_ | refine eV ?_ (λ _=>?_) | omega))
theorem mV {n n':Nat}(hn:n<=n'){e:ab}:Le (dZ n e) (dZ n' e):=by
 simp only [dZ];exact eV (oY _ _ hn _ _ _ _ _ _ _ _ _ _ _ _) λ _=>eV (wS hn) λ _=>aM _
theorem ix {H1:List ab}{f_1 f_1':ab->Option Bool}(h_f_1:∀ x0,Le (f_1 x0) (f_1' x0)):∀ (m m':Nat),m<=m'->∀ (y0:Int),Le (aD H1 f_1 m y0) (aD H1 f_1' m' y0):=by
 intro m
 induction m with
 | zero=>intro m' _ y0; exact kS _
 | succ m ih =>
 intro m' hm y0
 cases m' with
 | zero=>omega
 | succ m' =>
 simp only [aD]
 repeat' (with_reducible (first | exact aM _ | apply ih | apply h_f_1 | refine jz ?_ | refine gR ?_ ?_ | refine eV ?_ (λ _=>?_) | refine kt ?_ (λ _=>?_) | omega | intro _))
theorem iW {n n':Nat}(hn:n<=n'){H1:List ab}{f_1 f_1':ab->Option Bool}(h_f_1:∀ x0,Le (f_1 x0) (f_1' x0)):Le (bJ n H1 f_1) (bJ n' H1 f_1'):=by
 simp only [bJ]
 repeat' (with_reducible (first | exact aM _ | apply h_f_1 | apply ix | refine jz ?_ | refine gR ?_ ?_ | refine eV ?_ (λ _=>?_) | refine kt ?_ (λ _=>?_) | omega | intro _))
theorem iz {n n':Nat}(hn:n<=n'){H1:List ab}{f_1 f_1':ab->Option Bool}(h_f_1:∀ x0,Le (f_1 x0) (f_1' x0)):Le (bh n H1 f_1) (bh n' H1 f_1'):=by
 simp only [bh]
 repeat' (with_reducible (first | exact aM _ | apply h_f_1 | apply iW | refine jz ?_ | refine gR ?_ ?_ | refine eV ?_ (λ _=>?_) | refine kt ?_ (λ _=>?_) | omega | intro _))
theorem qx {n n':Nat}(hn:n<=n'){H9:ab}:Le (cG n H9) (cG n' H9):=by
 simp only [cG]
 repeat' (with_reducible (first | exact aM _ | apply mV | apply iz | refine jz ?_ | refine gR ?_ ?_ | refine eV ?_ (λ _=>?_) | refine kt ?_ (λ _=>?_) | omega | intro _))
theorem j3 {H1:List Bytes}{v_1:Bytes}:∀ (m m':Nat),m<=m'->∀ (y0:Int),Le (bQ H1 v_1 m y0) (bQ H1 v_1 m' y0):=by
 intro m
 induction m with
 | zero=>intro m' _ y0; exact kS _
 | succ m ih =>
 intro m' hm y0
 cases m' with
 | zero=>omega
 | succ m' =>
 simp only [bQ]
 repeat' (with_reducible (first | exact aM _ | apply ih | refine jz ?_ | refine gR ?_ ?_ | refine eV ?_ (λ _=>?_) | refine kt ?_ (λ _=>?_) | omega | intro _))
theorem lg {n n':Nat}(hn:n<=n'){H1:List Bytes}{v_1:Bytes}:Le (cU n H1 v_1) (cU n' H1 v_1):=by
 simp only [cU]
 repeat' (with_reducible (first | exact aM _ | apply j3 | refine jz ?_ | refine gR ?_ ?_ | refine eV ?_ (λ _=>?_) | refine kt ?_ (λ _=>?_) | omega | intro _))
theorem kj {n n':Nat}(hn:n<=n'){H1:List Bytes}{v_1:Bytes}:Le (cC n H1 v_1) (cC n' H1 v_1):=by
 simp only [cC]
 repeat' (with_reducible (first | exact aM _ | apply lg | refine jz ?_ | refine gR ?_ ?_ | refine eV ?_ (λ _=>?_) | refine kt ?_ (λ _=>?_) | omega | intro _))
theorem iS {H1:List bD}{f_1 f_1':bD->Option Bool}(h_f_1:∀ x0,Le (f_1 x0) (f_1' x0)):∀ (m m':Nat),m<=m'->∀ (y0:Int),Le (bp H1 f_1 m y0) (bp H1 f_1' m' y0):=by
 intro m
 induction m with
 | zero=>intro m' _ y0; exact kS _
 | succ m ih =>
 intro m' hm y0
 cases m' with
 | zero=>omega
 | succ m' =>
 simp only [bp]
 repeat' (with_reducible (first | exact aM _ | apply ih | apply h_f_1 | refine jz ?_ | refine gR ?_ ?_ | refine eV ?_ (λ _=>?_) | refine kt ?_ (λ _=>?_) | omega | intro _))
theorem jv {n n':Nat}(hn:n<=n'){H1:List bD}{f_1 f_1':bD->Option Bool}(h_f_1:∀ x0,Le (f_1 x0) (f_1' x0)):Le (ca n H1 f_1) (ca n' H1 f_1'):=by
 simp only [ca]
 repeat' (with_reducible (first | exact aM _ | apply h_f_1 | apply iS | refine jz ?_ | refine gR ?_ ?_ | refine eV ?_ (λ _=>?_) | refine kt ?_ (λ _=>?_) | omega | intro _))
theorem iL {n n':Nat}(hn:n<=n'){H1:List bD}{f_1 f_1':bD->Option Bool}(h_f_1:∀ x0,Le (f_1 x0) (f_1' x0)):Le (bT n H1 f_1) (bT n' H1 f_1'):=by
 simp only [bT]
 repeat' (with_reducible (first | exact aM _ | apply h_f_1 | apply jv | refine jz ?_ | refine gR ?_ ?_ | refine eV ?_ (λ _=>?_) | refine kt ?_ (λ _=>?_) | omega | intro _))
theorem og {n n':Nat}(hn:n<=n'){f_0:ba}{Io:bD}:Le (eg n f_0 Io) (eg n' f_0 Io):=by
 simp only [eg]
 repeat' (with_reducible (first | exact aM _ | apply iL | refine jz ?_ | refine gR ?_ ?_ | refine eV ?_ (λ _=>?_) | refine kt ?_ (λ _=>?_) | omega | intro _))
theorem lS {H4 r_reference_finder_expr':ba->ab->(List Bytes)->Option ba}(h_reference_finder_expr:∀ x0 x1 x2,Le (H4 x0 x1 x2) (r_reference_finder_expr' x0 x1 x2)){e_1:ab}{bound_2:List Bytes}{inner15:List Bytes}:∀ (m m':Nat),m<=m'->∀ (y0:Int) (y1:List bD),Le (cv H4 e_1 bound_2 inner15 m y0 y1) (cv r_reference_finder_expr' e_1 bound_2 inner15 m' y0 y1):=by
 intro m
 induction m with
 | zero=>intro m' _ y0 y1; exact kS _
 | succ m ih =>
 intro m' hm y0 y1
 cases m' with
 | zero=>omega
 | succ m' =>
 simp only [cv]
 repeat' (with_reducible (first | exact aM _ | apply ih | apply h_reference_finder_expr | refine jz ?_ | refine gR ?_ ?_ | refine eV ?_ (λ _=>?_) | refine kt ?_ (λ _=>?_) | omega | intro _))
theorem lU {H4 r_reference_finder_expr':ba->ab->(List Bytes)->Option ba}(h_reference_finder_expr:∀ x0 x1 x2,Le (H4 x0 x1 x2) (r_reference_finder_expr' x0 x1 x2)){e_1:ab}{bound_2:List Bytes}:∀ (m m':Nat),m<=m'->∀ (y0:Int) (y1:List bD),Le (cu H4 e_1 bound_2 m y0 y1) (cu r_reference_finder_expr' e_1 bound_2 m' y0 y1):=by
 intro m
 induction m with
 | zero=>intro m' _ y0 y1; exact kS _
 | succ m ih =>
 intro m' hm y0 y1
 cases m' with
 | zero=>omega
 | succ m' =>
 simp only [cu]
 repeat' (with_reducible (first | exact aM _ | apply ih | apply h_reference_finder_expr | refine jz ?_ | refine gR ?_ ?_ | refine eV ?_ (λ _=>?_) | refine kt ?_ (λ _=>?_) | omega | intro _))
theorem lJ {H4 r_reference_finder_expr':ba->ab->(List Bytes)->Option ba}(h_reference_finder_expr:∀ x0 x1 x2,Le (H4 x0 x1 x2) (r_reference_finder_expr' x0 x1 x2)){bound_2:List Bytes}{r1:ab×(List ab)}:∀ (m m':Nat),m<=m'->∀ (y0:Int) (y1:List bD),Le (cn H4 bound_2 r1 m y0 y1) (cn r_reference_finder_expr' bound_2 r1 m' y0 y1):=by
 intro m
 induction m with
 | zero=>intro m' _ y0 y1; exact kS _
 | succ m ih =>
 intro m' hm y0 y1
 cases m' with
 | zero=>omega
 | succ m' =>
 simp only [cn]
 repeat' (with_reducible (first | exact aM _ | apply ih | apply h_reference_finder_expr | refine jz ?_ | refine gR ?_ ?_ | refine eV ?_ (λ _=>?_) | refine kt ?_ (λ _=>?_) | omega | intro _))
theorem mW (n:Nat):∀ n':Nat,n<=n'->(∀ (f_0:ba) (e_1:ab) (bound_2:List Bytes),Le (aP n f_0 e_1 bound_2) (aP n' f_0 e_1 bound_2))/\(∀ (f_0:ba) (e_1:ab) (bound_2:List Bytes),Le (dH n f_0 e_1 bound_2) (dH n' f_0 e_1 bound_2)):=by
 induction n with
 | zero=>exact λ n' _=>⟨(by intro f_0 e_1 bound_2; exact kS _),(by intro f_0 e_1 bound_2; exact kS _)⟩
 | succ n ih =>
 intro n' hn
 cases n' with
 | zero=>omega
 | succ n' =>
 have hn':n<=n':=by omega
 obtain ⟨IG,IF⟩:=ih n' hn';refine ⟨?_,?_⟩
 ·intro f_0 e_1 bound_2;simp only [aP]
  repeat' (with_reducible (first | exact aM _ | apply IG | apply IF | apply lS | apply lU | refine jz ?_ | refine gR ?_ ?_ | refine eV ?_ (λ _=>?_) | refine kt ?_ (λ _=>?_) | omega | intro _))
 ·intro f_0 e_1 bound_2;simp only [dH]
  repeat' (with_reducible (first | exact aM _ | apply IG | apply IF | apply mV | apply kj | apply og | apply lJ | refine jz ?_ | refine gR ?_ ?_ | refine eV ?_ (λ _=>?_) | refine kt ?_ (λ _=>?_) | omega | intro _))
theorem nB {n n':Nat}(hn:n<=n'):∀ (f_0:ba) (e_1:ab) (bound_2:List Bytes),Le (aP n f_0 e_1 bound_2) (aP n' f_0 e_1 bound_2):=(mW n n' hn).1
theorem sT {n n':Nat}(hn:n<=n'){H9:ab}:Le (iV n H9) (iV n' H9):=by
 simp only [iV]
 repeat' (with_reducible (first | exact aM _ | apply nB | refine jz ?_ | refine gR ?_ ?_ | refine eV ?_ (λ _=>?_) | refine kt ?_ (λ _=>?_) | omega | intro _))
theorem uc {n n':Nat}(hn:n<=n'):Le (fw n) (fw n'):=by
 simp only [fw]
 repeat' (with_reducible (first | exact aM _ | apply sT | apply qx | refine jz ?_ | refine gR ?_ ?_ | refine eV ?_ (λ _=>?_) | refine kt ?_ (λ _=>?_) | omega | intro _))
set_option maxRecDepth 100000 in
theorem wI:fw 100=some true:=by decide +kernel
theorem oz:Ev2 (λ n _=>fw n) (·=true):=Ea 100 wI (λ _n hn=>uc hn) Z
end Go.Ab.R06
end
section
namespace Go.Ab.R06
open Go.Proofs Go.Ab Go.Ab.RB Go.Lib
theorem nk {a b:Int}(h:decide (a=b)=false):¬ a=b:=of_decide_eq_false h
theorem VE.shp {lv:Nat}{e:ab}(h:VE lv e):Shp e:=by cases h; assumption
theorem VE.lv {lv:Nat}{e:ab}(h:VE lv e):lv<=32:=by cases h; assumption
def wk (t:ab):Prop:=(t.Ar=4/\bH t.AI=true)\/t.Ar=5
theorem Hw {lv:Nat}{e:ab}(h:VE lv e):∃ r s,Ch e r s/\r.Ar≠4/\r.Ar≠5/\(∀ t∈s,wk t)/\s.length<=32 - lv+1/\∃ l,VE l r:=by
 induction h with
 | @mk lv e h s c b k ih =>
  have hv:VE lv e:=.mk h s c b k;have stop:e.Ar≠4->e.Ar≠5->∃ r s,Ch e r s/\r.Ar≠4/\r.Ar≠5/\(∀ t∈s,wk t)/\s.length<=32 - lv+1/\∃ l,VE l r:=λ h4 h5=>⟨e,[],.stop h4 h5,h4,h5,λ t ht=>(by cases ht),rd _,lv,hv⟩
  have go:∀ x,e.By[0]? = some x->wk e->(e.Ar=4\/e.Ar=5)->∃ r s,Ch e r s/\r.Ar≠4/\r.Ar≠5/\(∀ t∈s,wk t)/\s.length<=32 - lv+1/\∃ l,VE l r:=by
   intro x hx hs hk;have hm:x∈e.By:=List.mem_of_getElem? hx;have hl:=(k x hm).lv;obtain ⟨r,s,h1,h2,h3,h4,h5,h6⟩:=ih x hm;refine ⟨r,e::s,.step hk hx h1,h2,h3,λ t ht=>?_,by simp only [aq]; omega,h6⟩;rcases ur.1 ht with rfl | ht
   ·exact hs
   ·exact h4 t ht
  cases s with
  | attr n x a hi=>exact go x Z (.inl ⟨Z,hi⟩) (.inl Z)
  | idx x y a=>exact go x Z (.inr Z) (.inr Z)
  | loop m s y x c dl fl a hi hr hy hd hf=>cases m <;> exact stop (nk rfl) (nk rfl)
  | _=>exact stop (nk Z) (nk Z)
def plK (s:Bytes):Option Int :=
 if s=[118,97,114] then some 1 else if s=[108,111,99,97,108] then some 2 else if s=[101,97,99,104] then some 6 else if s=[99,111,117,110,116] then some 7 else if s=[114,101,109,111,116,101] then some 8 else none
def bgn (root:Bytes)(a:Int):List Bytes->bD×Nat
 | []=>(bD.mk 9 [] root a,0)
 | x::r=>match plK root with
  | some k=>(bD.mk k [] x a,1)
  | none=>if root=[100,97,116,97] then (match r with
    | []=>(bD.mk 9 [] root a,0)
    | y::_=>(bD.mk 4 x y a,2))
   else if root=[109,111,100,117,108,101] then (match r with
    | []=>(bD.mk 5 [] x a,1)
    | y::_=>(bD.mk 5 y x a,2))
   else (bD.mk 3 root x a,1)
theorem C3 (s:Bytes):im s=some ((plK s).getD 0,(plK s).isSome):=by
 unfold im plK;by_cases h1:s=[118,97,114]
 ·simp [h1]
 by_cases h2:s=[108,111,99,97,108]
 ·simp [h2]
 by_cases h3:s=[101,97,99,104]
 ·simp [h3]
 by_cases h4:s=[99,111,117,110,116]
 ·simp [h4]
 by_cases h5:s=[114,101,109,111,116,101]
 ·simp [h5]
 simp [h1,h2,h3,h4,h5]
theorem w6 {st:List ab}(h:∀ t∈st,t.Ar=4)(i:Nat):ep st (i:Int)=some (match (st.map (·.AI))[i]? with | some x=>(x,true) | none=>([],false)):=by
 rw [Fs];by_cases hi:i < st.length
 ·have e:=oO st i hi;have h4:(lat st (i:Int)).Ar=4:=by rw [e]; exact h _ (List.getElem_mem hi)
  rw [if_pos (show isA st i from ⟨hi,h4⟩),e];simp [hi]
 ·rw [if_neg (λ k:isA st i=>hi k.1)];simp [hi]
theorem CS (r:ab){st:List ab}(h:∀ t∈st,t.Ar=4):gm r st=some ((bgn r.AI r.fAt (st.map (·.AI))).1,((bgn r.AI r.fAt (st.map (·.AI))).2:Int)):=by
 have a0:=w6 h 0;have a1:=w6 h 1;have a2:=w6 h 2;unfold gm jh;simp only [Int.cast_ofNat_Int] at a0 a1 a2;rw [a0,a1,a2,C3];generalize st.map (·.AI)=us
 cases us with
 | nil=>rfl
 | cons x t =>
  simp only [List.getElem?_cons_zero,py,bgn]
  cases hp:plK r.AI with
  | some k=>simp
  | none =>
   by_cases h1:r.AI=[100,97,116,97]
   ·cases t with
    | nil=>simp [h1]
    | cons y t=>simp [h1]
   ·by_cases h2:r.AI=[109,111,100,117,108,101]
    ·cases t with
     | nil=>simp [h2]
     | cons y t=>simp [h2]
    ·simp [h1,h2]
theorem has5 (st:List ab)(hl:st.length<=100000):Ev2 (λ n _=>bh n st (λ x0=>dO x0)) (·=st.any λ t=>decide (t.Ar=5)):=by
 have loop:∀ (k i:Nat),i+k=st.length->Ev2 (λ _ m=>aD st (λ x0=>dO x0) m (i:Int)) (λ s=>match s with | .inl _=>(st.drop i).any (λ t=>decide (t.Ar=5))=false | .inr j=>0<=j/\(st.drop i).any (λ t=>decide (t.Ar=5))=true):=by
  intro k
  induction k with
  | zero =>
   intro i hi;refine aY ?_;simp only [aD];refine ak O (aa ?_);show (st.drop i).any _=false;rw [List.drop_eq_nil_of_le O]; rfl
  | succ k ih =>
   intro i hi;have hd:=qZ st (i:=i) O;refine aY ?_;simp only [aD,dO];refine am O (aw O (ao (decide ((lat st (i:Int)).Ar=5)) (aa rfl) (aI (λ h=>aa ?_) (λ h=>aw (aK O O) ?_))))
   ·show (0:Int)<=i/\_;refine ⟨by omega,?_⟩;rw [hd,List.any_cons,h]; rfl
   ·have h:=eq_false_of_ne_true h;refine b7 (pg (P:=λ j=>Ev2 (λ _ m=>aD st (λ x0=>some (decide (x0.Ar=5))) m j) _) (ih (i+1) O)) (λ s hs=>?_);rw [hd]
    cases s with
    | inl u=>show (List.any (_::_) _)=false; rw [List.any_cons,h]; exact hs
    | inr j=>exact ⟨hs.1,by rw [List.any_cons,h]; exact hs.2⟩
 simp only [bh,bJ];have l0:=loop st.length 0 O;rw [List.drop_zero] at l0;refine ag (λ r=>decide ((0:Int)<=r)=st.any λ t=>decide (t.Ar=5)) (eC (b7 (bU (f:=λ _ m=>aD st (λ x0=>dO x0) m 0) l0) (λ s hs=>?_))) (λ r hr=>aa hr)
 cases s with
 | inl u =>
  have hs:st.any _=false:=hs;exact aa (by rw [hs]; decide)
 | inr j =>
  obtain ⟨h1,h2⟩:=hs;show decide ((0:Int)<=j)=_;rw [h2,decide_eq_true_eq]; exact h1
theorem Bl {e r:ab}{s:List ab}(h:Ch e r s)(hl:s.length<=1000)(hb:r.Ar≠3\/∃ t∈s,t.Ar=5):Ev2 (λ n _=>cG n e) (λ z=>z.2=false):=by
 simp only [cG];refine ao _ (yr h O) (ao true ?_ (am rfl (aa rfl)));refine aI (λ hk=>?_) (λ _=>aa rfl);refine ao _ (has5 s.reverse (by simp; omega)) (aa ?_);rcases hb with hb | ⟨t,ht,h5⟩
 ·exact absurd hk hb
 ·rw [List.any_eq_true]; exact ⟨t,by simpa using ht,by simpa using h5⟩
theorem uN {e r:ab}{s:List ab}(h:Ch e r s)(hl:s.length<=1000)(hr:r.Ar=3)(hs:∀ t∈s,t.Ar=4) :
  Ev2 (λ n _=>cG n e) (·=if (bgn r.AI r.fAt (s.reverse.map (·.AI))).2=s.length then ((bgn r.AI r.fAt (s.reverse.map (·.AI))).1,true) else (bD.mk 0 [] [] 0,false)):=by
 simp only [cG];have hs':∀ t∈s.reverse,t.Ar=4:=λ t ht=>hs t (by simpa using ht);refine ao _ (yr h O) (ao false ?_ (ak (by decide) ?_))
 ·refine am hr (ao _ (has5 s.reverse (by simp; omega)) (aa ?_));rw [List.any_eq_false];intro t ht;rw [hs' t ht]; decide
 ·refine ao _ (ar (CS r hs') Z) ?_;generalize bgn r.AI r.fAt (s.reverse.map (·.AI))=b;refine aI (λ q=>aa ?_) (λ q=>aa ?_)
  ·rw [if_pos (by simp at q; omega)]
  ·rw [if_neg (by simp at q; omega)]
theorem Ep {root:Bytes}{k:Int}(h:plK root=some k)(x:Bytes)(hx:x.length<=100):∀ a,bZ (bD.mk k [] x a)=some (root++46::x):=by
 intro a;unfold plK at h;unfold bZ;split at h
 ·rename_i e; subst e; cases h;rw [if_pos rfl,bI (by show _+x.length<=_; simp only [aq,cl]; omega)]; rfl
 split at h
 ·rename_i e; subst e; cases h;rw [if_neg (nk rfl),if_pos rfl,bI (by show _+x.length<=_; simp only [aq,cl]; omega)]; rfl
 split at h
 ·rename_i e; subst e; cases h;rw [if_neg (nk rfl),if_neg (nk rfl),if_pos rfl,bI (by show _+x.length<=_; simp only [aq,cl]; omega)]; rfl
 split at h
 ·rename_i e; subst e; cases h;rw [if_neg (nk rfl),if_neg (nk rfl),if_neg (nk rfl),if_pos rfl,bI (by show _+x.length<=_; simp only [aq,cl]; omega)]; rfl
 split at h
 ·rename_i e; subst e; cases h;rw [if_neg (nk rfl),if_neg (nk rfl),if_neg (nk rfl),if_neg (nk rfl),if_pos rfl,bI (by show _+x.length<=_; simp only [aq,cl]; omega)]; rfl
 ·cases h
theorem BB {root:Bytes}{a:Int}{us:List Bytes}(hr:root.length<=100)(hu:∀ x∈us,x.length<=100/\x≠[])(h:(bgn root a us).2=us.length):bZ (bgn root a us).1=some (root++iG us):=by
 match us with
 | []=>show bZ (bD.mk 9 [] root a)=_; simp [bZ,iG]
 | [x] =>
  have hx:=(hu x G).1;show _=some (root++46::(x++[]));rw [List.append_nil];unfold bgn at h ⊢
  cases hp:plK root with
  | some k=>exact Ep hp x hx a
  | none =>
   rw [hp] at h;by_cases h1:root=[100,97,116,97]
   ·simp [h1] at h
   ·by_cases h2:root=[109,111,100,117,108,101]
    ·subst h2;show bZ (bD.mk 5 [] x a)=_;unfold bZ;rw [if_neg (nk rfl),if_neg (nk rfl),if_neg (nk rfl),if_neg (nk rfl),if_neg (nk rfl),if_neg (nk rfl),if_neg (nk rfl),if_pos rfl,if_pos rfl,bI (by show _+x.length<=_; simp only [aq,cl]; omega)]; rfl
    ·simp only [h1,h2,if_false];show bZ (bD.mk 3 root x a)=_;unfold bZ;rw [if_neg (nk rfl),if_neg (nk rfl),if_neg (nk rfl),if_neg (nk rfl),if_neg (nk rfl),if_pos rfl,bI (by show root.length+_<=_; simp only [aq,cl]; omega),bI (by show (root++_).length+x.length<=_; simp only [dg,aq,cl]; omega)];show some ((root++[46])++x)=_;simp
 | [x,y] =>
  obtain ⟨hx,_⟩:=hu x G;obtain ⟨hy,yn⟩:=hu y G;show _=some (root++46::(x++46::(y++[])));rw [List.append_nil];unfold bgn at h ⊢
  cases hp:plK root with
  | some k=>rw [hp] at h; simp at h
  | none =>
   rw [hp] at h;by_cases h1:root=[100,97,116,97]
   ·subst h1;show bZ (bD.mk 4 x y a)=_;unfold bZ;rw [if_neg (nk rfl),if_neg (nk rfl),if_neg (nk rfl),if_neg (nk rfl),if_neg (nk rfl),if_neg (nk rfl),if_pos rfl,bI (by show _+x.length<=_; simp only [aq,cl]; omega),bI (by show (_++x).length+_<=_; simp only [dg,aq,cl]; omega),bI (by show ((_++x)++_).length+y.length<=_; simp only [dg,aq,cl]; omega)];show some ((([100,97,116,97,46]++x)++[46])++y)=_;simp
   ·by_cases h2:root=[109,111,100,117,108,101]
    ·subst h2;show bZ (bD.mk 5 y x a)=_;unfold bZ;rw [if_neg (nk rfl),if_neg (nk rfl),if_neg (nk rfl),if_neg (nk rfl),if_neg (nk rfl),if_neg (nk rfl),if_neg (nk rfl),if_pos rfl,if_neg yn,bI (by show _+x.length<=_; simp only [aq,cl]; omega),bI (by show (_++x).length+_<=_; simp only [dg,aq,cl]; omega),bI (by show ((_++x)++_).length+y.length<=_; simp only [dg,aq,cl]; omega)];show some ((([109,111,100,117,108,101,46]++x)++[46])++y)=_;simp
    ·simp [h1,h2] at h
 | x::y::z::r =>
  exfalso;unfold bgn at h
  cases hp:plK root with
  | some k=>rw [hp] at h; simp at h
  | none =>
   rw [hp] at h;by_cases h1:root=[100,97,116,97]
   ·simp [h1] at h
   ·by_cases h2:root=[109,111,100,117,108,101]
    ·simp [h2] at h
    ·simp [h1,h2] at h
theorem ES {root:Bytes}{a:Int}{us:List Bytes}(h:(bgn root a us).2=us.length):us.length<=2:=by
 match us with
 | []=>simp
 | [_]=>simp
 | [_,_]=>simp
 | x::y::z::r =>
  exfalso;unfold bgn at h
  cases hp:plK root with
  | some k=>rw [hp] at h; simp at h
  | none =>
   rw [hp] at h;by_cases h1:root=[100,97,116,97]
   ·simp [h1] at h
   ·by_cases h2:root=[109,111,100,117,108,101]
    ·simp [h2] at h
    ·simp [h1,h2] at h
theorem GK (root:Bytes)(a b:Int)(us:List Bytes):(bgn root b us).2=(bgn root a us).2/\(bgn root b us).1.Ar=(bgn root a us).1.Ar/\(bgn root b us).1.HX=(bgn root a us).1.HX/\(bgn root b us).1.AI=(bgn root a us).1.AI:=by
 cases us with
 | nil=>exact ⟨Z,Z,Z,Z⟩
 | cons x t =>
  simp only [bgn]
  cases plK root with
  | some k=>exact ⟨Z,Z,Z,Z⟩
  | none =>
   dsimp only;by_cases h1:root=[100,97,116,97]
   ·rw [if_pos h1,if_pos h1]
    cases t <;> exact ⟨rfl,rfl,rfl,rfl⟩
   ·rw [if_neg h1,if_neg h1];by_cases h2:root=[109,111,100,117,108,101]
    ·rw [if_pos h2,if_pos h2]
     cases t <;> exact ⟨rfl,rfl,rfl,rfl⟩
    ·rw [if_neg h2,if_neg h2]; exact ⟨rfl,rfl,rfl,rfl⟩
theorem vD {R:ab}:∀ (us:List Bytes) (x:ab) (s:List ab),Ch x R s->(∀ t∈s,t.Ar=4)->∃ s',Ch (tV x us) R s'/\(∀ t∈s',t.Ar=4)/\s'.reverse.map (·.AI)=s.reverse.map (·.AI)++us/\s'.length=s.length+us.length
 | [],x,s,h,h4=>⟨s,h,h4,by simp,by simp⟩
 | a::r,x,s,h,h4=>by
  obtain ⟨s',h1,h2,h3,h5⟩:=vD r (ab.mk 4 0 a [] v0 [x] x.fAt) (ab.mk 4 0 a [] v0 [x] x.fAt::s) (.step (.inl rfl) rfl h) (λ t ht=>by
   rcases ur.1 ht with rfl | ht
   ·rfl
   ·exact h4 t ht)
  refine ⟨s',h1,h2,?_,by simp only [aq] at h5 ⊢; omega⟩;rw [h3]; simp [ab.AI]
theorem C4 {root:Bytes}(h1:bH root=true)(h2:gC root=false)(a:Int):jm (ab.mk 3 0 root [] v0 [] a)=0:=by
 have:pr (ab.mk 3 0 root [] v0 [] a)=true:=by
  simp [pr,fC,gA,ij,i6,iv,ma,ab.Ar,ab.fOp,ab.AI,ab.E',ab.A',ab.By,v0,ah.Ar,ah.F',ah.HT,ah.HQ,ah.D',ck,inR]
 unfold jm;rw [this];simp [ab.Ar,ab.AI,ab.E',h1,h2]
theorem tM {n:Bytes}(h1:bH n=true)(x:ab)(a:Int):jm (ab.mk 4 0 n [] v0 [x] a)=0:=by
 have:pr (ab.mk 4 0 n [] v0 [x] a)=true:=by
  simp [pr,fC,gA,ij,i6,iv,ma,ab.Ar,ab.fOp,ab.AI,ab.E',ab.A',ab.By,v0,ah.Ar,ah.F',ah.HT,ah.HQ,ah.D',ck,inR]
 unfold jm;rw [this];simp [ab.Ar,ab.AI,ab.E',h1]
theorem Fh {root:Bytes}{us:List Bytes}(hr:bH root=true)(hb:gC root=false)(hu:∀ x∈us,bH x=true)(hl:us.length<=2)(a:Int):chk (tV (ab.mk 3 0 root [] v0 [] a) us)=0:=by
 have n3:=λ a=>C4 hr hb a
 match us,hu,hl with
 | [],_,_=>simp [chk,tV,kQ,n3,ab.By,jV]
 | [x],hu,_ =>
  have n4:=λ y a=>tM (hu x G) y a;simp [chk,tV,kQ,n3,n4,ab.By,jV]
 | [x,y],hu,_ =>
  have n4:=λ y a=>tM (hu x G) y a;have n5:=λ z a=>tM (hu y G) z a;simp [chk,tV,kQ,n3,n4,n5,ab.By,jV]
theorem vG {s:Bytes}(h:bH s=true):s.length<=100/\s≠[]:=by
 obtain ⟨b,w,rfl,_,h64,_⟩:=rB h;exact ⟨by omega,by simp⟩
theorem zv {root:Bytes}{us:List Bytes}(hr:bH root=true)(hb:gC root=false)(hu:∀ x∈us,bH x=true)(hl:us.length<=2):∃ a:Int,Ev2 (λ n _=>mA n (root++iG us)) (·=(tV (ab.mk 3 0 root [] v0 [] a) us,ap.mk 0 0 [])):=by
 obtain ⟨a,h⟩:=xB hr hb hu O
 have H0:(root++iG us).length<=1000:=by
  have h0:=(vG hr).1
  match us,hu,hl with
  | [],_,_=>simp [iG]; omega
  | [x],hu,_=>have:=(vG (hu x G)).1; simp [iG]; omega
  | [x,y],hu,_=>have:=(vG (hu x G)).1; have:=(vG (hu y G)).1; simp [iG]; omega
 refine ⟨a,?_⟩;have hz:=(fct 200).w (root++iG us) 0 O O  _ h;have h1:=(fol 200).w (root++iG us) 0 _ O O  h;simp only [mA];refine ag _ h1 λ r hr'=>?_;replace hr':r=(_,dOk):=hr';subst hr';refine ao _ (uv hz) (aa ?_);have hc:=Fh hr hb hu hl a;unfold vf;simp only [hc,if_true]
 rfl
theorem Ee {x y:bD}(h1:y.Ar=x.Ar)(h2:y.HX=x.HX)(h3:y.AI=x.AI):fW x y=some true:=by
 unfold fW;rw [if_pos h1.symm,if_pos h2.symm,h3];simp
theorem C6 {e:ab}(hb:ab.Bd e):Ev2 (λ n _=>lx n e) (λ r=>r=true->VE 1 e):=by
 simp only [lx];refine ag (λ r=>r=true->VE 1 e) ?_ (λ r hr=>aa hr);refine ag _ (AZ hb 200 (by decide) (by decide)) (λ r hr=>aI (λ h=>?_) (λ _=>aa (λ k=>by cases k)));refine ao _ (EK (FO hb)) (aa λ k=>?_);have hn:=hr h;exact HA hb 0 1 (n6 _) O (of_decide_eq_true k)
theorem DT {e:ab}(hb:ab.Bd e):Ev2 (λ n _=>gJ n e) (·=true):=by
 simp only [gJ];refine ag _ (C6 hb) (λ r hr=>aI (λ _=>ag _ oz (λ t ht=>aa ht)) (λ h=>?_));have hv:=hr (by simpa using h);obtain ⟨R,s,hc,k4,k5,hs,hl,l,hR⟩:=Hw hv;by_cases hbad:R.Ar≠3\/∃ t∈s,t.Ar=5
 ·refine ag _ (Bl hc O hbad) (λ z hz=>am (by rw [hz]; rfl) (ag _ oz (λ t ht=>aa ht)))
 have h3:R.Ar=3:=Classical.byContradiction λ q=>hbad (.inl q)
 have h4:∀ t∈s,t.Ar=4/\bH t.AI=true:=λ t ht=>by
  rcases hs t ht with q | q
  ·exact q
  ·exact absurd (.inr ⟨t,ht,q⟩) hbad
 have hp:=uN hc O h3 (λ t ht=>(h4 t ht).1);generalize hus:s.reverse.map (·.AI)=us at hp;have hul:us.length=s.length:=by rw [<- hus]; simp
 by_cases hn:(bgn R.AI R.fAt us).2=s.length
 ·rw [if_pos hn] at hp
  have hroot:bH R.AI=true/\gC R.AI=false:=by
   have:=hR.shp
   cases this with
   | name x a hi hr=>exact ⟨hi,hr⟩
   | loop m s y x c dl fl a hi hr hy hd hf=>cases m <;> cases h3
   | _=>cases h3
  have hu:∀ x∈us,bH x=true:=λ x hx=>by
   rw [<- hus] at hx;obtain ⟨t,ht,rfl⟩:=List.mem_map.1 hx;exact (h4 t (by simpa using ht)).2
  have h2:=ES (hn.trans hul.symm);obtain ⟨a,hx⟩:=zv hroot.1 hroot.2 hu h2;obtain ⟨s',c1,c2,c3,c4⟩:=vD us (ab.mk 3 0 R.AI [] v0 [] a) [] (.stop (by show ¬ ((3:Int)=4); decide) (by show ¬ ((3:Int)=5); decide)) (λ t ht=>by cases ht);have hp2:=uN c1 (by simp at c4; omega) rfl c2;have e1:s'.reverse.map (·.AI)=us:=by rw [c3]; rfl
  rw [e1] at hp2;obtain ⟨b1,b2,b3,b4⟩:=GK R.AI R.fAt a us
  have hn2:(bgn (ab.mk 3 0 R.AI [] v0 [] a).AI (ab.mk 3 0 R.AI [] v0 [] a).fAt us).2=s'.length:=by
   show (bgn R.AI a us).2=_;rw [b1,hn,c4,hul]; simp
  rw [if_pos hn2] at hp2;refine ao _ hp (ak G ?_);refine ao _ (ar (BB (vG hroot.1).1 (λ x hx=>vG (hu x hx)) (hn.trans hul.symm)) rfl) ?_;refine ao _ hx (ao _ hp2 (ag (·=true) ?_ (λ t ht=>aa ht)));exact am rfl (am rfl (ao true (ar (Ee b2 b3 b4) rfl) (am rfl (ag _ oz (λ t ht=>aa ht)))))
 ·rw [if_neg hn] at hp;exact ao _ hp (am rfl (ag _ oz (λ t ht=>aa ht)))
end Go.Ab.R06
end
