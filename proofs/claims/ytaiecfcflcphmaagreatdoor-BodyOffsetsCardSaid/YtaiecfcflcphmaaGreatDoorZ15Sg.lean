/- Texts of the proof, one behind the other. No statement is proved here. -/
import Derived.WalkKit
import Derived.Test.YtaiecfcflcphmaaGreatDoorCards
import Derived.Test.YtaiecfcflcphmaaGreatDoorTie
import Derived.SizedLaws
import Derived.ProofKit
import Derived.OpenShut
import Derived.ShutString
import Derived.LaidMore
import Derived.Stop.Joined
import Derived.Deep.DeepHandedRow
import Derived.Deep.DeepWitnessRowRef
import Derived.Test.YtaiecfcflcphmaaGreatDoorZ15Sa
import Derived.Test.YtaiecfcflcphmaaGreatDoorZ15Sb
import Derived.Test.YtaiecfcflcphmaaGreatDoorZ15Sc
import Derived.Test.YtaiecfcflcphmaaGreatDoorZ15Sd
import Derived.Test.YtaiecfcflcphmaaGreatDoorZ15Se
import Derived.Test.YtaiecfcflcphmaaGreatDoorZ15Sf
set_option maxHeartbeats 4000000
section
namespace Go.Ab.R06
open Go.Ab Go.Ab.RB Go.Lib
variable {p:Prop}
theorem CU (h:p:=by simp only [cl,la,n7]; omega):p:=h
theorem Cs (a b:ac):∃ v,lx a b=some v:=by
 unfold lx strings_Contains strings_HasPrefix
 repeat' (first|exact ⟨_,Z⟩|refine rE ?_ (λ _=>?_)|refine tA (λ _=>?_) (λ _=>?_)|refine LL (by decide) ?_)
theorem EI {t:ac}(h:t.BY.length<=65536):Ev2 (λ n _=>lE n t) Tr:=by
 simp only [lE];refine am (λ s=>s.length<=70000) (aR (λ _=>aE (by simp only [cl,n7]; omega) (aE CU (ae CU))) (λ _=>ae O)) (λ s hs=>?_);refine am (λ t=>t=false->s≠[]) (aR (λ _=>ae (λ h=>absurd h (by decide))) (λ h=>aR (λ _=>ae (λ _=>h)) (λ _=>ae (λ _=>h)))) (λ t ht=>?_);refine aR (λ _=>ae trivial) (λ hf=>?_);have Ob:=ht (by simpa using hf);obtain ⟨a,w,rfl⟩:∃ a w,s=a::w:=by cases s with|nil=>exact absurd rfl Ob|cons a w=>exact ⟨a,w,rfl⟩
 have hl:(a::w).length<=1000000000:=by omega
 have hsuf:(a::w) <:+ (a::w):=List.suffix_refl _;have e0:ab.mk (a::w) 0 (-1) (au.mk 0 0 [])=scx (a::w) (a::w) (-1) (au.mk 0 0 []):=by rw [scx,De]
 refine aC (scx (a::w) (a::w) (-1) (au.mk 0 0 [])) (aT (by unfold iu; rw [e0]) Z) ?_;refine aC _ (tp (a::w) hl hsuf _ _) ?_;refine aR (λ _=>ae trivial) (λ hb=>?_);have hb:kx (a::w)=true:=by simpa using hb
 refine am _ (D2 hl (d:=au.mk 0 0 []) hsuf (f:=w.length+1) O hb) (λ r _=>?_);exact am Tr (aR (λ _=>aC _ nN GF) (λ _=>ae trivial)) (λ _ _=>ae trivial)
theorem CB {L:List ac}(hl:L.length<=1000000000)(ht:∀ t∈L,t.BY.length<=1000000000):Ev2 (λ n _=>kr n L) Tr:=by
 simp only [kr];refine am Tr (cp (f:=λ n m=>dQ L m 0 0) ?_) (λ r hr=>ae trivial)
 suffices ∀ (k i:Nat) (a:Int),i+k=L.length->0<=a->a<=(i:Int)*1000000003->Ev2 (λ _ m=>dQ L m a (i:Int)) Tr from this L.length 0 0 O O O
 intro k
 induction k with
 | zero=>
  intro i a hi ha hb;refine bc ?_;simp only [dQ];exact CJ
 | succ k ih=>
  intro i a hi ha hb;have hx:=ht _ (zg (l:=L) (i:=(i:Int)) O);refine bc ?_;simp only [dQ];generalize lat L (i:Int)=t at *;refine ay O (am (λ r=>a<=r/\r<=a+(t.BY.length:Int)+3) (aE O (aE bO ?_)) (λ r hr=>aE bO ?_))
  ·refine am (λ r=>a<=r/\r<=a+(t.BY.length:Int)+2) (aR (λ _=>aE bO (ae O)) (λ _=>ae O)) (λ r hr=>?_);refine am (λ _=>True) (aR (λ _=>aE bO (aE O ?_)) (λ _=>ae trivial)) (λ b _=>?_)
   ·obtain ⟨v,hv⟩:=Cs (lat L ((i:Int)-1)) t;exact am (λ _=>True) (aT hv trivial) (λ _ _=>ae trivial)
   ·exact aR (λ _=>aE bO (ae O)) (λ _=>ae O)
  ·exact lw (P:=λ j=>Ev2 (λ _ m=>dQ L m r j) Tr) (ih (i+1) r O O O)
theorem GK:∀ {L:List ac},Gd L->∀ t∈L,t.BY.length<=1000000000
 | [],h,_,_=>h.elim
 | t::r,h,u,hu=>by
  rcases wr.1 hu with rfl|hu
  ·have:=h.1.2.1; have:=h.1.1; omega
  ·rcases h.2 with h2|h2
   ·rw [h2.2] at hu; cases hu
   ·exact GK h2.2 u hu
theorem EG {L:List ac}(g:Gl L):Ev2 (λ n _=>ln n L) Tr:=by
 have hl:=g.2;have hx:=GK g.1;have h0:L.length≠0:=by intro h; rw [List.length_eq_zero_iff.1 h] at g; exact g.1
 simp only [ln];refine aR (λ _=>ae trivial) (λ _=>ax O (aE bO ?_));refine am Tr (aE O (aR (λ _=>aE O (ae trivial)) (λ _=>ae trivial))) (λ _ _=>aR (λ _=>ae trivial) (λ _=>aE O ?_));have e1:(L.length:Int)-1=((L.length-1:Nat):Int):=by omega
 have hM:sub L 0 ((L.length:Int)-1)=L.take (L.length-1):=by rw [e1,<- Int.natCast_zero,sf]; rfl
 have hm:(L.take (L.length-1)).length<=L.length:=by rw [List.length_take]; omega
 refine dH (bZ (cp (f:=λ n m=>ei n L m 0) (P:=Tr) ?_) (λ s _=>?_))
 ·suffices ∀ (k i:Nat),i+k=(L.take (L.length-1)).length->Ev2 (λ n m=>ei n L m (i:Int)) Tr from this (L.take (L.length-1)).length 0 (sm _)
  intro k
  induction k with
  | zero=>
   intro i hi;refine bc ?_;simp only [ei,hM];exact CJ
  | succ k ih=>
   intro i hi;refine bc ?_;simp only [ei,hM];refine ay O (aE O (aR (λ _=>ae trivial) (λ hb=>am Tr (EI (t:=lat (L.take (L.length-1)) (i:Int)) O) (λ b _=>aR (λ _=>ae trivial) (λ _=>aE bO ?_)))));exact lw (P:=λ j=>Ev2 (λ n m=>ei n L m j) Tr) (ih (i+1) O)
 ·cases s with
  | inr y=>trivial
  | inl x=>exact am Tr (CB hl hx) (λ r _=>aR (λ _=>ae trivial) (λ _=>ae trivial))
theorem HN (L:List ac):L.map (mvT 0)=L:=by
 induction L with
 | nil=>rfl
 | cons t r ih=>obtain ⟨k,x,a⟩:=t; rw [dg,ih]; simp [mvT]
def RdP (L:List ac)(r:ag×Int×au):Prop:=r.2.2.Ar=0->0<=r.2.1/\r.2.1<(L.length:Int)
theorem HA {L:List ac}(g:Gl L):Ev2 (λ n _=>kU n L 0) (RdP L):=by
 simp only [kU]
 have hl0:0<L.length:=by
  cases L with
  | nil=>exact g.1.elim
  | cons t r=>simp
 refine am Tr (am Tr (EG g) (λ _ _=>aR (λ _=>ax O (ae trivial)) (λ _=>ae trivial))) (λ _ _=>aR (λ _=>ae (λ h=>absurd h (by decide))) (λ _=>?_));obtain ⟨f,q,hq⟩:=HR false L g;have hL:Gd (L.map (mvT 0)):=by rw [HN]; exact g.1
 have p1:Pos L 0 0 0 false L:=⟨hl0,by omega,by have:=g.2; omega,Z,by rw [HN]; rfl⟩
 have f1:=(fol f).e false L L 0 hL g.2 0 0 q p1 hq;have NR:=(fct f).e false L g q hq
 cases q with
 | inl e=>
  refine am _ f1 ?_;rintro ⟨z1,z2⟩ ⟨he,j,l',h3,h4⟩
  cases h3
  refine aC (e0,eD e) ?_ (ax he (ae (λ h=>absurd h he)));simp only [gU];exact ax he (ae Z)
 | inr y=>
  obtain ⟨x,l'⟩:=y;have hx:Sz x:=NR.1;refine am _ f1 ?_;rintro ⟨z1,z2⟩ ⟨h,j,h3,h4⟩;replace h:z1=x:=h;subst h; cases h3;by_cases hc:chk z1=0
  ·refine aC (z1,dOk) ?_ (ay Z (ae (λ _=>⟨by show (0:Int)<=(j:Int); omega,by show (j:Int)<(L.length:Int); have:=h4.1; omega⟩)));simp only [gU];exact ay Z (aC _ (yP hx) (ay hc (ae Z)))
  ·refine aC (e0,au.mk (chk z1) z1.fAt []) ?_ (ax hc (ae (λ h=>absurd h hc)));simp only [gU];exact ay Z (aC _ (yP hx) (ax hc (ae Z)))
open Classical in
noncomputable def rdQ (L:List ac):ag×Int×au:=if h:∃ r,RdP L r/\Ev2 (λ n _=>kU n L 0) (·=r) then h.choose else (e0,0,dOk)
theorem Iy {L:List ac}(g:Gl L):RdP L (rdQ L)/\Ev2 (λ n _=>kU n L 0) (·=rdQ L):=by
 have h:=JB (HA g);unfold rdQ;rw [dif_pos h];exact h.choose_spec
def tG (t:ac):Bool:=decide (t.BY=[41])||decide (t.BY=[93])||decide (t.BY=[125])
def JL (t:ac):Bool:=decide (t.BY=[40])||decide (t.BY=[91])||decide (t.BY=[123])
def lQ (d:Nat)(t:ac):Bool:=decide (t.Ar=6)||decide (d=0)&&(decide (t.Ar=5)||decide (t.Ar=4)&&tG t)
def nh (d:Nat)(t:ac):Nat:=if t.Ar=4 then (if JL t then d+1 else if tG t then d-1 else d) else d
def tb:Nat->List ac->List ac|_,[]=>[]|d,t::r=>if lQ d t then [ac.mk 6 [] t.fAt] else t::tb (nh d t) r
def lj:Nat->List ac->Nat|_,[]=>0|d,t::r=>if lQ d t then 0 else lj (nh d t) r+1
theorem qk:∀ (l:List ac) (d:Nat),Gd l->lj d l<l.length/\tb d l=l.take (lj d l)++[ac.mk 6 [] (l.getD (lj d l) default).fAt]/\Gd (tb d l)
 | [],_,h=>h.elim
 | t::r,d,h=>by
  rw [tb,lj];by_cases hs:lQ d t=true
  ·rw [if_pos hs,if_pos hs];refine ⟨by simp,by simp,⟨h.1.1,?_,?_,?_⟩,.inl ⟨rfl,rfl⟩⟩
   ·have:=h.1.2.1; show t.fAt+((([]:Bk).length:Nat):Int)<=_; simp only [n7]; omega
   ·intro h; exact absurd h (show ¬ (6:Int)=3 by decide)
   ·intro h; exact absurd h (show ¬ (6:Int)=2 by decide)
  ·rw [if_neg hs,if_neg hs];have h6:t.Ar≠6:=by intro h6; apply hs; simp [lQ,h6]
   rcases h.2 with h2|h2
   ·exact absurd h2.1 h6
   obtain ⟨i1,i2,i3⟩:=qk r (nh d t) h2.2;refine ⟨by simp only [cl]; omega,?_,h.1,.inr ⟨h6,i3⟩⟩;rw [List.take_succ_cons,List.cons_append,List.getD_cons_succ,<- i2]
theorem yz {l:List ac}{d:Nat}(h:Gd l):(tb d l).length=lj d l+1:=by
 obtain ⟨h1,h2,_⟩:=qk l d h;rw [h2];simp only [la,List.length_take,List.length_singleton];omega
theorem yl {L:List ac}(g:Gl L){i:Nat}(hi:i<L.length):Gl (L.drop i):=by
 refine ⟨?_,by have:=g.2; simp only [ro]; omega⟩;have:=uG (base:=0) (L:=L) (i:=i) (by rw [HN]; exact g.1) hi
 rwa [HN] at this
theorem lP {l:List ac}(h:Gd l):∃ t r,l=t::r:=by
 cases l with
 | nil=>exact h.elim
 | cons t r=>exact ⟨t,r,Z⟩
theorem qb {L:List ac}{i:Nat}{t:ac}{r:List ac}(h:L.drop i=t::r):lat L (i:Int)=t/\L.drop (i+1)=r/\i<L.length:=by
 have hi:i<L.length:=by
  rcases Nat.lt_or_ge i L.length with h'|h'
  ·exact h'
  ·rw [List.drop_eq_nil_of_le h'] at h; cases h
 rw [AR L hi] at h
 injection h with h1 h2
 exact ⟨h1,h2,hi⟩
theorem JO {L:List ac}{p:aj}(hp:p.fl=L)(hl:L.length<=1000000000):∀ (k i d:Nat),i+k=L.length->Gd (L.drop i)->d<=i->Ev2 (λ _ m=>cj p m (d:Int) (i:Int)) (·=.inr (((i+lj d (L.drop i):Nat):Int),p))
 | 0,i,d,hi,g,_=>by
  rw [List.drop_eq_nil_of_le O] at g; exact g.elim
 | k+1,i,d,hi,g,hd=>by
  obtain ⟨t,r,e⟩:=lP g;obtain ⟨e1,e2,e3⟩:=qb e;rw [e] at g ⊢;refine bc ?_;simp only [cj,hp,e1]
  have nx:∀ d':Nat,lQ d t=false->nh d t=d'->d'<=i+1->Ev2 (λ _ m=>cj p m (d':Int) ((i:Int)+1)) (·=.inr (((i+lj d (t::r):Nat):Int),p)):=by
   intro d' h1 h2 h3;rw [lj,if_neg (by rw [h1]; decide),h2,<- e2];have h6:t.Ar≠6:=by intro h6; rw [show lQ d t=true by simp [lQ,h6]] at h1; cases h1
   have g2:Gd (L.drop (i+1)):=by
    rcases g.2 with h|h
    ·exact absurd h.1 h6
    ·rw [e2]; exact h.2
   have:=JO hp hl k (i+1) d' O g2 h3;rw [show i+(lj d' (L.drop (i+1))+1)=i+1+lj d' (L.drop (i+1)) by omega];exact lw (P:=λ j=>Ev2 (λ _ m=>cj p m (d':Int) j) _) this
  by_cases h6:t.Ar=6
  ·refine kF _ (aE O (aC true (ay h6 (ae Z)) yN)) ?_;rw [lj,if_pos (by simp [lQ,h6])]; rfl
  by_cases h5:t.Ar=5/\d=0
  ·refine kF _ (aE O (aC true (ax h6 (ay h5.1 (ae (by simp [h5.2])))) yN)) ?_;rw [lj,if_pos (by simp [lQ,h5])]; rfl
  have b1:Ev2 (λ _ _=>if t.Ar=6 then some true else if t.Ar=5 then some (decide ((d:Int)=0)) else some false) (·=false):=by
   refine ax h6 (aR (λ h=>ae ?_) (λ _=>ae Z));rw [decide_eq_false_iff_not]; intro h0; exact h5 ⟨h,by omega⟩
  by_cases h4:t.Ar=4
  ·by_cases ho:JL t=true
   ·refine ik ((d:Int)+1) (aE O (aC false b1 (ax (by decide) (ay h4 (ik ((d:Int)+1) ?_ (ae Z)))))) (aE bO ?_)
    ·refine aC true ?_ (ay Z pU);refine aR (λ _=>ae Z) (λ n1=>aR (λ _=>ae Z) (λ n2=>ae ?_));simpa [JL,n1,n2] using ho
    ·have hc:tG t=false:=by
      simp only [JL,Bool.or_eq_true,decide_eq_true_eq] at ho;rcases ho with (h|h)|h <;> simp [tG,h]
     have:=nx (d+1) (by simp [lQ,h4,hc]) (by simp [nh,h4,ho]) O
     rwa [Int.natCast_add,Int.natCast_one] at this
   ·have ho1:Ev2 (λ _ _=>if t.BY=([40]:Bk) then some true else if t.BY=([91]:Bk) then some true else some (decide (t.BY=([123]:Bk)))) (·=false):=by
     simp only [JL,Bool.or_eq_true,decide_eq_true_eq,not_or] at ho;exact ax ho.1.1 (ax ho.1.2 (ae (decide_eq_false ho.2)))
    by_cases hc:tG t=true
    ·have hc1:Ev2 (λ _ _=>if t.BY=([41]:Bk) then some true else if t.BY=([93]:Bk) then some true else some (decide (t.BY=([125]:Bk)))) (·=true):=by
      refine aR (λ _=>ae Z) (λ n1=>aR (λ _=>ae Z) (λ n2=>ae ?_));simpa [tG,n1,n2] using hc
     by_cases h0:d=0
     ·refine kF _ (aE O (aC false b1 (ax (by decide) (ay h4 (kF _ (aC false ho1 (ax (by decide) (aC true hc1 (ay Z (ay O (ae Z)))))) Z))))) ?_;rw [lj,if_pos (by simp [lQ,h4,h0,hc])]; rfl
     ·refine ik ((d:Int)-1) (aE O (aC false b1 (ax (by decide) (ay h4 (ik ((d:Int)-1) (aC false ho1 (ax (by decide) (aC true hc1 (ay Z (ax O pU))))) (ae Z)))))) (aE bO ?_);have:=nx (d-1) (by simp [lQ,h6,h0]) (by simp [nh,h4,ho,hc]) O
      rwa [show ((d-1:Nat):Int)=(d:Int)-1 by omega] at this
    ·have hc1:Ev2 (λ _ _=>if t.BY=([41]:Bk) then some true else if t.BY=([93]:Bk) then some true else some (decide (t.BY=([125]:Bk)))) (·=false):=by
      simp only [tG,Bool.or_eq_true,decide_eq_true_eq,not_or] at hc;exact ax hc.1.1 (ax hc.1.2 (ae (decide_eq_false hc.2)))
     refine ik (d:Int) (aE O (aC false b1 (ax (by decide) (ay h4 (ik (d:Int) (aC false ho1 (ax (by decide) (aC false hc1 C3))) (ae Z)))))) (aE bO ?_);exact nx d (by simp [lQ,h4,hc]) (by simp [nh,h4,ho,hc]) O
  ·refine ik (d:Int) (aE O (aC false b1 (ax (by decide) (ax h4 (ae Z))))) (aE bO ?_)
   have hs:lQ d t=false:=by
    have:¬ (d=0/\t.Ar=5):=λ h=>h5 ⟨h.2,h.1⟩;by_cases h0:d=0
    ·have:t.Ar≠5:=λ h=>h5 ⟨h,h0⟩;simp [lQ,h6,h4,this]
    ·simp [lQ,h6,h0]
   exact nx d hs (by simp [nh,h4]) O
noncomputable def exQ (l:List ac):au⊕(ag×Nat):=if (rdQ (tb 0 l)).2.2.Ar=0 then .inr ((rdQ (tb 0 l)).1,(rdQ (tb 0 l)).2.1.toNat) else .inl (rdQ (tb 0 l)).2.2
def ExO (L:List ac)(i:Nat)(d:au)(q:au⊕(ag×Nat))(z:ag×Bool×aj):Prop:=match q with
 | .inl e=>z.2.1=false/\z.2.2.AI=e
 | .inr (x,k)=>z=(x,true,.mk L ((i+k:Nat):Int) d)
theorem FY {l:List ac}(g:Gl l){x:ag}{k:Nat}(h:exQ l=.inr (x,k)):k<l.length:=by
 unfold exQ at h;have gc:Gl (tb 0 l):=⟨(qk l 0 g.1).2.2,by have:=yz (d:=0) g.1; have:=(qk l 0 g.1).1; have:=g.2; omega⟩
 have hr:=(Iy gc).1;split at h
 ·rename_i hk;have:=hr hk;rw [yz g.1] at this;have:=(qk l 0 g.1).1
  cases h; omega
 ·cases h
theorem L3 {L:List ac}(g:Gl L){i:Nat}(hi:i<L.length)(d:au):Ev2 (λ n _=>eQ n (.mk L (i:Int) d)) (ExO L i d (exQ (L.drop i))):=by
 have gi:=yl g hi;obtain ⟨c1,c2,c3⟩:=qk (L.drop i) 0 gi.1;have NK:=g.2;have c4:=yz (d:=0) gi.1;simp only [ro] at c1;have gc:Gl (tb 0 (L.drop i)):=⟨c3,by omega⟩
 obtain ⟨r1,r2⟩:=Iy gc;simp only [eQ,iI];refine aC (((i+lj 0 (L.drop i):Nat):Int),aj.mk L (i:Int) d) (kF _ (cp (f:=λ n m=>cj (.mk L (i:Int) d) m 0 (i:Int)) (JO (p:=.mk L (i:Int) d) rfl NK (L.length-i) i 0 (by show i+(L.length-i)=L.length; omega) gi.1 O)) rfl) ?_
 have es:sub L (i:Int) ((i+lj 0 (L.drop i):Nat):Int)=(L.drop i).take (lj 0 (L.drop i)):=by
  rw [sf,List.drop_take,show i+lj 0 (L.drop i)-i=lj 0 (L.drop i) by omega]
 have ea:lat L ((i+lj 0 (L.drop i):Nat):Int)=(L.drop i).getD (lj 0 (L.drop i)) default:=by
  rw [zl]; simp only [List.getD_eq_getElem?_getD,List.getElem?_drop]
 simp only [es,ea,<- c2];have hs:((L.drop i).take (lj 0 (L.drop i))).length<=1000000000:=by simp only [List.length_take,ro]; omega
 refine aE (by show ((0:Int)<=(i:Int)/\(i:Int)<=((i+lj 0 (L.drop i):Nat):Int)/\((i+lj 0 (L.drop i):Nat):Int)<=(L.length:Int)); omega) (aE O (aE (by show ((0:Int)<=((i+lj 0 (L.drop i):Nat):Int)/\((i+lj 0 (L.drop i):Nat):Int)<(L.length:Int)); omega) (aE (by simp only [List.length_singleton]; omega) (aC _ r2 ?_))));unfold exQ;refine aR (λ hk=>?_) (λ hk=>?_)
 ·have h3:=r1 hk;rw [c4] at h3;rw [if_pos hk];refine aE bO (ae ?_);show (_,true,aj.mk L ((i:Int)+_) d)=_;rw [show ((i+(rdQ (tb 0 (L.drop i))).2.1.toNat:Nat):Int)=(i:Int)+(rdQ (tb 0 (L.drop i))).2.1 by omega]
 ·rw [if_neg hk];exact ae ⟨rfl,rfl⟩
theorem GW (h:p:=by exact cp (f:=λ n m=>cP n m [] L (i:Int) 0 0 []) (HQ hl hx (L.length-i) i l [] O h (qr _))):p:=h
theorem G8 (h:p:=by exact aC _ (aT (Bv h.1 _) Z) (ae ⟨_,Z,Z⟩)):p:=h
theorem vV (h:p:=by exact aT (AB h.1 _) Z):p:=h
theorem Cj (h:p:=by simp only [la,List.length_singleton]; omega):p:=h
theorem JD (h:p:=by exact aC _ (aT (Bv j1.1 _) Z) (ae ⟨Z,Z⟩)):p:=h
theorem xR (h:p:=by exact eM (by show -9223372036854775808<=(i:Int)+1; omega) (by show (i:Int)+1<=_; omega)):p:=h
def Hh (s:Bk):Bool:=Lib.contains s [36,123]
def wrD (l:List ac):au:=if (hd false l).Ar=6 then au.mk 40 (hd false l).fAt [] else au.mk 2 (hd false l).fAt []
def yt:List ac->List Bk->au⊕(List Bk×List ac)|[],out=>.inr (out,[])|t::r,out=>if t.Ar=3 then(if Hh t.BY then .inl (wrD (t::r)) else if (nH (([34]++t.BY)++[34])).2.2=0 then(if Hh (nH (([34]++t.BY)++[34])).1 then .inl (wrD (t::r)) else yt r (out++[(nH (([34]++t.BY)++[34])).1]))else .inl (au.mk (nH (([34]++t.BY)++[34])).2.2 t.fAt []))else .inr (out,t::r)
noncomputable def atQ (aa:List al) (t:ac) (r:List ac):au⊕(al×List ac) :=
 if aa.any (λ a=>decide (a.AT=t.BY)) then .inl (au.mk 8 t.fAt t.BY) else match exQ r with
  | .inl e=>.inl e
  | .inr (x,k)=>.inr (al.mk t.BY x t.fAt,r.drop k)
def JK (I:List ac->au⊕(aH×List ac))(d:Nat)(t:ac)(r:List ac):au⊕(aB×List ac) :=
 match yt r [] with
 | .inl e=>.inl e
 | .inr (ls,l1)=>if sgB false l1 [123]=true then (if 32<=d then .inl (au.mk 4 t.fAt []) else match I (nf true (tl false l1)) with
   | .inl e=>.inl e
   | .inr (b,l2)=>if sgB false l2 [125]=true then .inr (aB.mk t.BY ls b t.fAt,tl false l2) else .inl (wrD l2))
  else .inl (wrD l1)
noncomputable def CC (I:List ac->au⊕(aH×List ac)) (d:Nat) (l:List ac) (aa:List al) (bb:List aB):au⊕(aH×List ac) :=
 if sgB false (tl false l) [61]=true then match atQ aa (hd false l) (tl false (tl false l)) with
  | .inl e=>.inl e
  | .inr (a,l')=>.inr (aH.mk (aa++[a]) bb,l')
 else match JK I d (hd false l) (tl false l) with
  | .inl e=>.inl e
  | .inr (b,l')=>.inr (aH.mk aa (bb++[b]),l')
noncomputable def lI:Nat->Nat->List ac->List al->List aB->au⊕(aH×List ac)
 | 0,_,_,_,_=>.inl dOk
 | f+1,d,l,aa,bb=>if (hd false l).Ar=1 then
   (match CC (λ x=>lI f (d+1) x [] []) d l aa bb with
    | .inl e=>.inl e
    | .inr (b,l')=>if (hd false l').Ar=5 then lI f d (nf true l') b.By b.A' else .inr (b,l'))
  else .inr (aH.mk aa bb,l)
def Tx (L:List ac):Prop:=∀ t∈L,t.BY.length<=1000000
theorem Kr {L:List ac}(h:Tx L){i:Nat}{t:ac}{r:List ac}(e:L.drop i=t::r):t.BY.length<=1000000:=h _ (List.mem_of_mem_drop (i:=i) (by rw [e]; exact List.mem_cons_self))
theorem AB {L:List ac}{i:Nat}{t:ac}{r:List ac}(e:L.drop i=t::r)(d:au):cI (.mk L (i:Int) d)=some (t,.mk L (i:Int) d):=by
 obtain ⟨e1,_,e3⟩:=qb e;unfold cI;rw [jW (by show (0:Int)<=(i:Int)/\(i:Int)<(L.length:Int); omega)];show some (lat L (i:Int),_)=_;rw [e1]
theorem hdf (t:ac)(r:List ac):hd false (t::r)=t:=rfl
theorem tlf (t:ac)(r:List ac):tl false (t::r)=r:=rfl
theorem sgf (t:ac)(r:List ac)(s:Bk):sgB false (t::r) s=(decide (t.Ar=4)&&decide (t.BY=s)):=rfl
theorem Jy {L:List ac}{i:Nat}{t:ac}{r:List ac}(e:L.drop i=t::r)(d:au)(s:Bk):fo (.mk L (i:Int) d) s=some (sgB false (t::r) s,.mk L (i:Int) d):=by
 unfold fo;rw [AB e,D5];show Option.bind (if t.Ar=4 then some (decide (t.BY=s)) else some false) _=_;rw [sgf];by_cases h:t.Ar=4
 ·rw [if_pos h,decide_eq_true h]; rfl
 ·rw [if_neg h,decide_eq_false h]; rfl
theorem Bv {L:List ac}{i:Nat}{t:ac}{r:List ac}(e:L.drop i=t::r)(d:au):dy (.mk L (i:Int) d)=some (false,.mk L (i:Int) (wrD (t::r))):=by
 unfold dy;rw [AB e,D5];unfold wrD;rw [hdf];by_cases h:t.Ar=6
 ·rw [if_pos h,if_pos h]; rfl
 ·rw [if_neg h,if_neg h]; rfl
theorem qu {t:ac}{r:List ac}(g:Gd (t::r))(h:t.Ar≠6):Gd r:=by
 rcases g.2 with h'|h'
 ·exact absurd h'.1 h
 ·exact h'.2
def At5 (L:List ac)(l:List ac)(j:Nat):Prop:=L.drop j=l/\Gd l
theorem pc {L l:List ac}{j:Nat}(h:At5 L l j):j<L.length:=by
 obtain ⟨t,r,e⟩:=lP h.2;exact (qb (h.1.trans e)).2.2
theorem ql {L:List ac}{t:ac}{r:List ac}{j:Nat}(h:At5 L (t::r) j)(h6:t.Ar≠6):At5 L r (j+1):=⟨(qb h.1).2.1,qu h.2 h6⟩
theorem LH {L:List ac}(hl:L.length<=1000000000){a b:Int}{c:Bk}:∀ (k i:Nat) (l:List ac),i+k=L.length->At5 L l i->Ev2 (λ _ m=>cC m L (i:Int) a b c) (λ q=>∃ j:Nat,q=(L,(j:Int),a,b,c)/\At5 L (nf true l) j/\i<=j/\((hd false l).Ar=5->i<j)/\((hd false l).Ar≠5->i=j))
 | 0,i,l,hi,h=>by have:=pc h; omega
 | k+1,i,l,hi,h=>by
  obtain ⟨t,r,rfl⟩:=lP h.2;have hlt:=pc h;refine bc ?_;simp only [cC,hdf];refine aC _ vV (aR (λ h5=>aE xR ?_) (λ h5=>ae ?_))
  ·have h5:t.Ar=5:=h5;have:=LH hl (a:=a) (b:=b) (c:=c) k (i+1) r O (ql h O);rw [Int.natCast_add,Int.natCast_one] at this;refine bZ this ?_;rintro q ⟨j,rfl,j1,j2,_,_⟩;exact ⟨j,rfl,by rw [kg,if_pos ⟨rfl,h5⟩]; exact j1,by omega,λ _=>by omega,λ h=>absurd h5 h⟩
  ·have h5:¬ t.Ar=5:=h5;exact ⟨i,Z,by rw [kg,if_neg (λ h=>h5 h.2)]; exact h,bt _,λ h=>absurd h h5,λ _=>rfl⟩
theorem LC {L:List ac}(hl:L.length<=1000000000){i:Nat}{l:List ac}{d:au}(h:At5 L l i):Ev2 (λ n _=>eG n (.mk L (i:Int) d)) (λ z=>∃ j:Nat,z=(decide ((hd false l).Ar=5),.mk L (j:Int) d)/\At5 L (nf true l) j/\i<=j):=by
 simp only [eG];have hlt:=pc h;refine am _ (cp (f:=λ n m=>cC m L (i:Int) d.Ar d.fAt d.AT) (LH hl (L.length-i) i l O h)) ?_;rintro _ ⟨j,rfl,j1,j2,j3,j4⟩;refine ae ⟨j,?_,j1,j2⟩;by_cases h5:(hd false l).Ar=5
 ·rw [decide_eq_true h5];have:=j3 h5;show (decide ((i:Int)<(j:Int)),_)=_;rw [decide_eq_true O]
 ·rw [decide_eq_false h5];have:=j4 h5;show (decide ((i:Int)<(j:Int)),_)=_;rw [decide_eq_false O]
def LbO (L:List ac)(q:au⊕(List Bk×List ac))(i:Nat)(r:((List Bk)×(List ac)×Int×Int×Int×Bk)⊕((List Bk)×Bool×aj)):Prop:=match q with
 | .inl e=>∃ p,r=.inr ([],false,p)/\p.AI=e
 | .inr (ls,l')=>∃ j:Nat,r=.inl (ls,L,(j:Int),0,0,[])/\At5 L l' j/\i<=j
theorem I1 {s:Bk}(h:s.length<=1000000000):strings_Contains s [36,123]=some (Hh s):=by unfold strings_Contains; rw [jW O]; rfl
theorem HQ {L:List ac}(hl:L.length<=1000000000)(hx:Tx L):∀ (k i:Nat) (l:List ac) (out:List Bk),i+k=L.length->At5 L l i->out.length<=i->Ev2 (λ n m=>cP n m out L (i:Int) 0 0 []) (LbO L (yt l out) i)
 | 0,i,l,out,hi,h,_=>by have:=pc h; omega
 | k+1,i,l,out,hi,h,ho=>by
  obtain ⟨t,r,rfl⟩:=lP h.2;have hlt:=pc h;have ht:=Kr hx h.1;have hq:(([34]++t.BY)++[34]:Bk).length<=1000000000:=by simp only [cl,la,n7]; omega
  have hu:=(KO (([34]++t.BY)++[34])).2.2.2;refine bc ?_;simp only [cP,yt];refine aC _ vV ?_;by_cases h3:t.Ar=3
  ·rw [if_pos h3];refine ay h3 (aC _ vV (aC _ (aT (I1 (by show t.BY.length<=_; omega)) rfl) ?_));by_cases h4:Hh t.BY=true
   ·rw [if_pos h4];exact ay h4 G8
   rw [if_neg h4];refine ax h4 (aE (by simp only [cl,n7]; omega) (aE CU (aC _ (Hz _ hq) ?_)));by_cases h5:(nH (([34]++t.BY)++[34])).2.2=0
   ·rw [if_pos h5];refine ay h5 (aC _ (aT (I1 (show (nH (([34]++t.BY)++[34])).1.length<=1000000000 by omega)) rfl) ?_);by_cases h6:Hh (nH (([34]++t.BY)++[34])).1=true
    ·rw [if_pos h6];exact ay h6 G8
    rw [if_neg h6];refine ax h6 (aE (by simp only [List.length_singleton]; omega) (aE xR ?_));have:=HQ hl hx k (i+1) r (out++[(nH (([34]++t.BY)++[34])).1]) O (ql h O) Cj;rw [Int.natCast_add,Int.natCast_one] at this;refine bZ this (λ q hq=>?_)
    revert hq
    cases yt r (out++[(nH (([34]++t.BY)++[34])).1]) with
    | inl e=>exact id
    | inr z=>rintro ⟨j,j1,j2,j3⟩; exact ⟨j,j1,j2,by omega⟩
   ·rw [if_neg h5];refine ax h5 ?_;exact aC (false,aj.mk L (i:Int) (au.mk (nH (([34]++t.BY)++[34])).2.2 t.fAt [])) nN (ae ⟨_,rfl,rfl⟩)
  ·rw [if_neg h3];exact ax h3 (ae ⟨i,rfl,h,bt _⟩)
theorem anyA (l:List al)(t:ac)(hl:l.length<=1000000000):Ev2 (λ n _=>bF n l (λ x0=>cB x0 t)) (·=l.any (λ a=>decide (a.AT=t.BY))):=by
 simp only [bF,bP]
 have loop:∀ (k i:Nat),i+k=l.length->Ev2 (λ _ m=>aM l (λ x0=>cB x0 t) m (i:Int)) (λ s=>match s with|.inl _=>(l.drop i).any (λ a=>decide (a.AT=t.BY))=false|.inr r=>0<=r/\(l.drop i).any (λ a=>decide (a.AT=t.BY))=true):=by
  intro k
  induction k with
  | zero=>
   intro i hi;refine bc ?_;simp only [aM];exact ax O (ae (by rw [List.drop_eq_nil_of_le O]; rfl))
  | succ k ih=>
   intro i hi;rw [AR l O,List.any_cons];refine bc ?_;simp only [aM];refine ay O (aE O (aC (decide ((lat l (i:Int)).AT=t.BY)) nN ?_));by_cases h:(lat l (i:Int)).AT=t.BY
   ·rw [decide_eq_true h];exact ay rfl (ae ⟨by omega,rfl⟩)
   ·rw [decide_eq_false h];refine ax (by decide) (aE bO ?_);rw [Bool.false_or];exact lw (P:=λ j=>Ev2 (λ _ m=>aM l (λ x0=>cB x0 t) m j) _) (ih (i+1) O)
 refine am (λ r=>decide (0<=r)=l.any (λ a=>decide (a.AT=t.BY))) (dH (bZ (cp (f:=λ n m=>aM l (λ x0=>cB x0 t) m 0) (loop l.length 0 O)) (λ s hs=>?_))) (λ r hr=>ae hr)
 cases s with
 | inl u=>exact ae (by have hs:(l.drop 0).any _=false:=hs; rw [List.drop_zero] at hs; rw [hs]; rfl)
 | inr r=>have hs:0<=r/\(l.drop 0).any _=true:=hs; rw [List.drop_zero] at hs; rw [hs.2]; exact decide_eq_true hs.1
def AtO (L:List ac)(aa:List al)(bb:List aB)(q:au⊕(al×List ac))(i:Nat)(z:Bool×aj×aH):Prop:=match q with
 | .inl e=>z.1=false/\z.2.1.AI=e
 | .inr (a,l')=>∃ j:Nat,z=(true,.mk L (j:Int) dOk,aH.mk (aa++[a]) bb)/\At5 L l' j/\i<=j
theorem Mt {L:List ac}(g:Gl L){i:Nat}{u:ac}{r:List ac}(h:At5 L (u::r) i)(h6:u.Ar≠6)(aa:List al)(bb:List aB)(ha:aa.length<=i)(t:ac) :
  Ev2 (λ n _=>ff n (.mk L (i:Int) dOk) (aH.mk aa bb) t) (AtO L aa bb (atQ aa t r) i):=by
 have hlt:=pc h;have hl:=g.2;have h1:=ql h h6;have hlt1:=pc h1;simp only [ff];refine aE xR (aC _ (anyA aa t O) ?_);unfold atQ;refine aR (λ hb=>?_) (λ hb=>?_)
 ·rw [if_pos hb];exact aC (false,aj.mk L ((i:Int)+1) (au.mk 8 t.fAt t.BY)) nN xV
 ·rw [if_neg hb];have he:=L3 g hlt1 dOk;rw [h1.1,Int.natCast_add,Int.natCast_one] at he;have gr:Gl r:=⟨h1.2,by have:=congrArg List.length h1.1; simp only [ro] at this; omega⟩
  refine am _ he (λ z hz=>aE (by show (aa.length+1)*184<=_; omega) (ae ?_));have hk:=λ x k=>FY gr (x:=x) (k:=k)
  cases hq:exQ r with
  | inl e=>rw [hq] at hz; exact hz
  | inr y=>
   obtain ⟨x,k⟩:=y;rw [hq] at hz;have hz:z=(x,true,.mk L ((i+1+k:Nat):Int) dOk):=hz;subst hz;have hk:=hk _ _ hq;refine ⟨i+1+k,rfl,⟨by rw [<- h1.1,List.drop_drop],?_⟩,by omega⟩;exact (yl gr hk).1
def IlO (L:List ac)(q:au⊕(aH×List ac))(i:Nat)(r:((List al)×(List aB)×(List ac)×Int×Int×Int×Bk)⊕(aH×Bool×aj)):Prop:=match q with
 | .inl e=>∃ b p,r=.inr (b,false,p)/\p.AI=e
 | .inr (b,l')=>∃ j:Nat,r=.inl (b.By,b.A',L,(j:Int),0,0,[])/\At5 L l' j/\i<=j
def IsO (L:List ac)(q:au⊕(aH×List ac))(i:Nat)(r:aH×Bool×aj):Prop:=match q with
 | .inl e=>r.2.1=false/\r.2.2.AI=e
 | .inr (b,l')=>∃ j:Nat,r=(b,true,.mk L (j:Int) dOk)/\At5 L l' j/\i<=j
def BkO (L:List ac)(aa:List al)(bb:List aB)(q:au⊕(aB×List ac))(i:Nat)(z:Bool×aj×aH):Prop:=match q with
 | .inl e=>z.1=false/\z.2.1.AI=e
 | .inr (b,l')=>∃ j:Nat,z=(true,.mk L (j:Int) dOk,aH.mk aa (bb++[b]))/\At5 L l' j/\i<=j
def Bp (L:List ac)(f:Nat):Prop:=∀ (d i:Nat) (l:List ac) (aa:List al) (bb:List aB),d<=33->L.length<i+f->At5 L l i->aa.length<=i->bb.length<=i -> Ev2 (λ n m=>cX n (dw n) (d:Int) m aa bb L (i:Int) 0 0 []) (IlO L (lI f d l aa bb) i)
theorem Aq {L:List ac}(hl:L.length<=1000000000){f:Nat}(ih:Bp L f){d i:Nat}{l:List ac}(hd':d<=33)(hf:L.length<i+f)(h:At5 L l i) :
  Ev2 (λ n _=>eW n (.mk L (i:Int) dOk) (d:Int)) (IsO L (lI f d (nf true l) [] []) i):=by
 refine cz ?_;simp only [eW];refine am _ (LC hl h) ?_;rintro _ ⟨j,rfl,j1,j2⟩;refine dH (bZ (cp (f:=λ n m=>cX n (dw n) (d:Int) m [] [] L (j:Int) 0 0 []) (ih d j _ [] [] hd' O j1 (qr _) (qr _))) (λ s hs=>?_))
 cases hq:lI f d (nf true l) [] [] with
 | inl e=>
  rw [hq] at hs;obtain ⟨b,p,rfl,hb⟩:=hs;exact ⟨rfl,hb⟩
 | inr y=>
  obtain ⟨b,l'⟩:=y;rw [hq] at hs;obtain ⟨k,rfl,k1,k2⟩:=hs;exact ae ⟨k,by cases b; rfl,k1,by omega⟩
theorem Hb {L:List ac}(g:Gl L)(hx:Tx L){f:Nat}(ih:Bp L f){d i:Nat}{l:List ac}(aa:List al)(bb:List aB)(hd':d<=33)(hf:L.length<i+f)(h:At5 L l i)(hb:bb.length<=i)(t:ac) :
  Ev2 (λ n _=>dw n (.mk L (i:Int) dOk) (aH.mk aa bb) t (d:Int)) (BkO L aa bb (JK (λ x=>lI f (d+1) x [] []) d t l) i):=by
 have hl:=g.2;have hlt:=pc h;refine cz ?_;simp only [dw,iG];unfold JK
 cases hq:yt l [] with
 | inl e=>
  refine am (λ z=>z.2.1=false/\z.2.2.AI=e) (dH (bZ GW (λ s hs=>?_))) (λ z hz=>ay (by rw [hz.1]; rfl) (ae ⟨rfl,hz.2⟩));rw [hq] at hs;obtain ⟨p,rfl,hp⟩:=hs;exact ⟨rfl,hp⟩
 | inr y=>
  obtain ⟨ls,l1⟩:=y;refine am (λ z=>∃ j:Nat,z=(ls,true,aj.mk L (j:Int) dOk)/\At5 L l1 j/\i<=j) (dH (bZ GW (λ s hs=>?_))) ?_
  ·rw [hq] at hs;obtain ⟨j,rfl,j1,j2⟩:=hs;exact ae ⟨j,rfl,j1,j2⟩
  rintro _ ⟨j,rfl,j1,j2⟩;obtain ⟨u,r,rfl⟩:=lP j1.2;have hj:=pc j1;refine ax rg (aC _ (aT (Jy j1.1 _ _) rfl) ?_);by_cases hs:sgB false (u::r) [123]=true
  ·simp only [if_pos hs];have h4:u.Ar=4:=by rw [sgf] at hs; simp only [n8,decide_eq_true_eq] at hs; exact hs.1
   refine ax (by rw [hs]; decide) ?_;by_cases h32:32<=d
   ·rw [if_pos h32];exact ay O (aC (false,aj.mk L (j:Int) (au.mk 4 t.fAt [])) nN xV)
   rw [if_neg h32];have j3:=ql j1 O;refine ax O (aE (eM (by show -9223372036854775808<=(j:Int)+1; omega) (by show (j:Int)+1<=_; omega)) (aE bO ?_));have hi:=Aq hl ih (d:=d+1) O O  j3;rw [tlf];simp only [Int.natCast_add,Int.natCast_one] at hi;refine am _ hi (λ z hz=>?_)
   cases hq2:lI f (d+1) (nf true r) [] [] with
   | inl e=>
    rw [hq2] at hz;exact ay (by rw [hz.1]; rfl) (ae ⟨rfl,hz.2⟩)
   | inr y=>
    obtain ⟨b,l2⟩:=y;rw [hq2] at hz;obtain ⟨k,rfl,k1,k2⟩:=hz;obtain ⟨v,w,rfl⟩:=lP k1.2;have hk:=pc k1;refine ax rg (aC _ (aT (Jy k1.1 _ _) rfl) ?_);by_cases hs2:sgB false (v::w) [125]=true
    ·simp only [if_pos hs2];have h4:v.Ar=4:=by rw [sgf] at hs2; simp only [n8,decide_eq_true_eq] at hs2; exact hs2.1
     refine ax (by rw [hs2]; decide) (aE (eM (by show -9223372036854775808<=(k:Int)+1; omega) (by show (k:Int)+1<=_; omega)) (aE (by show (bb.length+1)*96<=_; omega) (ae ⟨k+1,by rw [Int.natCast_add,Int.natCast_one]; rfl,ql k1 O,by omega⟩)))
    ·simp only [if_neg hs2];exact ay (by simpa using hs2) (aC _ (aT (Bv k1.1 _) rfl) xV)
  ·simp only [if_neg hs];exact ay (by simpa using hs) JD
def QO (L:List ac)(q:au⊕(aH×List ac))(i:Nat)(z:Bool×(List al)×(List aB)×(List ac)×Int×Int×Int×Bk):Prop:=match q with
 | .inl e=>z.1=false/\au.mk z.2.2.2.2.2.1 z.2.2.2.2.2.2.1 z.2.2.2.2.2.2.2=e
 | .inr (b,l')=>∃ j:Nat,z=(true,b.By,b.A',L,(j:Int),0,0,[])/\At5 L l' j/\i<j/\b.By.length<=j/\b.A'.length<=j
theorem Gq {L:List ac}(g:Gl L)(hx:Tx L):∀ f,Bp L f
 | 0=>by
  intro d i l aa bb hd' hf h ha hb;have:=pc h; omega
 | f+1=>by
  have ih:=Gq g hx f;have hl:=g.2;intro d i l aa bb hd' hf h ha hb;obtain ⟨t,r,rfl⟩:=lP h.2;have hlt:=pc h;refine bc ?_;simp only [cX];refine aC _ vV ?_;by_cases hk:t.Ar=1
  ·have eq:lI (f+1) d (t::r) aa bb=(match CC (λ x=>lI f (d+1) x [] []) d (t::r) aa bb with
    | .inl e=>.inl e
    | .inr (b,l')=>if (hd false l').Ar=5 then lI f d (nf true l') b.By b.A' else .inr (b,l')):=by rw [lI,hdf,if_pos hk]
   rw [eq];refine ay hk (aC _ vV (aE xR (am (QO L (CC (λ x=>lI f (d+1) x [] []) d (t::r) aa bb) i) ?_ ?_)))
   ·have h1:=ql h O;obtain ⟨u,w,rfl⟩:=lP h1.2;have s1:=Jy h1.1 (au.mk 0 0 []) [61];rw [Int.natCast_add,Int.natCast_one] at s1;refine aC _ (aT s1 rfl) ?_;unfold CC;rw [tlf,hdf];by_cases hs:sgB false (u::w) [61]=true
    ·rw [if_pos hs,tlf];have h4:u.Ar=4:=by rw [sgf] at hs; simp only [n8,decide_eq_true_eq] at hs; exact hs.1
     have ht:=Mt g h1 O aa bb O t;rw [Int.natCast_add,Int.natCast_one] at ht;refine ay hs (am _ ht (λ z hz=>ae ?_))
     cases hq:atQ aa t w with
     | inl e=>rw [hq] at hz; exact hz
     | inr y=>
      obtain ⟨a,l'⟩:=y;rw [hq] at hz;obtain ⟨j,rfl,j1,j2⟩:=hz;exact ⟨j,rfl,j1,by omega,by show (aa++[a]).length<=j; simp only [la,List.length_singleton]; omega,by show bb.length<=j; omega⟩
    ·rw [if_neg hs];have ht:=Hb g hx ih (d:=d) aa bb hd' O h1 O t;rw [Int.natCast_add,Int.natCast_one] at ht;refine ax hs (am _ ht (λ z hz=>ae ?_))
     cases hq:JK (λ x=>lI f (d+1) x [] []) d t (u::w) with
     | inl e=>rw [hq] at hz; exact hz
     | inr y=>
      obtain ⟨b,l'⟩:=y;rw [hq] at hz;obtain ⟨j,rfl,j1,j2⟩:=hz;exact ⟨j,rfl,j1,by omega,by show aa.length<=j; omega,by show (bb++[b]).length<=j; simp only [la,List.length_singleton]; omega⟩
   ·intro z hz
    cases hq:CC (λ x=>lI f (d+1) x [] []) d (t::r) aa bb with
    | inl e=>
     rw [hq] at hz;exact ay (by rw [hz.1]; rfl) (ae ⟨_,_,rfl,hz.2⟩)
    | inr y=>
     obtain ⟨b,l'⟩:=y;rw [hq] at hz;obtain ⟨j,rfl,j1,j2,j3,j4⟩:=hz;refine ax rg (am _ (LC hl j1) ?_);rintro _ ⟨k,rfl,k1,k2⟩;by_cases h5:(hd false l').Ar=5
     ·simp only [if_pos h5];refine ax (by rw [decide_eq_true h5]; decide) ?_;refine bZ (ih d k (nf true l') b.By b.A' hd' O k1 O O) (λ q hq=>?_)
      revert hq
      cases lI f d (nf true l') b.By b.A' with
      | inl e=>exact id
      | inr z=>rintro ⟨m,m1,m2,m3⟩; exact ⟨m,m1,m2,by omega⟩
     ·simp only [if_neg h5];refine ay (by rw [decide_eq_false h5]; decide) (ae ⟨k,rfl,?_,by omega⟩);obtain ⟨v,x,rfl⟩:=lP j1.2;rw [hdf] at h5;rw [kg,if_neg (λ h=>h5 h.2)] at k1;exact k1
  ·have eq:lI (f+1) d (t::r) aa bb=.inr (aH.mk aa bb,t::r):=by rw [lI,hdf,if_neg hk]
   rw [eq];exact ax hk (ae ⟨i,rfl,h,bt _⟩)
noncomputable def Ih (L:List ac):aH×au:=match lI (L.length+1) 0 (nf true L) [] [] with
 | .inl e=>(aH.mk [] [],e)
 | .inr (b,l)=>if (hd false l).Ar=6 then (b,dOk) else (aH.mk [] [],wrD l)
noncomputable def qS (s:Bk):aH×au:=if (fg s).2.Ar=0 then Ih (fg s).1 else (aH.mk [] [],(fg s).2)
theorem J8 {s:Bk}(hg:(fg s).2.Ar=0->Gl (fg s).1/\Tx (fg s).1):Ev2 (λ n _=>jf n s) (·=qS s):=by
 simp only [jf];refine aC _ (DU s) ?_;unfold qS;refine aR (λ hk=>?_) (λ hk=>by rw [if_neg hk]; exact ae rfl);rw [if_pos hk];obtain ⟨g,hx⟩:=hg hk;generalize (fg s).1=L at g hx ⊢;have hi:=Aq g.2 (Gq g hx (L.length+1)) (d:=0) (i:=0) (l:=L) O O  ⟨rfl,g.1⟩;refine am _ hi (λ z hz=>?_);unfold Ih
 cases hq:lI (L.length+1) 0 (nf true L) [] [] with
 | inl e=>
  rw [hq] at hz;refine am (λ y=>y.1=false/\au.mk y.2.2.2.1 y.2.2.2.2.1 y.2.2.2.2.2=e) ?_ (λ y hy=>ay (by rw [hy.1]; rfl) (ae (by rw [hy.2])));refine am (λ y=>y.1=false/\au.mk y.2.2.2.1 y.2.2.2.2.1 y.2.2.2.2.2=e) (ax (by rw [hz.1]; decide) (ae ⟨rfl,hz.2⟩)) (λ y hy=>ax (by rw [hy.1]; decide) (ae ⟨hz.1,hy.2⟩))
 | inr y=>
  obtain ⟨b,l⟩:=y;rw [hq] at hz;obtain ⟨j,rfl,j1,j2⟩:=hz;obtain ⟨t,r,rfl⟩:=lP j1.2;by_cases h6:t.Ar=6
  ·show Ev2 _ (·=if t.Ar=6 then (b,dOk) else (aH.mk [] [],wrD (t::r)));rw [if_pos h6];refine aC (true,L,(j:Int),0,0,[]) ?_ vA;refine aC (false,L,(j:Int),0,0,[]) (ay Z (aC _ (aT (AB j1.1 _) Z) (ae ?_))) vA;show (!decide (t.Ar=6),_)=_;rw [decide_eq_true h6]; rfl
  ·show Ev2 _ (·=if t.Ar=6 then (b,dOk) else (aH.mk [] [],wrD (t::r)));rw [if_neg h6];refine am (λ y=>y.1=false/\au.mk y.2.2.2.1 y.2.2.2.2.1 y.2.2.2.2.2=wrD (t::r)) ?_ (λ y hy=>ay (by rw [hy.1]; rfl) (ae (by rw [hy.2])));refine aC (true,L,(j:Int),0,0,[]) (ay Z (aC _ (aT (AB j1.1 _) Z) (ae ?_))) (ay Z JD);show (!decide (t.Ar=6),_)=_;rw [decide_eq_false h6]; rfl
end Go.Ab.R06
end
section
namespace Go.Ab.R06
open Go.Proofs Go.Ab Go.Ab.RB
variable {p:Prop}
theorem Im (h:p:=by first|rfl|(simp only [dg,th,aB.Mr]; done)|(simp only [dg,th,aB.Mr]; rfl)):p:=h
theorem I0 (h:p:=by exact jv ⟨er Z,er Z,er Z,er Z,trivial⟩ ⟨⟨_,Z,⟨sr,sr,sr,sr,sr,sr,sr,sr,sr,AV.sub_of_eq (congrArg (AV.arr 101000 11 0) G),sr,trivial⟩⟩,⟨_,Z,⟨sr,sr,sr,sr,sr,sr,sr,sr,sr,sr,sr,trivial⟩⟩,⟨_,Z,aV _⟩,trivial⟩):p:=h
theorem Hm (h:p:=by exact congrArg (AV.arr 101000 5 0) G):p:=h
theorem FC (h:p:=by exact congrArg (AV.arr 101000 11 0) G):p:=h
theorem Fv (h:p:=by exact jv ⟨er Z,er Z,er Z,er Z,trivial⟩ ⟨⟨_,Z,⟨sr,sr,sr,AV.sub_of_eq (congrArg (AV.arr 101000 5 0) G),sr,trivial⟩⟩,⟨_,Z,⟨sr,sr,sr,sr,sr,trivial⟩⟩,⟨_,Z,aV _⟩,trivial⟩):p:=h
attribute [local irreducible] awp fV aX aK aS AV.sub M cv
def gz (NN:Bk):Nat->Int->Option (Unit⊕Bool)|0,_=>none|m+1,OF=>if OF<(NN.length:Int) then ck ((0:Int)<=OF/\OF<(NN.length:Int))<|(ck ((0:Int)<=OF/\OF<(NN.length:Int))<|if byt NN OF=95 then some false else if iOr .u8 (byt NN OF) 32<97 then if OF=0 then some true else ck ((0:Int)<=OF/\OF<(NN.length:Int))<|if byt NN OF<48 then some true else ck ((0:Int)<=OF/\OF<(NN.length:Int))<|some (decide (57<byt NN OF))else if 122<iOr .u8 (byt NN OF) 32 then if OF=0 then some true else ck ((0:Int)<=OF/\OF<(NN.length:Int))<|if byt NN OF<48 then some true else ck ((0:Int)<=OF/\OF<(NN.length:Int))<|some (decide (57<byt NN OF))else some false : Option Bool).bind λ t34=>if t34=true then some (.inr false)else ck (inR (OF+1))<|gz NN m (OF+1)else some (.inl ())
def jL (n:Nat)(NN:Bk):Option Bool :=jn (gz NN n 0) λ _UI=>(if NN=([]:Bk) then some false else some (decide ((NN.length:Int)<=64)) : Option Bool).bind λ Pi=>some Pi
theorem mw (n:Nat)(NN:Bk)(r:Bool)(h0:jL n NN=some r):aK Tryz.prog 68 [eS NN] (·=.p (eB r)):=by
 unfold jL at h0;refine bV good Tryz.func68 Z Z Z λ w0=>mP (λ v:Bool=>.p (eB v)) ?_;refine nx 8 rfl (oLs rfl ?_);refine nx 3 rfl ?_;obtain ⟨S0,h1,Ou,hR0⟩:=cw h0;refine kEx 0 (λ Si:Unit=>S0=.inl Si) (λ Si=>⟨[(0,.p (eS NN))],[]⟩) (λ Si hv=>?_) ?_
 ·have h0:=Ou _ hv;refine nx 2 Z (bd h0 λ Sy h1 h0=>?_);refine kN Sy (λ v46=>⟨[(2,.p (eB v46))],[]⟩) ?_ ?_
  ·exact iU
  refine nx 2 Z (oS Z Z ?_);refine nx 1 Z (fN [44,45] h1 Z (λ Uk h1=>?_) λ Uk h1=>?_)
  ·exact jR
  refine nx 1 Z (oLs Z ?_);exact i8
 refine lG (λ (PQ:Int)=>⟨[(0,.p (eS NN)),(6,.p (eI (NN.length:Int))),(7,.p (eI PQ))],[]⟩) (λ m (PQ:Int)=>gz NN m PQ) Y 0 h1 (gE rfl rfl) ?_;rintro m OF h1;replace h1:gz NN (m+1) OF=some S0:=h1;rw [gz] at h1;refine nx 5 rfl (fD [8] h1 rfl (λ c20 h1=>?_) λ c20 h1=>?_)
 ·refine nx 13 Z (oI h1 Z λ PY h1=>?_);refine nx 4 Z (bd h1 λ TM h2 h1=>?_);refine kN TM (λ RG=>⟨[(0,.p (eS NN)),(6,.p (eI (NN.length:Int))),(7,.p (eI OF)),(41,.p (eB RG))],[]⟩) ?_ ?_
  ·refine nx 1 Z (fB [41] h1 Z (λ Vo h1=>?_) λ Vo h1=>?_)
   ·exact kV
   exact H8
  refine nx 3 Z (oI h2 Z λ Pw h2=>?_);refine nx 2 Z (fN [17,18] h2 Z (λ P3 h2=>?_) λ P3 h2=>?_)
  ·exact nx 24 Z pu
  refine nx 3 Z (fD [20,21] h2 Z (λ Ru h2=>?_) λ Ru h2=>?_)
  ·refine nx 8 Z (fD [28,29] h2 Z (λ QD h2=>?_) λ QD h2=>?_)
   ·exact nx 13 Z pu
   refine nx 2 Z (oI h2 Z λ PH h2=>?_);refine nx 3 Z (fD [33,34,35] h2 Z (λ QP h2=>?_) λ QP h2=>?_)
   ·exact yk
   refine nx 2 Z (oI h2 Z λ SI h2=>?_);exact pI
  exact Iv
 exact cH
def gk (n:Nat)(l_0:List al):Nat->(List (Bk×Bool))->Int->Option (Unit⊕Int)|0,_,_=>none|m+1,seen13,Qv=>if Qv<(l_0.length:Int) then ck ((0:Int)<=Qv/\Qv<(l_0.length:Int))<|(jL n ((lat l_0 Qv).AT)).bind λ Om=>if (!Om)=true then some (.inr 7)else if ((m9 seen13 ((lat l_0 Qv).AT)).getD false)=true then some (.inr 8)else(gX n ((lat l_0 Qv).IT)).bind λ N9=>if N9=0 then ck (inR (Qv+1))<|gk n l_0 m (sd seen13 ((lat l_0 Qv).AT) true) (Qv+1)else some (.inr N9)else some (.inl ())
def lM (n:Nat)(l_0:List al):Option Int :=jn (gk n l_0 n ([]:List (Bk×Bool)) 0) λ _q27=>some 0
theorem rx (n:Nat)(l_0:List al)(r:Int)(h0:lM n l_0=some r):aK Tryz.prog 67 [eL ao l_0] (·=.p (eI r)):=by
 unfold lM at h0;refine bV good Tryz.func67 Z Z Z λ w0=>mP (λ v:Int=>.p (eI v)) ?_;refine nx 6 rfl (mO rfl (A8 Z Z Z Z Z ?_));refine nx 6 rfl (oLl (f:=ao) Z Z ?_);refine nx 3 rfl ?_;obtain ⟨Uq,h1,Ou,hR0⟩:=cw h0;refine kEx 0 (λ TR:Unit=>Uq=.inl TR) (λ TR=>⟨[],[]⟩) (λ TR hv=>?_) ?_
 ·have h0:=Ou _ hv;exact ez
 refine lG (λ (UJ:(List (Bk×Bool))×Int)=>⟨[(3,.mp 7 (UJ.1.map λ p:Bk×Bool=>(p.1,eB p.2))),(8,.p (eL ao l_0)),(9,.p (eI (l_0.length:Int))),(10,.p (eI UJ.2))],[]⟩) (λ m (UJ:(List (Bk×Bool))×Int)=>gk n l_0 m UJ.1 UJ.2) Y (([]:List (Bk×Bool)),0) h1 (gE rfl rfl) ?_;rintro m ⟨seen13,Qv⟩ h1;replace h1:gk n l_0 (m+1) seen13 Qv=some Uq:=h1;rw [gk] at h1;refine nx 5 rfl (fD [11] h1 rfl (λ QQ h1=>?_) λ QQ h1=>?_)
 ·refine nx 6 Z (oE h1 al.F' Z Z Y λ RR h1=>?_);refine nx 9 Z (bd h1 λ Om RV h1=>?_);refine oK (mw _ ((lat l_0 Qv).AT) _ RV) Z ⟨sr,trivial⟩ Tryz.call68 Z (nx 2 Z ?_);refine fB [17] h1 Z (λ QE h1=>?_) λ QE h1=>?_
  ·exact kV
  refine nx 8 Z (mO Z (EV eB seen13 false Z Z Z Z Z Z Z (by kernel_rfl) Z Z Z ?_));refine nx 1 Z (fB [21] h1 Z (λ c20 h1=>?_) λ c20 h1=>?_)
  ·exact kV
  refine nx 7 Z (mO Z (Ik eB seen13 true Z Z Z Z Z Z Z Z Z Z Z Z ?_));refine nx 5 Z (bd h1 λ N9 RU h1=>?_);refine oK (qR _ ((lat l_0 Qv).IT) _ RU) Z ⟨sr,trivial⟩ Tryz.call102 Z (nx 7 Z ?_);refine fN [29] h1 Z (λ P3 h1=>?_) λ P3 h1=>?_
  ·refine nx 3 Z (oA h1 Z Z λ P7 h1=>?_);exact nx 2 Z (eX (sd seen13 ((lat l_0 Qv).AT) true,Qv+1) h1 (gE Z Z))
  refine nx 6 Z (mG (gE (t:=⟨[(2,.p (eI N9))],[]⟩) Z Z) ?_);exact nx 1 Z (mQ (hR0 _ (oi h1).symm) Z (sr))
 exact cH
def jE (b_0:aH)(Pi:Int):Nat->Int->Option (Unit⊕(Unit⊕Int))|0,_=>none|m+1,RI=>if RI<(((lat b_0.A' Pi).L').length:Int) then ck ((0:Int)<=RI/\RI<(((lat b_0.A' Pi).L').length:Int))<|((jq (lat ((lat b_0.A' Pi).L') RI)).bind λ QU=>if (!QU)=true then some true else(strings_Contains (lat ((lat b_0.A' Pi).L') RI) ([36,123]:Bk)).bind λ Uz=>some Uz : Option Bool).bind λ t64=>if t64=true then some (.inr (.inr 1))else ck (inR (RI+1))<|jE b_0 Pi m (RI+1)else some (.inl ())
def jG (n:Nat)(PT:aH->Int->Option Int)(b_0:aH)(NM:Int):Nat->Int->Option (Unit⊕Int)|0,_=>none|m+1,Pi=>if Pi<(b_0.A'.length:Int) then ck ((0:Int)<=Pi/\Pi<(b_0.A'.length:Int))<|(jL n ((lat b_0.A' Pi).M')).bind λ Pa=>if (!Pa)=true then some (.inr 7)else jn (jE b_0 Pi n 0) λ _Rx=>if 32<=NM then some (.inr 4)else ck (inR (NM+1))<|(PT ((lat b_0.A' Pi).J') (NM+1)).bind λ r70=>if r70=0 then ck (inR (Pi+1))<|jG n PT b_0 NM m (Pi+1)else some (.inr r70)else some (.inl ())
def kZ:Nat->aH->Int->Option Int|0,_,_=>none|n+1,b_0,NM=>(lM n b_0.By).bind λ r1=>if r1=0 then jn (jG n (kZ n) b_0 NM n 0) λ _R7=>some 0 else some r1
theorem wI (n:Nat):∀ (b_0:aH) (NM:Int) (r:Int),kZ n b_0 NM=some r->aK Tryz.prog 33 [.agg (aH.cs b_0),eI NM] (·=.p (eI r)):=by
 induction n with
 | zero=>intro b_0 NM r h0; cases h0
 | succ n ih=>
 have P6:=ih;intro b_0 NM r h0;rw [kZ] at h0;refine bV good Tryz.func33 Z Z Z λ w0=>mP (λ v:Int=>.p (eI v)) ?_;refine nx 10 Z (bd h0 λ r1 e2 h0=>?_);refine oK (rx _ b_0.By _ e2) Z ⟨sr,trivial⟩ Tryz.call67 Z (nx 7 Z ?_);refine fN [15] h0 Z (λ c3 h0=>?_) λ c3 h0=>?_
 ·refine nx 7 rfl (oLl (f:=aD) Z Z ?_);refine nx 3 rfl ?_;obtain ⟨TU,h1,Ou,hR0⟩:=cw h0;refine kEx 0 (λ RF:Unit=>TU=.inl RF) (λ RF=>⟨[],[]⟩) (λ RF hv=>?_) ?_
  ·have h0:=Ou _ hv;exact ez
  refine lG (λ (q80:Int)=>⟨[(1,.p (eI NM)),(18,.p (eL aD b_0.A')),(19,.p (eI (b_0.A'.length:Int))),(20,.p (eI q80))],[]⟩) (λ m (q80:Int)=>jG n (kZ n) b_0 NM m q80) Y 0 h1 (gE rfl rfl) ?_;rintro m Pi h1;replace h1:jG n (kZ n) b_0 NM (m+1) Pi=some TU:=h1;rw [jG] at h1;refine nx 5 rfl (fD [21] h1 rfl (λ RD h1=>?_) λ RD h1=>?_)
  ·refine nx 6 Z (oE h1 aB.F' Z Z Y λ QK h1=>?_);refine nx 9 Z (bd h1 λ Pa Tl h1=>?_);refine oK (mw _ ((lat b_0.A' Pi).M') _ Tl) Z ⟨sr,trivial⟩ Tryz.call68 Z (nx 2 Z ?_);refine fB [27] h1 Z (λ Tp h1=>?_) λ Tp h1=>?_
   ·exact kV
   refine nx 7 rfl (oLl (f:=eS) Z Z ?_);refine nx 3 rfl ?_;obtain ⟨o81,h2,hL1,hR1⟩:=cw h1;refine kEx 2 (λ RE:Unit=>o81=.inl RE) (λ RE=>⟨[(1,.p (eI NM)),(7,.ptr 7 0),(18,.p (eL aD b_0.A')),(19,.p (eI (b_0.A'.length:Int))),(20,.p (eI Pi))],[(7,(aB.cs (lat b_0.A' Pi)).map .p)]⟩) (λ RE hv=>?_) ?_
   ·have h1:=hL1 _ hv;refine nx 7 Z (fD [44] h1 Z (λ Vi h1=>?_) λ Vi h1=>?_)
    ·exact kV
    refine nx 7 Z (oA h1 Z Z λ hk69 h1=>?_);refine bd h1 λ r70 e71 h1=>oK (P6 ((lat b_0.A' Pi).J') (NM+1) _ e71) Z ⟨sr,sr,trivial⟩ Tryz.call33 Z (nx 7 Z ?_);refine fN [51] h1 Z (λ c72 h1=>?_) λ c72 h1=>?_
    ·refine nx 3 Z (oA h1 Z Z λ hk73 h1=>?_);exact nx 2 Z (eX (Pi+1) h1 (gE Z Z))
    exact u6
   refine lG (λ (Sp:Int)=>⟨[(1,.p (eI NM)),(7,.ptr 7 0),(18,.p (eL aD b_0.A')),(19,.p (eI (b_0.A'.length:Int))),(20,.p (eI Pi)),(29,.p (eL eS ((lat b_0.A' Pi).L'))),(30,.p (eI (((lat b_0.A' Pi).L').length:Int))),(31,.p (eI Sp))],[(7,(aB.cs (lat b_0.A' Pi)).map .p)]⟩) (λ m (Sp:Int)=>jE b_0 Pi m Sp) Y 0 h2 (gE rfl rfl) ?_;rintro m RI h2;replace h2:jE b_0 Pi (m+1) RI=some o81:=h2;rw [jE] at h2;refine nx 5 rfl (fD [32] h2 rfl (λ Uh h2=>?_) λ Uh h2=>?_)
   ·refine nx 6 Z (oE h2 Y Z Z Y λ TW h2=>?_);refine nx 4 Z (bd h2 λ o84 h3 h2=>?_);refine kN o84 (λ v85=>⟨[(1,.p (eI NM)),(7,.ptr 7 0),(18,.p (eL aD b_0.A')),(19,.p (eI (b_0.A'.length:Int))),(20,.p (eI Pi)),(29,.p (eL eS ((lat b_0.A' Pi).L'))),(30,.p (eI (((lat b_0.A' Pi).L').length:Int))),(31,.p (eI RI)),(41,.p (eB v85))],[(7,(aB.cs (lat b_0.A' Pi)).map .p)]⟩) ?_ ?_
    ·refine nx 1 Z (fB [41] h2 Z (λ c65 h2=>?_) λ c65 h2=>?_)
     ·exact yB
     refine nx 3 Z (oA h2 Z Z λ hk66 h2=>?_);exact nx 2 Z (eX (RI+1) h2 (gE Z Z))
    refine nx 2 Z (bd h3 λ QU e60 h3=>?_);refine oK (oY (lat ((lat b_0.A' Pi).L') RI) _ e60) Z ⟨sr,trivial⟩ Tryz.call69 Z (nx 2 Z ?_);refine fB [37,38] h3 Z (λ c61 h3=>?_) λ c61 h3=>?_
    ·exact pX
    refine nx 1 Z (bd h3 λ Uz e63 h3=>?_);refine oK (ic (lat ((lat b_0.A' Pi).L') RI) ([36,123]:Bk) _ e63) Z ⟨sr,sr,trivial⟩ Tryz.call70 Z (nx 2 Z ?_);exact eX _ (oi h3).symm (gE Z Z)
   exact nx 2 Z (eXi _ (oi h2).symm (gE Z Z))
  exact cH
 exact oM
def rf (n:Nat)(b_0:aH):Option Int :=(kZ n b_0 0).bind λ r1=>some r1
theorem wP (n:Nat)(b_0:aH)(r:Int)(h0:rf n b_0=some r):aK Tryz.prog 14 [.agg (aH.cs b_0)] (·=.p (eI r)):=by
 unfold rf at h0;refine bV good Tryz.func14 Z Z Z λ w0=>mP (λ v:Int=>.p (eI v)) ?_;refine nx 8 Z (bd h0 λ r1 e2 h0=>?_);refine oK (wI _ b_0 0 _ e2) Z ⟨sr,sr,trivial⟩ Tryz.call33 Z (nx 3 Z ?_);exact oG
def kC (OK:aw->Option aw):Nat->Option Unit|0=>none|_m+1=>if 0<(([]:List aw).length:Int) then ck ((0:Int)<=0/\0<(([]:List aw).length:Int))<|(OK (lat ([]:List aw) 0)).bind λ _r6=>ck ((0:Int)<=0/\0<(([]:List aw).length:Int))<|none else some ()
def jh (OK:aw->Option aw)(NX:aw):Nat->Int->(List aw)->Option (List aw)|0,_,_=>none|m+1,P4,l18=>if P4<(NX.H'.length:Int) then ck ((0:Int)<=P4/\P4<(l18.length:Int))<|(OK (lat l18 P4)).bind λ N9=>ck ((0:Int)<=P4/\P4<(l18.length:Int))<|ck (inR (P4+1))<|jh OK NX m (P4+1) (l18.set P4.toNat N9)else some l18
def gO:Nat->aw->Option aw|0,_=>none|n+1,NX=>ck (NX.E'.length*16<=140737488355328)<|if NX.H'.isEmpty=true then(kC (gO n) n ).bind λ _RN=>some (aw.mk NX.Ar NX.It NX.IS ([]:List aw) NX.E')else ck (NX.H'.length*80<=140737488355328)<|(jh (gO n) NX n 0 NX.H').bind λ l27=>some (aw.mk NX.Ar NX.It NX.IS l27 NX.E')
theorem vP (n:Nat):∀ (NX:aw) (r:aw),gO n NX=some r->aK Tryz.prog 75 [.agg (aw.cs NX)] (·=.p (.agg (aw.cs r))):=by
 induction n with
 | zero=>intro NX r h0; cases h0
 | succ n ih=>
 have PX:=ih;intro NX r h0;rw [gO] at h0;refine bV good Tryz.func75 Z Z Z λ w0=>mP (λ v:aw=>.p (.agg (aw.cs v))) ?_;refine nx 9 Z (cc' h0 λ Ra h0=>?_);refine oK (iB NX.E' Ra) Z ⟨sr,trivial⟩ Tryz.call77 Z (nx 7 Z ?_);refine Dt (b:=NX.H'.isEmpty) (λ c2=>?_) (λ c2=>?_)
 ·replace h0:=KD c2 h0;refine mO Z (cF (jz NX.H' c2) Z Z Z Z ⟨sr,trivial⟩ Tryz.call108 Z ?_);refine nx 8 Z (oLl (f:=bw) Z Z ?_);refine nx 3 Z (bd h0 λ SB h1 h0=>?_);refine kE 0 SB (λ QT=>⟨[(1,.ptr 1 0),(2,.ptr 2 0)],[(1,[.p (eI NX.Ar),.p (eI NX.It),.p (eS NX.IS),.p (eL bw ([]:List aw)),.p (eL eS NX.E')]),(2,[.p (eI 0),.p (eI 0),.p (eS ([]:Bk)),.p (.val (.slice none 0 0)),.p (.val (.slice none 0 0))])]⟩) ?_ ?_
  ·exact oM
  refine lG (λ (RL:Unit)=>⟨[(1,.ptr 1 0),(2,.ptr 2 0),(14,.p (eI (([]:List aw).length:Int))),(15,.p (eI 0))],[(1,[.p (eI NX.Ar),.p (eI NX.It),.p (eS NX.IS),.p (eL bw ([]:List aw)),.p (eL eS NX.E')]),(2,[.p (eI 0),.p (eI 0),.p (eS ([]:Bk)),.p (.val (.slice none 0 0)),.p (.val (.slice none 0 0))])]⟩) (λ m (RL:Unit)=>kC (gO n) m ) Y () h1 (gE rfl rfl) ?_;rintro m _ h1;replace h1:kC (gO n) (m+1)  = some SB:=h1;rw [kC] at h1;refine nx 5 rfl (fD [16] h1 rfl (λ c4 h1=>?_) λ c4 h1=>?_)
  ·refine nx 9 Z (cc' h1 λ RP h1=>?_);refine bd h1 λ r6 e7 h1=>cc' h1 λ SC h1=>?_
   cases h1
  exact cH
 replace h0:=Hc c2 h0;refine cc' h0 λ QY h0=>mO Z (aN [] [] 101000 101001 (jB NX.H' c2 QY) Z Z Z Z Z ⟨sr,trivial⟩ Z Z trivial Z Z Z Z Z Z Z Z Tryz.call108 Z (aF Z (aG _) Z) ?_);refine nx 12 Z (bd h0 λ o33 h1 h0=>?_);refine kE 0 o33 (λ v34=>⟨[(1,.ptr 1 0),(2,.ptr 2 0)],[(1,[.p (eI NX.Ar),.p (eI NX.It),.p (eS NX.IS),.arr 101000 5 0 v34.length,.p (eL eS NX.E')]),(2,[.p (eI 0),.p (eI 0),.p (eS ([]:Bk)),.p (.val (.slice none 0 0)),.p (.val (.slice none 0 0))]),(101000,jJ bw v34)]⟩) ?_ ?_
 ·refine nx 3 Z (mG (qT (sl':=[(1,.ptr 1 0),(2,.ptr 2 0)]) (ob':=[(1,[.p (eI NX.Ar),.p (eI NX.It),.p (eS NX.IS),.p (eL bw o33),.p (eL eS NX.E')]),(2,[.p (eI 0),.p (eI 0),.p (eS ([]:Bk)),.p (.val (.slice none 0 0)),.p (.val (.slice none 0 0))])]) 101000 5 bw o33 Z Z Z (λ x=>⟨congrArg List.length (aw.F' x),by rw [aw.F']; rfl⟩) ⟨⟨_,Z,.inl Z⟩,⟨_,Z,.inl Z⟩,trivial⟩ ⟨⟨Z,_,Z,⟨.inl Z,.inl Z,.inl Z,.inr ⟨G ,Z⟩,.inl Z,trivial⟩⟩,⟨Z,_,Z,⟨.inl Z,.inl Z,.inl Z,.inl Z,.inl Z,trivial⟩⟩,trivial⟩) ?_);exact wk
 refine lG (λ (Up:Int×(List aw))=>⟨[(1,.ptr 1 0),(2,.ptr 2 0),(14,.p (eI (NX.H'.length:Int))),(15,.p (eI Up.1))],[(1,[.p (eI NX.Ar),.p (eI NX.It),.p (eS NX.IS),.arr 101000 5 0 Up.2.length,.p (eL eS NX.E')]),(2,[.p (eI 0),.p (eI 0),.p (eS ([]:Bk)),.p (.val (.slice none 0 0)),.p (.val (.slice none 0 0))]),(101000,jJ bw Up.2)]⟩) (λ m (Up:Int×(List aw))=>jh (gO n) NX m Up.1 Up.2) Y (0,NX.H') h1 (cG Fv) ?_;rintro m ⟨P4,l18⟩ h1;replace h1:jh (gO n) NX (m+1) P4 l18=some o33:=h1;rw [jh] at h1;refine nx 5 rfl (fD [16] h1 rfl (λ QE h1=>?_) λ QE h1=>?_)
 ·refine nx 9 Z (cc' h1 λ PO h1=>?_);refine bd h1 λ N9 RU h1=>cc' h1 λ Qn h1=>mG (cG (t:=⟨[(1,.ptr 1 0),(2,.ptr 2 0),(3,.p (eI P4)),(14,.p (eI (NX.H'.length:Int))),(15,.p (eI P4))],[(1,[.p (eI NX.Ar),.p (eI NX.It),.p (eS NX.IS),.arr 101000 5 0 l18.length,.p (eL eS NX.E')]),(2,[.p (eI 0),.p (eI 0),.p (eS ([]:Bk)),.p (.val (.slice none 0 0)),.p (.val (.slice none 0 0))]),(101000,jJ bw l18)]⟩) (jv ⟨er Z,er Z,er Z,er Z,er Z,trivial⟩ ⟨⟨_,Z,⟨sr,sr,sr,AV.sub_of_eq Hm,sr,trivial⟩⟩,⟨_,Z,⟨sr,sr,sr,sr,sr,trivial⟩⟩,⟨_,Z,aV _⟩,trivial⟩)) (mS ⟨1,[10],(λ _=>.none),(λ _=>[(1,.ptr 1 0),(2,.ptr 2 0),(3,.p (eI P4)),(14,.p (eI (NX.H'.length:Int))),(15,.p (eI P4))]),(by2 ([(1,[.p (eI NX.Ar),.p (eI NX.It),.p (eS NX.IS),.arr 101000 5 0 l18.length,.p (eL eS NX.E')]),(2,[.p (eI 0),.p (eI 0),.p (eS ([]:Bk)),.p (.val (.slice none 0 0)),.p (.val (.slice none 0 0))]),(101000,jJ bw l18)]) ([(101000,jJ bw (l18.set P4.toNat N9)),(1,[.p (eI NX.Ar),.p (eI NX.It),.p (eS NX.IS),.arr 101000 5 0 l18.length,.p (eL eS NX.E')]),(2,[.p (eI 0),.p (eI 0),.p (eS ([]:Bk)),.p (.val (.slice none 0 0)),.p (.val (.slice none 0 0))]),(101000,jJ bw l18)]))⟩ Z Z Z ⟨Z,Z,Z,Z,Z,trivial⟩ (lt1 ⟨Z,Z,Z,Z,Z,trivial⟩) Z Z Z Z ?_);refine ar (λ _=>.ptr 1 3) Z Z Z (dG Z Y) (lt1 Z) (ak Z (ai [(1,_)] ⟨.inl Z,trivial⟩ (λ sl NI K hK=>ah Z (aI Z Z Z Z Z Z Z Z (NI _ _ Z) hK)) ap)) (ar (λ _=>.arr 101000 5 0 l18.length) Z Z Z (dG Z Y) (lt1 Z) (ak Z (ai [(18,_)] ⟨.inr ⟨0,_,Z,Z,Z⟩,trivial⟩ (λ sl NI K hK=>ah Z (bH Z Z Z Z Z (NI _ _ Z) Z Z hK)) ap)) ?_);refine ar (λ _=>.p (eI P4)) Z Z Z (dG Z Y) (lt1 Z) (ak Z (ai [(3,_)] ⟨.inl Z,trivial⟩ (λ sl NI K hK=>ah Z (b6 Z Z Z (NI _ _ Z) hK)) ap)) (ar (λ _=>.ptr 1 3) Z Z Z (dG Z Y) (lt1 Z) (ak Z (ai [(1,_)] ⟨.inl Z,trivial⟩ (λ sl NI K hK=>ah Z (aI Z Z Z Z Z Z Z Z (NI _ _ Z) hK)) ap)) ?_);refine ar (λ _=>.arr 101000 5 0 l18.length) Z Z Z (dG Z Y) (lt1 Z) (ak Z (ai [(21,_)] ⟨.inr ⟨3,_,Z,Z,Z⟩,trivial⟩ (λ sl NI K hK=>ah Z (bH Z Z Z Z Z (NI _ _ Z) Z Z hK)) ap)) (ar (λ _=>.p (eI P4)) Z Z Z (dG Z Y) (lt1 Z) (ak Z (ai [(3,_)] ⟨.inl Z,trivial⟩ (λ sl NI K hK=>ah Z (b6 Z Z Z (NI _ _ Z) hK)) ap)) ?_);refine ar (λ _=>.ptr 101000 (0+P4.toNat*5)) Z Z Z (dG Z Y) (lt1 Z) (ak Z (ai [(22,_),(23,_)] ⟨.inr ⟨4,_,Z,Z,Z⟩,.inr ⟨5,_,Z,Z,Z⟩,trivial⟩ (λ sl NI K hK=>ah Z (lg Z Z Z Z Z Z (NI _ _ Z) (NI _ _ Z) Z PO hK)) ap)) (ar (λ _=>.p (.agg (aw.cs (lat l18 P4)))) Z Z Z (dG Z Y) (lt1 Z) (ak Z (ai [(24,_)] ⟨.inr ⟨6,_,Z,Z,Z⟩,trivial⟩ (λ sl NI K hK=>ah Z (wm bw aw.cs l18 Z Z Z Z Z (NI _ _ Z) Z Z Z PO aw.F' Y hK)) ap)) ?_);refine ar (λ _=>.p (.agg (aw.cs N9))) Z Z Z (dG Z Y) (lt1 Z) (ak Z (ai [(25,_)] ⟨.inr ⟨7,_,Z,Z,Z⟩,trivial⟩ (λ sl NI K hK=>ah Z (cF (PX (lat l18 P4) _ RU) Z Z Z (aQ (NI _ _ Z) bU) ⟨sr,trivial⟩ Tryz.call75 Z hK)) ap)) (ar (λ _=>.ptr 101000 (0+P4.toNat*5)) Z Z Z (dG Z Y) (lt1 Z) (ak Z (ai [(19,_),(20,_)] ⟨.inr ⟨1,_,Z,Z,Z⟩,.inr ⟨2,_,Z,Z,Z⟩,trivial⟩ (λ sl NI K hK=>ah Z (lg Z Z Z Z Z Z (NI _ _ Z) (NI _ _ Z) Z Qn hK)) ap)) ?_);refine dI [(26,_),(27,_)] Z ⟨.inr ⟨8,_,Z,Z,Z⟩,.inr ⟨9,_,Z,Z,Z⟩,trivial⟩ Z (λ sl NI K hK=>ah Z (tW bw aw.cs l18 N9 (n:=P4) Z Z Z (NI _ _ Z) (NI _ _ Z) Z Z Z Qn aw.F' Y Y hK)) (cV ?_);refine nx 2 Z (oA h1 Z Z λ P7 h1=>?_);exact nx 2 Z (eX (P4+1,l18.set P4.toNat N9) h1 (cG Fv))
 exact nx 2 Z (eXi _ (oi h1).symm (cG (jv ⟨er Z,er Z,trivial⟩ ⟨⟨_,Z,⟨sr,sr,sr,AV.sub_of_eq Hm,sr,trivial⟩⟩,⟨_,Z,⟨sr,sr,sr,sr,sr,trivial⟩⟩,⟨_,Z,aV _⟩,trivial⟩)))
def iL (On:ag->Option ag):Nat->Option Unit|0=>none|_m+1=>if 0<(([]:List ag).length:Int) then ck ((0:Int)<=0/\0<(([]:List ag).length:Int))<|(On (lat ([]:List ag) 0)).bind λ _r7=>ck ((0:Int)<=0/\0<(([]:List ag).length:Int))<|none else some ()
def gA (On:ag->Option ag)(NW:ag):Nat->Int->(List ag)->Option (List ag)|0,_,_=>none|m+1,O5,l19=>if O5<(NW.If.length:Int) then ck ((0:Int)<=O5/\O5<(l19.length:Int))<|(On (lat l19 O5)).bind λ PU=>ck ((0:Int)<=O5/\O5<(l19.length:Int))<|ck (inR (O5+1))<|gA On NW m (O5+1) (l19.set O5.toNat PU)else some l19
def dT:Nat->ag->Option ag|0,_=>none|n+1,NW=>(gO n NW.B').bind λ r1=>if NW.If.isEmpty=true then(iL (dT n) n ).bind λ _Sv=>some (ag.mk NW.Ar NW.fOp NW.AT NW.I' r1 ([]:List ag) NW.fAt)else ck (NW.If.length*160<=140737488355328)<|(gA (dT n) NW n 0 NW.If).bind λ l28=>some (ag.mk NW.Ar NW.fOp NW.AT NW.I' r1 l28 NW.fAt)
theorem mM (n:Nat):∀ (NW:ag) (r:ag),dT n NW=some r->aK Tryz.prog 35 [.agg (ag.cs NW)] (·=.p (.agg (ag.cs r))):=by
 induction n with
 | zero=>intro NW r h0; cases h0
 | succ n ih=>
 have Pm:=ih;intro NW r h0;rw [dT] at h0;refine bV good Tryz.func35 Z Z Z λ w0=>mP (λ v:ag=>.p (.agg (ag.cs v))) ?_;refine nx 9 Z (bd h0 λ r1 e2 h0=>?_);refine oK (vP _ NW.B' _ e2) Z ⟨sr,trivial⟩ Tryz.call75 Z (nx 7 Z ?_);refine Dt (b:=NW.If.isEmpty) (λ c3=>?_) (λ c3=>?_)
 ·replace h0:=KD c3 h0;refine mO Z (cF (jU NW.If c3) Z Z Z Z ⟨sr,trivial⟩ Tryz.call76 Z ?_);refine nx 8 Z (oLl (f:=av) Z Z ?_);refine nx 3 Z (bd h0 λ o31 h1 h0=>?_);refine kE 0 o31 (λ v32=>⟨[(1,.ptr 1 0),(2,.ptr 2 0)],[(1,[.p (eI NW.Ar),.p (eI NW.fOp),.p (eS NW.AT),.p (eS NW.I'),.p (eI r1.Ar),.p (eI r1.It),.p (eS r1.IS),.p (eL bw r1.H'),.p (eL eS r1.E'),.p (eL av ([]:List ag)),.p (eI NW.fAt)]),(2,[.p (eI 0),.p (eI 0),.p (eS ([]:Bk)),.p (eS ([]:Bk)),.p (eI 0),.p (eI 0),.p (eS ([]:Bk)),.p (.val (.slice none 0 0)),.p (.val (.slice none 0 0)),.p (.val (.slice none 0 0)),.p (eI 0)])]⟩) ?_ ?_
  ·exact oM
  refine lG (λ (q33:Unit)=>⟨[(1,.ptr 1 0),(2,.ptr 2 0),(14,.p (eI (([]:List ag).length:Int))),(15,.p (eI 0))],[(1,[.p (eI NW.Ar),.p (eI NW.fOp),.p (eS NW.AT),.p (eS NW.I'),.p (eI r1.Ar),.p (eI r1.It),.p (eS r1.IS),.p (eL bw r1.H'),.p (eL eS r1.E'),.p (eL av ([]:List ag)),.p (eI NW.fAt)]),(2,[.p (eI 0),.p (eI 0),.p (eS ([]:Bk)),.p (eS ([]:Bk)),.p (eI 0),.p (eI 0),.p (eS ([]:Bk)),.p (.val (.slice none 0 0)),.p (.val (.slice none 0 0)),.p (.val (.slice none 0 0)),.p (eI 0)])]⟩) (λ m (q33:Unit)=>iL (dT n) m ) Y () h1 (gE rfl rfl) ?_;rintro m _ h1;replace h1:iL (dT n) (m+1)  = some o31:=h1;rw [iL] at h1;refine nx 5 rfl (fD [16] h1 rfl (λ c5 h1=>?_) λ c5 h1=>?_)
  ·refine nx 9 Z (cc' h1 λ hk6 h1=>?_);refine bd h1 λ r7 e8 h1=>cc' h1 λ Rk h1=>?_
   cases h1
  exact cH
 replace h0:=Hc c3 h0;refine cc' h0 λ Rq h0=>mO Z (aN [] [] 101000 101001 (jT NW.If c3 Rq) Z Z Z Z Z ⟨sr,trivial⟩ Z Z trivial Z Z Z Z Z Z Z Z Tryz.call76 Z (aF Z (aG _) Z) ?_);refine nx 12 Z (bd h0 λ Ta h1 h0=>?_);refine kE 0 Ta (λ QS=>⟨[(1,.ptr 1 0),(2,.ptr 2 0)],[(1,[.p (eI NW.Ar),.p (eI NW.fOp),.p (eS NW.AT),.p (eS NW.I'),.p (eI r1.Ar),.p (eI r1.It),.p (eS r1.IS),.p (eL bw r1.H'),.p (eL eS r1.E'),.arr 101000 11 0 QS.length,.p (eI NW.fAt)]),(2,[.p (eI 0),.p (eI 0),.p (eS ([]:Bk)),.p (eS ([]:Bk)),.p (eI 0),.p (eI 0),.p (eS ([]:Bk)),.p (.val (.slice none 0 0)),.p (.val (.slice none 0 0)),.p (.val (.slice none 0 0)),.p (eI 0)]),(101000,jJ av QS)]⟩) ?_ ?_
 ·refine nx 3 Z (mG (qT (sl':=[(1,.ptr 1 0),(2,.ptr 2 0)]) (ob':=[(1,[.p (eI NW.Ar),.p (eI NW.fOp),.p (eS NW.AT),.p (eS NW.I'),.p (eI r1.Ar),.p (eI r1.It),.p (eS r1.IS),.p (eL bw r1.H'),.p (eL eS r1.E'),.p (eL av Ta),.p (eI NW.fAt)]),(2,[.p (eI 0),.p (eI 0),.p (eS ([]:Bk)),.p (eS ([]:Bk)),.p (eI 0),.p (eI 0),.p (eS ([]:Bk)),.p (.val (.slice none 0 0)),.p (.val (.slice none 0 0)),.p (.val (.slice none 0 0)),.p (eI 0)])]) 101000 11 av Ta Z Z Z (λ x=>⟨congrArg List.length (ag.F' x),by rw [ag.F']; rfl⟩) ⟨⟨_,Z,.inl Z⟩,⟨_,Z,.inl Z⟩,trivial⟩ ⟨⟨Z,_,Z,⟨.inl Z,.inl Z,.inl Z,.inl Z,.inl Z,.inl Z,.inl Z,.inl Z,.inl Z,.inr ⟨G ,Z⟩,.inl Z,trivial⟩⟩,⟨Z,_,Z,⟨.inl Z,.inl Z,.inl Z,.inl Z,.inl Z,.inl Z,.inl Z,.inl Z,.inl Z,.inl Z,.inl Z,trivial⟩⟩,trivial⟩) ?_);exact wk
 refine lG (λ (SY:Int×(List ag))=>⟨[(1,.ptr 1 0),(2,.ptr 2 0),(14,.p (eI (NW.If.length:Int))),(15,.p (eI SY.1))],[(1,[.p (eI NW.Ar),.p (eI NW.fOp),.p (eS NW.AT),.p (eS NW.I'),.p (eI r1.Ar),.p (eI r1.It),.p (eS r1.IS),.p (eL bw r1.H'),.p (eL eS r1.E'),.arr 101000 11 0 SY.2.length,.p (eI NW.fAt)]),(2,[.p (eI 0),.p (eI 0),.p (eS ([]:Bk)),.p (eS ([]:Bk)),.p (eI 0),.p (eI 0),.p (eS ([]:Bk)),.p (.val (.slice none 0 0)),.p (.val (.slice none 0 0)),.p (.val (.slice none 0 0)),.p (eI 0)]),(101000,jJ av SY.2)]⟩) (λ m (SY:Int×(List ag))=>gA (dT n) NW m SY.1 SY.2) Y (0,NW.If) h1 (cG I0) ?_;rintro m ⟨O5,l19⟩ h1;replace h1:gA (dT n) NW (m+1) O5 l19=some Ta:=h1;rw [gA] at h1;refine nx 5 rfl (fD [16] h1 rfl (λ c20 h1=>?_) λ c20 h1=>?_)
 ·refine nx 9 Z (cc' h1 λ PY h1=>?_);refine bd h1 λ PU To h1=>cc' h1 λ P7 h1=>mG (cG (t:=⟨[(1,.ptr 1 0),(2,.ptr 2 0),(3,.p (eI O5)),(14,.p (eI (NW.If.length:Int))),(15,.p (eI O5))],[(1,[.p (eI NW.Ar),.p (eI NW.fOp),.p (eS NW.AT),.p (eS NW.I'),.p (eI r1.Ar),.p (eI r1.It),.p (eS r1.IS),.p (eL bw r1.H'),.p (eL eS r1.E'),.arr 101000 11 0 l19.length,.p (eI NW.fAt)]),(2,[.p (eI 0),.p (eI 0),.p (eS ([]:Bk)),.p (eS ([]:Bk)),.p (eI 0),.p (eI 0),.p (eS ([]:Bk)),.p (.val (.slice none 0 0)),.p (.val (.slice none 0 0)),.p (.val (.slice none 0 0)),.p (eI 0)]),(101000,jJ av l19)]⟩) (jv ⟨er Z,er Z,er Z,er Z,er Z,trivial⟩ ⟨⟨_,Z,⟨sr,sr,sr,sr,sr,sr,sr,sr,sr,AV.sub_of_eq FC,sr,trivial⟩⟩,⟨_,Z,⟨sr,sr,sr,sr,sr,sr,sr,sr,sr,sr,sr,trivial⟩⟩,⟨_,Z,aV _⟩,trivial⟩)) (mS ⟨1,[10],(λ _=>.none),(λ _=>[(1,.ptr 1 0),(2,.ptr 2 0),(3,.p (eI O5)),(14,.p (eI (NW.If.length:Int))),(15,.p (eI O5))]),(by2 ([(1,[.p (eI NW.Ar),.p (eI NW.fOp),.p (eS NW.AT),.p (eS NW.I'),.p (eI r1.Ar),.p (eI r1.It),.p (eS r1.IS),.p (eL bw r1.H'),.p (eL eS r1.E'),.arr 101000 11 0 l19.length,.p (eI NW.fAt)]),(2,[.p (eI 0),.p (eI 0),.p (eS ([]:Bk)),.p (eS ([]:Bk)),.p (eI 0),.p (eI 0),.p (eS ([]:Bk)),.p (.val (.slice none 0 0)),.p (.val (.slice none 0 0)),.p (.val (.slice none 0 0)),.p (eI 0)]),(101000,jJ av l19)]) ([(101000,jJ av (l19.set O5.toNat PU)),(1,[.p (eI NW.Ar),.p (eI NW.fOp),.p (eS NW.AT),.p (eS NW.I'),.p (eI r1.Ar),.p (eI r1.It),.p (eS r1.IS),.p (eL bw r1.H'),.p (eL eS r1.E'),.arr 101000 11 0 l19.length,.p (eI NW.fAt)]),(2,[.p (eI 0),.p (eI 0),.p (eS ([]:Bk)),.p (eS ([]:Bk)),.p (eI 0),.p (eI 0),.p (eS ([]:Bk)),.p (.val (.slice none 0 0)),.p (.val (.slice none 0 0)),.p (.val (.slice none 0 0)),.p (eI 0)]),(101000,jJ av l19)]))⟩ Z Z Z ⟨Z,Z,Z,Z,Z,trivial⟩ (lt1 ⟨Z,Z,Z,Z,Z,trivial⟩) Z Z Z Z ?_);refine ar (λ _=>.ptr 1 9) Z Z Z (dG Z Y) (lt1 Z) (ak Z (ai [(1,_)] ⟨.inl Z,trivial⟩ (λ sl NI K hK=>ah Z (aI Z Z Z Z Z Z Z Z (NI _ _ Z) hK)) ap)) (ar (λ _=>.arr 101000 11 0 l19.length) Z Z Z (dG Z Y) (lt1 Z) (ak Z (ai [(18,_)] ⟨.inr ⟨0,_,Z,Z,Z⟩,trivial⟩ (λ sl NI K hK=>ah Z (bH Z Z Z Z Z (NI _ _ Z) Z Z hK)) ap)) ?_);refine ar (λ _=>.p (eI O5)) Z Z Z (dG Z Y) (lt1 Z) (ak Z (ai [(3,_)] ⟨.inl Z,trivial⟩ (λ sl NI K hK=>ah Z (b6 Z Z Z (NI _ _ Z) hK)) ap)) (ar (λ _=>.ptr 1 9) Z Z Z (dG Z Y) (lt1 Z) (ak Z (ai [(1,_)] ⟨.inl Z,trivial⟩ (λ sl NI K hK=>ah Z (aI Z Z Z Z Z Z Z Z (NI _ _ Z) hK)) ap)) ?_);refine ar (λ _=>.arr 101000 11 0 l19.length) Z Z Z (dG Z Y) (lt1 Z) (ak Z (ai [(21,_)] ⟨.inr ⟨3,_,Z,Z,Z⟩,trivial⟩ (λ sl NI K hK=>ah Z (bH Z Z Z Z Z (NI _ _ Z) Z Z hK)) ap)) (ar (λ _=>.p (eI O5)) Z Z Z (dG Z Y) (lt1 Z) (ak Z (ai [(3,_)] ⟨.inl Z,trivial⟩ (λ sl NI K hK=>ah Z (b6 Z Z Z (NI _ _ Z) hK)) ap)) ?_);refine ar (λ _=>.ptr 101000 (0+O5.toNat*11)) Z Z Z (dG Z Y) (lt1 Z) (ak Z (ai [(22,_),(23,_)] ⟨.inr ⟨4,_,Z,Z,Z⟩,.inr ⟨5,_,Z,Z,Z⟩,trivial⟩ (λ sl NI K hK=>ah Z (lg Z Z Z Z Z Z (NI _ _ Z) (NI _ _ Z) Z PY hK)) ap)) (ar (λ _=>.p (.agg (ag.cs (lat l19 O5)))) Z Z Z (dG Z Y) (lt1 Z) (ak Z (ai [(24,_)] ⟨.inr ⟨6,_,Z,Z,Z⟩,trivial⟩ (λ sl NI K hK=>ah Z (wm av ag.cs l19 Z Z Z Z Z (NI _ _ Z) Z Z Z PY ag.F' Y hK)) ap)) ?_);refine ar (λ _=>.p (.agg (ag.cs PU))) Z Z Z (dG Z Y) (lt1 Z) (ak Z (ai [(25,_)] ⟨.inr ⟨7,_,Z,Z,Z⟩,trivial⟩ (λ sl NI K hK=>ah Z (cF (Pm (lat l19 O5) _ To) Z Z Z (aQ (NI _ _ Z) bU) ⟨sr,trivial⟩ Tryz.call35 Z hK)) ap)) (ar (λ _=>.ptr 101000 (0+O5.toNat*11)) Z Z Z (dG Z Y) (lt1 Z) (ak Z (ai [(19,_),(20,_)] ⟨.inr ⟨1,_,Z,Z,Z⟩,.inr ⟨2,_,Z,Z,Z⟩,trivial⟩ (λ sl NI K hK=>ah Z (lg Z Z Z Z Z Z (NI _ _ Z) (NI _ _ Z) Z P7 hK)) ap)) ?_);refine dI [(26,_),(27,_)] Z ⟨.inr ⟨8,_,Z,Z,Z⟩,.inr ⟨9,_,Z,Z,Z⟩,trivial⟩ Z (λ sl NI K hK=>ah Z (tW av ag.cs l19 PU (n:=O5) Z Z Z (NI _ _ Z) (NI _ _ Z) Z Z Z P7 ag.F' Y Y hK)) (cV ?_);refine nx 2 Z (oA h1 Z Z λ Qc h1=>?_);exact nx 2 Z (eX (O5+1,l19.set O5.toNat PU) h1 (cG I0))
 exact nx 2 Z (eXi _ (oi h1).symm (cG (jv ⟨er Z,er Z,trivial⟩ ⟨⟨_,Z,⟨sr,sr,sr,sr,sr,sr,sr,sr,sr,AV.sub_of_eq FC,sr,trivial⟩⟩,⟨_,Z,⟨sr,sr,sr,sr,sr,sr,sr,sr,sr,sr,sr,trivial⟩⟩,⟨_,Z,aV _⟩,trivial⟩)))
def kd (n:Nat)(b_0:aH)(name_1:Bk):Nat->Int->Option (Unit⊕(al×Bool))|0,_=>none|m+1,t8=>if t8<(b_0.By.length:Int) then ck ((0:Int)<=t8/\t8<(b_0.By.length:Int))<|if (lat b_0.By t8).AT=name_1 then(dT n ((lat b_0.By t8).IT)).bind λ Ov=>some (.inr ((al.mk ((lat b_0.By t8).AT) Ov ((lat b_0.By t8).fAt)),true))else ck (inR (t8+1))<|kd n b_0 name_1 m (t8+1)else some (.inl ())
def sG (n:Nat)(b_0:aH)(name_1:Bk):Option (al×Bool) :=jn (kd n b_0 name_1 n 0) λ _q16=>some ((al.mk ([]:Bk) (ag.mk 0 0 ([]:Bk) ([]:Bk) (aw.mk 0 0 ([]:Bk) [] []) [] 0) 0),false)
theorem x8 (n:Nat)(b_0:aH)(name_1:Bk)(r:al×Bool)(h0:sG n b_0 name_1=some r):aK Tryz.prog 16 [.agg (aH.cs b_0),eS name_1] (·=.tuple [.p (.agg (al.cs r.1)),.p (eB r.2)]):=by
 unfold sG at h0;refine bV good Tryz.func16 Z Z Z λ w0=>mP (λ v:al×Bool=>.tuple [.p (.agg (al.cs v.1)),.p (eB v.2)]) ?_;refine nx 11 rfl (oLl (f:=ao) Z Z ?_);refine nx 3 rfl ?_;obtain ⟨TO,h1,Ou,hR0⟩:=cw h0;refine kEx 0 (λ Sk:Unit=>TO=.inl Sk) (λ Sk=>⟨[(4,.ptr 4 0)],[(4,[.p (eS ([]:Bk)),.p (eI 0),.p (eI 0),.p (eS ([]:Bk)),.p (eS ([]:Bk)),.p (eI 0),.p (eI 0),.p (eS ([]:Bk)),.p (.val (.slice none 0 0)),.p (.val (.slice none 0 0)),.p (.val (.slice none 0 0)),.p (eI 0),.p (eI 0)])]⟩) (λ Sk hv=>?_) ?_
 ·have h0:=Ou _ hv;exact nx 8 Z (mQ (oi h0) Z (cb ⟨dW ⟨.inl Z,.inl Z,.inl Z,.inl Z,.inl Z,.inl Z,.inl Z,.inl Z,.inr ⟨Z,Z⟩,.inr ⟨Z,Z⟩,.inr ⟨Z,Z⟩,.inl Z,.inl Z,trivial⟩,sr,trivial⟩))
 refine lG (λ (Ro:Int)=>⟨[(1,.p (eS name_1)),(4,.ptr 4 0),(9,.p (eL ao b_0.By)),(10,.p (eI (b_0.By.length:Int))),(11,.p (eI Ro))],[(4,[.p (eS ([]:Bk)),.p (eI 0),.p (eI 0),.p (eS ([]:Bk)),.p (eS ([]:Bk)),.p (eI 0),.p (eI 0),.p (eS ([]:Bk)),.p (.val (.slice none 0 0)),.p (.val (.slice none 0 0)),.p (.val (.slice none 0 0)),.p (eI 0),.p (eI 0)])]⟩) (λ m (Ro:Int)=>kd n b_0 name_1 m Ro) Y 0 h1 (gE rfl rfl) ?_;rintro m t8 h1;replace h1:kd n b_0 name_1 (m+1) t8=some TO:=h1;rw [kd] at h1;refine nx 5 rfl (fD [12] h1 rfl (λ c9 h1=>?_) λ c9 h1=>?_)
 ·refine nx 6 Z (oE h1 al.F' Z Z Y λ Po h1=>?_);refine nx 9 Z (oS Z Z ?_);refine nx 1 Z (fD [18] h1 Z (λ Qq h1=>?_) λ Qq h1=>?_)
  ·refine nx 5 Z (bd h1 λ Ov Q0 h1=>?_);refine oK (mM _ ((lat b_0.By t8).IT) _ Q0) Z ⟨sr,trivial⟩ Tryz.call35 Z (nx 10 Z ?_);exact mQ (hR0 _ (oi h1).symm) Z (cb ⟨sr,sr,trivial⟩)
  exact yF
 exact cH
def gj (n:Nat)(b_0:aH):Nat->Int->(List al)->Option (List al)|0,_,_=>none|m+1,t9,Rf=>if t9<(b_0.By.length:Int) then ck ((0:Int)<=t9/\t9<(b_0.By.length:Int))<|(dT n ((lat b_0.By t9).IT)).bind λ P1=>ck ((Rf.length+[(al.mk ((lat b_0.By t9).AT) P1 ((lat b_0.By t9).fAt))].length)*184<=140737488355328)<|ck (inR (t9+1))<|gj n b_0 m (t9+1) (Rf++[(al.mk ((lat b_0.By t9).AT) P1 ((lat b_0.By t9).fAt))])else some Rf
def gu (OQ:aB->Option aB)(b_0:aH):Nat->Int->(List aB)->Option (List aB)|0,_,_=>none|m+1,Pr,Sc=>if Pr<(b_0.A'.length:Int) then ck ((0:Int)<=Pr/\Pr<(b_0.A'.length:Int))<|(OQ (lat b_0.A' Pr)).bind λ Px=>ck ((Sc.length+[Px].length)*96<=140737488355328)<|ck (inR (Pr+1))<|gu OQ b_0 m (Pr+1) (Sc++[Px])else some Sc
mutual
def fk:Nat->aB->Option aB|0,_=>none|n+1,Og=>ck (Og.L'.length*16<=140737488355328)<|((iR n) Og.J').bind λ r2=>some (aB.mk Og.M' Og.L' r2 Og.fAt)
def iR:Nat->aH->Option aH|0,_=>none|n+1,b_0=>(gj n b_0 n 0 []).bind λ Ub=>(gu (fk n) b_0 n 0 []).bind λ Pb=>some (aH.mk Ub Pb)
end
theorem lB (n:Nat):(∀ (Og:aB) (r:aB),fk n Og=some r->aK Tryz.prog 37 [.agg (aB.cs Og)] (·=.p (.agg (aB.cs r))))/\(∀ (b_0:aH) (r:aH),iR n b_0=some r->aS Tryz.prog 38 [.p (.agg (aH.cs b_0))] [] (λ x y=>x=.agg [.stk 2000000 13 (r.By.map ao),.stk 2000001 5 (r.A'.map aD)]/\y=[])):=by
 induction n with
 | zero=>exact ⟨(by intro Og r h0; cases h0),(by intro b_0 r h0; cases h0)⟩
 | succ n ih=>
 obtain ⟨Pf,Pn⟩:=ih;refine ⟨?_,?_⟩
 ·skip
  intro Og r h0;rw [fk] at h0;refine bV good Tryz.func37 Z Z Z λ w0=>mP (λ v:aB=>.p (.agg (aB.cs v))) ?_;refine nx 6 rfl (cc' h0 λ Ra h0=>?_);refine bd h0 λ r2 e3 h0=>mG (gE (t:=⟨[(1,.ptr 1 0),(2,.ptr 2 0)],[(1,(aB.cs Og).map .p),(2,[.p (eS ([]:Bk)),.p (.val (.slice none 0 0)),.p (.val (.slice none 0 0)),.p (.val (.slice none 0 0)),.p (eI 0)])]⟩) Z Z) (mS ⟨2,[7,11],(by3 (.some (dp [] 101000 101002)) .none .none),(λ _=>[(1,.ptr 1 0),(2,.ptr 2 0)]),(by3 ([(1,[.p (eS Og.M'),.p (eL eS Og.L'),.p (eL ao Og.J'.By),.p (eL aD Og.J'.A'),.p (eI Og.fAt)]),(2,[.p (eS ([]:Bk)),.p (.val (.slice none 0 0)),.p (.val (.slice none 0 0)),.p (.val (.slice none 0 0)),.p (eI 0)])]) ([(1,[.p (eS Og.M'),.p (eL eS Og.L'),.p (eL ao Og.J'.By),.p (eL aD Og.J'.A'),.p (eI Og.fAt)]),(2,[.p (eS ([]:Bk)),.p (.val (.slice none 0 0)),.p (.val (.slice none 0 0)),.p (.val (.slice none 0 0)),.p (eI 0)])]) ([(2,[.p (eS Og.M'),.p (eL eS Og.L'),.p (eL ao r2.By),.p (eL aD r2.A'),.p (eI Og.fAt)]),(1,[.p (eS Og.M'),.p (eL eS Og.L'),.p (eL ao Og.J'.By),.p (eL aD Og.J'.A'),.p (eI Og.fAt)]),(2,[.p (eS ([]:Bk)),.p (.val (.slice none 0 0)),.p (.val (.slice none 0 0)),.p (.val (.slice none 0 0)),.p (eI 0)])]))⟩ Z Z Z ⟨rfl,rfl,trivial⟩ (lt2 ⟨rfl,rfl,trivial⟩ ⟨rfl,rfl,trivial⟩) Z Z Z Z ?_);refine ar (λ _=>.ptr 1 0) Z Z Z (cM Z Z Y) (lt2 Z Z) (ak rfl (ai [(1,_)] ⟨.inl rfl,trivial⟩ (λ sl NI K hK=>ah rfl (aI Z Z Z Z Z Z Z Z (NI _ _ rfl) hK)) (ai [(1,_)] ⟨.inl rfl,trivial⟩ (λ sl NI K hK=>ah rfl (aI Z Z Z Z Z Z Z Z (NI _ _ rfl) hK)) ap))) (ar (λ _=>.p (eS Og.M')) Z Z Z (cM Z Z Y) (lt2 Z Z) (ak rfl (ai [(3,_)] ⟨.inr ⟨0,_,rfl,rfl,rfl⟩,trivial⟩ (λ sl NI K hK=>ah rfl (bH Z Z Z Z Z (NI _ _ rfl) Z Z hK)) (ai [(3,_)] ⟨.inr ⟨0,_,rfl,rfl,rfl⟩,trivial⟩ (λ sl NI K hK=>ah rfl (bH Z Z Z Z Z (NI _ _ rfl) Z Z hK)) ap))) ?_);refine ar (λ _=>.ptr 1 1) Z Z Z (cM Z Z Y) (lt2 Z Z) (ak rfl (ai [(1,_)] ⟨.inl rfl,trivial⟩ (λ sl NI K hK=>ah rfl (aI Z Z Z Z Z Z Z Z (NI _ _ rfl) hK)) (ai [(1,_)] ⟨.inl rfl,trivial⟩ (λ sl NI K hK=>ah rfl (aI Z Z Z Z Z Z Z Z (NI _ _ rfl) hK)) ap))) (ar (λ _=>.p (eL eS Og.L')) Z Z Z (cM Z Z Y) (lt2 Z Z) (ak rfl (ai [(5,_)] ⟨.inr ⟨2,_,rfl,rfl,rfl⟩,trivial⟩ (λ sl NI K hK=>ah rfl (bH Z Z Z Z Z (NI _ _ rfl) Z Z hK)) (ai [(5,_)] ⟨.inr ⟨2,_,rfl,rfl,rfl⟩,trivial⟩ (λ sl NI K hK=>ah rfl (bH Z Z Z Z Z (NI _ _ rfl) Z Z hK)) ap))) ?_);refine ar (λ _=>.p (eL eS Og.L')) Z Z Z (cM Z Z Y) (lt2 Z Z) (ak rfl (ak rfl (ai [(6,_)] ⟨.inr ⟨3,_,rfl,rfl,rfl⟩,trivial⟩ (λ sl NI K hK=>ah rfl (cF (iB Og.L' Ra) Z Z Z (aQ (NI _ _ rfl) bU) ⟨sr,trivial⟩ Tryz.call77 rfl hK)) ap))) (ar (λ _=>.ptr 1 2) Z Z Z (cM Z Z Y) (lt2 Z Z) (ak rfl (ai [(1,_)] ⟨.inl rfl,trivial⟩ (λ sl NI K hK=>ah rfl (aI Z Z Z Z Z Z Z Z (NI _ _ rfl) hK)) (ai [(1,_)] ⟨.inl rfl,trivial⟩ (λ sl NI K hK=>ah rfl (aI Z Z Z Z Z Z Z Z (NI _ _ rfl) hK)) ap))) ?_);refine ar (λ _=>.p (.agg (aH.cs Og.J'))) Z Z Z (cM Z Z Y) (lt2 Z Z) (ak rfl (ak rfl (ai [(8,_)] ⟨.inr ⟨5,_,rfl,rfl,rfl⟩,trivial⟩ (λ sl NI K hK=>ah rfl (eH Z Z Z Z Z (NI _ _ rfl) Z Z Z hK)) ap))) (dB (λ _=>.p (.agg (aH.cs r2))) [(9,_)] rfl ⟨.inr ⟨6,_,rfl,rfl,rfl⟩,trivial⟩ Z Z (dG rfl Y) (lt2 (λ h=>absurd h (by decide)) Y) (λ sl NI K hK=>ah rfl (F9 (λ _ hq=>xw 101001 (λ _ hq=>xw 101000 (λ _ hq=>aN [] [] 101000 101002 (Pn Og.J' _ e3) Z Z Z (aQ (NI _ _ rfl) bU) rfl ⟨sr,trivial⟩ Z Z trivial Z Z Z Z Z Z Z Z Tryz.call38 Z Z hq) Z Z Z hq) Z Z Z hq) (rD (ds:=aH.cs r2) ⟨sr,sr,trivial⟩) hK)) ?_);refine ar (λ _=>.ptr 1 4) Z Z Z (cM Z Z Y) (lt2 Z Z) (ak rfl (ai [(1,_)] ⟨.inl rfl,trivial⟩ (λ sl NI K hK=>ah rfl (aI Z Z Z Z Z Z Z Z (NI _ _ rfl) hK)) (ai [(1,_)] ⟨.inl rfl,trivial⟩ (λ sl NI K hK=>ah rfl (aI Z Z Z Z Z Z Z Z (NI _ _ rfl) hK)) ap))) (ar (λ _=>.p (eI Og.fAt)) Z Z Z (cM Z Z Y) (lt2 Z Z) (ak rfl (ai [(11,_)] ⟨.inr ⟨8,_,rfl,rfl,rfl⟩,trivial⟩ (λ sl NI K hK=>ah rfl (bH Z Z Z Z Z (NI _ _ rfl) Z Z hK)) (ai [(11,_)] ⟨.inr ⟨8,_,rfl,rfl,rfl⟩,trivial⟩ (λ sl NI K hK=>ah rfl (bH Z Z Z Z Z (NI _ _ rfl) Z Z hK)) ap))) ?_);refine ar (λ _=>.p (.agg [eS Og.M',eL eS Og.L',eL ao r2.By,eL aD r2.A',eI Og.fAt])) Z Z Z (cM Z Z Y) (lt2 Z Z) (ak rfl (ai [(4,_),(7,_),(10,_),(12,_)] ⟨.inr ⟨1,_,rfl,rfl,rfl⟩,.inr ⟨4,_,rfl,rfl,rfl⟩,.inr ⟨7,_,rfl,rfl,rfl⟩,.inr ⟨9,_,rfl,rfl,rfl⟩,trivial⟩ (λ sl NI K hK=>ah rfl (gV Z Z Z Z Z Z (iH (NI _ _ Z) (iH (NI _ _ Z) (iH (NI _ _ Z) (iH (NI _ _ Z) nX)))) Z Z hK)) (ak rfl ap))) (dI [(2,_),(13,_)] rfl ⟨.inl rfl,.inr ⟨10,_,rfl,rfl,rfl⟩,trivial⟩ rfl (λ sl NI K hK=>ah rfl (fe Z Z Z (NI _ _ rfl) (NI _ _ rfl) Z Z Z (ld rfl) hK)) ?_);refine cV (nx 2 rfl ?_);exact oG
 ·skip
  intro b_0 r h0;rw [iR] at h0;refine bT good [800000,800001] [] Tryz.func38 Z Z Z Z Z λ w0 F=>mPo (λ v:aH=>.agg [.stk 2000000 13 (v.By.map ao),.stk 2000001 5 (v.A'.map aD)]) (λ v=>[]) ?_;refine nx 14 rfl (oLl (f:=ao) Z Z ?_);refine nx 3 rfl (bd h0 λ SA h1 h0=>?_);refine kE 0 SA (λ v42=>⟨[(1,.ptr 1 0),(2,.ptr 2 0),(3,.ptr 3 0)],[(1,(aH.cs b_0).map .p),(2,[.p (.val (.slice none 0 0)),.p (.val (.slice none 0 0))]),(3,[.stk 600026 13 (v42.map ao),.p (.val (.slice none 0 0))])]⟩) ?_ ?_
  ·refine nx 6 Z (oLl (f:=aD) Z Z ?_);refine nx 3 Z (bd h0 λ S0 h1 h0=>?_);refine kE 2 S0 (λ Si=>⟨[(2,.ptr 2 0),(3,.ptr 3 0)],[(2,[.p (.val (.slice none 0 0)),.p (.val (.slice none 0 0))]),(3,[.stk 600026 13 (SA.map ao),.stk 600041 5 (Si.map aD)])]⟩) ?_ ?_
   ·exact nx 7 Z (mQo (oi h0) (aU (bn 600026 800000 Z Z Z Z Z) (aU (bn 600041 800001 Z Z Z Z Z) (aJ _))) Z Z Z Z (sr) trivial)
   refine lG (λ (UH:Int×(List aB))=>⟨[(2,.ptr 2 0),(3,.ptr 3 0),(30,.p (eL aD b_0.A')),(31,.p (eI (b_0.A'.length:Int))),(32,.p (eI UH.1))],[(2,[.p (.val (.slice none 0 0)),.p (.val (.slice none 0 0))]),(3,[.stk 600026 13 (SA.map ao),.stk 600041 5 (UH.2.map aD)])]⟩) (λ m (UH:Int×(List aB))=>gu (fk n) b_0 m UH.1 UH.2) Y (0,[]) h1 (cG (jv ⟨er rfl,er rfl,er rfl,er rfl,er rfl,trivial⟩ ⟨⟨_,rfl,⟨sr,sr,trivial⟩⟩,⟨_,rfl,⟨sr,AV.sub_nilstk _ _,trivial⟩⟩,trivial⟩)) ?_;rintro m ⟨Pr,Sc⟩ h1;replace h1:gu (fk n) b_0 (m+1) Pr Sc=some S0:=h1;rw [gu] at h1;refine nx 5 rfl (fD [33] h1 rfl (λ Tt h1=>?_) λ Tt h1=>?_)
   ·refine nx 6 Z (oE h1 aB.F' Z Z Y λ Te h1=>?_);refine nx 4 Z (bd h1 λ Px SJ h1=>?_);refine cc' h1 λ SH h1=>mG (gE (t:=⟨[(2,.ptr 2 0),(3,.ptr 3 0),(7,.ptr 7 0),(30,.p (eL aD b_0.A')),(31,.p (eI (b_0.A'.length:Int))),(32,.p (eI Pr))],[(2,[.p (.val (.slice none 0 0)),.p (.val (.slice none 0 0))]),(3,[.stk 600026 13 (SA.map ao),.stk 600041 5 (Sc.map aD)]),(7,(aB.cs (lat b_0.A' Pr)).map .p)]⟩) Z Z) (mS ⟨2,[5,7],(by3 (.some λ i=>Nat.beq i 600041) .none .none),(λ _=>[(2,.ptr 2 0),(3,.ptr 3 0),(7,.ptr 7 0),(30,.p (eL aD b_0.A')),(31,.p (eI (b_0.A'.length:Int))),(32,.p (eI Pr))]),(by3 ([(2,[.p (.val (.slice none 0 0)),.p (.val (.slice none 0 0))]),(3,[.stk 600026 13 (SA.map ao),.stk 600041 5 (Sc.map aD)]),(7,[.p (eS ((lat b_0.A' Pr).M')),.p (eL eS ((lat b_0.A' Pr).L')),.p (eL ao (((lat b_0.A' Pr).J').By)),.p (eL aD (((lat b_0.A' Pr).J').A')),.p (eI ((lat b_0.A' Pr).fAt))])]) ([(2,[.p (.val (.slice none 0 0)),.p (.val (.slice none 0 0))]),(3,[.stk 600026 13 (SA.map ao),.undef]),(7,[.p (eS ((lat b_0.A' Pr).M')),.p (eL eS ((lat b_0.A' Pr).L')),.p (eL ao (((lat b_0.A' Pr).J').By)),.p (eL aD (((lat b_0.A' Pr).J').A')),.p (eI ((lat b_0.A' Pr).fAt))])]) ([(3,[.stk 600026 13 (SA.map ao),.stk 600041 5 ((Sc++[Px]).map aD)]),(2,[.p (.val (.slice none 0 0)),.p (.val (.slice none 0 0))]),(3,[.stk 600026 13 (SA.map ao),.undef]),(7,[.p (eS ((lat b_0.A' Pr).M')),.p (eL eS ((lat b_0.A' Pr).L')),.p (eL ao (((lat b_0.A' Pr).J').By)),.p (eL aD (((lat b_0.A' Pr).J').A')),.p (eI ((lat b_0.A' Pr).fAt))])]))⟩ Z Z Z ⟨Z,Z,Z,Z,Z,Z,trivial⟩ (lt2 ⟨Z,Z,Z,Z,Z,Z,trivial⟩ ⟨Z,Z,Z,Z,Z,Z,trivial⟩) Z Z Z Z ?_);refine ar (λ _=>.ptr 3 1) Z Z Z (cM Z Z Y) (lt2 Z Z) (ak Z (ai [(3,_)] ⟨.inl Z,trivial⟩ (λ sl NI K hK=>ah Z (aI Z Z Z Z Z Z Z Z (NI _ _ Z) hK)) (ai [(3,_)] ⟨.inl Z,trivial⟩ (λ sl NI K hK=>ah Z (aI Z Z Z Z Z Z Z Z (NI _ _ Z) hK)) ap))) (ar (by3 (.stk 600041 5 (Sc.map aD)) .undef .undef) Z Z Z (cM Z Z Y) (lt2 Z Z) (ak Z (ak Z (ai [(36,_)] ⟨.inr ⟨0,_,Z,Z,Z⟩,trivial⟩ (λ sl NI K hK=>ah Z (bH Z Z Z Z Z (NI _ _ Z) Z Z hK)) ap))) ?_);refine ar (λ _=>.p (.agg (aB.cs (lat b_0.A' Pr)))) Z Z Z (cM Z Z Y) (lt2 Z Z) (ak Z (ai [(7,_)] ⟨.inl Z,trivial⟩ (λ sl NI K hK=>ah Z (eH Z Z Z Z Z (NI _ _ Z) Z Z Z hK)) (ai [(7,_)] ⟨.inl Z,trivial⟩ (λ sl NI K hK=>ah Z (eH Z Z Z Z Z (NI _ _ Z) Z Z Z hK)) ap))) (ar (λ _=>.p (.agg (aB.cs Px))) Z Z Z (cM Z Z Y) (lt2 Z Z) (ak Z (ak Z (ai [(38,_)] ⟨.inr ⟨2,_,Z,Z,Z⟩,trivial⟩ (λ sl NI K hK=>ah Z (cF (Pf (lat b_0.A' Pr) _ SJ) Z Z Z (aQ (NI _ _ Z) bU) ⟨sr,trivial⟩ Tryz.call37 Z hK)) ap))) ?_);refine ar (λ _=>.p (eL aD [Px])) Z Z Z (cM Z Z Y) (lt2 Z Z) (ak Z (ak Z (ai [(39,_)] ⟨.inr ⟨3,_,Z,Z,Z⟩,trivial⟩ (λ sl NI K hK=>ah Z (bz aD [Px] Z Z Z Z Z Z (du (NI _ _ Z) Z eA) Z Z Z Z Z Z Im hK)) ap))) (dB (λ _=>.stk 600041 5 ((Sc++[Px]).map aD)) [(37,_),(40,_)] Z ⟨.inr ⟨1,_,Z,Z,Z⟩,.inr ⟨4,_,Z,Z,Z⟩,trivial⟩ Z Z (dG Z Y) (lt2 (λ h=>absurd h (by decide)) Y) (λ sl NI K hK=>ah Z (xI aD Sc [Px] 600041 Z Z Z Z Z Z Z Z (NI _ _ Z) (sr) Z (NI _ _ Z) Z (λ x=>congrArg List.length (aB.F' x)) (Nat.zero_lt_succ _) Z Z Z Z SH hK)) ?_);refine ar (λ _=>.ptr 3 1) Z Z Z (cM Z Z Y) (lt2 Z Z) (ak Z (ai [(3,_)] ⟨.inl Z,trivial⟩ (λ sl NI K hK=>ah Z (aI Z Z Z Z Z Z Z Z (NI _ _ Z) hK)) (ak Z ap))) (dI [(41,_),(42,_)] Z ⟨.inr ⟨5,_,Z,Z,Z⟩,.inr ⟨6,_,Z,Z,Z⟩,trivial⟩ Z (λ sl NI K hK=>ah Z (fe Z Z Z (NI _ _ Z) (NI _ _ Z) Z Z Z (ld Z) hK)) ?_);refine cV (nx 2 Z ?_);exact oA h1 Z Z λ SG h1=>nx 2 Z (eX (Pr+1,Sc++[Px]) h1 (gE Z Z))
   exact cH
  refine lG (λ (QW:Int×(List al))=>⟨[(1,.ptr 1 0),(2,.ptr 2 0),(3,.ptr 3 0),(9,.p (eL ao b_0.By)),(10,.p (eI (b_0.By.length:Int))),(11,.p (eI QW.1))],[(1,(aH.cs b_0).map .p),(2,[.p (.val (.slice none 0 0)),.p (.val (.slice none 0 0))]),(3,[.stk 600026 13 (QW.2.map ao),.p (.val (.slice none 0 0))])]⟩) (λ m (QW:Int×(List al))=>gj n b_0 m QW.1 QW.2) Y (0,[]) h1 (cG (jv ⟨er rfl,er rfl,er rfl,er rfl,er rfl,er rfl,trivial⟩ ⟨⟨_,rfl,⟨sr,sr,trivial⟩⟩,⟨_,rfl,⟨sr,sr,trivial⟩⟩,⟨_,rfl,⟨AV.sub_nilstk _ _,sr,trivial⟩⟩,trivial⟩)) ?_;rintro m ⟨t9,Rf⟩ h1;replace h1:gj n b_0 (m+1) t9 Rf=some SA:=h1;rw [gj] at h1;refine nx 5 rfl (fD [12] h1 rfl (λ Qq h1=>?_) λ Qq h1=>?_)
  ·refine nx 6 Z (oE h1 al.F' Z Z Y λ QM h1=>?_);refine nx 4 Z (bd h1 λ P1 Vh h1=>?_);refine cc' h1 λ Qo h1=>mG (gE (t:=⟨[(1,.ptr 1 0),(2,.ptr 2 0),(3,.ptr 3 0),(5,.ptr 5 0),(9,.p (eL ao b_0.By)),(10,.p (eI (b_0.By.length:Int))),(11,.p (eI t9))],[(1,(aH.cs b_0).map .p),(2,[.p (.val (.slice none 0 0)),.p (.val (.slice none 0 0))]),(3,[.stk 600026 13 (Rf.map ao),.p (.val (.slice none 0 0))]),(5,(al.cs (lat b_0.By t9)).map .p)]⟩) Z Z) (mS ⟨2,[11,13],(by3 (.some λ i=>Nat.beq i 600026) .none .none),(λ _=>[(1,.ptr 1 0),(2,.ptr 2 0),(3,.ptr 3 0),(5,.ptr 5 0),(9,.p (eL ao b_0.By)),(10,.p (eI (b_0.By.length:Int))),(11,.p (eI t9))]),(by3 ([(1,[.p (eL ao b_0.By),.p (eL aD b_0.A')]),(2,[.p (.val (.slice none 0 0)),.p (.val (.slice none 0 0))]),(3,[.stk 600026 13 (Rf.map ao),.p (.val (.slice none 0 0))]),(5,[.p (eS ((lat b_0.By t9).AT)),.p (eI (((lat b_0.By t9).IT).Ar)),.p (eI (((lat b_0.By t9).IT).fOp)),.p (eS (((lat b_0.By t9).IT).AT)),.p (eS (((lat b_0.By t9).IT).I')),.p (eI ((((lat b_0.By t9).IT).B').Ar)),.p (eI ((((lat b_0.By t9).IT).B').It)),.p (eS ((((lat b_0.By t9).IT).B').IS)),.p (eL bw ((((lat b_0.By t9).IT).B').H')),.p (eL eS ((((lat b_0.By t9).IT).B').E')),.p (eL av (((lat b_0.By t9).IT).If)),.p (eI (((lat b_0.By t9).IT).fAt)),.p (eI ((lat b_0.By t9).fAt))])]) ([(1,[.p (eL ao b_0.By),.p (eL aD b_0.A')]),(2,[.p (.val (.slice none 0 0)),.p (.val (.slice none 0 0))]),(3,[.undef,.p (.val (.slice none 0 0))]),(5,[.p (eS ((lat b_0.By t9).AT)),.p (eI (((lat b_0.By t9).IT).Ar)),.p (eI (((lat b_0.By t9).IT).fOp)),.p (eS (((lat b_0.By t9).IT).AT)),.p (eS (((lat b_0.By t9).IT).I')),.p (eI ((((lat b_0.By t9).IT).B').Ar)),.p (eI ((((lat b_0.By t9).IT).B').It)),.p (eS ((((lat b_0.By t9).IT).B').IS)),.p (eL bw ((((lat b_0.By t9).IT).B').H')),.p (eL eS ((((lat b_0.By t9).IT).B').E')),.p (eL av (((lat b_0.By t9).IT).If)),.p (eI (((lat b_0.By t9).IT).fAt)),.p (eI ((lat b_0.By t9).fAt))])]) ([(3,[.stk 600026 13 ((Rf++[(al.mk ((lat b_0.By t9).AT) P1 ((lat b_0.By t9).fAt))]).map ao),.p (.val (.slice none 0 0))]),(1,[.p (eL ao b_0.By),.p (eL aD b_0.A')]),(2,[.p (.val (.slice none 0 0)),.p (.val (.slice none 0 0))]),(3,[.undef,.p (.val (.slice none 0 0))]),(5,[.p (eS ((lat b_0.By t9).AT)),.p (eI (((lat b_0.By t9).IT).Ar)),.p (eI (((lat b_0.By t9).IT).fOp)),.p (eS (((lat b_0.By t9).IT).AT)),.p (eS (((lat b_0.By t9).IT).I')),.p (eI ((((lat b_0.By t9).IT).B').Ar)),.p (eI ((((lat b_0.By t9).IT).B').It)),.p (eS ((((lat b_0.By t9).IT).B').IS)),.p (eL bw ((((lat b_0.By t9).IT).B').H')),.p (eL eS ((((lat b_0.By t9).IT).B').E')),.p (eL av (((lat b_0.By t9).IT).If)),.p (eI (((lat b_0.By t9).IT).fAt)),.p (eI ((lat b_0.By t9).fAt))])]))⟩ Z Z Z ⟨Z,Z,Z,Z,Z,Z,Z,trivial⟩ (lt2 ⟨Z,Z,Z,Z,Z,Z,Z,trivial⟩ ⟨Z,Z,Z,Z,Z,Z,Z,trivial⟩) Z Z Z Z ?_);refine ar (λ _=>.ptr 3 0) Z Z Z (cM Z Z Y) (lt2 Z Z) (ak Z (ai [(3,_)] ⟨.inl Z,trivial⟩ (λ sl NI K hK=>ah Z (aI Z Z Z Z Z Z Z Z (NI _ _ Z) hK)) (ai [(3,_)] ⟨.inl Z,trivial⟩ (λ sl NI K hK=>ah Z (aI Z Z Z Z Z Z Z Z (NI _ _ Z) hK)) ap))) (ar (by3 (.stk 600026 13 (Rf.map ao)) .undef .undef) Z Z Z (cM Z Z Y) (lt2 Z Z) (ak Z (ak Z (ai [(15,_)] ⟨.inr ⟨0,_,Z,Z,Z⟩,trivial⟩ (λ sl NI K hK=>ah Z (bH Z Z Z Z Z (NI _ _ Z) Z Z hK)) ap))) ?_);refine ar (λ _=>.ptr 5 0) Z Z Z (cM Z Z Y) (lt2 Z Z) (ak Z (ai [(5,_)] ⟨.inl Z,trivial⟩ (λ sl NI K hK=>ah Z (aI Z Z Z Z Z Z Z Z (NI _ _ Z) hK)) (ai [(5,_)] ⟨.inl Z,trivial⟩ (λ sl NI K hK=>ah Z (aI Z Z Z Z Z Z Z Z (NI _ _ Z) hK)) ap))) (ar (λ _=>.p (eS ((lat b_0.By t9).AT))) Z Z Z (cM Z Z Y) (lt2 Z Z) (ak Z (ai [(17,_)] ⟨.inr ⟨2,_,Z,Z,Z⟩,trivial⟩ (λ sl NI K hK=>ah Z (bH Z Z Z Z Z (NI _ _ Z) Z Z hK)) (ai [(17,_)] ⟨.inr ⟨2,_,Z,Z,Z⟩,trivial⟩ (λ sl NI K hK=>ah Z (bH Z Z Z Z Z (NI _ _ Z) Z Z hK)) ap))) ?_);refine ar (λ _=>.ptr 5 1) Z Z Z (cM Z Z Y) (lt2 Z Z) (ak Z (ai [(5,_)] ⟨.inl Z,trivial⟩ (λ sl NI K hK=>ah Z (aI Z Z Z Z Z Z Z Z (NI _ _ Z) hK)) (ai [(5,_)] ⟨.inl Z,trivial⟩ (λ sl NI K hK=>ah Z (aI Z Z Z Z Z Z Z Z (NI _ _ Z) hK)) ap))) (ar (λ _=>.p (.agg (ag.cs ((lat b_0.By t9).IT)))) Z Z Z (cM Z Z Y) (lt2 Z Z) (ak Z (ai [(19,_)] ⟨.inr ⟨4,_,Z,Z,Z⟩,trivial⟩ (λ sl NI K hK=>ah Z (eH Z Z Z Z Z (NI _ _ Z) Z Z Z hK)) (ai [(19,_)] ⟨.inr ⟨4,_,Z,Z,Z⟩,trivial⟩ (λ sl NI K hK=>ah Z (eH Z Z Z Z Z (NI _ _ Z) Z Z Z hK)) ap))) ?_);refine ar (λ _=>.p (.agg (ag.cs P1))) Z Z Z (cM Z Z Y) (lt2 Z Z) (ak Z (ak Z (ai [(20,_)] ⟨.inr ⟨5,_,Z,Z,Z⟩,trivial⟩ (λ sl NI K hK=>ah Z (cF (mM _ ((lat b_0.By t9).IT) _ Vh) Z Z Z (aQ (NI _ _ Z) bU) ⟨sr,trivial⟩ Tryz.call35 Z hK)) ap))) (ar (λ _=>.ptr 5 12) Z Z Z (cM Z Z Y) (lt2 Z Z) (ak Z (ai [(5,_)] ⟨.inl Z,trivial⟩ (λ sl NI K hK=>ah Z (aI Z Z Z Z Z Z Z Z (NI _ _ Z) hK)) (ai [(5,_)] ⟨.inl Z,trivial⟩ (λ sl NI K hK=>ah Z (aI Z Z Z Z Z Z Z Z (NI _ _ Z) hK)) ap))) ?_);refine ar (λ _=>.p (eI ((lat b_0.By t9).fAt))) Z Z Z (cM Z Z Y) (lt2 Z Z) (ak Z (ai [(22,_)] ⟨.inr ⟨7,_,Z,Z,Z⟩,trivial⟩ (λ sl NI K hK=>ah Z (bH Z Z Z Z Z (NI _ _ Z) Z Z hK)) (ai [(22,_)] ⟨.inr ⟨7,_,Z,Z,Z⟩,trivial⟩ (λ sl NI K hK=>ah Z (bH Z Z Z Z Z (NI _ _ Z) Z Z hK)) ap))) (ar (λ _=>.p (.agg [eS ((lat b_0.By t9).AT),eI P1.Ar,eI P1.fOp,eS P1.AT,eS P1.I',eI P1.B'.Ar,eI P1.B'.It,eS P1.B'.IS,eL bw P1.B'.H',eL eS P1.B'.E',eL av P1.If,eI P1.fAt,eI ((lat b_0.By t9).fAt)])) Z Z Z (cM Z Z Y) (lt2 Z Z) (ak Z (ai [(18,_),(21,_),(23,_)] ⟨.inr ⟨3,_,Z,Z,Z⟩,.inr ⟨6,_,Z,Z,Z⟩,.inr ⟨8,_,Z,Z,Z⟩,trivial⟩ (λ sl NI K hK=>ah Z (gV Z Z Z Z Z Z (iH (NI _ _ Z) (iH (NI _ _ Z) (iH (NI _ _ Z) nX))) Z Z hK)) (ai [(18,_),(21,_),(23,_)] ⟨.inr ⟨3,_,Z,Z,Z⟩,.inr ⟨6,_,Z,Z,Z⟩,.inr ⟨8,_,Z,Z,Z⟩,trivial⟩ (λ sl NI K hK=>ah Z (gV Z Z Z Z Z Z (iH (NI _ _ Z) (iH (NI _ _ Z) (iH (NI _ _ Z) nX))) Z Z hK)) ap))) ?_);refine ar (λ _=>.p (eL ao [(al.mk ((lat b_0.By t9).AT) P1 ((lat b_0.By t9).fAt))])) Z Z Z (cM Z Z Y) (lt2 Z Z) (ak Z (ak Z (ai [(24,_)] ⟨.inr ⟨9,_,Z,Z,Z⟩,trivial⟩ (λ sl NI K hK=>ah Z (bz ao [(al.mk ((lat b_0.By t9).AT) P1 ((lat b_0.By t9).fAt))] Z Z Z Z Z Z (du (NI _ _ Z) Z eA) Z Z Z Z Z Z HI hK)) ap))) (dB (λ _=>.stk 600026 13 ((Rf++[(al.mk ((lat b_0.By t9).AT) P1 ((lat b_0.By t9).fAt))]).map ao)) [(16,_),(25,_)] Z ⟨.inr ⟨1,_,Z,Z,Z⟩,.inr ⟨10,_,Z,Z,Z⟩,trivial⟩ Z Z (dG Z Y) (lt2 (λ h=>absurd h (by decide)) Y) (λ sl NI K hK=>ah Z (xI ao Rf [(al.mk ((lat b_0.By t9).AT) P1 ((lat b_0.By t9).fAt))] 600026 Z Z Z Z Z Z Z Z (NI _ _ Z) (sr) Z (NI _ _ Z) Z (λ x=>congrArg List.length (al.F' x)) (Nat.zero_lt_succ _) Z Z Z Z Qo hK)) ?_);refine ar (λ _=>.ptr 3 0) Z Z Z (cM Z Z Y) (lt2 Z Z) (ak Z (ai [(3,_)] ⟨.inl Z,trivial⟩ (λ sl NI K hK=>ah Z (aI Z Z Z Z Z Z Z Z (NI _ _ Z) hK)) (ak Z ap))) (dI [(26,_),(27,_)] Z ⟨.inr ⟨11,_,Z,Z,Z⟩,.inr ⟨12,_,Z,Z,Z⟩,trivial⟩ Z (λ sl NI K hK=>ah Z (fe Z Z Z (NI _ _ Z) (NI _ _ Z) Z Z Z (ld Z) hK)) ?_);refine cV (nx 2 Z ?_);exact oA h1 Z Z λ RR h1=>nx 2 Z (eX (t9+1,Rf++[(al.mk ((lat b_0.By t9).AT) P1 ((lat b_0.By t9).fAt))]) h1 (gE Z Z))
  exact cH
theorem qH (n:Nat):∀ (Og:aB) (r:aB),fk n Og=some r->aK Tryz.prog 37 [.agg (aB.cs Og)] (·=.p (.agg (aB.cs r))):=(lB n).1
theorem qW (n:Nat):∀ (b_0:aH) (r:aH),iR n b_0=some r->aS Tryz.prog 38 [.p (.agg (aH.cs b_0))] [] (λ x y=>x=.agg [.stk 2000000 13 (r.By.map ao),.stk 2000001 5 (r.A'.map aD)]/\y=[]):=(lB n).2
def jb (n:Nat)(b_0:aH)(typ_1:Bk):Nat->(List aB)->Int->Option (List aB)|0,_,_=>none|m+1,Qj,t12=>if t12<(b_0.A'.length:Int) then(ck ((0:Int)<=t12/\t12<(b_0.A'.length:Int))<|if (lat b_0.A' t12).M'=typ_1 then(fk n (lat b_0.A' t12)).bind λ Pq=>ck ((Qj.length+[Pq].length)*96<=140737488355328)<|some (Qj++[Pq])else some Qj : Option (List aB)).bind λ UL=>ck (inR (t12+1))<|jb n b_0 typ_1 m UL (t12+1)else some Qj
def p9 (n:Nat)(b_0:aH)(typ_1:Bk):Option (List aB) :=(jb n b_0 typ_1 n [] 0).bind λ UK=>some UK
theorem wH (n:Nat)(b_0:aH)(typ_1:Bk)(r:(List aB))(h0:p9 n b_0 typ_1=some r):aK Tryz.prog 20 [.agg (aH.cs b_0),eS typ_1] (·=.p (eL aD r)):=by
 unfold p9 at h0;refine bV good Tryz.func20 Z Z Z λ w0=>mP (λ v:(List aB)=>.p (eL aD v)) ?_;refine nx 14 Z (oLl (f:=aD) Z Z ?_);refine nx 3 Z (bd h0 λ Ur h1 h0=>?_);refine kE 0 Ur (λ Uu=>⟨[(5,.vec 23 5 0 (Uu.map aD))],[]⟩) ?_ ?_
 ·exact nx 7 Z (mQ (oi h0) Z (AV.sub_vec _ _ _ _))
 refine lG (λ (RN:(List aB)×Int)=>⟨[(1,.p (eS typ_1)),(5,.vec 23 5 0 (RN.1.map aD)),(9,.p (eL aD b_0.A')),(10,.p (eI (b_0.A'.length:Int))),(11,.p (eI RN.2))],[]⟩) (λ m (RN:(List aB)×Int)=>jb n b_0 typ_1 m RN.1 RN.2) Y ([],0) h1 (cG (jv ⟨er rfl,⟨_,rfl,AV.sub_nilvec _ _ _⟩,er rfl,er rfl,er rfl,trivial⟩ trivial)) ?_;rintro m ⟨Qj,t12⟩ h1;replace h1:jb n b_0 typ_1 (m+1) Qj t12=some Ur:=h1;rw [jb] at h1;refine nx 5 rfl (fD [12] h1 rfl (λ P8 h1=>?_) λ P8 h1=>?_)
 ·refine nx 3 Z (bd h1 λ QB h2 h1=>?_);refine kN QB (λ PS=>⟨[(1,.p (eS typ_1)),(5,.vec 23 5 0 (PS.map aD)),(9,.p (eL aD b_0.A')),(10,.p (eI (b_0.A'.length:Int))),(11,.p (eI t12))],[]⟩) ?_ ?_
  ·refine nx 2 Z (oA h1 Z Z λ PO h1=>?_);exact nx 2 Z (eX (QB,t12+1) h1 (gE Z Z))
  refine nx 3 Z (oE h2 aB.F' Z Z Y λ RS h2=>?_);refine nx 9 Z (oS Z Z ?_);refine nx 1 Z (fD [18] h2 Z (λ QQ h2=>?_) λ QQ h2=>?_)
  ·refine nx 4 Z (bd h2 λ Pq Rh h2=>?_);refine oK (qH _ (lat b_0.A' t12) _ Rh) Z ⟨sr,trivial⟩ Tryz.call37 Z (mO Z (bz aD [Pq] Z Z Z Z Z Z Z Z Z Z Z Z Z Im ?_));refine cc' h2 λ QL h2=>mO Z (fF aD Qj [Pq] Z Z Z Z Z Z Z Z Z Z Z Z Z (λ x=>congrArg List.length (aB.F' x)) Z Z Z Z QL ?_);exact fS
  exact fS
 exact cH
theorem Jg (h:p:=by
  refine nx 3 Z (oA h1 Z Z λ Tf h1=>?_);refine nx 2 Z ?_
  skip; refine mG (gFn 1 C_del_1 Z (by simp only [rW K_del_1])) ?_
  exact eX (Q9.1,Q9.2,j20+1) h1 (gE Z Z)):p:=h
theorem Ht (h:p:=by
  exact nx 3 Z (mQo (oi h0) (aU (bn 900000 800000 Z Z Z Z Z) (aJ _)) Z Z Z Z (sr) trivial)):p:=h
theorem xQ (h:p:=by exact gFn 1 C_del_1 Z (by simp only [rW K_del_1])):p:=h
theorem F0 (h:p:=by simp only [rW K_del_1]):p:=h
def bB (del_1:al->Option Bool):Nat->(List al)->Int->Int->Option ((List al)×Int)|0,_,_,_=>none|m+1,s18,i19,j20=>if j20<(s18.length:Int) then(ck ((0:Int)<=j20/\j20<(s18.length:Int))<|(del_1 (lat s18 j20)).bind λ OJ=>if (!OJ)=true then ck ((0:Int)<=i19/\i19<(s18.length:Int))<|ck (inR (i19+1))<|some (Fi s18 i19 (lat s18 j20),i19+1)else some (s18,i19) : Option ((List al)×Int)).bind λ SX=>ck (inR (j20+1))<|bB del_1 m SX.1 SX.2 (j20+1)else some (s18,i19)
def cN (n:Nat)(NN:List al)(del_1:al->Option Bool):Option (List al) :=(bP n NN del_1).bind λ r1=>if r1=(-1) then some NN else ck (inR (r1+1))<|(bB del_1 n NN r1 (r1+1)).bind λ RJ=>ck ((0:Int)<=RJ.2/\RJ.2<=(RJ.1.length:Int))<|some (sub RJ.1 0 RJ.2)
theorem gH (n:Nat)(NN:List al)(del_1:al->Option Bool)(F_del_1:FuncId)(C_del_1:List AV)(K_del_1:AV.mapA.go (λ _=>none) C_del_1=some C_del_1)(E_del_1:∀ vs w,(callFunc F_del_1 vs).run Tryz.prog w=.ok (.enter F_del_1 vs) w)(H_del_1:∀ (x0:al) r,del_1 x0=some r->gG Tryz.prog F_del_1 ([.p (.agg (al.cs x0))]++C_del_1) (·=.p (eB r)))(r:(List al))(h0:cN n NN del_1=some r):aS Tryz.prog 39 [.stk 900000 13 (NN.map ao),.func (.func F_del_1) C_del_1] [] (λ x y=>x=.stk 2000000 13 (r.map ao)/\y=[]):=by
 unfold cN at h0;refine bT good [800000] [] Tryz.func39 Z Z Z Z Z λ w0 F=>mPo (λ v:(List al)=>.stk 2000000 13 (v.map ao)) (λ v=>[]) ?_;refine nx 8 Z (bd h0 λ r1 e2 h0=>?_);refine mO Z (xe (d8 _ NN del_1 F_del_1 C_del_1 K_del_1 E_del_1 H_del_1 _ e2) Z Z Z Z (qv Z (qv (zt K_del_1) Ao)) ⟨sr,sr,trivial⟩ Tryz.call78 ?_);refine nx 8 Z (fD [12] h0 Z (λ c3 h0=>?_) λ c3 h0=>?_)
 ·exact nx 7 Z (mQo (oi h0) (aU (gE (t:=⟨[(4,.stk 900000 13 (NN.map ao))],[]⟩) Z Z) (aU (bn 900000 800000 Z Z Z Z Z) (aJ _))) Z Z Z Z (sr) trivial)
 refine nx 6 Z (oA h0 Z Z λ Rq h0=>?_);refine nx 3 Z (bd h0 λ Ry h1 h0=>?_);refine kE 0 Ry (λ S3=>⟨[(0,.stk 900000 13 (S3.1.map ao)),(5,.p (eI S3.2))],[]⟩) ?_ ?_
 ·refine nx 5 Z (cc' h0 λ Qm h0=>?_);refine mO Z (rP ao Ry.1 Z Z Z Z Z Z Z Z Z Qm ?_);refine mO Z (vM ao Ry.1 0 Z Z Z Z Z Z Z Z Z Z Qm Z Z Z ?_);refine nx 5 Z (mO Z (ue ao Ry.1 Z Z Z Z Z Z Z Z Qm ?_));exact Ht
 refine lG (λ (Qy:(List al)×Int×Int)=>⟨[(0,.stk 900000 13 (Qy.1.map ao)),(1,.func (.func F_del_1) C_del_1),(5,.p (eI Qy.2.1)),(6,.p (eI Qy.2.2))],[]⟩) (λ m (Qy:(List al)×Int×Int)=>bB del_1 m Qy.1 Qy.2.1 Qy.2.2) Y (NN,r1,r1+1) h1 (gE rfl rfl) ?_;rintro m ⟨s18,i19,j20⟩ h1;replace h1:bB del_1 (m+1) s18 i19 j20=some Ry:=h1;rw [bB] at h1;refine nx 5 rfl (mO rfl (zQ ao s18 rfl rfl rfl rfl rfl rfl ?_));refine nx 2 rfl (fD [19] h1 rfl (λ c21 h1=>?_) λ c21 h1=>?_)
 ·refine nx 3 Z (bd h1 λ Q9 h2 h1=>?_);refine kN Q9 (λ QG=>⟨[(0,.stk 900000 13 (QG.1.map ao)),(1,.func (.func F_del_1) C_del_1),(5,.p (eI QG.2)),(6,.p (eI j20))],[]⟩) ?_ ?_
  ·exact Jg
  refine nx 5 Z (cc' h2 λ Pw h2=>?_);refine mO Z (kz ao s18 Z Z Z Z Z Z Z Z Z Pw ?_);refine mO Z (xK ao s18 al.cs 0 Z Z Z Z Z Z Z Z Pw al.F' ?_);refine nx 7 Z (bd h2 λ OJ Tn h2=>?_);refine mG xQ (mG (gFn 26 C_del_1 Z F0) ?_);refine mO Z (rF (q:=[.p (.agg (al.cs (lat s18 j20)))]) (H_del_1 (lat s18 j20) _ Tn) Z Z Z Z K_del_1 Z Z ⟨sr,trivial⟩ E_del_1 Z ?_);refine nx 2 Z (fB [29] h2 Z (λ QD h2=>?_) λ QD h2=>?_)
  ·refine nx 6 Z (cc' h2 λ PH h2=>?_);refine mO Z (kz ao s18 Z Z Z Z Z Z Z Z Z PH ?_);refine mO Z (uf ao s18 (lat s18 j20) 0 Z Z Z Z Z Z PH Z (AV.sub_of_eq (congrArg AV.p (al.Mr (lat s18 j20)).symm)) ((λ x=>by rw [al.Mr]; rfl:∀ x,(AV.p (ao x)).cellsA=some ((ao x).cells.map .p)) (lat s18 j20)) ((λ x=>by rw [al.F']; rfl:∀ x,Nat.beq (ao x).cells.length 13=true) (lat s18 j20)) Z Z Z ?_);refine nx 3 Z (oA h2 Z Z λ Rr h2=>?_);refine nx 2 Z ?_
   skip; refine mG xQ ?_
   exact pP
  exact fS
 exact cH
def cW (NN:List Bk)(v_1:Bk):Nat->Int->Option (Unit⊕Int)|0,_=>none|m+1,t6=>if t6<(NN.length:Int) then ck ((0:Int)<=t6/\t6<(NN.length:Int))<|if v_1=lat NN t6 then some (.inr t6)else ck (inR (t6+1))<|cW NN v_1 m (t6+1)else some (.inl ())
def gg (n:Nat)(NN:List Bk)(v_1:Bk):Option Int :=jn (cW NN v_1 n 0) λ _q12=>some (-1)
theorem lz (n:Nat)(NN:List Bk)(v_1:Bk)(r:Int)(h0:gg n NN v_1=some r):aK Tryz.prog 79 [eL eS NN,eS v_1] (·=.p (eI r)):=by
 unfold gg at h0;refine bV good Tryz.func79 Z Z Z λ w0=>mP (λ v:Int=>.p (eI v)) ?_;refine nx 8 rfl (oLl (f:=eS) Z Z ?_);refine nx 3 rfl ?_;obtain ⟨o13,h1,Ou,hR0⟩:=cw h0;refine kEx 0 (λ Uv:Unit=>o13=.inl Uv) (λ Uv=>⟨[],[]⟩) (λ Uv hv=>?_) ?_
 ·have h0:=Ou _ hv;exact ez
 refine lG (λ (Qz:Int)=>⟨[(0,.p (eL eS NN)),(1,.p (eS v_1)),(7,.p (eI (NN.length:Int))),(8,.p (eI Qz))],[]⟩) (λ m (Qz:Int)=>cW NN v_1 m Qz) Y 0 h1 (gE rfl rfl) ?_;rintro m t6 h1;replace h1:cW NN v_1 (m+1) t6=some o13:=h1;rw [cW] at h1;refine nx 5 rfl (fD [9] h1 rfl (λ c7 h1=>?_) λ c7 h1=>?_)
 ·refine nx 14 Z (oE h1 Y Z Z Y λ SC h1=>?_);refine nx 1 Z (oS Z Z ?_);refine nx 1 Z (fD [16] h1 Z (λ c9 h1=>?_) λ c9 h1=>?_)
  ·exact u6
  refine nx 3 Z (oA h1 Z Z λ Po h1=>?_);exact nx 2 Z (eX (t6+1) h1 (gE Z Z))
 exact cH
def d7 (n:Nat)(NN:List Bk)(v_1:Bk):Option Bool :=(gg n NN v_1).bind λ r1=>some (decide (0<=r1))
theorem gT (n:Nat)(NN:List Bk)(v_1:Bk)(r:Bool)(h0:d7 n NN v_1=some r):aK Tryz.prog 41 [eL eS NN,eS v_1] (·=.p (eB r)):=by
 unfold d7 at h0;refine bV good Tryz.func41 Z Z Z λ w0=>mP (λ v:Bool=>.p (eB v)) ?_;refine nx 8 Z (bd h0 λ r1 e2 h0=>?_);refine oK (lz _ NN v_1 _ e2) Z ⟨sr,sr,trivial⟩ Tryz.call79 Z (nx 4 Z ?_);exact oG
def kD (n:Nat)(a_0:al)(cap_0:List Bk):Option Bool :=(d7 n cap_0 a_0.AT).bind λ r1=>some r1
theorem rO (n:Nat)(a_0:al)(cap_0:List Bk)(r:Bool)(h0:kD n a_0 cap_0=some r):gG Tryz.prog 40 [.p (.agg (al.cs a_0)),.rptr ([(eL eS) cap_0])] (·=.p (eB r)):=by
 unfold kD at h0;refine sP good Tryz.func40 Z Z Z λ w0=>mP (λ v:Bool=>.p (eB v)) ?_;refine nx 10 Z (bd h0 λ r1 e2 h0=>?_);refine oK (gT _ cap_0 a_0.AT _ e2) Z ⟨sr,sr,trivial⟩ Tryz.call41 Z (nx 3 Z ?_);exact oG
def ce (NN:List aB)(f_1:aB->Option Bool):Nat->Int->Option (Unit⊕Int)|0,_=>none|m+1,t8=>if t8<(NN.length:Int) then ck ((0:Int)<=t8/\t8<(NN.length:Int))<|(f_1 (lat NN t8)).bind λ PM=>if PM=true then some (.inr t8)else ck (inR (t8+1))<|ce NN f_1 m (t8+1)else some (.inl ())
def d5 (n:Nat)(NN:List aB)(f_1:aB->Option Bool):Option Int :=jn (ce NN f_1 n 0) λ _q16=>some (-1)
theorem i6 (n:Nat)(NN:List aB)(f_1:aB->Option Bool)(F_f_1:FuncId)(C_f_1:List AV)(K_f_1:AV.mapA.go (λ _=>none) C_f_1=some C_f_1)(E_f_1:∀ vs w,(callFunc F_f_1 vs).run Tryz.prog w=.ok (.enter F_f_1 vs) w)(H_f_1:∀ (x0:aB) r,f_1 x0=some r->gG Tryz.prog F_f_1 ([.p (.agg (aB.cs x0))]++C_f_1) (·=.p (eB r)))(r:Int)(h0:d5 n NN f_1=some r):gG Tryz.prog 80 [.p (eL aD NN),.func (.func F_f_1) C_f_1] (·=.p (eI r)):=by
 unfold d5 at h0;refine sP good Tryz.func80 Z Z Z λ w0=>mP (λ v:Int=>.p (eI v)) ?_;refine nx 8 rfl (oLl (f:=aD) Z Z ?_);refine nx 3 rfl ?_;obtain ⟨TO,h1,Ou,hR0⟩:=cw h0;refine kEx 0 (λ Sk:Unit=>TO=.inl Sk) (λ Sk=>⟨[],[]⟩) (λ Sk hv=>?_) ?_
 ·have h0:=Ou _ hv;exact ez
 refine lG (λ (Ro:Int)=>⟨[(0,.p (eL aD NN)),(1,.func (.func F_f_1) C_f_1),(7,.p (eI (NN.length:Int))),(8,.p (eI Ro))],[]⟩) (λ m (Ro:Int)=>ce NN f_1 m Ro) Y 0 h1 (gE rfl rfl) ?_;rintro m t8 h1;replace h1:ce NN f_1 (m+1) t8=some TO:=h1;rw [ce] at h1;refine nx 5 rfl (fD [9] h1 rfl (λ c9 h1=>?_) λ c9 h1=>?_)
 ·refine nx 14 Z (oE h1 aB.F' Z Z Y λ Po h1=>?_);refine nx 1 Z (bd h1 λ PM QN h1=>?_);refine mG (gFn 1 C_f_1 Z yj) (mG (gFn 11 C_f_1 Z yj) ?_);refine mO Z (rF (q:=[.p (.agg (aB.cs (lat NN t8)))]) (H_f_1 (lat NN t8) _ QN) Z Z Z Z K_f_1 Z Z ⟨sr,trivial⟩ E_f_1 Z ?_);refine nx 1 Z (fB [16] h1 Z (λ P8 h1=>?_) λ P8 h1=>?_)
  ·exact u6
  exact yF
 exact cH
def b7 (del_1:aB->Option Bool):Nat->(List aB)->Int->Int->Option ((List aB)×Int)|0,_,_,_=>none|m+1,s18,i19,j20=>if j20<(s18.length:Int) then(ck ((0:Int)<=j20/\j20<(s18.length:Int))<|(del_1 (lat s18 j20)).bind λ OJ=>if (!OJ)=true then ck ((0:Int)<=i19/\i19<(s18.length:Int))<|ck (inR (i19+1))<|some (Fi s18 i19 (lat s18 j20),i19+1)else some (s18,i19) : Option ((List aB)×Int)).bind λ SX=>ck (inR (j20+1))<|b7 del_1 m SX.1 SX.2 (j20+1)else some (s18,i19)
def dX (n:Nat)(NN:List aB)(del_1:aB->Option Bool):Option (List aB) :=(d5 n NN del_1).bind λ r1=>if r1=(-1) then some NN else ck (inR (r1+1))<|(b7 del_1 n NN r1 (r1+1)).bind λ RJ=>ck ((0:Int)<=RJ.2/\RJ.2<=(RJ.1.length:Int))<|some (sub RJ.1 0 RJ.2)
theorem iV (n:Nat)(NN:List aB)(del_1:aB->Option Bool)(F_del_1:FuncId)(C_del_1:List AV)(K_del_1:AV.mapA.go (λ _=>none) C_del_1=some C_del_1)(E_del_1:∀ vs w,(callFunc F_del_1 vs).run Tryz.prog w=.ok (.enter F_del_1 vs) w)(H_del_1:∀ (x0:aB) r,del_1 x0=some r->gG Tryz.prog F_del_1 ([.p (.agg (aB.cs x0))]++C_del_1) (·=.p (eB r)))(r:(List aB))(h0:dX n NN del_1=some r):aS Tryz.prog 42 [.stk 900000 5 (NN.map aD),.func (.func F_del_1) C_del_1] [] (λ x y=>x=.stk 2000000 5 (r.map aD)/\y=[]):=by
 unfold dX at h0;refine bT good [800000] [] Tryz.func42 Z Z Z Z Z λ w0 F=>mPo (λ v:(List aB)=>.stk 2000000 5 (v.map aD)) (λ v=>[]) ?_;refine nx 8 Z (bd h0 λ r1 e2 h0=>?_);refine mO Z (xe (i6 _ NN del_1 F_del_1 C_del_1 K_del_1 E_del_1 H_del_1 _ e2) Z Z Z Z (qv Z (qv (zt K_del_1) Ao)) ⟨sr,sr,trivial⟩ Tryz.call80 ?_);refine nx 8 Z (fD [12] h0 Z (λ c3 h0=>?_) λ c3 h0=>?_)
 ·exact nx 7 Z (mQo (oi h0) (aU (gE (t:=⟨[(4,.stk 900000 5 (NN.map aD))],[]⟩) Z Z) (aU (bn 900000 800000 Z Z Z Z Z) (aJ _))) Z Z Z Z (sr) trivial)
 refine nx 6 Z (oA h0 Z Z λ Rq h0=>?_);refine nx 3 Z (bd h0 λ Ry h1 h0=>?_);refine kE 0 Ry (λ S3=>⟨[(0,.stk 900000 5 (S3.1.map aD)),(5,.p (eI S3.2))],[]⟩) ?_ ?_
 ·refine nx 5 Z (cc' h0 λ Qm h0=>?_);refine mO Z (rP aD Ry.1 Z Z Z Z Z Z Z Z Z Qm ?_);refine mO Z (vM aD Ry.1 0 Z Z Z Z Z Z Z Z Z Z Qm Z Z Z ?_);refine nx 5 Z (mO Z (ue aD Ry.1 Z Z Z Z Z Z Z Z Qm ?_));exact Ht
 refine lG (λ (Qy:(List aB)×Int×Int)=>⟨[(0,.stk 900000 5 (Qy.1.map aD)),(1,.func (.func F_del_1) C_del_1),(5,.p (eI Qy.2.1)),(6,.p (eI Qy.2.2))],[]⟩) (λ m (Qy:(List aB)×Int×Int)=>b7 del_1 m Qy.1 Qy.2.1 Qy.2.2) Y (NN,r1,r1+1) h1 (gE rfl rfl) ?_;rintro m ⟨s18,i19,j20⟩ h1;replace h1:b7 del_1 (m+1) s18 i19 j20=some Ry:=h1;rw [b7] at h1;refine nx 5 rfl (mO rfl (zQ aD s18 rfl rfl rfl rfl rfl rfl ?_));refine nx 2 rfl (fD [19] h1 rfl (λ c21 h1=>?_) λ c21 h1=>?_)
 ·refine nx 3 Z (bd h1 λ Q9 h2 h1=>?_);refine kN Q9 (λ QG=>⟨[(0,.stk 900000 5 (QG.1.map aD)),(1,.func (.func F_del_1) C_del_1),(5,.p (eI QG.2)),(6,.p (eI j20))],[]⟩) ?_ ?_
  ·exact Jg
  refine nx 5 Z (cc' h2 λ Pw h2=>?_);refine mO Z (kz aD s18 Z Z Z Z Z Z Z Z Z Pw ?_);refine mO Z (xK aD s18 aB.cs 0 Z Z Z Z Z Z Z Z Pw aB.F' ?_);refine nx 7 Z (bd h2 λ OJ Tn h2=>?_);refine mG xQ (mG (gFn 26 C_del_1 Z F0) ?_);refine mO Z (rF (q:=[.p (.agg (aB.cs (lat s18 j20)))]) (H_del_1 (lat s18 j20) _ Tn) Z Z Z Z K_del_1 Z Z ⟨sr,trivial⟩ E_del_1 Z ?_);refine nx 2 Z (fB [29] h2 Z (λ QD h2=>?_) λ QD h2=>?_)
  ·refine nx 6 Z (cc' h2 λ PH h2=>?_);refine mO Z (kz aD s18 Z Z Z Z Z Z Z Z Z PH ?_);refine mO Z (uf aD s18 (lat s18 j20) 0 Z Z Z Z Z Z PH Z (AV.sub_of_eq (congrArg AV.p (aB.Mr (lat s18 j20)).symm)) ((λ x=>by rw [aB.Mr]; rfl:∀ x,(AV.p (aD x)).cellsA=some ((aD x).cells.map .p)) (lat s18 j20)) ((λ x=>by rw [aB.F']; rfl:∀ x,Nat.beq (aD x).cells.length 5=true) (lat s18 j20)) Z Z Z ?_);refine nx 3 Z (oA h2 Z Z λ Rr h2=>?_);refine nx 2 Z ?_
   skip; refine mG xQ ?_
   exact pP
  exact fS
 exact cH
def ke (n:Nat)(Og:aB)(cap_0:List Bk):Option Bool :=(d7 n cap_0 Og.M').bind λ r1=>some r1
theorem ry (n:Nat)(Og:aB)(cap_0:List Bk)(r:Bool)(h0:ke n Og cap_0=some r):gG Tryz.prog 43 [.p (.agg (aB.cs Og)),.rptr ([(eL eS) cap_0])] (·=.p (eB r)):=by
 unfold ke at h0;refine sP good Tryz.func43 Z Z Z λ w0=>mP (λ v:Bool=>.p (eB v)) ?_;refine nx 10 Z (bd h0 λ r1 e2 h0=>?_);refine oK (gT _ cap_0 Og.M' _ e2) Z ⟨sr,sr,trivial⟩ Tryz.call41 Z (nx 3 Z ?_);exact oG
def oW (n:Nat)(b_0:aH)(attrs_1:List Bk)(blocks_2:List Bk):Option aH :=(iR n b_0).bind λ r1=>(cN n r1.By (λ x0=>kD n x0 attrs_1)).bind λ r4=>(dX n r1.A' (λ x0=>ke n x0 blocks_2)).bind λ r7=>some (aH.mk r4 r7)
theorem ut (n:Nat)(b_0:aH)(attrs_1:List Bk)(blocks_2:List Bk)(r:aH)(h0:oW n b_0 attrs_1 blocks_2=some r):aK Tryz.prog 22 [.agg (aH.cs b_0),eL eS attrs_1,eL eS blocks_2] (·=.p (.agg (aH.cs r))):=by
 unfold oW at h0;refine bV good Tryz.func22 Z Z Z λ w0=>mP (λ v:aH=>.p (.agg (aH.cs v))) ?_;refine nx 10 Z (bd h0 λ r1 e2 h0=>?_);refine mO Z (aN [] [] 101000 101002 (qW _ b_0 _ e2) Z Z Z Z Z ⟨sr,trivial⟩ Z Z trivial Z Z Z Z Z Z Z Z Tryz.call38 Z Z ?_);refine nx 7 Z (mG (nJ 4 (cs:=[(eL eS) attrs_1]) Z Z Z) ?_);refine mO Z (nt Z Z Z Z ?_);refine bd h0 λ r4 e5 h0=>mO Z (aN [] [101000] 102000 102001 (gH _ r1.By (λ x0=>kD n x0 attrs_1) 40 ([.rptr [(eL eS) attrs_1]]) Z Tryz.call40 (λ x0 r h=>rO _ x0 attrs_1 r h) _ e5) Z Z Z Z Z ⟨sr,sr,trivial⟩ Z Z trivial Z Z Z Z Z Z Z Z Tryz.call39 Z Z ?_);refine nx 7 Z (mG (nJ 5 (cs:=[(eL eS) blocks_2]) Z Z Z) ?_);refine mO Z (nt Z Z Z Z ?_);refine bd h0 λ r7 e8 h0=>mO Z (aN [] [101001] 103000 103001 (iV _ r1.A' (λ x0=>ke n x0 blocks_2) 43 ([.rptr [(eL eS) blocks_2]]) Z Tryz.call43 (λ x0 r h=>ry _ x0 blocks_2 r h) _ e8) Z Z Z Z Z ⟨sr,sr,trivial⟩ Z Z trivial Z Z Z Z Z Z Z Z Tryz.call42 Z Z ?_);refine nx 8 Z (mG (xL 102000 Z Z Z) ?_);refine mG (xL 103000 Z Z Z) (nx 1 Z ?_);exact oG
def oN:Option Bk :=some ([115,101,114,118,101,114,32,34,97,34,32,34,98,34,32,123,32,110,32,61,32,49,32,125,10]:Bk)
theorem uv (r:Bk)(h0:oN=some r):aK Tryz.prog 25 [] (·=.p (eS r)):=by
 unfold oN at h0;refine bV good Tryz.func25 Z Z Z λ w0=>mP (λ v:Bk=>.p (eS v)) ?_;exact nx 9 Z (mQ (oi h0) Z (sr))
def iC (n:Nat):Option Bool :=(oN).bind λ r1=>(jf n r1).bind λ r3=>(jf n ([97,32,61,32,49,32,98,32,61,32,50]:Bk)).bind λ r5=>(jf n ([120,32,123]:Bk)).bind λ r7=>(if r3.2.Ar=0/\r3.2.fAt=0/\r3.2.AT=([]:Bk) then if (r3.1.A'.length:Int)=1 then if (r3.1.By.length:Int)=0 then if r5.2.Ar=2/\r5.2.fAt=6/\r5.2.AT=([]:Bk) then some (!decide (r7.2.Ar=40/\r7.2.fAt=3/\r7.2.AT=([]:Bk)))else some true else some true else some true else some true : Option Bool).bind λ t13=>if t13=true then some false else ck ((0:Int)<=0/\0<(r3.1.A'.length:Int))<|(sG n ((lat r3.1.A' 0).J') ([110]:Bk)).bind λ Pq=>(if (lat r3.1.A' 0).M'=([115,101,114,118,101,114]:Bk) then if (((lat r3.1.A' 0).L').length:Int)=2 then ck ((0:Int)<=1/\1<(((lat r3.1.A' 0).L').length:Int))<|if lat ((lat r3.1.A' 0).L') 1=([98]:Bk) then if Pq.2=true then if Pq.1.fAt=17 then(rf n r3.1).bind λ TD=>if TD=0 then(p9 n r3.1 ([115,101,114,118,101,114]:Bk)).bind λ Q6=>if (Q6.length:Int)=1 then(oW n r3.1 [] ([([115,101,114,118,101,114]:Bk)])).bind λ R6=>some (decide ((R6.A'.length:Int)=0))else some false else some false else some false else some false else some false else some false else some false : Option Bool).bind λ t32=>some t32
theorem mx (n:Nat)(r:Bool)(h0:iC n=some r):aK Tryz.prog 9 [] (·=.p (eB r)):=by
 unfold iC at h0;refine bV good Tryz.func9 Z Z Z λ w0=>mP (λ v:Bool=>.p (eB v)) ?_;refine nx 6 Z (bd h0 λ r1 e2 h0=>?_);refine oK (uv  _ e2) Z trivial Tryz.call25 Z (bd h0 λ r3 e4 h0=>?_);refine oK (lf _ r1 _ e4) Z ⟨sr,trivial⟩ Tryz.call10 Z (nx 10 Z ?_);refine bd h0 λ r5 e6 h0=>oK (lf _ ([97,32,61,32,49,32,98,32,61,32,50]:Bk) _ e6) Z ⟨sr,trivial⟩ Tryz.call10 Z (nx 10 Z ?_);refine bd h0 λ r7 e8 h0=>oK (lf _ ([120,32,123]:Bk) _ e8) Z ⟨sr,trivial⟩ Tryz.call10 Z (nx 10 Z ?_);refine bd h0 λ S' h1 h0=>kN S' (λ Um=>⟨[(1,.ptr 1 0),(47,.p (eB Um))],[(1,(aH.cs r3.1).map .p)]⟩) ?_ ?_
 ·refine nx 1 Z (fB [47] h0 Z (λ Rv h0=>?_) λ Rv h0=>?_)
  ·exact ez
  refine nx 6 Z (oE h0 aB.F' Z Z Y λ Qo h0=>?_);refine nx 8 Z (bd h0 λ Pq Rh h0=>?_);refine oK (x8 _ ((lat r3.1.A' 0).J') ([110]:Bk) _ Rh) Z ⟨sr,sr,trivial⟩ Tryz.call16 Z (nx 8 Z ?_);refine bd h0 λ o37 h1 h0=>kN o37 (λ v38=>⟨[(0,.p (eB v38))],[]⟩) ?_ ?_
  ·exact iU
  refine nx 3 Z (oS Z Z ?_);refine nx 1 Z (fD [60,61] h1 Z (λ RY h1=>?_) λ RY h1=>?_)
  ·refine nx 2 Z (oLl (f:=eS) Z Z ?_);refine nx 3 Z (fD [65,66,67] h1 Z (λ QE h1=>?_) λ QE h1=>?_)
   ·refine nx 2 Z (oE h1 Y Z Z Y λ PO h1=>?_);refine nx 1 Z (oS Z Z ?_);refine nx 2 Z (fD [72,73,74] h1 Z (λ c21 h1=>?_) λ c21 h1=>?_)
    ·refine nx 3 Z (fB [9,57,75,76,77] h1 Z (λ Tu h1=>?_) λ Tu h1=>?_)
     ·refine nx 5 Z (fD [80,81,82] h1 Z (λ P3 h1=>?_) λ P3 h1=>?_)
      ·refine nx 1 Z (bd h1 λ TD e25 h1=>?_);refine oK (wP _ r3.1 _ e25) Z ⟨sr,trivial⟩ Tryz.call14 Z (nx 3 Z ?_);refine fD [85,86,87] h1 Z (λ SP h1=>?_) λ SP h1=>?_
       ·refine nx 1 Z (bd h1 λ Q6 Tm h1=>?_);refine oK (wH _ r3.1 ([115,101,114,118,101,114]:Bk) _ Tm) Z ⟨sr,sr,trivial⟩ Tryz.call20 Z (oLl (f:=aD) Z Z ?_);refine nx 3 Z (fD [91,92,93] h1 Z (λ SO h1=>?_) λ SO h1=>?_)
        ·refine nx 1 Z (mO Z (bz eS [([115,101,114,118,101,114]:Bk)] Z Z Z Z Z Z Z Z Z Z Z Z Z Z ?_));refine bd h1 λ R6 Ve h1=>oK (ut _ r3.1 [] ([([115,101,114,118,101,114]:Bk)]) _ Ve) Z ⟨sr,gm _,sr,trivial⟩ Tryz.call22 Z (nx 1 Z ?_);refine oLl (f:=aD) Z Z (nx 4 Z ?_);exact ip
        exact nx 9 Z ja
       exact nx 15 Z ja
      exact nx 20 Z ja
     exact nx 25 Z ja
    exact nx 28 Z ja
   exact nx 35 Z ja
  exact nx 41 Z ja
 refine nx 3 Z (mO Z (BI (r3.2.Ar=0/\r3.2.fAt=0/\r3.2.AT=([]:Bk)) Z Z Z Z Z Z Z (by kernel_rfl) Z Z (.inr ⟨Z,Z⟩) ?_));refine nx 1 Z (fN [25,26] h1 Z (λ c9 h1=>?_) λ c9 h1=>?_)
 ·refine nx 2 Z (oLl (f:=aD) Z Z ?_);refine nx 3 Z (fN [30,31,32] h1 Z (λ QF h1=>?_) λ QF h1=>?_)
  ·refine nx 2 Z (oLl (f:=ao) Z Z ?_);refine nx 3 Z (fN [36,37,38] h1 Z (λ Qq h1=>?_) λ Qq h1=>?_)
   ·refine nx 2 Z (mO Z (BI (r5.2.Ar=2/\r5.2.fAt=6/\r5.2.AT=([]:Bk)) Z Z Z Z Z Z Z (by kernel_rfl) Z Z (.inr ⟨Z,Z⟩) ?_));refine nx 2 Z (fN [41,42,43] h1 Z (λ RZ h1=>?_) λ RZ h1=>?_)
    ·refine nx 2 Z (mO Z (BI (r7.2.Ar=40/\r7.2.fAt=3/\r7.2.AT=([]:Bk)) Z Z Z Z Z Z Z (by kernel_rfl) Z Z (.inr ⟨Z,Z⟩) ?_));exact cZ
    exact fx
   exact rq
  exact vO
 exact nx 22 Z ja
end Go.Ab.R06
end
section
namespace Go.Ab.R06
open Go.Proofs Go.Ab Go.Ab.RB
variable {p:Prop}
theorem Bi (h:p:=by
  exact nx 7 Z (mQ (hR0 _ (hR1 _ (oi h2).symm).symm) Z (cb ⟨sr,sr,trivial⟩))):p:=h
attribute [local irreducible] awp fV aX aK aS AV.sub M cv
def ju (NN:Bk)(N3:Int)(name_2:Bk)(after_3:Int):Option Bool :=(if after_3<N3 then if N3<=(NN.length:Int) then ck (inR ((NN.length:Int)-N3))<|if (name_2.length:Int)<=(NN.length:Int)-N3 then ck (inR (N3+(name_2.length:Int)))<|ck ((0:Int)<=N3/\N3<=N3+(name_2.length:Int)/\N3+(name_2.length:Int)<=(NN.length:Int))<|some (decide (sub NN N3 (N3+(name_2.length:Int))=name_2))else some false else some false else some false : Option Bool).bind λ t7=>some t7
theorem o5 (NN:Bk)(N3:Int)(name_2:Bk)(after_3:Int)(r:Bool)(h0:ju NN N3 name_2 after_3=some r):aK Tryz.prog 45 [eS NN,eI N3,eS name_2,eI after_3] (·=.p (eB r)):=by
 unfold ju at h0;refine bV good Tryz.func45 Z Z Z λ w0=>mP (λ v:Bool=>.p (eB v)) ?_;refine nx 5 Z (bd h0 λ o9 h1 h0=>?_);refine kN o9 (λ Uw=>⟨[(8,.p (eB Uw))],[]⟩) ?_ ?_
 ·exact iU
 refine nx 5 Z (fD [11,12] h1 Z (λ c1 h1=>?_) λ c1 h1=>?_)
 ·refine nx 2 Z (oLs Z ?_);refine nx 3 Z (fD [16,17,18] h1 Z (λ c2 h1=>?_) λ c2 h1=>?_)
  ·refine nx 1 Z (oLs Z ?_);refine nx 1 Z (oA h1 Z Z λ QY h1=>?_);refine nx 1 Z (oLs Z ?_);refine nx 3 Z (fD [25,26,27] h1 Z (λ c4 h1=>?_) λ c4 h1=>?_)
   ·refine nx 4 Z (oLs Z ?_);refine oA h1 Z Z λ RP h1=>oP h1 Z Z Z λ hk6 h1=>nx 1 Z (oS Z Z ?_);exact y3
   exact Co
  exact A4
 exact nx 27 Z ja
def cS (Ph:Bk->aH->Int->Int->Option (Int×Bool))(NN:Bk)(NU:aH)(NV:Int):Nat->Int->Int->Int->Option (Int⊕(Int×Bool))|0,_,_,_=>none|m+1,last34,i35,k36=>(if i35<(NU.By.length:Int) then some true else some (decide (k36<(NU.A'.length:Int))) : Option Bool).bind λ t38=>if t38=true then jn ((if k36=(NU.A'.length:Int) then some true else if i35<(NU.By.length:Int) then ck ((0:Int)<=i35/\i35<(NU.By.length:Int))<|ck ((0:Int)<=k36/\k36<(NU.A'.length:Int))<|some (decide ((lat NU.By i35).fAt<(lat NU.A' k36).fAt))else some false : Option Bool).bind λ t44=>if t44=true then ck ((0:Int)<=i35/\i35<(NU.By.length:Int))<|ck ((0:Int)<=i35/\i35<(NU.By.length:Int))<|(ju NN ((lat NU.By i35).fAt) ((lat NU.By i35).AT) last34).bind λ QI=>if (!QI)=true then some (.inr (.inr (0,false)))else ck ((0:Int)<=i35/\i35<(NU.By.length:Int))<|ck (inR (i35+1))<|some (.inl ((lat NU.By i35).fAt,i35+1,k36))else ck ((0:Int)<=k36/\k36<(NU.A'.length:Int))<|((ju NN ((lat NU.A' k36).fAt) ((lat NU.A' k36).M') last34).bind λ Q4=>if (!Q4)=true then some true else some (decide (NV<=0)) : Option Bool).bind λ t57=>if t57=true then some (.inr (.inr (0,false)))else ck (inR (NV-1))<|(Ph NN ((lat NU.A' k36).J') ((lat NU.A' k36).fAt) (NV-1)).bind λ r60=>if (!r60.2)=true then some (.inr (.inr (0,false)))else ck (inR (k36+1))<|some (.inl (r60.1,i35,k36+1)) : Option ((Int×Int×Int)⊕(Int⊕(Int×Bool)))) λ QJ=>cS Ph NN NU NV m QJ.1 QJ.2.1 QJ.2.2 else some (.inl last34)
def eh:Nat->Bk->aH->Int->Int->Option (Int×Bool)|0,_,_,_,_=>none|n+1,NN,NU,after_2,NV=>jn (cS (eh n) NN NU NV n after_2 0 0) λ last70=>some (last70,true)
theorem sv (n:Nat):∀ (NN:Bk) (NU:aH) (after_2:Int) (NV:Int) (r:Int×Bool),eh n NN NU after_2 NV=some r->aK Tryz.prog 24 [eS NN,.agg (aH.cs NU),eI after_2,eI NV] (·=.tuple [.p (eI r.1),.p (eB r.2)]):=by
 induction n with
 | zero=>intro NN NU after_2 NV r h0; cases h0
 | succ n ih=>
 have PF:=ih;intro NN NU after_2 NV r h0;rw [eh] at h0;refine bV good Tryz.func24 Z Z Z λ w0=>mP (λ v:Int×Bool=>.tuple [.p (eI v.1),.p (eB v.2)]) ?_;refine nx 15 rfl ?_;obtain ⟨S9,h1,Ou,hR0⟩:=cw h0;refine kEx 0 (λ Ri:Int=>S9=.inl Ri) (λ Ri=>⟨[(10,.p (eI Ri))],[]⟩) (λ Ri hv=>?_) ?_
 ·have h0:=Ou _ hv;exact nx 8 Z sJ
 refine lG (λ (Qi:Int×Int×Int)=>⟨[(0,.p (eS NN)),(3,.p (eI NV)),(5,.ptr 5 0),(10,.p (eI Qi.1)),(11,.p (eI Qi.2.1)),(12,.p (eI Qi.2.2))],[(5,(aH.cs NU).map .p)]⟩) (λ m (Qi:Int×Int×Int)=>cS (eh n) NN NU NV m Qi.1 Qi.2.1 Qi.2.2) Y (after_2,0,0) h1 (gE rfl rfl) ?_;rintro m ⟨last34,i35,k36⟩ h1;replace h1:cS (eh n) NN NU NV (m+1) last34 i35 k36=some S9:=h1;rw [cS] at h1;refine nx 2 rfl (bd h1 λ o79 h2 h1=>?_);refine kN o79 (λ v80=>⟨[(0,.p (eS NN)),(3,.p (eI NV)),(5,.ptr 5 0),(10,.p (eI last34)),(11,.p (eI i35)),(12,.p (eI k36)),(28,.p (eB v80))],[(5,(aH.cs NU).map .p)]⟩) ?_ ?_
 ·refine nx 1 Z (fB [28] h1 Z (λ SN h1=>?_) λ SN h1=>?_)
  ·refine nx 2 rfl ?_;obtain ⟨o81,h2,hL1,hR1⟩:=cw h1;refine kX (λ RE:Int×Int×Int=>o81=.inl RE) (λ RE=>⟨[(0,.p (eS NN)),(3,.p (eI NV)),(5,.ptr 5 0),(10,.p (eI RE.1)),(11,.p (eI RE.2.1)),(12,.p (eI RE.2.2))],[(5,(aH.cs NU).map .p)]⟩) (λ RE hv=>?_) ?_
   ·have h1:=hL1 _ hv;exact nx 1 Z (eX (RE.1,RE.2.1,RE.2.2) h1 (gE Z Z))
   refine nx 3 Z (bd h2 λ o83 h3 h2=>?_);refine kN o83 (λ R4=>⟨[(0,.p (eS NN)),(3,.p (eI NV)),(5,.ptr 5 0),(10,.p (eI last34)),(11,.p (eI i35)),(12,.p (eI k36)),(55,.p (eB R4))],[(5,(aH.cs NU).map .p)]⟩) ?_ ?_
   ·refine nx 1 Z (fB [55] h2 Z (λ Vl h2=>?_) λ Vl h2=>?_)
    ·refine nx 3 Z (cc' h2 λ SF h2=>?_);refine cc' h2 λ RQ h2=>bd h2 λ QI Ud h2=>mD [(0,.p (eS NN)),(3,.p (eI NV)),(5,.ptr 5 0),(10,.p (eI last34)),(11,.p (eI i35)),(12,.p (eI k36))] Z ⟨Z,Z,Z,Z,Z,Z,trivial⟩ Z (dR 4 Z ?_);refine dq (.rptr (al.cs (lat NU.By i35))) [58,59] Z (λ _ e _ q=>ah Z (nV (f:=ao) (l:=NU.By) al.cs Z Z Z Z Z Z (e _ _ Z) Z (e _ _ Z) SF al.F' Y q)) Z (dR 5 Z ?_);refine dq (.rptr (al.cs (lat NU.By i35))) [64,65] Z (λ _ e _ q=>ah Z (nV (f:=ao) (l:=NU.By) al.cs Z Z Z Z Z Z (e _ _ Z) Z (e _ _ Z) RQ al.F' Y q)) Z (dR 3 Z ?_);refine dq (.p (eB QI)) [56,62,68,69] Z (λ _ e _ q=>ah Z (cF (o5 NN ((lat NU.By i35).fAt) ((lat NU.By i35).AT) last34 _ Ud) Z Z Z (aQ (e _ _ Z) (aQ (e _ _ Z) (aQ (e _ _ Z) (aQ (e _ _ Z) bU)))) ⟨sr,sr,sr,sr,trivial⟩ Tryz.call45 Z q)) Z (dR 1 Z ?_);refine dE Z (nx 1 Z ?_);refine fB [71] h2 Z (λ Ui h2=>?_) λ Ui h2=>?_
     ·exact Bi
     refine nx 7 Z (oE h2 al.F' Z Z Y λ T0 h2=>?_);refine nx 7 Z (oA h2 Z Z λ TZ h2=>?_);exact nO
    refine nx 7 Z (oE h2 aB.F' Z Z Y λ SD h2=>?_);refine nx 6 Z (bd h2 λ o85 h3 h2=>?_);refine kN o85 (λ R3=>⟨[(0,.p (eS NN)),(3,.p (eI NV)),(5,.ptr 5 0),(11,.p (eI i35)),(12,.p (eI k36)),(13,.ptr 13 0),(96,.p (eB R3))],[(5,(aH.cs NU).map .p),(13,(aB.cs (lat NU.A' k36)).map .p)]⟩) ?_ ?_
    ·refine nx 1 Z (fB [96] h2 Z (λ c58 h2=>?_) λ c58 h2=>?_)
     ·exact Bi
     refine nx 10 Z (oA h2 Z Z λ Tb h2=>?_);refine bd h2 λ r60 e61 h2=>oK (PF NN ((lat NU.A' k36).J') ((lat NU.A' k36).fAt) (NV-1) _ e61) Z ⟨sr,sr,sr,sr,trivial⟩ Tryz.call24 Z (nx 12 Z ?_);refine fB [109] h2 Z (λ c62 h2=>?_) λ c62 h2=>?_
     ·exact Bi
     refine nx 9 Z (oA h2 Z Z λ hk63 h2=>?_);exact fS
    refine nx 7 Z (bd h3 λ Q4 U9 h3=>?_);refine oK (o5 NN ((lat NU.A' k36).fAt) ((lat NU.A' k36).M') last34 _ U9) Z ⟨sr,sr,sr,sr,trivial⟩ Tryz.call45 Z (nx 2 Z ?_);refine fB [92,93] h3 Z (λ Vj h3=>?_) λ Vj h3=>?_
    ·exact pX
    exact pX
   refine fD (p:=k36=(NU.A'.length:Int)) [] h3 Z (λ RD h3=>?_) λ RD h3=>?_
   ·refine mD [(0,.p (eS NN)),(3,.p (eI NV)),(5,.ptr 5 0),(10,.p (eI last34)),(11,.p (eI i35)),(12,.p (eI k36))] Z ⟨Z,Z,Z,Z,Z,Z,trivial⟩ Z (dR 3 Z ?_);refine dq (.p (eI (NU.A'.length:Int))) [31] Z (λ _ e _ q=>ah Z (jN (f:=aD) (l:=NU.A') Z Z Z Z Z (e _ _ Z) Z q)) Z (dL (dt RD) Z ?_);refine dR 22 Z (dE Z ?_);exact Bc
   refine fD (p:=i35<(NU.By.length:Int)) [] h3 Z (λ Vn h3=>?_) λ Vn h3=>?_
   ·refine cc' h3 λ Td h3=>cc' h3 λ T2 h3=>mD [(0,.p (eS NN)),(3,.p (eI NV)),(5,.ptr 5 0),(10,.p (eI last34)),(11,.p (eI i35)),(12,.p (eI k36))] Z ⟨Z,Z,Z,Z,Z,Z,trivial⟩ Z (dR 3 Z ?_);refine dq (.p (eI (NU.A'.length:Int))) [31] Z (λ _ e _ q=>ah Z (jN (f:=aD) (l:=NU.A') Z Z Z Z Z (e _ _ Z) Z q)) Z (dL (df RD) Z ?_);refine dR 4 Z (dq (.p (eI (NU.By.length:Int))) [34,37] Z (λ _ e _ q=>fE (jN (f:=ao) (l:=NU.By) Z Z Z Z Z (e _ _ Z) Z q) Z Z (e _ _ Z) (rfl)) Z ?_);refine dL (dt Vn) Z (dR 4 Z ?_);refine dq (.rptr (al.cs (lat NU.By i35))) [40,42,43] Z (λ _ e _ q=>fE (nV (f:=ao) (l:=NU.By) al.cs Z Z Z Z Z Z (e _ _ Z) Z (e _ _ Z) Td al.F' Y q) Z Z (e _ _ Z) (rfl)) Z (dR 5 Z ?_);refine dq (.rptr (aB.cs (lat NU.A' k36))) [40,48,49] Z (λ _ e _ q=>fE (nV (f:=aD) (l:=NU.A') aB.cs Z Z Z Z Z Z (e _ _ Z) Z (e _ _ Z) T2 aB.F' Y q) Z Z (e _ _ Z) (rfl)) Z (dR 5 Z ?_);exact yE
   refine mD [(0,.p (eS NN)),(3,.p (eI NV)),(5,.ptr 5 0),(10,.p (eI last34)),(11,.p (eI i35)),(12,.p (eI k36))] Z ⟨Z,Z,Z,Z,Z,Z,trivial⟩ Z (dR 3 Z ?_);refine dq (.p (eI (NU.A'.length:Int))) [31] Z (λ _ e _ q=>ah Z (jN (f:=aD) (l:=NU.A') Z Z Z Z Z (e _ _ Z) Z q)) Z (dL (df RD) Z ?_);refine dR 4 Z (dq (.p (eI (NU.By.length:Int))) [34,37] Z (λ _ e _ q=>fE (jN (f:=ao) (l:=NU.By) Z Z Z Z Z (e _ _ Z) Z q) Z Z (e _ _ Z) (rfl)) Z ?_);refine dL (df Vn) Z (dR 16 Z ?_);exact yE
  exact cH
 refine nx 4 Z (oLl (f:=ao) Z Z ?_);refine nx 2 Z (fD [21,22] h2 Z (λ c37 h2=>?_) λ c37 h2=>?_)
 ·exact yk
 refine nx 3 Z (oLl (f:=aD) Z Z ?_);exact nO
def iZ (n:Nat)(NN:Bk):Option Bool :=if 2000<(NN.length:Int) then(iC n).bind λ r2=>some r2 else(jf n NN).bind λ r4=>if r4.2.Ar=0 then(eh n NN r4.1 (-1) 40).bind λ r9=>(if r9.2=true then(iC n).bind λ Ov=>some Ov else some false : Option Bool).bind λ Qv=>some Qv else(iC n).bind λ r7=>some r7
theorem pA (n:Nat)(NN:Bk)(r:Bool)(h0:iZ n NN=some r):aK Tryz.prog 8 [eS NN] (·=.p (eB r)):=by
 unfold iZ at h0;refine bV good Tryz.func8 Z Z Z λ w0=>mP (λ v:Bool=>.p (eB v)) ?_;refine nx 8 Z (oLs Z ?_);refine nx 2 Z (fD [9] h0 Z (λ c1 h0=>?_) λ c1 h0=>?_)
 ·refine nx 3 Z (bd h0 λ r2 e3 h0=>?_);refine oK (mx _  _ e3) Z trivial Tryz.call9 Z (nx 3 Z ?_);exact oG
 refine nx 5 Z (bd h0 λ r4 e5 h0=>?_);refine oK (lf _ NN _ e5) Z ⟨sr,trivial⟩ Tryz.call10 Z (nx 15 Z ?_);refine fN [18] h0 Z (λ c6 h0=>?_) λ c6 h0=>?_
 ·refine nx 6 Z (bd h0 λ r9 Qp h0=>?_);refine oK (sv _ NN r4.1 (-1) 40 _ Qp) Z ⟨sr,sr,sr,sr,trivial⟩ Tryz.call24 Z (nx 7 Z ?_);refine bd h0 λ o16 h1 h0=>kN o16 (λ SV=>⟨[(2,.p (eB SV))],[]⟩) ?_ ?_
  ·exact iU
  refine nx 3 Z (fB [6,25,26,27] h1 Z (λ Qq h1=>?_) λ Qq h1=>?_)
  ·refine bd h1 λ Ov Q0 h1=>oK (mx _  _ Q0) Z trivial Tryz.call9 Z (nx 3 Z ?_);exact ip
  exact i8
 refine nx 3 Z (bd h0 λ r7 e8 h0=>?_);refine oK (mx _  _ e8) Z trivial Tryz.call9 Z (nx 3 Z ?_);exact oG
end Go.Ab.R06
end
section
namespace Go.Ab.R06
open Go.Ab Go.Ab.RB Go.Lib
def G7 (s:Bk)(a:Int)(nm:Bk):Prop:=0<=a/\a+(nm.length:Int)<=(s.length:Int)/\sub s a (a+(nm.length:Int))=nm
def Ss (s:Bk):Int->List ac->Prop|_,[]=>True|lo,t::r=>lo<t.fAt/\t.fAt<=(s.length:Int)/\t.BY.length<=s.length/\(t.Ar=1->G7 s t.fAt t.BY)/\Ss s t.fAt r
theorem M2 {s:Bk}:∀ {l:List ac} {lo lo':Int},Ss s lo l->lo'<=lo->Ss s lo' l
 | [],_,_,_,_=>trivial
 | _::_,_,_,h,h'=>⟨by have:=h.1; omega,h.2⟩
theorem rc {s:Bk}:∀ {l l':List ac} {lo:Int},Ss s lo l->l' <:+ l->Ss s lo l'
 | [],l',lo,h,h'=>by rw [List.suffix_nil.1 h']; trivial
 | t::r,l',lo,h,h'=>by
  rcases List.suffix_cons_iff.1 h' with rfl|h'
  ·exact h
  ·exact M2 (rc h.2.2.2.2 h') (by have:=h.1; omega)
theorem Dm (s:Bk):∀ (f c:Nat) (l:Bk) (ts:List Tk) (lo:Int),l <:+ s->lo<(s.length:Int)-(l.length:Int)->jw f c l=.inr ts->Ss s lo (ts.map (tkS s))
 | 0,c,l,ts,lo,_,_,h=>by rw [jw] at h; cases h
 | f+1,c,l,ts,lo,hl,hlo,h=>by
  rw [mJ] at h;have hk:=se true l;have hks:=(qi true l).trans hl;have hll:=hl.length_le
  cases hsk:hQ true l with
  | nil=>
   rw [hsk,nT] at h;split at h
   ·cases h
   ·cases h
    refine ⟨?_,?_,qr _,λ h=>absurd (show (6:Int)=1 from h) (by decide),trivial⟩
    ·show lo<(s.length:Int)-((0:Nat):Int); omega
    ·show (s.length:Int)-((0:Nat):Int)<=_; omega
  | cons b r=>
   rw [hsk] at hk hks;rw [hsk,mF] at h;split at h
   ·cases h
   split at h
   ·cases h
   cases ht:ll (hZ f 0) (b::r) with
   | inl e=>rw [ht] at h; cases h
   | inr z=>
    obtain ⟨k,t,l'⟩:=z;rw [ht,n0] at h;obtain ⟨b1,b2,b3,b4⟩:=DY (λ x y hxy=>((jr f 0).1 x y hxy).2) ht;have b5:=mU (λ x y _ hxy=>(jr f 0).1 x y hxy) ht
    cases hs:jw f (c+1) l' with
    | inl e=>rw [hs] at h; cases h
    | inr ts'=>
     rw [hs] at h; cases h;have hn:=hks.length_le;refine ⟨?_,?_,by show t.length<=_; omega,λ h1=>?_,Dm s f (c+1) l' ts' _ (b5.1.trans hks) (by show (s.length:Int)-((b::r).length:Int)<_; omega) hs⟩
     ·show lo<(s.length:Int)-((b::r).length:Int); omega
     ·show (s.length:Int)-((b::r).length:Int)<=_; omega
     ·have h1:k=1:=h1;subst h1
      have hp:t <+: (b::r):=by
       rw [kP] at ht;split at ht
       ·split at ht
        ·cases ht
        ·cases ht; exact List.takeWhile_prefix _
       split at ht
       ·cases ht
       split at ht
       ·cases ht
       split at ht
       ·split at ht
        ·cases ht
        ·cases ht
       split at ht
       ·cases ht
       ·cases ht
      obtain ⟨w,hw⟩:=hks;obtain ⟨x,hx⟩:=hp
      have e1:((s.length:Int)-((b::r).length:Int))=((w.length:Nat):Int):=by
       rw [<- hw,la]; omega
      show G7 s ((s.length:Int)-((b::r).length:Int)) t;rw [e1];refine ⟨by omega,by rw [<- hw,la]; omega,?_⟩;rw [<- Int.natCast_add,sf,<- hw,<- hx,List.drop_take,Nat.add_sub_cancel_left];simp
theorem v6 {s:Bk}(hs:s.length<=2000)(h:(fg s).2.Ar=0):Gl (fg s).1/\Ss s (-1) (fg s).1:=by
 have g:=uC (a:=0) O O  h;rw [HN] at g;refine ⟨g,?_⟩;have e:fg s=Fz s [] (jw (s.length+1) 0 s):=by unfold fg; rw [if_neg O]
 cases hq:jw (s.length+1) 0 s with
 | inl x=>rw [e,hq] at h; exact absurd h (yg _ _ _ _ hq)
 | inr ts=>
  rw [e,hq];show Ss s (-1) ([]++ts.map (tkS s));rw [List.nil_append];exact Dm s _ _ s ts (-1) (List.suffix_refl _) O hq
theorem LA {s:Bk}(hs:s.length<=2000):∀ {l:List ac} {lo:Int},Ss s lo l->Tx l
 | [],_,_,_,ht=>by cases ht
 | t::r,lo,h,u,hu=>by
  rcases wr.1 hu with rfl|hu
  ·have:=h.2.2.1; omega
  ·exact LA hs h.2.2.2.2 u hu
inductive ns (s:Bk):Int->Int->Int->List al->List aB->Prop
 | nil {lo hi v:Int} (h:lo<hi):ns s lo hi v [] []
 | att {lo hi v:Int} {a:al} {aa:List al} {bb:List aB} (h:lo<a.fAt) (st:G7 s a.fAt a.AT) (r:ns s a.fAt hi v aa bb):ns s lo hi v (a::aa) bb
 | blk {lo mi hi v:Int} {b:aB} {aa:List al} {bb:List aB} (h:lo<b.fAt) (st:G7 s b.fAt b.M') (hv:0<v) (i:ns s b.fAt mi (v-1) b.J'.By b.J'.A') (r:ns s mi hi v aa bb):ns s lo hi v aa (b::bb)
theorem uF {s:Bk}{lo hi v:Int}{aa:List al}{bb:List aB}(h:ns s lo hi v aa bb):lo+(aa.length:Int)+(bb.length:Int)<hi:=by
 induction h with
 | nil h=>simp only [n7]; omega
 | att h st r ih=>simp only [cl]; omega
 | blk h st hv i r ih1 ih2=>simp only [cl]; omega
theorem J1 {s:Bk}{lo hi v:Int}{aa:List al}{bb:List aB}(h:ns s lo hi v aa bb):(∀ a∈aa.head?,lo<a.fAt)/\(∀ b∈bb.head?,lo<b.fAt):=by
 induction h with
 | nil h=>exact ⟨λ a h=>(by cases h),λ a h=>(by cases h)⟩
 | att h st r ih=>exact ⟨λ a ha=>by cases ha; exact h,λ b hb=>by have:=ih.2 b hb; omega⟩
 | blk h st hv i r ih1 ih2=>exact ⟨λ a ha=>by have:=ih2.1 a ha; have:=uF i; omega,λ b hb=>by cases hb; exact h⟩
theorem xa {s:Bk}{a:Int}{nm:Bk}{z:Int}(h:G7 s a nm)(hz:z<a)(hs:s.length<=2000):Ev2 (λ _ _=>ju s a nm z) (·=true):=by
 obtain ⟨h1,h2,h3⟩:=h;simp only [ju];refine aC true (ay hz (ay O (aE bO (ay O (aE bO (aE O (ae (by rw [h3]; simp)))))))) (ae rfl)
theorem Ez {α:Type} [Inhabited α] (A:List α)(x:α)(l:List α):lat (A++x::l) (A.length:Int)=x:=by
 rw [zl,List.getD_eq_getElem?_getD,List.getElem?_append_right (bt _)]; simp
theorem L8 {s:Bk}(hs:s.length<=2000){lo hi v:Int}{aa:List al}{bb:List aB}(h:ns s lo hi v aa bb):-1<=lo->hi<=1000000->v<=1000000->∀ (A0:List al) (B0:List aB) (last:Int),last<=lo->(A0.length:Int)+(B0.length:Int)<=lo+1 ->
  Ev2 (λ n m=>cS (eh n) s (aH.mk (A0++aa) (B0++bb)) v m last (A0.length:Int) (B0.length:Int)) (λ q=>∃ x,q=.inl x/\x<hi):=by
 induction h with
 | nil h=>
  intro h1 h2 h3 A0 B0 last hl NK;refine bc ?_;simp only [cS,List.append_nil,aH.By,aH.A'];exact aC false (ax O (ae G)) (ax (by decide) (ae ⟨_,rfl,by omega⟩))
 | @att lo hi v a aa bb h st r ih=>
  intro h1 h2 h3 A0 B0 last hl NK;have hn:=uF r;have hh:=(J1 r).2;refine bc ?_;simp only [cS,aH.By,aH.A'];have hA:(A0.length:Int)<((A0++a::aa).length:Int):=by simp only [la,cl]; omega
  refine aC true (ay hA (ae Z)) (ay Z (ik (a.fAt,(A0.length:Int)+1,(B0.length:Int)) ?_ ?_))
  ·refine aC true ?_ (ay Z ?_)
   ·refine aR (λ _=>ae Z) (λ hb=>ay hA (aE O ?_))
    cases bb with
    | nil=>exact absurd (by rw [List.append_nil]) hb
    | cons b bb=>
     refine aE (by simp only [la,cl]; omega) (ae ?_);exact decide_eq_true (show (lat (A0++a::aa) (A0.length:Int)).fAt<(lat (B0++b::bb) (B0.length:Int)).fAt by rw [Ez,Ez]; exact hh b Z)
   ·refine aE O (aE O ?_);rw [Ez];exact aC _ (xa st O hs) (ax (by decide) (aE O pU))
  ·have:=ih O h2 h3 (A0++[a]) B0 a.fAt (Int.le_refl _) Cj;simpa using this
 | @blk lo mi hi v b aa bb h st hv i r ih1 ih2=>
  intro h1 h2 h3 A0 B0 last hl NK;have hn:=uF r;have hm:=uF i;have hh:=(J1 r).1;refine bc ?_;simp only [cS,aH.By,aH.A'];have hB:(B0.length:Int)<((B0++b::bb).length:Int):=by simp only [la,cl]; omega
  refine aC true (aR (λ _=>ae Z) (λ _=>ae (decide_eq_true hB))) (ay Z (dH (bZ (P:=λ q=>∃ x,q=.inl (x,(A0.length:Int),(B0.length:Int)+1)/\x<mi) ?_ ?_)))
  ·refine aC false ?_ (ax (by decide) ?_)
   ·refine ax O (aR (λ hA=>aE O (aE O (ae ?_))) (λ _=>ae Z))
    cases aa with
    | nil=>exact absurd hA G
    | cons a aa=>
     exact decide_eq_false (show ¬ (lat (A0++a::aa) (A0.length:Int)).fAt<(lat (B0++b::bb) (B0.length:Int)).fAt by rw [Ez,Ez]; have:=hh a rfl; omega)
   ·refine aE O ?_;rw [Ez];refine aC false (aC _ (xa st O hs) (ax (by decide) (ae (decide_eq_false O)))) (ax (by decide) (aE bO ?_));refine am (λ z=>z.2=true/\z.1<mi) ?_ (λ z hz=>ax (by rw [hz.1]; decide) (aE bO (ae ⟨_,rfl,hz.2⟩)));refine cz ?_;simp only [eh];have hi:=ih1 (by have:=st.1; omega) O O  [] [] b.fAt (Int.le_refl _) (by have:=st.1; simp only [n7]; omega);have eb:aH.mk ([]++b.J'.By) ([]++b.J'.A')=b.J':=by cases b.J'; rfl
    rw [eb] at hi;refine dH (bZ (cp (f:=λ n m=>cS (eh n) s b.J' (v-1) m b.fAt 0 0) hi) ?_);rintro _ ⟨x,rfl,hx⟩;exact ae ⟨rfl,hx⟩
  ·rintro _ ⟨x,rfl,hx⟩;have:=ih2 (by have:=st.1; omega) h2 h3 A0 (B0++[b]) x O Cj;simpa using this
theorem Dr:∀ (l:List ac) (out:List Bk) (ls:List Bk) (l':List ac),yt l out=.inr (ls,l')->l' <:+ l/\(Gd l->Gd l')
 | [],out,ls,l',h=>by rw [yt] at h; cases h; exact ⟨List.suffix_refl _,id⟩
 | t::r,out,ls,l',h=>by
  rw [yt] at h;split at h
  ·rename_i h3;split at h
   ·cases h
   split at h
   ·split at h
    ·cases h
    ·obtain ⟨i1,i2⟩:=Dr r _ ls l' h;exact ⟨i1.trans (List.suffix_cons _ _),λ g=>i2 (qu g O)⟩
   ·cases h
  ·cases h; exact ⟨List.suffix_refl _,id⟩
theorem pB {l l':List ac}(g:Gl l)(h:l' <:+ l)(g':Gd l'):Gl l':=⟨g',Nat.le_trans h.length_le g.2⟩
theorem sg4 {l:List ac}{s:Bk}(h:sgB false l s=true):(hd false l).Ar=4:=(qj.1 h).1
theorem DK (s:Bk):∀ (f d:Nat) (l:List ac) (aa:List al) (bb:List aB) (b:aH) (l':List ac),lI f d l aa bb=.inr (b,l')->Gl l->∀ lo,Ss s lo l ->
  ∃ aa' bb',b=aH.mk (aa++aa') (bb++bb')/\ns s lo (hd false l').fAt (40-(d:Int)) aa' bb'/\l' <:+ l/\Gd l'
 | 0,d,l,aa,bb,b,l',h,g,lo,hs=>by rw [lI] at h; cases h
 | f+1,d,l,aa,bb,b,l',h,g,lo,hs=>by
  have ih:=DK s f;obtain ⟨t,r,rfl⟩:=lP g.1;rw [lI,hdf] at h;split at h
  rotate_left
  ·cases h
   exact ⟨[],[],by simp,.nil hs.1,List.suffix_refl _,g.1⟩
  rename_i hk;have gr:Gl r:=pB g (List.suffix_cons _ _) (qu g.1 O);have st:=hs.2.2.2.1 hk
  have rest:∀ (a1:List al) (b1:List aB) (l1:List ac) (z:Int),Gl l1->l1 <:+ r->Ss s z l1->(if (hd false l1).Ar=5 then lI f d (nf true l1) a1 b1 else .inr (aH.mk a1 b1,l1))=.inr (b,l') ->
    ∃ aa' bb',b=aH.mk (a1++aa') (b1++bb')/\ns s z (hd false l').fAt (40-(d:Int)) aa' bb'/\l' <:+ t::r/\Gd l':=by
   intro a1 b1 l1 z g1 s1 hz hq;have hsn:nf true l1 <:+ l1:=List.dropWhile_suffix _;split at hq
   ·obtain ⟨aa',bb',q1,q2,q3,q4⟩:=ih d (nf true l1) a1 b1 b l' hq (pB g1 hsn (pt g1.1)) z (rc hz hsn);exact ⟨aa',bb',q1,q2,((q3.trans hsn).trans s1).trans (List.suffix_cons _ _),q4⟩
   ·cases hq
    obtain ⟨u,w,rfl⟩:=lP g1.1;exact ⟨[],[],by simp,.nil hz.1,s1.trans (List.suffix_cons _ _),g1.1⟩
  cases hq:CC (λ x=>lI f (d+1) x [] []) d (t::r) aa bb with
  | inl e=>rw [hq] at h; cases h
  | inr y=>
   obtain ⟨b1,l1⟩:=y;rw [hq] at h;have h:(if (hd false l1).Ar=5 then lI f d (nf true l1) b1.By b1.A' else .inr (b1,l1))=.inr (b,l'):=h;unfold CC at hq;rw [tlf,hdf] at hq;split at hq
   ·rename_i he;obtain ⟨u,w,rfl⟩:=lP gr.1;have h4:=sg4 he;rw [hdf] at h4;rw [tlf] at hq;have gw:Gl w:=pB gr (List.suffix_cons _ _) (qu gr.1 O);unfold atQ at hq;split at hq
    ·cases hq
    ·rename_i a l2 ha
     injection hq with hq; injection hq with q1 q2
     subst q1; subst q2;split at ha
     ·cases ha
     split at ha
     ·cases ha
     ·rename_i x k hx
      cases ha
      have hlt:=FY gw hx;have hsf:w.drop k <:+ u::w:=(List.drop_suffix _ _).trans (List.suffix_cons _ _);obtain ⟨aa',bb',q1,q2,q3,q4⟩:=rest _ _ _ t.fAt (yl gw hlt) hsf (rc hs.2.2.2.2 hsf) h;exact ⟨_::aa',bb',by rw [q1]; show aH.mk ((aa++[_])++aa') (bb++bb')=_; rw [List.append_assoc]; rfl,.att hs.1 st q2,q3,q4⟩
   ·split at hq
    ·cases hq
    ·rename_i k l2 hb
     injection hq with hq; injection hq with q1 q2
     subst q1; subst q2;unfold JK at hb;split at hb
     ·cases hb
     rename_i ls l3 hl;obtain ⟨c1,c2⟩:=Dr _ _ _ _ hl;have g3:Gl l3:=pB gr c1 (c2 gr.1);split at hb
     rotate_left
     ·cases hb
     rename_i he;split at hb
     ·cases hb
     rename_i hd32;obtain ⟨u,w,rfl⟩:=lP g3.1;have h4:=sg4 he;rw [hdf] at h4;rw [tlf] at hb;have gw:Gl w:=pB g3 (List.suffix_cons _ _) (qu g3.1 O);split at hb
     ·cases hb
     rename_i b2 l4 hi;split at hb
     rotate_left
     ·cases hb
     rename_i he2
     cases hb
     have hsn:nf true w <:+ w:=List.dropWhile_suffix _;have hsw:nf true w <:+ r:=(hsn.trans (List.suffix_cons _ _)).trans c1;obtain ⟨aa1,bb1,q1,q2,q3,q4⟩:=ih (d+1) (nf true w) [] [] b2 l4 hi (pB gw hsn (pt gw.1)) t.fAt (rc hs.2.2.2.2 hsw);obtain ⟨v,x,rfl⟩:=lP q4;have h5:=sg4 he2;rw [hdf] at h5;have hsx:=q3.trans hsw;have hz:=rc hs.2.2.2.2 hsx;have gx:Gd x:=qu q4 O;have hxr:x <:+ r:=(List.suffix_cons _ _).trans hsx;obtain ⟨aa',bb',p1,p2,p3,p4⟩:=rest _ _ x v.fAt (pB gr hxr gx) hxr hz.2.2.2.2 h;refine ⟨aa',aB.mk t.BY ls b2 t.fAt::bb',by rw [p1]; show aH.mk (aa++aa') ((bb++[_])++bb')=_; rw [List.append_assoc]; rfl,.blk hs.1 st O ?_ p2,p3,p4⟩;show ns s t.fAt v.fAt (40-(d:Int)-1) b2.By b2.A';rw [q1,show 40-(d:Int)-1=40-((d+1:Nat):Int) by omega];exact q2
theorem JR {s:Bk}(hs:s.length<=2000):∃ hi,hi<=1000000/\ns s (-1) hi 40 (qS s).1.By (qS s).1.A':=by
 have nil:∃ hi,hi<=1000000/\ns s (-1) hi 40 [] []:=⟨0,by omega,.nil O⟩
 unfold qS;split
 ·rename_i hk;obtain ⟨g,h⟩:=v6 hs hk;generalize (fg s).1=L at g h;unfold Ih;split
  ·exact nil
  ·rename_i b l hq;split
   ·have hsn:nf true L <:+ L:=List.dropWhile_suffix _;obtain ⟨aa',bb',q1,q2,q3,q4⟩:=DK s _ 0 _ [] [] b l hq (pB g hsn (pt g.1)) (-1) (rc h hsn);obtain ⟨t,r,rfl⟩:=lP q4;refine ⟨t.fAt,by have:=(rc h (q3.trans hsn)).2.1; omega,?_⟩;rw [q1];exact q2
   ·exact nil
 ·exact nil
theorem yI (s:Bk)(haw:Ev2 (λ n _=>iC n) (·=true)):Ev2 (λ n _=>iZ n s) (·=true):=by
 simp only [iZ];refine aR (λ _=>am _ haw (λ t ht=>ae ht)) (λ h=>?_);have hs:s.length<=2000:=by omega
 refine aC _ (J8 (λ hk=>⟨(v6 hs hk).1,LA hs (v6 hs hk).2⟩)) (aR (λ _=>?_) (λ _=>am _ haw (λ t ht=>ae ht)));obtain ⟨hi,h1,h2⟩:=JR hs;refine am (λ z=>z.2=true) ?_ (λ z hz=>am (·=true) (ay hz (am _ haw (λ t ht=>ae ht))) (λ t ht=>ae ht));refine cz ?_;simp only [eh];have hi':=L8 hs h2 O h1 O [] [] (-1) (Int.le_refl _) (by simp only [n7]; omega);have eb:aH.mk ([]++(qS s).1.By) ([]++(qS s).1.A')=(qS s).1:=by cases (qS s).1; rfl
 rw [eb] at hi';refine dH (bZ (cp (f:=λ n m=>cS (eh n) s (qS s).1 40 m (-1) 0 0) hi') ?_);rintro _ ⟨x,rfl,hx⟩;exact ae rfl
end Go.Ab.R06
end
section
namespace Go.Ab.R06
open Go.Ab
theorem Af (m:Nat):iC (m+60)=some true:=by kernel_rfl
theorem AY:Ev2 (λ n _=>iC n) (·=true):=⟨true,Z,60,λ n _ hn _=>by
  obtain ⟨m,rfl⟩:∃ m,n=m+60:=⟨n-60,by omega⟩
  exact Af m⟩
end Go.Ab.R06
end
