/- Texts of the proof, one behind the other. No statement is proved here. -/
import Derived.Test.YtihghalcmfpnaaaGreatDoorZ14Da
import Derived.Test.YtihghalcmfpnaaaGreatDoorZ14Db
import Derived.Test.YtihghalcmfpnaaaGreatDoorZ14Dc
import Derived.Test.YtihghalcmfpnaaaGreatDoorZ14Dd
set_option maxHeartbeats 4000000
section
namespace Go.Ab.R06
open Go.Ab Go.Ab.RB Go.Lib
variable {p:Prop}
theorem BG (h:p:=by
 exact ae (by rw [hx.1]; rfl) (aa ⟨Z,hx.2⟩)):p:=h
theorem GT (h:p:=by
 congr 1
 cases i7 f (out.length+1) l' with
 | inl e=>rfl
 | inr ts=>
  show (_,_)=(_,_)
  rw [List.append_assoc]; rfl):p:=h
theorem CS (h:p:=by
 rw [<- show pz s r=pz s (b::r)+1 from kB]; rfl):p:=h
theorem Db (h:p:=by exact bv (by show _<=pz s (b::r)+1; omega) (by show pz s (b::r)+1<=_; omega)):p:=h
theorem G0 (h:p:=by exact ai _ (ax (yC _ _ _ _ _ _) Z) (aa ⟨Z,Z⟩)):p:=h
theorem QJ (h:p:=by show pz s (b::r)+1<=_; omega):p:=h
theorem BL (h:p:=by exact ax (yC _ _ _ _ _ _) Z):p:=h
abbrev SE:=Int×Option Nat
def ix (src:Bk->SE⊕Bk):Bk->SE⊕(Int×Bk×Bk)
 | []=>.inl (2,some 0)
 | b::r=>if gR b=true then (if 64<((b::r).takeWhile idB).length then .inl (7,some (b::r).length) else .inr (1,(b::r).takeWhile idB,(b::r).dropWhile idB))
  else if cz b=true then .inr (2,(b::r).takeWhile cz,(b::r).dropWhile cz)
  else if b.toNat=10 then .inr (5,[10],r)
  else if b.toNat=34 then (match src r with|.inl e=>.inl e|.inr r'=>.inr (3,r.take (r.length-r'.length-1),r'))
  else if eg (b::r)=[] then .inl (2,some (b::r).length) else .inr (4,eg (b::r),(b::r).drop (eg (b::r)).length)
mutual
def dz:Nat->Nat->Bk->SE⊕Bk
 | 0,_,_=>.inl (40,none)
 | _+1,_,[]=>.inl (40,none)
 | f+1,k,b::r=>if b.toNat=34 then .inr r
  else if hasPrefix (b::r) [36,36,123]=true then dz f k ((b::r).drop 3)
  else if hasPrefix (b::r) [36,123]=true then (if 32<=k then .inl (4,some (b::r).length) else match iP f (k+1) 1 ((b::r).drop 2) with|.inl e=>.inl e|.inr l=>dz f k l)
  else match (if b.toNat=92 then r else b::r) with
   | []=>.inl (40,none)
   | c::t=>if jD (decodeL (c::t)) then .inl (2,some (c::t).length) else dz f k ((c::t).drop (decodeL (c::t)).2)
def iP:Nat->Nat->Nat->Bk->SE⊕Bk
 | 0,_,_,_=>.inl (40,none)
 | f+1,k,n,l=>match fb false l with
  | []=>.inl (40,none)
  | b::r=>match ix (dz f k) (b::r) with
   | .inl e=>.inl e
   | .inr (c,t,l')=>if c=4/\t=[125] then (if n=1 then .inr l' else iP f k (n-1) l') else if c=4/\t=[123] then iP f k (n+1) l' else iP f k n l'
end
theorem ed (src:Bk->SE⊕Bk)(b:UInt8)(r:Bk):ix src (b::r)=if gR b=true then (if 64<((b::r).takeWhile idB).length then .inl (7,some (b::r).length) else .inr (1,(b::r).takeWhile idB,(b::r).dropWhile idB))
  else if cz b=true then .inr (2,(b::r).takeWhile cz,(b::r).dropWhile cz)
  else if b.toNat=10 then .inr (5,[10],r)
  else if b.toNat=34 then (match src r with|.inl e=>.inl e|.inr r'=>.inr (3,r.take (r.length-r'.length-1),r'))
  else if eg (b::r)=[] then .inl (2,some (b::r).length) else .inr (4,eg (b::r),(b::r).drop (eg (b::r)).length):=rfl
theorem iS (f k:Nat)(b:UInt8)(r:Bk):dz (f+1) k (b::r)=if b.toNat=34 then .inr r
  else if hasPrefix (b::r) [36,36,123]=true then dz f k ((b::r).drop 3)
  else if hasPrefix (b::r) [36,123]=true then (if 32<=k then .inl (4,some (b::r).length) else match iP f (k+1) 1 ((b::r).drop 2) with|.inl e=>.inl e|.inr l=>dz f k l)
  else match (if b.toNat=92 then r else b::r) with
   | []=>.inl (40,none)
   | c::t=>if jD (decodeL (c::t)) then .inl (2,some (c::t).length) else dz f k ((c::t).drop (decodeL (c::t)).2):=by rw [dz]; rfl
def Gb (q:Nat->Bk->SE⊕Bk)(n:Nat):SE⊕(Int×Bk×Bk)->SE⊕Bk|.inl e=>.inl e|.inr (c,t,l')=>if c=4/\t=[125] then (if n=1 then .inr l' else q (n-1) l') else if c=4/\t=[123] then q (n+1) l' else q n l'
def Od (q:Nat->Bk->SE⊕Bk)(src:Bk->SE⊕Bk)(n:Nat):Bk->SE⊕Bk|[]=>.inl (40,none)|b::r=>Gb q n (ix src (b::r))
theorem Az (q:Nat->Bk->SE⊕Bk)(src:Bk->SE⊕Bk)(n:Nat):Od q src n []=.inl (40,none):=rfl
theorem kb (q:Nat->Bk->SE⊕Bk)(src:Bk->SE⊕Bk)(n:Nat)(b:UInt8)(r:Bk):Od q src n (b::r)=Gb q n (ix src (b::r)):=rfl
theorem rm (q:Nat->Bk->SE⊕Bk)(n:Nat)(e:SE):Gb q n (.inl e)=.inl e:=rfl
theorem jM (q:Nat->Bk->SE⊕Bk)(n:Nat)(c:Int)(t l':Bk):Gb q n (.inr (c,t,l'))=if c=4/\t=[125] then (if n=1 then .inr l' else q (n-1) l') else if c=4/\t=[123] then q (n+1) l' else q n l':=rfl
theorem j8 (f k n:Nat)(l:Bk):iP (f+1) k n l=Od (iP f k) (dz f k) n (fb false l):=by
 rw [iP]
 cases fb false l with
 | nil=>rfl
 | cons b r=>
  show (match ix (dz f k) (b::r) with
   | .inl e=>.inl e
   | .inr (c,t,l')=>if c=4/\t=[125] then (if n=1 then .inr l' else iP f k (n-1) l') else if c=4/\t=[123] then iP f k (n+1) l' else iP f k n l')=Gb (iP f k) n (ix (dz f k) (b::r))
  cases ix (dz f k) (b::r) with
  | inl e=>rfl
  | inr z=>rfl
theorem lX {src:Bk->SE⊕Bk}{l:Bk}(hsrc:∀ r r',r.length<l.length->src r=.inr r'->r' <:+ r/\r'.length<r.length){c:Int}{t l':Bk}(h:ix src l=.inr (c,t,l')):l' <:+ l/\l'.length<l.length:=by
 cases l with
 | nil=>cases h
 | cons b r=>
  grind [ed,o5,List.dropWhile_cons_of_pos,idB,Nat.lt_succ_of_lt,ry,List.drop_suffix]
theorem hZ:∀ (f k:Nat),(∀ l l',dz f k l=.inr l'->l' <:+ l/\l'.length<l.length)/\(∀ n l l',iP f k n l=.inr l'->l' <:+ l/\l'.length<l.length)
 | 0,k=>⟨λ l l' h=>(by grind [dz]),λ n l l' h=>(by grind [iP])⟩
 | f+1,k=>by
  have ih:=hZ f;constructor
  ·intro l l' h
   cases l with
   | nil=>grind [dz]
   | cons b r=>
    grind [iS,List.drop_suffix]
  ·intro n l l' h;rw [j8] at h;have hs:=oR false l;generalize hbr:fb false l=l0 at h hs
   cases l0 with
   | nil=>cases h
   | cons b r=>
    rw [kb] at h
    cases hl1:ix (dz f k) (b::r) with
    | inl e=>rw [hl1] at h; cases h
    | inr z=>
     obtain ⟨c,t,l1⟩:=z;rw [hl1,jM] at h;obtain ⟨h1,h2⟩:=lX (λ r r' _ hr=>(ih k).1 _ _ hr) hl1
     grind
def rX (s:Bk)(o:Int)(e:SE):ao:=ao.mk e.1 (match e.2 with|some n=>(s.length:Int)-(n:Int)|none=>o) []
def F0 (s:Bk)(o o':Int)(d:ao)(q:SE⊕Bk)(r:Bool×ad):Prop:=match q with
 | .inl e=>r.1=false/\r.2.AT=rX s o e
 | .inr l=>r=(true,scx s l o' d)
def PP (s l:Bk)(o o':Int)(d:ao)(q:SE⊕(Int×Bk×Bk))(r:ab×Bool×ad):Prop:=match q with
 | .inl e=>r.2.1=false/\r.2.2.AT=rX s o e
 | .inr (c,t,l')=>r=(ab.mk c t (pz s l),true,scx s l' o' d)
theorem GF {s:Bk}(hs:s.length<=1000000000){o o':Int}{d:ao}{k:Nat}{src:Bk->SE⊕Bk}{b:UInt8}{r:Bk}(h:(b::r) <:+ s)(hsuf:∀ l',src r=.inr l'->l' <:+ r/\l'.length<r.length)(ho:¬ b.toNat=34->o'=(scx s (b::r) o d).IS)
  {oE:Int} (hsrc:b.toNat=34->Ev2 (λ n _=>cA n (scx s (b::r) o d) (k:Int)) (F0 s oE o' d (src r))) (hb:iG (b::r)=true) :
  Ev2 (λ n _=>a8 n (scx s (b::r) o d) (k:Int)) (PP s (b::r) oE o' d (ix src (b::r))):=by
 obtain ⟨f1,f2,f3,f4,f5,f6⟩:=kg b;have Ux:=jc h;have hle:=h.length_le;refine aS ?_;simp only [a8];rw [ed];have hat':(0:Int)<=(scx s (b::r) o d).fat/\(scx s (b::r) o d).fat<((scx s (b::r) o d).fs.length:Int):=Ux;refine ag hat' (ag (sa h) ?_);simp only [show byt (scx s (b::r) o d).fs (scx s (b::r) o d).fat=(b.toNat:Int) from gU h,sB];by_cases h2:gR b=true
 ·have hn34:¬ b.toNat=34:=λ q=>by grind
  rw [if_pos h2];have hc:=f2.2 h2;by_cases hl:64<((b::r).takeWhile idB).length
  ·rw [if_pos hl];refine cj (ae O (ai _ (BE s (b::r) hs h o d idB 2 3 Jf) (ae (by grind) (ai _ BL (aa ?_)))));exact ⟨rfl,rfl⟩
  ·rw [if_neg hl];refine cj (ae O (ai _ (BE s (b::r) hs h o d idB 2 3 Jf) (af (by grind) (aa (aa ?_)))));rw [ho hn34]; rfl
 rw [if_neg h2];have c2:¬ ((lR b:Nat):Int)=2:=λ q=>h2 (f2.1 O);by_cases h3:cz b=true
 ·have hn34:¬ b.toNat=34:=λ q=>by grind
  rw [if_pos h3];have hc:=f3.2 h3;refine cj (af c2 (ae O (ai _ (BE s (b::r) hs h o d cz 3 3 Om) (aa (aa ?_)))));rw [ho hn34]; rfl
 rw [if_neg h3];have c3:¬ ((lR b:Nat):Int)=3:=λ q=>h3 (f3.1 O);by_cases h10:b.toNat=10
 ·rw [if_pos h10];have hc:=f5.2 h10;refine cj (af c2 (af c3 (ae O (ag (bv (by grind) QJ) (aa (aa ?_))))));rw [ho O];show (ab.mk 5 [10] (pz s (b::r)),true,ad.mk s (pz s (b::r)+1) o d)=_;exact CS
 rw [if_neg h10];have c6:¬ ((lR b:Nat):Int)=6:=λ q=>h10 (f5.1 O);by_cases h34:b.toNat=34
 ·rw [if_pos h34];have hc:=f4.2 h34;refine cj (af c2 (af c3 (af c6 (ae O (ah _ (hsrc h34) λ x hx=>?_)))))
  cases hq:src r with
  | inl e=>
   rw [hq] at hx;exact BG
  | inr l'=>
   rw [hq] at hx;obtain ⟨g1,g2⟩:=hsuf l' hq;have hx:x=(true,scx s l' o' d):=hx;subst hx;have e1:(scx s (b::r) o d).fat+1=pz s r:=(kB (b:=b)).symm;have hl':l' <:+ s:=g1.trans (eq h);have e2:(scx s l' o' d).fat-1=(s.length:Int)-((l'.length+1:Nat):Int):=by show pz s l'-1=_; grind [pz]
   have hrl:=(eq h).length_le;have hd:r.drop (r.length-(l'.length+1)) <:+ r:=List.drop_suffix _ _;have hdl:(r.drop (r.length-(l'.length+1))).length=l'.length+1:=by grind
   have e3:(scx s l' o' d).fat-1=pz s (r.drop (r.length-(l'.length+1))):=by grind [pz]
   refine af G (ag (bv (by grind) (by grind [pz])) (ag (bv (by grind) (by grind)) (ag ?_ (aa (aa ?_)))))
   ·rw [e1,e3];refine ⟨vA (eq h),?_,qF⟩
    grind [pz]
   ·show _=_
    grind [scx,qm,eq]
 rw [if_neg h34];have c5:¬ ((lR b:Nat):Int)=5:=λ q=>h34 (f4.1 O)
 have hsn:eg (b::r)≠[]:=by
  grind [kp]
 rw [if_neg hsn];have Sk:=ry hsn;refine cj (af c2 (af c3 (af c6 (af c5 (ag ⟨Ux.1,by grind,by grind⟩ ?_)))));rw [show sub (scx s (b::r) o d).fs (scx s (b::r) o d).fat ((scx s (b::r) o d).fs.length:Int)=b::r from rq h];refine ai _ (wX (b::r) O) (ag (bv (by grind) (by show pz s (b::r)+_<=_; omega)) (aa (aa ?_)));rw [ho h34];show (ab.mk 4 (eg (b::r)) (pz s (b::r)),true,ad.mk s (pz s (b::r)+((eg (b::r)).length:Int)) o d)=_;rw [<- mu Sk.2]; rfl
def BQ (s:Bk)(o:Int)(d:ao)(q:SE⊕Bk)(r:ad⊕(Bool×ad)):Prop:=match r with
 | .inl x=>x=scx s [] o d/\q=.inl (40,none)
 | .inr y=>F0 s o o d q y
def Nq (s:Bk)(o:Int)(d:ao)(q:SE⊕Bk)(r:ad⊕(Bool×ad)):Prop:=match r with
 | .inl x=>∃ l,q=.inr l/\x=scx s l o d
 | .inr y=>∃ e,q=.inl e/\y.1=false/\y.2.AT=rX s o e
theorem uX {src:Bk->SE⊕Bk}{b:UInt8}{r:Bk}(h:iG (b::r)=false):ix src (b::r)=.inl (2,some (b::r).length):=by
 grind [kp,ed]
theorem tD {s:Bk}(hs:s.length<=1000000000){o:Int}{d:ao}{k:Nat}{b:UInt8}{r:Bk}(h:(b::r) <:+ s){q:SE⊕Bk}(hl:Ev2 (λ n m=>aQ (aI n) (k:Int) m (scx s r o d)) (BQ s o d q)) :
  Ev2 (λ n _=>dw n (scx s (b::r) o d) (k:Int)) (F0 s o o d q):=by
 have Ux:=jc h;have hle:=h.length_le;refine aS ?_;simp only [dw];refine ag Db ?_
 have e:ad.mk (scx s (b::r) o d).fs ((scx s (b::r) o d).fat+1) (scx s (b::r) o d).IS (scx s (b::r) o d).AT=scx s r o d:=by
  show ad.mk s (pz s (b::r)+1) o d=_;exact CS
 rw [e];refine cj (aO (aN (f:=λ n m=>aQ (aI n) (k:Int) m (scx s r o d)) hl) λ x hx=>?_)
 cases x with
 | inl x=>
  obtain ⟨rfl,rfl⟩:=hx;exact ai _ BL (aa ⟨rfl,rfl⟩)
 | inr y=>exact hx
theorem Fj {s:Bk}(hs:s.length<=1000000000){o:Int}(ho:0<=o){d:ao}{k:Nat}{b:UInt8}{r:Bk}(h:(b::r) <:+ s){q:SE⊕Bk}(hl:Ev2 (λ n m=>aQ (aI n) (k:Int) m (scx s r o d)) (BQ s o d q)) :
  Ev2 (λ n _=>cA n (scx s (b::r) o d) (k:Int)) (F0 s o o d q):=by
 refine aS ?_;simp only [cA];exact af (by show ¬ o<0; omega) (tD hs h hl)
theorem CK {s:Bk}(hs:s.length<=1000000000){d:ao}{k:Nat}{b:UInt8}{r:Bk}(h:(b::r) <:+ s){q:SE⊕Bk}(hl:Ev2 (λ n m=>aQ (aI n) (k:Int) m (scx s r (pz s (b::r)) d)) (BQ s (pz s (b::r)) d q)) :
  Ev2 (λ n _=>cA n (scx s (b::r) (-1) d) (k:Int)) (F0 s (pz s (b::r)) (-1) d q):=by
 refine aS ?_;simp only [cA];refine ae (by show (-1:Int)<0; omega) (ah _ (tD hs h hl) λ x hx=>aa ?_)
 cases q with
 | inl e=>exact hx
 | inr l=>
  have hx:x=(true,scx s l (pz s (b::r)) d):=hx;subst hx; rfl
theorem v7 (s:Bk)(b:UInt8)(r:Bk)(o:Int)(d:ao):bA (scx s (b::r) o d)=some (true,scx s (b::r) o d):=rk _ _ _ _
theorem sS (s:Bk)(o:Int)(d:ao):bA (scx s [] o d)=some (false,scx s [] o d):=rk _ _ _ _
theorem K6 (l p:Bk):strings_HasPrefix l p=some (hasPrefix l p):=rfl
theorem Ee {s l:Bk}{o:Int}{d:ao}{k:Nat}(hk:k<=l.length):ad.mk s (pz s l+(k:Int)) o d=scx s (l.drop k) o d:=by rw [scx,mu hk]
theorem zd {s r:Bk}{b:UInt8}{o:Int}{d:ao}:ad.mk s (pz s (b::r)+1) o d=scx s r o d:=by grind [scx,kB]
theorem Hw {s:Bk}(hs:s.length<=1000000000){o:Int}{d:ao}{f k:Nat}
  (ih1:∀ l,l <:+ s->l.length<f->Ev2 (λ n m=>aQ (aI n) (k:Int) m (scx s l o d)) (BQ s o d (dz f k l)))
  (ih2:∀ l,l <:+ s->l.length<f->k<32->Ev2 (λ nn m=>aM nn (a8 nn) (k:Int) m 1 (scx s l o d)) (Nq s o d (iP f (k+1) 1 l))) :
  ∀ l,l <:+ s->l.length<f+1->Ev2 (λ n m=>aQ (aI n) (k:Int) m (scx s l o d)) (BQ s o d (dz (f+1) k l)):=by
 intro l h hf;refine aw ?_;simp only [aQ]
 cases l with
 | nil=>
  refine ai _ (ax (sS s o d) Z) (af G (aa ⟨Z,?_⟩));rw [dz]
 | cons b r=>
  have Ux:=jc h;have hle:=h.length_le;have hfr:r.length<f:=by grind
  refine ai _ (ax (v7 s b r o d) Z) (ae Z (ag ⟨Ux.1,by show pz s (b::r)<=(s.length:Int); omega,by grind⟩ ?_));rw [iS];simp only [show sub (scx s (b::r) o d).fs (scx s (b::r) o d).fat ((scx s (b::r) o d).fs.length:Int)=b::r from rq h,show byt (b::r) 0=(b.toNat:Int) from rfl];refine cj (ag (by grind) ?_);by_cases h34:b.toNat=34
  ·rw [if_pos h34];refine ae O (ag Db (aa ?_));show (true,ad.mk s (pz s (b::r)+1) o d)=_;rw [zd]
  rw [if_neg h34];refine af O (ai _ (ax (K6 _ _) rfl) ?_);by_cases h3:hasPrefix (b::r) [36,36,123]=true
  ·rw [if_pos h3];have hp:=hasPrefix_le h3;simp only [aq,mv] at hp;refine ae h3 (ag (bv (by show _<=pz s (b::r)+3; omega) (by show pz s (b::r)+3<=_; omega)) (aa ?_));have:=ih1 ((b::r).drop 3) (tu 3 h) (by grind);rw [<- Ee (k:=3) (by grind)] at this;exact this
  rw [if_neg h3];refine af h3 (ai _ (ax (K6 _ _) rfl) ?_);by_cases h2:hasPrefix (b::r) [36,123]=true
  ·rw [if_pos h2];have hp:=hasPrefix_le h2;simp only [aq,mv] at hp;refine ae h2 (ah (F0 s o o d (if 32<=k then .inl (4,some (b::r).length) else iP f (k+1) 1 ((b::r).drop 2))) ?_ λ x hx=>?_)
   ·refine aS ?_;simp only [aI];by_cases hk:32<=k
    ·rw [if_pos hk];exact ae O G0
    ·rw [if_neg hk];refine af O (ag (bv (by show _<=pz s (b::r)+2; omega) (by show pz s (b::r)+2<=_; omega)) ?_);have:=ih2 ((b::r).drop 2) (tu 2 h) (by grind) O;rw [<- Ee (k:=2) (by grind)] at this;refine cj (aO (aN (f:=λ nn m=>aM nn (a8 nn) (k:Int) m 1 (ad.mk s (pz s (b::r)+2) o d)) this) λ y hy=>?_)
     cases y with
     | inl y=>
      obtain ⟨l',e1,rfl⟩:=hy;rw [e1];exact aa rfl
     | inr y=>
      obtain ⟨e,e1,e2,e3⟩:=hy;rw [e1];exact ⟨e2,e3⟩
   ·by_cases hk:32<=k
    ·rw [if_pos hk] at hx ⊢;exact BG
    ·rw [if_neg hk] at hx ⊢
     cases hq:iP f (k+1) 1 ((b::r).drop 2) with
     | inl e=>
      rw [hq] at hx;exact BG
     | inr l'=>
      rw [hq] at hx;have hx:x=(true,scx s l' o d):=hx;subst hx;obtain ⟨g1,g2⟩:=(hZ f (k+1)).2 _ _ _ hq;refine af G (aa (ih1 l' (g1.trans (tu 2 h)) ?_))
      grind
  rw [if_neg h2];refine af h2 (ai (scx s (if b.toNat=92 then r else b::r) o d) (ag (by grind) ?_) ?_)
  ·by_cases h92:b.toNat=92
   ·rw [if_pos h92];refine ae O (ag Db (aa ?_));show ad.mk s (pz s (b::r)+1) o d=_;rw [zd]
   ·rw [if_neg h92];exact rc
  ·have hsf:(if b.toNat=92 then r else b::r) <:+ s:=by grind [eq]
   have hln:(if b.toNat=92 then r else b::r).length<=r.length+1:=by grind
   generalize (if b.toNat=92 then r else b::r)=l1 at hsf hln ⊢
   cases l1 with
   | nil=>
    refine ai _ (ax (sS s o d) rfl) (ae rfl (aa ?_));have:=ih1 [] List.nil_suffix (by grind);obtain ⟨f,rfl⟩:∃ g,f=g+1:=⟨f-1,by omega⟩
    grind [dz]
   | cons c t=>
    refine ai _ (ax (v7 s c t o d) Z) (af G (ai _ (NK s hs hsf o d) ?_));have hdf:=gO (c::t) G;by_cases hb:jD (decodeL (c::t))
    ·simp only [if_pos hb];exact ae rfl G0
    ·simp only [if_neg hb];refine af G (aa (ih1 _ (tu _ hsf) ?_))
     grind
theorem JN {s:Bk}(hs:s.length<=1000000000){o:Int}(ho:0<=o){d:ao}{f k:Nat}(hk:k<32)
  (ih1:∀ l,l <:+ s->l.length<f->Ev2 (λ n m=>aQ (aI n) ((k+1:Nat):Int) m (scx s l o d)) (BQ s o d (dz f (k+1) l)))
  (ih2:∀ l n,1<=n->n+l.length<=s.length+1->l <:+ s->l.length<f->Ev2 (λ nn m=>aM nn (a8 nn) (k:Int) m (n:Int) (scx s l o d)) (Nq s o d (iP f (k+1) n l))) :
  ∀ l n,1<=n->n+l.length<=s.length+1->l <:+ s->l.length<f+1->Ev2 (λ nn m=>aM nn (a8 nn) (k:Int) m (n:Int) (scx s l o d)) (Nq s o d (iP (f+1) (k+1) n l)):=by
 intro l n hn hnl h hf;refine aw ?_;simp only [aM];rw [j8];have hsk:=oR false l;have hd:decide (o<0)=false:=decide_eq_false O;have hskip:=DC s l hs h o d;rw [hd] at hskip;refine ae O (cj (ai _ hskip ?_));have Sk:=hsk.length_le;have hss:=hsk.trans h;generalize fb false l=l1 at hsk Sk hss ⊢
 cases l1 with
 | nil=>exact ai _ (ax (sS s o d) Z) (ae Z (ai _ (ax (yC _ _ _ _ _ _) Z) (aa ⟨_,Z,Z,Z⟩)))
 | cons b r=>
  refine ai _ (ax (v7 s b r o d) Z) (af G (ai _ (sW s hs hss o d) ?_));rw [kb]
  cases hb:iG (b::r)
  ·rw [uX hb,rm];exact ae rfl (ai _ BL (aa ⟨_,rfl,rfl,rfl⟩))
  ·have hbl:=hss.length_le;simp only [aq] at Sk hbl;have htok:=GF (k:=k+1) (src:=dz f (k+1)) (o':=o) (oE:=o) hs hss (λ l' hl'=>(hZ f (k+1)).1 _ _ hl') Y (λ _=>Fj hs ho hss (ih1 r (eq hss) O)) hb (d:=d);refine af G (ag aC (ah (PP s (b::r) o o d (ix (dz f (k+1)) (b::r))) htok λ x hx=>?_))
   cases hq:ix (dz f (k+1)) (b::r) with
   | inl e=>
    rw [hq] at hx;rw [rm];exact ae (by rw [hx.1]; rfl) (aa ⟨e,rfl,rfl,hx.2⟩)
   | inr z=>
    obtain ⟨c,t,l'⟩:=z;rw [hq] at hx;have hx:x=(ab.mk c t (pz s (b::r)),true,scx s l' o d):=hx;subst hx;obtain ⟨g1,g2⟩:=lX (λ r r' _ hr=>(hZ f (k+1)).1 _ _ hr) hq;simp only [aq] at g2;have hl's:=g1.trans hss;rw [jM];refine af G (ai (if c=4/\t=[123] then (n:Int)+1 else (n:Int)) (ai (decide (c=4/\t=[123])) (av (λ q=>aa ?_) (λ q=>aa ?_)) (av (λ q=>ag aC (aa ?_)) (λ q=>aa ?_))) (ai (decide (c=4/\t=[125])) (av (λ q=>aa ?_) (λ q=>aa ?_)) ?_))
    ·grind
    ·grind
    ·grind
    ·grind
    ·grind
    ·grind
    by_cases h125:c=4/\t=[125]
    ·have hn123:¬ (c=4/\t=[123]):=λ w=>by grind
     rw [if_neg hn123];simp only [if_pos h125];refine ae (by grind) (ag aC (aa ?_));by_cases h1:n=1
     ·subst h1;rw [if_pos rfl];refine aw ?_;simp only [aM];exact af O (aa ⟨l',rfl,rfl⟩)
     grind
    ·simp only [if_neg h125];refine af (by grind) (aa ?_)
     grind
theorem DK {s:Bk}(hs:s.length<=1000000000){o:Int}(ho:0<=o){d:ao}:∀ (f:Nat),
  (∀ (k:Nat) l,l <:+ s->l.length<f->Ev2 (λ n m=>aQ (aI n) (k:Int) m (scx s l o d)) (BQ s o d (dz f k l))) /\
  (∀ (k:Nat) l n,k<32->1<=n->n+l.length<=s.length+1->l <:+ s->l.length<f->Ev2 (λ nn m=>aM nn (a8 nn) (k:Int) m (n:Int) (scx s l o d)) (Nq s o d (iP f (k+1) n l)))
 | 0=>(by grind)
 | f+1=>by
  obtain ⟨i1,i2⟩:=DK hs ho (d:=d) f
  grind [Hw,JN]
theorem Es {s:Bk}(hs:s.length<=1000000000){d:ao}{f:Nat}{b:UInt8}{r:Bk}(h:(b::r) <:+ s)(hf:r.length<f)(hb:iG (b::r)=true) :
  Ev2 (λ n _=>a8 n (scx s (b::r) (-1) d) 0) (PP s (b::r) (pz s (b::r)) (-1) d (ix (dz f 0) (b::r))) :=
 GF (k:=0) hs h (λ _l' hl'=>(hZ f 0).1 _ _ hl') Y (λ _=>CK hs h ((DK hs (vA h) f).1 0 r (eq h) hf)) hb
def Ng (n:Nat)(e:SE):SE:=(e.1,some (e.2.getD n))
abbrev Tk:=Int×Bk×Nat
def Lv (q:Bk->SE⊕List Tk)(n:Nat):SE⊕(Int×Bk×Bk)->SE⊕List Tk
 | .inl e=>.inl (Ng n e)
 | .inr (k,t,l')=>(match q l' with
  | .inl e=>.inl e
  | .inr ts=>.inr ((k,t,n)::ts))
def EG (q:Bk->SE⊕List Tk)(src:Bk->SE⊕Bk)(c:Nat):Bk->SE⊕List Tk|[]=>if c=16384 then .inl (14,some 0) else .inr [(6,[],0)]|b::r=>if iG (b::r)=false then .inl (2,some (b::r).length) else if c=16384 then .inl (14,some (b::r).length)else Lv q (b::r).length (ix src (b::r))
def i7:Nat->Nat->Bk->SE⊕List Tk|0,_,_=>.inl (40,none)|f+1,c,l=>EG (i7 f (c+1)) (dz f 0) c (fb true l)
theorem lx (f c:Nat)(l:Bk):i7 (f+1) c l=EG (i7 f (c+1)) (dz f 0) c (fb true l):=rfl
theorem mJ (q:Bk->SE⊕List Tk)(src:Bk->SE⊕Bk)(c:Nat):EG q src c []=if c=16384 then .inl (14,some 0) else .inr [(6,[],0)]:=rfl
theorem ll (q:Bk->SE⊕List Tk)(src:Bk->SE⊕Bk)(c:Nat)(b:UInt8)(r:Bk):EG q src c (b::r)=if iG (b::r)=false then .inl (2,some (b::r).length) else if c=16384 then .inl (14,some (b::r).length)
   else Lv q (b::r).length (ix src (b::r)):=rfl
theorem mK (q:Bk->SE⊕List Tk)(n:Nat)(k:Int)(t l':Bk):Lv q n (.inr (k,t,l'))=match q l' with
  | .inl e=>.inl e
  | .inr ts=>.inr ((k,t,n)::ts):=rfl
def tkS (s:Bk)(z:Tk):ab:=ab.mk z.1 z.2.1 ((s.length:Int)-(z.2.2:Int))
def EI (s:Bk)(out:List ab)(q:SE⊕List Tk):List ab×ao:=match q with
 | .inl e=>([],rX s 0 e)
 | .inr ts=>(out++ts.map (tkS s),ao.mk 0 0 [])
theorem AE (s l:Bk)(o:Int)(e:SE):rX s (pz s l) e=rX s o (Ng l.length e):=by
 obtain ⟨k,n⟩:=e
 cases n <;> rfl
theorem En {s:Bk}(hs:s.length<=1000000000){d:ao}:∀ (f:Nat) (l:Bk) (out:List ab),out.length<=16384->l <:+ s->l.length<f->Ev2 (λ n m=>gi n m out (scx s l (-1) d)) (·=.inr (EI s out (i7 f out.length l)))
 | 0,l,out,_,_,h=>absurd h (Nat.not_lt_zero _)
 | f+1,l,out,hout,h,hf=>by
  refine aw ?_;simp only [gi];rw [lx];have hsk:=oR true l;have hskip:=DC s l hs h (-1) d;rw [show decide ((-1:Int)<0)=true from rfl] at hskip;refine ai _ hskip ?_;have Sk:=hsk.length_le;have hss:=hsk.trans h;generalize fb true l=l1 at hsk Sk hss ⊢
  cases l1 with
  | nil=>
   refine ai (false,scx s [] (-1) d) (ai _ (ax (sS s (-1) d) Z) pk) (af G ?_);rw [mJ];by_cases hc:out.length=16384
   ·rw [if_pos hc];refine ae O (aa ?_)
    rfl
   ·rw [if_neg hc];refine af O (ai _ (ax (sS s (-1) d) rfl) (ae rfl (ag (by grind) (aa ?_))))
    rfl
  | cons b r=>
   refine ai (!iG (b::r),scx s (b::r) (-1) d) (ai _ (ax (v7 s b r (-1) d) Z) (ae Z (ai _ (sW s hs hss (-1) d) (aa Z)))) ?_;rw [ll]
   cases hb:iG (b::r)
   ·exact sc
   ·refine af G ?_;rw [if_neg G];by_cases hc:out.length=16384
    ·rw [if_pos hc];exact sA
    ·rw [if_neg hc];simp only [aq] at Sk;refine af O (ai _ (ax (v7 s b r (-1) d) rfl) (af G (ah _ (Es hs hss (f:=f) O hb) λ x hx=>?_)))
     cases hq:ix (dz f 0) (b::r) with
     | inl e=>
      rw [hq] at hx;refine ae (by rw [hx.1]; rfl) (aa ?_);rw [hx.2,AE s (b::r) 0]
      rfl
     | inr z=>
      obtain ⟨c,t,l'⟩:=z;rw [hq] at hx;have hx:x=(ab.mk c t (pz s (b::r)),true,scx s l' (-1) d):=hx;subst hx;obtain ⟨g1,g2⟩:=lX (λ r r' _ hr=>(hZ f 0).1 _ _ hr) hq;simp only [aq] at g2;have ih:=En hs (d:=d) f l' (out++[ab.mk c t (pz s (b::r))]) (by grind) (g1.trans hss) O;simp only [n7,aq,mv,Nat.zero_add] at ih;rw [mK];refine af G (ag (by grind) (O9 ih ?_));exact GT
def dv (s:Bk):List ab×ao:=if 65536<s.length then ([],ao.mk 3 0 []) else EI s [] (i7 (s.length+1) 0 s)
theorem Nv (s:Bk):Ev2 (λ n _=>nI n s) (·=dv s):=by
 simp only [nI];unfold dv;by_cases h:65536<s.length
 ·rw [if_pos h];exact sA
 ·rw [if_neg h];refine af O (ai (scx s s (-1) (ao.mk 0 0 [])) (ax ?_ rfl) ?_)
  ·rw [scx,ql]; rfl
  ·have:=En (s:=s) O (d:=ao.mk 0 0 []) (s.length+1) s [] G List.suffix_rfl (Nat.lt_succ_self _);exact iV _ (aN (f:=λ n m=>gi n m [] (scx s s (-1) (ao.mk 0 0 []))) this) Z
theorem G3 (h:p:=by
 simp only [List.any_cons,List.any_nil,Bool.or_false];by_cases h1:s=[110,117,108,108]
 ·simp [h1]
 by_cases h2:s=[116,114,117,101]
 ·simp [h2]
 by_cases h3:s=[102,97,108,115,101]
 ·simp [h3]
 by_cases h4:s=[102,111,114]
 ·simp [h4]
 by_cases h5:s=[105,110]
 ·simp [h5]
 by_cases h6:s=[105,102]
 ·simp [h6]
 simp [h1,h2,h3,h4,h5,h6]):p:=h
theorem ve (h:p:=by exact ax (Ph _) Z):p:=h
def v0:am:=am.mk 0 0 [] [] []
def e0:ac:=ac.mk 0 0 [] [] v0 [] 0
def FF (v:am)(at':Int):ac:=ac.mk 1 0 [] [] v [] at'
def xq (s:Bk)(at':Int):ac:=FF (am.mk 3 0 s [] []) at'
def PY:List Bk:=[[110,117,108,108],[116,114,117,101],[102,97,108,115,101],[102,111,114],[105,110],[105,102]]
def lU (s:Bk):Bool:=PY.any (λ t=>decide (s=t))
theorem Ph (s:Bk):gr s=some (lU s):=by
 unfold gr lU PY;exact G3
def wk (v:am):Int:=if v.Ar=1/\v.F'≠0/\v.F'≠1\/v.Ar≠1/\v.Ar≠2/\v.F'≠0\/v.Ar≠3/\v.If≠[]\/v.Df≠[]\/v.C'≠[] then 1 else if v.Ar=2/\¬ (-i6<=v.F'/\v.F'<=i6) then 5 else if v.Ar=3/\4096<v.If.length then 3 else if v.Ar=3/\validD v.If=false then 1 else 0
def tV (e:ac):Bool:=(iz e).getD false
def oM (e:ac):Int:=if tV e=false then 1 else if e.Ar=1 then wk e.A' else if (e.Ar=3\/e.Ar=4\/e.Ar=9\/e.Ar=12\/e.Ar=13)/\(fg e.AI=false\/e.Ar≠4/\lU e.AI=true) then 7 else if e.D'≠[]/\(fg e.D'=false\/lU e.D'=true) then 7 else 0
mutual
def oL:Nat->Nat->ac->Int×Nat|c,lv,.mk k op nm key v kids at'=>if 32<lv then (4,c) else if 4096<=c then (14,c)else if oM (.mk k op nm key v kids at')=0 then nM (c+1) (lv+1) kids else (oM (.mk k op nm key v kids at'),c+1)
def nM:Nat->Nat->List ac->Int×Nat|c,_,[]=>(0,c)|c,lv,x::r=>if (oL c lv x).1=0 then nM (oL c lv x).2 lv r else oL c lv x
end
theorem uj (c lv:Nat)(e:ac):oL c lv e=if 32<lv then (4,c) else if 4096<=c then (14,c) else if oM e=0 then nM (c+1) (lv+1) e.BY else (oM e,c+1):=by
 cases e; rw [oL]; rfl
theorem qp (c lv:Nat)(x:ac)(r:List ac):nM c lv (x::r)=if (oL c lv x).1=0 then nM (oL c lv x).2 lv r else oL c lv x:=by rw [nM]
def chk (e:ac):Int:=(oL 0 1 e).1
def nlT (t:ab):Bool:=decide (t.Ar=5)
def nf (b:Bool)(l:List ab):List ab:=if b then l.dropWhile nlT else l
def hd (b:Bool)(l:List ab):ab:=(nf b l).headD (ab.mk 6 [] 0)
def tl (b:Bool)(l:List ab):List ab:=(nf b l).tail
def sgB (b:Bool)(l:List ab)(s:Bk):Bool:=decide ((hd b l).Ar=4)&&decide ((hd b l).By=s)
def wdB (b:Bool)(l:List ab)(s:Bk):Bool:=decide ((hd b l).Ar=1)&&decide ((hd b l).By=s)
abbrev PE:=Int×Int
abbrev PR (α:Type):=Option (PE⊕(α×List ab))
def pb {α β:Type}(x:PR α)(k:α->List ab->PR β):PR β:=match x with
 | none=>none
 | some (.inl e)=>some (.inl e)
 | some (.inr (a,l))=>k a l
def pok {α:Type}(a:α)(l:List ab):PR α:=some (.inr (a,l))
def per {α:Type}(k a:Int):PR α:=some (.inl (k,a))
def eF (b:Bool)(s:Bk)(l:List ab):PR Unit:=if sgB b l s then pok () (tl b l) else per 2 (hd b l).fAt
def zK (b:Bool)(s:Bk)(l:List ab):PR Unit:=if wdB b l s then pok () (tl b l) else per 2 (hd b l).fAt
def yQ (b:Bool)(l:List ab):PR Bk:=if (hd b l).Ar=1/\lU (hd b l).By=false then pok (hd b l).By (tl b l) else per 2 (hd b l).fAt
def iQ:Nat->List (Bk×Int)|0=>[([124,124],3)]|1=>[([38,38],4)]|2=>[([61,61],5),([33,61],6)]|3=>[([60],7),([60,61],8),([62],9),([62,61],10)]|4=>[([43],11),([45],12)]|_=>[([42],13),([47],14),([37],15)]
def wc (b:Bool)(l:List ab)(Uk:Nat):Option (Bk×Int):=(iQ Uk).find? (λ p=>sgB b l p.1)
def mvT (base:Int)(t:ab):ab:=ab.mk t.Ar t.By (t.fAt+base)
mutual
def gu:Nat->Nat->Bk->Option (Option Bk)
 | 0,_,_=>none
 | _+1,_,[]=>some none
 | f+1,d,b::r=>if b.toNat=123 then gu f (d+1) r
  else if b.toNat=125 then (if d=1 then some (some r) else gu f (d-1) r)
  else if b.toNat=34 then (match iN f r with|none=>none|some none=>some none|some (some r')=>gu f d r')
  else gu f d r
def iN:Nat->Bk->Option (Option Bk)
 | 0,_=>none
 | _+1,[]=>some none
 | f+1,b::r=>if b.toNat=34 then some (some r)
  else if b.toNat=92 then iN f (r.drop 1)
  else if hasPrefix (b::r) [36,36,123]=true then iN f ((b::r).drop 3)
  else if hasPrefix (b::r) [36,123]=true then (match gu f 1 ((b::r).drop 2) with|none=>none|some none=>some none|some (some r')=>iN f r')
  else iN f r
end
def iY:Bk->Int⊕(Bk×Nat)|[]=>.inl 40|b::r=>if b.toNat=92 then (if (da r).2.2=0 then .inr (encodeRune (da r).1,(da r).2.1.toNat+1) else .inl (da r).2.2)else if jD (decodeL (b::r))\/b.toNat=34 then .inl 2 else .inr ((b::r).take (decodeL (b::r)).2,(decodeL (b::r)).2)
def flS (frm pos:Int)(text:Bk)(parts:List ac):List ac:=if frm<pos then parts++[xq text frm] else parts
def pA:PE⊕ac->PE⊕ac|.inl e=>.inl e|.inr e=>if chk e=0 then .inr e else .inl (chk e,e.fAt)
def tU:PE⊕ac->ac×ao|.inl e=>(e0,ao.mk e.1 e.2 [])|.inr e=>(e,ao.mk 0 0 [])
def rQ (at':Int):Int×Int×Bk×List ac×Bool->ac|(frm,pos,text,parts,UC)=>if UC then ac.mk 2 0 [] [] v0 (flS frm pos text parts) at' else xq text at'
mutual
def gj:Nat->Bool->List ab->PR ac|0,_,_=>none|f+1,b,l=>pb (oO f 0 b l) λ c l=>if sgB b l [63] then pb (gj f b (tl b l)) λ a l=>pb (eF b [58] l) λ _ l=>pb (gj f b l) λ d l=>pok (ac.mk 8 0 [] [] v0 [c,a,d] c.fAt) l else pok c l
def oO:Nat->Nat->Bool->List ab->PR ac|0,_,_,_=>none|f+1,Uk,b,l=>if 5<Uk then unS f b l else pb (oO f (Uk+1) b l) λ e l=>pB f Uk b e l
def pB:Nat->Nat->Bool->ac->List ab->PR ac
 | 0,_,_,_,_=>none
 | f+1,Uk,b,e,l=>match wc b l Uk with
  | none=>pok e l
  | some p=>pb (oO f (Uk+1) b (tl b l)) λ x l=>pB f Uk b (ac.mk 7 p.2 [] [] v0 [e,x] e.fAt) l
def unS:Nat->Bool->List ab->PR ac|0,_,_=>none|f+1,b,l=>if sgB b l [33] then pb (unS f b (tl b l)) λ e l'=>pok (ac.mk 6 1 [] [] v0 [e] (hd b l).fAt) l' else if sgB b l [45] then pb (unS f b (tl b l)) λ e l'=>pok (ac.mk 6 2 [] [] v0 [e] (hd b l).fAt) l' else pb (mr f b l) λ e l=>kF f b e l
def kF:Nat->Bool->ac->List ab->PR ac|0,_,_,_=>none|f+1,b,e,l=>if sgB b l [46] then (if (hd b (tl b l)).Ar=1 then kF f b (ac.mk 4 0 (hd b (tl b l)).By [] v0 [e] e.fAt) (tl b (tl b l)) else per 2 (hd b (tl b l)).fAt)else if sgB b l [91] then pb (gj f true (tl b l)) λ x l=>pb (eF true [93] l) λ _ l=>kF f b (ac.mk 5 0 [] [] v0 [e,x] e.fAt) l else pok e l
def mr:Nat->Bool->List ab->PR ac|0,_,_=>none|f+1,b,l=>if (hd b l).Ar=2 then (if (o9 (hd b l).By).2=0 then pok (FF (am.mk 2 (o9 (hd b l).By).1 [] [] []) (hd b l).fAt) (tl b l) else per (o9 (hd b l).By).2 (hd b l).fAt)else if (hd b l).Ar=3 then qO f b l else if (hd b l).Ar=1 then nY f b l else if sgB b l [40] then pb (gj f true (tl b l)) λ e l=>pb (eF true [41] l) λ _ l=>pok e l else if sgB b l [91] then (if wdB true (tl b l) [102,111,114] then mq f (hd b l).fAt 12 (tl true (tl b l)) else pb (iF f [93] (tl b l)) λ ks l'=>pok (ac.mk 10 0 [] [] v0 ks (hd b l).fAt) l')else if sgB b l [123] then (if wdB true (tl b l) [102,111,114] then mq f (hd b l).fAt 13 (tl true (tl b l)) else pb (pX f (tl b l)) λ ks l'=>pok (ac.mk 11 0 [] [] v0 ks (hd b l).fAt) l')else per 2 (hd b l).fAt
def qO:Nat->Bool->List ab->PR ac
 | 0,_,_=>none
 | f+1,b,l=>match kj f (hd b l).By ((hd b l).fAt+1) with
  | none=>none
  | some (.inl e)=>some (.inl e)
  | some (.inr e)=>pok (ac.mk e.Ar e.fOp e.AI e.D' e.A' e.BY (hd b l).fAt) (tl b l)
def nY:Nat->Bool->List ab->PR ac|0,_,_=>none|f+1,b,l=>if (hd b l).By=[110,117,108,108] then pok (FF v0 (hd b l).fAt) (tl b l)else if (hd b l).By=[116,114,117,101] then pok (FF (am.mk 1 1 [] [] []) (hd b l).fAt) (tl b l)else if (hd b l).By=[102,97,108,115,101] then pok (FF (am.mk 1 0 [] [] []) (hd b l).fAt) (tl b l)else if lU (hd b l).By=true then per 2 (hd b l).fAt else if sgB b (tl b l) [40] then pb (iF f [41] (tl b (tl b l))) λ ks l'=>pok (ac.mk 9 0 (hd b l).By [] v0 ks (hd b l).fAt) l' else pok (ac.mk 3 0 (hd b l).By [] v0 [] (hd b l).fAt) (tl b l)
def iF:Nat->Bk->List ab->PR (List ac)|0,_,_=>none|f+1,e,l=>if sgB true l e then pok [] (tl true l)else pb (gj f true l) λ x l=>if sgB true l [44] then pb (iF f e (tl true l)) λ r l=>pok (x::r) l else pb (eF true e l) λ _ l=>pok [x] l
def pX:Nat->List ab->PR (List ac)|0,_=>none|f+1,l=>if sgB true l [125] then pok [] (tl true l)else pb (nV f l) λ k l=>pb (eF true [61] l) λ _ l=>pb (gj f true l) λ x l=>if sgB true l [44] then pb (pX f (tl true l)) λ r l=>pok (k::x::r) l else pb (eF true [125] l) λ _ l=>pok [k,x] l
def nV:Nat->List ab->PR ac|0,_=>none|f+1,l=>if (hd true l).Ar=1 then pok (xq (hd true l).By (hd true l).fAt) (tl true l)else if (hd true l).Ar=3 then qO f true l else if sgB true l [40] then pb (gj f true (tl true l)) λ e l=>pb (eF true [41] l) λ _ l=>pok e l else per 2 (hd true l).fAt
def mq:Nat->Int->Int->List ab->PR ac|0,_,_,_=>none|f+1,at',k,l=>pb (yQ true l) λ v l=>pb (if sgB true l [44] then pb (yQ true (tl true l)) λ w l=>pok (w,v) l else pok (v,[]) l) λ nk l=>pb (zK true [105,110] l) λ _ l=>pb (gj f true l) λ a l=>pb (eF true [58] l) λ _ l=>pb (gj f true l) λ c l=>pb (if k=13 then pb (eF true [61,62] l) λ _ l=>pb (gj f true l) λ d l=>pok [a,c,d] l else pok [a,c] l) λ ks l=>pb (if wdB true l [105,102] then pb (gj f true (tl true l)) λ e l=>pok (ks++[e]) l else pok ks l) λ ks l=>pb (eF true (if k=13 then [125] else [93]) l) λ _ l=>pok (ac.mk k 0 nk.1 nk.2 v0 ks at') l
def kj:Nat->Bk->Int->Option (PE⊕ac)
 | 0,_,_=>none
 | f+1,s,at'=>match eW f at' at' [] [] false s with
  | none=>none
  | some (.inl e)=>some (.inl e)
  | some (.inr z)=>some (pA (.inr (rQ at' z)))
def eW:Nat->Int->Int->Bk->List ac->Bool->Bk->Option (PE⊕(Int×Int×Bk×List ac×Bool))
 | 0,_,_,_,_,_,_=>none
 | f+1,frm,pos,text,parts,UC,l=>match l with
  | []=>some (.inr (frm,pos,text,parts,UC))
  | c::r=>if hasPrefix (c::r) [36,36,123]=true then (if 4096<text.length+2 then some (.inl (3,frm)) else eW f frm (pos+3) (text++[36,123]) parts UC ((c::r).drop 3))
   else if hasPrefix (c::r) [36,123]=true then (match gu f 1 ((c::r).drop 2) with
    | none=>none
    | some none=>some (.inl (40,pos))
    | some (some r')=>match gI f (((c::r).drop 2).take (((c::r).drop 2).length-r'.length-1)) (pos+2) with
     | none=>none
     | some (.inl e)=>some (.inl e)
     | some (.inr e)=>eW f (pos+((c::r).length-r'.length:Nat)) (pos+((c::r).length-r'.length:Nat)) [] (flS frm pos text parts++[e]) true r')
   else match iY (c::r) with
    | .inl k=>some (.inl (k,pos))
    | .inr (t,n)=>if 4096<text.length+t.length then some (.inl (3,frm)) else eW f frm (pos+(n:Int)) (text++t) parts UC ((c::r).drop n)
def gI:Nat->Bk->Int->Option (PE⊕ac)
 | 0,_,_=>none
 | f+1,s,base=>if (dv s).2.Ar≠0 then some (.inl ((dv s).2.Ar,base+(dv s).2.fAt))
  else match gj f true ((dv s).1.map (mvT base)) with
   | none=>none
   | some (.inl e)=>some (.inl e)
   | some (.inr (e,l))=>if (hd true l).Ar=6 then some (.inr e) else some (.inl (2,(hd true l).fAt))
end
theorem bJ {α σ β:Type}{f:Nat->Nat->Option (α×σ)}{g:Nat->Nat->α×σ->Option β}{a:α}{mk:Nat->σ}{P:Nat->Prop}{Q:β->Prop}(h:Ev2 f (λ z=>z.1=a/\∃ j,z.2=mk j/\P j))(k:∀ j,P j->Ev2 (λ n m=>g n m (a,mk j)) Q) :
  Ev2 (λ n m=>(f n m).bind (g n m)) Q:=by
 refine ah _ h ?_;rintro ⟨z1,z2⟩ ⟨h1,j,h2,h3⟩;replace h1:z1=_:=h1; subst h1;replace h2:z2=_:=h2; subst h2;exact k j h3
theorem Kj (h:p:=by
 rintro r ⟨j',h1,h2,h3,h4⟩;refine ⟨j',h1,by omega,h3,?_⟩
 rw [h4,hd',nZ,if_pos ⟨by simp [h.1],h.2⟩]):p:=h
theorem Is (h:p:=by
 refine bJ (gT hL M' h) λ j ⟨h3,h4,h5⟩=>?_;refine ai (false,L,(j:Int),Mp,base,e.1,e.2,[]) ?_ (aa ⟨j,Z,h3⟩);have:(!(!decide ((eD e).Ar=0)))=false:=by show (!(!decide (e.1=0)))=false; simp [he]
 exact af (by show ¬ (!(!decide ((eD e).Ar=0)))=true; simp [this]) (aa Z)):p:=h
theorem IV (h:p:=by
 show al.mk L j (Mp+1-1) base (eD e)=_
 rw [Int.add_sub_cancel]):p:=h
theorem Hc (h:p:=by
 rintro ⟨y1,y2⟩ ⟨g1,k,g2,g3,g4,g5⟩
 cases g2
 exact aa ⟨k,Z,g3,g4⟩):p:=h
theorem Hs (h:p:=by
 cases hr:lU (hd b l).By with
 | true=>rfl
 | false=>exact absurd ⟨h1,hr⟩ hs):p:=h
theorem HX (h:p:=by
 rw [<- e] at UK;rcases Nat.lt_or_ge (j+1) L.length with q|q
 ·exact q
 ·rw [List.drop_eq_nil_of_le q] at UK; exact absurd rfl UK):p:=h
theorem I3 (h:p:=by
 rintro _ ⟨j,rfl,h3⟩;refine ae rfl (ah _ (gT hL M' h3) ?_);rintro ⟨y1,y2⟩ ⟨g1,k,g2,g3,g4,g5⟩;replace g1:y1=_:=g1; subst g1; cases g2
 exact ai _ (ax (yp he _ _ _ _) Z) (aa ⟨k,l,Z,g3⟩)):p:=h
theorem KI (h:p:=by
 rw [if_neg hs] at hq; cases hq;refine ae (by simpa using hs) (ah _ (gT hL M' h3) ?_);rintro ⟨y1,y2⟩ ⟨g1,k,g2,g3,g4,g5⟩;replace g1:y1=_:=g1; subst g1; cases g2
 refine ai _ (ax (uZ _ _ _ _) Z) (aa ⟨(by decide:(2:Int)≠0),k,l,Z,g3⟩)):p:=h
theorem Kv (h:p:=by
 refine af (by simpa using h) (aa ⟨i,Z,bx _,by omega,?_⟩)
 rw [hd',nZ,if_neg (by simpa using h)]):p:=h
theorem J2 (h:p:=by
 have:=uA h2.2;rcases Nat.eq_zero_or_pos k with hk|hk
 ·subst hk; rw [List.drop_eq_nil_of_le O] at this; exact absurd rfl this
 ·exact hk):p:=h
theorem uM (h:p:=by exact ai _ (ax (uZ _ _ _ _) Z) (aa ⟨(by decide:(2:Int)≠0),j,l,Z,h3⟩)):p:=h
theorem xE (h:p:=by exact ax (uZ _ _ _ _) Z):p:=h
theorem nD (h:p:=by exact bv (by show _<=Mp+1-1; omega) (by show Mp+1-1<=_; omega)):p:=h
theorem qX (h:p:=by exact bv (by show _<=Mp+1; omega) (by show Mp+1<=_; omega)):p:=h
theorem gb (h:p:=by exact bv (by show _<=(j:Int)+1; omega) (by show (j:Int)+1<=_; omega)):p:=h
theorem po (h:p:=by exact aa ⟨Z,j,Z,h3⟩):p:=h
theorem lu {P:Int->Prop}{i:Nat}(h:P ((i+1:Nat):Int)):P ((i:Int)+1):=by rwa [Int.natCast_add,Int.natCast_one] at h
def TkB (t:ab):Prop:=0<=t.fAt/\t.fAt+(t.By.length:Int)<=1000000000/\(t.Ar=3->t.fAt+1+(t.By.length:Int)<=1000000000)/\(t.Ar=2->t.By.all cz=true)
def Gd:List ab->Prop|[]=>False|t::r=>TkB t/\((t.Ar=6/\r=[])\/(t.Ar≠6/\Gd r))
theorem MD {t:ab}:nlT t=true↔t.Ar=5:=by simp [nlT]
theorem yF (b:Bool):nf b []=[]:=by cases b <;> rfl
theorem nZ (b:Bool)(t:ab)(r:List ab):nf b (t::r)=if b=true/\t.Ar=5 then nf b r else t::r:=by
 cases b with
 | false=>simp [nf]
 | true=>simp only [nf,if_true,true_and]; rw [List.dropWhile_cons]; simp only [MD]
theorem Ko (b:Bool):∀ (l:List ab),nf b (nf b l)=nf b l
 | []=>by rw [yF,yF]
 | t::r=>by
  rw [nZ];split
  ·exact Ko b r
  ·rename_i h; rw [nZ,if_neg h]
theorem ws {b:Bool}:∀ {l:List ab},Gd l->Gd (nf b l)
 | [],h=>h.elim
 | t::r,h=>by
  rw [nZ];split
  ·rename_i h1;rcases h.2 with h2|h2
   ·omega
   ·exact ws h2.2
  ·exact h
theorem BO (b:Bool):∀ (l:List ab),(nf b l).length<=l.length
 | []=>by rw [yF]; exact bx _
 | t::r=>by
  rw [nZ];split
  ·exact Nat.le_succ_of_le (BO b r)
  ·exact bx _
theorem ym (b:Bool)(base:Int):∀ (l:List ab),nf b (l.map (mvT base))=(nf b l).map (mvT base)
 | []=>by rw [List.map_nil,yF,List.map_nil]
 | t::r=>by
  rw [dg,nZ,nZ,ym b base r];show (if b=true/\t.Ar=5 then _ else _)=_;split <;> rfl
theorem uA {l:List ab}(h:Gd l):l≠[]:=by intro e; subst e; exact h
theorem qJ {b:Bool}{l:List ab}(h:Gd (nf b l)):nf b l=hd b l::tl b l:=by
 unfold hd tl
 cases hn:nf b l with
 | nil=>rw [hn] at h; exact h.elim
 | cons t r=>rfl
theorem tw {b:Bool}{l:List ab}(h:Gd (nf b l)):TkB (hd b l):=by
 have:=h; rw [qJ h] at this; exact this.1
theorem DX {b:Bool}{l:List ab}(h:Gd (nf b l))(h6:(hd b l).Ar≠6):Gd (tl b l):=by
 have:=h; rw [qJ h] at this;rcases this.2 with h2|h2
 ·exact absurd h2.1 h6
 ·exact h2.2
theorem PQ {b:Bool}{l:List ab}(h:Gd (nf b l)):(tl b l).length<l.length:=by
 have h1:=congrArg List.length (qJ h);have:=BO b l;rw [aq] at h1; omega
theorem mF {b:Bool}{l:List ab}{s:Bk}:sgB b l s=true↔(hd b l).Ar=4/\(hd b l).By=s:=by simp [sgB]
theorem xY {b:Bool}{l:List ab}{s:Bk}:wdB b l s=true↔(hd b l).Ar=1/\(hd b l).By=s:=by simp [wdB]
theorem yG {base:Int}:∀ {L:List ab} {i:Nat},Gd (L.map (mvT base))->i<L.length->Gd ((L.drop i).map (mvT base))
 | [],_,h,_=>h.elim
 | t::r,0,h,_=>h
 | t::r,i+1,h,hi=>by
  rcases h.2 with h2|h2
  ·have:r=[]:=List.map_eq_nil_iff.1 h2.2;subst this; simp at hi
  ·exact yG (L:=r) (i:=i) h2.2 (by simpa using hi)
theorem mW {L:List ab}{i:Nat}(h:i<L.length):L.drop i=lat L (i:Int)::L.drop (i+1):=by
 rw [nW L i h]; exact List.drop_eq_getElem_cons h
section
variable {L:List ab} {base:Int}
def Pos (L:List ab)(base:Int)(i:Nat)(Mp:Int)(b:Bool)(l:List ab):Prop :=i<L.length/\0<=Mp/\Mp+((L.length-i:Nat):Int)<=1000000000/\b=decide (0<Mp)/\nf b ((L.drop i).map (mvT base))=nf b l
theorem Pos.gd {i:Nat}{Mp:Int}{b:Bool}{l:List ab}(hL:Gd (L.map (mvT base)))(h:Pos L base i Mp b l):Gd (nf b l):=by
 rw [<- h.2.2.2.2]; exact ws (yG hL h.1)
theorem MH (hL:Gd (L.map (mvT base)))(M':L.length<=1000000000){Mp:Int}{d:ao}{a:Int}:∀ (k i:Nat),i+k=L.length->0<k ->
  Ev2 (λ _ m=>cP (.mk L a Mp base d) m (i:Int)) (λ j=>∃ j':Nat,j=(j':Int)/\i<=j'/\j'<L.length/\L.drop j'=nf (decide (0<Mp)) (L.drop i)):=by
 intro k
 induction k with
 | zero=>intro i _ h; omega
 | succ k ih=>
  intro i hi _;have hd':=mW (L:=L) (i:=i) O;refine aw ?_;simp only [cP];refine ai (decide (0<Mp/\(lat L (i:Int)).Ar=5)) ?_ ?_
  ·refine av (λ h=>ag ⟨by omega,by show (i:Int)<(L.length:Int); omega⟩ (aa ?_)) (λ h=>aa ?_)
   ·have h:0<Mp:=h;simp only [h,true_and]
   ·have h:¬ 0<Mp:=h;simp [h]
  ·by_cases h:0<Mp/\(lat L (i:Int)).Ar=5
   ·refine ae pd (ag aC ?_)
    have hk:0<k:=by
     have hg:=yG hL (i:=i) O;rw [hd',dg] at hg;rcases hg.2 with h2|h2
     ·have h2:(lat L (i:Int)).Ar=6:=h2.1;omega
     ·exact J2
    refine aO (lu (P:=λ j=>Ev2 (λ _ m=>cP (.mk L a Mp base d) m j) _) (ih (i+1) O hk)) ?_;exact Kj
   ·exact Kv
theorem Pos.ext {i j:Nat}{Mp:Int}{b:Bool}{l:List ab}(h:Pos L base i Mp b l)(h1:i<=j)(h2:j<L.length)(h3:L.drop j=nf b (L.drop i)):Pos L base j Mp b l:=by
 obtain ⟨q1,q2,q3,q4,q5⟩:=h;refine ⟨h2,q2,by omega,q4,?_⟩;rw [ym,h3,Ko,<- ym,q5]
theorem Pos.any {i:Nat}{Mp:Int}{b:Bool}{l:List ab}(h:Pos L base i Mp b l):Pos L base i Mp b ((L.drop i).map (mvT base)):=⟨h.1,h.2.1,h.2.2.1,h.2.2.2.1,Z⟩
theorem gT (hL:Gd (L.map (mvT base)))(M':L.length<=1000000000){i:Nat}{Mp:Int}{b:Bool}{l:List ab}{d:ao}(h:Pos L base i Mp b l) :
  Ev2 (λ n _=>br n (.mk L (i:Int) Mp base d)) (λ z=>z.1=hd b l/\∃ j:Nat,z.2=.mk L (j:Int) Mp base d/\Pos L base j Mp b l/\(L.drop j).map (mvT base)=nf b l/\i<=j):=by
 simp only [br];have hi:=h.1;refine ah _ (aN (MH hL M' (d:=d) (a:=(i:Int)) (L.length-i) i O O)) ?_;rintro x ⟨j,rfl,h1,h2,h3⟩;rw [<- h.2.2.2.1] at h3;have hg:Gd (nf b l):=h.gd hL;have hdr:(L.drop j).map (mvT base)=nf b l:=by rw [h3,<- ym,h.2.2.2.2]
 have hhd:mvT base (lat L (j:Int))=hd b l:=by
  have:=hdr;rw [mW h2,dg,qJ hg] at this;exact (qr this).1
 have hb:=tw hg;rw [<- hhd] at hb;obtain ⟨b1,b2,-,-⟩:=hb;have b1:0<=(lat L (j:Int)).fAt+base:=b1;have b2:(lat L (j:Int)).fAt+base+((lat L (j:Int)).By.length:Int)<=1000000000:=b2;refine ag ⟨by omega,by show (j:Int)<(L.length:Int); omega⟩ (ag (bv (by show _<=(lat L (j:Int)).fAt+base; omega) (by show (lat L (j:Int)).fAt+base<=_; omega)) (aa ⟨hhd,j,rfl,h.ext h1 h2 h3,hdr,h1⟩))
theorem Pos.next {j:Nat}{Mp:Int}{b:Bool}{l:List ab}(hL:Gd (L.map (mvT base)))(h:Pos L base j Mp b l)(hdr:(L.drop j).map (mvT base)=nf b l)(h6:(hd b l).Ar≠6) :
  Pos L base (j+1) Mp b (tl b l)/\(L.drop (j+1)).map (mvT base)=tl b l:=by
 have hg:Gd (nf b l):=h.gd hL
 have e:(L.drop (j+1)).map (mvT base)=tl b l:=by
  have:=hdr;rw [mW h.1,dg,qJ hg] at this;exact (qr this).2
 have UK:=uA (DX hg h6)
 have:j+1<L.length:=by
  exact HX
 obtain ⟨q1,q2,q3,q4,q5⟩:=h;exact ⟨⟨this,q2,by omega,q4,by rw [e]⟩,e⟩
theorem NU (hL:Gd (L.map (mvT base)))(M':L.length<=1000000000){i:Nat}{Mp:Int}{b:Bool}{l:List ab}{d:ao}(h:Pos L base i Mp b l) :
  Ev2 (λ n _=>aJ n (.mk L (i:Int) Mp base d)) (λ z=>z.1=hd b l/\∃ j:Nat,z.2=.mk L (j:Int) Mp base d/\if (hd b l).Ar=6 then Pos L base j Mp b l else Pos L base j Mp b (tl b l)/\(L.drop j).map (mvT base)=tl b l/\i<j):=by
 simp only [aJ];refine bJ (gT hL M' h) λ j ⟨h3,h4,h5⟩=>?_;have hj:=h3.1;by_cases h6:(hd b l).Ar=6
 ·refine ai (j:Int) (ae h6 (aa Z)) (aa ⟨Z,j,Z,?_⟩);rw [if_pos h6]; exact h3
 ·refine ai ((j:Int)+1) (af h6 (ag gb (aa Z))) (aa ⟨Z,j+1,Z,?_⟩);rw [if_neg h6]; exact ⟨(h3.next hL h4 h6).1,(h3.next hL h4 h6).2,by omega⟩
theorem eV (hL:Gd (L.map (mvT base)))(M':L.length<=1000000000){i:Nat}{Mp:Int}{b:Bool}{l:List ab}{d:ao}(h:Pos L base i Mp b l)(h6:(hd b l).Ar≠6) :
  Ev2 (λ n _=>aJ n (.mk L (i:Int) Mp base d)) (λ z=>z.1=hd b l/\∃ j:Nat,z.2=.mk L (j:Int) Mp base d/\Pos L base j Mp b (tl b l)/\(L.drop j).map (mvT base)=tl b l/\i<j) :=
 aO (NU hL M' h) λ z ⟨h1,j,h2,h3⟩=>⟨h1,j,h2,by rw [if_neg h6] at h3; exact h3⟩
theorem NI (p:al)(k a:Int):bq p k a=some (e0,if p.AT.Ar=0 then .mk p.fl p.fat p.H' p.G' (.mk k a []) else .mk p.fl p.fat p.H' p.G' (.mk p.AT.Ar p.AT.fAt p.AT.AI)):=by
 simp only [bq,aT,cl];by_cases h:p.AT.Ar=0
 ·simp only [h]; rfl
 ·simp only [h]; rfl
def dOk:ao:=ao.mk 0 0 []
def eD (e:PE):ao:=ao.mk e.1 e.2 []
def Out {α:Type}(L:List ab)(base:Int)(Mp:Int)(b:Bool)(q:PE⊕(α×List ab))(z:α×al):Prop:=match q with
 | .inl e=>e.1≠0/\∃ (j:Nat) (l':List ab),z.2=.mk L (j:Int) Mp base (eD e)/\Pos L base j Mp b l'
 | .inr (x,l)=>z.1=x/\∃ j:Nat,z.2=.mk L (j:Int) Mp base dOk/\Pos L base j Mp b l
def GG (L:List ab)(base:Int)(Mp:Int)(b:Bool)(q:PE⊕(Unit×List ab))(z:al):Prop:=match q with
 | .inl e=>e.1≠0/\∃ (j:Nat) (l':List ab),z=.mk L (j:Int) Mp base (eD e)/\Pos L base j Mp b l'
 | .inr (_,l)=>∃ j:Nat,z=.mk L (j:Int) Mp base dOk/\Pos L base j Mp b l/\(L.drop j).map (mvT base)=l
theorem yI (hL:Gd (L.map (mvT base)))(M':L.length<=1000000000){i:Nat}{Mp:Int}{b:Bool}{l:List ab}(s:Bk)(h:Pos L base i Mp b l) :
  Ev2 (λ n _=>aY n (.mk L (i:Int) Mp base dOk) s) (λ z=>z.1=sgB b l s/\∃ j:Nat,z.2=.mk L (j:Int) Mp base dOk/\Pos L base j Mp b l):=by
 simp only [aY,aT,cl];refine bJ (gT hL M' h) λ j ⟨h3,h4,h5⟩=>?_;refine ai (sgB b l s,L,(j:Int),Mp,base,0,0,[]) ?_ po;refine ae rfl (av (λ h=>aa ?_) (λ h=>aa ?_))
 ·have h:(hd b l).Ar=4:=h;simp only [sgB,h,decide_true,Bool.true_and] <;> rfl
 ·have h:¬ (hd b l).Ar=4:=h;simp only [sgB,h,decide_false,Bool.false_and] <;> rfl
theorem sJ (hL:Gd (L.map (mvT base)))(M':L.length<=1000000000){i:Nat}{Mp:Int}{b:Bool}{l:List ab}{e:PE}(s:Bk)(he:e.1≠0)(h:Pos L base i Mp b l) :
  Ev2 (λ n _=>aY n (.mk L (i:Int) Mp base (eD e)) s) (λ z=>∃ j:Nat,z=(false,.mk L (j:Int) Mp base (eD e))/\Pos L base j Mp b l):=by
 simp only [aY,aT,cl];exact Is
theorem rn (hL:Gd (L.map (mvT base)))(M':L.length<=1000000000){i:Nat}{Mp:Int}{b:Bool}{l:List ab}(s:Bk)(h:Pos L base i Mp b l) :
  Ev2 (λ n _=>cJ n (.mk L (i:Int) Mp base dOk) s) (λ z=>z.1=wdB b l s/\∃ j:Nat,z.2=.mk L (j:Int) Mp base dOk/\Pos L base j Mp b l):=by
 simp only [cJ,aT,cl];refine bJ (gT hL M' h) λ j ⟨h3,h4,h5⟩=>?_;refine ai (wdB b l s,L,(j:Int),Mp,base,0,0,[]) ?_ po;refine ae rfl (av (λ h=>aa ?_) (λ h=>aa ?_))
 ·have h:(hd b l).Ar=1:=h;simp only [wdB,h,decide_true,Bool.true_and] <;> rfl
 ·have h:¬ (hd b l).Ar=1:=h;simp only [wdB,h,decide_false,Bool.false_and] <;> rfl
theorem xD (hL:Gd (L.map (mvT base)))(M':L.length<=1000000000){i:Nat}{Mp:Int}{b:Bool}{l:List ab}{e:PE}(s:Bk)(he:e.1≠0)(h:Pos L base i Mp b l) :
  Ev2 (λ n _=>cJ n (.mk L (i:Int) Mp base (eD e)) s) (λ z=>∃ j:Nat,z=(false,.mk L (j:Int) Mp base (eD e))/\Pos L base j Mp b l):=by
 simp only [cJ,aT,cl];exact Is
theorem uZ (i Mp:Int)(k a:Int):bq (.mk L i Mp base dOk) k a=some (e0,.mk L i Mp base (eD (k,a))):=rfl
theorem yp {e:PE}(he:e.1≠0)(i Mp:Int)(k a:Int):bq (.mk L i Mp base (eD e)) k a=some (e0,.mk L i Mp base (eD e)):=by
 rw [NI,if_neg (show ¬ (eD e).Ar=0 from he)]
theorem pr (hL:Gd (L.map (mvT base)))(M':L.length<=1000000000){i:Nat}{Mp:Int}{b:Bool}{l:List ab}(s:Bk){q:PE⊕(Unit×List ab)}(h:Pos L base i Mp b l)(hq:eF b s l=some q) :
  Ev2 (λ n _=>cw n (.mk L (i:Int) Mp base dOk) s) (GG L base Mp b q):=by
 simp only [cw];refine bJ (yI hL M' s h) λ j h3=>?_;unfold eF at hq;by_cases hs:sgB b l s=true
 ·rw [if_pos hs] at hq; cases hq;refine af (by simp [hs]) (ah _ (eV hL M' h3 (by have:=(mF.1 hs).1; omega)) ?_);exact Hc
 ·exact KI
theorem Cb (hL:Gd (L.map (mvT base)))(M':L.length<=1000000000){i:Nat}{Mp:Int}{b:Bool}{l:List ab}{e:PE}(s:Bk)(he:e.1≠0)(h:Pos L base i Mp b l) :
  Ev2 (λ n _=>cw n (.mk L (i:Int) Mp base (eD e)) s) (λ z=>∃ (j:Nat) (l':List ab),z=.mk L (j:Int) Mp base (eD e)/\Pos L base j Mp b l'):=by
 simp only [cw];refine ah _ (sJ hL M' s he h) ?_;exact I3
theorem BR (hL:Gd (L.map (mvT base)))(M':L.length<=1000000000){i:Nat}{Mp:Int}{b:Bool}{l:List ab}(s:Bk){q:PE⊕(Unit×List ab)}(h:Pos L base i Mp b l)(hq:zK b s l=some q) :
  Ev2 (λ n _=>dC n (.mk L (i:Int) Mp base dOk) s) (GG L base Mp b q):=by
 simp only [dC];refine bJ (rn hL M' s h) λ j h3=>?_;unfold zK at hq;by_cases hs:wdB b l s=true
 ·rw [if_pos hs] at hq; cases hq;refine af (by simp [hs]) (ah _ (eV hL M' h3 (by have:=(xY.1 hs).1; omega)) ?_);exact Hc
 ·exact KI
theorem F8 (hL:Gd (L.map (mvT base)))(M':L.length<=1000000000){i:Nat}{Mp:Int}{b:Bool}{l:List ab}{e:PE}(s:Bk)(he:e.1≠0)(h:Pos L base i Mp b l) :
  Ev2 (λ n _=>dC n (.mk L (i:Int) Mp base (eD e)) s) (λ z=>∃ (j:Nat) (l':List ab),z=.mk L (j:Int) Mp base (eD e)/\Pos L base j Mp b l'):=by
 simp only [dC];refine ah _ (xD hL M' s he h) ?_;exact I3
theorem Pos.out {j:Nat}{Mp:Int}{l l':List ab}(h:Pos L base j (Mp+1) true l)(h0:0<=Mp)(he:(L.drop j).map (mvT base)=l'):Pos L base j Mp (decide (0<Mp)) l':=by
 obtain ⟨q1,q2,q3,q4,q5⟩:=h;exact ⟨q1,h0,by omega,rfl,by rw [he]⟩
theorem KJ (hL:Gd (L.map (mvT base)))(M':L.length<=1000000000){i:Nat}{Mp:Int}{l:List ab}(s:Bk){q:PE⊕(Unit×List ab)}(h0:0<=Mp)(h:Pos L base i (Mp+1) true l)(hq:eF true s l=some q) :
  Ev2 (λ n _=>bC n (.mk L (i:Int) (Mp+1) base dOk) s) (GG L base Mp (decide (0<Mp)) q):=by
 simp only [bC];refine ah _ (pr hL M' s h hq) ?_;intro z hz;have hb:=h.2.2.1;rcases q with e|⟨u,l'⟩
 ·obtain ⟨he,j,l',rfl,hp⟩:=hz;refine ag nD (aa ⟨he,j,(L.drop j).map (mvT base),?_,hp.out h0 rfl⟩);exact IV
 ·obtain ⟨j,rfl,hp,hx⟩:=hz;refine ag nD (aa ⟨j,?_,hp.out h0 hx,hx⟩);show al.mk L j (Mp+1-1) base dOk=_;rw [Int.add_sub_cancel]
theorem Nu (hL:Gd (L.map (mvT base)))(M':L.length<=1000000000){i:Nat}{Mp:Int}{l:List ab}{e:PE}(s:Bk)(he:e.1≠0)(h0:0<=Mp)(h:Pos L base i (Mp+1) true l) :
  Ev2 (λ n _=>bC n (.mk L (i:Int) (Mp+1) base (eD e)) s) (λ z=>∃ (j:Nat) (l':List ab),z=.mk L (j:Int) Mp base (eD e)/\Pos L base j Mp (decide (0<Mp)) l'):=by
 simp only [bC];refine ah _ (Cb hL M' s he h) ?_;rintro _ ⟨j,l',rfl,hp⟩;have hb:=h.2.2.1;refine ag nD (aa ⟨j,(L.drop j).map (mvT base),?_,hp.out h0 rfl⟩);exact IV
theorem qw (hL:Gd (L.map (mvT base)))(M':L.length<=1000000000){i:Nat}{Mp:Int}{b:Bool}{l:List ab}(h:Pos L base i Mp b l)(h6:(hd b l).Ar≠6) :
  Ev2 (λ n _=>cI n (.mk L (i:Int) Mp base dOk)) (λ z=>∃ j:Nat,z=.mk L (j:Int) (Mp+1) base dOk/\Pos L base j (Mp+1) true (tl b l)):=by
 simp only [cI];refine ah _ (eV hL M' h h6) ?_;rintro ⟨z1,z2⟩ ⟨h1,j,h2,h3,h4,h5⟩
 cases h2
 have hb:=h.2.2.1;have hn:=h.2.1;have hj:=h3.1;refine ag qX (aa ⟨j,Z,h3.1,by omega,by omega,?_,by rw [h4]⟩)
 symm; rw [decide_eq_true_eq]; omega
theorem pM (hL:Gd (L.map (mvT base)))(M':L.length<=1000000000){i:Nat}{Mp:Int}{b:Bool}{l:List ab}{q:PE⊕(Bk×List ab)}(h:Pos L base i Mp b l)(hq:yQ b l=some q) :
  Ev2 (λ n _=>cC n (.mk L (i:Int) Mp base dOk)) (Out L base Mp b q):=by
 simp only [cC,aT,cl];refine bJ (gT hL M' h) λ j ⟨h3,h4,h5⟩=>?_;unfold yQ at hq;by_cases hs:(hd b l).Ar=1/\lU (hd b l).By=false
 ·rw [if_pos hs] at hq; cases hq;refine ai (false,L,(j:Int),Mp,base,0,0,[]) (af ld (ae hs.1 (ai _ ve (aa ?_)))) ?_
  ·rw [hs.2]; rfl
  ·refine af ld (ah _ (eV hL M' h3 O) ?_);rintro ⟨y1,y2⟩ ⟨g1,k,g2,g3,g4,g5⟩
   cases g2
   exact aa ⟨Z,k,Z,g3⟩
 ·rw [if_neg hs] at hq; cases hq;refine ai (true,L,(j:Int),Mp,base,0,0,[]) (af ld (av (λ h1=>ai _ ve (aa ?_)) (λ h1=>aa rfl))) ?_
  ·have h1:(hd b l).Ar=1:=h1
   have:lU (hd b l).By=true:=by
    exact Hs
   rw [this]; rfl
  ·exact ae Z uM
theorem uI (hL:Gd (L.map (mvT base)))(M':L.length<=1000000000){i:Nat}{Mp:Int}{b:Bool}{l:List ab}{e:PE}(he:e.1≠0)(h:Pos L base i Mp b l) :
  Ev2 (λ n _=>cC n (.mk L (i:Int) Mp base (eD e))) (λ z=>∃ (j:Nat) (l':List ab),z.2=.mk L (j:Int) Mp base (eD e)/\Pos L base j Mp b l'):=by
 simp only [cC,aT,cl];refine bJ (gT hL M' h) λ j ⟨h3,h4,h5⟩=>?_;have hk:(!decide ((eD e).Ar=0))=true:=by show (!decide (e.1=0))=true; simp [he]
 refine ai (true,L,(j:Int),Mp,base,e.1,e.2,[]) (ae hk (aa Z)) ?_;exact ae Z (ai _ (ax (yp he _ _ _ _) Z) (aa ⟨j,l,Z,h3⟩))
end
theorem Kn (h:p:=by
 rw [hf] at hl;refine cj (aO (aN hl) ?_);rintro _ ⟨j,rfl,hp⟩
 exact ⟨j,Z,hp⟩):p:=h
theorem xI (h:p:=by
 rintro _ ⟨z,rfl,hz⟩
 exact hz):p:=h
theorem LC (h:p:=by
 rcases Uk with _|_|_|_|_|_|k
 ·rfl
 ·rfl
 ·rfl
 ·rfl
 ·rfl
 ·rfl
 ·omega):p:=h
theorem jX (h:p:=by
 rintro ⟨z1,z2⟩ hz
 exact aa hz):p:=h
theorem L0 (h:p:=by
 refine af O (aa ?_);rw [List.drop_eq_nil_of_le O]
 exact ⟨i,Z,h⟩):p:=h
theorem BH (h:p:=by
 refine cj (aO (aN hl) ?_);rintro _ ⟨j,rfl,hp⟩
 exact aa ⟨j,Z,hp⟩):p:=h
theorem GJ (h:p:=by exact aN (wL hL M' he h3 O (z1,.mk L (j:Int) Mp base (eD e)) _ _ _ _ _ _ _ _ _ _)):p:=h
theorem Hd (h:p:=by exact aN (ut hL M' he h3 (z1,.mk L (j:Int) Mp base (eD e)) _ _ _ _ _ _ _ _ _ _)):p:=h
theorem rY (h:p:=by exact ⟨by omega,by omega⟩):p:=h
theorem qR (h:p:=by exact aa ⟨j,Z,h3⟩):p:=h
theorem ta (h:p:=by exact sJ hL M' _ he h3):p:=h
theorem qU (h:p:=by exact yI hL M' _ h):p:=h
section
variable {L:List ab} {base:Int}
theorem L1 (hL:Gd (L.map (mvT base)))(M':L.length<=1000000000){Mp:Int}{b:Bool}{l:List ab}(ls:List Bk)(hls:ls.length<=1000):∀ (k t i:Nat),t+k=ls.length->Pos L base i Mp b l ->
  Ev2 (λ n m=>bu n ls m (t:Int) L (i:Int) Mp base 0 0 []) (λ r=>match (ls.drop t).find? (λ s=>sgB b l s) with
   | some s=>∃ j:Nat,r=.inr (s,true,.mk L (j:Int) Mp base dOk)/\Pos L base j Mp b l
   | none=>∃ j:Nat,r=.inl (L,(j:Int),Mp,base,0,0,[])/\Pos L base j Mp b l):=by
 intro k
 induction k with
 | zero=>
  intro t i ht h;refine aw ?_;simp only [bu];exact L0
 | succ k ih=>
  intro t i ht h;refine aw ?_;simp only [bu];have hdr:ls.drop t=lat ls (t:Int)::ls.drop (t+1):=by rw [nW ls t O]; exact List.drop_eq_getElem_cons O
  refine ae O (ag rY (ah _ qU ?_));rintro ⟨z1,z2⟩ ⟨h1,j,h2,h3⟩;replace h1:z1=_:=h1; subst h1; cases h2;rw [hdr,List.find?_cons]
  cases hs:sgB b l (lat ls (t:Int)) with
  | true=>exact ae Z (aa ⟨j,Z,h3⟩)
  | false=>exact af ld (ag (bv O O) (lu (P:=λ x=>Ev2 (λ n m=>bu n ls m x L (j:Int) Mp base 0 0 []) _) (ih (t+1) j O h3)))
theorem JR (hL:Gd (L.map (mvT base)))(M':L.length<=1000000000){i:Nat}{Mp:Int}{b:Bool}{l:List ab}(ls:List Bk)(hls:ls.length<=1000)(h:Pos L base i Mp b l) :
  Ev2 (λ n _=>ey n (.mk L (i:Int) Mp base dOk) ls) (λ r=>match ls.find? (λ s=>sgB b l s) with
   | some s=>∃ j:Nat,r=(s,true,.mk L (j:Int) Mp base dOk)/\Pos L base j Mp b l
   | none=>∃ j:Nat,r=([],false,.mk L (j:Int) Mp base dOk)/\Pos L base j Mp b l):=by
 simp only [ey];have hl:=L1 hL M' ls hls ls.length 0 i O h;rw [List.drop_zero] at hl
 cases hf:ls.find? (λ s=>sgB b l s) with
 | some s=>
  exact Kn
 | none=>
  rw [hf] at hl;exact BH
theorem Io (hL:Gd (L.map (mvT base)))(M':L.length<=1000000000){Mp:Int}{b:Bool}{l:List ab}{e:PE}(he:e.1≠0)(ls:List Bk)(hls:ls.length<=1000):∀ (k t i:Nat),t+k=ls.length->Pos L base i Mp b l ->
  Ev2 (λ n m=>bu n ls m (t:Int) L (i:Int) Mp base e.1 e.2 []) (λ r=>∃ j:Nat,r=.inl (L,(j:Int),Mp,base,e.1,e.2,[])/\Pos L base j Mp b l):=by
 intro k
 induction k with
 | zero=>
  intro t i ht h;refine aw ?_;simp only [bu];exact af O (aa ⟨i,rfl,h⟩)
 | succ k ih=>
  intro t i ht h;refine aw ?_;simp only [bu];refine ae O (ag rY (ah _ (sJ hL M' _ he h) ?_));rintro _ ⟨j,rfl,h3⟩;exact af ld (ag aC (lu (P:=λ x=>Ev2 (λ n m=>bu n ls m x L (j:Int) Mp base e.1 e.2 []) _) (ih (t+1) j O h3)))
theorem MN (hL:Gd (L.map (mvT base)))(M':L.length<=1000000000){i:Nat}{Mp:Int}{b:Bool}{l:List ab}{e:PE}(he:e.1≠0)(ls:List Bk)(hls:ls.length<=1000)(h:Pos L base i Mp b l) :
  Ev2 (λ n _=>ey n (.mk L (i:Int) Mp base (eD e)) ls) (λ r=>∃ j:Nat,r=([],false,.mk L (j:Int) Mp base (eD e))/\Pos L base j Mp b l):=by
 simp only [ey];have hl:=Io hL M' he ls hls ls.length 0 i O h;exact BH
theorem zX {Uk:Nat}(h:Uk<=5):kV (Uk:Int)=some ((iQ Uk).map (·.1)):=by
 exact LC
def rD:List Bk:=[[124,124],[38,38],[61,61],[33,61],[60],[60,61],[62],[62,61],[43],[45],[42],[47],[37]]
theorem SZ (s:Bk):∀ (k t:Nat),t+k=13->Ev2 (λ _ m=>iH s m (t:Int)) (·=match (rD.drop t).findIdx? (λ x=>decide (x=s)) with|some i=>.inr ((3+t+i:Nat):Int)|none=>.inl ()):=by
 intro k
 induction k with
 | zero=>
  intro t ht;refine aw ?_;simp only [iH];have:t=13:=by omega
  subst this;exact af (by decide) (aa rfl)
 | succ k ih=>
  intro t ht;refine aw ?_;simp only [iH];have hdr:rD.drop t=lat rD (t:Int)::rD.drop (t+1):=by rw [nW rD t (by show t<13; omega)]; exact List.drop_eq_getElem_cons (by show t<13; omega)
  refine ae O (ag rY ?_);rw [hdr,List.findIdx?_cons];by_cases hs:lat rD (t:Int)=s
  ·refine ae hs (ag aC (aa ?_));rw [decide_eq_true hs];show _=Sum.inr _;rw [show (3:Int)+(t:Int)=((3+t+0:Nat):Int) by omega]
  ·refine af hs (ag aC (aO (lu (P:=λ x=>Ev2 (λ _ m=>iH s m x) _) (ih (t+1) O)) ?_));rintro r rfl;rw [decide_eq_false hs]
   cases (rD.drop (t+1)).findIdx? (λ x=>decide (x=s)) with
   | none=>rfl
   | some i=>
    show Sum.inr ((3+(t+1)+i:Nat):Int)=Sum.inr ((3+t+(i+1):Nat):Int);congr 2; omega
theorem O4 {Uk:Nat}(h:Uk<=5){p:Bk×Int}(hp:p∈iQ Uk):Ev2 (λ n _=>rO n p.1) (·=p.2):=by
 simp only [rO];have hl:=SZ p.1 13 0 rfl;rw [List.drop_zero] at hl
 have:(match rD.findIdx? (λ x=>decide (x=p.1)) with|some i=>Sum.inr ((3+0+i:Nat):Int)|none=>(Sum.inl ():Unit⊕Int))=.inr p.2:=by
  have hall:∀ Uk:Fin 6,∀ p∈iQ Uk.1,(match rD.findIdx? (λ x=>decide (x=p.1)) with|some i=>Sum.inr ((3+0+i:Nat):Int)|none=>(Sum.inl ():Unit⊕Int))=.inr p.2:=by decide
  exact hall ⟨Uk,by omega⟩ p hp
 rw [this] at hl;exact iV p.2 (aN hl) rfl
theorem JI (b:Bool)(l:List ab)(Uk:Nat):((iQ Uk).map (·.1)).find? (λ s=>sgB b l s)=(wc b l Uk).map (·.1):=by
 unfold wc
 induction iQ Uk with
 | nil=>rfl
 | cons p r ih=>
  rw [dg,List.find?_cons,List.find?_cons]
  cases sgB b l p.1 with
  | true=>rfl
  | false=>exact ih
theorem Ea {b:Bool}{l:List ab}{Uk:Nat}{p:Bk×Int}(h:wc b l Uk=some p):p∈iQ Uk/\sgB b l p.1=true:=⟨List.mem_of_find?_eq_some h,List.find?_some (p:=λ p:Bk×Int=>sgB b l p.1) h⟩
theorem D9 {Uk:Nat}:((iQ Uk).map (·.1)).length<=1000:=by
 rcases Uk with _|_|_|_|_|k <;> simp [iQ]
def uO {α:Type}(L:List ab)(base:Int)(Mp:Int)(b:Bool)(e:PE)(z:α×al):Prop:=∃ (j:Nat) (l':List ab),z.2=.mk L (j:Int) Mp base (eD e)/\Pos L base j Mp b l'
theorem lj {e:PE}(he:e.1≠0):(!decide ((eD e).Ar=0))=true:=by show (!decide (e.1=0))=true; simp [he]
theorem F3 {i:Nat}{Mp:Int}{b:Bool}{l:List ab}{e:PE}(he:e.1≠0)(h:Pos L base i Mp b l) :
  Ev2 (λ n _=>cM n (.mk L (i:Int) Mp base (eD e))) (uO L base Mp b e):=by
 refine aS ?_;simp only [cM,aT,cl];exact ae (lj he) (aa ⟨i,l,Z,h⟩)
theorem ut (hL:Gd (L.map (mvT base)))(M':L.length<=1000000000){i:Nat}{Mp:Int}{b:Bool}{l:List ab}{e:PE}(he:e.1≠0)(h:Pos L base i Mp b l)(r1:ac×al)(k op:Int)(nm key:Bk)(vk vn:Int)(vs:Bk)(vi:List am)(vks:List Bk)(kids:List ac) :
  Ev2 (λ n m=>bM n (aD n) r1 m k op nm key vk vn vs vi vks kids L (i:Int) Mp base e.1 e.2 []) (λ s=>∃ z,s=.inr z/\uO L base Mp b e z):=by
 refine aw ?_;simp only [bM];refine cj (ah _ (sJ hL M' _ he h) ?_);rintro _ ⟨j,rfl,h3⟩;refine af ld (ah _ ta ?_);rintro _ ⟨j,rfl,h3⟩;exact af ld (aa ⟨_,rfl,j,l,rfl,h3⟩)
theorem FX (hL:Gd (L.map (mvT base)))(M':L.length<=1000000000){i:Nat}{Mp:Int}{b:Bool}{l:List ab}{e:PE}(he:e.1≠0)(h:Pos L base i Mp b l) :
  Ev2 (λ n _=>dF n (.mk L (i:Int) Mp base (eD e))) (uO L base Mp b e):=by
 refine aS ?_;simp only [dF];refine ah _ (F3 he h) ?_;rintro ⟨z1,z2⟩ ⟨j,l',h2,h3⟩
 cases h2
 refine cj (aO Hd ?_);exact xI
theorem NH (hL:Gd (L.map (mvT base)))(M':L.length<=1000000000){i:Nat}{Mp:Int}{b:Bool}{l:List ab}{e:PE}(he:e.1≠0)(h:Pos L base i Mp b l) :
  Ev2 (λ n _=>cY n (.mk L (i:Int) Mp base (eD e))) (uO L base Mp b e):=by
 refine aS ?_;simp only [cY];refine ah (λ t=>∃ j:Nat,t=(0,L,(j:Int),Mp,base,e.1,e.2,[])/\Pos L base j Mp b l) ?_ ?_
 ·refine ah _ (sJ hL M' _ he h) ?_;rintro _ ⟨j,rfl,h3⟩;refine af ld (ah _ ta ?_);rintro _ ⟨j,rfl,h3⟩;exact af ld qR
 ·rintro _ ⟨j,rfl,h3⟩;refine ae rfl (ah _ (FX hL M' he h3) ?_);exact jX
theorem wL (hL:Gd (L.map (mvT base)))(M':L.length<=1000000000){i:Nat}{Mp:Int}{b:Bool}{l:List ab}{e:PE}(he:e.1≠0)(h:Pos L base i Mp b l){Uk:Nat}(hlev:Uk<=5)(r5:ac×al)(k op:Int)(nm key:Bk)(vk vn:Int)(vs:Bk)(vi:List am)(vks:List Bk)(kids:List ac) :
  Ev2 (λ n m=>bV n (ba n) (Uk:Int) r5 m k op nm key vk vn vs vi vks kids L (i:Int) Mp base e.1 e.2 []) (λ s=>∃ z,s=.inr z/\uO L base Mp b e z):=by
 refine aw ?_;simp only [bV];refine ai _ (ax (zX hlev) rfl) (ah _ (MN hL M' he _ D9 h) ?_);rintro _ ⟨j,rfl,h3⟩;exact ae rfl (aa ⟨_,rfl,j,l,rfl,h3⟩)
theorem Ka (hL:Gd (L.map (mvT base)))(M':L.length<=1000000000){Mp:Int}{b:Bool}{e:PE}(he:e.1≠0):∀ (k Uk i:Nat) (l:List ab),Uk+k=6->Pos L base i Mp b l ->
  Ev2 (λ n _=>ba n (.mk L (i:Int) Mp base (eD e)) (Uk:Int)) (uO L base Mp b e):=by
 intro k
 induction k with
 | zero=>
  intro Uk i l hk h;refine aS ?_;simp only [ba];refine ae O (ah _ (NH hL M' he h) ?_);exact jX
 | succ k ih=>
  intro Uk i l hk h;refine aS ?_;simp only [ba];refine af O (ag aC (ah _ (lu (P:=λ x=>Ev2 (λ n _=>ba n (.mk L (i:Int) Mp base (eD e)) x) _) (ih (Uk+1) i l O h)) ?_));rintro ⟨z1,z2⟩ ⟨j,l',h2,h3⟩
  cases h2
  refine cj (aO GJ ?_);exact xI
theorem LE (hL:Gd (L.map (mvT base)))(M':L.length<=1000000000){i:Nat}{Mp:Int}{b:Bool}{l:List ab}{e:PE}(he:e.1≠0)(h:Pos L base i Mp b l) :
  Ev2 (λ n _=>aD n (.mk L (i:Int) Mp base (eD e))) (uO L base Mp b e):=by
 refine aS ?_;simp only [aD];refine ah _ (Ka hL M' he 6 0 i l rfl h) ?_;rintro ⟨z1,z2⟩ ⟨j,l',h2,h3⟩
 cases h2
 refine ah _ ta ?_;rintro _ ⟨j,rfl,h3⟩;exact ae rfl (aa ⟨j,l',rfl,h3⟩)
end
end Go.Ab.R06
end
section
namespace Go.Ab.R06
open Go.Proofs Go.Ab Go.Ab.RB
variable {p:Prop}
theorem Hu (h:p:=by
  refine af G (ag (bv O O) ?_);have:=ih (i+1) O;rw [Int.natCast_add,Int.natCast_one] at this;simp only [ki,hk,Bool.true_and]
  exact this):p:=h
theorem vW (h:p:=by exact aa G):p:=h
theorem nH (h:p:=by simp only [aq,mv]; omega):p:=h
theorem mf (h:p:=by simp only [n7,aq,mv]; omega):p:=h
set_option maxRecDepth 4000
attribute [local irreducible] awp hH bc bG co AV.sub M cO
instance SS:HE Tryz.prog 190:=⟨Tryz.call190⟩
instance SP:HE Tryz.prog 214:=⟨Tryz.call214⟩
instance R3:HE Tryz.prog 179:=⟨Tryz.call179⟩
instance Sn:HE Tryz.prog 161:=⟨Tryz.call161⟩
instance SF:HE Tryz.prog 194:=⟨Tryz.call194⟩
instance R9:HE Tryz.prog 177:=⟨Tryz.call177⟩
instance RX:HE Tryz.prog 178:=⟨Tryz.call178⟩
instance Q8:HE Tryz.prog 160:=⟨Tryz.call160⟩
def ka (Wa:Int):Option Bool :=(if (-9007199254740992)<=Wa then some (decide (Wa<=9007199254740992))else some false).bind λ t2=>some t2
instance KD (Wa:Int):∀ (r:Bool),HP (ka Wa=some r) Tryz.prog 190 [eI Wa] (.p (eB r)):=by
 refine hP good Tryz.func190 Z Z λ r h0 _ w0=>?_;unfold ka at h0;exact kt
def eQ (Mr:Bk):Nat->Int->Option (Unit⊕Bool)|0,_=>none|m+1,i9=>if i9<(Mr.length:Int) then(ck ((0:Int)<=i9/\i9<(Mr.length:Int))<|if byt Mr i9<48 then some true else ck ((0:Int)<=i9/\i9<(Mr.length:Int))<|some (decide (57<byt Mr i9))).bind λ YY=>if YY=true then some (.inr false)else ck (inR (i9+1))<|eQ Mr m (i9+1)else some (.inl ())
def ku (n:Nat)(Mr:Bk):Option Bool :=jn (eQ Mr n 0) λ _U2=>(if Mr=([48]:Bk) then some true else if Mr=([]:Bk) then some false else ck ((0:Int)<=0/\0<(Mr.length:Int))<|some (!decide (byt Mr 0=48))).bind λ t21=>some t21
instance Gv (n:Nat) (Mr:Bk):∀ (r:Bool),HP (ku n Mr=some r) Tryz.prog 214 [eS Mr] (.p (eB r)):=by
 refine hP good Tryz.func214 Z Z λ r h0 _ w0=>?_;unfold ku at h0;refine nx 10 rfl ?_;obtain ⟨W8,h1,UV,hR0⟩:=bo h0;refine kEx 0 (λ WY:Unit=>W8=.inl WY) (λ WY=>⟨[(0,.p (eS Mr))],[]⟩) (λ WY hv=>?_) ?_
 ·have h0:=UV _ hv;have:=js [600];have:=jS 600 Bool λ v=>[(2,.p (eB v))]
  exact J0
 refine lG (λ (VS:Int)=>⟨[(0,.p (eS Mr)),(3,.p (eI VS))],[]⟩) (λ m (VS:Int)=>eQ Mr m VS) Y 0 h1 (gE rfl rfl) ?_;rintro m i9 h1;replace h1:eQ Mr (m+1) i9=some W8:=h1;rw [eQ] at h1;have:=js [400];have:=jS 400 Bool λ v=>[(19,.p (eB v))]
 exact az
def fE (t6:Bk):Nat->Int->Int->Option Int|0,_,_=>none|m+1,n22,i23=>if i23<(t6.length:Int) then ck (inR (10*n22))<|ck ((0:Int)<=i23/\i23<(t6.length:Int))<|ck (inR (IntKind.wrap .u8 ((byt t6 i23)-48)))<|ck (inR ((10*n22)+(IntKind.wrap .u8 ((byt t6 i23)-48))))<|ck (inR (i23+1))<|fE t6 m ((10*n22)+(IntKind.wrap .u8 ((byt t6 i23)-48))) (i23+1)else some n22
def mb (n:Nat)(Mr:Bk):Option (Int×Int) :=(if 0<(Mr.length:Int) then ck ((0:Int)<=0/\0<(Mr.length:Int))<|some (decide (byt Mr 0=45))else some false).bind λ minus3=>(if minus3=true then ck ((0:Int)<=1/\1<=(Mr.length:Int)/\(Mr.length:Int)<=(Mr.length:Int))<|some (sub Mr 1 (Mr.length:Int))else some Mr).bind λ t6=>((ku n t6).bind λ r7=>if (!r7)=true then some true else if minus3=true then some (decide (t6=([48]:Bk)))else some false).bind λ t11=>if t11=true then some (0,2)else if 16<(t6.length:Int) then some (0,5)else(fE t6 n 0 0).bind λ n32=>(if minus3=true then ck (inR (0-n32))<|some (0-n32)else some n32).bind λ n35=>(ka n35).bind λ Y2=>if (!Y2)=true then some (0,5)else some (n35,0)
instance LF (n:Nat) (Mr:Bk):∀ (r:Int×Int),HP (mb n Mr=some r) Tryz.prog 200 [eS Mr] (.tuple [.p (eI r.1),.p (eI r.2)]):=by
 refine hP good Tryz.func200 Z Z λ r h0 _ w0=>?_;unfold mb at h0;refine nx 6 Z (bd h0 λ Xy h1 h0=>kN Xy (λ XS=>⟨[(0,.p (eS Mr)),(4,.p (eB XS))],[]⟩) ?_ ?_)
 ·refine nx 7 Z (bd h0 λ o46 h1 h0=>kN o46 (λ v47=>⟨[(4,.p (eB Xy)),(5,.p (eS v47))],[]⟩) ?_ ?_)
  ·refine nx 3 Z (bd h0 λ ZQ h1 h0=>kN ZQ (λ Ym=>⟨[(4,.p (eB Xy)),(5,.p (eS o46)),(29,.p (eB Ym))],[]⟩) ?_ ?_)
   ·refine nx 1 Z (fB [29] h0 Z (λ c12 h0=>?_) λ c12 h0=>?_)
    ·exact J0
    refine nx 6 Z (oLs Z (nx 2 Z (fD [32] h0 Z (λ YL h0=>?_) λ YL h0=>?_)))
    ·exact J0
    refine nx 12 Z (bd h0 λ X3 h1 h0=>kE 0 X3 (λ v51=>⟨[(4,.p (eB Xy)),(6,.p (eI v51))],[]⟩) ?_ ?_)
    ·refine nx 2 Z (bd h0 λ Zz h1 h0=>kN Zz (λ v53=>⟨[(6,.p (eI v53))],[]⟩) ?_ ?_)
     ·exact J0
     refine nx 4 Z (fB [4,47] h1 Z (λ Z4 h1=>?_) λ Z4 h1=>?_)
     ·refine nx 3 Z (cc' h1 λ XB h1=>mO Z (Po Z Z Z Z XB ?_));exact az
     exact az
    refine lG (λ (q54:Int×Int)=>⟨[(4,.p (eB Xy)),(5,.p (eS o46)),(6,.p (eI q54.1)),(7,.p (eI q54.2))],[]⟩) (λ m (q54:Int×Int)=>fE o46 m q54.1 q54.2) Y (0,0) h1 (gE rfl rfl) ?_;rintro m ⟨n22,i23⟩ h1;replace h1:fE o46 (m+1) n22 i23=some X3:=h1;rw [fE] at h1;refine nx 5 rfl (oLs rfl (nx 2 rfl (fD [36] h1 rfl (λ Yk h1=>?_) λ Yk h1=>?_)))
    ·refine nx 6 Z (oA h1 Z Z λ WS h1=>nx 2 Z (oI h1 Z λ X6 h1=>nx 1 Z (cc' h1 λ X5 h1=>mO Z (fm Z Z Z Z Z Z Z Z (jt X5) ?_))));exact az
    exact az
   exact az
  exact az
 exact az
def ge:Nat->Int->Option Bk|0,_=>none|n+1,Wa=>(if 0<=Wa then some (decide (Wa<=9))else some false).bind λ t2=>if t2=true then ck (inR (48+Wa))<|ck ((0:Int)<=IntKind.wrap .u8 (48+Wa)/\IntKind.wrap .u8 (48+Wa)<256)<|some [u8 (IntKind.wrap .u8 (48+Wa))] else(if Wa<0 then some (decide ((-10)<Wa))else some false).bind λ t7=>if t7=true then ck (inR (0-Wa))<|((ge n) (0-Wa)).bind λ UN=>ck (([45]:Bk).length+UN.length<=9223372036854775807)<|some (([45]:Bk)++UN)else if Wa<0 then ck ((10:Int)≠0)<|((ge n) (IntKind.wrap .i64 (Wa.tdiv 10))).bind λ Uu=>ck ((10:Int)≠0)<|ck (inR (0-(Wa.tmod 10)))<|((ge n) (0-(Wa.tmod 10))).bind λ Wx=>ck (Uu.length+Wx.length<=9223372036854775807)<|some (Uu++Wx)else ck ((10:Int)≠0)<|((ge n) (IntKind.wrap .i64 (Wa.tdiv 10))).bind λ UQ=>ck ((10:Int)≠0)<|((ge n) (Wa.tmod 10)).bind λ Ve=>ck (UQ.length+Ve.length<=9223372036854775807)<|some (UQ++Ve)
def ju:Nat->Int->Option Bk|0,_=>none|n+1,Ut=>ck ((16:Int)≠0)<|ck ((16:Int)≠0)<|ck (inR ((Ut.tmod 16)+1))<|ck ((0:Int)<=Ut.tmod 16/\Ut.tmod 16<=(Ut.tmod 16)+1/\(Ut.tmod 16)+1<=(([48,49,50,51,52,53,54,55,56,57,97,98,99,100,101,102]:Bk).length:Int))<|if Ut<16 then some (sub ([48,49,50,51,52,53,54,55,56,57,97,98,99,100,101,102]:Bk) (Ut.tmod 16) ((Ut.tmod 16)+1))else ck ((16:Int)≠0)<|((ju n) (IntKind.wrap .i64 (Ut.tdiv 16))).bind λ r7=>ck (r7.length+(sub ([48,49,50,51,52,53,54,55,56,57,97,98,99,100,101,102]:Bk) (Ut.tmod 16) ((Ut.tmod 16)+1)).length<=9223372036854775807)<|some (r7++(sub ([48,49,50,51,52,53,54,55,56,57,97,98,99,100,101,102]:Bk) (Ut.tmod 16) ((Ut.tmod 16)+1)))
def oe (n:Nat)(b_0:Int):Option Bk :=if b_0=10 then some ([92,110]:Bk)else if b_0=13 then some ([92,114]:Bk)else if b_0=9 then some ([92,116]:Bk)else if b_0=34 then some ([92,34]:Bk)else if b_0=92 then some ([92,92]:Bk)else(if b_0<32 then some true else some (decide (b_0=127))).bind λ t7=>if t7=true then ck (inR (b_0))<|(ju n b_0).bind λ UN=>ck (([92,117,123]:Bk).length+UN.length<=9223372036854775807)<|ck ((([92,117,123]:Bk)++UN).length+([125]:Bk).length<=9223372036854775807)<|some ((([92,117,123]:Bk)++UN)++([125]:Bk))else ck ((0:Int)<=b_0/\b_0<256)<|some [u8 b_0]
def jm (n:Nat)(Mr:Bk):Nat->Bk->Int->Option Bk|0,_,_=>none|m+1,aaB,i10=>if i10<(Mr.length:Int) then ck ((0:Int)<=i10/\i10<(Mr.length:Int))<|(oe n (byt Mr i10)).bind λ Wh=>ck (aaB.length+Wh.length<=9223372036854775807)<|ck (inR (i10+1))<|jm n Mr m (aaB++Wh) (i10+1)else some aaB
def tr (n:Nat)(Mr:Bk):Option Bk :=(jm n Mr n ([34]:Bk) 0).bind λ aab=>ck (aab.length+([34]:Bk).length<=9223372036854775807)<|some (aab++([34]:Bk))
def em (Mr:Bk)(Uf:Int)(lo_2:Int)(hi_3:Int):Option Bool :=(if Uf<(Mr.length:Int) then ck ((0:Int)<=Uf/\Uf<(Mr.length:Int))<|if lo_2<=byt Mr Uf then ck ((0:Int)<=Uf/\Uf<(Mr.length:Int))<|some (decide (byt Mr Uf<=hi_3))else some false else some false).bind λ t5=>some t5
instance Ml (Mr:Bk) (Uf:Int) (lo_2:Int) (hi_3:Int):∀ (r:Bool),HP (em Mr Uf lo_2 hi_3=some r) Tryz.prog 179 [eS Mr,eI Uf,eK .u8 lo_2,eK .u8 hi_3] (.p (eB r)):=by
 refine hP good Tryz.func179 Z Z λ r h0 _ w0=>?_;unfold em at h0;have:=js [100];have:=jS 100 Bool λ v=>[(8,.p (eB v))]
 exact J0
def jv (Mr:Bk)(Uf:Int):Option (Int×Int) :=(if Uf<0 then some true else some (decide ((Mr.length:Int)<=Uf))).bind λ t2=>if t2=true then some (0,0)else ck ((0:Int)<=Uf/\Uf<(Mr.length:Int))<|if byt Mr Uf<128 then ck (inR (byt Mr Uf))<|some (byt Mr Uf,1)else(if 194<=byt Mr Uf then if byt Mr Uf<=223 then ck (inR (Uf+1))<|(em Mr (Uf+1) 128 191).bind λ UN=>some UN else some false else some false).bind λ t12=>if t12=true then ck (inR (bK .u8 (byt Mr Uf) 31))<|ck ((0:Int)<=6)<|ck (inR (Uf+1))<|ck ((0:Int)<=Uf+1/\Uf+1<(Mr.length:Int))<|ck (inR (bK .u8 (byt Mr (Uf+1)) 63))<|some (iOr .i64 (lc .i64 (bK .u8 (byt Mr Uf) 31) 6) (bK .u8 (byt Mr (Uf+1)) 63),2)else(if byt Mr Uf=224 then some 160 else some 128).bind λ lo20=>(if byt Mr Uf=237 then some 159 else some 191).bind λ hi22=>(if 224<=byt Mr Uf then if byt Mr Uf<=239 then ck (inR (Uf+1))<|(em Mr (Uf+1) lo20 hi22).bind λ Ve=>if Ve=true then ck (inR (Uf+2))<|(em Mr (Uf+2) 128 191).bind λ Xd=>some Xd else some false else some false else some false).bind λ t32=>if t32=true then ck (inR (bK .u8 (byt Mr Uf) 15))<|ck ((0:Int)<=12)<|ck (inR (Uf+1))<|ck ((0:Int)<=Uf+1/\Uf+1<(Mr.length:Int))<|ck (inR (bK .u8 (byt Mr (Uf+1)) 63))<|ck ((0:Int)<=6)<|ck (inR (Uf+2))<|ck ((0:Int)<=Uf+2/\Uf+2<(Mr.length:Int))<|ck (inR (bK .u8 (byt Mr (Uf+2)) 63))<|some (iOr .i64 (iOr .i64 (lc .i64 (bK .u8 (byt Mr Uf) 15) 12) (lc .i64 (bK .u8 (byt Mr (Uf+1)) 63) 6)) (bK .u8 (byt Mr (Uf+2)) 63),3)else(if byt Mr Uf=240 then some 144 else some 128).bind λ lo44=>(if byt Mr Uf=244 then some 143 else some 191).bind λ hi46=>(if 240<=byt Mr Uf then if byt Mr Uf<=244 then ck (inR (Uf+1))<|(em Mr (Uf+1) lo44 hi46).bind λ r50=>if r50=true then ck (inR (Uf+2))<|(em Mr (Uf+2) 128 191).bind λ V8=>if V8=true then ck (inR (Uf+3))<|(em Mr (Uf+3) 128 191).bind λ Vi=>some Vi else some false else some false else some false else some false).bind λ t60=>if t60=true then ck (inR (bK .u8 (byt Mr Uf) 7))<|ck ((0:Int)<=18)<|ck (inR (Uf+1))<|ck ((0:Int)<=Uf+1/\Uf+1<(Mr.length:Int))<|ck (inR (bK .u8 (byt Mr (Uf+1)) 63))<|ck ((0:Int)<=12)<|ck (inR (Uf+2))<|ck ((0:Int)<=Uf+2/\Uf+2<(Mr.length:Int))<|ck (inR (bK .u8 (byt Mr (Uf+2)) 63))<|ck ((0:Int)<=6)<|ck (inR (Uf+3))<|ck ((0:Int)<=Uf+3/\Uf+3<(Mr.length:Int))<|ck (inR (bK .u8 (byt Mr (Uf+3)) 63))<|some (iOr .i64 (iOr .i64 (iOr .i64 (lc .i64 (bK .u8 (byt Mr Uf) 7) 18) (lc .i64 (bK .u8 (byt Mr (Uf+1)) 63) 12)) (lc .i64 (bK .u8 (byt Mr (Uf+2)) 63) 6)) (bK .u8 (byt Mr (Uf+3)) 63),4)else some (0,0)
instance Gt (Mr:Bk) (Uf:Int):∀ (r:Int×Int),HP (jv Mr Uf=some r) Tryz.prog 161 [eS Mr,eI Uf] (.tuple [.p (eI r.1),.p (eI r.2)]):=by
 refine hP good Tryz.func161 Z Z λ r h0 _ w0=>?_;unfold jv at h0;refine nx 7 Z (bd h0 λ o83 h1 h0=>kN o83 (λ v84=>⟨[(0,.p (eS Mr)),(1,.p (eI Uf)),(16,.p (eB v84))],[]⟩) ?_ ?_)
 ·refine nx 1 Z (fB [16] h0 Z (λ c3 h0=>?_) λ c3 h0=>?_)
  ·exact J0
  refine nx 6 Z (oI h0 Z λ Yq h0=>nx 8 Z (fD [21] h0 Z (λ c5 h0=>?_) λ c5 h0=>?_))
  ·exact nx 4 Z (cc' h0 λ hk6 h0=>mO Z (fm Z Z Z Z Z Z Z Z (jt hk6) J0))
  refine nx 4 Z (bd h0 λ o85 h1 h0=>kN o85 (λ YN=>⟨[(0,.p (eS Mr)),(1,.p (eI Uf)),(6,.p (eK .u8 (byt Mr Uf))),(35,.p (eB YN))],[]⟩) ?_ ?_)
  ·refine nx 1 Z (fB [35] h0 Z (λ YL h0=>?_) λ YL h0=>?_)
   ·exact nx 5 Z (cc' h0 λ WU h0=>mO Z (fm Z Z Z Z Z Z Z Z (jt WU) (cc' h0 λ Wr h0=>mO Z (kY Z Z Z Z Z Z Wr (nx 2 Z (oA h0 Z Z λ V7 h0=>oI h0 Z λ XC h0=>nx 1 Z (cc' h0 λ VP h0=>mO Z (fm Z Z Z Z Z Z Z Z (jt VP) J0))))))))
   refine nx 8 Z (bd h0 λ o87 h1 h0=>kN o87 (λ v88=>⟨[(0,.p (eS Mr)),(1,.p (eI Uf)),(6,.p (eK .u8 (byt Mr Uf))),(7,.p (eK .u8 v88)),(8,.p (eK .u8 191))],[]⟩) ?_ ?_)
   ·refine nx 2 Z (bd h0 λ o89 h1 h0=>kN o89 (λ v90=>⟨[(0,.p (eS Mr)),(1,.p (eI Uf)),(6,.p (eK .u8 (byt Mr Uf))),(7,.p (eK .u8 o87)),(8,.p (eK .u8 v90))],[]⟩) ?_ ?_)
    ·refine nx 3 Z (bd h0 λ o91 h1 h0=>kN o91 (λ v92=>⟨[(0,.p (eS Mr)),(1,.p (eI Uf)),(6,.p (eK .u8 (byt Mr Uf))),(70,.p (eB v92))],[]⟩) ?_ ?_)
     ·refine nx 1 Z (fB [70] h0 Z (λ Z4 h0=>?_) λ Z4 h0=>?_)
      ·refine nx 2 Z (cc' h0 λ XB h0=>cc' h0 λ X4 h0=>cc' h0 λ ZY h0=>cc' h0 λ XA h0=>cc' h0 λ aaQ h0=>cc' h0 λ ZX h0=>cc' h0 λ ZW h0=>cc' h0 λ W5 h0=>cc' h0 λ ZV h0=>mD [(0,.p (eS Mr)),(1,.p (eI Uf)),(6,.p (eK .u8 (byt Mr Uf)))] Z ⟨Z,Z,Z,trivial⟩ Z (dR 2 Z (dq (.p (eI (bK .u8 (byt Mr Uf) 15))) [72] Z (λ _ e _ q=>ap Z (fm Z Z Z Z Z Z Z (e _ _ Z) (jt XB) q)) Z (dq (.p (eI (lc .i64 (bK .u8 (byt Mr Uf) 15) 12))) [73] Z (λ _ e _ q=>ap Z (kY Z Z Z (e _ _ Z) Z Z X4 q)) Z (dR 2 Z (dq (.p (eI (Uf+1))) [76] Z (λ _ e _ q=>ap Z (fM Z Z Z (e _ _ Z) Z Z ZY q)) Z (dq (.p (eK .u8 (byt Mr (Uf+1)))) [75,77] Z (λ _ e _ q=>ap Z (fK Z Z Z Z Z (e _ _ Z) (e _ _ Z) XA q)) Z (dR 1 Z (dq (.p (eI (bK .u8 (byt Mr (Uf+1)) 63))) [79] Z (λ _ e _ q=>ap Z (fm Z Z Z Z Z Z Z (e _ _ Z) (jt aaQ) q)) Z (dq (.p (eI (lc .i64 (bK .u8 (byt Mr (Uf+1)) 63) 6))) [80] Z (λ _ e _ q=>ap Z (kY Z Z Z (e _ _ Z) Z Z ZX q)) Z (dR 3 Z (dq (.p (eI (Uf+2))) [84] Z (λ _ e _ q=>ap Z (fM Z Z Z (e _ _ Z) Z Z ZW q)) Z ?_))))))))))));exact dq (.p (eK .u8 (byt Mr (Uf+2)))) [83,85] Z (λ _ e _ q=>ap Z (fK Z Z Z Z Z (e _ _ Z) (e _ _ Z) W5 q)) Z (dR 1 Z (dq (.p (eI (bK .u8 (byt Mr (Uf+2)) 63))) [87] Z (λ _ e _ q=>ap Z (fm Z Z Z Z Z Z Z (e _ _ Z) (jt ZV) q)) Z (dR 3 Z J0)))
      refine nx 8 Z (bd h0 λ o93 h1 h0=>kN o93 (λ v94=>⟨[(0,.p (eS Mr)),(1,.p (eI Uf)),(6,.p (eK .u8 (byt Mr Uf))),(7,.p (eK .u8 v94)),(8,.p (eK .u8 191))],[]⟩) ?_ ?_)
      ·refine nx 2 Z (bd h0 λ o95 h1 h0=>kN o95 (λ v96=>⟨[(0,.p (eS Mr)),(1,.p (eI Uf)),(6,.p (eK .u8 (byt Mr Uf))),(7,.p (eK .u8 o93)),(8,.p (eK .u8 v96))],[]⟩) ?_ ?_)
       ·refine nx 3 Z (bd h0 λ o97 h1 h0=>kN o97 (λ v98=>⟨[(0,.p (eS Mr)),(1,.p (eI Uf)),(6,.p (eK .u8 (byt Mr Uf))),(119,.p (eB v98))],[]⟩) ?_ ?_)
        ·refine nx 1 Z (fB [119] h0 Z (λ c61 h0=>?_) λ c61 h0=>?_)
         ·refine nx 2 Z (cc' h0 λ aaN h0=>cc' h0 λ hk63 h0=>cc' h0 λ hk64 h0=>cc' h0 λ Zc h0=>cc' h0 λ hk66 h0=>cc' h0 λ hk67 h0=>cc' h0 λ abN h0=>cc' h0 λ aaM h0=>cc' h0 λ abM h0=>cc' h0 λ aaL h0=>cc' h0 λ hk72 h0=>cc' h0 λ abL h0=>cc' h0 λ abK h0=>mD [(0,.p (eS Mr)),(1,.p (eI Uf)),(6,.p (eK .u8 (byt Mr Uf)))] Z ⟨Z,Z,Z,trivial⟩ Z (dR 2 Z (dq (.p (eI (bK .u8 (byt Mr Uf) 7))) [121] Z (λ _ e _ q=>ap Z (fm Z Z Z Z Z Z Z (e _ _ Z) (jt aaN) q)) Z (dq (.p (eI (lc .i64 (bK .u8 (byt Mr Uf) 7) 18))) [122] Z (λ _ e _ q=>ap Z (kY Z Z Z (e _ _ Z) Z Z hk63 q)) Z (dR 2 Z (dq (.p (eI (Uf+1))) [125] Z (λ _ e _ q=>ap Z (fM Z Z Z (e _ _ Z) Z Z hk64 q)) Z (dq (.p (eK .u8 (byt Mr (Uf+1)))) [124,126] Z (λ _ e _ q=>ap Z (fK Z Z Z Z Z (e _ _ Z) (e _ _ Z) Zc q)) Z (dR 1 Z (dq (.p (eI (bK .u8 (byt Mr (Uf+1)) 63))) [128] Z (λ _ e _ q=>ap Z (fm Z Z Z Z Z Z Z (e _ _ Z) (jt hk66) q)) Z (dq (.p (eI (lc .i64 (bK .u8 (byt Mr (Uf+1)) 63) 12))) [129] Z (λ _ e _ q=>ap Z (kY Z Z Z (e _ _ Z) Z Z hk67 q)) Z ?_))))))))));exact dR 3 Z (dq (.p (eI (Uf+2))) [133] Z (λ _ e _ q=>ap Z (fM Z Z Z (e _ _ Z) Z Z abN q)) Z (dq (.p (eK .u8 (byt Mr (Uf+2)))) [132,134] Z (λ _ e _ q=>ap Z (fK Z Z Z Z Z (e _ _ Z) (e _ _ Z) aaM q)) Z (dR 1 Z (dq (.p (eI (bK .u8 (byt Mr (Uf+2)) 63))) [136] Z (λ _ e _ q=>ap Z (fm Z Z Z Z Z Z Z (e _ _ Z) (jt abM) q)) Z (dq (.p (eI (lc .i64 (bK .u8 (byt Mr (Uf+2)) 63) 6))) [137] Z (λ _ e _ q=>ap Z (kY Z Z Z (e _ _ Z) Z Z aaL q)) Z (dR 3 Z (dq (.p (eI (Uf+3))) [141] Z (λ _ e _ q=>ap Z (fM Z Z Z (e _ _ Z) Z Z hk72 q)) Z (dq (.p (eK .u8 (byt Mr (Uf+3)))) [140,142] Z (λ _ e _ q=>ap Z (fK Z Z Z Z Z (e _ _ Z) (e _ _ Z) abL q)) Z (dR 1 Z (dq (.p (eI (bK .u8 (byt Mr (Uf+3)) 63))) [144] Z (λ _ e _ q=>ap Z (fm Z Z Z Z Z Z Z (e _ _ Z) (jt abK) q)) Z (dR 3 Z J0)))))))))))
         exact J0
        exact az
       exact az
      exact az
     exact az
    exact az
   exact az
  exact az
 exact az
def gH (Mr:Bk):Nat->Int->Option (Unit⊕Bool)|0,_=>none|m+1,i8=>if i8<(Mr.length:Int) then(jv Mr i8).bind λ UN=>if UN.2=0 then some (.inr false)else ck (inR (i8+UN.2))<|gH Mr m (i8+UN.2)else some (.inl ())
def lS (n:Nat)(Mr:Bk):Option Bool :=if 4096<(Mr.length:Int) then some false else jn (gH Mr n 0) λ _Xo=>some true
instance Hb (n:Nat) (Mr:Bk):∀ (r:Bool),HP (lS n Mr=some r) Tryz.prog 205 [eS Mr] (.p (eB r)):=by
 refine hP good Tryz.func205 Z Z λ r h0 _ w0=>?_;unfold lS at h0;refine nx 8 Z (oLs Z (nx 2 Z (fD [8] h0 Z (λ c1 h0=>?_) λ c1 h0=>?_)))
 ·exact J0
 refine nx 8 rfl ?_;obtain ⟨o16,h1,UV,hR0⟩:=bo h0;refine kEx 0 (λ v17:Unit=>o16=.inl v17) (λ v17=>⟨[],[]⟩) (λ v17 hv=>?_) ?_
 ·exact fR
 refine lG (λ (q18:Int)=>⟨[(0,.p (eS Mr)),(3,.p (eI q18))],[]⟩) (λ m (q18:Int)=>gH Mr m q18) Y 0 h1 (gE rfl rfl) ?_;rintro m i8 h1;replace h1:gH Mr (m+1) i8=some o16:=h1;rw [gH] at h1;exact az
def mU (b_0:Int):Option Int :=(if 48<=b_0 then some (decide (b_0<=57))else some false).bind λ t2=>if t2=true then ck (inR (IntKind.wrap .u8 (b_0-48)))<|some (IntKind.wrap .u8 (b_0-48))else(if 97<=b_0 then some (decide (b_0<=102))else some false).bind λ t6=>if t6=true then ck (inR (IntKind.wrap .u8 (b_0-97)))<|ck (inR ((IntKind.wrap .u8 (b_0-97))+10))<|some ((IntKind.wrap .u8 (b_0-97))+10)else some (-1)
instance OB (b_0:Int):∀ (r:Int),HP (mU b_0=some r) Tryz.prog 194 [eK .u8 b_0] (.p (eI r)):=by
 refine hP good Tryz.func194 Z Z λ r h0 _ w0=>?_;unfold mU at h0;refine nx 6 Z (bd h0 λ o12 h1 h0=>kN o12 (λ v13=>⟨[(0,.p (eK .u8 b_0)),(8,.p (eB v13))],[]⟩) ?_ ?_)
 ·refine nx 1 Z (fB [8] h0 Z (λ c3 h0=>?_) λ c3 h0=>?_)
  ·exact nx 5 Z (cc' h0 λ Yq h0=>mO Z (fm Z Z Z Z Z Z Z Z (jt Yq) J0))
  refine nx 4 Z (bd h0 λ o14 h1 h0=>kN o14 (λ v15=>⟨[(0,.p (eK .u8 b_0)),(17,.p (eB v15))],[]⟩) ?_ ?_)
  ·refine nx 1 Z (fB [17] h0 Z (λ c7 h0=>?_) λ c7 h0=>?_)
   ·exact nx 5 Z (cc' h0 λ hk8 h0=>mO Z (fm Z Z Z Z Z Z Z Z (jt hk8) J0))
   exact J0
  exact az
 exact az
def fG (Mr:Bk)(Uf:Int):Nat->Int->Int->Option (Int×Int)|0,_,_=>none|m+1,XP,n20=>(ck (inR (Uf+n20))<|if Uf+n20<(Mr.length:Int) then if n20<6 then ck (inR (Uf+n20))<|ck ((0:Int)<=Uf+n20/\Uf+n20<(Mr.length:Int))<|(mU (byt Mr (Uf+n20))).bind λ Ve=>some (decide (0<=Ve))else some false else some false).bind λ t28=>if t28=true then ck (inR (16*XP))<|ck (inR (Uf+n20))<|ck ((0:Int)<=Uf+n20/\Uf+n20<(Mr.length:Int))<|(mU (byt Mr (Uf+n20))).bind λ WN=>ck (inR ((16*XP)+WN))<|ck (inR (n20+1))<|fG Mr Uf m ((16*XP)+WN) (n20+1)else some (XP,n20)
def lP (n:Nat)(Mr:Bk)(Uf:Int):Option (Int×Int×Int) :=(fG Mr Uf n 0 0).bind λ WE=>ck (inR (Uf+WE.2))<|if (Mr.length:Int)<=Uf+WE.2 then some (0,0,40)else(if WE.2=0 then some true else ck (inR (Uf+WE.2))<|ck ((0:Int)<=Uf+WE.2/\Uf+WE.2<(Mr.length:Int))<|if byt Mr (Uf+WE.2)=125 then if 1<WE.2 then ck ((0:Int)<=Uf/\Uf<(Mr.length:Int))<|if byt Mr Uf=48 then some true else if 1114111<WE.1 then some true else if 55296<=WE.1 then some (decide (WE.1<=57343))else some false else if 1114111<WE.1 then some true else if 55296<=WE.1 then some (decide (WE.1<=57343))else some false else some true).bind λ t54=>if t54=true then some (0,0,2)else ck (inR (Uf+WE.2))<|ck (inR ((Uf+WE.2)+1))<|some (WE.1,(Uf+WE.2)+1,0)
instance Jh (n:Nat) (Mr:Bk) (Uf:Int):∀ (r:Int×Int×Int),HP (lP n Mr Uf=some r) Tryz.prog 177 [eS Mr,eI Uf] (.tuple [.p (eI r.1),.p (eI r.2.1),.p (eI r.2.2)]):=by
 refine hP good Tryz.func177 Z Z λ r h0 _ w0=>?_;unfold lP at h0;refine nx 13 Z (bd h0 λ o61 h1 h0=>kE 0 o61 (λ v62=>⟨[(0,.p (eS Mr)),(1,.p (eI Uf)),(7,.p (eI v62.1)),(8,.p (eI v62.2))],[]⟩) ?_ ?_)
 ·have:=js [700];have:=jS 700 Bool λ v=>[(76,.p (eB v))]
  exact J0
 refine lG (λ (Xt:Int×Int)=>⟨[(0,.p (eS Mr)),(1,.p (eI Uf)),(7,.p (eI Xt.1)),(8,.p (eI Xt.2))],[]⟩) (λ m (Xt:Int×Int)=>fG Mr Uf m Xt.1 Xt.2) Y (0,0) h1 (gE rfl rfl) ?_;rintro m ⟨XP,n20⟩ h1;replace h1:fG Mr Uf (m+1) XP n20=some o61:=h1;rw [fG] at h1;have:=js [200];have:=jS 200 Bool λ v=>[(27,.p (eB v))]
 exact az
def kU (Ut:Int):Option Bk :=if Ut<128 then ck ((0:Int)<=IntKind.wrap .u8 (Ut)/\IntKind.wrap .u8 (Ut)<256)<|some [u8 (IntKind.wrap .u8 (Ut))] else if Ut<2048 then ck ((0:Int)<=6)<|ck ((0:Int)<=IntKind.wrap .u8 (iOr .i64 192 (cV .i64 Ut 6))/\IntKind.wrap .u8 (iOr .i64 192 (cV .i64 Ut 6))<256)<|ck ((0:Int)<=IntKind.wrap .u8 (iOr .i64 128 (bK .i64 Ut 63))/\IntKind.wrap .u8 (iOr .i64 128 (bK .i64 Ut 63))<256)<|some [u8 (IntKind.wrap .u8 (iOr .i64 192 (cV .i64 Ut 6))),u8 (IntKind.wrap .u8 (iOr .i64 128 (bK .i64 Ut 63)))] else if Ut<65536 then ck ((0:Int)<=12)<|ck ((0:Int)<=6)<|ck ((0:Int)<=IntKind.wrap .u8 (iOr .i64 224 (cV .i64 Ut 12))/\IntKind.wrap .u8 (iOr .i64 224 (cV .i64 Ut 12))<256)<|ck ((0:Int)<=IntKind.wrap .u8 (iOr .i64 128 (bK .i64 (cV .i64 Ut 6) 63))/\IntKind.wrap .u8 (iOr .i64 128 (bK .i64 (cV .i64 Ut 6) 63))<256)<|ck ((0:Int)<=IntKind.wrap .u8 (iOr .i64 128 (bK .i64 Ut 63))/\IntKind.wrap .u8 (iOr .i64 128 (bK .i64 Ut 63))<256)<|some [u8 (IntKind.wrap .u8 (iOr .i64 224 (cV .i64 Ut 12))),u8 (IntKind.wrap .u8 (iOr .i64 128 (bK .i64 (cV .i64 Ut 6) 63))),u8 (IntKind.wrap .u8 (iOr .i64 128 (bK .i64 Ut 63)))] else ck ((0:Int)<=18)<|ck ((0:Int)<=12)<|ck ((0:Int)<=6)<|ck ((0:Int)<=IntKind.wrap .u8 (iOr .i64 240 (cV .i64 Ut 18))/\IntKind.wrap .u8 (iOr .i64 240 (cV .i64 Ut 18))<256)<|ck ((0:Int)<=IntKind.wrap .u8 (iOr .i64 128 (bK .i64 (cV .i64 Ut 12) 63))/\IntKind.wrap .u8 (iOr .i64 128 (bK .i64 (cV .i64 Ut 12) 63))<256)<|ck ((0:Int)<=IntKind.wrap .u8 (iOr .i64 128 (bK .i64 (cV .i64 Ut 6) 63))/\IntKind.wrap .u8 (iOr .i64 128 (bK .i64 (cV .i64 Ut 6) 63))<256)<|ck ((0:Int)<=IntKind.wrap .u8 (iOr .i64 128 (bK .i64 Ut 63))/\IntKind.wrap .u8 (iOr .i64 128 (bK .i64 Ut 63))<256)<|some [u8 (IntKind.wrap .u8 (iOr .i64 240 (cV .i64 Ut 18))),u8 (IntKind.wrap .u8 (iOr .i64 128 (bK .i64 (cV .i64 Ut 12) 63))),u8 (IntKind.wrap .u8 (iOr .i64 128 (bK .i64 (cV .i64 Ut 6) 63))),u8 (IntKind.wrap .u8 (iOr .i64 128 (bK .i64 Ut 63)))]
instance Gi (Ut:Int):∀ (r:Bk),HP (kU Ut=some r) Tryz.prog 178 [eI Ut] (.p (eS r)):=by
 refine hP good Tryz.func178 Z Z λ r h0 _ w0=>?_;unfold kU at h0;refine nx 10 Z (fD [4] h0 Z (λ c1 h0=>?_) λ c1 h0=>?_)
 ·exact nx 5 Z (cc' h0 λ Wz h0=>mO Z (aK eU [u8 (IntKind.wrap .u8 (Ut))] Z Z Z Z Z Z Z Z Z Z Z Z Z (congr (congrArg List.cons (kh Wz)) Z) (mO Z (qq [u8 (IntKind.wrap .u8 (Ut))] Z Z Z Z Z Z Z Z Z Z Z J0))))
 refine nx 8 Z (fD [10] h0 Z (λ c3 h0=>?_) λ c3 h0=>?_)
 ·exact nx 4 Z (cc' h0 λ Yq h0=>mO Z (kY Z Z Z Z Z Z Yq (nx 6 Z (cc' h0 λ hk6 h0=>cc' h0 λ hk5 h0=>mO Z (aK eU [u8 (IntKind.wrap .u8 (iOr .i64 192 (cV .i64 Ut 6))),u8 (IntKind.wrap .u8 (iOr .i64 128 (bK .i64 Ut 63)))] Z Z Z Z Z Z Z Z Z Z Z Z Z (congr (congrArg List.cons (kh hk6)) (congr (congrArg List.cons (kh hk5)) Z)) (mO Z (qq [u8 (IntKind.wrap .u8 (iOr .i64 192 (cV .i64 Ut 6))),u8 (IntKind.wrap .u8 (iOr .i64 128 (bK .i64 Ut 63)))] Z Z Z Z Z Z Z Z Z Z Z J0)))))))
 refine nx 8 Z (fD [22] h0 Z (λ c7 h0=>?_) λ c7 h0=>?_)
 ·refine nx 4 Z (cc' h0 λ hk8 h0=>mO Z (kY Z Z Z Z Z Z hk8 (nx 3 Z (cc' h0 λ ZC h0=>mO Z (kY Z Z Z Z Z Z ZC (nx 7 Z (cc' h0 λ Zi h0=>cc' h0 λ WV h0=>cc' h0 λ Xh h0=>mO Z (aK eU [u8 (IntKind.wrap .u8 (iOr .i64 224 (cV .i64 Ut 12))),u8 (IntKind.wrap .u8 (iOr .i64 128 (bK .i64 (cV .i64 Ut 6) 63))),u8 (IntKind.wrap .u8 (iOr .i64 128 (bK .i64 Ut 63)))] Z Z Z Z Z Z Z Z Z Z Z Z Z (congr (congrArg List.cons (kh Zi)) (congr (congrArg List.cons (kh WV)) (congr (congrArg List.cons (kh Xh)) Z))) (mO Z (qq [u8 (IntKind.wrap .u8 (iOr .i64 224 (cV .i64 Ut 12))),u8 (IntKind.wrap .u8 (iOr .i64 128 (bK .i64 (cV .i64 Ut 6) 63))),u8 (IntKind.wrap .u8 (iOr .i64 128 (bK .i64 Ut 63)))] Z Z Z Z Z Z Z Z Z Z Z ?_))))))))));exact J0
 refine nx 5 Z (cc' h0 λ WA h0=>mO Z (kY Z Z Z Z Z Z WA (nx 3 Z (cc' h0 λ WU h0=>mO Z (kY Z Z Z Z Z Z WU (nx 4 Z (cc' h0 λ Wr h0=>mO Z (kY Z Z Z Z Z Z Wr (nx 7 Z (cc' h0 λ Wq h0=>?_))))))))));exact cc' h0 λ VP h0=>cc' h0 λ XC h0=>cc' h0 λ V7 h0=>mO Z (aK eU [u8 (IntKind.wrap .u8 (iOr .i64 240 (cV .i64 Ut 18))),u8 (IntKind.wrap .u8 (iOr .i64 128 (bK .i64 (cV .i64 Ut 12) 63))),u8 (IntKind.wrap .u8 (iOr .i64 128 (bK .i64 (cV .i64 Ut 6) 63))),u8 (IntKind.wrap .u8 (iOr .i64 128 (bK .i64 Ut 63)))] Z Z Z Z Z Z Z Z Z Z Z Z Z (congr (congrArg List.cons (kh Wq)) (congr (congrArg List.cons (kh VP)) (congr (congrArg List.cons (kh XC)) (congr (congrArg List.cons (kh V7)) Z)))) (mO Z (qq [u8 (IntKind.wrap .u8 (iOr .i64 240 (cV .i64 Ut 18))),u8 (IntKind.wrap .u8 (iOr .i64 128 (bK .i64 (cV .i64 Ut 12) 63))),u8 (IntKind.wrap .u8 (iOr .i64 128 (bK .i64 (cV .i64 Ut 6) 63))),u8 (IntKind.wrap .u8 (iOr .i64 128 (bK .i64 Ut 63)))] Z Z Z Z Z Z Z Z Z Z Z J0)))
def jN (n:Nat)(Mr:Bk)(Uf:Int):Option (Bk×Int×Int) :=ck (inR (Uf+1))<|if (Mr.length:Int)<=Uf+1 then some (([]:Bk),0,40)else ck (inR (Uf+1))<|ck ((0:Int)<=Uf+1/\Uf+1<(Mr.length:Int))<|if byt Mr (Uf+1)=110 then ck (inR (Uf+2))<|some (([10]:Bk),Uf+2,0)else if byt Mr (Uf+1)=114 then ck (inR (Uf+2))<|some (([13]:Bk),Uf+2,0)else if byt Mr (Uf+1)=116 then ck (inR (Uf+2))<|some (([9]:Bk),Uf+2,0)else(if byt Mr (Uf+1)=34 then some true else some (decide (byt Mr (Uf+1)=92))).bind λ t12=>if t12=true then ck (inR (Uf+1))<|ck (inR (Uf+2))<|ck ((0:Int)<=Uf+1/\Uf+1<=Uf+2/\Uf+2<=(Mr.length:Int))<|ck (inR (Uf+2))<|some (sub Mr (Uf+1) (Uf+2),Uf+2,0)else if byt Mr (Uf+1)=117 then ck (inR (Uf+2))<|if (Mr.length:Int)<=Uf+2 then some (([]:Bk),0,40)else ck (inR (Uf+2))<|ck ((0:Int)<=Uf+2/\Uf+2<(Mr.length:Int))<|if byt Mr (Uf+2)=123 then ck (inR (Uf+3))<|(lP n Mr (Uf+3)).bind λ VX=>if VX.2.2=0 then(kU VX.1).bind λ UX=>some (UX,VX.2.1,0)else some (([]:Bk),0,VX.2.2)else some (([]:Bk),0,2)else some (([]:Bk),0,2)
instance E6 (n:Nat) (Mr:Bk) (Uf:Int):∀ (r:Bk×Int×Int),HP (jN n Mr Uf=some r) Tryz.prog 160 [eS Mr,eI Uf] (.tuple [.p (eS r.1),.p (eI r.2.1),.p (eI r.2.2)]):=by
 refine hP good Tryz.func160 Z Z λ r h0 _ w0=>?_;unfold jN at h0;have:=js [1001];have:=jS 1001 Bool λ v=>[(31,.p (eB v))]
 exact J0
def mI (n:Nat)(Mr:Bk)(Uf:Int):Option (Bk×Int×Int) :=ck ((0:Int)<=Uf/\Uf<(Mr.length:Int))<|if byt Mr Uf=92 then(jN n Mr Uf).bind λ r3=>some (r3.1,r3.2.1,r3.2.2)else(jv Mr Uf).bind λ r5=>(if r5.2=0 then some true else ck ((0:Int)<=Uf/\Uf<(Mr.length:Int))<|if byt Mr Uf<32 then some true else ck ((0:Int)<=Uf/\Uf<(Mr.length:Int))<|some (decide (byt Mr Uf=127))).bind λ t11=>if t11=true then some (([]:Bk),0,2)else ck (inR (Uf+r5.2))<|ck ((0:Int)<=Uf/\Uf<=Uf+r5.2/\Uf+r5.2<=(Mr.length:Int))<|ck (inR (Uf+r5.2))<|some (sub Mr Uf (Uf+r5.2),Uf+r5.2,0)
instance Na (n:Nat) (Mr:Bk) (Uf:Int):∀ (r:Bk×Int×Int),HP (mI n Mr Uf=some r) Tryz.prog 128 [eS Mr,eI Uf] (.tuple [.p (eS r.1),.p (eI r.2.1),.p (eI r.2.2)]):=by
 refine hP good Tryz.func128 Z Z λ r h0 _ w0=>?_;unfold mI at h0;have:=js [400];have:=jS 400 Bool λ v=>[(38,.p (eB v))]
 exact J0
instance Sd:HE Tryz.prog 205:=⟨Tryz.call205⟩
instance RZ:HE Tryz.prog 189:=⟨Tryz.call189⟩
instance SN:HE Tryz.prog 191:=⟨Tryz.call191⟩
instance R6:HE Tryz.prog 173:=⟨Tryz.call173⟩
instance So:HE Tryz.prog 154:=⟨Tryz.call154⟩
instance R8:HE Tryz.prog 50:=⟨Tryz.call50⟩
def ko (Uj:am):Option Bool :=(if Uj.Ar=2 then some true else if Uj.Ar=1 then if Uj.F'=0 then some true else if Uj.F'=1 then some true else some (decide (Uj.F'=0))else some (decide (Uj.F'=0))).bind λ num5=>(if Uj.Ar=3 then some true else some (decide (Uj.If=([]:Bk)))).bind λ str7=>(if Uj.Ar=4 then some true else if Uj.Ar=5 then some true else some (decide ((Uj.Df.length:Int)=0))).bind λ items10=>(if Uj.Ar=5 then if (Uj.C'.length:Int)=(Uj.Df.length:Int) then some true else some false else some (decide ((Uj.C'.length:Int)=0))).bind λ keys13=>(if 0<=Uj.Ar then if Uj.Ar<=6 then if num5=true then if str7=true then if items10=true then some keys13 else some false else some false else some false else some false else some false).bind λ Vw=>some Vw
instance Ge (Uj:am):∀ (r:Bool),HP (ko Uj=some r) Tryz.prog 189 [.agg (am.cs Uj)] (.p (eB r)):=by
 refine hP good Tryz.func189 Z Z λ r h0 _ w0=>?_;unfold ko at h0;refine nx 6 Z (bd h0 λ W8 h1 h0=>kN W8 (λ WY=>⟨[(1,.ptr 1 0),(3,.p (eB WY))],[(1,(am.cs Uj).map .p)]⟩) ?_ ?_)
 ·refine nx 2 Z (bd h0 λ ZR h1 h0=>kN ZR (λ v28=>⟨[(1,.ptr 1 0),(3,.p (eB W8)),(4,.p (eB v28))],[(1,(am.cs Uj).map .p)]⟩) ?_ ?_)
  ·refine nx 2 Z (bd h0 λ W4 h1 h0=>kN W4 (λ VL=>⟨[(1,.ptr 1 0),(3,.p (eB W8)),(4,.p (eB ZR)),(5,.p (eB VL))],[(1,(am.cs Uj).map .p)]⟩) ?_ ?_)
   ·refine nx 2 Z (bd h0 λ Za h1 h0=>kN Za (λ YO=>⟨[(1,.ptr 1 0),(3,.p (eB W8)),(4,.p (eB ZR)),(5,.p (eB W4)),(6,.p (eB YO))],[(1,(am.cs Uj).map .p)]⟩) ?_ ?_)
    ·refine nx 2 Z (bd h0 λ o33 h1 h0=>kN o33 (λ Z6=>⟨[(2,.p (eB Z6))],[]⟩) ?_ ?_)
     ·exact J0
     exact az
    refine nx 5 Z (fD [54,55] h1 Z (λ Yl h1=>?_) λ Yl h1=>?_)
    ·refine nx 2 Z (oLl (f:=eS) Z Z (nx 2 Z (oLl (f:=db) Z Z (nx 3 Z (fD [62,63,64] h1 Z (λ c12 h1=>?_) λ c12 h1=>?_)))))
     ·exact az
     exact nx 4 Z (lT [68] (vT Yl) Z (nx 8 Z fS))
    exact nx 13 Z (lT [68] (xn Yl) Z (nx 2 Z (oLl (f:=eS) Z Z (nx 5 Z fS))))
   exact az
  exact az
 exact az
def jZ (n:Nat)(Mr:Bk):Option Int :=if 4096<(Mr.length:Int) then some 3 else(lS n Mr).bind λ r2=>if (!r2)=true then some 1 else some 0
instance Mt (n:Nat) (Mr:Bk):∀ (r:Int),HP (jZ n Mr=some r) Tryz.prog 191 [eS Mr] (.p (eI r)):=by
 refine hP good Tryz.func191 Z Z λ r h0 _ w0=>?_;unfold jZ at h0;exact J0
def gh (n:Nat)(Uj:am):Nat->Int->Option (Unit⊕Int)|0,_=>none|m+1,i25=>if i25<(Uj.C'.length:Int) then ck ((0:Int)<=i25/\i25<(Uj.C'.length:Int))<|(jZ n (lat Uj.C' i25)).bind λ UX=>if UX=0 then(if 0<i25 then ck (inR (i25-1))<|ck ((0:Int)<=i25-1/\i25-1<(Uj.C'.length:Int))<|ck ((0:Int)<=i25/\i25<(Uj.C'.length:Int))<|some (!Op.bytesLess (lat Uj.C' (i25-1)) (lat Uj.C' i25))else some false).bind λ t35=>if t35=true then some (.inr 1)else ck (inR (i25+1))<|gh n Uj m (i25+1)else some (.inr UX)else some (.inl ())
def nc (n:Nat)(Uj:am):Option Int :=(ko Uj).bind λ r1=>if (!r1)=true then some 1 else(if Uj.Ar=2 then(ka Uj.F').bind λ r5=>some (!r5)else some false).bind λ t7=>if t7=true then some 5 else(jZ n Uj.If).bind λ r9=>if r9=0 then jn (gh n Uj n 0) λ _ZO=>some 0 else some r9
instance Ma (n:Nat) (Uj:am):∀ (r:Int),HP (nc n Uj=some r) Tryz.prog 173 [.agg (am.cs Uj)] (.p (eI r)):=by
 refine hP good Tryz.func173 Z Z λ r h0 _ w0=>?_;unfold nc at h0;refine nx 9 Z (K0 λ r1 h0=>nx 2 Z (fB [8] h0 Z (λ c3 h0=>?_) λ c3 h0=>?_))
 ·exact J0
 refine nx 4 Z (bd h0 λ YS h1 h0=>kN YS (λ Xk=>⟨[(1,.ptr 1 0),(17,.p (eB Xk))],[(1,(am.cs Uj).map .p)]⟩) ?_ ?_)
 ·refine nx 1 Z (fB [17] h0 Z (λ c8 h0=>?_) λ c8 h0=>?_)
  ·exact J0
  refine nx 7 Z (K0 λ r9 h0=>nx 7 Z (fN [22] h0 Z (λ Yl h0=>?_) λ Yl h0=>?_))
  ·refine nx 8 rfl ?_;obtain ⟨Xy,h1,UV,hR0⟩:=bo h0;refine kEx 0 (λ XS:Unit=>Xy=.inl XS) (λ XS=>⟨[],[]⟩) (λ XS hv=>?_) ?_
   ·exact fR
   refine lG (λ (WF:Int)=>⟨[(1,.ptr 1 0),(4,.p (eI WF))],[(1,(am.cs Uj).map .p)]⟩) (λ m (WF:Int)=>gh n Uj m WF) Y 0 h1 (gE rfl rfl) ?_;rintro m i25 h1;replace h1:gh n Uj (m+1) i25=some Xy:=h1;rw [gh] at h1;refine nx 6 rfl (oLl (f:=eS) rfl rfl (nx 2 rfl (fD [28] h1 rfl (λ Z5 h1=>?_) λ Z5 h1=>?_)))
   ·refine nx 10 Z (oE h1 Y Z Z Y λ X5 h1=>nx 1 Z (K1 λ UX h1=>nx 7 Z (fN [38] h1 Z (λ c30 h1=>?_) λ c30 h1=>?_)))
    ·refine nx 3 Z (bd h1 λ o47 h2 h1=>kN o47 (λ v48=>⟨[(1,.ptr 1 0),(4,.p (eI i25)),(55,.p (eB v48))],[(1,(am.cs Uj).map .p)]⟩) ?_ ?_)
     ·exact az
     refine fD (p:=0<i25) [] h2 Z (λ c31 h2=>?_) λ c31 h2=>?_
     ·refine cc' h2 λ aaR h2=>cc' h2 λ abU h2=>cc' h2 λ XB h2=>mD [(1,.ptr 1 0),(4,.p (eI i25))] Z ⟨Z,Z,trivial⟩ Z (dR 1 Z (dL (dt c31) Z (dR 4 Z (dq (.p (eI (i25-1))) [42,45] Z (λ _ e _ q=>cx (fM Z Z Z (e _ _ Z) Z Z aaR q) Z Z (e _ _ Z) (rfl)) Z (dq (.rptr [eS (lat Uj.C' (i25-1))]) [42,44,46] Z (λ _ e _ q=>cx (jG (f:=eS) (l:=Uj.C') (λ x=>[eS x]) Z Z Z Z Z Z (e _ _ Z) Z (e _ _ Z) abU Y Y q) Z Z (e _ _ Z) (rfl)) Z (dR 4 Z (dq (.rptr [eS (lat Uj.C' i25)]) [42,50,51] Z (λ _ e _ q=>cx (jG (f:=eS) (l:=Uj.C') (λ x=>[eS x]) Z Z Z Z Z Z (e _ _ Z) Z (e _ _ Z) XB Y Y q) Z Z (e _ _ Z) (rfl)) Z (dR 1 Z (dq (.p (eB (!Op.bytesLess (lat Uj.C' (i25-1)) (lat Uj.C' i25)))) [42,48,53] Z (λ _ e _ q=>cx (kR Z Z Z (e _ _ Z) (e _ _ Z) Z q) Z Z (e _ _ Z) (rfl)) Z ?_)))))))));exact bP
     exact mD [(1,.ptr 1 0),(4,.p (eI i25))] Z ⟨Z,Z,trivial⟩ Z (dR 1 Z (dL (df c31) Z (dR 14 Z (dE Z Ql))))
    exact az
   exact az
  exact J0
 exact az
def gB (VD:am->Int->Int->Option (Int×Int))(Uj:am)(O':Int):Nat->Int->Int->Option (Int⊕(Int×Int))|0,_,_=>none|m+1,n16,i17=>if i17<(Uj.Df.length:Int) then ck ((0:Int)<=i17/\i17<(Uj.Df.length:Int))<|ck (inR (O'+1))<|(VD (lat Uj.Df i17) (O'+1) n16).bind λ UE=>if UE.1=0 then ck (inR (i17+1))<|gB VD Uj O' m UE.2 (i17+1)else some (.inr (UE.1,UE.2))else some (.inl n16)
def iy:Nat->am->Int->Int->Option (Int×Int)|0,_,_,_=>none|n+1,Uj,O',Uq=>if 32<O' then some (4,Uq)else if 4096<=Uq then some (14,Uq)else(nc n Uj).bind λ r3=>if r3=0 then ck (inR (Uq+1))<|jn (gB (iy n) Uj O' n (Uq+1) 0) λ n27=>some (0,n27)else some (r3,Uq)
instance LX (n:Nat):∀ (Uj:am) (O':Int) (Uq:Int) (r:Int×Int),HP (iy n Uj O' Uq=some r) Tryz.prog 154 [.agg (am.cs Uj),eI O',eI Uq] (.tuple [.p (eI r.1),.p (eI r.2)]):=by
 induction n with
 | zero=>exact Zr
 | succ n ih=>
 refine λ Uj O' Uq=>hP good Tryz.func154 Z Z λ r h0 _ w0=>?_;rw [iy] at h0;refine nx 12 Z (fD [14] h0 Z (λ c1 h0=>?_) λ c1 h0=>?_)
 ·exact J0
 refine nx 8 Z (fD [17] h0 Z (λ c2 h0=>?_) λ c2 h0=>?_)
 ·exact J0
 refine nx 6 Z (K0 λ r3 h0=>nx 7 Z (fN [22] h0 Z (λ c5 h0=>?_) λ c5 h0=>?_))
 ·refine nx 5 rfl (oA h0 Z Z λ hk6 h0=>nx 8 rfl ?_);obtain ⟨W4,h1,UV,hR0⟩:=bo h0;refine kEx 0 (λ VL:Int=>W4=.inl VL) (λ VL=>⟨[(9,.p (eI VL))],[]⟩) (λ VL hv=>?_) ?_
  ·exact fR
  refine lG (λ (V':Int×Int)=>⟨[(1,.p (eI O')),(3,.ptr 3 0),(9,.p (eI V'.1)),(10,.p (eI V'.2))],[(3,(am.cs Uj).map .p)]⟩) (λ m (V':Int×Int)=>gB (iy n) Uj O' m V'.1 V'.2) Y (Uq+1,0) h1 (gE rfl rfl) ?_;rintro m ⟨n16,i17⟩ h1;replace h1:gB (iy n) Uj O' (m+1) n16 i17=some W4:=h1;rw [gB] at h1;exact az
 exact J0
def lH (n:Nat)(Uj:am):Option Int :=(iy n Uj 1 0).bind λ r1=>some r1.1
instance JV (n:Nat) (Uj:am):∀ (r:Int),HP (lH n Uj=some r) Tryz.prog 116 [.agg (am.cs Uj)] (.p (eI r)):=by
 refine hP good Tryz.func116 Z Z λ r h0 _ w0=>?_;unfold lH at h0;exact J0
def eG (a_0:am)(UB:am):Nat->Int->Option (Unit⊕Bool)|0,_=>none|m+1,i13=>if i13<(a_0.C'.length:Int) then ck ((0:Int)<=i13/\i13<(a_0.C'.length:Int))<|ck ((0:Int)<=i13/\i13<(UB.C'.length:Int))<|if lat a_0.C' i13=lat UB.C' i13 then ck (inR (i13+1))<|eG a_0 UB m (i13+1)else some (.inr false)else some (.inl ())
def eH (VE:am->am->Option Bool)(a_0:am)(UB:am):Nat->Int->Option (Unit⊕Bool)|0,_=>none|m+1,i28=>if i28<(a_0.Df.length:Int) then ck ((0:Int)<=i28/\i28<(a_0.Df.length:Int))<|ck ((0:Int)<=i28/\i28<(UB.Df.length:Int))<|(VE (lat a_0.Df i28) (lat UB.Df i28)).bind λ WO=>if (!WO)=true then some (.inr false)else ck (inR (i28+1))<|eH VE a_0 UB m (i28+1)else some (.inl ())
def gp:Nat->am->am->Option Bool|0,_,_=>none|n+1,a_0,UB=>(if a_0.Ar=UB.Ar then if a_0.F'=UB.F' then if a_0.If=UB.If then if (a_0.Df.length:Int)=(UB.Df.length:Int) then some (!decide ((a_0.C'.length:Int)=(UB.C'.length:Int)))else some true else some true else some true else some true).bind λ t5=>if t5=true then some false else jn (eG a_0 UB n 0) λ _q38=>jn (eH (gp n) a_0 UB n 0) λ _YR=>some true
instance Lm (n:Nat):∀ (a_0:am) (UB:am) (r:Bool),HP (gp n a_0 UB=some r) Tryz.prog 50 [.agg (am.cs a_0),.agg (am.cs UB)] (.p (eB r)):=by
 induction n with
 | zero=>exact Zr
 | succ n ih=>
 refine λ a_0 UB=>hP good Tryz.func50 Z Z λ r h0 _ w0=>?_;rw [gp] at h0;refine nx 8 Z (bd h0 λ o40 h1 h0=>kN o40 (λ v41=>⟨[(2,.ptr 2 0),(3,.ptr 3 0),(43,.p (eB v41))],[(2,(am.cs a_0).map .p),(3,(am.cs UB).map .p)]⟩) ?_ ?_)
 ·refine nx 1 Z (fB [43] h0 Z (λ c6 h0=>?_) λ c6 h0=>?_)
  ·exact J0
  refine nx 8 rfl ?_;obtain ⟨YS,h1,UV,hR0⟩:=bo h0;refine kEx 0 (λ Xk:Unit=>YS=.inl Xk) (λ Xk=>⟨[(2,.ptr 2 0),(3,.ptr 3 0)],[(2,(am.cs a_0).map .p),(3,(am.cs UB).map .p)]⟩) (λ Xk hv=>?_) ?_
  ·have h0:=UV _ hv;refine nx 7 rfl ?_;obtain ⟨Xy,h1,UV,hR0⟩:=bo h0;refine kEx 2 (λ XS:Unit=>Xy=.inl XS) (λ XS=>⟨[],[]⟩) (λ XS hv=>?_) ?_
   ·exact fR
   refine lG (λ (WF:Int)=>⟨[(2,.ptr 2 0),(3,.ptr 3 0),(6,.p (eI WF))],[(2,(am.cs a_0).map .p),(3,(am.cs UB).map .p)]⟩) (λ m (WF:Int)=>eH (gp n) a_0 UB m WF) Y 0 h1 (gE rfl rfl) ?_;rintro m i28 h1;replace h1:eH (gp n) a_0 UB (m+1) i28=some Xy:=h1;rw [eH] at h1;refine nx 6 rfl (oLl (f:=db) rfl rfl (nx 2 rfl (fD [66] h1 rfl (λ c29 h1=>?_) λ c29 h1=>?_)))
   ·refine nx 5 Z (cc' h1 λ aaS h1=>cc' h1 λ Zg h1=>bd h1 λ WO e33 h1=>mD [(2,.ptr 2 0),(3,.ptr 3 0),(6,.p (eI i28))] Z ⟨Z,Z,Z,trivial⟩ Z (dR 3 Z (dq (.rptr (am.cs (lat a_0.Df i28))) [70,71] Z (λ _ e _ q=>ap Z (jG (f:=db) (l:=a_0.Df) am.cs Z Z Z Z Z Z (e _ _ Z) Z (e _ _ Z) aaS am.It Y q)) Z (dR 4 Z (dq (.rptr (am.cs (lat UB.Df i28))) [75,76] Z (λ _ e _ q=>ap Z (jG (f:=db) (l:=UB.Df) am.cs Z Z Z Z Z Z (e _ _ Z) Z (e _ _ Z) Zg am.It Y q)) Z (dR 1 Z (dq (.p (eB WO)) [73,78] Z (λ _ e _ q=>ap Z (cW (HP.c e33) Z Z Z (aE (e _ _ Z) (aE (e _ _ Z) bz)) ⟨sr,sr,trivial⟩ Tryz.call50 Z q)) Z (dR 1 Z ?_))))))));exact az
   exact az
  refine lG (λ (Wt:Int)=>⟨[(2,.ptr 2 0),(3,.ptr 3 0),(5,.p (eI Wt))],[(2,(am.cs a_0).map .p),(3,(am.cs UB).map .p)]⟩) (λ m (Wt:Int)=>eG a_0 UB m Wt) Y 0 h1 (gE rfl rfl) ?_;rintro m i13 h1;replace h1:eG a_0 UB (m+1) i13=some YS:=h1;rw [eG] at h1;refine nx 6 rfl (oLl (f:=eS) rfl rfl (nx 2 rfl (fD [48] h1 rfl (λ YK h1=>?_) λ YK h1=>?_)))
  ·refine nx 5 Z (cc' h1 λ Wr h1=>cc' h1 λ V7 h1=>mD [(2,.ptr 2 0),(3,.ptr 3 0),(5,.p (eI i13))] Z ⟨Z,Z,Z,trivial⟩ Z (dR 3 Z (dq (.rptr [eS (lat a_0.C' i13)]) [52,53] Z (λ _ e _ q=>ap Z (jG (f:=eS) (l:=a_0.C') (λ x=>[eS x]) Z Z Z Z Z Z (e _ _ Z) Z (e _ _ Z) Wr Y Y q)) Z (dR 4 Z (dq (.rptr [eS (lat UB.C' i13)]) [57,58] Z (λ _ e _ q=>ap Z (jG (f:=eS) (l:=UB.C') (λ x=>[eS x]) Z Z Z Z Z Z (e _ _ Z) Z (e _ _ Z) V7 Y Y q)) Z (dR 1 Z (dq (.p (eB (!decide (lat a_0.C' i13=lat UB.C' i13)))) [55,60] Z (λ _ e _ q=>ap Z (kR Z Z Z (e _ _ Z) (e _ _ Z) Z q)) Z (dE Z ?_))))))));exact az
  exact az
 exact az
variable {p:Prop}
theorem Be (h:p:=by
  exact nx 6 Z (eX _ (oi h3).symm (gE Z Z))):p:=h
theorem vq (h:p:=by exact ae O (aa Z)):p:=h
set_option maxRecDepth 4000
instance SU:HE Tryz.prog 92:=⟨Tryz.call92⟩
instance SI:HE Tryz.prog 93:=⟨Tryz.call93⟩
instance Sc:HE Tryz.prog 94:=⟨Tryz.call94⟩
instance Sq:HE Tryz.prog 95:=⟨Tryz.call95⟩
instance SK:HE Tryz.prog 165:=⟨Tryz.call165⟩
instance Sx:HE Tryz.prog 96:=⟨Tryz.call96⟩
instance Sw:HE Tryz.prog 60:=⟨Tryz.call60⟩
instance Sv:HE Tryz.prog 97:=⟨Tryz.call97⟩
instance Sf:HE Tryz.prog 137:=⟨Tryz.call137⟩
instance Sj:HE Tryz.prog 138:=⟨Tryz.call138⟩
instance Qx:HE Tryz.prog 63:=⟨Tryz.call63⟩
instance Qz:HE Tryz.prog 61:=⟨Tryz.call61⟩
instance PW:HE Tryz.prog 62:=⟨Tryz.call62⟩
instance RP:HE Tryz.prog 155:=⟨Tryz.call155⟩
instance Rh:HE Tryz.prog 118:=⟨Tryz.call118⟩
instance Qi:HE Tryz.prog 104:=⟨Tryz.call104⟩
abbrev uR (F:Bk->Int->Int->Int->Option (Int×ao))(k:Nat):Prop:=∀ (a0:Bk) (a1:Int) (a2:Int) (a3:Int) (r:Int×ao),HP (F a0 a1 a2 a3=some r) Tryz.prog k [eS a0,eI a1,eI a2,eI a3] (.tuple [.p (eI r.1),.p (.agg (ao.cs r.2))])
abbrev uz (F:Bk->Int->Option (Int))(k:Nat):Prop:=∀ (a0:Bk) (a1:Int) (r:Int),HP (F a0 a1=some r) Tryz.prog k [eS a0,eI a1] (.p (eI r))
abbrev fX:List AV:=[.p (eI 0),.p (eI 0),.p (eS ([]:Bk))]
abbrev KZ:List AV:=[.p (eI 0),.p (eS ([]:Bk)),.p (eI 0)]
def gN (Um:Int)(N':Int):Option ao :=some (ao.mk Um N' ([]:Bk))
instance MJ (Um:Int) (N':Int):∀ (r:ao),HP (gN Um N'=some r) Tryz.prog 60 [eI Um,eI N'] (.p (.agg (ao.cs r))):=by
 refine hP good Tryz.func60 Z Z λ r h0 _ w0=>?_;unfold gN at h0;exact J0
def dV (Mr:Bk):Nat->Int->Option Int|0,_=>none|m+1,at11=>(if at11<(Mr.length:Int) then ck ((0:Int)<=at11/\at11<(Mr.length:Int))<|if byt Mr at11=32 then some true else ck ((0:Int)<=at11/\at11<(Mr.length:Int))<|if byt Mr at11=9 then some true else ck ((0:Int)<=at11/\at11<(Mr.length:Int))<|some (decide (byt Mr at11=13))else some false).bind λ Xl=>if Xl=true then ck (inR (at11+1))<|dV Mr m (at11+1)else some at11
def jC (n:Nat)(Mr:Bk)(N':Int):Option Int :=(dV Mr n N').bind λ at22=>some at22
instance Gs (n:Nat):uz (jC n) 92:=by
 refine λ Mr N'=>hP good Tryz.func92 Z Z λ r h0 _ w0=>?_;unfold jC at h0;refine nx 6 Z (bd h0 λ W8 h1 h0=>kE 0 W8 (λ WY=>⟨[(1,.p (eI WY))],[]⟩) ?_ ?_)
 ·exact J0
 refine lG (λ (q27:Int)=>⟨[(0,.p (eS Mr)),(1,.p (eI q27))],[]⟩) (λ m (q27:Int)=>dV Mr m q27) Y N' h1 (gE rfl rfl) ?_;rintro m at11 h1;replace h1:dV Mr (m+1) at11=some W8:=h1;rw [dV] at h1;have:=js [100];have:=jS 100 Bool λ v=>[(26,.p (eB v))]
 exact az
def fz (Mr:Bk):Nat->Int->Option Int|0,_=>none|m+1,at13=>(if at13<(Mr.length:Int) then ck ((0:Int)<=at13/\at13<(Mr.length:Int))<|some (!decide (byt Mr at13=10))else some false).bind λ Vl=>if Vl=true then ck (inR (at13+1))<|fz Mr m (at13+1)else some at13
def nt (n:Nat)(Mr:Bk)(N':Int):Option Int :=(jC n Mr N').bind λ r1=>((if r1<(Mr.length:Int) then ck ((0:Int)<=r1/\r1<(Mr.length:Int))<|some (decide (byt Mr r1=35))else some false).bind λ t5=>if t5=true then(fz Mr n r1).bind λ at20=>some at20 else some r1).bind λ at21=>some at21
instance Mn (n:Nat):uz (nt n) 61:=by
 refine λ Mr N'=>hP good Tryz.func61 Z Z λ r h0 _ w0=>?_;unfold nt at h0;refine nx 8 Z (K0 λ r1 h0=>nx 3 Z (bd h0 λ o26 h1 h0=>kN o26 (λ v27=>⟨[(1,.p (eI v27))],[]⟩) ?_ ?_))
 ·exact J0
 refine nx 1 Z (bd h1 λ o28 h2 h1=>kN o28 (λ v29=>⟨[(0,.p (eS Mr)),(1,.p (eI r1)),(17,.p (eB v29))],[]⟩) ?_ ?_)
 ·refine nx 1 Z (fB [17] h1 Z (λ c6 h1=>?_) λ c6 h1=>?_)
  ·refine nx 2 Z (bd h1 λ ZA h2 h1=>kE 0 ZA (λ Yn=>⟨[(1,.p (eI Yn))],[]⟩) ?_ ?_)
   ·exact az
   refine lG (λ (q32:Int)=>⟨[(0,.p (eS Mr)),(1,.p (eI q32))],[]⟩) (λ m (q32:Int)=>fz Mr m q32) Y r1 h2 (gE rfl rfl) ?_;rintro m at13 h2;replace h2:fz Mr (m+1) at13=some ZA:=h2;rw [fz] at h2;refine nx 2 rfl (bd h2 λ o33 h3 h2=>kN o33 (λ Z6=>⟨[(0,.p (eS Mr)),(1,.p (eI at13)),(27,.p (eB Z6))],[]⟩) ?_ ?_)
   ·exact bP
   refine nx 3 Z (oLs Z (nx 2 Z (fD [21,22] h3 Z (λ YK h3=>?_) λ YK h3=>?_)))
   ·exact nx 2 Z (oI h3 Z λ Wr h3=>nx 3 Z nw)
   exact Be
  exact az
 exact bP
def iE (Ut:Int):Option Bool :=(if Ut=95 then some true else if 97<=Ut then if Ut<=122 then some true else if 65<=Ut then some (decide (Ut<=90))else some false else if 65<=Ut then some (decide (Ut<=90))else some false).bind λ t6=>some t6
instance Gf (Ut:Int):∀ (r:Bool),HP (iE Ut=some r) Tryz.prog 93 [eK .u8 Ut] (.p (eB r)):=by
 refine hP good Tryz.func93 Z Z λ r h0 _ w0=>?_;unfold iE at h0;exact kt
def jk (Ut:Int):Option Bool :=(if 48<=Ut then some (decide (Ut<=57))else some false).bind λ t2=>some t2
instance Kr (Ut:Int):∀ (r:Bool),HP (jk Ut=some r) Tryz.prog 94 [eK .u8 Ut] (.p (eB r)):=by
 refine hP good Tryz.func94 Z Z λ r h0 _ w0=>?_;unfold jk at h0;exact kt
def fw (Mr:Bk)(N':Int):Nat->Int->Option (Unit⊕Bk)|0,_=>none|m+1,i12=>if i12<(([([61,62]:Bk),([61,61]:Bk),([33,61]:Bk),([60,61]:Bk),([62,61]:Bk),([38,38]:Bk),([124,124]:Bk)]).length:Int) then(ck (inR (N'+2))<|if N'+2<=(Mr.length:Int) then ck (inR (N'+2))<|ck ((0:Int)<=N'/\N'<=N'+2/\N'+2<=(Mr.length:Int))<|ck ((0:Int)<=i12/\i12<(([([61,62]:Bk),([61,61]:Bk),([33,61]:Bk),([60,61]:Bk),([62,61]:Bk),([38,38]:Bk),([124,124]:Bk)]).length:Int))<|some (decide (sub Mr N' (N'+2)=lat ([([61,62]:Bk),([61,61]:Bk),([33,61]:Bk),([60,61]:Bk),([62,61]:Bk),([38,38]:Bk),([124,124]:Bk)]) i12))else some false).bind λ Vw=>if Vw=true then ck ((0:Int)<=i12/\i12<(([([61,62]:Bk),([61,61]:Bk),([33,61]:Bk),([60,61]:Bk),([62,61]:Bk),([38,38]:Bk),([124,124]:Bk)]).length:Int))<|some (.inr (lat ([([61,62]:Bk),([61,61]:Bk),([33,61]:Bk),([60,61]:Bk),([62,61]:Bk),([38,38]:Bk),([124,124]:Bk)]) i12))else ck (inR (i12+1))<|fw Mr N' m (i12+1)else some (.inl ())
def fu (Mr:Bk)(N':Int):Nat->Int->Option (Unit⊕Bk)|0,_=>none|m+1,i32=>if i32<(([123,125,91,93,40,41,44,61,60,62,43,45,42,47,37,33,63,58,46]:Bk).length:Int) then ck ((0:Int)<=N'/\N'<(Mr.length:Int))<|ck ((0:Int)<=i32/\i32<(([123,125,91,93,40,41,44,61,60,62,43,45,42,47,37,33,63,58,46]:Bk).length:Int))<|if byt Mr N'=byt ([123,125,91,93,40,41,44,61,60,62,43,45,42,47,37,33,63,58,46]:Bk) i32 then ck (inR (N'+1))<|ck ((0:Int)<=N'/\N'<=N'+1/\N'+1<=(Mr.length:Int))<|some (.inr (sub Mr N' (N'+1)))else ck (inR (i32+1))<|fu Mr N' m (i32+1)else some (.inl ())
def jW (n:Nat)(Mr:Bk)(N':Int):Option Bk :=jn (fw Mr N' n 0) λ _q41=>jn (fu Mr N' n 0) λ _q43=>some ([]:Bk)
instance Mk (n:Nat) (Mr:Bk) (N':Int):∀ (r:Bk),HP (jW n Mr N'=some r) Tryz.prog 95 [eS Mr,eI N'] (.p (eS r)):=by
 refine hP good Tryz.func95 Z Z λ r h0 _ w0=>?_;unfold jW at h0;refine nx 6 rfl (mO rfl (aK eS [([61,62]:Bk),([61,61]:Bk),([33,61]:Bk),([60,61]:Bk),([62,61]:Bk),([38,38]:Bk),([124,124]:Bk)] Z Z Z Z Z Z Z Z Z Z Z Z Z Z (nx 8 rfl ?_)));obtain ⟨Xy,h1,UV,hR0⟩:=bo h0;refine kEx 0 (λ XS:Unit=>Xy=.inl XS) (λ XS=>⟨[(0,.p (eS Mr)),(1,.p (eI N'))],[]⟩) (λ XS hv=>?_) ?_
 ·have h0:=UV _ hv;refine nx 11 rfl ?_;obtain ⟨o46,h1,UV,hR0⟩:=bo h0;refine kEx 2 (λ v47:Unit=>o46=.inl v47) (λ v47=>⟨[],[]⟩) (λ v47 hv=>?_) ?_
  ·exact fR
  refine lG (λ (Y7:Int)=>⟨[(0,.p (eS Mr)),(1,.p (eI N')),(7,.p (eS ([123,125,91,93,40,41,44,61,60,62,43,45,42,47,37,33,63,58,46]:Bk))),(8,.p (eI Y7))],[]⟩) (λ m (Y7:Int)=>fu Mr N' m Y7) Y 0 h1 (gE rfl rfl) ?_;rintro m i32 h1;replace h1:fu Mr N' (m+1) i32=some o46:=h1;rw [fu] at h1;refine nx 5 rfl (oLs rfl (nx 2 rfl (fD [40] h1 rfl (λ Z4 h1=>?_) λ Z4 h1=>?_)))
  ·refine nx 5 Z (cc' h1 λ XB h1=>cc' h1 λ X4 h1=>mD [(0,.p (eS Mr)),(1,.p (eI N')),(7,.p (eS ([123,125,91,93,40,41,44,61,60,62,43,45,42,47,37,33,63,58,46]:Bk))),(8,.p (eI i32))] Z ⟨Z,Z,Z,Z,trivial⟩ Z (dR 2 Z (dq (.p (eK .u8 (byt Mr N'))) [43,44] Z (λ _ e _ q=>ap Z (fK Z Z Z Z Z (e _ _ Z) (e _ _ Z) XB q)) Z (dR 2 Z (dq (.p (eK .u8 (byt ([123,125,91,93,40,41,44,61,60,62,43,45,42,47,37,33,63,58,46]:Bk) i32))) [46,47] Z (λ _ e _ q=>ap Z (fK Z Z Z Z Z (e _ _ Z) (e _ _ Z) X4 q)) Z (dR 1 Z ?_))))));exact az
  exact az
 refine lG (λ (Y6:Int)=>⟨[(0,.p (eS Mr)),(1,.p (eI N')),(5,.p (eL eS ([([61,62]:Bk),([61,61]:Bk),([33,61]:Bk),([60,61]:Bk),([62,61]:Bk),([38,38]:Bk),([124,124]:Bk)]))),(6,.p (eI Y6))],[]⟩) (λ m (Y6:Int)=>fw Mr N' m Y6) Y 0 h1 (gE rfl rfl) ?_;rintro m i12 h1;replace h1:fw Mr N' (m+1) i12=some Xy:=h1;rw [fw] at h1;refine nx 5 rfl (oLl (f:=eS) rfl rfl (nx 2 rfl (fD [13] h1 rfl (λ YL h1=>?_) λ YL h1=>?_)))
 ·refine nx 5 Z (bd h1 λ X3 h2 h1=>kN X3 (λ v51=>⟨[(0,.p (eS Mr)),(1,.p (eI N')),(5,.p (eL eS ([([61,62]:Bk),([61,61]:Bk),([33,61]:Bk),([60,61]:Bk),([62,61]:Bk),([38,38]:Bk),([124,124]:Bk)]))),(6,.p (eI i12)),(32,.p (eB v51))],[]⟩) ?_ ?_)
  ·exact az
  refine cc' h2 λ WU h2=>fD (p:=N'+2<=(Mr.length:Int)) [] h2 Z (λ YJ h2=>?_) λ YJ h2=>?_
  ·refine cc' h2 λ V7 h2=>cc' h2 λ XC h2=>cc' h2 λ VP h2=>mD [(0,.p (eS Mr)),(1,.p (eI N')),(5,.p (eL eS ([([61,62]:Bk),([61,61]:Bk),([33,61]:Bk),([60,61]:Bk),([62,61]:Bk),([38,38]:Bk),([124,124]:Bk)]))),(6,.p (eI i12))] Z ⟨Z,Z,Z,Z,trivial⟩ Z (dR 1 Z (dq (.p (eI (N'+2))) [16] Z (λ _ e _ q=>ap Z (fM Z Z Z (e _ _ Z) Z Z WU q)) Z (dR 1 Z (dq (.p (eI (Mr.length:Int))) [18] Z (λ _ e _ q=>ap Z (nU Z Z Z Z Z (e _ _ Z) q)) Z (dL (dt YJ) Z (dR 4 Z (dq (.p (eI (N'+2))) [21,24] Z (λ _ e _ q=>cx (fM Z Z Z (e _ _ Z) Z Z V7 q) Z Z (e _ _ Z) (rfl)) Z (dq (.p (eS (sub Mr N' (N'+2)))) [21,22,23,25] Z (λ _ e _ q=>cx (fH (a:=Mr) (l:=N') (h:=N'+2) Z Z Z Z Z (e _ _ Z) pZ (yB (e _ _ Z)) XC q) Z Z (e _ _ Z) (rfl)) Z (dR 2 Z (dq (.rptr ([eS (lat ([([61,62]:Bk),([61,61]:Bk),([33,61]:Bk),([60,61]:Bk),([62,61]:Bk),([38,38]:Bk),([124,124]:Bk)]) i12)])) [21,27,28] Z (λ _ e _ q=>cx (jG (f:=eS) (l:=[([61,62]:Bk),([61,61]:Bk),([33,61]:Bk),([60,61]:Bk),([62,61]:Bk),([38,38]:Bk),([124,124]:Bk)]) (λ x=>[eS x]) Z Z Z Z Z Z (e _ _ Z) Z (e _ _ Z) VP Y Y q) Z Z (e _ _ Z) (rfl)) Z (dR 1 Z (dq (.p (eB (decide (sub Mr N' (N'+2)=lat ([([61,62]:Bk),([61,61]:Bk),([33,61]:Bk),([60,61]:Bk),([62,61]:Bk),([38,38]:Bk),([124,124]:Bk)]) i12)))) [21,26,30] Z (λ _ e _ q=>cx (kR Z Z Z (e _ _ Z) (e _ _ Z) Z q) Z Z (e _ _ Z) (rfl)) Z (dR 1 Z ?_)))))))))))));exact bP
  refine mD [(0,.p (eS Mr)),(1,.p (eI N')),(5,.p (eL eS ([([61,62]:Bk),([61,61]:Bk),([33,61]:Bk),([60,61]:Bk),([62,61]:Bk),([38,38]:Bk),([124,124]:Bk)]))),(6,.p (eI i12))] Z ⟨Z,Z,Z,Z,trivial⟩ Z (dR 1 Z (dq (.p (eI (N'+2))) [16] Z (λ _ e _ q=>ap Z (fM Z Z Z (e _ _ Z) Z Z WU q)) Z (dR 1 Z (dq (.p (eI (Mr.length:Int))) [18] Z (λ _ e _ q=>ap Z (nU Z Z Z Z Z (e _ _ Z) q)) Z (dL (df YJ) Z ?_)))));exact bP
 exact az
def kT (n:Nat)(Mr:Bk)(N':Int):Option Bool :=(ck ((0:Int)<=N'/\N'<(Mr.length:Int))<|(iE (byt Mr N')).bind λ r2=>if r2=true then some true else ck ((0:Int)<=N'/\N'<(Mr.length:Int))<|(jk (byt Mr N')).bind λ r6=>if r6=true then some true else ck ((0:Int)<=N'/\N'<(Mr.length:Int))<|if byt Mr N'=34 then some true else ck ((0:Int)<=N'/\N'<(Mr.length:Int))<|if byt Mr N'=10 then some true else(jW n Mr N').bind λ Wh=>some (!decide (Wh=([]:Bk)))).bind λ t15=>some t15
instance Gr (n:Nat) (Mr:Bk) (N':Int):∀ (r:Bool),HP (kT n Mr N'=some r) Tryz.prog 62 [eS Mr,eI N'] (.p (eB r)):=by
 refine hP good Tryz.func62 Z Z λ r h0 _ w0=>?_;unfold kT at h0;have:=js [100];have:=jS 100 Bool λ v=>[(4,.p (eB v))]
 exact J0
def gf (Mr:Bk)(letters_2:Bool):Nat->Int->Option Int|0,_=>none|m+1,at14=>(if at14<(Mr.length:Int) then ck ((0:Int)<=at14/\at14<(Mr.length:Int))<|(jk (byt Mr at14)).bind λ Wg=>if Wg=true then some true else if letters_2=true then ck ((0:Int)<=at14/\at14<(Mr.length:Int))<|(iE (byt Mr at14)).bind λ V9=>some V9 else some false else some false).bind λ WZ=>if WZ=true then ck (inR (at14+1))<|gf Mr letters_2 m (at14+1)else some at14
def lg (n:Nat)(Mr:Bk)(N':Int)(letters_2:Bool):Option Int :=(gf Mr letters_2 n N').bind λ at28=>some at28
instance Ov (n:Nat) (Mr:Bk) (N':Int) (letters_2:Bool):∀ (r:Int),HP (lg n Mr N' letters_2=some r) Tryz.prog 96 [eS Mr,eI N',eB letters_2] (.p (eI r)):=by
 refine hP good Tryz.func96 Z Z λ r h0 _ w0=>?_;unfold lg at h0;refine nx 6 Z (bd h0 λ Za h1 h0=>kE 0 Za (λ YO=>⟨[(1,.p (eI YO))],[]⟩) ?_ ?_)
 ·exact J0
 refine lG (λ (Zy:Int)=>⟨[(0,.p (eS Mr)),(1,.p (eI Zy)),(2,.p (eB letters_2))],[]⟩) (λ m (Zy:Int)=>gf Mr letters_2 m Zy) Y N' h1 (gE rfl rfl) ?_;rintro m at14 h1;replace h1:gf Mr letters_2 (m+1) at14=some Za:=h1;rw [gf] at h1;have:=js [100];have:=jS 100 Bool λ v=>[(25,.p (eB v))]
 exact az
def fq (Mr:Bk)(to_2:Int):Nat->Int->Option (Unit⊕Bool)|0,_=>none|m+1,i10=>if i10<to_2 then(ck ((0:Int)<=i10/\i10<(Mr.length:Int))<|if byt Mr i10<128 then some true else ck ((0:Int)<=i10/\i10<(Mr.length:Int))<|some (decide (191<byt Mr i10))).bind λ t15=>if t15=true then some (.inr false)else ck (inR (i10+1))<|fq Mr to_2 m (i10+1)else some (.inl ())
def j4 (n:Nat)(Mr:Bk)(from_1:Int)(to_2:Int):Option Bool :=if (Mr.length:Int)<to_2 then some false else jn (fq Mr to_2 n from_1) λ _q19=>some true
instance Ms (n:Nat) (Mr:Bk) (from_1:Int) (to_2:Int):∀ (r:Bool),HP (j4 n Mr from_1 to_2=some r) Tryz.prog 165 [eS Mr,eI from_1,eI to_2] (.p (eB r)):=by
 refine hP good Tryz.func165 Z Z λ r h0 _ w0=>?_;unfold j4 at h0;refine nx 9 Z (oLs Z (nx 2 Z (fD [11] h0 Z (λ c1 h0=>?_) λ c1 h0=>?_)))
 ·exact J0
 refine nx 9 rfl ?_;obtain ⟨XM,h1,UV,hR0⟩:=bo h0;refine kEx 0 (λ v22:Unit=>XM=.inl v22) (λ v22=>⟨[],[]⟩) (λ v22 hv=>?_) ?_
 ·exact fR
 refine lG (λ (XW:Int)=>⟨[(0,.p (eS Mr)),(2,.p (eI to_2)),(7,.p (eI XW))],[]⟩) (λ m (XW:Int)=>fq Mr to_2 m XW) Y from_1 h1 (gE rfl rfl) ?_;rintro m i10 h1;replace h1:fq Mr to_2 (m+1) i10=some XM:=h1;rw [fq] at h1;have:=js [600];have:=jS 600 Bool λ v=>[(27,.p (eB v))]
 exact az
def lF (n:Nat)(Mr:Bk)(N':Int):Option Int :=ck ((0:Int)<=N'/\N'<(Mr.length:Int))<|if byt Mr N'<128 then some 1 else(if 194<=byt Mr N' then if byt Mr N'<=223 then ck (inR (N'+1))<|ck (inR (N'+2))<|(j4 n Mr (N'+1) (N'+2)).bind λ r7=>some r7 else some false else some false).bind λ t9=>if t9=true then some 2 else(if 224<=byt Mr N' then if byt Mr N'<=239 then ck (inR (N'+1))<|ck (inR (N'+3))<|(j4 n Mr (N'+1) (N'+3)).bind λ Uu=>if Uu=true then if byt Mr N'=224 then ck (inR (N'+1))<|ck ((0:Int)<=N'+1/\N'+1<(Mr.length:Int))<|if byt Mr (N'+1)<160 then some false else if byt Mr N'=237 then ck (inR (N'+1))<|ck ((0:Int)<=N'+1/\N'+1<(Mr.length:Int))<|some (!decide (159<byt Mr (N'+1)))else some (!false)else if (!false)=true then if byt Mr N'=237 then ck (inR (N'+1))<|ck ((0:Int)<=N'+1/\N'+1<(Mr.length:Int))<|some (!decide (159<byt Mr (N'+1)))else some (!false)else some false else some false else some false else some false).bind λ t29=>if t29=true then some 3 else(if 240<=byt Mr N' then if byt Mr N'<=244 then ck (inR (N'+1))<|ck (inR (N'+4))<|(j4 n Mr (N'+1) (N'+4)).bind λ YP=>if YP=true then if byt Mr N'=240 then ck (inR (N'+1))<|ck ((0:Int)<=N'+1/\N'+1<(Mr.length:Int))<|if byt Mr (N'+1)<144 then some false else if byt Mr N'=244 then ck (inR (N'+1))<|ck ((0:Int)<=N'+1/\N'+1<(Mr.length:Int))<|some (!decide (143<byt Mr (N'+1)))else some (!false)else if (!false)=true then if byt Mr N'=244 then ck (inR (N'+1))<|ck ((0:Int)<=N'+1/\N'+1<(Mr.length:Int))<|some (!decide (143<byt Mr (N'+1)))else some (!false)else some false else some false else some false else some false).bind λ t49=>if t49=true then some 4 else some 0
instance HS (n:Nat):uz (lF n) 138:=by
 refine λ Mr N'=>hP good Tryz.func138 Z Z λ r h0 _ w0=>?_;unfold lF at h0;have:=js [400,600,800];have:=jS 400 Bool λ v=>[(12,.p (eB v))]
 have:=jS 600 Bool λ v=>[(27,.p (eB v))]
 have:=jS 800 Bool λ v=>[(66,.p (eB v))]
 exact J0
def du (n:Nat)(VC:Bk->Int->Int->Int->Option (Int×ao))(Mr:Bk)(Ui:Int)(Uh:Int):Nat->Int->Option (Unit⊕(Int×ao))|0,_=>none|m+1,at43=>if at43<(Mr.length:Int) then jn (ck ((0:Int)<=at43/\at43<(Mr.length:Int))<|if byt Mr at43=34 then some (.inr (.inr (at43,(ao.mk 0 0 ([]:Bk)))))else(ck (inR (at43+3))<|if at43+3<=(Mr.length:Int) then ck (inR (at43+3))<|ck ((0:Int)<=at43/\at43<=at43+3/\at43+3<=(Mr.length:Int))<|some (decide (sub Mr at43 (at43+3)=([36,36,123]:Bk)))else some false).bind λ t51=>if t51=true then ck (inR (at43+3))<|some (.inl (at43+3))else(ck (inR (at43+2))<|if at43+2<=(Mr.length:Int) then ck (inR (at43+2))<|ck ((0:Int)<=at43/\at43<=at43+2/\at43+2<=(Mr.length:Int))<|some (decide (sub Mr at43 (at43+2)=([36,123]:Bk)))else some false).bind λ t58=>if t58=true then if 32<=Ui then(gN 4 at43).bind λ Va=>some (.inr (.inr (0,Va)))else ck (inR (at43+2))<|ck (inR (Ui+1))<|(VC Mr (at43+2) (Ui+1) Uh).bind λ r65=>if r65.2.Ar=0 then some (.inl r65.1)else some (.inr (.inr (0,r65.2)))else jn (ck ((0:Int)<=at43/\at43<(Mr.length:Int))<|if byt Mr at43=92 then ck (inR (at43+1))<|if (Mr.length:Int)<=at43+1 then some (.inr (.inr (.inl ())))else some (.inl (at43+1))else some (.inl at43) : Option (Int⊕(Int⊕(Unit⊕(Int×ao))))) λ at72=>(lF n Mr at72).bind λ VQ=>(if VQ=0 then some true else ck ((0:Int)<=at72/\at72<(Mr.length:Int))<|if byt Mr at72<32 then some true else ck ((0:Int)<=at72/\at72<(Mr.length:Int))<|some (decide (byt Mr at72=127))).bind λ t79=>if t79=true then(gN 2 at72).bind λ r81=>some (.inr (.inr (0,r81)))else ck (inR (at72+VQ))<|some (.inl (at72+VQ)) : Option (Int⊕(Unit⊕(Int×ao)))) λ at84=>du n VC Mr Ui Uh m at84 else some (.inl ())
def cu (n:Nat)(Ws:Bk->Int->Int->Int->Option (ab×Int×ao))(Mr:Bk)(Ui:Int)(Uh:Int):Nat->Int->Int->Option (Unit⊕(Int×ao))|0,_,_=>none|m+1,at21,open22=>if at21<=(Mr.length:Int) then(jC n Mr at21).bind λ WP=>if (Mr.length:Int)<=WP then some (.inl ())else(Ws Mr WP Ui Uh).bind λ Vr=>if Vr.2.2.Ar=0 then jn ((if Vr.1.Ar=4 then some (decide (Vr.1.By=([125]:Bk)))else some false).bind λ t31=>if t31=true then if open22=0 then some (.inr (.inr (Vr.2.1,(ao.mk 0 0 ([]:Bk)))))else ck (inR (open22-1))<|some (.inl (open22-1))else some (.inl open22) : Option (Int⊕(Unit⊕(Int×ao)))) λ open35=>((if Vr.1.Ar=4 then some (decide (Vr.1.By=([123]:Bk)))else some false).bind λ t37=>if t37=true then ck (inR (open35+1))<|some (open35+1)else some open35).bind λ open40=>cu n Ws Mr Ui Uh m Vr.2.1 open40 else some (.inr (0,Vr.2.2))else some (.inl ())
mutual
def d9:Nat->Bk->Int->Int->Int->Option (ab×Int×ao)|0,_,_,_,_=>none|n+1,Mr,N',Ui,Uh=>ck ((0:Int)<=N'/\N'<(Mr.length:Int))<|if byt Mr N'=10 then ck (inR (N'+1))<|some ((ab.mk 5 ([10]:Bk) N'),N'+1,(ao.mk 0 0 ([]:Bk)))else(iE (byt Mr N')).bind λ r4=>if r4=true then(lg n Mr N' true).bind λ r7=>ck (inR (r7-N'))<|if 64<r7-N' then(gN 7 N').bind λ Wy=>some ((ab.mk 0 ([]:Bk) 0),0,Wy)else ck ((0:Int)<=N'/\N'<=r7/\r7<=(Mr.length:Int))<|some ((ab.mk 1 (sub Mr N' r7) N'),r7,(ao.mk 0 0 ([]:Bk)))else(jk (byt Mr N')).bind λ Xs=>if Xs=true then(lg n Mr N' false).bind λ Wg=>ck ((0:Int)<=N'/\N'<=Wg/\Wg<=(Mr.length:Int))<|some ((ab.mk 2 (sub Mr N' Wg) N'),Wg,(ao.mk 0 0 ([]:Bk)))else if byt Mr N'=34 then(if Ui=0 then some N' else some Uh).bind λ quote22=>ck (inR (N'+1))<|((jb n) Mr (N'+1) Ui quote22).bind λ WP=>if WP.2.Ar=0 then ck (inR (N'+1))<|ck ((0:Int)<=N'+1/\N'+1<=WP.1/\WP.1<=(Mr.length:Int))<|ck (inR (WP.1+1))<|some ((ab.mk 3 (sub Mr (N'+1) WP.1) N'),WP.1+1,(ao.mk 0 0 ([]:Bk)))else some ((ab.mk 0 ([]:Bk) 0),0,WP.2)else(jW n Mr N').bind λ Xd=>if Xd=([]:Bk) then(gN 2 N').bind λ WN=>some ((ab.mk 0 ([]:Bk) 0),0,WN)else ck (inR (N'+(Xd.length:Int)))<|some ((ab.mk 4 Xd N'),N'+(Xd.length:Int),(ao.mk 0 0 ([]:Bk)))
def jb:Nat->Bk->Int->Int->Int->Option (Int×ao)|0,_,_,_,_=>none|n+1,Mr,N',Ui,Uh=>jn (du n (d8 n) Mr Ui Uh n N') λ _XI=>(gN 40 Uh).bind λ r86=>some (0,r86)
def d8:Nat->Bk->Int->Int->Int->Option (Int×ao)|0,_,_,_,_=>none|n+1,Mr,N',Ui,Uh=>jn (cu n (d9 n) Mr Ui Uh n N' 0) λ _q45=>(gN 40 Uh).bind λ We=>some (0,We)
end
theorem qI (n:Nat):(∀ (Mr:Bk) (N':Int) (Ui:Int) (Uh:Int) (r:ab×Int×ao),HP (d9 n Mr N' Ui Uh=some r) Tryz.prog 63 [eS Mr,eI N',eI Ui,eI Uh] (.tuple [.p (.agg (ab.cs r.1)),.p (eI r.2.1),.p (.agg (ao.cs r.2.2))]))/\uR (jb n) 97/\uR (d8 n) 137:=by
 induction n with
 | zero=>exact Zr
 | succ n ih=>
 obtain ⟨_,_,_⟩:=ih;refine ⟨?_,?_,?_⟩
 ·refine λ Mr N' Ui Uh=>hP good Tryz.func63 Z Z λ r h0 _ w0=>?_;rw [d9] at h0;refine nx 10 Z (oI h0 Z λ YG h0=>nx 8 Z (fD [21] h0 Z (λ c2 h0=>?_) λ c2 h0=>?_))
  ·exact J0
  refine nx 6 Z (K0 λ r4 h0=>nx 1 Z (fB [28] h0 Z (λ c6 h0=>?_) λ c6 h0=>?_))
  ·exact J0
  refine nx 6 Z (K0 λ Xs h0=>nx 1 Z (fB [48] h0 Z (λ YI h0=>?_) λ YI h0=>?_))
  ·exact J0
  refine nx 8 Z (fD [61] h0 Z (λ c20 h0=>?_) λ c20 h0=>?_)
  ·refine nx 2 Z (bd h0 λ o37 h1 h0=>kN o37 (λ v38=>⟨[(0,.p (eS Mr)),(1,.p (eI N')),(2,.p (eI Ui)),(3,.p (eI v38)),(8,.ptr 8 0),(10,.ptr 10 0)],[(8,KZ),(10,fX)]⟩) ?_ ?_)
   ·exact J0
   exact az
  exact J0
 ·refine λ Mr N' Ui Uh=>hP good Tryz.func97 Z Z λ r h0 _ w0=>?_;rw [jb] at h0;refine nx 7 rfl ?_;obtain ⟨o94,h1,UV,hR0⟩:=bo h0;refine kEx 0 (λ v95:Unit=>o94=.inl v95) (λ v95=>⟨[(3,.p (eI Uh)),(9,.ptr 9 0)],[(9,fX)]⟩) (λ v95 hv=>?_) ?_
  ·exact fR
  refine lG (λ (q96:Int)=>⟨[(0,.p (eS Mr)),(1,.p (eI q96)),(2,.p (eI Ui)),(3,.p (eI Uh)),(9,.ptr 9 0)],[(9,fX)]⟩) (λ m (q96:Int)=>du n (d8 n) Mr Ui Uh m q96) Y N' h1 (gE rfl rfl) ?_;rintro m at43 h1;replace h1:du n (d8 n) Mr Ui Uh (m+1) at43=some o94:=h1;rw [du] at h1;refine nx 5 rfl (oLs rfl (nx 2 rfl (fD [16] h1 rfl (λ c44 h1=>?_) λ c44 h1=>?_)))
  ·refine nx 2 rfl ?_;obtain ⟨o97,h2,hL1,hR1⟩:=bo h1;refine kX (λ v98:Int=>o97=.inl v98) (λ v98=>⟨[(0,.p (eS Mr)),(1,.p (eI v98)),(2,.p (eI Ui)),(3,.p (eI Uh)),(9,.ptr 9 0)],[(9,fX)]⟩) (λ v98 hv=>?_) ?_
   ·have h1:=hL1 _ hv;exact az
   refine nx 6 Z (oI h2 Z λ abS h2=>nx 2 Z (fD [20] h2 Z (λ c46 h2=>?_) λ c46 h2=>?_))
   ·exact bP
   refine nx 4 Z (bd h2 λ o99 h3 h2=>kN o99 (λ v100=>⟨[(0,.p (eS Mr)),(1,.p (eI at43)),(2,.p (eI Ui)),(3,.p (eI Uh)),(9,.ptr 9 0),(35,.p (eB v100))],[(9,fX)]⟩) ?_ ?_)
   ·refine nx 1 Z (fB [35] h2 Z (λ c52 h2=>?_) λ c52 h2=>?_)
    ·exact bP
    refine nx 4 Z (bd h2 λ o101 h3 h2=>kN o101 (λ v102=>⟨[(0,.p (eS Mr)),(1,.p (eI at43)),(2,.p (eI Ui)),(3,.p (eI Uh)),(9,.ptr 9 0),(50,.p (eB v102))],[(9,fX)]⟩) ?_ ?_)
    ·refine nx 1 Z (fB [50] h2 Z (λ c59 h2=>?_) λ c59 h2=>?_)
     ·exact bP
     refine nx 3 rfl ?_;obtain ⟨o103,h3,hL2,hR2⟩:=bo h2;refine kX (λ YX:Int=>o103=.inl YX) (λ YX=>⟨[(0,.p (eS Mr)),(1,.p (eI YX)),(2,.p (eI Ui)),(3,.p (eI Uh)),(9,.ptr 9 0)],[(9,fX)]⟩) (λ YX hv=>?_) ?_
     ·have h2:=hL2 _ hv;refine nx 5 Z (K2 λ VQ h2=>nx 4 Z (bd h2 λ o105 h3 h2=>kN o105 (λ v106=>⟨[(0,.p (eS Mr)),(1,.p (eI YX)),(2,.p (eI Ui)),(3,.p (eI Uh)),(9,.ptr 9 0),(12,.p (eI VQ)),(96,.p (eB v106))],[(9,fX)]⟩) ?_ ?_))
      ·exact bP
      refine nx 4 Z (fD [84,85] h3 Z (λ c75 h3=>?_) λ c75 h3=>?_)
      ·exact nx 12 Z nw
      refine nx 2 Z (oI h3 Z λ hk76 h3=>nx 3 Z (fD [89,90,91] h3 Z (λ c77 h3=>?_) λ c77 h3=>?_))
      ·exact Be
      exact nx 2 Z (oI h3 Z λ hk78 h3=>nx 3 Z nw)
     refine nx 4 Z (oI h3 Z λ abN h3=>nx 2 Z (fD [73] h3 Z (λ c69 h3=>?_) λ c69 h3=>?_))
     ·refine nx 4 Z (oA h3 Z Z λ abM h3=>nx 6 Z (oLs Z (nx 2 Z (fD [79] h3 Z (λ c71 h3=>?_) λ c71 h3=>?_))))
      ·exact nx 2 Z (eXi _ (hR1 _ (hR2 _ (oi h3).symm).symm).symm (gE Z Z))
      exact mi
     exact mi
    refine nx 2 Z (oA h3 Z Z λ YC h3=>nx 1 Z (oLs Z (nx 2 Z (fD [42,43] h3 Z (λ c55 h3=>?_) λ c55 h3=>?_))))
    ·exact nx 3 Z (oA h3 Z Z λ aaO h3=>oP h3 Z Z Z λ YB h3=>oS Z Z GD)
    exact yc
   refine nx 2 Z (oA h3 Z Z λ YE h3=>nx 1 Z (oLs Z (nx 2 Z (fD [27,28] h3 Z (λ c48 h3=>?_) λ c48 h3=>?_))))
   ·exact nx 3 Z (oA h3 Z Z λ Zf h3=>oP h3 Z Z Z λ Ze h3=>oS Z Z GD)
   exact yc
  exact az
 ·refine λ Mr N' Ui Uh=>hP good Tryz.func137 Z Z λ r h0 _ w0=>?_;rw [d8] at h0;refine nx 11 rfl ?_;obtain ⟨X3,h1,UV,hR0⟩:=bo h0;refine kEx 0 (λ v51:Unit=>X3=.inl v51) (λ v51=>⟨[(3,.p (eI Uh)),(9,.ptr 9 0)],[(9,fX)]⟩) (λ v51 hv=>?_) ?_
  ·exact fR
  refine lG (λ (Xu:Int×Int)=>⟨[(0,.p (eS Mr)),(1,.p (eI Xu.1)),(2,.p (eI Ui)),(3,.p (eI Uh)),(9,.ptr 9 0),(10,.p (eI Xu.2))],[(9,fX)]⟩) (λ m (Xu:Int×Int)=>cu n (d9 n) Mr Ui Uh m Xu.1 Xu.2) Y (N',0) h1 (gE rfl rfl) ?_;rintro m ⟨at21,open22⟩ h1;replace h1:cu n (d9 n) Mr Ui Uh (m+1) at21 open22=some X3:=h1;rw [cu] at h1;refine nx 5 rfl (oLs rfl (nx 2 rfl (fD [17] h1 rfl (λ Xp h1=>?_) λ Xp h1=>?_)))
  ·refine nx 7 Z (K1 λ WP h1=>nx 7 Z (oLs Z (nx 2 Z (fD [24] h1 Z (λ Z5 h1=>?_) λ Z5 h1=>?_))))
   ·exact az
   refine nx 8 Z (K1 λ Vr h1=>nx 17 Z (fN [36] h1 Z (λ c29 h1=>?_) λ c29 h1=>?_))
   ·refine nx 2 rfl (mG (gE (t:=⟨[(0,.p (eS Mr)),(2,.p (eI Ui)),(3,.p (eI Uh)),(9,.ptr 9 0),(10,.p (eI open22)),(11,.ptr 11 0),(12,.p (eI Vr.2.1))],[(9,fX),(11,(ab.cs Vr.1).map .p)]⟩) Z Z) (nx 1 rfl ?_));obtain ⟨XK,h2,hL1,hR1⟩:=bo h1;refine kX (λ YV:Int=>XK=.inl YV) (λ YV=>⟨[(0,.p (eS Mr)),(2,.p (eI Ui)),(3,.p (eI Uh)),(9,.ptr 9 0),(10,.p (eI YV)),(11,.ptr 11 0),(12,.p (eI Vr.2.1))],[(9,fX),(11,(ab.cs Vr.1).map .p)]⟩) (λ YV hv=>?_) ?_
    ·have h1:=hL1 _ hv;have:=js [1201,1200];have:=jS 1201 Int λ v=>[(10,.p (eI v))]
     have:=jS 1200 Bool λ v=>[(59,.p (eB v))]
     exact az
    refine nx 1 Z (bd h2 λ o59 h3 h2=>kN o59 (λ v60=>⟨[(0,.p (eS Mr)),(2,.p (eI Ui)),(3,.p (eI Uh)),(9,.ptr 9 0),(10,.p (eI open22)),(11,.ptr 11 0),(12,.p (eI Vr.2.1)),(45,.p (eB v60))],[(9,fX),(11,(ab.cs Vr.1).map .p)]⟩) ?_ ?_)
    ·exact bP
    refine nx 5 Z (fD [40,41] h3 Z (λ c30 h3=>?_) λ c30 h3=>?_)
    ·exact nx 2 Z BS
    exact Cn
   exact az
  exact az
instance Nx (n:Nat):∀ (Mr:Bk) (N':Int) (Ui:Int) (Uh:Int) (r:ab×Int×ao),HP (d9 n Mr N' Ui Uh=some r) Tryz.prog 63 [eS Mr,eI N',eI Ui,eI Uh] (.tuple [.p (.agg (ab.cs r.1)),.p (eI r.2.1),.p (.agg (ao.cs r.2.2))]):=(qI n).1
instance Mm (n:Nat):uR (jb n) 97:=(qI n).2.1
def gq (n:Nat)(Mr:Bk):Nat->(List ab)->Int->Option (Int⊕((List ab)×ao))|0,_,_=>none|m+1,UT,at24=>if at24<=(Mr.length:Int) then(nt n Mr at24).bind λ Ve=>(if 16384<=(UT.length:Int) then if (Mr.length:Int)<=Ve then some true else(kT n Mr Ve).bind λ Xd=>some Xd else some false).bind λ t32=>if t32=true then(gN 14 Ve).bind λ UF=>some (.inr ([],UF))else if (Mr.length:Int)<=Ve then ck ((UT.length+([(ab.mk 6 ([]:Bk) Ve)]).length)*32<=140737488355328)<|some (.inr (UT++([(ab.mk 6 ([]:Bk) Ve)]),(ao.mk 0 0 ([]:Bk))))else(d9 n Mr Ve 0 Ve).bind λ VI=>if VI.2.2.Ar=0 then ck ((UT.length+[VI.1].length)*32<=140737488355328)<|gq n Mr m (UT++[VI.1]) VI.2.1 else some (.inr ([],VI.2.2))else some (.inl at24)
def lf (n:Nat)(Mr:Bk):Option ((List ab)×ao) :=if 65536<(Mr.length:Int) then(gN 3 0).bind λ r2=>some ([],r2)else jn (gq n Mr n [] 0) λ at44=>(gN 2 at44).bind λ Xr=>some ([],Xr)
instance Mj (n:Nat) (Mr:Bk):∀ (r:(List ab)×ao),HP (lf n Mr=some r) Tryz.prog 27 [eS Mr] (.tuple [.p (eL aB r.1),.p (.agg (ao.cs r.2))]):=by
 refine hP good Tryz.func27 Z Z λ r h0 _ w0=>?_;unfold lf at h0;refine nx 9 Z (oLs Z (nx 2 Z (fD [11] h0 Z (λ c1 h0=>?_) λ c1 h0=>?_)))
 ·exact J0
 refine nx 12 rfl ?_;obtain ⟨YA,h1,UV,hR0⟩:=bo h0;refine kEx 0 (λ XR:Int=>YA=.inl XR) (λ XR=>⟨[(3,.ptr 3 0),(5,.p (eI XR))],[(3,fX)]⟩) (λ XR hv=>?_) ?_
 ·exact fR
 refine lG (λ (Vs:(List ab)×Int)=>⟨[(0,.p (eS Mr)),(3,.ptr 3 0),(4,.vec 61 3 0 (Vs.1.map aB)),(5,.p (eI Vs.2))],[(3,fX)]⟩) (λ m (Vs:(List ab)×Int)=>gq n Mr m Vs.1 Vs.2) Y ([],0) h1 (d3 (ma ⟨er rfl,er rfl,⟨_,rfl,AV.sub_nilvec _ _ _⟩,er rfl,trivial⟩ ⟨⟨_,rfl,⟨sr,sr,sr,trivial⟩⟩,trivial⟩)) ?_;rintro m ⟨UT,at24⟩ h1;replace h1:gq n Mr (m+1) UT at24=some YA:=h1;rw [gq] at h1;refine nx 5 rfl (oLs rfl (nx 2 rfl (fD [16] h1 rfl (λ c25 h1=>?_) λ c25 h1=>?_)))
 ·refine nx 7 Z (K1 λ Ve h1=>nx 4 Z (bd h1 λ Zz h2 h1=>kN Zz (λ v53=>⟨[(0,.p (eS Mr)),(3,.ptr 3 0),(4,.vec 61 3 0 (UT.map aB)),(5,.p (eI Ve)),(33,.p (eB v53))],[(3,fX)]⟩) ?_ ?_))
  ·refine nx 1 Z (fB [33] h1 Z (λ Z4 h1=>?_) λ Z4 h1=>?_)
   ·exact az
   refine nx 7 Z (oLs Z (nx 2 Z (fD [39] h1 Z (λ YH h1=>?_) λ YH h1=>?_)))
   ·refine nx 6 Z (mO Z (aK aB [(ab.mk 6 ([]:Bk) Ve)] Z Z Z Z Z Z Z Z Z Z Z Z Z uu ?_));refine cc' h1 λ XA h1=>mO Z (ef aB UT ([(ab.mk 6 ([]:Bk) Ve)]) Z Z Z Z Z Z Z Z Z Z Z Z Z (λ x=>congrArg List.length (ab.It x)) Z Z Z Z XA ?_);exact az
   refine nx 7 Z (K1 λ VI h1=>nx 17 Z (fN [56] h1 Z (λ c40 h1=>?_) λ c40 h1=>?_))
   ·refine nx 6 Z (mO Z (aK aB [VI.1] Z Z Z Z Z Z Z Z Z Z Z Z Z uu ?_));refine cc' h1 λ W5 h1=>mO Z (ef aB UT [VI.1] Z Z Z Z Z Z Z Z Z Z Z Z Z (λ x=>congrArg List.length (ab.It x)) Z Z Z Z W5 ?_);exact az
   exact az
  exact bP
 exact az
def jA (Ut:Int):Option Bool :=(if 97<=Ut then if Ut<=122 then some true else if 65<=Ut then if Ut<=90 then some true else some (decide (Ut=95))else some (decide (Ut=95))else if 65<=Ut then if Ut<=90 then some true else some (decide (Ut=95))else some (decide (Ut=95))).bind λ t7=>some t7
instance Gp (Ut:Int):∀ (r:Bool),HP (jA Ut=some r) Tryz.prog 155 [eK .u8 Ut] (.p (eB r)):=by
 refine hP good Tryz.func155 Z Z λ r h0 _ w0=>?_;unfold jA at h0;exact kt
def cQ (Mr:Bk):Nat->Int->Option (Unit⊕Bool)|0,_=>none|m+1,i20=>if i20<(Mr.length:Int) then(ck ((0:Int)<=i20/\i20<(Mr.length:Int))<|(jA (byt Mr i20)).bind λ UQ=>if (!UQ)=true then ck ((0:Int)<=i20/\i20<(Mr.length:Int))<|if byt Mr i20<48 then some true else ck ((0:Int)<=i20/\i20<(Mr.length:Int))<|some (decide (57<byt Mr i20))else some false).bind λ t29=>if t29=true then some (.inr false)else ck (inR (i20+1))<|cQ Mr m (i20+1)else some (.inl ())
def fj (n:Nat)(Mr:Bk):Option Bool :=(if Mr=([]:Bk) then some true else if 64<(Mr.length:Int) then some true else ck ((0:Int)<=0/\0<(Mr.length:Int))<|(jA (byt Mr 0)).bind λ r4=>some (!r4)).bind λ t6=>if t6=true then some false else jn (cQ Mr n 0) λ _q34=>some true
instance AW (n:Nat) (Mr:Bk):∀ (r:Bool),HP (fj n Mr=some r) Tryz.prog 118 [eS Mr] (.p (eB r)):=by
 refine hP good Tryz.func118 Z Z λ r h0 _ w0=>?_;unfold fj at h0;refine nx 6 Z (bd h0 λ o36 h1 h0=>kN o36 (λ v37=>⟨[(0,.p (eS Mr)),(16,.p (eB v37))],[]⟩) ?_ ?_)
 ·refine nx 1 Z (fB [16] h0 Z (λ c7 h0=>?_) λ c7 h0=>?_)
  ·exact J0
  refine nx 8 rfl ?_;obtain ⟨o38,h1,UV,hR0⟩:=bo h0;refine kEx 0 (λ v39:Unit=>o38=.inl v39) (λ v39=>⟨[],[]⟩) (λ v39 hv=>?_) ?_
  ·exact fR
  refine lG (λ (ZO:Int)=>⟨[(0,.p (eS Mr)),(3,.p (eI ZO))],[]⟩) (λ m (ZO:Int)=>cQ Mr m ZO) Y 0 h1 (gE rfl rfl) ?_;rintro m i20 h1;replace h1:cQ Mr (m+1) i20=some o38:=h1;rw [cQ] at h1;have:=js [600];have:=jS 600 Bool λ v=>[(39,.p (eB v))]
  exact az
 exact az
def j7 (n:Nat)(Pn:ab):Option Bool :=if Pn.Ar=1 then(fj n Pn.By).bind λ r2=>some r2 else if Pn.Ar=2 then(if Pn.By=([]:Bk) then some false else(lg n Pn.By 0 false).bind λ r6=>some (decide (r6=(Pn.By.length:Int)))).bind λ t8=>some t8 else if Pn.Ar=3 then ck (Pn.By.length+([34]:Bk).length<=9223372036854775807)<|(jb n (Pn.By++([34]:Bk)) 0 0 0).bind λ Wy=>(if Wy.2.Ar=0 then some (decide (Wy.1=(Pn.By.length:Int)))else some false).bind λ YY=>some YY else if Pn.Ar=4 then(if Pn.By=([]:Bk) then some false else(jW n Pn.By 0).bind λ Wg=>some (decide (Wg=Pn.By))).bind λ Vw=>some Vw else if Pn.Ar=5 then some (decide (Pn.By=([10]:Bk)))else some false
instance LM (n:Nat) (Pn:ab):∀ (r:Bool),HP (j7 n Pn=some r) Tryz.prog 104 [.agg (ab.cs Pn)] (.p (eB r)):=by
 refine hP good Tryz.func104 Z Z λ r h0 _ w0=>?_;unfold j7 at h0;refine nx 17 Z (fD [7,8] h0 Z (λ c1 h0=>?_) λ c1 h0=>?_)
 ·exact J0
 refine nx 6 Z (fD [12,13] h0 Z (λ c4 h0=>?_) λ c4 h0=>?_)
 ·refine nx 2 Z (bd h0 λ o24 h1 h0=>kN o24 (λ v25=>⟨[(2,.p (eB v25))],[]⟩) ?_ ?_)
  ·exact J0
  refine fN (p:=Pn.By=([]:Bk)) [] h1 Z (λ c5 h1=>?_) λ c5 h1=>?_
  ·refine mD [(1,.ptr 1 0)] Z ⟨Z,trivial⟩ Z (dR 2 Z (dq (.p (eB (!decide (Pn.By=([]:Bk))))) [15] Z (λ _ e _ q=>ap Z (kR Z Z Z (e _ _ Z) Z Z q)) Z (dL (vT c5) Z ?_)));exact az
  refine bd h1 λ r6 e7 h1=>mD [(1,.ptr 1 0)] Z ⟨Z,trivial⟩ Z (dR 2 Z (dq (.p (eB (!decide (Pn.By=([]:Bk))))) [15] Z (λ _ e _ q=>ap Z (kR Z Z Z (e _ _ Z) Z Z q)) Z (dL (xn c5) Z (dR 2 Z (dq (.p (eI r6)) [17,19] Z (λ _ e _ q=>cx (cW (HP.c e7) Z Z Z (aE (e _ _ Z) (aE Z (aE Z bz))) ⟨sr,sr,sr,trivial⟩ Tryz.call96 Z q) Z Z (e _ _ Z) (rfl)) Z (dR 2 Z (dq (.p (eI (Pn.By.length:Int))) [17,22] Z (λ _ e _ q=>cx (nU Z Z Z Z Z (e _ _ Z) q) Z Z (e _ _ Z) (rfl)) Z ?_)))))));exact az
 refine nx 6 Z (fD [26,27] h0 Z (λ c9 h0=>?_) λ c9 h0=>?_)
 ·have:=js [800];have:=jS 800 Bool λ v=>[(2,.p (eB v))]
  exact J0
 refine nx 6 Z (fD [45,46] h0 Z (λ YJ h0=>?_) λ YJ h0=>?_)
 ·refine nx 2 Z (bd h0 λ o28 h1 h0=>kN o28 (λ v29=>⟨[(2,.p (eB v29))],[]⟩) ?_ ?_)
  ·exact J0
  refine fN (p:=Pn.By=([]:Bk)) [] h1 Z (λ YI h1=>?_) λ YI h1=>?_
  ·refine mD [(1,.ptr 1 0)] Z ⟨Z,trivial⟩ Z (dR 2 Z (dq (.p (eB (!decide (Pn.By=([]:Bk))))) [48] Z (λ _ e _ q=>ap Z (kR Z Z Z (e _ _ Z) Z Z q)) Z (dL (vT YI) Z ?_)));exact az
  refine bd h1 λ Wg e18 h1=>mD [(1,.ptr 1 0)] Z ⟨Z,trivial⟩ Z (dR 2 Z (dq (.p (eB (!decide (Pn.By=([]:Bk))))) [48] Z (λ _ e _ q=>ap Z (kR Z Z Z (e _ _ Z) Z Z q)) Z (dL (xn YI) Z (dR 2 Z (dq (.p (eS Wg)) [50,52] Z (λ _ e _ q=>cx (cW (HP.c e18) Z Z Z (aE (e _ _ Z) (aE Z bz)) ⟨sr,sr,trivial⟩ Tryz.call95 Z q) Z Z (e _ _ Z) (rfl)) Z (dR 2 Z (dq (.p (eB (decide (Wg=Pn.By)))) [50,53,55] Z (λ _ e _ q=>cx (kR Z Z Z (e _ _ Z) (e _ _ Z) Z q) Z Z (e _ _ Z) (rfl)) Z ?_)))))));exact az
 exact J0
def ky (Pn:ab):Option Bk :=if Pn.Ar=3 then ck (([34]:Bk).length+Pn.By.length<=9223372036854775807)<|ck ((([34]:Bk)++Pn.By).length+([34]:Bk).length<=9223372036854775807)<|some ((([34]:Bk)++Pn.By)++([34]:Bk))else some Pn.By
instance Gj (Pn:ab):∀ (r:Bk),HP (ky Pn=some r) Tryz.prog 105 [.agg (ab.cs Pn)] (.p (eS r)):=by
 refine hP good Tryz.func105 Z Z λ r h0 _ w0=>?_;unfold ky at h0;exact J0
def lO (a_0:ab)(UB:ab):Option Bool :=if a_0.Ar=1 then(if UB.Ar=1 then some true else some (decide (UB.Ar=2))).bind λ t3=>some t3 else if a_0.Ar=2 then some (decide (UB.Ar=2))else(if a_0.Ar=4 then if UB.Ar=4 then some (decide (UB.By=([]:Bk)))else some true else some true).bind λ t7=>if t7=true then some false else(if a_0.By=([61]:Bk) then ck ((0:Int)<=0/\0<(UB.By.length:Int))<|some (decide (byt UB.By 0=62))else some false).bind λ t11=>if t11=true then some true else(ck ((0:Int)<=0/\0<(UB.By.length:Int))<|if byt UB.By 0=61 then if a_0.By=([61]:Bk) then some true else if a_0.By=([33]:Bk) then some true else if a_0.By=([60]:Bk) then some true else some (decide (a_0.By=([62]:Bk)))else some false).bind λ Xl=>some Xl
instance Ip (a_0:ab) (UB:ab):∀ (r:Bool),HP (lO a_0 UB=some r) Tryz.prog 106 [.agg (ab.cs a_0),.agg (ab.cs UB)] (.p (eB r)):=by
 refine hP good Tryz.func106 Z Z λ r h0 _ w0=>?_;unfold lO at h0;have:=js [200,500,700,900];have:=jS 200 Bool λ v=>[(4,.p (eB v))]
 have:=jS 500 Bool λ v=>[(34,.p (eB v))]
 have:=jS 700 Bool λ v=>[(43,.p (eB v))]
 have:=jS 900 Bool λ v=>[(4,.p (eB v))]
 exact J0
def dM (n:Nat)(l_0:List ab):Nat->Int->Int->Option (Int⊕Int)|0,_,_=>none|m+1,n33,i34=>ck (inR (i34+1))<|if i34+1<(l_0.length:Int) then jn (ck ((0:Int)<=i34/\i34<(l_0.length:Int))<|if 65536<(((lat l_0 i34).By).length:Int) then some (.inr (.inr 3))else ck ((0:Int)<=i34/\i34<(l_0.length:Int))<|(j7 n (lat l_0 i34)).bind λ Yo=>if (!Yo)=true then some (.inr (.inr 1))else ck ((0:Int)<=i34/\i34<(l_0.length:Int))<|(ky (lat l_0 i34)).bind λ W7=>ck (inR (n33+(W7.length:Int)))<|ck ((0:Int)<=i34/\i34<(l_0.length:Int))<|ck (inR (i34+1))<|ck ((0:Int)<=i34+1/\i34+1<(l_0.length:Int))<|(lO (lat l_0 i34) (lat l_0 (i34+1))).bind λ r50=>if r50=true then ck (inR ((n33+(W7.length:Int))+1))<|some (.inl ((n33+(W7.length:Int))+1))else some (.inl (n33+(W7.length:Int))) : Option (Int⊕(Int⊕Int))) λ n54=>ck (inR (i34+1))<|dM n l_0 m n54 (i34+1)else some (.inl n33)
def jj (n:Nat)(l_0:List ab):Option Int :=if 16384<(l_0.length:Int) then some 14 else(if (l_0.length:Int)=0 then some true else ck (inR ((l_0.length:Int)-1))<|ck ((0:Int)<=(l_0.length:Int)-1/\(l_0.length:Int)-1<(l_0.length:Int))<|if (lat l_0 ((l_0.length:Int)-1)).Ar=6 then ck (inR ((l_0.length:Int)-1))<|ck ((0:Int)<=(l_0.length:Int)-1/\(l_0.length:Int)-1<(l_0.length:Int))<|some (!decide ((lat l_0 ((l_0.length:Int)-1)).By=([]:Bk)))else some true).bind λ t8=>if t8=true then some 1 else jn (dM n l_0 n 0 0) λ n58=>if 65536<n58 then some 3 else some 0
instance L4 (n:Nat) (l_0:List ab):∀ (r:Int),HP (jj n l_0=some r) Tryz.prog 66 [eL aB l_0] (.p (eI r)):=by
 refine hP good Tryz.func66 Z Z λ r h0 _ w0=>?_;unfold jj at h0;refine nx 8 Z (oLl (f:=aB) Z Z (nx 2 Z (fD [7] h0 Z (λ c1 h0=>?_) λ c1 h0=>?_)))
 ·exact J0
 refine nx 4 Z (bd h0 λ o63 h1 h0=>kN o63 (λ v64=>⟨[(0,.p (eL aB l_0)),(30,.p (eB v64))],[]⟩) ?_ ?_)
 ·refine nx 1 Z (fB [30] h0 Z (λ c9 h0=>?_) λ c9 h0=>?_)
  ·exact J0
  refine nx 12 rfl ?_;obtain ⟨o65,h1,UV,hR0⟩:=bo h0;refine kEx 0 (λ v66:Int=>o65=.inl v66) (λ v66=>⟨[(3,.p (eI v66))],[]⟩) (λ v66 hv=>?_) ?_
  ·exact fR
  refine lG (λ (Yu:Int×Int)=>⟨[(0,.p (eL aB l_0)),(3,.p (eI Yu.1)),(4,.p (eI Yu.2))],[]⟩) (λ m (Yu:Int×Int)=>dM n l_0 m Yu.1 Yu.2) Y (0,0) h1 (gE rfl rfl) ?_;rintro m ⟨n33,i34⟩ h1;replace h1:dM n l_0 (m+1) n33 i34=some o65:=h1;rw [dM] at h1;refine nx 4 rfl (oA h1 rfl rfl λ X4 h1=>nx 1 rfl (oLl (f:=aB) rfl rfl (nx 2 rfl (fD [35] h1 rfl (λ YH h1=>?_) λ YH h1=>?_))))
  ·refine nx 3 rfl ?_;obtain ⟨o68,h2,hL1,hR1⟩:=bo h1;refine kX (λ v69:Int=>o68=.inl v69) (λ v69=>⟨[(0,.p (eL aB l_0)),(3,.p (eI v69)),(4,.p (eI i34))],[]⟩) (λ v69 hv=>?_) ?_
   ·have h1:=hL1 _ hv;exact az
   refine nx 6 Z (oE h2 ab.It Z Z Y λ XA h2=>nx 2 Z (oLs Z (nx 2 Z (fD [44] h2 Z (λ c38 h2=>?_) λ c38 h2=>?_))))
   ·exact bP
   refine nx 7 Z (oE h2 ab.It Z Z Y λ ZX h2=>nx 1 Z (K2 λ Yo h2=>nx 2 Z (fB [50] h2 Z (λ c42 h2=>?_) λ c42 h2=>?_)))
   ·exact bP
   refine nx 7 Z (oE h2 ab.It Z Z Y λ abT h2=>nx 1 Z (bd h2 λ W7 e45 h2=>oK (HP.c e45) Z ⟨sr,trivial⟩ Tryz.call105 Z (oLs Z (oA h2 Z Z λ aaP h2=>nx 2 Z (mG (gE (t:=⟨[(0,.p (eL aB l_0)),(3,.p (eI (n33+(W7.length:Int)))),(4,.p (eI i34))],[]⟩) Z Z) (nx 1 Z (cc' h2 λ YE h2=>cc' h2 λ YD h2=>cc' h2 λ Zf h2=>bd h2 λ r50 e51 h2=>mD [(0,.p (eL aB l_0)),(3,.p (eI (n33+(W7.length:Int)))),(4,.p (eI i34))] Z ⟨Z,Z,Z,trivial⟩ Z (dR 2 Z (dq (.rptr (ab.cs (lat l_0 i34))) [59,60] Z (λ _ e _ q=>ap Z (jG (f:=aB) (l:=l_0) ab.cs Z Z Z Z Z Z (e _ _ Z) Z (e _ _ Z) YE ab.It Y q)) Z (dR 3 Z ?_))))))))));refine dq (.p (eI (i34+1))) [64] Z (λ _ e _ q=>ap Z (fM Z Z Z (e _ _ Z) Z Z YD q)) Z (dq (.rptr (ab.cs (lat l_0 (i34+1)))) [63,65] Z (λ _ e _ q=>ap Z (jG (f:=aB) (l:=l_0) ab.cs Z Z Z Z Z Z (e _ _ Z) Z (e _ _ Z) Zf ab.It Y q)) Z (dR 1 Z (dq (.p (eB r50)) [62,67] Z (λ _ e _ q=>ap Z (cW (HP.c e51) Z Z Z (aE (e _ _ Z) (aE (e _ _ Z) bz)) ⟨sr,sr,trivial⟩ Tryz.call106 Z q)) Z ?_)));exact bP
  exact az
 exact az
end Go.Ab.R06
end
section
namespace Go.Ab.R06
open Go.Ab Go.Ab.RB Go.Lib
variable {p:Prop}
theorem I4 (h:p:=by
 simp only [n8,decide_eq_true_eq] at w;have hw:=hlt1 1 O rfl;refine av (λ a=>ag (bv O O) (ag hw (av (λ b=>aa ?_) (λ b=>av (λ d=>ag (bv O O) (ag hw (aa ?_))) (λ d=>aa ?_))))) (λ a=>ae rfl (av (λ d=>ag (bv O O) (ag hw (aa ?_))) (λ d=>aa ?_)))
 ·symm; rw [decide_eq_false_iff_not]; omega
 ·omega
 ·symm; show _=true; rw [decide_eq_true_eq]; exact ⟨by omega,⟨by omega,w.2.1,w.2.2⟩,by omega,by omega⟩
 ·refine eqB ?_; rw [Bool.not_eq_true',decide_eq_false_iff_not,decide_eq_true_eq]; exact ⟨λ v=>⟨by omega,⟨by omega,w.2.1,w.2.2⟩,by omega,by omega⟩,λ v=>by omega⟩
 ·symm; show _=true; rw [decide_eq_true_eq]; exact ⟨by omega,⟨by omega,w.2.1,w.2.2⟩,by omega,by omega⟩):p:=h
theorem Cp (h:p:=by
 exact ai false (af (by unfold pz; simp) (aa Z)) (af G (aa Z))):p:=h
theorem Hy (e a:Int):gN e a=some (ao.mk e a []):=rfl
theorem vm (b:UInt8):Ev2 (λ _ _=>iE (b.toNat:Int)) (·=gR b):=by
 have h:=lJ b;have hc:∀ x:Bool,(x=true↔(97<=b.toNat/\b.toNat<=122)\/(65<=b.toNat/\b.toNat<=90)\/b.toNat=95)->x=gR b:=λ x hx=>eqB (hx.trans h.symm);unfold iE;refine ai (gR b) (av (λ h1=>aa (hc _ ?_)) (λ h1=>av (λ h2=>av (λ h3=>aa (hc _ ?_)) (λ h3=>av (λ h4=>aa (hc _ ?_)) (λ h4=>aa (hc _ ?_)))) (λ h2=>av (λ h4=>aa (hc _ ?_)) (λ h4=>aa (hc _ ?_))))) (aa Z)
 all_goals (simp only [decide_eq_true_eq,true_iff,Bool.false_eq_true,false_iff]; omega)
theorem xH (b:UInt8):Ev2 (λ _ _=>jk (b.toNat:Int)) (·=cz b):=by
 have h:=iO b;have hc:∀ x:Bool,(x=true↔48<=b.toNat/\b.toNat<=57)->x=cz b:=λ x hx=>eqB (hx.trans h.symm);unfold jk;refine ai (cz b) (av (λ h1=>aa (hc _ ?_)) (λ h1=>aa (hc _ ?_))) (aa Z)
 all_goals (simp only [decide_eq_true_eq,Bool.false_eq_true,false_iff]; omega)
theorem wx (s:Bk)(hs:s.length<=1000000000):∀ (l:Bk),l <:+ s->Ev2 (λ _ m=>dV s m (pz s l)) (·=pz s (l.dropWhile dj))
 | [],_=>by
  refine aw ?_;simp only [dV];exact Cp
 | b::r,h=>by
  have Ux:=jc h;refine aw ?_;simp only [dV,gU h];refine ai (dj b) (ae Ux.2 (ag Ux (av (λ q=>aa ?_) (λ q=>ag Ux (av (λ q2=>aa ?_) (λ q2=>ag Ux (aa ?_))))))) ?_
  ·symm; unfold dj; rw [decide_eq_true (show b.toNat=32 by omega)]; rfl
  ·symm; unfold dj; rw [decide_eq_true (show b.toNat=9 by omega)]; simp
  ·refine eqB ?_;simp only [dj,Bool.or_eq_true,decide_eq_true_eq]; omega
  ·cases hb:dj b
   ·rw [List.dropWhile_cons_of_neg qL];exact sI
   ·rw [List.dropWhile_cons_of_pos hb];refine ae rfl (ag aC ?_);rw [<- show pz s r=pz s (b::r)+1 from kB];exact wx s hs r (eq h)
theorem AC (s l:Bk)(hs:s.length<=1000000000)(h:l <:+ s):Ev2 (λ n _=>jC n s (pz s l)) (·=pz s (l.dropWhile dj)):=by
 simp only [jC];exact ai _ (aN (f:=λ _ m=>dV s m (pz s l)) (wx s hs l h)) (aa rfl)
theorem zF (l:Bk):fb false l=l.dropWhile dj:=by
 unfold fb
 cases l.dropWhile dj <;> rfl
theorem zq (s:Bk)(hs:s.length<=1000000000):∀ (l:Bk),l <:+ s->Ev2 (λ _ m=>fz s m (pz s l)) (·=pz s (l.dropWhile (λ x=>!decide (x=10))))
 | [],_=>by
  refine aw ?_;simp only [fz];exact Cp
 | b::r,h=>by
  have Ux:=jc h;have hb10:b=10↔b.toNat=10:=⟨λ q=>by rw [q]; rfl,λ q=>UInt8.toNat_inj.1 q⟩
  refine aw ?_;simp only [fz,gU h];refine ai (!decide (b=10)) (ae Ux.2 (ag Ux (aa ?_))) ?_
  ·congr 1; refine eqB ?_; rw [decide_eq_true_eq,decide_eq_true_eq,hb10]; omega
  ·by_cases hb:b=10
   ·rw [List.dropWhile_cons_of_neg qL];exact af qL (aa rfl)
   ·rw [List.dropWhile_cons_of_pos qL];refine ae qL (ag aC ?_);rw [<- show pz s r=pz s (b::r)+1 from kB];exact zq s hs r (eq h)
theorem Py (s l:Bk)(hs:s.length<=1000000000)(h:l <:+ s):Ev2 (λ n _=>nt n s (pz s l)) (·=pz s (fb true l)):=by
 simp only [nt];refine ai _ (AC s l hs h) ?_;have h1:=(o5 (p:=dj) l).trans h;unfold fb;generalize l.dropWhile dj=l1 at h1 ⊢
 cases l1 with
 | nil=>exact ai _ (ai false (af (by unfold pz; simp) (aa Z)) (af G (aa Z))) (aa Z)
 | cons b r=>
  have Ux:=jc h1;simp only [gU h1,Bool.true_and];refine ai (pz s (if decide (b.toNat=35)=true then (b::r).dropWhile (λ x=>!decide (x=10)) else b::r)) (ai (decide (b.toNat=35)) (ae Ux.2 (ag Ux (aa ?_))) ?_) (aa Z)
  ·refine eqB ?_; rw [decide_eq_true_eq,decide_eq_true_eq]; omega
  ·by_cases hb:b.toNat=35
   ·rw [if_pos q9];exact ae q9 (ai _ (aN (f:=λ _ m=>fz s m (pz s (b::r))) (zq s hs _ h1)) (aa rfl))
   ·rw [if_neg q9];exact af q9 (aa rfl)
theorem zQ (l t:Bk):(decide (t.length<=l.length)&&decide (l.take t.length=t))=hasPrefix l t:=by
 have:=hasPrefix_of_take l t;rw [<- this];congr 1;exact (Bool.beq_eq_decide_eq _ _).symm
theorem vD {s l:Bk}(h:l <:+ s){k:Nat}(hk:k<=l.length):sub s (pz s l) (pz s l+(k:Int))=l.take k:=by
 rw [<- mu hk,qm h (List.drop_suffix _ _),n6];congr 1; omega
theorem zT (s l:Bk)(hs:s.length<=1000000000)(h:l <:+ s):∀ (j k:Nat),k+j=7->Ev2 (λ _ m=>fw s (pz s l) m (k:Int)) (·=match (mC.drop k).find? (λ t=>hasPrefix l t) with|some t=>.inr t|none=>.inl ())
 | 0,k,hk=>by
  have:k=7:=by omega
  subst this;refine aw ?_;simp only [fw];exact sI
 | j+1,k,hk=>by
  have Yp:k<mC.length:=by show k<7; omega
  have hge:=vA h;have hle:=h.length_le;have hpl:pz s l+(l.length:Int)=s.length:=by unfold pz; omega
  refine aw ?_;simp only [fw];have e:lat ([([61,62]:Bk),([61,61]:Bk),([33,61]:Bk),([60,61]:Bk),([62,61]:Bk),([38,38]:Bk),([124,124]:Bk)]) (k:Int)=mC[k]:=nW mC k Yp;have e7:([([61,62]:Bk),([61,61]:Bk),([33,61]:Bk),([60,61]:Bk),([62,61]:Bk),([38,38]:Bk),([124,124]:Bk)]).length=7:=rfl
  have t2:(mC[k]).length=2:=by
   have:=ph.1 (show mC.all (λ t=>t.length==2)=true from rfl) _ (List.getElem_mem Yp);exact eq_of_beq this
  simp only [e7,e];rw [List.drop_eq_getElem_cons Yp,List.find?_cons];have hp:=zQ l mC[k];rw [t2] at hp;refine ae O (ai (hasPrefix l mC[k]) (ag aC (av (λ q=>ag aC (ag ⟨hge,by omega,by omega⟩ (ag O (aa ?_)))) (λ q=>aa ?_))) ?_)
  ·have h2:sub s (pz s l) (pz s l+2)=l.take 2:=vD h (k:=2) O;rw [<- hp,decide_eq_true (show 2<=l.length by omega),Bool.true_and];refine eqB ?_;rw [decide_eq_true_eq,decide_eq_true_eq,h2]
  ·rw [<- hp,decide_eq_false (show ¬ 2<=l.length by omega),Bool.false_and]
  ·cases hq:hasPrefix l mC[k]
   ·exact af G (ag aC (zT s l hs h j (k+1) O))
   ·exact ae Z (ag O (aa Z))
theorem index_drop {p:Bk}{c:UInt8}{k:Nat}(hk:k<p.length)(UK:p[k]≠c):(indexByte (p.drop k) c<0↔indexByte (p.drop (k+1)) c<0):=by
 rw [List.drop_eq_getElem_cons hk]
 conv=>lhs; unfold indexByte
 have hge:=indexByte_ge (p.drop (k+1)) c;rw [if_neg (by simpa using UK)];by_cases q:indexByte (p.drop (k+1)) c=-1
 ·rw [if_pos (by simpa using q)]; omega
 ·rw [if_neg (by simpa using q)]; omega
theorem zI (s:Bk)(hs:s.length<=1000000000){b:UInt8}{r:Bk}(h:(b::r) <:+ s):∀ (j k:Nat),k+j=19->Ev2 (λ _ m=>fu s (pz s (b::r)) m (k:Int)) (·=if indexByte (jJ.drop k) b<0 then .inl () else .inr [b])
 | 0,k,hk=>by
  have:k=19:=by omega
  subst this;refine aw ?_;simp only [fu];exact sI
 | j+1,k,hk=>by
  have Yp:k<jJ.length:=by show k<19; omega
  have Ux:=jc h;refine aw ?_;simp only [fu,gU h]
  have e:byt ([123,125,91,93,40,41,44,61,60,62,43,45,42,47,37,33,63,58,46]:Bk) (k:Int)=((jJ[k]).toNat:Int):=by
   rw [cH];exact congrArg (λ x:UInt8=>(x.toNat:Int)) (by rw [List.getD_eq_getElem?_getD]; show (jJ[k]?).getD 0=_; rw [List.getElem?_eq_getElem Yp]; rfl)
  have e19:([123,125,91,93,40,41,44,61,60,62,43,45,42,47,37,33,63,58,46]:Bk).length=19:=rfl;simp only [e19,e];refine ae O (ag Ux (ag O ?_));by_cases hb:jJ[k]=b
  ·have hx:¬ indexByte (jJ.drop k) b<0:=by
    rw [List.drop_eq_getElem_cons Yp];unfold indexByte;rw [if_pos q9]; omega
   rw [if_neg hx];refine ae (by rw [hb]) (ag aC (ag ⟨Ux.1,by omega,by omega⟩ (aa ?_)));have:=vD h (k:=1) G;exact congrArg Sum.inr this
  ·have hiff:=index_drop Yp hb
   have e2:(if indexByte (jJ.drop k) b<0 then Sum.inl () else Sum.inr [b]:Unit⊕Bk)=if indexByte (jJ.drop (k+1)) b<0 then Sum.inl () else Sum.inr [b]:=by
    by_cases q:indexByte (jJ.drop (k+1)) b<0
    ·rw [if_pos q,if_pos (hiff.2 q)]
    ·rw [if_neg q,if_neg (λ w=>q (hiff.1 w))]
   rw [e2];refine af (λ q=>hb (UInt8.toNat_inj.1 O)) (ag aC ?_);exact zI s hs h j (k+1) O
theorem Bo (s:Bk)(hs:s.length<=1000000000){b:UInt8}{r:Bk}(h:(b::r) <:+ s):Ev2 (λ n _=>jW n s (pz s (b::r))) (·=eg (b::r)):=by
 simp only [jW];refine cj (aO (aN (f:=λ _ m=>fw s (pz s (b::r)) m 0) (zT s (b::r) hs h 7 0 rfl)) λ x hx=>?_);subst hx;unfold eg;rw [List.drop_zero]
 cases mC.find? (λ t=>hasPrefix (b::r) t) with
 | some t=>rfl
 | none=>
  refine cj (aO (aN (f:=λ _ m=>fu s (pz s (b::r)) m 0) (zI s hs h 19 0 Z)) λ x hx=>?_);subst hx;rw [List.drop_zero];simp only [qx];by_cases hn:indexByte jJ b<0
  ·rw [if_pos hn,if_pos hn]; exact aa rfl
  ·rw [if_neg hn,if_neg hn]
theorem K7 (s:Bk)(hs:s.length<=1000000000){b:UInt8}{r:Bk}(h:(b::r) <:+ s):Ev2 (λ n _=>kT n s (pz s (b::r))) (·=iG (b::r)):=by
 have Ux:=jc h;simp only [kT,gU h];rw [kp];refine ai _ (ag Ux (ai _ (vm b) ?_)) (aa Z)
 cases gR b
 ·refine af G (ag Ux (ai _ (xH b) ?_))
  cases cz b
  ·refine af G (ag Ux (av (λ q=>aa ?_) (λ q=>ag Ux (av (λ q2=>aa ?_) (λ q2=>ai _ (Bo s hs h) (aa ?_))))))
   ·rw [decide_eq_true (show b.toNat=34 by omega)]; rfl
   ·rw [decide_eq_true (show b.toNat=10 by omega)]; simp
   ·rw [decide_eq_false (show ¬ b.toNat=34 by omega),decide_eq_false (show ¬ b.toNat=10 by omega)]
    cases eg (b::r) <;> simp
  ·exact sc
 ·exact sc
theorem EB (s:Bk)(hs:s.length<=1000000000)(c:Bool)(p:UInt8->Bool)(hp:∀ x,p x=(cz x||(c&&gR x))):∀ (l:Bk),l <:+ s->Ev2 (λ _ m=>gf s c m (pz s l)) (·=pz s (l.dropWhile p))
 | [],_=>by
  refine aw ?_;simp only [gf];exact Cp
 | b::r,h=>by
  have Ux:=jc h;refine aw ?_;simp only [gf,gU h];refine ai (p b) (ae Ux.2 (ag Ux (ai _ (xH b) ?_))) ?_
  ·rw [hp b]
   cases cz b
   ·refine af G ?_
    cases c
    ·exact sI
    ·exact ae Z (ag Ux (ai _ (vm b) vW))
   ·exact sc
  ·cases hb:p b
   ·rw [List.dropWhile_cons_of_neg qL];exact sI
   ·rw [List.dropWhile_cons_of_pos hb];refine ae rfl (ag aC ?_);rw [<- show pz s r=pz s (b::r)+1 from kB];exact EB s hs c p hp r (eq h)
theorem HW (s l:Bk)(hs:s.length<=1000000000)(h:l <:+ s)(c:Bool)(p:UInt8->Bool)(hp:∀ x,p x=(cz x||(c&&gR x))):Ev2 (λ n _=>lg n s (pz s l) c) (·=pz s (l.dropWhile p)):=by
 simp only [lg];exact ai _ (aN (f:=λ _ m=>gf s c m (pz s l)) (EB s hs c p hp l h)) (aa rfl)
def hC (b:Nat):Bool:=decide (128<=b)&&decide (b<=191)
def uw (n b0 b1 b2 b3:Nat):Nat :=if b0<128 then 1 else if (194<=b0/\b0<=223)/\2<=n/\hC b1=true then 2 else if (224<=b0/\b0<=239)/\(3<=n/\hC b1=true/\hC b2=true)/\¬ (b0=224/\b1<160)/\¬ (b0=237/\159<b1) then 3 else if (240<=b0/\b0<=244)/\(4<=n/\hC b1=true/\hC b2=true/\hC b3=true)/\¬ (b0=240/\b1<144)/\¬ (b0=244/\143<b1) then 4 else 0
theorem uK (b:Nat)(h:b<256):hC b=true↔b / 64=2:=by
 simp only [hC,n8,decide_eq_true_eq]; omega
theorem FZ (n b0 b1 b2 b3:Nat)(h0:b0<256)(h1:b1<256)(h2:b2<256)(h3:b3<256)(_hn:1<=n) :
  (jD (decodeN n b0 b1 b2 b3)↔uw n b0 b1 b2 b3=0\/b0<32\/b0=127)/\(¬ jD (decodeN n b0 b1 b2 b3)->(decodeN n b0 b1 b2 b3).2=uw n b0 b1 b2 b3):=by
 unfold uw;simp only [uK _ h1,uK _ h2,uK _ h3];unfold jD decodeN
 repeat' split
 all_goals (refine ⟨?_,?_⟩ <;> dsimp only <;> omega)
def cAt (s:Bk)(i:Nat):Bool:=hC (s.getD i 0).toNat
theorem zA (s:Bk)(hs:s.length<=1000000000)(e:Nat)(ht:e<=s.length):∀ (j i:Nat),i+j=e->Ev2 (λ _ m=>fq s (e:Int) m (i:Int)) (·=if ki (cAt s) i j=true then .inl () else .inr false)
 | 0,i,hi=>by
  refine aw ?_;simp only [fq];exact rc
 | j+1,i,hi=>by
  have hb:byt s (i:Int)=((s.getD i 0).toNat:Int):=cH s i;refine aw ?_;simp only [fq,hb];refine ae O (ai (!cAt s i) (ag O (av (λ q=>aa ?_) (λ q=>ag O (aa ?_)))) ?_)
  ·have:cAt s i=false:=by
    unfold cAt hC; rw [decide_eq_false (show ¬ 128<=(s.getD i 0).toNat by omega),Bool.false_and]
   rw [this]; rfl
  ·unfold cAt hC;rw [decide_eq_true (show 128<=(s.getD i 0).toNat by omega),Bool.true_and];refine eqB ?_;rw [decide_eq_true_eq,Bool.not_eq_true',decide_eq_false_iff_not]; omega
  ·rw [show ki (cAt s) i (j+1)=(cAt s i&&ki (cAt s) (i+1) j) from rfl]
   cases cAt s i
   ·exact sc
   ·refine af G (ag aC ?_);rw [Bool.true_and];exact zA s hs e ht j (i+1) O
theorem Bi (s:Bk)(hs:s.length<=1000000000)(i j:Nat){a b:Int}(ha:a=(i:Int))(hb:b=((i+j:Nat):Int)):Ev2 (λ n _=>j4 n s a b) (·=(decide (i+j<=s.length)&&ki (cAt s) i j)):=by
 subst ha hb;simp only [j4];by_cases h:i+j<=s.length
 ·rw [decide_eq_true h,Bool.true_and];refine af O (cj (aO (aN (f:=λ _ m=>fq s ((i+j:Nat):Int) m (i:Int)) (zA s hs (i+j) h j i rfl)) λ x hx=>?_));subst hx
  cases ki (cAt s) i j
  ·rfl
  ·exact aa Z
 ·rw [decide_eq_false h,Bool.false_and];exact sA
theorem JM {s l:Bk}(h:l <:+ s)(j:Nat):s.getD (s.length-l.length+j) 0=l.getD j 0:=by
 have h1:=ru h;rw [List.getD_eq_getElem?_getD,List.getD_eq_getElem?_getD,<- h1,List.getElem?_drop,h1]
def wid (l:Bk):Nat:=uw l.length (l.getD 0 0).toNat (l.getD 1 0).toNat (l.getD 2 0).toNat (l.getD 3 0).toNat
theorem Mz {l:Bk}(h:l≠[]):(jD (decodeL l)↔wid l=0\/(l.getD 0 0).toNat<32\/(l.getD 0 0).toNat=127)/\(¬ jD (decodeL l)->(decodeL l).2=wid l):=by
 have hl:0<l.length:=List.length_pos_iff.2 h;rw [decodeL_N];exact FZ l.length _ _ _ _ (UInt8.toNat_lt _) (UInt8.toNat_lt _) (UInt8.toNat_lt _) (UInt8.toNat_lt _) O
theorem OD (s:Bk)(hs:s.length<=1000000000){c:UInt8}{t:Bk}(h:(c::t) <:+ s):Ev2 (λ n _=>lF n s (pz s (c::t))) (·=(wid (c::t):Int)):=by
 have Ux:=jc h;have hle:=h.length_le;have hN:=ux h;obtain ⟨i,hi⟩:∃ i,i=s.length-(c::t).length:=⟨_,rfl⟩
 rw [<- hi] at hN;have hil:i+(c::t).length=s.length:=by omega
 have hg:∀ j,s.getD (i+j) 0=(c::t).getD j 0:=λ j=>by rw [hi]; exact JM h j
 have e0:(c::t).getD 0 0=c:=rfl;have e1:byt s (pz s (c::t)+1)=(((c::t).getD 1 0).toNat:Int):=by rw [hN,<- hg 1]; exact cH s (i+1)
 have c1:cAt s (i+1)=hC ((c::t).getD 1 0).toNat:=by unfold cAt; rw [hg 1]
 have c2:cAt s (i+2)=hC ((c::t).getD 2 0).toNat:=by unfold cAt; rw [hg 2]
 have c3:cAt s (i+3)=hC ((c::t).getD 3 0).toNat:=by unfold cAt; rw [hg 3]
 have T1:=Bi s hs (i+1) 1 (a:=pz s (c::t)+1) (b:=pz s (c::t)+2) O O;have T2:=Bi s hs (i+1) 2 (a:=pz s (c::t)+1) (b:=pz s (c::t)+3) O O;have T3:=Bi s hs (i+1) 3 (a:=pz s (c::t)+1) (b:=pz s (c::t)+4) O O;rw [show ki (cAt s) (i+1) 1=(cAt s (i+1)&&true) from rfl] at T1;rw [show ki (cAt s) (i+1) 2=(cAt s (i+1)&&(cAt s (i+2)&&true)) from rfl] at T2;rw [show ki (cAt s) (i+1) 3=(cAt s (i+1)&&(cAt s (i+2)&&(cAt s (i+3)&&true))) from rfl] at T3;rw [c1,Bool.and_true] at T1;rw [c1,c2,Bool.and_true] at T2;rw [c1,c2,c3,Bool.and_true] at T3;have hb1:=UInt8.toNat_lt ((c::t).getD 1 0);have hn2:(i+1+1<=s.length)↔2<=(c::t).length:=by omega
 have hn3:(i+1+2<=s.length)↔3<=(c::t).length:=by omega
 have hn4:(i+1+3<=s.length)↔4<=(c::t).length:=by omega
 have hc1:hC ((c::t).getD 1 0).toNat=true->128<=((c::t).getD 1 0).toNat:=λ q=>by simp only [hC,n8,decide_eq_true_eq] at q; omega
 have hlt1:∀ k,k+1<=(c::t).length->k=1->(0:Int)<=pz s (c::t)+1/\pz s (c::t)+1<(s.length:Int):=λ k hk e=>by omega
 unfold wid;rw [e0];generalize (c::t).getD 1 0=x1 at *;generalize (c::t).getD 2 0=x2 at *;generalize (c::t).getD 3 0=x3 at *;generalize (c::t).length=n at *;simp only [lF,gU h,e1];unfold uw;refine ag Ux ?_;by_cases q0:c.toNat<128
 ·rw [if_pos q0];exact sA
 rw [if_neg q0];refine af O (ai (decide ((194<=c.toNat/\c.toNat<=223)/\2<=n/\hC x1.toNat=true)) (av (λ q=>av (λ q'=>ag aC (ag aC (ai _ T1 (aa ?_)))) (λ q'=>aa ?_)) (λ q=>aa ?_)) ?_)
 ·refine eqB ?_; simp only [n8,decide_eq_true_eq]; rw [hn2]; exact ⟨λ w=>⟨by omega,w⟩,λ w=>w.2⟩
 ·symm; rw [decide_eq_false_iff_not]; omega
 ·symm; rw [decide_eq_false_iff_not]; omega
 by_cases q1:(194<=c.toNat/\c.toNat<=223)/\2<=n/\hC x1.toNat=true
 ·rw [if_pos q1];exact ae (decide_eq_true q1) (aa rfl)
 rw [if_neg q1]
 refine af (λ w=>q1 (of_decide_eq_true w)) (ai (decide ((224<=c.toNat/\c.toNat<=239)/\(3<=n/\hC x1.toNat=true/\hC x2.toNat=true)/\¬ (c.toNat=224/\x1.toNat<160)/\¬ (c.toNat=237/\159<x1.toNat)))
  (av (λ q=>av (λ q'=>ag aC (ag aC (ai _ T2 (av (λ w=>?_) (λ w=>aa ?_))))) (λ q'=>aa ?_)) (λ q=>aa ?_)) ?_)
 ·exact I4
 ·symm; rw [decide_eq_false_iff_not]; intro v; refine w ?_; simp only [n8,decide_eq_true_eq]; exact ⟨by omega,v.2.1.2.1,v.2.1.2.2⟩
 ·symm; rw [decide_eq_false_iff_not]; omega
 ·symm; rw [decide_eq_false_iff_not]; omega
 by_cases q2:(224<=c.toNat/\c.toNat<=239)/\(3<=n/\hC x1.toNat=true/\hC x2.toNat=true)/\¬ (c.toNat=224/\x1.toNat<160)/\¬ (c.toNat=237/\159<x1.toNat)
 ·rw [if_pos q2];exact ae (decide_eq_true q2) (aa rfl)
 rw [if_neg q2]
 refine af (λ w=>q2 (of_decide_eq_true w)) (ai (decide ((240<=c.toNat/\c.toNat<=244)/\(4<=n/\hC x1.toNat=true/\hC x2.toNat=true/\hC x3.toNat=true)/\¬ (c.toNat=240/\x1.toNat<144)/\¬ (c.toNat=244/\143<x1.toNat)))
  (av (λ q=>av (λ q'=>ag aC (ag aC (ai _ T3 (av (λ w=>?_) (λ w=>aa ?_))))) (λ q'=>aa ?_)) (λ q=>aa ?_)) ?_)
 ·exact I4
 ·symm; rw [decide_eq_false_iff_not]; intro v; refine w ?_; simp only [n8,decide_eq_true_eq]; exact ⟨by omega,v.2.1.2.1,v.2.1.2.2.1,v.2.1.2.2.2⟩
 ·symm; rw [decide_eq_false_iff_not]; omega
 ·symm; rw [decide_eq_false_iff_not]; omega
 by_cases q3:(240<=c.toNat/\c.toNat<=244)/\(4<=n/\hC x1.toNat=true/\hC x2.toNat=true/\hC x3.toNat=true)/\¬ (c.toNat=240/\x1.toNat<144)/\¬ (c.toNat=244/\143<x1.toNat)
 ·rw [if_pos q3];exact ae (decide_eq_true q3) (aa rfl)
 rw [if_neg q3];exact af (λ w=>q3 (of_decide_eq_true w)) (aa rfl)
theorem LV (h:p:=by
 cases x with
 | inl x=>
  have hx:q=.inl (40,none):=hx;subst hx;exact ai _ (ax (Hy _ _) Z) (aa ⟨Z,by show (40:Int)≠0; decide⟩)
 | inr y=>exact hx):p:=h
theorem Kx (h:p:=by
 rw [if_pos hc]
 exact ae (decide_eq_true hc) (ai _ (ax (Hy _ _) Z) (aa Z))):p:=h
theorem vH (h:p:=by exact ax (Hy _ _) Z):p:=h
theorem D7 {src:Bk->SE⊕Bk}{l:Bk}(hs:∀ r e,src r=.inl e->e.1≠0){e:SE}(h:ix src l=.inl e):e.1≠0:=by
 cases l with
 | nil=>cases h; decide
 | cons b r=>
  rw [ed] at h;split at h
  ·split at h
   ·cases h; exact (by decide:(7:Int)≠0)
   ·cases h
  split at h
  ·cases h
  split at h
  ·cases h
  split at h
  ·split at h
   ·rename_i e' he; cases h; exact hs _ _ he
   ·cases h
  split at h
  ·cases h; exact (by decide:(2:Int)≠0)
  ·cases h
theorem yd:∀ (f k:Nat),(∀ l e,dz f k l=.inl e->e.1≠0)/\(∀ n l e,iP f k n l=.inl e->e.1≠0)
 | 0,k=>⟨λ l e h=>(by rw [dz] at h; cases h; decide),λ n l e h=>(by rw [iP] at h; cases h; decide)⟩
 | f+1,k=>by
  have ih:=yd f;constructor
  ·intro l e h
   cases l with
   | nil=>rw [dz] at h; cases h; decide
   | cons b r=>
    rw [iS] at h;split at h
    ·cases h
    split at h
    ·exact (ih k).1 _ _ h
    split at h
    ·split at h
     ·cases h; exact (by decide:(4:Int)≠0)
     ·split at h
      ·rename_i e' he; cases h; exact (ih (k+1)).2 _ _ _ he
      ·exact (ih k).1 _ _ h
    split at h
    ·cases h; decide
    ·split at h
     ·cases h; exact (by decide:(2:Int)≠0)
     ·exact (ih k).1 _ _ h
  ·intro n l e h;rw [j8] at h;generalize fb false l=l0 at h
   cases l0 with
   | nil=>cases h; decide
   | cons b r=>
    rw [kb] at h
    cases hq:ix (dz f k) (b::r) with
    | inl e'=>rw [hq] at h; cases h; exact D7 (ih k).1 hq
    | inr z=>
     obtain ⟨c,t,l'⟩:=z;rw [hq,jM] at h;split at h
     ·split at h
      ·cases h
      ·exact (ih k).2 _ _ _ h
     split at h
     ·exact (ih k).2 _ _ _ h
     ·exact (ih k).2 _ _ _ h
def okD:ao:=ao.mk 0 0 []
def QO (s:Bk)(o:Int)(q:SE⊕Bk)(r:Int×ao):Prop:=match q with
 | .inl e=>r.2=rX s o e/\r.2.Ar≠0
 | .inr l=>r=(pz s l-1,okD)
def InnR (s:Bk)(o:Int)(q:SE⊕Bk)(r:Int×ao):Prop:=match q with
 | .inl e=>r.2=rX s o e/\r.2.Ar≠0
 | .inr l=>r=(pz s l,okD)
def OneR (s l:Bk)(o:Int)(q:SE⊕(Int×Bk×Bk))(r:ab×Int×ao):Prop:=match q with
 | .inl e=>r.2.2=rX s o e/\r.2.2.Ar≠0
 | .inr (c,t,l')=>r=(ab.mk c t (pz s l),pz s l',okD)
theorem TW (x:UInt8):idB x=(cz x||(true&&gR x)):=by unfold idB; rw [Bool.true_and,Bool.or_comm]
theorem Ie (x:UInt8):cz x=(cz x||(false&&gR x)):=by simp
theorem OM {s:Bk}(hs:s.length<=1000000000){k:Nat}{q o:Int}{src:Bk->SE⊕Bk}{b:UInt8}{r:Bk}(h:(b::r) <:+ s)(_hnz:∀ r e,src r=.inl e->e.1≠0)(hsuf:∀ l',src r=.inr l'->l' <:+ r/\l'.length<r.length)(ho:b.toNat=34->o=if k=0 then pz s (b::r) else q)
  (hsrc:b.toNat=34->Ev2 (λ n _=>jb n s (pz s r) (k:Int) o) (QO s o (src r))) :
  Ev2 (λ n _=>d9 n s (pz s (b::r)) (k:Int) q) (OneR s (b::r) o (ix src (b::r))):=by
 have Ux:=jc h;have hle:=h.length_le;have hl2:=lJ b;have hd2:=iO b;refine aS ?_;simp only [d9,gU h];rw [ed];refine ag Ux ?_;by_cases h10:b.toNat=10
 ·rw [if_neg (show ¬ gR b=true by rw [hl2]; omega),if_neg (show ¬ cz b=true by rw [hd2]; omega),if_pos h10];refine ae O (ag aC (aa ?_));exact CS
 refine af O (ai _ (vm b) ?_);by_cases h2:gR b=true
 ·rw [if_pos h2];have hsf:=o5 (p:=idB) (b::r);have hl':=hsf.length_le
  have hrun:pz s ((b::r).dropWhile idB)-pz s (b::r)=(((b::r).takeWhile idB).length:Int):=by
   rw [<- ui,List.length_take]; unfold pz; omega
  refine ae h2 (ai _ (HW s (b::r) hs h true idB TW) (ag (bv (by rw [hrun]; omega) (by rw [hrun]; have:=(List.takeWhile_prefix (p:=idB) (l:=b::r)).length_le; omega)) ?_));by_cases h64:64<((b::r).takeWhile idB).length
  ·rw [if_pos h64];exact ae (by rw [hrun]; omega) (ai _ vH (aa ⟨rfl,by show (7:Int)≠0; decide⟩))
  ·rw [if_neg h64];refine af (by rw [hrun]; omega) (ag ⟨Ux.1,by omega,qF⟩ (aa ?_));show _=_;rw [qm h hsf,ui]; rfl
 rw [if_neg h2];refine af h2 (ai _ (xH b) ?_);by_cases h3:cz b=true
 ·rw [if_pos h3];have hsf:=o5 (p:=cz) (b::r);have hl':=hsf.length_le;refine ae h3 (ai _ (HW s (b::r) hs h false cz Ie) (ag ⟨Ux.1,by unfold pz; omega,qF⟩ (aa ?_)));show _=_;rw [qm h hsf,ui]; rfl
 rw [if_neg h3,if_neg h10];refine af h3 ?_;by_cases h34:b.toNat=34
 ·rw [if_pos h34];refine ae O (ai o (av (λ z=>aa ?_) (λ z=>aa ?_)) (ag aC ?_))
  ·rw [ho h34,if_pos O]
  ·rw [ho h34,if_neg O]
  rw [<- show pz s r=pz s (b::r)+1 from kB];refine ah _ (hsrc h34) λ x hx=>?_
  cases hq:src r with
  | inl e=>
   rw [hq] at hx;exact af hx.2 (aa hx)
  | inr l'=>
   rw [hq] at hx;have hx:x=(pz s l'-1,okD):=hx;subst hx;obtain ⟨g1,g2⟩:=hsuf l' hq;have hl's:=g1.trans (eq h);have hrl:=(eq h).length_le;have hd:r.drop (r.length-(l'.length+1)) <:+ r:=List.drop_suffix _ _;have hdl:(r.drop (r.length-(l'.length+1))).length=l'.length+1:=by rw [n6]; omega
   have e3:pz s l'-1=pz s (r.drop (r.length-(l'.length+1))):=by unfold pz; rw [hdl]; omega
   have hge:=vA (eq h);have hle2:pz s r<=s.length:=qF;refine ae Z (ag aC (ag ⟨hge,by unfold pz; omega,by unfold pz; omega⟩ (ag (bv (by unfold pz; omega) (by unfold pz; omega)) (aa ?_))));show _=_;rw [show (pz s l'-1,okD).1=pz s l'-1 from rfl,show pz s l'-1+1=pz s l' by omega,e3,qm (eq h) hd,hdl,show r.length-(l'.length+1)=r.length-l'.length-1 by omega]
   rfl
 rw [if_neg h34];refine af O (ai _ (Bo s hs h) ?_);by_cases hsn:eg (b::r)=[]
 ·refine ae hsn (ai _ vH (aa ?_));rw [if_pos hsn];exact ⟨Z,by show (2:Int)≠0; decide⟩
 ·have Sk:=ry hsn;refine af hsn (ag aC (aa ?_));rw [if_neg hsn];show _=_;rw [<- mu Sk.2]; rfl
theorem pfxI {s l p:Bk}(h:l <:+ s)(hs:s.length<=1000000000)(k:Nat)(hk:p.length=k)(YF:k<=3):Ev2 (λ _ _=>ck (inR (pz s l+(k:Int))) (if pz s l+(k:Int)<=(s.length:Int) then ck (inR (pz s l+(k:Int))) (ck ((0:Int)<=pz s l/\pz s l<=pz s l+(k:Int)/\pz s l+(k:Int)<=(s.length:Int)) (some (decide (sub s (pz s l) (pz s l+(k:Int))=p)))) else some false)) (·=hasPrefix l p):=by
 have hge:=vA h;have hle:=h.length_le;have hpl:pz s l+(l.length:Int)=s.length:=by unfold pz; omega
 have hp:=zQ l p;rw [hk] at hp;refine ag aC (av (λ q=>ag aC (ag ⟨hge,by omega,q⟩ (aa ?_))) (λ q=>aa ?_))
 ·rw [<- hp,decide_eq_true (show k<=l.length by omega),Bool.true_and];refine eqB ?_;rw [decide_eq_true_eq,decide_eq_true_eq,vD h O]
 ·rw [<- hp,decide_eq_false (show ¬ k<=l.length by omega),Bool.false_and]
def H7 (s:Bk)(o:Int)(q:SE⊕Bk)(r:Unit⊕(Int×ao)):Prop:=match r with
 | .inl _=>q=.inl (40,none)
 | .inr y=>QO s o q y
def E7 (s:Bk)(o:Int)(q:SE⊕Bk)(r:Unit⊕(Int×ao)):Prop:=match r with
 | .inl _=>q=.inl (40,none)
 | .inr y=>InnR s o q y
theorem xg {s:Bk}{l:Bk}{k:Nat}{o:Int}{q:SE⊕Bk}(hl:Ev2 (λ n m=>du n (d8 n) s (k:Int) o m (pz s l)) (H7 s o q)):Ev2 (λ n _=>jb n s (pz s l) (k:Int) o) (QO s o q):=by
 refine aS ?_;simp only [jb];refine cj (aO (aN (f:=λ n m=>du n (d8 n) s (k:Int) o m (pz s l)) hl) λ x hx=>?_);exact LV
theorem Il {s:Bk}{l:Bk}{k:Nat}{o:Int}{q:SE⊕Bk}(hl:Ev2 (λ n m=>cu n (d9 n) s (k:Int) o m (pz s l) 0) (E7 s o q)):Ev2 (λ n _=>d8 n s (pz s l) (k:Int) o) (InnR s o q):=by
 refine aS ?_;simp only [d8];refine cj (aO (aN (f:=λ n m=>cu n (d9 n) s (k:Int) o m (pz s l) 0) hl) λ x hx=>?_);exact LV
theorem F6 {s:Bk}(hs:s.length<=1000000000){o:Int}{f k:Nat}(aaR:k<=1000000)
  (ih1:∀ l,l <:+ s->l.length<f->Ev2 (λ n m=>du n (d8 n) s (k:Int) o m (pz s l)) (H7 s o (dz f k l)))
  (ih2:∀ l,l <:+ s->l.length<f->k<32->Ev2 (λ n m=>cu n (d9 n) s ((k+1:Nat):Int) o m (pz s l) 0) (E7 s o (iP f (k+1) 1 l))) :
  ∀ l,l <:+ s->l.length<f+1->Ev2 (λ n m=>du n (d8 n) s (k:Int) o m (pz s l)) (H7 s o (dz (f+1) k l)):=by
 intro l h hf;refine aw ?_;simp only [du]
 cases l with
 | nil=>
  refine af (by unfold pz; simp) (aa ?_);show dz (f+1) k []=_;rw [dz]
 | cons b r=>
  have Ux:=jc h;have hle:=h.length_le;have hfr:r.length<f:=by simp only [aq] at hf; omega
  simp only [gU h];rw [iS];refine ae Ux.2 (cj (ag Ux ?_));by_cases h34:b.toNat=34
  ·rw [if_pos h34];refine ae O (aa ?_);show (_,_)=(_,_);rw [show pz s r-1=pz s (b::r) by rw [show pz s r=pz s (b::r)+1 from kB]; omega]
   rfl
  rw [if_neg h34];refine af O (ai _ (pfxI (p:=[36,36,123]) h hs 3 rfl O) ?_);by_cases h3:hasPrefix (b::r) [36,36,123]=true
  ·rw [if_pos h3];have hp:=hasPrefix_le h3;simp only [aq,mv] at hp;refine ae h3 (ag aC (aa ?_));have:=ih1 ((b::r).drop 3) (tu 3 h) BW;rw [mu vN] at this;exact this
  rw [if_neg h3];refine af h3 (ai _ (pfxI (p:=[36,123]) h hs 2 rfl O) ?_);by_cases h2:hasPrefix (b::r) [36,123]=true
  ·rw [if_pos h2];have hp:=hasPrefix_le h2;simp only [aq,mv] at hp;refine ae h2 ?_;by_cases hk:32<=k
   ·rw [if_pos hk];exact ae O (ai _ vH (aa ⟨rfl,by show (4:Int)≠0; decide⟩))
   ·rw [if_neg hk];have hin:=Il (ih2 ((b::r).drop 2) (tu 2 h) BW O);rw [mu vN] at hin;refine af O (ag aC (ag aC (ah _ hin λ x hx=>?_)))
    cases hq:iP f (k+1) 1 ((b::r).drop 2) with
    | inl e=>
     rw [hq] at hx;exact af hx.2 (aa hx)
    | inr l'=>
     rw [hq] at hx;have hx:x=(pz s l',okD):=hx;subst hx;obtain ⟨g1,g2⟩:=(hZ f (k+1)).2 _ _ _ hq;refine ae rfl (aa (ih1 l' (g1.trans (tu 2 h)) ?_));rw [n6] at g2; simp only [aq] at g2; omega
  rw [if_neg h2];refine af h2 (cj ?_);have hsf:(if b.toNat=92 then r else b::r) <:+ s:=by split; exact eq h; exact h
  have hln:(if b.toNat=92 then r else b::r).length<=r.length+1:=by split <;> simp
  have hsplit:Ev2 (λ _ _=>(ck ((0:Int)<=pz s (b::r)/\pz s (b::r)<(s.length:Int)) (if (b.toNat:Int)=92 then ck (inR (pz s (b::r)+1)) (if (s.length:Int)<=pz s (b::r)+1 then some (.inr (.inr (.inl ()))) else some (.inl (pz s (b::r)+1))) else some (.inl (pz s (b::r)))):Option (Int⊕(Int⊕(Unit⊕(Int×ao))))))
    (·=if (if b.toNat=92 then r else b::r)=[] then .inr (.inr (.inl ())) else .inl (pz s (if b.toNat=92 then r else b::r))):=by
   refine ag Ux ?_;by_cases h92:b.toNat=92
   ·rw [if_pos h92];refine ae O (ag aC ?_);rw [<- show pz s r=pz s (b::r)+1 from kB]
    cases r with
    | nil=>exact ae (by unfold pz; simp) (aa Z)
    | cons c t=>exact af (by have:=xK (s:=s) (b:=c) (r:=t); omega) (aa Z)
   ·rw [if_neg h92];exact rc
  refine aO hsplit λ x hx=>?_;subst hx;generalize (if b.toNat=92 then r else b::r)=l1 at hsf hln ⊢
  cases l1 with
  | nil=>rfl
  | cons c t=>
   rw [if_neg G];have hatc:=jc hsf;simp only [gU hsf];obtain ⟨w1,w2⟩:=Mz (l:=c::t) G;have hdf:=gO (c::t) G;have ec:(c::t).getD 0 0=c:=rfl;rw [ec] at w1;refine ai _ (OD s hs hsf) (ai (decide (jD (decodeL (c::t)))) (av (λ q=>aa ?_) (λ q=>ag hatc (av (λ q2=>aa ?_) (λ q2=>ag hatc (aa ?_))))) ?_)
   ·symm; rw [decide_eq_true_eq,w1]; left; omega
   ·symm; rw [decide_eq_true_eq,w1]; right; left; omega
   ·refine eqB ?_; rw [decide_eq_true_eq,decide_eq_true_eq,w1]; omega
   ·by_cases hb:jD (decodeL (c::t))
    ·rw [if_pos hb];exact ae (decide_eq_true hb) (ai _ vH (aa ⟨rfl,by show (2:Int)≠0; decide⟩))
    ·rw [if_neg hb];rw [<- w2 hb];have hcl:=hsf.length_le;refine af (λ w=>hb (of_decide_eq_true w)) (ag (bv O (by have:=qF (s:=s) (l:=c::t); omega)) (aa ?_));have:=ih1 ((c::t).drop (decodeL (c::t)).2) (tu _ hsf) (by rw [n6]; simp only [aq] at hln ⊢; omega);rw [mu hdf.2.1] at this;exact this
theorem Bb {s:Bk}(hs:s.length<=1000000000){o:Int}{f k:Nat}(hk0:k≠0)
  (ih1:∀ l,l <:+ s->l.length<f->Ev2 (λ n m=>du n (d8 n) s (k:Int) o m (pz s l)) (H7 s o (dz f k l)))
  (ih2:∀ l n,1<=n->n+l.length<=s.length+1->l <:+ s->l.length<f->Ev2 (λ nn m=>cu nn (d9 nn) s (k:Int) o m (pz s l) ((n:Int)-1)) (E7 s o (iP f k n l))) :
  ∀ l n,1<=n->n+l.length<=s.length+1->l <:+ s->l.length<f+1->Ev2 (λ nn m=>cu nn (d9 nn) s (k:Int) o m (pz s l) ((n:Int)-1)) (E7 s o (iP (f+1) k n l)):=by
 intro l n hn hnl h hf;refine aw ?_;simp only [cu];rw [j8];have hsk:=oR false l;have hbl:=AC s l hs h;rw [<- zF] at hbl;refine ae qF (ai _ hbl ?_);have Sk:=hsk.length_le;have hss:=hsk.trans h;generalize fb false l=l1 at hsk Sk hss ⊢
 cases l1 with
 | nil=>exact ae (by unfold pz; simp) (aa Z)
 | cons b r=>
  have Ux:=jc hss;rw [kb];simp only [aq] at Sk;have UD:=OM hs (k:=k) (q:=o) (o:=o) (src:=dz f k) hss (yd f k).1 (λ l' hl'=>(hZ f k).1 _ _ hl') (λ _=>by rw [if_neg hk0]) (λ _=>xg (ih1 r (eq hss) O));refine af O (ah _ UD λ x hx=>?_)
  cases hq:ix (dz f k) (b::r) with
  | inl e=>
   rw [hq] at hx;rw [rm];exact af hx.2 (aa hx)
  | inr z=>
   obtain ⟨c,t,l'⟩:=z;rw [hq] at hx;have hx:x=(ab.mk c t (pz s (b::r)),pz s l',okD):=hx;subst hx;obtain ⟨g1,g2⟩:=lX (λ r r' _ hr=>(hZ f k).1 _ _ hr) hq;simp only [aq] at g2;have hl's:=g1.trans hss;rw [jM];refine ae rfl (cj (ai (decide (c=4/\t=[125])) (av (λ q=>aa ?_) (λ q=>aa ?_)) ?_))
   ·simp only [show c=4 from q,true_and]
   ·symm; rw [decide_eq_false_iff_not]; exact λ w=>q w.1
   have last:∀ (N:Nat),(1<=N)->N<=n->¬ (c=4/\t=[123]/\N≠n)->Ev2 (λ n_1 m=>(((if c=4 then some (decide (t=[123])) else some false).bind λ t37=>if t37=true then ck (inR ((N:Int)-1+1)) (some ((N:Int)-1+1)) else some ((N:Int)-1)).bind λ open40=>cu n_1 (d9 n_1) s (k:Int) o m (pz s l') open40))
     (E7 s o (if c=4/\t=[123] then iP f k (N+1) l' else iP f k N l')):=by
    intro N hN hNn hx;refine ai (((if c=4/\t=[123] then N+1 else N:Nat):Int)-1) (ai (decide (c=4/\t=[123])) (av (λ q=>aa ?_) (λ q=>aa ?_)) (av (λ q=>ag aC (aa ?_)) (λ q=>aa ?_))) ?_
    ·simp only [show c=4 from q,true_and]
    ·symm; rw [decide_eq_false_iff_not]; exact λ w=>q w.1
    ·rw [decide_eq_true_eq] at q; rw [if_pos q]; omega
    ·rw [decide_eq_true_eq] at q; rw [if_neg q]
    ·by_cases h123:c=4/\t=[123]
     ·rw [if_pos h123,if_pos h123];exact ih2 l' (N+1) O O  hl's O
     ·rw [if_neg h123,if_neg h123];exact ih2 l' N hN O hl's O
   by_cases h125:c=4/\t=[125]
   ·have hn123:¬ (c=4/\t=[123]):=λ w=>by rw [h125.2] at w; exact absurd w.2 (by decide)
    rw [if_pos h125];by_cases h1:n=1
    ·subst h1;rw [if_pos rfl];exact ae (decide_eq_true h125) vq
    ·rw [if_neg h1];refine ae (decide_eq_true h125) (af O (ag aC (aa ?_)));have:=last (n-1) O O  (λ w=>hn123 ⟨w.1,w.2.1⟩);rw [if_neg hn123,show ((n-1:Nat):Int)-1=(n:Int)-1-1 by omega] at this;exact this
   ·rw [if_neg h125];refine af (λ w=>h125 (of_decide_eq_true w)) (aa ?_);exact last n hn (bx _) (λ w=>w.2.2 rfl)
theorem qQ {s:Bk}(hs:s.length<=1000000000){o:Int}:∀ (f:Nat),
  (∀ (k:Nat) l,k<=1000->l <:+ s->l.length<f->Ev2 (λ n m=>du n (d8 n) s (k:Int) o m (pz s l)) (H7 s o (dz f k l))) /\
  (∀ (k:Nat) l n,k≠0->k<=1000->1<=n->n+l.length<=s.length+1->l <:+ s->l.length<f->Ev2 (λ nn m=>cu nn (d9 nn) s (k:Int) o m (pz s l) ((n:Int)-1)) (E7 s o (iP f k n l)))
 | 0=>⟨λ k l _ _ h=>absurd h (Nat.not_lt_zero _),λ k l n _ _ _ _ _ h=>absurd h (Nat.not_lt_zero _)⟩
 | f+1=>by
  obtain ⟨i1,i2⟩:=qQ hs (o:=o) f;refine ⟨λ k l hk=>F6 hs O (λ l=>i1 k l hk) (λ l h hf hk=>?_) l,λ k l n hk Wz=>Bb hs hk (λ l=>i1 k l Wz) (λ l n a b c e=>i2 k l n hk Wz a b c e) l n⟩;exact i2 (k+1) l 1 O O  (bx _) (by have:=h.length_le; omega) h hf
theorem MS {s:Bk}(hs:s.length<=1000000000){f:Nat}{b:UInt8}{r:Bk}(h:(b::r) <:+ s)(hf:r.length<f)(q:Int) :
  Ev2 (λ n _=>d9 n s (pz s (b::r)) 0 q) (OneR s (b::r) (pz s (b::r)) (ix (dz f 0) (b::r))) :=
 OM (k:=0) hs h (yd f 0).1 (λ l' hl'=>(hZ f 0).1 _ _ hl') (λ _=>by rw [if_pos Z]) (λ _=>xg ((qQ hs f).1 0 r O (eq h) hf))
theorem zo {s:Bk}(hs:s.length<=1000000000):∀ (f:Nat) (l:Bk) (out:List ab),out.length<=16384->l <:+ s->l.length<f->Ev2 (λ n m=>gq n s m out (pz s l)) (·=.inr (EI s out (i7 f out.length l)))
 | 0,l,out,_,_,h=>absurd h (Nat.not_lt_zero _)
 | f+1,l,out,hout,h,hf=>by
  refine aw ?_;simp only [gq];rw [lx];have hsk:=oR true l;refine ae qF (ai _ (Py s l hs h) ?_);have Sk:=hsk.length_le;have hss:=hsk.trans h;generalize fb true l=l1 at hsk Sk hss ⊢
  cases l1 with
  | nil=>
   have hz:(s.length:Int)<=pz s []:=by unfold pz; simp
   refine ai (decide (out.length=16384)) (av (λ q=>ae hz (aa ?_)) (λ q=>aa ?_)) ?_
   ·symm; rw [decide_eq_true_eq]; omega
   ·symm; rw [decide_eq_false_iff_not]; omega
   rw [mJ];by_cases hc:out.length=16384
   ·exact Kx
   ·rw [if_neg hc];exact af (λ w=>hc (of_decide_eq_true w)) (ae hz (ag nH (aa rfl)))
  | cons b r=>
   have Ux:=jc hss;refine ai (decide (out.length=16384)&&iG (b::r)) (av (λ q=>af O (ai _ (K7 s hs hss) (aa ?_))) (λ q=>aa ?_)) ?_
   ·rw [decide_eq_true (show out.length=16384 by omega),Bool.true_and]
   ·rw [decide_eq_false (show ¬ out.length=16384 by omega),Bool.false_and]
   rw [ll];simp only [aq] at Sk;have UD:=MS hs hss (f:=f) O (pz s (b::r))
   cases hb:iG (b::r)
   ·rw [if_pos rfl];rw [uX hb] at UD;refine af G (af O (ah _ UD λ x hx=>af hx.2 (aa ?_)));show _=Sum.inr ([],rX s 0 (2,some (b::r).length));rw [hx.1]; rfl
   ·rw [if_neg G,Bool.and_true];by_cases hc:out.length=16384
    ·exact Kx
    ·rw [if_neg hc];refine af (λ w=>hc (of_decide_eq_true w)) (af O (ah _ UD λ x hx=>?_))
     cases hq:ix (dz f 0) (b::r) with
     | inl e=>
      rw [hq] at hx;refine af hx.2 (aa ?_);rw [hx.1,AE s (b::r) 0]
      rfl
     | inr z=>
      obtain ⟨c,t,l'⟩:=z;rw [hq] at hx;have hx:x=(ab.mk c t (pz s (b::r)),pz s l',okD):=hx;subst hx;obtain ⟨g1,g2⟩:=lX (λ r r' _ hr=>(hZ f 0).1 _ _ hr) hq;simp only [aq] at g2;have ih:=zo hs f l' (out++[ab.mk c t (pz s (b::r))]) mf (g1.trans hss) O;simp only [n7,aq,mv,Nat.zero_add] at ih;rw [mK];refine ae rfl (ag nH (O9 ih ?_));exact GT
theorem KM (s:Bk):Ev2 (λ n _=>lf n s) (·=dv s):=by
 simp only [lf];unfold dv;by_cases h:65536<s.length
 ·rw [if_pos h];exact ae O (ai _ vH (aa rfl))
 ·rw [if_neg h];have:=zo (s:=s) O (s.length+1) s [] G List.suffix_rfl (Nat.lt_succ_self _);rw [ql] at this;exact af O (iV _ (aN (f:=λ n m=>gq n s m [] 0) this) rfl)
end Go.Ab.R06
end
section
namespace Go.Ab.R06
open Go.Proofs Go.Ab Go.Ab.RB
set_option maxRecDepth 4000
attribute [local irreducible] awp hH bc bG co AV.sub M cO
instance QK:HE Tryz.prog 152:=⟨Tryz.call152⟩
instance Pw:HE Tryz.prog 153:=⟨Tryz.call153⟩
instance QF:HE Tryz.prog 151:=⟨Tryz.call151⟩
instance QX:HE Tryz.prog 117:=⟨Tryz.call117⟩
instance Qm:HE Tryz.prog 119:=⟨Tryz.call119⟩
instance Pp:HE Tryz.prog 115:=⟨Tryz.call115⟩
instance QD:HE Tryz.prog 116:=⟨Tryz.call116⟩
instance Qc:HE Tryz.prog 120:=⟨Tryz.call120⟩
instance QA:HE Tryz.prog 69:=⟨Tryz.call69⟩
instance Q7:HE Tryz.prog 32:=⟨Tryz.call32⟩
instance Pa:HE Tryz.prog 73:=⟨Tryz.call73⟩
instance OU:HE Tryz.prog 122:=⟨Tryz.call122⟩
instance OX:HE Tryz.prog 108:=⟨Tryz.call108⟩
instance O7:HE Tryz.prog 74:=⟨Tryz.call74⟩
instance OJ:HE Tryz.prog 72:=⟨Tryz.call72⟩
instance O0:HE Tryz.prog 13:=⟨Tryz.call13⟩
instance OK:HE Tryz.prog 127:=⟨Tryz.call127⟩
instance OV:HE Tryz.prog 79:=⟨Tryz.call79⟩
instance O3:HE Tryz.prog 80:=⟨Tryz.call80⟩
instance OY:HE Tryz.prog 128:=⟨Tryz.call128⟩
instance OZ:HE Tryz.prog 168:=⟨Tryz.call168⟩
instance OH:HE Tryz.prog 169:=⟨Tryz.call169⟩
abbrev sN (F:Bk->Int->Option (Int))(k:Nat):Prop:=∀ (a0:Bk) (a1:Int) (r:Int),HP (F a0 a1=some r) Tryz.prog k [eS a0,eI a1] (.p (eI r))
abbrev qt (v:List ab×Int×Int×Int×Int×Bk):List AV:=[.p (eL aB v.1),.p (eI v.2.1),.p (eI v.2.2.1),.p (eI v.2.2.2.1),.p (eI v.2.2.2.2.1),.p (eS v.2.2.2.2.2)]
abbrev oX:List AV:=[.p (eI 0),.p (eS ([]:Bk)),.p (eI 0)]
def iI (UZ:Int):Option Bool :=(if UZ=12 then some true else some (decide (UZ=13))).bind λ t2=>some t2
instance Mx (UZ:Int):∀ (r:Bool),HP (iI UZ=some r) Tryz.prog 152 [eI UZ] (.p (eB r)):=by
 refine hP good Tryz.func152 Z Z λ r h0 _ w0=>?_;unfold iI at h0;exact kt
def iD (UZ:Int):Option Bool :=(if UZ=3 then some true else if UZ=4 then some true else if UZ=9 then some true else(iI UZ).bind λ r4=>some r4).bind λ t6=>some t6
instance IJ (UZ:Int):∀ (r:Bool),HP (iD UZ=some r) Tryz.prog 117 [eI UZ] (.p (eB r)):=by
 refine hP good Tryz.func117 Z Z λ r h0 _ w0=>?_;unfold iD at h0;exact kt
def iJ (UZ:Int)(n_1:Int):Option Bool :=(if UZ=1 then some true else some (decide (UZ=3))).bind λ t2=>if t2=true then some (decide (n_1=0))else if UZ=2 then some (decide (1<=n_1))else(if UZ=4 then some true else some (decide (UZ=6))).bind λ t6=>if t6=true then some (decide (n_1=1))else(if UZ=5 then some true else some (decide (UZ=7))).bind λ t9=>if t9=true then some (decide (n_1=2))else if UZ=8 then some (decide (n_1=3))else(if UZ=9 then some true else some (decide (UZ=10))).bind λ t13=>if t13=true then some true else if UZ=11 then ck ((2:Int)≠0)<|some (decide (n_1.tmod 2=0))else if UZ=12 then(if n_1=2 then some true else some (decide (n_1=3))).bind λ Vw=>some Vw else if UZ=13 then(if n_1=3 then some true else some (decide (n_1=4))).bind λ t22=>some t22 else some false
instance Mh (UZ:Int) (n_1:Int):∀ (r:Bool),HP (iJ UZ n_1=some r) Tryz.prog 151 [eI UZ,eI n_1] (.p (eB r)):=by
 refine hP good Tryz.func151 Z Z λ r h0 _ w0=>?_;unfold iJ at h0;refine nx 11 Z (bd h0 λ W4 h1 h0=>?_);refine kN W4 (λ VL=>⟨[(1,.p (eI n_1)),(5,.p (eI UZ)),(6,.p (eB VL))],[]⟩) ?_ ?_
 ·refine nx 1 Z (fB [6] h0 Z (λ c3 h0=>?_) λ c3 h0=>?_)
  ·exact J0
  refine nx 6 Z (fD [11,12] h0 Z (λ c4 h0=>?_) λ c4 h0=>?_)
  ·exact J0
  refine nx 2 Z (bd h0 λ Za h1 h0=>?_);refine kN Za (λ YO=>⟨[(1,.p (eI n_1)),(5,.p (eI UZ)),(15,.p (eB YO))],[]⟩) ?_ ?_
  ·refine nx 1 Z (fB [15] h0 Z (λ c7 h0=>?_) λ c7 h0=>?_)
   ·exact J0
   refine nx 2 Z (bd h0 λ o33 h1 h0=>?_);refine kN o33 (λ Z6=>⟨[(1,.p (eI n_1)),(5,.p (eI UZ)),(20,.p (eB Z6))],[]⟩) ?_ ?_
   ·refine nx 1 Z (fB [20] h0 Z (λ YM h0=>?_) λ YM h0=>?_)
    ·exact J0
    refine nx 6 Z (fD [25,26] h0 Z (λ Yl h0=>?_) λ Yl h0=>?_)
    ·exact J0
    refine nx 2 Z (bd h0 λ o35 h1 h0=>?_);refine kN o35 (λ v36=>⟨[(1,.p (eI n_1)),(5,.p (eI UZ)),(29,.p (eB v36))],[]⟩) ?_ ?_
    ·refine nx 1 Z (fB [29] h0 Z (λ YK h0=>?_) λ YK h0=>?_)
     ·exact J0
     refine nx 6 Z (fD [32,33] h0 Z (λ YJ h0=>?_) λ YJ h0=>?_)
     ·refine nx 4 Z (cc' h0 λ V7 h0=>?_);refine mO Z (LA Z Z Z Z Z Z V7 ?_);exact J0
     have:=js [2100,2300];have:=jS 2100 Bool λ v=>[(4,.p (eB v))]
     have:=jS 2300 Bool λ v=>[(4,.p (eB v))]
     exact J0
    exact az
   exact az
  exact az
 exact az
def j6 (Uj:am):Option Bool :=(if Uj.Ar=0 then if Uj.F'=0 then if Uj.If=([]:Bk) then if (Uj.Df.length:Int)=0 then some (decide ((Uj.C'.length:Int)=0))else some false else some false else some false else some false).bind λ t5=>some t5
instance Mi (Uj:am):∀ (r:Bool),HP (j6 Uj=some r) Tryz.prog 153 [.agg (am.cs Uj)] (.p (eB r)):=by
 refine hP good Tryz.func153 Z Z λ r h0 _ w0=>?_;unfold j6 at h0;exact kt
def fZ (Um:ac):Option Bool :=((iJ Um.Ar (Um.BY.length:Int)).bind λ r1=>if (!r1)=true then some true else(iI Um.Ar).bind λ r4=>if (!r4)=true then if Um.D'=([]:Bk) then(iD Um.Ar).bind λ r8=>if (!r8)=true then some (!decide (Um.AI=([]:Bk)))else some false else some true else(iD Um.Ar).bind λ Wy=>if (!Wy)=true then some (!decide (Um.AI=([]:Bk)))else some false).bind λ YY=>if YY=true then some false else if Um.Ar=1 then(if Um.fOp=0 then if Um.A'.Ar=0 then some true else if Um.A'.Ar=1 then some true else if Um.A'.Ar=3 then some true else if Um.A'.Ar=2 then some (decide (0<=Um.A'.F'))else some false else some false).bind λ t22=>some t22 else(j6 Um.A').bind λ UQ=>if (!UQ)=true then some false else if Um.Ar=6 then(if Um.fOp=1 then some true else some (decide (Um.fOp=2))).bind λ t28=>some t28 else if Um.Ar=7 then(if 3<=Um.fOp then some (decide (Um.fOp<=15))else some false).bind λ t31=>some t31 else some (decide (Um.fOp=0))
instance Gz (Um:ac):∀ (r:Bool),HP (fZ Um=some r) Tryz.prog 115 [.agg (ac.cs Um)] (.p (eB r)):=by
 refine hP good Tryz.func115 Z Z λ r h0 _ w0=>?_;unfold fZ at h0;have:=js [100,500,1000,1200];have:=jS 100 Bool λ v=>[(32,.p (eB v))]
 have:=jS 500 Bool λ v=>[(2,.p (eB v))]
 have:=jS 1000 Bool λ v=>[(2,.p (eB v))]
 have:=jS 1200 Bool λ v=>[(2,.p (eB v))]
 exact J0
def eN (Mr:Bk):Option Bool :=(if Mr=([110,117,108,108]:Bk) then some true else if Mr=([116,114,117,101]:Bk) then some true else if Mr=([102,97,108,115,101]:Bk) then some true else if Mr=([102,111,114]:Bk) then some true else if Mr=([105,110]:Bk) then some true else some (decide (Mr=([105,102]:Bk)))).bind λ t6=>some t6
instance Ex (Mr:Bk):∀ (r:Bool),HP (eN Mr=some r) Tryz.prog 119 [eS Mr] (.p (eB r)):=by
 refine hP good Tryz.func119 Z Z λ r h0 _ w0=>?_;unfold eN at h0;exact kt
def pq (n:Nat)(Mr:Bk):Option Bool :=((fj n Mr).bind λ r1=>if r1=true then(eN Mr).bind λ r4=>some (!r4)else some false).bind λ t6=>some t6
instance Mw (n:Nat) (Mr:Bk):∀ (r:Bool),HP (pq n Mr=some r) Tryz.prog 120 [eS Mr] (.p (eB r)):=by
 refine hP good Tryz.func120 Z Z λ r h0 _ w0=>?_;unfold pq at h0;exact kt
def nE (n:Nat)(Um:ac):Option Int :=(fZ Um).bind λ r1=>if (!r1)=true then some 1 else if Um.Ar=1 then(lH n Um.A').bind λ r5=>some r5 else((iD Um.Ar).bind λ r7=>if r7=true then(fj n Um.AI).bind λ UN=>if (!UN)=true then some true else if Um.Ar=4 then some false else(eN Um.AI).bind λ Xs=>some Xs else some false).bind λ Vl=>if Vl=true then some 7 else(if Um.D'=([]:Bk) then some false else(pq n Um.D').bind λ Wx=>some (!Wx)).bind λ t21=>if t21=true then some 7 else some 0
instance Mq (n:Nat) (Um:ac):∀ (r:Int),HP (nE n Um=some r) Tryz.prog 69 [.agg (ac.cs Um)] (.p (eI r)):=by
 refine hP good Tryz.func69 Z Z λ r h0 _ w0=>?_;unfold nE at h0;have:=js [500,700];have:=jS 500 Bool λ v=>[(30,.p (eB v))]
 have:=jS 700 Bool λ v=>[(39,.p (eB v))]
 exact J0
def cv (VB:ac->Int->Int->Option (Int×Int))(Um:ac)(O':Int):Nat->Int->Int->Int->Option (Int×Int)|0,_,_,_=>none|m+1,k17,n18,i19=>(if i19<(Um.BY.length:Int) then some (decide (k17=0))else some false).bind λ t21=>if t21=true then ck ((0:Int)<=i19/\i19<(Um.BY.length:Int))<|ck (inR (O'+1))<|(VB (lat Um.BY i19) (O'+1) n18).bind λ VX=>ck (inR (i19+1))<|cv VB Um O' m VX.1 VX.2 (i19+1)else some (k17,n18)
def d4:Nat->ac->Int->Int->Option (Int×Int)|0,_,_,_=>none|n+1,Um,O',Uq=>if 32<O' then some (4,0)else if 4096<=Uq then some (14,0)else(nE n Um).bind λ r3=>ck (inR (Uq+1))<|(cv (d4 n) Um O' n r3 (Uq+1) 0).bind λ Zy=>some (Zy.1,Zy.2)
instance Lw (n:Nat):∀ (Um:ac) (O':Int) (Uq:Int) (r:Int×Int),HP (d4 n Um O' Uq=some r) Tryz.prog 32 [.agg (ac.cs Um),eI O',eI Uq] (.tuple [.p (eI r.1),.p (eI r.2)]):=by
 induction n with
 | zero=>exact Zr
 | succ n ih=>
 refine λ Um O' Uq=>hP good Tryz.func32 Z Z λ r h0 _ w0=>?_;rw [d4] at h0;refine nx 12 Z (fD [12] h0 Z (λ c1 h0=>?_) λ c1 h0=>?_)
 ·exact J0
 refine nx 8 Z (fD [14] h0 Z (λ c2 h0=>?_) λ c2 h0=>?_)
 ·exact J0
 refine nx 5 Z (K0 λ r3 h0=>nx 5 Z ?_);refine oA h0 Z Z λ hk5 h0=>nx 8 Z (bd h0 λ o35 h1 h0=>?_);refine kE 0 o35 (λ v36=>⟨[(8,.p (eI v36.1)),(9,.p (eI v36.2))],[]⟩) ?_ ?_
 ·exact J0
 refine lG (λ (ZP:Int×Int×Int)=>⟨[(1,.p (eI O')),(3,.ptr 3 0),(8,.p (eI ZP.1)),(9,.p (eI ZP.2.1)),(10,.p (eI ZP.2.2))],[(3,(ac.cs Um).map .p)]⟩) (λ m (ZP:Int×Int×Int)=>cv (d4 n) Um O' m ZP.1 ZP.2.1 ZP.2.2) Y (r3,Uq+1,0) h1 (gE rfl rfl) ?_;rintro m ⟨k17,n18,i19⟩ h1;replace h1:cv (d4 n) Um O' (m+1) k17 n18 i19=some o35:=h1;rw [cv] at h1;have:=js [800];have:=jS 800 Bool λ v=>[(27,.p (eB v))]
 exact az
def lK (n:Nat)(Um:ac):Option Int :=(d4 n Um 1 0).bind λ r1=>some r1.1
instance Hh (n:Nat) (Um:ac):∀ (r:Int),HP (lK n Um=some r) Tryz.prog 13 [.agg (ac.cs Um)] (.p (eI r)):=by
 refine hP good Tryz.func13 Z Z λ r h0 _ w0=>?_;unfold lK at h0;exact J0
def au (OF:aj):Option (Bool×aj) :=some (!decide (OF.fD.Ar=0),OF)
instance A0 (OF:aj):∀ (r:Bool×aj),HO (au OF=some r) Tryz.prog 72 [.ptr 1000000 0] [(1000000,((aj.cs OF).map .p))] (.p (eB r.1)) ([(1000000,((aj.cs r.2).map .p))]):=by
 refine hO good [] [1000000] Tryz.func72 Z Z λ r h0 _ w0 F=>?_;unfold au at h0;exact J0
def cN (OF:aj):Nat->Int->Option Int|0,_=>none|m+1,f8=>(if 0<OF.fIn then if f8<(OF.fL.length:Int) then ck ((0:Int)<=f8/\f8<(OF.fL.length:Int))<|some (decide ((lat OF.fL f8).Ar=5))else some false else some false).bind λ t12=>if t12=true then ck (inR (f8+1))<|cN OF m (f8+1)else some f8
def bH (n:Nat)(OF:aj):Option (ab×aj) :=(cN OF n OF.fI).bind λ Zq=>if Zq<(OF.fL.length:Int) then ck ((0:Int)<=Zq/\Zq<(OF.fL.length:Int))<|some ((lat OF.fL Zq),(aj.mk OF.fL Zq OF.fIn OF.fD))else some ((ab.mk 6 ([]:Bk) 0),(aj.mk OF.fL Zq OF.fIn OF.fD))
instance AZ (n:Nat) (OF:aj):∀ (r:ab×aj),HO (bH n OF=some r) Tryz.prog 73 [.ptr 1000000 0] [(1000000,((aj.cs OF).map .p))] (.p (.agg (ab.cs r.1))) ([(1000000,((aj.cs r.2).map .p))]):=by
 refine hO good [] [1000000] Tryz.func73 Z Z λ r h0 _ w0 F=>?_;unfold bH at h0;refine nx 6 Z (bd h0 λ XM h1 h0=>?_);refine kE 0 XM (λ v22=>⟨[(0,.ptr 1000000 0),(2,.ptr 2 0)],[(2,oX),(1000000,[.p (eL aB OF.fL),.p (eI v22),.p (eI OF.fIn),.p (eI OF.fD.Ar),.p (eI OF.fD.fAt),.p (eS OF.fD.AI)])]⟩) ?_ ?_
 ·refine nx 3 Z (mD [(0,.ptr 1000000 0),(2,.ptr 2 0)] Z ⟨Z,Z,trivial⟩ Z ?_);refine dR 8 Z (dq (.p (eI (OF.fL.length:Int))) [48] Z (λ _ e _ q=>ap Z (nR (f:=aB) (l:=OF.fL) Z Z Z Z Z (e _ _ Z) Z q)) Z ?_);refine dR 1 Z (dE Z ?_);refine nx 1 Z (fD [50] h0 Z (λ UY h0=>?_) λ UY h0=>?_)
  ·refine nx 2 Z (cc' h0 λ VP h0=>?_);refine mG (gE (t:=⟨[(0,.ptr 1000000 0),(2,.ptr 2 0)],[(2,oX),(1000000,[.p (eL aB OF.fL),.p (eI XM),.p (eI OF.fIn),.p (eI OF.fD.Ar),.p (eI OF.fD.fAt),.p (eS OF.fD.AI)])]⟩) Z Z) (mSq ⟨1,[10],(λ _=>.none),(λ _=>[(0,.ptr 1000000 0),(2,.ptr 2 0)]),(ob2 ([(2,oX),(1000000,[.p (eL aB OF.fL),.p (eI XM),.p (eI OF.fIn),.p (eI OF.fD.Ar),.p (eI OF.fD.fAt),.p (eS OF.fD.AI)])]) (2,[.p (eI ((lat OF.fL XM).Ar)),.p (eS ((lat OF.fL XM).By)),.p (eI ((lat OF.fL XM).fAt))]))⟩ Z ?_);refine dPc (.ptr 1000000 0) Z (dPc (.ptr 1000000 0) Z ?_);refine dPc (.ptr 1000000 0) Z (dPc (.p (eL aB OF.fL)) Z ?_);refine dPc (.ptr 1000000 0) Z (dPc (.ptr 1000000 0) Z ?_);refine dPc (.ptr 1000000 1) Z (dPc (.p (eI XM)) Z ?_);refine dO (.rptr (ab.cs (lat OF.fL XM))) [54,58] Z (λ _ sl Sk K hK=>ap Z (jG (f:=aB) (l:=OF.fL) ab.cs Z Z Z Z Z Z (Sk _ _ Z) Z (Sk _ _ Z) VP ab.It Y hK)) (dPc (.p (.agg (ab.cs (lat OF.fL XM)))) Z ?_);exact J0
  exact J0
 refine lG (λ (XW:Int)=>⟨[(0,.ptr 1000000 0),(2,.ptr 2 0)],[(2,oX),(1000000,[.p (eL aB OF.fL),.p (eI XW),.p (eI OF.fIn),.p (eI OF.fD.Ar),.p (eI OF.fD.fAt),.p (eS OF.fD.AI)])]⟩) (λ m (XW:Int)=>cN OF m XW) Y OF.fI h1 (gE rfl rfl) ?_;rintro m f8 h1;replace h1:cN OF (m+1) f8=some XM:=h1;rw [cN] at h1;refine nx 2 rfl (bd h1 λ o24 h2 h1=>?_);refine kN o24 (λ v25=>⟨[(0,.ptr 1000000 0),(2,.ptr 2 0),(33,.p (eB v25))],[(2,oX),(1000000,[.p (eL aB OF.fL),.p (eI f8),.p (eI OF.fIn),.p (eI OF.fD.Ar),.p (eI OF.fD.fAt),.p (eS OF.fD.AI)])]⟩) ?_ ?_
 ·exact az
 refine fD (p:=0<OF.fIn) [] h2 Z (λ c9 h2=>?_) λ c9 h2=>?_
 ·refine fD (p:=f8<(OF.fL.length:Int)) [] h2 Z (λ YM h2=>?_) λ YM h2=>?_
  ·refine cc' h2 λ WV h2=>mD [(0,.ptr 1000000 0),(2,.ptr 2 0)] Z ⟨Z,Z,trivial⟩ Z (dR 4 Z ?_);refine dL (dt c9) Z (dR 9 Z ?_);refine dq (.p (eI (OF.fL.length:Int))) [8,16] Z (λ _ e _ q=>cx (nR (f:=aB) (l:=OF.fL) Z Z Z Z Z (e _ _ Z) Z q) Z Z (e _ _ Z) (rfl)) Z (dL (dt YM) Z ?_);refine dR 10 Z (dq (.rptr (ab.cs (lat OF.fL f8))) [20,24,28] Z (λ _ e _ q=>cx (jG (f:=aB) (l:=OF.fL) ab.cs Z Z Z Z Z Z (e _ _ Z) Z (e _ _ Z) WV ab.It Y q) Z Z (e _ _ Z) (rfl)) Z ?_);exact bP
  refine mD [(0,.ptr 1000000 0),(2,.ptr 2 0)] Z ⟨Z,Z,trivial⟩ Z (dR 4 Z ?_);refine dL (dt c9) Z (dR 9 Z ?_);refine dq (.p (eI (OF.fL.length:Int))) [8,16] Z (λ _ e _ q=>cx (nR (f:=aB) (l:=OF.fL) Z Z Z Z Z (e _ _ Z) Z q) Z Z (e _ _ Z) (rfl)) Z (dL (df YM) Z ?_);exact bP
 refine mD [(0,.ptr 1000000 0),(2,.ptr 2 0)] Z ⟨Z,Z,trivial⟩ Z (dR 4 Z ?_);refine dL (df c9) Z (dR 26 Z ?_);refine dE Z (nx 1 Z ?_);exact bP
def aX (n:Nat)(OF:aj)(s_1:Bk):Option (Bool×aj) :=(bH n OF).bind λ r1=>(if r1.1.Ar=4 then some (decide (r1.1.By=s_1))else some false).bind λ t4=>some (t4,r1.2)
instance BB (n:Nat) (OF:aj) (s_1:Bk):∀ (r:Bool×aj),HO (aX n OF s_1=some r) Tryz.prog 108 [.ptr 1000000 0,.p (eS s_1)] [(1000000,((aj.cs OF).map .p))] (.p (eB r.1)) ([(1000000,((aj.cs r.2).map .p))]):=by
 refine hO good [] [1000000] Tryz.func108 Z Z λ r h0 _ w0 F=>?_;unfold aX at h0;have:=js [200];have:=jS 200 Bool λ v=>[(4,.p (eB v))]
 exact J0
def fO (OF:aj)(k_1:Int)(at_2:Int):Option aj :=if OF.fD.Ar=0 then some (aj.mk OF.fL OF.fI OF.fIn (ao.mk k_1 at_2 ([]:Bk)))else some OF
instance zf (OF:aj) (k_1:Int) (at_2:Int):∀ (r:aj),HO (fO OF k_1 at_2=some r) Tryz.prog 122 [.ptr 1000000 0,.p (eI k_1),.p (eI at_2)] [(1000000,((aj.cs OF).map .p))] (.tuple []) ([(1000000,((aj.cs r).map .p))]):=by
 refine hO good [] [1000000] Tryz.func122 Z Z λ r h0 _ w0 F=>?_;unfold fO at h0;exact J0
def bW (n:Nat)(OF:aj):Option aj :=(bH n OF).bind λ r1=>(fO r1.2 2 r1.1.fAt).bind λ r3=>some r3
instance y8 (n:Nat) (OF:aj):∀ (r:aj),HO (bW n OF=some r) Tryz.prog 74 [.ptr 1000000 0] [(1000000,((aj.cs OF).map .p))] (.tuple []) ([(1000000,((aj.cs r).map .p))]):=by
 refine hO good [] [1000000] Tryz.func74 Z Z λ r h0 _ w0 F=>?_;unfold bW at h0;exact J0
def bT (n:Nat)(OF:aj)(s_1:Bk):Option aj :=((aX n OF s_1).bind λ r1=>if (!r1.1)=true then(bW n r1.2).bind λ r4=>some (r4.fL,r4.fI,r4.fIn,r4.fD.Ar,r4.fD.fAt,r4.fD.AI)else some (r1.2.fL,r1.2.fI,r1.2.fIn,r1.2.fD.Ar,r1.2.fD.fAt,r1.2.fD.AI)).bind λ q13=>ck (inR (q13.2.1+1))<|some (aj.mk q13.1 (q13.2.1+1) q13.2.2.1 (ao.mk q13.2.2.2.1 q13.2.2.2.2.1 q13.2.2.2.2.2))
instance zh (n:Nat) (OF:aj) (s_1:Bk):∀ (r:aj),HO (bT n OF s_1=some r) Tryz.prog 109 [.ptr 1000000 0,.p (eS s_1)] [(1000000,((aj.cs OF).map .p))] (.tuple []) ([(1000000,((aj.cs r).map .p))]):=by
 refine hO good [] [1000000] Tryz.func109 Z Z λ r h0 _ w0 F=>?_;unfold bT at h0;have:=js [1];have:=jO 1 (List ab×Int×Int×Int×Int×Bk) λ v=>[(1000000,(qt v))]
 exact J0
def bX (n:Nat)(OF:aj)(e_1:ac):Option (ac×ao×aj) :=(au OF).bind λ r1=>if r1.1=true then some ((ac.mk 0 0 ([]:Bk) ([]:Bk) (am.mk 0 0 ([]:Bk) [] []) [] 0),r1.2.fD,r1.2)else(lK n e_1).bind λ r4=>if r4=0 then some (e_1,(ao.mk 0 0 ([]:Bk)),r1.2)else some ((ac.mk 0 0 ([]:Bk) ([]:Bk) (am.mk 0 0 ([]:Bk) [] []) [] 0),(ao.mk r4 e_1.fAt ([]:Bk)),r1.2)
instance xu (n:Nat) (OF:aj) (e_1:ac):∀ (r:ac×ao×aj),HO (bX n OF e_1=some r) Tryz.prog 36 [.ptr 1000000 0,.p (.agg (ac.cs e_1))] [(1000000,((aj.cs OF).map .p))] (.tuple [.p (.agg (ac.cs r.1)),.p (.agg (ao.cs r.2.1))]) ([(1000000,((aj.cs r.2.2).map .p))]):=by
 refine hO good [] [1000000] Tryz.func36 Z Z λ r h0 _ w0 F=>?_;unfold bX at h0;exact J0
def gm (Uj:am)(N':Int):Option ac :=some (ac.mk 1 0 ([]:Bk) ([]:Bk) Uj [] N')
instance ES (Uj:am) (N':Int):∀ (r:ac),HP (gm Uj N'=some r) Tryz.prog 42 [.agg (am.cs Uj),eI N'] (.p (.agg (ac.cs r))):=by
 refine hP good Tryz.func42 Z Z λ r h0 _ w0=>?_;unfold gm at h0;exact J0
def ga (Mr:Bk)(Uf:Int)(t_2:Bk):Option Bool :=(ck (inR (Uf+(t_2.length:Int)))<|if Uf+(t_2.length:Int)<=(Mr.length:Int) then ck (inR (Uf+(t_2.length:Int)))<|ck ((0:Int)<=Uf/\Uf<=Uf+(t_2.length:Int)/\Uf+(t_2.length:Int)<=(Mr.length:Int))<|some (decide (sub Mr Uf (Uf+(t_2.length:Int))=t_2))else some false).bind λ t5=>some t5
instance Gg (Mr:Bk) (Uf:Int) (t_2:Bk):∀ (r:Bool),HP (ga Mr Uf t_2=some r) Tryz.prog 79 [eS Mr,eI Uf,eS t_2] (.p (eB r)):=by
 refine hP good Tryz.func79 Z Z λ r h0 _ w0=>?_;unfold ga at h0;have:=js [100];have:=jS 100 Bool λ v=>[(6,.p (eB v))]
 exact J0
def dx (VU:Bk->Int->Option Int)(Mr:Bk):Nat->Int->Int->Option (Unit⊕Int)|0,_,_=>none|m+1,i22,depth23=>if i22<(Mr.length:Int) then jn (ck ((0:Int)<=i22/\i22<(Mr.length:Int))<|if byt Mr i22=34 then ck (inR (i22+1))<|(VU Mr (i22+1)).bind λ UX=>if UX<0 then some (.inr (.inr (-1)))else some (.inl (UX,depth23))else(ck ((0:Int)<=i22/\i22<(Mr.length:Int))<|if byt Mr i22=123 then ck (inR (depth23+1))<|some (depth23+1)else some depth23).bind λ depth34=>jn (ck ((0:Int)<=i22/\i22<(Mr.length:Int))<|if byt Mr i22=125 then if depth34=0 then some (.inr (.inr (.inr i22)))else ck (inR (depth34-1))<|some (.inl (depth34-1))else some (.inl depth34) : Option (Int⊕((Int×Int)⊕(Unit⊕Int)))) λ depth39=>ck (inR (i22+1))<|some (.inl (i22+1,depth39)) : Option ((Int×Int)⊕(Unit⊕Int))) λ WF=>dx VU Mr m WF.1 WF.2 else some (.inl ())
def fy (Vn:Bk->Int->Option Int)(Mr:Bk):Nat->Int->Option (Unit⊕Int)|0,_=>none|m+1,i23=>if i23<(Mr.length:Int) then jn (ck ((0:Int)<=i23/\i23<(Mr.length:Int))<|if byt Mr i23=92 then ck (inR (i23+2))<|some (.inl (i23+2))else ck ((0:Int)<=i23/\i23<(Mr.length:Int))<|if byt Mr i23=34 then ck (inR (i23+1))<|some (.inr (.inr (i23+1)))else(ga Mr i23 ([36,36,123]:Bk)).bind λ XG=>if XG=true then ck (inR (i23+3))<|some (.inl (i23+3))else(ga Mr i23 ([36,123]:Bk)).bind λ YP=>if YP=true then ck (inR (i23+2))<|(Vn Mr (i23+2)).bind λ XF=>if XF<0 then some (.inr (.inr (-1)))else ck (inR (XF+1))<|some (.inl (XF+1))else ck (inR (i23+1))<|some (.inl (i23+1)) : Option (Int⊕(Unit⊕Int))) λ i44=>fy Vn Mr m i44 else some (.inl ())
mutual
def cK:Nat->Bk->Int->Option Int|0,_,_=>none|n+1,Mr,Uf=>jn (dx (gY n) Mr n Uf 0) λ _q45=>some (-1)
def gY:Nat->Bk->Int->Option Int|0,_,_=>none|n+1,Mr,Uf=>jn (fy (cK n) Mr n Uf) λ _WF=>some (-1)
end
theorem rN (n:Nat):sN (cK n) 80/\sN (gY n) 127:=by
 induction n with
 | zero=>exact Zr
 | succ n ih=>
 obtain ⟨_,_⟩:=ih;refine ⟨?_,?_⟩
 ·refine λ Mr Uf=>hP good Tryz.func80 Z Z λ r h0 _ w0=>?_;rw [cK] at h0;refine nx 10 rfl ?_;obtain ⟨YA,h1,UV,hR0⟩:=bo h0;refine kEx 0 (λ XR:Unit=>YA=.inl XR) (λ XR=>⟨[],[]⟩) (λ XR hv=>?_) ?_
  ·exact fR
  refine lG (λ (Vs:Int×Int)=>⟨[(0,.p (eS Mr)),(1,.p (eI Vs.1)),(5,.p (eI Vs.2))],[]⟩) (λ m (Vs:Int×Int)=>dx (gY n) Mr m Vs.1 Vs.2) Y (Uf,0) h1 (gE rfl rfl) ?_;rintro m ⟨i22,depth23⟩ h1;replace h1:dx (gY n) Mr (m+1) i22 depth23=some YA:=h1;rw [dx] at h1;refine nx 5 rfl (oLs rfl ?_);refine nx 2 rfl (fD [9] h1 rfl (λ Yk h1=>?_) λ Yk h1=>?_)
  ·refine nx 2 rfl ?_;obtain ⟨Zz,h2,hL1,hR1⟩:=bo h1;refine kX (λ v53:Int×Int=>Zz=.inl v53) (λ v53=>⟨[(0,.p (eS Mr)),(1,.p (eI v53.1)),(5,.p (eI v53.2))],[]⟩) (λ v53 hv=>?_) ?_
   ·have h1:=hL1 _ hv;exact az
   refine nx 6 Z (oI h2 Z λ WS h2=>?_);refine nx 2 Z (fD [13] h2 Z (λ Z5 h2=>?_) λ Z5 h2=>?_)
   ·exact bP
   refine nx 3 Z (bd h2 λ o54 h3 h2=>?_);refine kN o54 (λ v55=>⟨[(0,.p (eS Mr)),(1,.p (eI i22)),(5,.p (eI v55))],[]⟩) ?_ ?_
   ·refine nx 2 rfl ?_;obtain ⟨o56,h3,hL2,hR2⟩:=bo h2;refine kX (λ v57:Int=>o56=.inl v57) (λ v57=>⟨[(0,.p (eS Mr)),(1,.p (eI i22)),(5,.p (eI v57))],[]⟩) (λ v57 hv=>?_) ?_
    ·have h2:=hL2 _ hv;exact bP
    refine nx 4 Z (oI h3 Z λ X4 h3=>?_);refine nx 2 Z (fD [29] h3 Z (λ YH h3=>?_) λ YH h3=>?_)
    ·refine nx 7 Z (fD [31] h3 Z (λ c37 h3=>?_) λ c37 h3=>?_)
     ·exact nx 7 Z (mQ (hR0 _ (hR1 _ (hR2 _ (oi h3).symm).symm).symm) Z (sr))
     refine nx 4 Z (oA h3 Z Z λ aaQ h3=>?_);exact mi
    exact mi
   refine nx 4 Z (oI h3 Z λ Zg h3=>?_);refine nx 2 Z (fD [23] h3 Z (λ c32 h3=>?_) λ c32 h3=>?_)
   ·refine nx 3 Z (oA h3 Z Z λ abU h3=>?_);exact mi
   exact mi
  exact az
 ·refine λ Mr Uf=>hP good Tryz.func127 Z Z λ r h0 _ w0=>?_;rw [gY] at h0;refine nx 6 rfl ?_;obtain ⟨ZQ,h1,UV,hR0⟩:=bo h0;refine kEx 0 (λ Ym:Unit=>ZQ=.inl Ym) (λ Ym=>⟨[],[]⟩) (λ Ym hv=>?_) ?_
  ·exact fR
  refine lG (λ (Y5:Int)=>⟨[(0,.p (eS Mr)),(1,.p (eI Y5))],[]⟩) (λ m (Y5:Int)=>fy (cK n) Mr m Y5) Y Uf h1 (gE rfl rfl) ?_;rintro m i23 h1;replace h1:fy (cK n) Mr (m+1) i23=some ZQ:=h1;rw [fy] at h1;refine nx 5 rfl (oLs rfl ?_);refine nx 2 rfl (fD [9] h1 rfl (λ Yk h1=>?_) λ Yk h1=>?_)
  ·refine nx 2 rfl ?_;obtain ⟨o51,h2,hL1,hR1⟩:=bo h1;refine kX (λ YW:Int=>o51=.inl YW) (λ YW=>⟨[(0,.p (eS Mr)),(1,.p (eI YW))],[]⟩) (λ YW hv=>?_) ?_
   ·have h1:=hL1 _ hv;exact az
   exact bP
  exact az
instance E1 (n:Nat):sN (cK n) 80:=(rN n).1
def fx (n:Nat)(Mr:Bk):Nat->Int->Bk->Option ((Int×Bk)⊕(Bk×Int×Int))|0,_,_=>none|m+1,i22,UT=>(if i22<(Mr.length:Int) then(ga Mr i22 ([36,123]:Bk)).bind λ VX=>some (!VX)else some false).bind λ t27=>if t27=true then jn (if 4096<(UT.length:Int) then some (.inr (.inr (UT,i22,0)))else(ga Mr i22 ([36,36,123]:Bk)).bind λ Xd=>if Xd=true then ck (UT.length+([36,123]:Bk).length<=9223372036854775807)<|ck (inR (i22+3))<|some (.inl (i22+3,UT++([36,123]:Bk)))else ck ((0:Int)<=i22/\i22<(Mr.length:Int))<|if byt Mr i22=34 then some (.inr (.inr (([]:Bk),i22,2)))else(mI n Mr i22).bind λ r37=>if r37.2.2=0 then ck (UT.length+r37.1.length<=9223372036854775807)<|some (.inl (r37.2.1,UT++r37.1))else some (.inr (.inr (([]:Bk),i22,r37.2.2))) : Option ((Int×Bk)⊕((Int×Bk)⊕(Bk×Int×Int)))) λ Y6=>fx n Mr m Y6.1 Y6.2 else some (.inl (i22,UT))
def nr (n:Nat)(Mr:Bk)(Uf:Int):Option (Bk×Int×Int) :=jn (fx n Mr n Uf ([]:Bk)) λ Wt=>some (Wt.2,Wt.1,0)
instance Mu (n:Nat) (Mr:Bk) (Uf:Int):∀ (r:Bk×Int×Int),HP (nr n Mr Uf=some r) Tryz.prog 81 [eS Mr,eI Uf] (.tuple [.p (eS r.1),.p (eI r.2.1),.p (eI r.2.2)]):=by
 refine hP good Tryz.func81 Z Z λ r h0 _ w0=>?_;unfold nr at h0;refine nx 12 rfl ?_;obtain ⟨X3,h1,UV,hR0⟩:=bo h0;refine kEx 0 (λ v51:Int×Bk=>X3=.inl v51) (λ v51=>⟨[(1,.p (eI v51.1)),(7,.p (eS v51.2))],[]⟩) (λ v51 hv=>?_) ?_
 ·exact fR
 refine lG (λ (Xu:Int×Bk)=>⟨[(0,.p (eS Mr)),(1,.p (eI Xu.1)),(7,.p (eS Xu.2))],[]⟩) (λ m (Xu:Int×Bk)=>fx n Mr m Xu.1 Xu.2) Y (Uf,([]:Bk)) h1 (gE rfl rfl) ?_;rintro m ⟨i22,UT⟩ h1;replace h1:fx n Mr (m+1) i22 UT=some X3:=h1;rw [fx] at h1;refine nx 2 rfl (bd h1 λ XK h2 h1=>?_);refine kN XK (λ YV=>⟨[(0,.p (eS Mr)),(1,.p (eI i22)),(7,.p (eS UT)),(20,.p (eB YV))],[]⟩) ?_ ?_
 ·refine nx 1 Z (fB [20] h1 Z (λ c28 h1=>?_) λ c28 h1=>?_)
  ·refine nx 2 rfl ?_;obtain ⟨o55,h2,hL1,hR1⟩:=bo h1;refine kX (λ v56:Int×Bk=>o55=.inl v56) (λ v56=>⟨[(0,.p (eS Mr)),(1,.p (eI v56.1)),(7,.p (eS v56.2))],[]⟩) (λ v56 hv=>?_) ?_
   ·have h1:=hL1 _ hv;exact az
   exact bP
  exact az
 exact bP
def cZ (n:Nat)(OF:aj)(s_1:Bk):Option (Bool×aj) :=(bH n OF).bind λ r1=>(if r1.1.Ar=1 then some (decide (r1.1.By=s_1))else some false).bind λ t4=>some (t4,r1.2)
instance Ao (n:Nat) (OF:aj) (s_1:Bk):∀ (r:Bool×aj),HO (cZ n OF s_1=some r) Tryz.prog 216 [.ptr 1000000 0,.p (eS s_1)] [(1000000,((aj.cs OF).map .p))] (.p (eB r.1)) ([(1000000,((aj.cs r.2).map .p))]):=by
 refine hO good [] [1000000] Tryz.func216 Z Z λ r h0 _ w0 F=>?_;unfold cZ at h0;have:=js [200];have:=jS 200 Bool λ v=>[(4,.p (eB v))]
 exact J0
def cr (n:Nat)(OF:aj):Option (Bk×aj) :=(bH n OF).bind λ r1=>((if r1.1.Ar=1 then(eN r1.1.By).bind λ r4=>some r4 else some true).bind λ t6=>if t6=true then(bW n r1.2).bind λ r8=>some (r8.fL,r8.fI,r8.fIn,r8.fD.Ar,r8.fD.fAt,r8.fD.AI)else some (r1.2.fL,r1.2.fI,r1.2.fIn,r1.2.fD.Ar,r1.2.fD.fAt,r1.2.fD.AI)).bind λ Y9=>ck (inR (Y9.2.1+1))<|some (r1.1.By,(aj.mk Y9.1 (Y9.2.1+1) Y9.2.2.1 (ao.mk Y9.2.2.2.1 Y9.2.2.2.2.1 Y9.2.2.2.2.2)))
instance wi (n:Nat) (OF:aj):∀ (r:Bk×aj),HO (cr n OF=some r) Tryz.prog 226 [.ptr 1000000 0] [(1000000,((aj.cs OF).map .p))] (.p (eS r.1)) ([(1000000,((aj.cs r.2).map .p))]):=by
 refine hO good [] [1000000] Tryz.func226 Z Z λ r h0 _ w0 F=>?_;unfold cr at h0;have:=js [201,200];have:=jO 201 (List ab×Int×Int×Int×Int×Bk) λ v=>[(1000000,(qt v))]
 have:=jS 200 Bool λ v=>[(13,.p (eB v))]
 exact J0
def nQ (Uo:Int):Option (List Bk) :=if Uo=0 then some ([([124,124]:Bk)])else if Uo=1 then some ([([38,38]:Bk)])else if Uo=2 then some ([([61,61]:Bk),([33,61]:Bk)])else if Uo=3 then some ([([60]:Bk),([60,61]:Bk),([62]:Bk),([62,61]:Bk)])else if Uo=4 then some ([([43]:Bk),([45]:Bk)])else some ([([42]:Bk),([47]:Bk),([37]:Bk)])
instance Ly (Uo:Int):∀ (r:(List Bk)),HP (nQ Uo=some r) Tryz.prog 168 [eI Uo] (.p (eL eS r)):=by
 refine hP good Tryz.func168 Z Z λ r h0 _ w0=>?_;unfold nQ at h0;refine nx 15 Z (fD [4,5] h0 Z (λ c1 h0=>?_) λ c1 h0=>?_)
 ·exact GW
 exact IC
def nP (Uo:Int):Option Int :=if Uo=0 then some 3 else if Uo=1 then some 4 else if Uo=2 then some 5 else if Uo=3 then some 7 else if Uo=4 then some 11 else some 13
instance KE (Uo:Int):∀ (r:Int),HP (nP Uo=some r) Tryz.prog 169 [eI Uo] (.p (eI r)):=by
 refine hP good Tryz.func169 Z Z λ r h0 _ w0=>?_;unfold nP at h0;exact J0
def bN (n:Nat)(O':Int)(r1:(List Bk)):Nat->Int->(List ab)->Int->Int->Int->Int->Bk->Option (((List ab)×Int×Int×Int×Int×Bk)⊕(Int×aj))|0,_,_,_,_,_,_,_=>none|m+1,i19,Z0,f21,ZZ,f23,f24,f25=>if i19<(r1.length:Int) then ck ((0:Int)<=i19/\i19<(r1.length:Int))<|(aX n (aj.mk Z0 f21 ZZ (ao.mk f23 f24 f25)) (lat r1 i19)).bind λ UX=>if UX.1=true then(nP O').bind λ XG=>ck (inR (XG+i19))<|some (.inr (XG+i19,UX.2))else ck (inR (i19+1))<|bN n O' r1 m (i19+1) UX.2.fL UX.2.fI UX.2.fIn UX.2.fD.Ar UX.2.fD.fAt UX.2.fD.AI else some (.inl (Z0,f21,ZZ,f23,f24,f25))
def dH (n:Nat)(OF:aj)(O':Int):Option (Int×aj) :=(nQ O').bind λ r1=>jn (bN n O' r1 n 0 OF.fL OF.fI OF.fIn OF.fD.Ar OF.fD.fAt OF.fD.AI) λ Y7=>some (0,(aj.mk Y7.1 Y7.2.1 Y7.2.2.1 (ao.mk Y7.2.2.2.1 Y7.2.2.2.2.1 Y7.2.2.2.2.2)))
instance wj (n:Nat) (OF:aj) (O':Int):∀ (r:Int×aj),HO (dH n OF O'=some r) Tryz.prog 144 [.ptr 1000000 0,.p (eI O')] [(1000000,((aj.cs OF).map .p))] (.p (eI r.1)) ([(1000000,((aj.cs r.2).map .p))]):=by
 refine hO good [] [1000000] Tryz.func144 Z Z λ r h0 _ w0 F=>?_;unfold dH at h0;refine nx 7 rfl (K0 λ r1 h0=>nx 8 rfl ?_);obtain ⟨YA,h1,UV,hR0⟩:=bo h0;refine kEx 0 (λ XR:(List ab)×Int×Int×Int×Int×Bk=>YA=.inl XR) (λ XR=>⟨[],[(1000000,(qt XR))]⟩) (λ XR hv=>?_) ?_
 ·exact fR
 refine lG (λ (Vs:Int×(List ab)×Int×Int×Int×Int×Bk)=>⟨[(0,.ptr 1000000 0),(1,.p (eI O')),(5,.p (eL eS r1)),(6,.p (eI Vs.1))],[(1000000,(qt Vs.2))]⟩) (λ m (Vs:Int×(List ab)×Int×Int×Int×Int×Bk)=>bN n O' r1 m Vs.1 Vs.2.1 Vs.2.2.1 Vs.2.2.2.1 Vs.2.2.2.2.1 Vs.2.2.2.2.2.1 Vs.2.2.2.2.2.2) Y (0,OF.fL,OF.fI,OF.fIn,OF.fD.Ar,OF.fD.fAt,OF.fD.AI) h1 (gE rfl rfl) ?_;rintro m ⟨i19,Z0,f21,ZZ,f23,f24,f25⟩ h1;replace h1:bN n O' r1 (m+1) i19 Z0 f21 ZZ f23 f24 f25=some YA:=h1;rw [bN] at h1;exact az
end Go.Ab.R06
end
