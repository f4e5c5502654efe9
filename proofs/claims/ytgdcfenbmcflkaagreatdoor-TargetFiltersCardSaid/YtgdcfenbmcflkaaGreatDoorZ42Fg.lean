/- Texts of the proof, one behind the other. No statement is proved here. -/
import Derived.Test.YtgdcfenbmcflkaaGreatDoorCards
import Derived.Test.YtgdcfenbmcflkaaGreatDoorTie
import Derived.WalkKit
import Derived.SizedLaws
import Derived.ProofKit
import Derived.OpenShut
import Derived.ShutString
import Derived.LaidMore
import Derived.Stop.Joined
import Derived.Deep.DeepHandedRow
import Derived.Deep.DeepWitnessRowRef
import Derived.Test.YtgdcfenbmcflkaaGreatDoorZ42Fa
import Derived.Test.YtgdcfenbmcflkaaGreatDoorZ42Fb
import Derived.Test.YtgdcfenbmcflkaaGreatDoorZ42Fc
import Derived.Test.YtgdcfenbmcflkaaGreatDoorZ42Fd
import Derived.Test.YtgdcfenbmcflkaaGreatDoorZ42Fe
import Derived.Test.YtgdcfenbmcflkaaGreatDoorZ42Ff
set_option maxHeartbeats 4000000
section
namespace Go.Ab.R06
open Go.Ab Go.Ab.RB Go.Lib
theorem tH {s:Bytes}{k:bT}{t:Bytes}(h:iW s=(k,t,true)):cB k=true∧s=aQ k++t:=by
 unfold iW at h
 by_cases hp:hasPrefix s [91]=true
 ·rw [if_pos hp] at h
  obtain ⟨l,rfl⟩:=(dM _ _).1 hp
  have hd:([91]++l).drop 1=l:=rfl
  rw [hd] at h
  by_cases hq:hasPrefix l [34]=true
  ·rw [if_pos hq] at h
   unfold CC at h
   have hok:=@wo l
   generalize kp l=U at h hok
   obtain ⟨x,n,e⟩:=U
   simp only at h hok
   split at h
   ·rename_i hc
    obtain ⟨rfl,he,hp2⟩:=hc
    cases h
    have hx:=hok Z
    have hko:cB (bT.mk 2 0 x)=true:=by unfold cB; simp [hx.1,hx.2.1]
    refine ⟨hko,?_⟩
    have ht:aQ (bT.mk 2 0 x)=[91]++dZ x++[93]:=by
     unfold aQ
     rw [if_neg (by rw [hko]; simp),if_neg G]
    obtain ⟨u,hu⟩:=(dM _ _).1 hp2
    have hu2:l.drop (n.toNat+1)=u:=by rw [← List.drop_drop,hu]; rfl
    rw [ht,hu2,← he,List.append_assoc,List.append_assoc,← hu,List.take_append_drop]
   ·cases h
  ·rw [if_neg hq] at h
   unfold B7 at h
   have hin:=@AG (l.takeWhile dI)
   have hsp:=List.takeWhile_append_dropWhile (p:=dI) (l:=l)
   generalize u5 (l.takeWhile dI)=N at h hin
   obtain ⟨v,e⟩:=N
   simp only at h hin
   split at h
   ·rename_i hc
    obtain ⟨rfl,hp2⟩:=hc
    cases h
    have hi:=hin Z
    have hko:cB (bT.mk 1 v [])=true:=by unfold cB; simp; exact ⟨hi.2.1,hi.2.2⟩
    refine ⟨hko,?_⟩
    have ht:aQ (bT.mk 1 v [])=[91]++itoa v++[93]:=by
     unfold aQ
     rw [if_neg (by rw [hko]; simp),if_pos rfl]
    obtain ⟨u,hu⟩:=(dM _ _).1 hp2
    rw [ht,hi.1,hu]
    conv=>lhs; rw [← hsp,hu]
    simp
   ·cases h
 ·rw [if_neg hp] at h
  cases h
  exact ⟨Z,Z⟩
theorem vm {k:bT}{t:Bytes}(hk:cB k=true)(h:hasPrefix t [91]=false):iW (aQ k++t)=(k,t,true):=by
 rcases kT hk with h0 | h0 | h0
 ·have e:=ue hk h0
  subst e
  have et:aQ ka=[]:=rfl
  rw [et,List.nil_append]
  unfold iW
  rw [if_neg (by rw [h]; simp)]
 ·have hn:=m6 hk h0
  have et:aQ k=[91]++itoa k.fNum++[93]:=by
   unfold aQ
   rw [if_neg (by rw [hk]; simp [h0]),if_pos h0]
  obtain ⟨hd,hne⟩:=sG hn.1
  have e1:aQ k++t=[91]++(itoa k.fNum++93::t):=by rw [et]; simp
  have hnp:hasPrefix (itoa k.fNum++93::t) [34]=false:=by
   cases hx:itoa k.fNum with
   | nil=>exact absurd hx hne
   | cons c r =>
    rw [hx] at hd
    have:=ky hd (b:=c) List.mem_cons_self
    rw [List.cons_append,lq,decide_eq_false_iff_not]
    intro q
    rw [q] at this
    have h34:(34:UInt8).toNat=34:=rfl
    omega
  have htw:=yG dI (itoa k.fNum) (93::t) (λ b hb=>List.all_eq_true.1 hd b hb) (.inr ⟨93,t,Z,by decide⟩)
  unfold iW
  rw [e1,if_pos (jq _ _)]
  have hd1:([91]++(itoa k.fNum++93::t)).drop 1=itoa k.fNum++93::t:=rfl
  rw [hd1,if_neg (by rw [hnp]; simp)]
  unfold B7
  rw [htw.1,htw.2,AN hn.1 hn.2.1,if_pos ⟨rfl,by rw [lq]; simp⟩]
  refine Prod.ext ?_ Z
  cases k
  simp only at *
  rw [h0,hn.2.2]
 ·have hs:=m8 hk h0
  have et:aQ k=[91]++dZ k.fStr++[93]:=by
   unfold aQ
   rw [if_neg (by rw [hk]; simp [h0]),if_neg O]
  have e1:aQ k++t=[91]++(dZ k.fStr++(93::t)):=by rw [et]; simp
  have hu:=uL k.fStr (93::t) hs.2.2 hs.2.1
  unfold iW
  rw [e1,if_pos (jq _ _)]
  have hd1:([91]++(dZ k.fStr++(93::t))).drop 1=dZ k.fStr++(93::t):=rfl
  have hq:hasPrefix (dZ k.fStr++(93::t)) [34]=true:=by
   rw [dM]; exact ⟨k.fStr.flatMap gj++[34]++(93::t),by simp [dZ]⟩
  rw [hd1,if_pos hq]
  unfold CC
  rw [hu]
  simp only [Int.toNat_natCast]
  rw [← List.drop_drop,List.take_left,List.drop_left,if_pos ⟨trivial,rfl,by rw [lq]; simp⟩]
  refine Prod.ext ?_ Z
  cases k
  simp only at *
  rw [h0,hs.1]
theorem Bv (s:Bytes):(iW s).2.1.length≤s.length:=by
 unfold iW
 split
 ·split
  ·unfold CC
   split
   ·simp only [List.length_drop]; omega
   ·simp
  ·unfold B7
   split
   ·have:=congrArg List.length (List.takeWhile_append_dropWhile (p:=dI) (l:=s.drop 1))
    simp only [List.length_append,List.length_drop] at this ⊢
    omega
   ·simp
 ·exact Nat.le_refl _
def nc (s:Bytes):ac×Bytes×Bool:=(ac.mk (cW (s.drop 7)).1 (iW (cW (s.drop 7)).2).1,(iW (cW (s.drop 7)).2).2.1,(iW (cW (s.drop 7)).2).2.2&&bZ (cW (s.drop 7)).1)
theorem vj (s:Bytes)(h:7≤s.length):(nc s).2.1.length+7≤s.length:=by
 have h1:=Bv (cW (s.drop 7)).2
 have h2:=(pk (s.drop 7)).2
 rw [List.length_drop] at h2
 show (iW (cW (s.drop 7)).2).2.1.length+7≤_
 omega
theorem Cd (s:Bytes)(hs:s.length≤900000000)(h7:7≤s.length):Ev2 (λ n _=>lJ n s) (·=nc s):=by
 simp only [lJ]
 have e:sub s 7 (s.length:Int)=s.drop 7:=by rw [fK]; rfl
 rw [e]
 have h2:=pk (s.drop 7)
 rw [List.length_drop] at h2
 refine af O (au _ (uE _ (by rw [List.length_drop]; omega)) (au _ (w4 _ O) (au ((iW (cW (s.drop 7)).2).2.2&&bZ (cW (s.drop 7)).1) ?_ (aa Z))))
 cases (iW (cW (s.drop 7)).2).2.2 with
 | false=>exact ap G (aa Z)
 | true=>exact ao Z (au _ (lC _ O) (aa G))
def tg:fc:=fc.mk mL false
def iT:Nat→Bytes→List ac→(Bytes×List ac)⊕(fc×Bool)
 | 0,s,f=>.inl (s,f)
 | n+1,s,f=>if hasPrefix s jg=true then
   (if (nc s).2.2=true then
    (if (nc s).2.1=[] then .inr (fc.mk (al.mk (f++[(nc s).1]) false [] [] ka) false,true)
     else if hasPrefix (nc s).2.1 [46]=true then iT n ((nc s).2.1.drop 1) (f++[(nc s).1]) else .inr (tg,false))
    else .inr (tg,false))
  else .inl (s,f)
theorem zY:∀ (k:Nat) (s:Bytes) (f:List ac),s.length < k→s.length+f.length≤900000000→Ev2 (λ n m=>fP n m s f) (·=iT k s f):=by
 intro k
 induction k with
 | zero=>intro s f h; omega
 | succ k ih =>
  intro s f hk hs
  refine aF ?_
  simp only [fP]
  unfold iT
  refine au (hasPrefix s jg) (aU (vF s jg) Z) (aB (λ h=>?_) (λ h=>aa (by rw [if_neg h])))
  rw [if_pos h]
  have h7:7≤s.length:=qC h
  refine au _ (Cd s O h7) ?_
  have hl:=vj s h7
  generalize nc s=st at hl ⊢
  obtain ⟨x,t,b⟩:=st
  dsimp only at hl ⊢
  cases b with
  | false=>exact ao Z (aa (by rw [if_neg G]; rfl))
  | true =>
   rw [if_pos (show true=true from rfl)]
   refine ap G (af (by simp only [List.length_cons,List.length_nil]; omega) ?_)
   cases t with
   | nil=>exact ao Z (aa (by rw [if_pos Z]; rfl))
   | cons c q =>
    rw [if_neg (show ¬ (c::q:Bytes)=[] by simp),lq]
    have hb:byt (c::q) 0=(c.toNat:Int):=rfl
    have h46:c.toNat=46↔c=46:=lS (by decide)
    simp only [List.length_cons] at hl
    refine ap G (af (by simp only [List.length_cons]; omega) ?_)
    rw [hb]
    refine aB (λ h1=>af (by simp only [List.length_cons]; omega) ?_) (λ h1=>aa ?_)
    ·rw [if_pos (decide_eq_true (h46.1 O)),fK]
     exact ih q (f++[x]) O (by rw [List.length_append]; simp only [List.length_cons,List.length_nil]; omega)
    ·rw [if_neg (λ z=>h1 (by have:=h46.2 (of_decide_eq_true z); omega))]; rfl
def sJ (s:Bytes)(f:List ac):fc×Bool :=
 let w:=cW (trimPrefix s bF)
 let v:=cW (w.2.drop 1)
 let k:=iW v.2
 if bZ w.1=false∨fo w.1=true∨hasPrefix w.2 [46]=false then (tg,false)
 else if bZ v.1=false∨k.2.2=false∨k.2.1≠[] then (tg,false)
 else (fc.mk (al.mk f (hasPrefix s bF) w.1 v.1 k.1) true,true)
def EZ (o:(Bytes×List ac)⊕(fc×Bool)):fc×Bool:=match o with
 | .inl q=>sJ q.1 q.2
 | .inr p=>p
def jz (s:Bytes):fc×Bool:=EZ (iT (s.length+1) s [])
theorem uO:∀ (k:Nat) (s:Bytes) (f:List ac) (q:Bytes×List ac),iT k s f=.inl q→q.1.length≤s.length
 | 0,s,f,q,h=>by cases h; exact Nat.le_refl _
 | k+1,s,f,q,h=>by
  unfold iT at h
  split at h
  ·rename_i hp
   have hl:=vj s (qC hp)
   split at h
   ·split at h
    ·cases h
    ·split at h
     ·have:=uO k _ _ q h
      rw [List.length_drop] at this; omega
     ·cases h
   ·cases h
  ·cases h; exact Nat.le_refl _
theorem AF (s:Bytes)(hs:s.length≤900000000):Ev2 (λ n _=>kR n s) (·=jz s):=by
 simp only [kR]
 have l:=zY (s.length+1) s [] O (by simp; omega)
 have hlen:=uO (s.length+1) s []
 unfold jz
 generalize iT (s.length+1) s []=o at l hlen ⊢
 cases o with
 | inr p=>exact gw p (aY l) Z
 | inl q =>
  obtain ⟨t,f⟩:=q
  have ht:=hlen (t,f) Z
  simp only at ht
  refine gH (t,f) (aY l) ?_
  dsimp only
  show Ev2 _ (·=sJ t f)
  unfold sJ
  have htl:=ns t bF
  refine au (trimPrefix t bF,hasPrefix t bF) ?_ ?_
  ·refine au (hasPrefix t bF) (aU (vF t bF) Z) ?_
   cases hp:hasPrefix t bF with
   | true =>
    obtain ⟨u,rfl⟩:=(dM _ _).1 hp
    have h5:(bF++u).length=5+u.length:=by rw [List.length_append]; rfl
    refine ao Z (af O (aa ?_))
    rw [fK,jd]; rfl
   | false=>exact ap G (aa (by rw [mf hp]))
  dsimp only
  have hw:=pk (trimPrefix t bF)
  refine au _ (uE _ O) ?_
  generalize cW (trimPrefix t bF)=W at hw ⊢
  obtain ⟨w,r⟩:=W
  dsimp only at hw ⊢
  refine au (decide (bZ w=false∨fo w=true∨hasPrefix r [46]=false)) ?_ ?_
  ·refine au _ (lC w O) ?_
   cases bZ w with
   | false=>exact ao Z (aa G)
   | true =>
    refine ap G (au _ (Cy w) ?_)
    cases fo w with
    | true=>exact ao Z (aa G)
    | false =>
     refine ap G ?_
     cases r with
     | nil=>exact ao Z (aa (by rw [pre_nil]; simp))
     | cons c q =>
      have hb:byt (c::q) 0=(c.toNat:Int):=rfl
      have h46:c.toNat=46↔c=46:=lS (by decide)
      refine ap G (af (by simp only [List.length_cons]; omega) (aa (eqB ?_)))
      rw [hb,lq,Bool.not_eq_true',decide_eq_false_iff_not,decide_eq_true_eq,decide_eq_false_iff_not,← h46]
      constructor
      ·intro z; right; right; omega
      ·rintro (z | z | z)
       ·cases z
       ·cases z
       ·omega
  refine aB (λ h=>aa (by rw [if_pos (of_decide_eq_true h)]; rfl)) (λ h=>?_)
  have h:=λ z=>h (decide_eq_true z)
  rw [if_neg h]
  have hp:hasPrefix r [46]=true:=by
   cases hh:hasPrefix r [46] with
   | true=>rfl
   | false=>exact absurd (.inr (.inr hh)) h
  have h1:1≤r.length:=qC hp
  have e:sub r 1 (r.length:Int)=r.drop 1:=by rw [fK]; rfl
  rw [e]
  refine af O ?_
  have hv:=pk (r.drop 1)
  rw [List.length_drop] at hv
  refine au _ (uE _ (by rw [List.length_drop]; omega)) ?_
  generalize cW (r.drop 1)=V0z at hv ⊢
  obtain ⟨v,z⟩:=V0z
  dsimp only at hv ⊢
  refine au _ (w4 _ O) ?_
  generalize iW z=K
  obtain ⟨k,y,b⟩:=K
  dsimp only
  refine au (decide (bZ v=false∨b=false∨y≠[])) ?_ ?_
  ·refine au _ (lC v O) ?_
   cases bZ v with
   | false=>exact ao Z (aa G)
   | true =>
    refine ap G ?_
    cases b with
    | false=>exact ao Z (aa G)
    | true=>exact ap G (aa G)
  ·exact aB (λ h=>aa (by rw [if_pos (of_decide_eq_true h)]; rfl)) (λ h=>aa (by rw [if_neg (λ q=>h (decide_eq_true q))]))
def wA (s:Bytes):al×Int:=if (jz s).2=false∨(jz s).1.fWhole=false then (mL,2) else if 16 < (jz s).1.fAddr.fModule.length then (mL,4) else ((jz s).1.fAddr,0)
theorem zS (s:Bytes)(hs:s.length≤900000000):Ev2 (λ n _=>lc n s) (·=wA s):=by
 simp only [lc]
 refine au _ (AF s hs) ?_
 unfold wA
 generalize jz s=p
 obtain ⟨p,b⟩:=p
 dsimp only
 refine au (decide (b=false∨p.fWhole=false)) ?_ ?_
 ·cases b with
  | false=>exact ao Z (aa G)
  | true=>exact ap G (aa (by cases p.fWhole <;> simp))
 ·refine aB (λ h=>aa (by rw [if_pos (of_decide_eq_true h)]; rfl)) (λ h=>?_)
  rw [if_neg (λ q=>h (decide_eq_true q))]
  exact aB (λ h=>aa (by rw [if_pos O]; rfl)) (λ h=>aa (by rw [if_neg O]))
end Go.Ab.R06
end
section
namespace Go.Ab.R06
open Go.Proofs Go.Ab Go.Ab.RB Go.Lib
def Grm (s:Bytes)(a:al):Prop:=(∀ x∈a.fModule,bZ x.fName=true∧cB x.fKey=true)∧il a.fType=true∧bZ a.fName=true∧cB a.fKey=true∧gG a=s
theorem Am (s:Bytes):jA s=(mL,2)∨∃ a,Grm s a∧jA s=if 16 < a.fModule.length then (mL,4) else (a,0):=by
 unfold jA
 simp only
 have hL:=nG (s.length+1) [] (am.mk s false)
 generalize gN (s.length+1) [] (am.mk s false)=p at hL ⊢
 obtain ⟨ms,r⟩:=p
 simp only at hL ⊢
 split
 ·exact .inl Z
 ·rename_i h0
  right
  simp only [not_or] at h0
  obtain ⟨hb,hr,hk⟩:=h0
  have hb:(kq (dl (gP (dl (ir r bF).2).2 [46])).2).2.fbad=false:=by
   have:(gb r).2.2.2.2.fbad=false:=by simpa using hb
   exact this
  have hr:(kq (dl (gP (dl (ir r bF).2).2 [46])).2).2.frest=[]:=by
   have:(gb r).2.2.2.2.frest=[]:=by simpa using hr
   exact this
  have hk:il (dl (ir r bF).2).1=true:=by
   have:il (gb r).2.1=true:=by simpa using hk
   exact this
  have s1:=rj hb
  have s2:=lO s1.1
  have s3:=mb s2.1
  have s4:=lO s3.1
  have hrb:r.fbad=false:=s4.1
  obtain ⟨_,new,e1,e2,e3⟩:=hL hrb
  simp only [List.nil_append] at e1
  subst e1
  have hdat:r.frest=(if (ir r bF).1=true then bF else [])++(ir r bF).2.frest:=by
   unfold ir
   simp only
   cases hp:hasPrefix r.frest bF with
   | true =>
    obtain ⟨t,ht⟩:=(dM _ _).1 hp
    rw [ht,jd]; rfl
   | false=>rw [mf hp]; rfl
  refine ⟨al.mk ms (gb r).1 (gb r).2.1 (gb r).2.2.1 (gb r).2.2.2.1,⟨e3,hk,s2.2.1,s1.2.1,?_⟩,Z⟩
  show ms.flatMap bM++((if (ir r bF).1=true then bF else [])++((dl (ir r bF).2).1++[46]++(dl (gP (dl (ir r bF).2).2 [46])).1++aQ (kq (dl (gP (dl (ir r bF).2).2 [46])).2).1))=s
  have x1:=s1.2.2
  rw [hr,List.append_nil] at x1
  rw [← x1,List.append_assoc,← s2.2.2,List.append_assoc,← s3.2,← s4.2.2,← hdat,← e2]
theorem zK {a:al}(h:il a.fType=true):hasPrefix (a.fType++[46]++a.fName++aQ a.fKey) bF=false:=by
 obtain ⟨hres,hid⟩:=(kf _).1 h
 have hns:∀ b∈a.fType,j6 b=false:=λ b hb=>nI (lv hid hb)
 rw [← Bool.not_eq_true,dM]
 rintro ⟨u,hu⟩
 have:a.fType=[100,97,116,97]:=ul _ _ (a.fName++aQ a.fKey) u (by decide) hns (by simpa [bF] using hu)
 rw [this] at hres
 exact absurd hres (by decide)
theorem Cq {a:al}(h:il a.fType=true):hasPrefix ((if a.fData=true then bF else [])++(a.fType++[46]++a.fName++aQ a.fKey)) jg=false:=by
 obtain ⟨hres,hid⟩:=(kf _).1 h
 have hns:∀ b∈a.fType,j6 b=false:=λ b hb=>nI (lv hid hb)
 rw [← Bool.not_eq_true,dM]
 rintro ⟨u,hu⟩
 cases hd:a.fData with
 | true =>
  rw [hd] at hu
  have:=(List.cons.inj hu).1
  exact absurd this (by decide)
 | false =>
  rw [hd] at hu
  have:a.fType=[109,111,100,117,108,101]:=ul _ _ (a.fName++aQ a.fKey) u (by decide) hns (by simpa [jg] using hu)
  rw [this] at hres
  exact absurd hres (by decide)
theorem vw (ms:List ac):ms.length≤(ms.flatMap bM).length:=by
 induction ms with
 | nil=>simp
 | cons x r ih =>
  have:1≤(bM x).length:=by simp only [bM,List.length_append,List.length_cons,List.length_nil]; omega
  simp only [List.flatMap_cons,List.length_append,List.length_cons]; omega
theorem qF:∀ (k:Nat) (s:Bytes) (f:List ac) (q:Bytes×List ac),iT k s f=.inl q→∃ new,q.2=f++new∧s=new.flatMap bM++q.1∧∀ x∈new,bZ x.fName=true∧cB x.fKey=true
 | 0,s,f,q,h=>by cases h; exact ⟨[],by simp,by simp,by simp⟩
 | k+1,s,f,q,h=>by
  unfold iT at h
  split at h
  ·rename_i hp
   obtain ⟨t,rfl⟩:=(dM _ _).1 hp
   split at h
   ·rename_i hb
    split at h
    ·cases h
    ·split at h
     ·rename_i hd
      obtain ⟨u,hu⟩:=(dM _ _).1 hd
      rw [hu] at h
      obtain ⟨new,e1,e2,e3⟩:=qF k _ _ q h
      have hd7:(jg++t).drop 7=t:=rfl
      have hb:((iW (cW t).2).2.2&&bZ (cW t).1)=true:=by
       have:=hb
       unfold nc at this
       rw [hd7] at this; exact this
      have hb1:(iW (cW t).2).2.2=true∧bZ (cW t).1=true:=by simpa using hb
      have hst:nc (jg++t)=(ac.mk (cW t).1 (iW (cW t).2).1,(iW (cW t).2).2.1,(iW (cW t).2).2.2&&bZ (cW t).1):=rfl
      rw [hst] at hu e1
      have hks:=tH (s:=(cW t).2) (k:=(iW (cW t).2).1) (t:=(iW (cW t).2).2.1) (by rw [← hb1.1])
      refine ⟨ac.mk (cW t).1 (iW (cW t).2).1::new,by rw [e1]; simp,?_,?_⟩
      ·rw [List.flatMap_cons]
       show jg++t=(jg++(cW t).1++aQ (iW (cW t).2).1++[46]++new.flatMap bM)++q.1
       have e2:u=new.flatMap bM++q.1:=e2
       have hu:(iW (cW t).2).2.1=[46]++u:=hu
       conv=>lhs; rw [mu t,hks.2,hu,e2]
       simp
      ·intro x hx
       rcases List.mem_cons.1 hx with rfl | hx
       ·exact ⟨hb1.2,hks.1⟩
       ·exact e3 x hx
     ·cases h
   ·cases h
  ·cases h; exact ⟨[],by simp,by simp,by simp⟩
theorem yo {x:ac}(h:bZ x.fName=true∧cB x.fKey=true)(T:Bytes):nc (jg++(x.fName++(aQ x.fKey++([46]++T))))=(x,[46]++T,true):=by
 have hd:(jg++(x.fName++(aQ x.fKey++([46]++T)))).drop 7=x.fName++(aQ x.fKey++([46]++T)):=rfl
 unfold nc
 rw [hd,qg (t:=aQ x.fKey++([46]++T)) h.1 (.inr (qB _ _ ⟨46,T,rfl,by decide⟩))]
 simp only
 rw [vm (t:=[46]++T) h.2 (sc (b:=46) (c:=91) (t:=T) (by decide)),h.1]
 rfl
theorem sn:∀ (new:List ac) (k:Nat) (f:List ac) (t:Bytes),new.length < k→(∀ x∈new,bZ x.fName=true∧cB x.fKey=true)→hasPrefix t jg=false →
  iT k (new.flatMap bM++t) f=.inl (t,f++new)
 | [],k,f,t,hk,_,ht=>by
  obtain ⟨k,rfl⟩:∃ k',k=k'+1:=⟨k - 1,by omega⟩
  unfold iT
  rw [if_neg (by simp [ht])]; simp
 | x::r,k,f,t,hk,hx,ht=>by
  obtain ⟨k,rfl⟩:∃ k',k=k'+1:=⟨k - 1,by omega⟩
  have h1:=hx x List.mem_cons_self
  have ih:=sn r k (f++[x]) t (by simp only [List.length_cons] at hk; omega) (λ y hy=>hx y (List.mem_cons_of_mem _ hy)) ht
  generalize hT:r.flatMap bM++t=T at ih
  have e:(x::r).flatMap bM++t=jg++(x.fName++(aQ x.fKey++([46]++T))):=by
   rw [List.flatMap_cons,List.append_assoc,hT]; simp [bM]
  unfold iT
  rw [e,if_pos (jq _ _),yo h1]
  simp only [if_true]
  have hd:([46]++T).drop 1=T:=rfl
  rw [if_neg G,if_pos (jq [46] T),hd,ih]
  simp
theorem wN {s:Bytes}(h2:(jz s).2=true)(hw:(jz s).1.fWhole=true):Grm s (jz s).1.fAddr:=by
 unfold jz at h2 hw ⊢
 have hL:=qF (s.length+1) s []
 have hN:∀ p,iT (s.length+1) s []=.inr p→p.1.fWhole=false:=by
  have:∀ (k:Nat) (s:Bytes) (f:List ac) (p:fc×Bool),iT k s f=.inr p→p.1.fWhole=false:=by
   intro k
   induction k with
   | zero=>intro s f p h; cases h
   | succ k ih =>
    intro s f p h
    unfold iT at h
    split at h
    ·split at h
     ·split at h
      ·cases h; rfl
      ·split at h
       ·exact ih _ _ _ h
       ·cases h; rfl
     ·cases h; rfl
    ·cases h
  exact this _ _ _
 generalize iT (s.length+1) s []=o at h2 hw hL hN ⊢
 cases o with
 | inr p =>
  have:=hN p Z
  have hw:p.1.fWhole=true:=hw
  rw [this] at hw; cases hw
 | inl q =>
  obtain ⟨t,f⟩:=q
  obtain ⟨new,e1,e2,e3⟩:=hL _ rfl
  simp only [List.nil_append] at e1 e2
  subst e1
  have h2:(sJ t f).2=true:=h2
  show Grm s (sJ t f).1.fAddr
  unfold sJ at h2 ⊢
  simp only at h2 ⊢
  split at h2
  ·cases h2
  ·rename_i c1
   rw [if_neg c1]
   split at h2
   ·cases h2
   ·rename_i c2
    rw [if_neg c2]
    simp only [not_or] at c1 c2
    obtain ⟨a1,a2,a3⟩:=c1
    obtain ⟨b1,b2,b3⟩:=c2
    have a1:bZ (cW (trimPrefix t bF)).1=true:=by simpa using a1
    have a2:fo (cW (trimPrefix t bF)).1=false:=by simpa using a2
    have a3:hasPrefix (cW (trimPrefix t bF)).2 [46]=true:=by simpa using a3
    obtain ⟨u,hu⟩:=(dM _ _).1 a3
    have hd:(cW (trimPrefix t bF)).2.drop 1=u:=by rw [hu]; rfl
    rw [hd] at b1 b2 b3 ⊢
    have b1:bZ (cW u).1=true:=by simpa using b1
    have b2:(iW (cW u).2).2.2=true:=by simpa using b2
    have b3:(iW (cW u).2).2.1=[]:=by simpa using b3
    have hks:=tH (s:=(cW u).2) (k:=(iW (cW u).2).1) (t:=(iW (cW u).2).2.1) (by rw [← b2])
    rw [b3,List.append_nil] at hks
    refine ⟨e3,(kf _).2 ⟨a2,a1⟩,b1,hks.1,?_⟩
    show f.flatMap bM++((if hasPrefix t bF=true then bF else [])++((cW (trimPrefix t bF)).1++[46]++(cW u).1++aQ (iW (cW u).2).1))=s
    have hdat:t=(if hasPrefix t bF=true then bF else [])++trimPrefix t bF:=by
     cases hp:hasPrefix t bF with
     | true =>
      obtain ⟨t',ht⟩:=(dM _ _).1 hp
      rw [ht,jd]; rfl
     | false=>rw [mf hp]; rfl
    rw [← hks.2,List.append_assoc,← mu u,List.append_assoc,← hu,← mu,← hdat,← e2]
theorem w3 {s:Bytes}{a:al}(h:Grm s a):jz s=(fc.mk a true,true):=by
 obtain ⟨c2,c3,c4,c5,rfl⟩:=h
 obtain ⟨hres,hid⟩:=(kf _).1 c3
 have hnd:=zK c3
 have hL:=sn a.fModule ((gG a).length+1) [] _ (by
  have:=vw a.fModule
  unfold gG
  rw [List.length_append]; omega) c2 (Cq c3)
 have e:gG a=a.fModule.flatMap bM++((if a.fData=true then bF else [])++(a.fType++[46]++a.fName++aQ a.fKey)):=rfl
 rw [← e] at hL
 unfold jz
 rw [hL]
 show sJ _ _=_
 simp only [List.nil_append]
 have hp:hasPrefix ((if a.fData=true then bF else [])++(a.fType++[46]++a.fName++aQ a.fKey)) bF=a.fData∧trimPrefix ((if a.fData=true then bF else [])++(a.fType++[46]++a.fName++aQ a.fKey)) bF=a.fType++([46]++(a.fName++aQ a.fKey)):=by
  cases a.fData with
  | true=>rw [if_pos rfl,jq,jd]; simp
  | false=>rw [if_neg G,List.nil_append,hnd,mf hnd]; simp
 have hk:=vm (t:=[]) c5 (by decide)
 rw [List.append_nil] at hk
 unfold sJ
 rw [hp.1,hp.2,qg (t:=[46]++(a.fName++aQ a.fKey)) hid (.inr ⟨46,a.fName++aQ a.fKey,rfl,by decide⟩)]
 simp only
 have hd:([46]++(a.fName++aQ a.fKey)).drop 1=a.fName++aQ a.fKey:=rfl
 rw [hd,qg c4 (sf _)]
 simp only
 rw [hk,hid,hres,jq,c4]
 simp
theorem CQ {s:Bytes}{a:al}(h:Grm s a):jA s=if 16 < a.fModule.length then (mL,4) else (a,0):=by
 obtain ⟨c2,c3,c4,c5,rfl⟩:=h
 obtain ⟨hres,hid⟩:=(kf _).1 c3
 have hnd:=zK c3
 have hL:=sj a.fModule ((gG a).length+1) [] _ (by
  have:=vw a.fModule
  unfold gG
  rw [List.length_append]; omega) c2 (Cq c3)
 unfold jA
 have e:gG a=a.fModule.flatMap bM++((if a.fData=true then bF else [])++(a.fType++[46]++a.fName++aQ a.fKey)):=rfl
 rw [← e] at hL
 rw [hL]
 simp only [List.nil_append]
 have hT:gb (am.mk ((if a.fData=true then bF else [])++(a.fType++[46]++a.fName++aQ a.fKey)) false)=(a.fData,a.fType,a.fName,a.fKey,am.mk [] false):=by
  have hh:ir (am.mk ((if a.fData=true then bF else [])++(a.fType++[46]++a.fName++aQ a.fKey)) false) bF=(a.fData,am.mk (a.fType++([46]++(a.fName++aQ a.fKey))) false):=by
   unfold ir
   simp only
   cases a.fData with
   | true=>rw [if_pos rfl,jq,jd]; simp
   | false=>rw [if_neg G,List.nil_append,hnd,mf hnd]; simp
  have hk:=xH (t:=[]) c5 (by decide)
  rw [List.append_nil] at hk
  unfold gb
  simp only
  rw [hh]
  simp only
  rw [rx (t:=[46]++(a.fName++aQ a.fKey)) hid (.inr ⟨46,a.fName++aQ a.fKey,rfl,by decide⟩)]
  simp only
  rw [pj,rx c4 (sf _)]
  simp only
  rw [hk]
 rw [hT]
 simp only [c3]
 rw [if_neg G]
theorem A3 (s:Bytes):wA s=jA s:=by
 unfold wA
 by_cases hc:(jz s).2=false∨(jz s).1.fWhole=false
 ·rw [if_pos hc]
  rcases Am s with h | ⟨a,ha,_⟩
  ·exact h.symm
  ·rw [w3 ha] at hc
   rcases hc with q | q <;> cases q
 ·rw [if_neg hc]
  simp only [not_or,Bool.not_eq_false] at hc
  exact (CQ (wN hc.1 hc.2)).symm
theorem Bs (a:al)(ha:a.fModule.length≤100000):∀ (k i:Nat) (f:List ac),i+k=a.fModule.length→f.length=i→Ev2 (λ _ m=>fA a m (i:Int) f) (·=f++(a.fModule.drop i).map kS):=by
 intro k
 induction k with
 | zero =>
  intro i f hi hf
  refine aF ?_
  simp only [fA]
  refine ap O (aa ?_)
  rw [List.drop_of_length_le O]; simp
 | succ k ih =>
  intro i f hi hf
  refine aF ?_
  simp only [fA]
  have h1:i < a.fModule.length:=by omega
  refine ao O (af O ?_)
  rw [co _ _ h1]
  refine af (by simp only [List.length_cons,List.length_nil]; omega) (af (aS O O) ?_)
  have:=ih (i+1) (f++[kS a.fModule[i]]) O (by simp; omega)
  rw [Int.natCast_add,Int.natCast_one] at this
  refine ed this λ r hr=>?_
  rw [hr,List.drop_eq_getElem_cons h1,List.append_assoc]; rfl
theorem Bn (a:al)(ha:Sm a):Ev2 (λ n _=>lM n a) (·=nZ a):=by
 simp only [lM]
 have l:=Bs a ha.1 a.fModule.length 0 [] O rfl
 rw [List.drop_zero,List.nil_append] at l
 exact au _ (aY l) (aa Z)
theorem Eh (a:al):Sk (nZ a):=by
 refine ⟨by simp [nZ,ka],λ x hx=>?_⟩
 obtain ⟨y,hy,rfl⟩:=List.mem_map.1 hx
 simp [kS,ka]
theorem uk (s:Bytes)(hs:s.length≤800000000):Ev2 (λ n _=>iO n s) (·=ip s):=by
 simp only [iO]
 unfold ip
 refine au _ (zS s O) ?_
 rw [A3]
 have hp:=@sH s
 generalize jA s=p at hp ⊢
 obtain ⟨a,e⟩:=p
 simp only
 refine aB (λ h=>?_) (λ h=>aa (by rw [if_neg h]))
 subst h
 rw [if_pos rfl]
 have ha:=(hp Z).2.2
 exact au _ (Bn a ha) (au _ (xC _ ha.bare (Eh a)) (aa Z))
end Go.Ab.R06
end
section
namespace Go.Ab.R06
open Go.Proofs Go.Ab Go.Ab.RB
attribute [local irreducible] awp eC aW aA bN AV.sub M dY
def ix (n:Nat)(targets_0:List Bytes)(addr_1:Bytes):Option Bool :=
 if (targets_0.length:Int)=0 then
  some true
 else
  (iO n addr_1).bind λ r2 =>
  (
    (lA n targets_0 addr_1).bind λ r4 =>
    if r4=true then
     some true
    else
     if r2.2=0 then
      (lA n targets_0 r2.1).bind λ r8 =>
      some r8
     else
      some false
   : Option Bool).bind λ t10 =>
  some t10
theorem rb (n:Nat)(targets_0:List Bytes)(addr_1:Bytes)(r:Bool)(h0:ix n targets_0 addr_1=some r):aA Tryz.prog 16 [eL eS targets_0,eS addr_1] (·=.p (eB r)):=by
 unfold ix at h0
 refine ba good Tryz.func16 Z Z Z λ w0=>mP (λ v:Bool=>.p (eB v)) ?_
 refine nx 8 Z (oLl (f:=eS) Z Z (nx 2 Z (fD [9] h0 Z (λ c1 h0=>?_) λ c1 h0=>?_)))
 ·exact nx 6 Z (mQ (oi h0) Z (sr))
 refine nx 5 Z (bd h0 λ r2 e3 h0=>oK (oc _ addr_1 _ e3) Z ⟨sr,trivial⟩ Tryz.call33 Z (nx 7 Z (bd h0 λ o12 h1 h0=>kN o12 (λ v13=>⟨[(4,.p (eB v13))],[]⟩) ?_ ?_)))
 ·exact nx 2 Z (mQ (oi h0) Z (sr))
 refine nx 3 Z (bd h1 λ r4 e5 h1=>oK (qY _ targets_0 addr_1 _ e5) Z ⟨sr,sr,trivial⟩ Tryz.call34 Z (nx 1 Z ?_))
 refine fB [17,18] h1 Z (λ c6 h1=>?_) λ c6 h1=>?_
 ·exact nx 10 Z (eX _ (oi h1).symm (gE Z Z))
 refine nx 3 Z (fD [20,21] h1 Z (λ c7 h1=>?_) λ c7 h1=>?_)
 ·exact nx 2 Z (bd h1 λ r8 e9 h1=>oK (qY _ targets_0 r2.1 _ e9) Z ⟨sr,sr,trivial⟩ Tryz.call34 Z (nx 4 Z (eX _ (oi h1).symm (gE Z Z))))
 exact nx 7 Z (eX _ (oi h1).symm (gE Z Z))
end Go.Ab.R06
end
section
namespace Go.Ab.R06
open Go.Ab Go.Ab.RB Go.Lib
theorem AD (p s:Bytes)(hp:p.length≤65536)(hs:s.length≤65536):Ev2 (λ n _=>jF n p s) (·=Glob.matchL p s) :=
 ⟨_,Z,p.length+s.length+3,λ n _ hn _=>Glob.refmatch_eq n p s hp hs hn⟩
theorem DZ (l:List Bytes)(s:Bytes)(hb:l.length≤65536)(hl:∀ p∈l,p.length≤65536)(hs:s.length≤32768):∀ (k i:Nat),i+k=l.length→Ev2 (λ n m=>gd n l s m (i:Int)) (·=if Glob.anyL (l.drop i) s=true then .inr true else .inl ()):=by
 intro k
 induction k with
 | zero =>
  intro i hi
  refine aF ?_
  simp only [gd]
  exact ap O (aa (by rw [List.drop_of_length_le O]; rfl))
 | succ k ih =>
  intro i hi
  have h1:i < l.length:=by omega
  refine aF ?_
  simp only [gd]
  refine ao O (af O ?_)
  rw [co _ _ h1,List.drop_eq_getElem_cons h1]
  refine cy _ (AD l[i] s (hl _ (List.getElem_mem h1)) O) ?_
  have e:Glob.anyL (l[i]::l.drop (i+1)) s=(Glob.matchL l[i] s||Glob.anyL (l.drop (i+1)) s):=rfl
  rw [e]
  cases hq:Glob.matchL l[i] s
  ·refine ap G (af (aS O O) ?_)
   have:=ih (i+1) O
   rw [Int.natCast_add,Int.natCast_one] at this
   rw [Bool.false_or]; exact this
  ·exact ao Z (aa (by rw [Bool.true_or,if_pos Z]))
theorem za (l:List Bytes)(s:Bytes)(hb:l.length≤65536)(hl:∀ p∈l,p.length≤65536)(hs:s.length≤32768):Ev2 (λ n _=>lA n l s) (·=Glob.anyL l s):=by
 simp only [lA]
 have l1:=DZ l s hb hl hs l.length 0 O
 rw [List.drop_zero] at l1
 cases hq:Glob.anyL l s
 ·rw [if_neg (by simp [hq])] at l1
  exact gH () (aY l1) (aa Z)
 ·rw [if_pos hq] at l1
  exact gw true (aY l1) Z
theorem wD (t:List Bytes)(addr:Bytes)(hb:t.length≤65536)(hl:∀ p∈t,p.length≤65536)(ha:addr.length≤300):Ev2 (λ n _=>ix n t addr) (·=lW t addr):=by
 have hs:=sg addr
 simp only [ix]
 unfold lW
 refine aB (λ h=>aa ?_) (λ h=>?_)
 ·rw [decide_eq_true (List.length_eq_zero_iff.1 O)]; rfl
 ·rw [decide_eq_false (λ e=>h (by rw [e]; rfl)),Bool.false_or]
  refine cy _ (uk addr O) (cy (Glob.anyL t addr||(decide ((ip addr).2=0)&&Glob.anyL t (ip addr).1)) (cy _ (za t addr hb hl O) ?_) (aa Z))
  cases Glob.anyL t addr
  ·refine ap (by decide) (aB (λ h=>?_) (λ h=>aa (by rw [decide_eq_false h]; rfl)))
   rw [decide_eq_true h]
   exact cy _ (za t _ hb hl O) (aa Z)
  ·exact ao Z (aa Z)
theorem DF (a b:List Bytes)(hl:a.length=b.length)(hb:a.length≤fv):∀ (k i:Nat),i+k=a.length→Ev2 (λ _ m=>ec a b m (i:Int)) (·=if a.drop i=b.drop i then .inl () else .inr false):=by
 have hW:=qP
 intro k
 induction k with
 | zero =>
  intro i hi
  refine aF ?_
  simp only [ec]
  exact ap O (aa (by rw [List.drop_of_length_le O,List.drop_of_length_le O]; simp))
 | succ k ih =>
  intro i hi
  have h1:i < a.length:=by omega
  have h2:i < b.length:=by omega
  refine aF ?_
  simp only [ec]
  refine ao O (af O (af O ?_))
  rw [co _ _ h1,co _ _ h2,List.drop_eq_getElem_cons h1,List.drop_eq_getElem_cons h2]
  refine aB (λ h=>af (aS O O) ?_) (λ h=>aa (by rw [if_neg (λ e=>h (List.cons.inj e).1)]))
  have:=ih (i+1) O
  rw [Int.natCast_add,Int.natCast_one] at this
  refine ed this λ r hr=>?_
  rw [hr,h]
  simp only [List.cons.injEq,true_and]
theorem zd (a b:List Bytes)(hb:a.length≤fv):Ev2 (λ n _=>hH n a b) (·=decide (a=b)):=by
 simp only [hH]
 refine aB (λ h=>?_) (λ h=>aa (by rw [decide_eq_false (λ e=>h (by rw [e]))]))
 have l1:=DF a b O hb a.length 0 O
 rw [List.drop_zero,List.drop_zero] at l1
 by_cases h:a=b
 ·rw [if_pos h] at l1
  exact gH () (aY l1) (aa (by rw [decide_eq_true h]))
 ·rw [if_neg h] at l1
  exact gw false (aY l1) (by rw [decide_eq_false h])
def eqv (x y:ab):Bool:=decide (x.fAddr=y.fAddr)&&decide (x.fDeposed=y.fDeposed)&&decide (x.fAction=y.fAction)&&decide (x.fDeps=y.fDeps)&&decide (x.fOldDeps=y.fOldDeps)
theorem C0 (x:ab):eqv x x=true:=by simp [eqv]
def rF:List ab→List ab→Bool
 | [],[]=>true
 | x::a,y::b=>eqv x y&&rF a b
 | _,_=>false
theorem vJ:∀ a:List ab,rF a a=true
 | []=>rfl
 | x::a=>by simp only [rF,C0,vJ a,Bool.and_self]
theorem xi:∀ {a b:List ab},rF a b=true→a.length=b.length
 | [],[],_=>rfl
 | [],_::_,h=>by simp [rF] at h
 | _::_,[],h=>by simp [rF] at h
 | x::a,y::b,h=>by
  simp only [rF,Bool.and_eq_true] at h
  simp only [List.length_cons,xi h.2]
theorem F8 (a b:List ab)(hl:a.length=b.length)(hn:a.length≤1000)(ha:∀ c∈a,ab.Bd c):∀ (k i:Nat),i+k=a.length→Ev2 (λ n m=>eR n a b m (i:Int)) (·=if rF (a.drop i) (b.drop i)=true then .inl () else .inr false):=by
 intro k
 induction k with
 | zero =>
  intro i hi
  refine aF ?_
  simp only [eR]
  exact ap O (aa (by rw [List.drop_of_length_le O,List.drop_of_length_le O]; rfl))
 | succ k ih =>
  intro i hi
  have h1:i < a.length:=by omega
  have h2:i < b.length:=by omega
  have hb:=ha _ (List.getElem_mem h1)
  have d1:=hb.bDeps
  have d2:=hb.bOldDeps
  refine aF ?_
  simp only [eR]
  refine ao O ?_
  rw [co _ _ h1,co _ _ h2,List.drop_eq_getElem_cons h1,List.drop_eq_getElem_cons h2]
  refine cy (!eqv a[i] b[i]) ?_ ?_
  ·unfold eqv
   refine af O (af O (aB (λ e1=>?_) (λ e1=>aa (by rw [decide_eq_false e1]; rfl))))
   refine af O (af O (aB (λ e2=>?_) (λ e2=>aa (by rw [decide_eq_false e2]; simp))))
   refine af O (af O (aB (λ e3=>?_) (λ e3=>aa (by rw [decide_eq_false e3]; simp))))
   rw [decide_eq_true e1,decide_eq_true e2,decide_eq_true e3,Bool.true_and,Bool.true_and,Bool.true_and]
   refine af O (af O (cy _ (zd _ _ O) ?_))
   cases decide (a[i].fDeps=b[i].fDeps)
   ·exact ao Z (aa G)
   ·exact ap (by decide) (af O (af O (cy _ (zd _ _ O) (aa G))))
  ·have e:rF (a[i]::a.drop (i+1)) (b[i]::b.drop (i+1))=(eqv a[i] b[i]&&rF (a.drop (i+1)) (b.drop (i+1))):=rfl
   simp only [e]
   by_cases hq:eqv a[i] b[i]=true
   ·simp only [hq,Bool.true_and]
    refine ap (by decide) (af (aS O O) ?_)
    have:=ih (i+1) O
    rw [Int.natCast_add,Int.natCast_one] at this
    exact this
   ·have hq:=Bool.eq_false_iff.2 hq
    simp only [hq,Bool.false_and]
    exact ao Z (aa Z)
theorem E6 (a b:List ab)(hn:a.length≤1000)(ha:∀ c∈a,ab.Bd c):Ev2 (λ n _=>kG n a b) (·=rF a b):=by
 simp only [kG]
 refine aB (λ h=>?_) (λ h=>aa ?_)
 ·have l1:=F8 a b O hn ha a.length 0 O
  rw [List.drop_zero,List.drop_zero] at l1
  cases hq:rF a b
  ·rw [if_neg (by simp [hq])] at l1
   exact gw false (aY l1) Z
  ·rw [if_pos hq] at l1
   exact gH () (aY l1) (aa Z)
 ·cases hq:rF a b
  ·rfl
  ·exact absurd (congrArg (λ n:Nat=>(n:Int)) (xi hq)) h
theorem zU {t:List Bytes}{l:List ab}(h:Cz t l=true):t.length≤16∧(∀ p∈t,p.length≤300)∧l.length≤20∧∀ c∈l,c.fAddr.length≤300:=by
 unfold Cz at h
 rw [Bool.and_eq_true,Bool.and_eq_true,Bool.and_eq_true,List.all_eq_true,decide_eq_true_eq,decide_eq_true_eq] at h
 obtain ⟨⟨⟨h1,h2⟩,h3⟩,h4⟩:=h
 have h5:=tS h1
 refine ⟨by omega,h5.2,h3,λ c hc=>?_⟩
 have:=h4 c hc
 unfold ux at this
 rw [Bool.and_eq_true,Bool.and_eq_true,decide_eq_true_eq] at this
 exact this.1.1
end Go.Ab.R06
end
section
namespace Go.Ab.R06
open Go.Proofs Go.Ab Go.Ab.RB
attribute [local irreducible] awp eC aW aA bN AV.sub M dY
def gf (l_0:List Bytes)(s_1:Bytes):Nat→Int→Option (Unit⊕Bool)
 | 0,_=>none
 | m+1,i6 =>
 if i6 < (l_0.length:Int) then
  ck ((0:Int)≤i6∧i6 < (l_0.length:Int)) <|
  if lat l_0 i6=s_1 then
   some (.inr true)
  else
   ck (inR (i6+1)) <|
   gf l_0 s_1 m (i6+1)
 else
  some (.inl ())
def lH (n:Nat)(l_0:List Bytes)(s_1:Bytes):Option Bool :=
 jn (gf l_0 s_1 n 0) λ q12 =>
 some false
theorem qO (n:Nat)(l_0:List Bytes)(s_1:Bytes)(r:Bool)(h0:lH n l_0 s_1=some r):aA Tryz.prog 66 [eL eS l_0,eS s_1] (·=.p (eB r)):=by
 unfold lH at h0
 refine ba good Tryz.func66 Z Z Z λ w0=>mP (λ v:Bool=>.p (eB v)) ?_
 refine nx 10 Z ?_
 obtain ⟨o13,h1,hL0,hR0⟩:=fx h0
 refine kEx 0 (λ v14:Unit=>o13=.inl v14) (λ v14=>⟨[],[]⟩) (λ v14 hv=>?_) ?_
 ·have h0:=hL0 _ hv
  exact nx 6 Z (mQ (oi h0) Z (sr))
 refine lG (λ (q15:Int)=>⟨[(0,.p (eL eS l_0)),(1,.p (eS s_1)),(5,.p (eI q15))],[]⟩) (λ m (q15:Int)=>gf l_0 s_1 m q15) Y 0 h1 (gE Z Z) ?_
 rintro m i6 h1
 replace h1:gf l_0 s_1 (m+1) i6=some o13:=h1
 rw [gf] at h1
 refine nx 5 Z (oLl (f:=eS) Z Z (nx 2 Z (fD [9] h1 Z (λ c7 h1=>?_) λ c7 h1=>?_)))
 ·refine nx 8 Z (oE h1 Y Z Z Y λ hk8 h1=>nx 2 Z (oS Z Z (nx 1 Z (fD [17] h1 Z (λ c9 h1=>?_) λ c9 h1=>?_))))
  ·exact nx 6 Z (mQ (hR0 _ (oi h1).symm) Z (sr))
  exact nx 4 Z (oA h1 Z Z λ hk10 h1=>nx 2 Z (eX (i6+1) h1 (gE Z Z)))
 exact nx 2 Z (eXi _ (oi h1).symm (gE Z Z))
def iK (n:Nat)(addr_0:Bytes):Option Bytes :=
 (iO n addr_0).bind λ r1 =>
 some r1.1
theorem oe (n:Nat)(addr_0:Bytes)(r:Bytes)(h0:iK n addr_0=some r):aA Tryz.prog 67 [eS addr_0] (·=.p (eS r)):=by
 unfold iK at h0
 refine ba good Tryz.func67 Z Z Z λ w0=>mP (λ v:Bytes=>.p (eS v)) ?_
 exact nx 7 Z (bd h0 λ r1 e2 h0=>oK (oc _ addr_0 _ e2) Z ⟨sr,trivial⟩ Tryz.call33 Z (nx 12 Z (mQ (oi h0) Z (sr))))
def kD (n:Nat)(x_0:ab)(y_1:ab):Option Bool :=
 (iK n y_1.fAddr).bind λ r1 =>
 (lH n x_0.fDeps r1).bind λ r3 =>
 if r3=true then
  some true
 else
  (
    if x_0.fAction=4 then
     some true
    else
     some (decide (x_0.fAction=3))
   : Option Bool).bind λ gone7 =>
  (
    if gone7=true then
     if y_1.fAction=0 then
      some false
     else
      (iK n x_0.fAddr).bind λ r10 =>
      (lH n y_1.fOldDeps r10).bind λ r12 =>
      some r12
    else
     some false
   : Option Bool).bind λ t14 =>
  some t14
theorem ua (n:Nat)(x_0:ab)(y_1:ab)(r:Bool)(h0:kD n x_0 y_1=some r):aA Tryz.prog 42 [.agg (ab.cs x_0),.agg (ab.cs y_1)] (·=.p (eB r)):=by
 unfold kD at h0
 refine ba good Tryz.func42 Z Z Z λ w0=>mP (λ v:Bool=>.p (eB v)) ?_
 refine nx 8 Z (bd h0 λ r1 e2 h0=>bd h0 λ r3 e4 h0=>mD [(2,.ptr 2 0),(3,.ptr 3 0)] Z ⟨Z,Z,trivial⟩ Z (dR 4 Z (dq (.p (eS r1)) [9] Z (λ _ e _ q=>av Z (bw (oe _ y_1.fAddr _ e2) Z Z Z (aO (e _ _ Z) bA) ⟨sr,trivial⟩ Tryz.call67 Z q)) Z (dq (.p (eB r3)) [7,10] Z (λ _ e _ q=>av Z (bw (qO _ x_0.fDeps r1 _ e4) Z Z Z (aO (e _ _ Z) (aO (e _ _ Z) bA)) ⟨sr,sr,trivial⟩ Tryz.call66 Z q)) Z ?_))))
 refine dE Z (nx 1 Z ?_)
 refine fB [11] h0 Z (λ c5 h0=>?_) λ c5 h0=>?_
 ·exact nx 6 Z (mQ (oi h0) Z (sr))
 refine nx 3 Z (bd h0 λ o17 h1 h0=>?_)
 refine kN o17 (λ v18=>⟨[(2,.ptr 2 0),(3,.ptr 3 0),(5,.p (eB v18))],[(2,(ab.cs x_0).map .p),(3,(ab.cs y_1).map .p)]⟩) ?_ ?_
 ·refine nx 2 Z (bd h0 λ o19 h1 h0=>?_)
  refine kN o19 (λ v20=>⟨[(4,.p (eB v20))],[]⟩) ?_ ?_
  ·exact nx 2 Z (mQ (oi h0) Z (sr))
  refine fB [5] h1 Z (λ c8 h1=>?_) λ c8 h1=>?_
  ·refine fN (p:=y_1.fAction=0) [] h1 Z (λ c9 h1=>?_) λ c9 h1=>?_
   ·refine mD [(2,.ptr 2 0),(3,.ptr 3 0),(5,.p (eB true))] Z ⟨Z,Z,Z,trivial⟩ Z (dR 4 Z (dL (aE c9) Z (dR 10 Z ?_)))
    refine dE Z (nx 1 Z ?_)
    exact eX _ (oi h1).symm (gE Z Z)
   exact bd h1 λ r10 e11 h1=>bd h1 λ r12 e13 h1=>mD [(2,.ptr 2 0),(3,.ptr 3 0),(5,.p (eB true))] Z ⟨Z,Z,Z,trivial⟩ Z (dR 4 Z (dL (aR c9) Z (dR 6 Z (dq (.p (eS r10)) [26,30] Z (λ _ e _ q=>aX (bw (oe _ x_0.fAddr _ e11) Z Z Z (aO (e _ _ Z) bA) ⟨sr,trivial⟩ Tryz.call67 Z q) Z Z (e _ _ Z) (rfl)) Z (dq (.p (eB r12)) [26,28,31] Z (λ _ e _ q=>aX (bw (qO _ y_1.fOldDeps r10 _ e13) Z Z Z (aO (e _ _ Z) (aO (e _ _ Z) bA)) ⟨sr,sr,trivial⟩ Tryz.call66 Z q) Z Z (e _ _ Z) (rfl)) Z (dR 2 Z (dE Z (nx 1 Z (eX _ (oi h1).symm (gE Z Z))))))))))
  refine mD [(2,.ptr 2 0),(3,.ptr 3 0),(5,.p (eB false))] Z ⟨Z,Z,Z,trivial⟩ Z (dR 15 Z ?_)
  refine dE Z (nx 1 Z ?_)
  exact eX _ (oi h1).symm (gE Z Z)
 refine nx 5 Z (fD [14,15] h1 Z (λ c6 h1=>?_) λ c6 h1=>?_)
 ·exact nx 6 Z (eX _ (oi h1).symm (gE Z Z))
 exact nx 6 Z (eX _ (oi h1).symm (gE Z Z))
def ep (n:Nat)(targets_0:List Bytes)(l_1:List ab):Nat→Int→(List Bool)→Option (List Bool)
 | 0,_,_=>none
 | m+1,i10,l11 =>
 if i10 < (l_1.length:Int) then
  ck ((0:Int)≤i10∧i10 < (l_1.length:Int)) <|
  (ix n targets_0 ((lat l_1 i10).fAddr)).bind λ r14 =>
  ck ((0:Int)≤i10∧i10 < (l11.length:Int)) <|
  ck (inR (i10+1)) <|
  ep n targets_0 l_1 m (i10+1) (l11.set i10.toNat r14)
 else
  some l11
def en (n:Nat)(l_1:List ab)(i172:Int):Nat→Bool→Int→(List Bool)→Option (Bool×(List Bool))
 | 0,_,_,_=>none
 | m+1,more194,k195,l196 =>
 (
   if k195 < (l_1.length:Int) then
    ck ((0:Int)≤i172∧i172 < (l196.length:Int)) <|
    some (lat l196 i172)
   else
    some false
  : Option Bool).bind λ t199 =>
 if t199=true then
  (
    (
      ck ((0:Int)≤k195∧k195 < (l196.length:Int)) <|
      if (!(lat l196 k195))=true then
       ck ((0:Int)≤i172∧i172 < (l_1.length:Int)) <|
       ck ((0:Int)≤k195∧k195 < (l_1.length:Int)) <|
       (kD n (lat l_1 i172) (lat l_1 k195)).bind λ r205 =>
       some r205
      else
       some false
     : Option Bool).bind λ t207 =>
    if t207=true then
     ck ((0:Int)≤k195∧k195 < (l196.length:Int)) <|
     some (true,l196.set k195.toNat true)
    else
     some (more194,l196)
   : Option (Bool×(List Bool))).bind λ q253 =>
  ck (inR (k195+1)) <|
  en n l_1 i172 m q253.1 (k195+1) q253.2
 else
  some (more194,l196)
def ey (n:Nat)(l_1:List ab):Nat→Bool→Int→(List Bool)→Option (Bool×(List Bool))
 | 0,_,_,_=>none
 | m+1,more171,i172,l173 =>
 if i172 < (l_1.length:Int) then
  (en n l_1 i172 n more171 0 l173).bind λ q251 =>
  ck (inR (i172+1)) <|
  ey n l_1 m q251.1 (i172+1) q251.2
 else
  some (more171,l173)
def dz (n:Nat)(l_1:List ab):Nat→Bool→(List Bool)→Option (List Bool)
 | 0,_,_=>none
 | m+1,more122,l123 =>
 if more122=true then
  (ey n l_1 n false 0 l123).bind λ q250 =>
  dz n l_1 m q250.1 q250.2
 else
  some l123
def eA (l_1:List ab)(l226:List Bool):Nat→(List ab)→Int→Option (List ab)
 | 0,_,_=>none
 | m+1,out236,i237 =>
 if i237 < (l_1.length:Int) then
  (
    ck ((0:Int)≤i237∧i237 < (l226.length:Int)) <|
    if (lat l226 i237)=true then
     ck ((0:Int)≤i237∧i237 < (l_1.length:Int)) <|
     ck ((out236.length+[(lat l_1 i237)].length)*320≤140737488355328) <|
     some (out236++[(lat l_1 i237)])
    else
     some out236
   : Option (List ab)).bind λ out243 =>
  ck (inR (i237+1)) <|
  eA l_1 l226 m out243 (i237+1)
 else
  some out236
def j3 (n:Nat)(targets_0:List Bytes)(l_1:List ab):Option (List ab) :=
 ck ((0:Int)≤(l_1.length:Int)∧(l_1.length:Int)≤9223372036854775807∧(1:Int)*(l_1.length:Int)≤281474976710656) <|
 (ep n targets_0 l_1 n 0 (List.replicate (l_1.length:Int).toNat (false:Bool))).bind λ l20 =>
 (dz n l_1 n true l20).bind λ l226 =>
 (eA l_1 l226 n [] 0).bind λ out247 =>
 some out247
theorem sP (n:Nat)(targets_0:List Bytes)(l_1:List ab)(r:(List ab))(h0:j3 n targets_0 l_1=some r):aA Tryz.prog 24 [eL eS targets_0,eL ae l_1] (·=.p (eL ae r)):=by
 unfold j3 at h0
 refine ba good Tryz.func24 Z Z Z λ w0=>mP (λ v:(List ab)=>.p (eL ae v)) ?_
 refine nx 7 Z (oLl (f:=ae) Z Z (cc' h0 λ hk1 h0=>mO Z (wO eB (false:Bool) Z Z Z Z Z Z Z Z Z Z Z hk1 (nx 8 Z (bd h0 λ o257 h1 h0=>?_)))))
 refine kE 0 o257 (λ v258=>⟨[(1,.p (eL ae l_1)),(5,.arr 14 1 0 v258.length)],[(14,(v258.map eB).map .p)]⟩) ?_ ?_
 ·refine nx 7 Z (bd h0 λ o259 h1 h0=>?_)
  refine kE 2 o259 (λ v260=>⟨[(1,.p (eL ae l_1)),(5,.arr 14 1 0 v260.length)],[(14,(v260.map eB).map .p)]⟩) ?_ ?_
  ·refine nx 11 Z (bd h0 λ o261 h1 h0=>?_)
   refine kE 8 o261 (λ v262=>⟨[(10,.vec 85 22 0 (v262.map ae))],[]⟩) ?_ ?_
   ·exact nx 7 Z (mQ (oi h0) Z (AV.sub_vec _ _ _ _))
   refine lG (λ (q263:(List ab)×Int)=>⟨[(1,.p (eL ae l_1)),(5,.arr 14 1 0 o259.length),(10,.vec 85 22 0 (q263.1.map ae)),(11,.p (eI q263.2))],[(14,(o259.map eB).map .p)]⟩) (λ m (q263:(List ab)×Int)=>eA l_1 o259 m q263.1 q263.2) Y ([],0) h1 (aP (bm ⟨er Z,er Z,⟨_,Z,AV.sub_nilvec _ _ _⟩,er Z,trivial⟩ ⟨⟨_,Z,ah _⟩,trivial⟩)) ?_
   rintro m ⟨out236,i237⟩ h1
   replace h1:eA l_1 o259 (m+1) out236 i237=some o261:=h1
   rw [eA] at h1
   refine nx 5 Z (oLl (f:=ae) Z Z (nx 2 Z (fD [72] h1 Z (λ c238 h1=>?_) λ c238 h1=>?_)))
   ·refine nx 3 Z (bd h1 λ o264 h2 h1=>?_)
    refine kN o264 (λ v265=>⟨[(1,.p (eL ae l_1)),(5,.arr 14 1 0 o259.length),(10,.vec 85 22 0 (v265.map ae)),(11,.p (eI i237))],[(14,(o259.map eB).map .p)]⟩) ?_ ?_
    ·exact nx 3 Z (oA h1 Z Z λ hk244 h1=>nx 2 Z (eX (o264,i237+1) h1 (gE Z Z)))
    refine nx 5 Z (cc' h2 λ hk239 h2=>mO Z (aG Z Z Z Z Z Z Z Z Z hk239 (mO Z (bo (default:Bool) (f:=eB) (l:=o259) Z Z Z Z Z Z Z (by have:=hk239; omega) (nx 1 Z (fB [78] h2 Z (λ c240 h2=>?_) λ c240 h2=>?_))))))
    ·exact nx 5 Z (oE h2 ab.cells_eq Z Z Y λ hk241 h2=>nx 1 Z (mO Z (bs ae [(lat l_1 i237)] Z Z Z Z Z Z Z Z Z Z Z Z Z (by first | rfl | (simp only [List.map_cons,List.map_nil,ab.agg_eq]; done) | (simp only [List.map_cons,List.map_nil,ab.agg_eq]; rfl)) (cc' h2 λ hk242 h2=>mO Z (gB ae out236 [(lat l_1 i237)] Z Z Z Z Z Z Z Z Z Z Z Z Z (λ x=>congrArg List.length (ab.cells_eq x)) Z Z Z Z hk242 (mG (xe (show lY _ _=_ from (by repeat (first | exact iP _ | apply demOb_drop Z | apply dd Z (mB _ _) | apply dd Z Z)))) (nx 2 Z (eX _ (oi h2).symm (gE Z Z)))))))))
    exact nx 2 Z (eX _ (oi h2).symm (gE Z Z))
   exact nx 2 Z (eXi _ (oi h1).symm (gE Z Z))
  refine lG (λ (q266:Bool×(List Bool))=>⟨[(1,.p (eL ae l_1)),(5,.arr 14 1 0 q266.2.length),(7,.p (eB q266.1))],[(14,(q266.2.map eB).map .p)]⟩) (λ m (q266:Bool×(List Bool))=>dz n l_1 m q266.1 q266.2) Y (true,o257) h1 (aP (bm ⟨er Z,⟨_,Z,AV.sub_of_eq (by first | rfl | (simp; done) | (simp [AV.dem]; rfl))⟩,er Z,trivial⟩ ⟨⟨_,Z,ah _⟩,trivial⟩)) ?_
  rintro m ⟨more122,l123⟩ h1
  replace h1:dz n l_1 (m+1) more122 l123=some o259:=h1
  rw [dz] at h1
  refine nx 5 Z (fB [7,31] h1 Z (λ c124 h1=>?_) λ c124 h1=>?_)
  ·refine nx 12 Z (bd h1 λ o267 h2 h1=>?_)
   refine kE 4 o267 (λ v268=>⟨[(1,.p (eL ae l_1)),(5,.arr 14 1 0 v268.2.length),(7,.p (eB v268.1))],[(14,(v268.2.map eB).map .p)]⟩) ?_ ?_
   ·exact nx 1 Z (eX (o267.1,o267.2) h1 (aP (bm ⟨er Z,⟨_,Z,AV.sub_of_eq (by first | rfl | (simp; done) | (simp [AV.dem]; rfl))⟩,er Z,trivial⟩ ⟨⟨_,Z,ah _⟩,trivial⟩)))
   refine lG (λ (q269:Bool×Int×(List Bool))=>⟨[(1,.p (eL ae l_1)),(5,.arr 14 1 0 q269.2.2.length),(7,.p (eB q269.1)),(8,.p (eI q269.2.1))],[(14,(q269.2.2.map eB).map .p)]⟩) (λ m (q269:Bool×Int×(List Bool))=>ey n l_1 m q269.1 q269.2.1 q269.2.2) Y (false,0,l123) h2 (aP (bm ⟨er Z,⟨_,Z,AV.sub_of_eq (by first | rfl | (simp; done) | (simp [AV.dem]; rfl))⟩,er Z,er Z,trivial⟩ ⟨⟨_,Z,ah _⟩,trivial⟩)) ?_
   rintro m ⟨more171,i172,l173⟩ h2
   replace h2:ey n l_1 (m+1) more171 i172 l173=some o267:=h2
   rw [ey] at h2
   refine nx 5 Z (oLl (f:=ae) Z Z (nx 2 Z (fD [35] h2 Z (λ c174 h2=>?_) λ c174 h2=>?_)))
   ·refine nx 9 Z (bd h2 λ o270 h3 h2=>?_)
    refine kE 6 o270 (λ v271=>⟨[(1,.p (eL ae l_1)),(5,.arr 14 1 0 v271.2.length),(7,.p (eB v271.1)),(8,.p (eI i172))],[(14,(v271.2.map eB).map .p)]⟩) ?_ ?_
    ·exact nx 3 Z (oA h2 Z Z λ hk218 h2=>nx 2 Z (eX (o270.1,i172+1,o270.2) h2 (aP (bm ⟨er Z,⟨_,Z,AV.sub_of_eq (by first | rfl | (simp; done) | (simp [AV.dem]; rfl))⟩,er Z,er Z,trivial⟩ ⟨⟨_,Z,ah _⟩,trivial⟩))))
    refine lG (λ (q272:Bool×Int×(List Bool))=>⟨[(1,.p (eL ae l_1)),(5,.arr 14 1 0 q272.2.2.length),(7,.p (eB q272.1)),(8,.p (eI i172)),(9,.p (eI q272.2.1))],[(14,(q272.2.2.map eB).map .p)]⟩) (λ m (q272:Bool×Int×(List Bool))=>en n l_1 i172 m q272.1 q272.2.1 q272.2.2) Y (more171,0,l173) h3 (aP (bm ⟨er Z,⟨_,Z,AV.sub_of_eq (by first | rfl | (simp; done) | (simp [AV.dem]; rfl))⟩,er Z,er Z,er Z,trivial⟩ ⟨⟨_,Z,ah _⟩,trivial⟩)) ?_
    rintro m ⟨more194,k195,l196⟩ h3
    replace h3:en n l_1 i172 (m+1) more194 k195 l196=some o270:=h3
    rw [en] at h3
    refine nx 2 Z (bd h3 λ o273 h4 h3=>?_)
    refine kN o273 (λ v274=>⟨[(1,.p (eL ae l_1)),(5,.arr 14 1 0 l196.length),(7,.p (eB more194)),(8,.p (eI i172)),(9,.p (eI k195)),(47,.p (eB v274))],[(14,(l196.map eB).map .p)]⟩) ?_ ?_
    ·refine nx 1 Z (fB [47] h3 Z (λ c200 h3=>?_) λ c200 h3=>?_)
     ·refine nx 3 Z (bd h3 λ o275 h4 h3=>?_)
      refine kN o275 (λ v276=>⟨[(1,.p (eL ae l_1)),(5,.arr 14 1 0 v276.2.length),(7,.p (eB v276.1)),(8,.p (eI i172)),(9,.p (eI k195))],[(14,(v276.2.map eB).map .p)]⟩) ?_ ?_
      ·exact nx 3 Z (oA h3 Z Z λ hk212 h3=>nx 2 Z (eX (o275.1,k195+1,o275.2) h3 (aP (bm ⟨er Z,⟨_,Z,AV.sub_of_eq (by first | rfl | (simp; done) | (simp [AV.dem]; rfl))⟩,er Z,er Z,er Z,trivial⟩ ⟨⟨_,Z,ah _⟩,trivial⟩))))
      refine nx 2 Z (bd h4 λ o277 h5 h4=>?_)
      refine kN o277 (λ v278=>⟨[(1,.p (eL ae l_1)),(5,.arr 14 1 0 l196.length),(7,.p (eB more194)),(8,.p (eI i172)),(9,.p (eI k195)),(65,.p (eB v278))],[(14,(l196.map eB).map .p)]⟩) ?_ ?_
      ·refine nx 1 Z (fB [65] h4 Z (λ c208 h4=>?_) λ c208 h4=>?_)
       ·exact nx 5 Z (cc' h4 λ hk209 h4=>mO Z (aG Z Z Z Z Z Z Z Z Z hk209 (mO Z (bV (f:=eB) (l:=l196) (b:=true) Z Z Z Z Z Z Z Z (by have:=hk209; omega) (nx 4 Z (eX _ (oi h4).symm (aP (bm ⟨er Z,⟨_,Z,AV.sub_of_eq (by first | rfl | (simp; done) | (simp [AV.dem]; rfl))⟩,er Z,er Z,er Z,trivial⟩ ⟨⟨_,Z,ah _⟩,trivial⟩))))))))
       exact nx 2 Z (eX _ (oi h4).symm (aP (bm ⟨er Z,⟨_,Z,AV.sub_of_eq (by first | rfl | (simp; done) | (simp [AV.dem]; rfl))⟩,er Z,er Z,er Z,trivial⟩ ⟨⟨_,Z,ah _⟩,trivial⟩)))
      refine cc' h5 λ hk201 h5=>fB (p:=!(lat l196 k195)) [] h5 Z (λ c202 h5=>?_) λ c202 h5=>?_
      ·refine cc' h5 λ hk203 h5=>cc' h5 λ hk204 h5=>bd h5 λ r205 e206 h5=>mD [(1,.p (eL ae l_1)),(5,.arr 14 1 0 l196.length),(7,.p (eB more194)),(8,.p (eI i172)),(9,.p (eI k195))] Z ⟨Z,Z,Z,Z,Z,trivial⟩ Z (dR 2 Z (dq (.ptr 14 k195.toNat) [50,51] Z (λ _ e _ q=>av Z (aG Z Z Z Z Z Z (e _ _ Z) (e _ _ Z) Z hk201 q)) Z (dq (.p (eB (lat l196 k195))) [52] Z (λ _ e _ q=>av Z (bo (default:Bool) (f:=eB) (l:=l196) Z Z Z Z Z (e _ _ Z) Z (by have:=hk201; omega) q)) Z (dL (c202) Z (dR 3 Z (dq (.rptr (ab.cs (lat l_1 i172))) [55,56,57] Z (λ _ e _ q=>aX (ek (f:=ae) (l:=l_1) ab.cs Z Z Z Z Z Z (e _ _ Z) Z (e _ _ Z) hk203 ab.cells_eq Y q) Z Z (e _ _ Z) (rfl)) Z (dR 3 Z (dq (.rptr (ab.cs (lat l_1 k195))) [55,60,61] Z (λ _ e _ q=>aX (ek (f:=ae) (l:=l_1) ab.cs Z Z Z Z Z Z (e _ _ Z) Z (e _ _ Z) hk204 ab.cells_eq Y q) Z Z (e _ _ Z) (rfl)) Z (dR 1 Z (dq (.p (eB r205)) [55,59,63] Z (λ _ e _ q=>aX (bw (ua _ (lat l_1 i172) (lat l_1 k195) _ e206) Z Z Z (aO (e _ _ Z) (aO (e _ _ Z) bA)) ⟨sr,sr,trivial⟩ Tryz.call42 Z q) Z Z (e _ _ Z) (rfl)) Z (dR 1 Z ?_)))))))))))
       refine dE Z (nx 1 Z ?_)
       exact eX _ (oi h5).symm (gE Z Z)
      refine mD [(1,.p (eL ae l_1)),(5,.arr 14 1 0 l196.length),(7,.p (eB more194)),(8,.p (eI i172)),(9,.p (eI k195))] Z ⟨Z,Z,Z,Z,Z,trivial⟩ Z (dR 2 Z (dq (.ptr 14 k195.toNat) [50,51] Z (λ _ e _ q=>av Z (aG Z Z Z Z Z Z (e _ _ Z) (e _ _ Z) Z hk201 q)) Z (dq (.p (eB (lat l196 k195))) [52] Z (λ _ e _ q=>av Z (bo (default:Bool) (f:=eB) (l:=l196) Z Z Z Z Z (e _ _ Z) Z (by have:=hk201; omega) q)) Z (dL (c202) Z (dR 11 Z ?_)))))
      refine dE Z (nx 1 Z ?_)
      exact eX _ (oi h5).symm (gE Z Z)
     exact nx 2 Z (eXi _ (oi h3).symm (aP (bm ⟨er Z,⟨_,Z,AV.sub_of_eq (by first | rfl | (simp; done) | (simp [AV.dem]; rfl))⟩,er Z,er Z,trivial⟩ ⟨⟨_,Z,ah _⟩,trivial⟩)))
    refine nx 3 Z (oLl (f:=ae) Z Z (nx 2 Z (fD [41,42] h4 Z (λ c197 h4=>?_) λ c197 h4=>?_)))
    ·exact nx 2 Z (cc' h4 λ hk198 h4=>mO Z (aG Z Z Z Z Z Z Z Z Z hk198 (mO Z (bo (default:Bool) (f:=eB) (l:=l196) Z Z Z Z Z Z Z (by have:=hk198; omega) (nx 2 Z (eX _ (oi h4).symm (gE Z Z)))))))
    exact nx 6 Z (eX _ (oi h4).symm (gE Z Z))
   exact nx 2 Z (eXi _ (oi h2).symm (aP (bm ⟨er Z,⟨_,Z,AV.sub_of_eq (by first | rfl | (simp; done) | (simp [AV.dem]; rfl))⟩,er Z,trivial⟩ ⟨⟨_,Z,ah _⟩,trivial⟩)))
  exact nx 2 Z (eXi _ (oi h1).symm (aP (bm ⟨er Z,⟨_,Z,AV.sub_of_eq (by first | rfl | (simp; done) | (simp [AV.dem]; rfl))⟩,trivial⟩ ⟨⟨_,Z,ah _⟩,trivial⟩)))
 refine lG (λ (q279:Int×(List Bool))=>⟨[(0,.p (eL eS targets_0)),(1,.p (eL ae l_1)),(5,.arr 14 1 0 q279.2.length),(6,.p (eI q279.1))],[(14,(q279.2.map eB).map .p)]⟩) (λ m (q279:Int×(List Bool))=>ep n targets_0 l_1 m q279.1 q279.2) Y (0,List.replicate (l_1.length:Int).toNat (false:Bool)) h1 (aP (bm ⟨er Z,er Z,⟨_,Z,AV.sub_of_eq (by first | rfl | (simp; done) | (simp [AV.dem]; rfl))⟩,er Z,trivial⟩ ⟨⟨_,Z,ah _⟩,trivial⟩)) ?_
 rintro m ⟨i10,l11⟩ h1
 replace h1:ep n targets_0 l_1 (m+1) i10 l11=some o257:=h1
 rw [ep] at h1
 refine nx 5 Z (oLl (f:=ae) Z Z (nx 2 Z (fD [18] h1 Z (λ c12 h1=>?_) λ c12 h1=>?_)))
 ·exact nx 10 Z (oE h1 ab.cells_eq Z Z Y λ hk13 h1=>nx 2 Z (bd h1 λ r14 e15 h1=>oK (rb _ targets_0 ((lat l_1 i10).fAddr) _ e15) Z ⟨sr,sr,trivial⟩ Tryz.call16 Z (cc' h1 λ hk16 h1=>mO Z (aG Z Z Z Z Z Z Z Z Z hk16 (mO Z (bV (f:=eB) (l:=l11) (b:=r14) Z Z Z Z Z Z Z Z (by have:=hk16; omega) (nx 3 Z (oA h1 Z Z λ hk17 h1=>nx 2 Z (eX (i10+1,l11.set i10.toNat r14) h1 (aP (bm ⟨er Z,er Z,⟨_,Z,AV.sub_of_eq (by first | rfl | (simp; done) | (simp [AV.dem]; rfl))⟩,er Z,trivial⟩ ⟨⟨_,Z,ah _⟩,trivial⟩)))))))))))
 exact nx 2 Z (eXi _ (oi h1).symm (aP (bm ⟨er Z,⟨_,Z,AV.sub_of_eq (by first | rfl | (simp; done) | (simp [AV.dem]; rfl))⟩,trivial⟩ ⟨⟨_,Z,ah _⟩,trivial⟩)))
def gA (n:Nat)(targets_0:List Bytes)(l_1:List ab):Option Bool :=
 (mV n targets_0 l_1).bind λ r1 =>
 if (!r1)=true then
  (gn n).bind λ r4 =>
  some r4
 else
  (
    (dx n targets_0 l_1).bind λ r6 =>
    (j3 n targets_0 l_1).bind λ r8 =>
    (kG n r6 r8).bind λ r10 =>
    if r10=true then
     (gn n).bind λ r13 =>
     some r13
    else
     some false
   : Option Bool).bind λ t15 =>
  some t15
theorem nE (n:Nat)(targets_0:List Bytes)(l_1:List ab)(r:Bool)(h0:gA n targets_0 l_1=some r):aA Tryz.prog 6 [eL eS targets_0,eL ae l_1] (·=.p (eB r)):=by
 unfold gA at h0
 refine ba good Tryz.func6 Z Z Z λ w0=>mP (λ v:Bool=>.p (eB v)) ?_
 refine nx 9 Z (bd h0 λ r1 e2 h0=>oK (wP _ targets_0 l_1 _ e2) Z ⟨sr,sr,trivial⟩ Tryz.call14 Z (nx 2 Z ?_))
 refine fB [8] h0 Z (λ c3 h0=>?_) λ c3 h0=>?_
 ·exact nx 3 Z (bd h0 λ r4 e5 h0=>oK (oz _  _ e5) Z trivial Tryz.call13 Z (nx 3 Z (mQ (oi h0) Z (sr))))
 refine nx 3 Z (bd h0 λ o17 h1 h0=>?_)
 refine kN o17 (λ v18=>⟨[(4,.p (eB v18))],[]⟩) ?_ ?_
 ·exact nx 2 Z (mQ (oi h0) Z (sr))
 refine nx 3 Z (bd h1 λ r6 e7 h1=>oK (gQ _ targets_0 l_1 _ e7) Z ⟨sr,sr,trivial⟩ Tryz.call23 Z (nx 2 Z (bd h1 λ r8 e9 h1=>oK (sP _ targets_0 l_1 _ e9) Z ⟨sr,sr,trivial⟩ Tryz.call24 Z (bd h1 λ r10 e11 h1=>oK (tY _ r6 r8 _ e11) Z ⟨sr,sr,trivial⟩ Tryz.call22 Z (nx 1 Z ?_)))))
 refine fB [16,17] h1 Z (λ c12 h1=>?_) λ c12 h1=>?_
 ·exact bd h1 λ r13 e14 h1=>oK (oz _  _ e14) Z trivial Tryz.call13 Z (nx 3 Z (eX _ (oi h1).symm (gE Z Z)))
 exact nx 4 Z (eX _ (oi h1).symm (gE Z Z))
end Go.Ab.R06
end
section
namespace Go.Ab.R06
open Go.Ab Go.Ab.RB Go.Lib
theorem zX (l:List Bytes)(s:Bytes)(hb:l.length≤fv):∀ (k i:Nat),i+k=l.length→Ev2 (λ _ m=>gf l s m (i:Int)) (·=if s∈l.drop i then .inr true else .inl ()):=by
 have hW:=qP
 intro k
 induction k with
 | zero =>
  intro i hi
  refine aF ?_
  simp only [gf]
  exact ap O (aa (by rw [List.drop_of_length_le O]; simp))
 | succ k ih =>
  intro i hi
  have h1:i < l.length:=by omega
  refine aF ?_
  simp only [gf]
  refine ao O (af O ?_)
  rw [co _ _ h1,List.drop_eq_getElem_cons h1]
  refine aB (λ h=>aa (by rw [if_pos (by simp [h])])) (λ h=>af (aS O O) ?_)
  have:=ih (i+1) O
  rw [Int.natCast_add,Int.natCast_one] at this
  refine ed this λ r hr=>?_
  rw [hr]
  have hm:s∈l[i]::l.drop (i+1)↔s∈l.drop (i+1):=by
   rw [List.mem_cons]; exact ⟨λ q=>q.resolve_left λ e=>h e.symm,.inr⟩
  simp only [hm]
theorem vP (l:List Bytes)(s:Bytes)(hb:l.length≤fv):Ev2 (λ n _=>lH n l s) (·=decide (s∈l)):=by
 simp only [lH]
 have l1:=zX l s hb l.length 0 O
 rw [List.drop_zero] at l1
 by_cases h:s∈l
 ·rw [if_pos h] at l1
  exact gw true (aY l1) (by simp [h])
 ·rw [if_neg h] at l1
  exact gH () (aY l1) (aa (by simp [h]))
theorem BD (x y:ab)(bx:ab.Bd x)(bY:ab.Bd y)(hx:x.fAddr.length≤300)(hy:y.fAddr.length≤300):Ev2 (λ n _=>kD n x y) (·=ndP x y):=by
 have d1:=bx.bDeps
 have d2:=bY.bOldDeps
 have st:∀ c:ab,c.fAddr.length≤300→Ev2 (λ n _=>iK n c.fAddr) (·=lh c):=by
  intro c hc
  simp only [iK]
  exact cy _ (uk c.fAddr O) (aa Z)
 simp only [kD]
 unfold ndP
 refine cy _ (st y hy) (cy _ (vP _ _ O) ?_)
 refine aB (λ h=>aa (by rw [h]; rfl)) (λ h=>?_)
 rw [Bool.eq_false_iff.2 h,Bool.false_or]
 refine cy (wR x) (aB (λ h=>aa (by unfold wR; rw [decide_eq_true h]; rfl)) (λ h=>aa (by unfold wR; rw [decide_eq_false h]; rfl))) (cy (wR x&&!decide (y.fAction=0)&&decide (lh x∈y.fOldDeps)) ?_ (aa Z))
 cases wR x
 ·exact ap (by decide) (aa Z)
 ·refine ao Z (aB (λ h=>aa (by rw [decide_eq_true h]; rfl)) (λ h=>cy _ (st x hx) (cy _ (vP _ _ O) (aa ?_))))
  rw [decide_eq_false h]; rfl
structure Rd (l:List ab)(sel:Bytes→Bool)(P:List Bool→Prop)(b:Bool)(ch:List Bool)(r:Bool×List Bool):Prop where
 len:r.2.length=ch.length
 mono:∀ q,on ch q=true→on r.2 q=true
 snd:(∀ q,on ch q=true→mC l sel q)→∀ q,on r.2 q=true→mC l sel q
 cnt:r.2.count false≤ch.count false
 no:r.1=false→b=false∧r.2=ch∧P ch
 yes:r.1=true→b=true∨r.2.count false+1≤ch.count false
def cl6 (l:List ab)(i k:Nat)(ch:List Bool):Prop:=on ch i=true→∀ q,k≤q→q < l.length→ndP (cat l i) (cat l q)=true→on ch q=true
theorem F2 (l:List ab)(sel:Bytes→Bool)(hn:l.length≤1000)(hB:∀ c∈l,ab.Bd c)(hA:∀ c∈l,c.fAddr.length≤300)(i:Nat)(hi:i < l.length):∀ (j k:Nat) (b:Bool) (ch:List Bool),k+j=l.length→ch.length=l.length→Ev2 (λ n m=>en n l (i:Int) m b (k:Int) ch) (Rd l sel (cl6 l i k) b ch):=by
 intro j
 induction j with
 | zero =>
  intro k b ch hk hc
  refine aF ?_
  simp only [en]
  refine cy false (ap O (aa Z)) (ap (by decide) (aa ⟨Z,λ q h=>h,λ h=>h,Nat.le_refl _,λ h=>⟨h,Z,λ _ q h1 h2=>by omega⟩,λ h=>.inl h⟩))
 | succ j ih =>
  intro k b ch hk hc
  have h1:k < l.length:=by omega
  refine aF ?_
  simp only [en]
  refine cy (on ch i) (ao O (af O (by rw [co ch i O,uh]; exact aa Z))) ?_
  cases hoi:on ch i
  ·exact ap (by decide) (aa ⟨rfl,λ q h=>h,λ h=>h,Nat.le_refl _,λ h=>⟨h,rfl,λ h2=>by rw [hoi] at h2; cases h2⟩,λ h=>.inl h⟩)
  ·refine ao Z ?_
   have bi:=hB _ (gC l i hi ▸ List.getElem_mem hi)
   have bk:=hB _ (gC l k h1 ▸ List.getElem_mem h1)
   have ai:=hA _ (gC l i hi ▸ List.getElem_mem hi)
   have ak:=hA _ (gC l k h1 ▸ List.getElem_mem h1)
   refine cy (if (!(on ch k)&&ndP (cat l i) (cat l k))=true then (true,ch.set k true) else (b,ch)) ?_ ?_
   ·refine cy (!(on ch k)&&ndP (cat l i) (cat l k)) (af O ?_) ?_
    ·rw [co ch k O,uh]
     cases on ch k
     ·refine ao Z (af O (af O ?_))
      rw [co l i hi,co l k h1,gC l i hi,gC l k h1]
      exact cy _ (BD _ _ bi bk ai ak) (aa Z)
     ·exact ap (by decide) (aa Z)
    ·exact aB (λ h=>af O (aa (by rw [if_pos h]; rfl))) (λ h=>aa (by rw [if_neg h]))
   ·refine af (aS O O) ?_
    by_cases hq:(!(on ch k)&&ndP (cat l i) (cat l k))=true
    ·simp only [if_pos hq]
     rw [Bool.and_eq_true,Bool.not_eq_true'] at hq
     have:=ih (k+1) true (ch.set k true) O (by rw [List.length_set]; exact hc)
     rw [Int.natCast_add,Int.natCast_one] at this
     have hcnt:=wU ch k O hq.1
     refine ed this λ r hr=>⟨by rw [hr.len,List.length_set],λ q h=>hr.mono q (by rw [wm _ _ _ O,h,Bool.or_true]),λ hs=>hr.snd λ q h=>?_,(by have:=hr.cnt; omega),λ h=>(by have:=(hr.no h).1; cases this),λ h=>.inr (by have:=hr.cnt; omega)⟩
     rw [wm _ _ _ O,Bool.or_eq_true,decide_eq_true_eq] at h
     rcases h with h | h
     ·subst h; exact .step (hs i hoi) h1 hq.2
     ·exact hs q h
    ·simp only [if_neg hq]
     have:=ih (k+1) b ch O hc
     rw [Int.natCast_add,Int.natCast_one] at this
     refine ed this λ r hr=>⟨hr.len,hr.mono,hr.snd,hr.cnt,λ h=>?_,hr.yes⟩
     obtain ⟨a1,a2,a3⟩:=hr.no h
     refine ⟨a1,a2,λ h2 q h3 h4 h5=>?_⟩
     by_cases e:q=k
     ·subst e
      cases ho:on ch q
      ·rw [ho,h5] at hq; exact absurd rfl hq
      ·rfl
     ·exact a3 h2 q O h4 h5
def cl7 (l:List ab)(i:Nat)(ch:List Bool):Prop:=∀ p,i≤p→p < l.length→cl6 l p 0 ch
theorem Ey (l:List ab)(sel:Bytes→Bool)(hn:l.length≤1000)(hB:∀ c∈l,ab.Bd c)(hA:∀ c∈l,c.fAddr.length≤300):∀ (j i:Nat) (b:Bool) (ch:List Bool),i+j=l.length→ch.length=l.length→Ev2 (λ n m=>ey n l m b (i:Int) ch) (Rd l sel (cl7 l i) b ch):=by
 intro j
 induction j with
 | zero =>
  intro i b ch hi hc
  refine aF ?_
  simp only [ey]
  exact ap O (aa ⟨Z,λ q h=>h,λ h=>h,Nat.le_refl _,λ h=>⟨h,Z,λ p h1 h2=>by omega⟩,λ h=>.inl h⟩)
 | succ j ih =>
  intro i b ch hi hc
  have h1:i < l.length:=by omega
  refine aF ?_
  simp only [ey]
  refine ao O (gZ _ (aY (F2 l sel hn hB hA i h1 l.length 0 b ch O hc)) (λ r hr=>af (aS O O) ?_))
  have:=ih (i+1) r.1 r.2 O (hr.len.trans hc)
  rw [Int.natCast_add,Int.natCast_one] at this
  refine ed this λ s hs=>⟨hs.len.trans hr.len,λ q h=>hs.mono q (hr.mono q h),λ h=>hs.snd (hr.snd h),Nat.le_trans hs.cnt hr.cnt,λ h=>?_,λ h=>?_⟩
  ·obtain ⟨a1,a2,a3⟩:=hs.no h
   obtain ⟨c1,c2,c3⟩:=hr.no a1
   rw [c2] at a2 a3
   refine ⟨c1,a2,λ p h2 h3=>?_⟩
   by_cases e:p=i
   ·subst e; exact c3
   ·exact a3 p O h3
  ·rcases hs.yes h with h2 | h2
   ·rcases hr.yes h2 with h3 | h3
    ·exact .inl h3
    ·exact .inr (by have:=hs.cnt; omega)
   ·exact .inr (by have:=hr.cnt; omega)
theorem F9 (l:List ab)(sel:Bytes→Bool)(hn:l.length≤1000)(hB:∀ c∈l,ab.Bd c)(hA:∀ c∈l,c.fAddr.length≤300):∀ (c:Nat) (ch:List Bool),ch.count false≤c→ch.length=l.length→(∀ q,on ch q=true→mC l sel q)→(∀ q,q < l.length→sel (cat l q).fAddr=true→on ch q=true)→Ev2 (λ n m=>dz n l m true ch) (λ r=>r.length=l.length∧∀ q,on r q=true↔mC l sel q):=by
 have fin:∀ (ch:List Bool) (r:Bool×List Bool),ch.length=l.length→(∀ q,on ch q=true→mC l sel q)→(∀ q,q < l.length→sel (cat l q).fAddr=true→on ch q=true)→Rd l sel (cl7 l 0) false ch r→r.1=false→Ev2 (λ n m=>dz n l m r.1 r.2) (λ r=>r.length=l.length∧∀ q,on r q=true↔mC l sel q):=by
  intro ch r hc hs hb hr h0
  obtain ⟨a1,a2,a3⟩:=hr.no h0
  rw [h0,a2]
  refine aF ?_
  simp only [dz]
  refine ap (by decide) (aa ⟨hc,λ q=>⟨hs q,λ hk=>?_⟩⟩)
  unfold mC at hk
  induction hk with
  | base hk h=>exact hb _ hk h
  | step hp hk hnd ih=>exact a3 _ (Nat.zero_le _) hp.lt ih _ (Nat.zero_le _) hk hnd
 intro c
 induction c with
 | zero =>
  intro ch hcn hc hs hb
  refine aF ?_
  simp only [dz]
  refine ao (by trivial) (gZ _ (aY (Ey l sel hn hB hA l.length 0 false ch O hc)) (λ r hr=>?_))
  cases h:r.1
  ·have:=fin ch r hc hs hb hr h
   rw [h] at this; exact this
  ·rcases hr.yes h with h2 | h2
   ·cases h2
   ·omega
 | succ c ih =>
  intro ch hcn hc hs hb
  refine aF ?_
  simp only [dz]
  refine ao (by trivial) (gZ _ (aY (Ey l sel hn hB hA l.length 0 false ch O hc)) (λ r hr=>?_))
  cases h:r.1
  ·have:=fin ch r hc hs hb hr h
   rw [h] at this; exact this
  ·rcases hr.yes h with h2 | h2
   ·cases h2
   ·exact ih r.2 O (hr.len.trans hc) (hr.snd hs) (λ q h3 h4=>hr.mono q (hb q h3 h4))
theorem FN (t:List Bytes)(l:List ab)(ht:t.length≤65536)(hts:∀ p∈t,p.length≤65536)(hn:l.length≤1000)(hA:∀ c∈l,c.fAddr.length≤300):∀ (k i:Nat) (ch:List Bool),i+k=l.length→ch.length=l.length→Ev2 (λ n m=>ep n t l m (i:Int) ch) (λ r=>r.length=l.length∧(∀ q,q < i→on r q=on ch q)∧∀ q,i≤q→q < l.length→on r q=lW t (cat l q).fAddr):=by
 intro k
 induction k with
 | zero =>
  intro i ch hi hc
  refine aF ?_
  simp only [ep]
  exact ap O (aa ⟨hc,λ q h=>rfl,λ q h1 h2=>by omega⟩)
 | succ k ih =>
  intro i ch hi hc
  have h1:i < l.length:=by omega
  refine aF ?_
  simp only [ep]
  refine ao O (af O ?_)
  rw [co _ _ h1]
  refine cy _ (wD t _ ht hts (hA _ (List.getElem_mem h1))) (af O (af (aS O O) ?_))
  have hset:∀ q,on (ch.set i (lW t l[i].fAddr)) q=if q=i then lW t l[i].fAddr else on ch q:=by
   intro q
   unfold on
   rw [List.getD_eq_getElem?_getD,List.getD_eq_getElem?_getD,List.getElem?_set]
   by_cases e:i=q
   ·subst e; simp [show i < ch.length by omega]
   ·rw [if_neg e,if_neg (λ h=>e h.symm)]
  have:=ih (i+1) (ch.set (i:Int).toNat (lW t l[i].fAddr)) O (by rw [List.length_set]; exact hc)
  rw [Int.natCast_add,Int.natCast_one] at this
  refine ed this λ r hr=>⟨hr.1,λ q h=>?_,λ q h2 h3=>?_⟩
  ·rw [hr.2.1 q O,Int.toNat_natCast,hset,if_neg O]
  ·by_cases e:q=i
   ·subst e
    rw [hr.2.1 q O,Int.toNat_natCast,hset,if_pos rfl,gC l q h1]
   ·exact hr.2.2 q O h3
theorem F1 (l:List ab)(ch:List Bool)(hn:l.length≤1000)(hc:ch.length=l.length):∀ (k i:Nat) (out:List ab),i+k=l.length→out.length≤i→Ev2 (λ _ m=>eA l ch m out (i:Int)) (·=out++((List.range' i k).filter λ k=>on ch k).map (cat l)):=by
 intro k
 induction k with
 | zero =>
  intro i out hi ho
  refine aF ?_
  simp only [eA]
  exact ap O (aa G)
 | succ k ih =>
  intro i out hi ho
  have h1:i < l.length:=by omega
  refine aF ?_
  simp only [eA]
  refine ao O ?_
  rw [co _ _ h1,co ch i O,uh,List.range'_succ,List.filter_cons]
  refine cy (out++if on ch i=true then [cat l i] else []) ?_ ?_
  ·refine af O ?_
   cases on ch i
   ·exact ap (by decide) (aa G)
   ·refine ao Z (af O (af (by simp only [List.length_cons,List.length_nil]; omega) (aa ?_)))
    rw [gC l i h1]; rfl
  ·refine af (aS O O) ?_
   have:=ih (i+1) (out++if on ch i=true then [cat l i] else []) O (by
    rw [List.length_append]
    split <;> simp <;> omega)
   rw [Int.natCast_add,Int.natCast_one] at this
   refine ed this λ r hr=>?_
   rw [hr]
   cases on ch i <;> simp
theorem yn (t:List Bytes)(l:List ab)(ht:t.length≤65536)(hts:∀ p∈t,p.length≤65536)(hn:l.length≤1000)(hB:∀ c∈l,ab.Bd c)(hA:∀ c∈l,c.fAddr.length≤300) :
  Ev2 (λ n _=>j3 n t l) (λ r=>∃ ch:List Bool,ch.length=l.length∧(∀ k,on ch k=true↔mC l (lW t) k)∧r=oY l ch):=by
 simp only [j3]
 refine af O ?_
 refine gZ _ (aY (FN t l ht hts hn hA l.length 0 (List.replicate (l.length:Int).toNat false) O G)) (λ c0 h0=>?_)
 have hlt:∀ q,on c0 q=true→q < l.length:=by
  intro q h
  by_cases e:q < l.length
  ·exact e
  ·unfold on at h
   rw [List.getD_eq_getElem?_getD,List.getElem?_eq_none O] at h
   cases h
 refine gZ _ (aY (F9 l (lW t) hn hB hA c0.length c0 (List.count_le_length ..) h0.1 (λ q h=>.base (hlt q h) (by rw [← h0.2.2 q (Nat.zero_le _) (hlt q h)]; exact h)) (λ q h1 h2=>by rw [h0.2.2 q (Nat.zero_le _) h1]; exact h2))) (λ ch hr=>?_)
 exact cy _ (aY (F1 l ch hn hr.1 l.length 0 [] O (Nat.le_refl _))) (aa ⟨ch,hr.1,hr.2,Z⟩)
theorem C1 (l:List ab)(c d:List Bool)(h:∀ k,on c k=true↔on d k=true):oY l c=oY l d:=by
 have e:(λ k=>on c k)=λ k=>on d k:=by
  funext k
  have:=h k
  cases hc:on c k <;> cases hd:on d k <;> simp [hc,hd] at this ⊢
 unfold oY; rw [e]
theorem x4 (t:List Bytes)(l:List ab)(ht:t.length≤fv)(hB:∀ c∈l,ab.Bd c):Ev2 (λ n _=>gA n t l) (·=true):=by
 simp only [gA]
 refine cy _ (E8 t l ht hB) ?_
 cases hq:Cz t l
 ·exact ao Z (cy _ xI (aa Z))
 ·obtain ⟨f1,f2,f3,f4⟩:=zU hq
  refine ap (by decide) (cy true ?_ (aa Z))
  refine gZ _ (z1 t l O (λ p hp=>by have:=f2 p hp; omega) O hB f4) (λ a ha=>?_)
  refine gZ _ (yn t l O (λ p hp=>by have:=f2 p hp; omega) O hB f4) (λ b hb=>?_)
  obtain ⟨ca,_,a2,rfl⟩:=ha
  obtain ⟨cb,_,b2,rfl⟩:=hb
  have la:=Bt l ca
  refine cy _ (E6 (oY l ca) (oY l cb) O (λ c hc=>hB c (Bw hc))) ?_
  rw [C1 l cb ca (λ k=>by rw [a2 k,b2 k]),vJ]
  exact ao Z (cy _ xI (aa Z))
end Go.Ab.R06
end
