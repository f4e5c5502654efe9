/- Texts of the proof, one behind the other. No statement is proved here. -/
import Derived.Test.YtihghalcmfpnaaaGreatDoorCards
import Derived.Test.YtihghalcmfpnaaaGreatDoorTie
import Derived.WalkKit
import Derived.SizedLaws
import Derived.ProofKit
import Derived.OpenShut
import Derived.ShutString
import Derived.LaidMore
import Derived.Stop.Joined
import Derived.Deep.DeepHandedRow
import Derived.Deep.DeepWitnessRowRef
import Derived.Test.YtihghalcmfpnaaaGreatDoorZ14Ra
import Derived.Test.YtihghalcmfpnaaaGreatDoorZ14Rb
import Derived.Test.YtihghalcmfpnaaaGreatDoorZ14Rc
import Derived.Test.YtihghalcmfpnaaaGreatDoorZ14Rd
import Derived.Test.YtihghalcmfpnaaaGreatDoorZ14Re
import Derived.Test.YtihghalcmfpnaaaGreatDoorZ14Rf
section
namespace Go.Ab.R06
open Go.Ab Go.Ab.RB Go.Lib
def apP (z z':Int×Bytes):Bool:=(d8 (ad.mk z.1 z.2 0) (ad.mk z'.1 z'.2 0)).getD false
theorem yR (a b:ad):∃ v,d8 a b=some v:=by
 unfold d8 strings_HasPrefix strings_Contains
 repeat' (first | exact ⟨_,Z⟩ | refine qt ?_ (λ _=>?_) | refine xB O ?_ | refine ug (λ _=>?_) (λ _=>?_))
theorem apart_eq (a b:ad):d8 a b=some (apP (a.fKind,a.fText) (b.fKind,b.fText)):=by
 have e:d8 (ad.mk a.fKind a.fText 0) (ad.mk b.fKind b.fText 0)=d8 a b:=rfl
 obtain ⟨v,hv⟩:=yR a b
 unfold apP
 rw [e,hv]; rfl
def spP (z z':Int×Bytes):Bytes:=if apP z z' then [32] else []
def kt (z:Tk):Int×Bytes:=(z.1,z.2.1)
def wdP (z:Tk):Bytes:=Wd z.1 z.2.1
def pU:Tk→List Tk→Bytes
 | _,[]=>[]
 | p,z::r=>spP (kt p) (kt z)++(wdP z++pU z r)
def ij:List Tk→Bytes
 | []=>[]
 | p::r=>wdP p++pU p r
theorem ap1 (t t':Bytes)(c:Int):apP (1,t) (c,t')=(decide (c=1)||decide (c=2)):=by
 unfold apP d8
 by_cases h:c=1 <;> simp [h]
theorem ap2 (t t':Bytes)(c:Int):apP (2,t) (c,t')=decide (c=2):=by
 unfold apP d8
 simp
theorem ap4 (t t':Bytes)(c:Int)(h:c≠4):apP (4,t) (c,t')=false:=by
 unfold apP d8
 simp [h]
theorem BE:sgL.all (λ t=>sgL.all (λ u=>decide (d9 (t++(if apP (4,t) (4,u) then [32] else u.take 1))=t)))=true:=by decide +kernel
theorem DO:sgL.all (λ t=>decide (d9 (t++[])=t)&&(List.range 256).all (λ n=>!(ji (UInt8.ofNat n)||eq (UInt8.ofNat n)||decide (n=34)||decide (n=10))||decide (d9 (t++[UInt8.ofNat n])=t)))=true:=by decide +kernel
theorem ov {c:Int}{t:Bytes}(h:WOK c t)(h6:c≠6):∃ a w,Wd c t=a::w∧eg a=false∧a.toNat≠35∧(c=1→ji a=true)∧(c=2→eq a=true)∧(c=4→sg1 a=true∧t.take 1=[a]∧t∈sgL)∧(c≠4→(ji a||eq a||decide (a.toNat=34)||decide (a.toNat=10))=true)∧(c≠1→ji a=false)∧(c≠1→c≠2→eq a=false):=by
 rcases h with ⟨h1,_⟩ | ⟨rfl,a,w,rfl,hl⟩ | ⟨rfl,a,w,rfl,hd⟩ | rfl | ⟨rfl,hm⟩ | ⟨rfl,rfl⟩
 ·exact absurd h1 h6
 ·have hn:=E9 hl
  exact ⟨a,w,rfl,hn.2.2.2,hn.2.2.1,λ _=>hl,λ h=>(by cases h),λ h=>(by cases h),λ _=>by rw [hl]; rfl,λ h=>absurd rfl h,λ h=>absurd rfl h⟩
 ·have hn:=Et hd
  exact ⟨a,w,rfl,hn.2.2.2.1,hn.2.2.1,λ h=>(by cases h),λ _=>hd,λ h=>(by cases h),λ _=>by rw [hd]; simp,λ _=>hn.2.2.2.2,λ _ h=>absurd rfl h⟩
 ·exact ⟨34,t++[34],rfl,by decide,by decide,λ h=>(by cases h),λ h=>(by cases h),λ h=>(by cases h),λ _=>by decide,λ _=>by decide,λ _ _=>by decide⟩
 ·obtain ⟨a,w,rfl,ha⟩:=mz hm
  obtain ⟨a1,a2,a3,a4,a5,a6⟩:=zU ha
  exact ⟨a,w,rfl,a5,a6,λ h=>(by cases h),λ h=>(by cases h),λ _=>⟨ha,rfl,hm⟩,λ h=>absurd rfl h,λ _=>a1,λ _ _=>a2⟩
 ·exact ⟨10,[],rfl,by decide,by decide,λ h=>(by cases h),λ h=>(by cases h),λ h=>(by cases h),λ _=>by decide,λ _=>by decide,λ _ _=>by decide⟩
theorem zh {c c':Int}{t t' rest X:Bytes}(h:WOK c t)(h':WOK c' t')(hr:c'=6→rest=[])(hX:X=spP (c,t) (c',t')++(Wd c' t'++rest)) :
  (c=1→∀ z∈X.head?,idB z=false)∧(c=2→∀ z∈X.head?,eq z=false)∧(c=4→d9 (t++X)=t):=by
 have h6e:c'=6→t'=[]:=by
  intro h6
  rcases h' with ⟨_,h⟩ | ⟨h,_⟩ | ⟨h,_⟩ | h | ⟨h,_⟩ | ⟨h,_⟩
  ·exact h
  all_goals omega
 refine ⟨λ hc z hz=>?_,λ hc z hz=>?_,λ hc=>?_⟩
 ·subst hc
  by_cases h12:c'=1∨c'=2
  ·have:spP (1,t) (c',t')=[32]:=by unfold spP; rw [ap1,if_pos (by simpa using h12)]
   rw [hX,this] at hz
   cases hz
   decide
  ·have:spP (1,t) (c',t')=[]:=by unfold spP; rw [ap1,if_neg (by simpa using h12)]
   rw [hX,this,List.nil_append] at hz
   by_cases h6:c'=6
   ·rw [h6e h6,hr h6,h6] at hz
    cases hz
   ·obtain ⟨a,w,e,_,_,_,_,_,_,k1,k2⟩:=ov h' h6
    rw [e] at hz
    cases hz
    unfold idB
    rw [k1 O,k2 O O]; rfl
 ·subst hc
  by_cases h12:c'=2
  ·have:spP (2,t) (c',t')=[32]:=by unfold spP; rw [ap2,if_pos (by simpa using h12)]
   rw [hX,this] at hz
   cases hz
   decide
  ·have:spP (2,t) (c',t')=[]:=by unfold spP; rw [ap2,if_neg (by simpa using h12)]
   rw [hX,this,List.nil_append] at hz
   by_cases h6:c'=6
   ·rw [h6e h6,hr h6,h6] at hz
    cases hz
   ·obtain ⟨a,w,e,_,_,k0,_,_,_,k1,k2⟩:=ov h' h6
    rw [e] at hz
    cases hz
    by_cases h1:c'=1
    ·exact xo (k0 h1)
    ·exact k2 h1 h12
 ·subst hc
  have hm:t∈sgL:=by
   rcases h with ⟨h,_⟩ | ⟨h,_⟩ | ⟨h,_⟩ | h | ⟨_,h⟩ | ⟨h,_⟩
   ·omega
   ·omega
   ·omega
   ·omega
   ·exact h
   ·omega
  have ht:t≠[]:=by obtain ⟨a,w,e,_⟩:=mz hm; rw [e]; simp
  by_cases h4:c'=4
  ·subst h4
   obtain ⟨a,w,e,_,_,_,_,k,_⟩:=ov h' (by decide)
   obtain ⟨_,k2,k3⟩:=k rfl
   have hp:=of_decide_eq_true (List.all_eq_true.1 (List.all_eq_true.1 BE t hm) t' k3)
   have:X.head? = (if apP (4,t) (4,t') then [32] else t'.take 1).head?:=by
    rw [hX]
    unfold spP
    cases apP (4,t) (4,t')
    ·rw [if_neg G,if_neg G,k2,e]; rfl
    ·rfl
   exact (tE ht this).trans hp
  ·have:spP (4,t) (c',t')=[]:=by unfold spP; rw [ap4 _ _ _ h4,if_neg G]
   rw [this,List.nil_append] at hX
   have hp:=List.all_eq_true.1 DO t hm
   rw [Bool.and_eq_true] at hp
   by_cases h6:c'=6
   ·rw [h6e h6,hr h6,h6] at hX
    rw [show X=[] from hX]
    exact of_decide_eq_true hp.1
   ·obtain ⟨a,w,e,_,_,_,_,_,k,_⟩:=ov h' h6
    have hq:=List.all_eq_true.1 hp.2 a.toNat (List.mem_range.2 (UInt8.toNat_lt a))
    rw [UInt8.ofNat_toNat,k h4] at hq
    have hq:d9 (t++[a])=t:=by simpa using hq
    rw [tE ht (show X.head? = [a].head? by rw [hX,e]; rfl),hq]
theorem Dr {a:UInt8}{w:Bytes}(h1:eg a=false)(h2:a.toNat≠35):d7 true (a::w)=a::w:=by
 unfold d7
 rw [List.dropWhile_cons,if_neg (by simp [h1])]
 simp [h2]
def xW (z z':Tk):Prop:=z'.1=z.1∧z'.2.1=z.2.1
theorem sd:∀ (f c:Nat) (l:Bytes) (ts:List Tk),fF f c l=.inr ts→(∃ z r,ts=z::r∧WOK z.1 z.2.1∧(z.1=6→r=[]))∧(ij ts).length≤2*l.length∧∀ g,f≤g→∃ ts',F2 xW ts ts'∧fF g c (ij ts)=.inr ts'∧fF g c (32::ij ts)=.inr ts'
 | 0,c,l,ts,h=>by rw [fF] at h; cases h
 | f+1,c,l,ts,h=>by
  have red:((∃ z r,ts=z::r∧WOK z.1 z.2.1∧(z.1=6→r=[]))∧(ij ts).length≤2*l.length∧∀ g,f+1≤g→∃ ts',F2 xW ts ts'∧fF g c (ij ts)=.inr ts')→(∃ z r,ts=z::r∧WOK z.1 z.2.1∧(z.1=6→r=[]))∧(ij ts).length≤2*l.length∧∀ g,f+1≤g→∃ ts',F2 xW ts ts'∧fF g c (ij ts)=.inr ts'∧fF g c (32::ij ts)=.inr ts':=by
   rintro ⟨h1,h2,h3⟩
   refine ⟨h1,h2,λ g hg=>?_⟩
   obtain ⟨ts',k1,k2⟩:=h3 g hg
   refine ⟨ts',k1,k2,?_⟩
   obtain ⟨g,rfl⟩:∃ g',g=g'+1:=⟨g - 1,by omega⟩
   rw [gI] at k2 ⊢
   rw [show 32::ij ts=List.replicate 1 32++ij ts from rfl,wF]
   exact k2
  refine red ?_
  rw [gI] at h
  have hk:=od true l
  cases hsk:d7 true l with
  | nil =>
   rw [hsk,jS] at h
   split at h
   ·cases h
   ·rename_i hc
    cases h
    refine ⟨⟨_,_,Z,.inl ⟨Z,Z⟩,λ _=>rfl⟩,Nat.zero_le _,λ g hg=>?_⟩
    obtain ⟨g,rfl⟩:∃ g',g=g'+1:=⟨g - 1,by omega⟩
    refine ⟨[(6,[],0)],.cons ⟨Z,Z⟩ .nil,?_⟩
    rw [gI,show d7 true (ij [(6,[],0)])=[] from rfl,jS,if_neg hc]
  | cons b r =>
   rw [hsk] at hk
   rw [hsk,jk] at h
   split at h
   ·cases h
   split at h
   ·cases h
   rename_i hbeg hc
   cases ht:gG (ef f 0) (b::r) with
   | inl e'=>rw [ht] at h; cases h
   | inr z =>
    obtain ⟨k,t,l'⟩:=z
    obtain ⟨w1,w2,w3,w4,w5⟩:=sb (λ y hy=>by obtain ⟨p,hp,_⟩:=(uo f).1 _ _ _ hy; exact ⟨p,hp⟩) ht
    rw [ht,jR] at h
    cases hs:fF f (c+1) l' with
    | inl e'=>rw [hs] at h; cases h
    | inr ts1 =>
     rw [hs] at h; cases h
     obtain ⟨⟨z',r',rfl,wz,w6⟩,hlen,hg⟩:=sd f (c+1) l' ts1 hs
     obtain ⟨a,w,ea,a1,a2,a3,a4,a5,a6,_⟩:=ov w3 w4
     have hsp:(spP (k,t) (kt z')).length≤1:=by unfold spP; split <;> simp
     have hwl:(b::r).length=(Wd k t).length+l'.length:=by rw [w1,List.length_append]
     have hw1:1≤(Wd k t).length:=by rw [ea]; simp
     have efm:ij ((k,t,(b::r).length)::z'::r')=Wd k t++(spP (k,t) (kt z')++ij (z'::r')):=rfl
     refine ⟨⟨_,_,Z,w3,λ h=>absurd h w4⟩,by rw [efm,List.length_append,List.length_append]; omega,λ g hg'=>?_⟩
     obtain ⟨g,rfl⟩:∃ g',g=g'+1:=⟨g - 1,by omega⟩
     obtain ⟨ts1',f2,e1,e2⟩:=hg g O
     rw [efm]
     have fn:=zh (rest:=pU z' r') w3 wz (λ h=>by rw [w6 h]; rfl) (X:=spP (k,t) (kt z')++ij (z'::r')) Z
     have eX:fF g (c+1) (spP (k,t) (kt z')++ij (z'::r'))=.inr ts1':=by
      unfold spP
      split
      ·exact e2
      ·exact e1
     generalize spP (k,t) (kt z')++ij (z'::r')=X at *
     have htk:=w5 (ef g 0) X ⟨fn.1,fn.2.1,λ h3=>by
      obtain ⟨p,ep,j⟩:=(uo f).1 _ _ _ (w2.2.2.1 h3)
      have:t=p:=List.append_cancel_right ep
      subst this
      exact j g X O,fn.2.2⟩
     have eb:ic (Wd k t++X)=true:=by
      rw [ea,List.cons_append,iJ]
      by_cases h4:k=4
      ·have h5:=fn.2.2 h4
       have h6:t=a::w:=by rw [← ea]; unfold Wd; rw [if_neg O]
       rw [h6,List.cons_append] at h5
       rw [h5]; simp
      ·rw [a6 h4]; rfl
     refine ⟨(k,t,(Wd k t++X).length)::ts1',.cons ⟨Z,Z⟩ f2,?_⟩
     rw [gI]
     have esk:d7 true (Wd k t++X)=Wd k t++X:=by rw [ea,List.cons_append,Dr a1 a2]
     rw [esk]
     generalize Wd k t++X=Y0z at *
     cases Y0z with
     | nil=>rw [ic] at eb; cases eb
     | cons y Y0z=>rw [jk,if_neg (by rw [eb]; simp),if_neg hc,htk,jR,eX]
theorem tj {α β:Type} [Inhabited β] (f:α→β)(d:List α)(p:α)(r:List α):lat ((d++p::r).map f) (d.length:Int)=f p:=by
 rw [qw,List.getD_eq_getElem?_getD]
 simp
theorem uJ {s:Bytes}{z:Tk}{f:Bytes}(hf:f.length+(wdP z).length≤10000000000):Ev2 (λ _ _=>if (tkS s z).fKind=3 then
   ck (([34]:Bytes).length+((tkS s z).fText).length≤9223372036854775807) <|
   ck ((([34]:Bytes)++((tkS s z).fText)).length+([34]:Bytes).length≤9223372036854775807) <|
   (bJ (aJ.mk f) ((([34]:Bytes)++((tkS s z).fText))++([34]:Bytes))).bind λ r41 =>
   some r41.2.2.fbuf
  else
   (bJ (aJ.mk f) ((tkS s z).fText)).bind λ r43 =>
   some r43.2.2.fbuf) (·=f++wdP z):=by
 have e1:(tkS s z).fKind=z.1:=rfl
 have e2:(tkS s z).fText=z.2.1:=rfl
 rw [e1,e2]
 unfold wdP Wd at hf ⊢
 refine aK (λ h=>?_) (λ h=>?_)
 ·rw [if_pos h] at hf ⊢
  simp only [List.length_cons,List.length_append,List.length_nil] at hf
  refine av (by simp only [List.length_cons,List.length_nil]; omega) (av (by simp only [List.length_cons,List.length_append,List.length_nil]; omega) (am _ (ao (wstr f _ (by simp only [List.length_cons,List.length_append,List.length_nil]; omega)) Z) (ab Z)))
 ·rw [if_neg h] at hf ⊢
  exact am _ (ao (wstr f _ O) Z) (ab Z)
theorem A4 {s:Bytes}:∀ (r:List Tk) (p:Tk) (d:List Tk) (f:Bytes),(d++p::r).length≤1000000000→f.length+(pU p r).length≤1000000000→Ev2 (λ _ m=>dd ((d++p::r).map (tkS s)) m ((d.length+1:Nat):Int) f) (·=f++pU p r)
 | [],p,d,f,hl,hf=>by
  refine aZ ?_
  simp only [dd]
  exact ag G (ab (by show f=f++[]; simp))
 | z::r,p,d,f,hl,hf=>by
  have e0:d++p::z::r=(d++[p])++z::r:=by simp
  have hd:(d++[p]).length=d.length+1:=by simp
  have el:=tj (tkS s) (d++[p]) z r
  have ep:=tj (tkS s) d p (z::r)
  rw [← e0,hd] at el
  have hll:((d++p::z::r).map (tkS s)).length=d.length+r.length+2:=by simp; omega
  have hl2:d.length+r.length+2≤1000000000:=by rw [List.length_map] at hll; omega
  have ht:pU p (z::r)=spP (kt p) (kt z)++(wdP z++pU z r):=rfl
  rw [ht,List.length_append,List.length_append] at hf
  have ei:((d.length+1:Nat):Int) - 1=(d.length:Int):=by omega
  refine aZ ?_
  simp only [dd,el,ei,ep]
  refine ai O (am (f++spP (kt p) (kt z)++wdP z) (av O (am (f++spP (kt p) (kt z)) ?_ (uJ (by rw [List.length_append]; omega)))) (av (aI O O) ?_))
  ·refine am (apP (kt p) (kt z)) (ai O (av (aI O O) (av O (am _ (ao (apart_eq _ _) Z) (ab Z))))) ?_
   unfold spP
   cases apP (kt p) (kt z)
   ·exact ag G (ab G)
   ·exact ai Z (am _ (ao (FY f 32 O) Z) (ab Z))
  ·have:=A4 (s:=s) r z (d++[p]) (f++spP (kt p) (kt z)++wdP z) (by rw [← e0]; exact hl) (by rw [List.length_append,List.length_append]; omega)
   rw [← e0,hd] at this
   refine cn this ?_
   rintro _ rfl
   rw [ht]; simp
theorem yC {s:Bytes}{z:Tk}{r:List Tk}(hl:(z::r).length≤1000000000)(hf:(ij (z::r)).length≤1000000000):Ev2 (λ n _=>iE n ((z::r).map (tkS s))) (·=ij (z::r)):=by
 have hfm:ij (z::r)=wdP z++pU z r:=rfl
 rw [hfm,List.length_append] at hf
 simp only [iE]
 refine am (ij (z::r)) (bT (f:=λ _ m=>dd ((z::r).map (tkS s)) m 0 []) (aZ ?_)) (am _ (ao (bstr _ (by rw [hfm,List.length_append]; omega)) Z) (ab Z))
 have el:=tj (tkS s) [] z r
 simp only [List.nil_append,List.length_nil] at el
 have el':lat ((z::r).map (tkS s)) 0=tkS s z:=el
 have hll:((z::r).map (tkS s)).length=r.length+1:=by simp
 have hl2:r.length+1≤1000000000:=hl
 simp only [dd,el']
 refine ai O (am ([]++wdP z) (av O (am [] (am false (ag (by decide) (ab Z)) (ag (by decide) (ab Z))) (uJ (by simp only [List.length_nil]; omega)))) (av (aI (by decide) (by decide)) ?_))
 exact A4 (s:=s) r z [] _ hl (by simp only [List.nil_append]; omega)
end Go.Ab.R06
end
